/-
  lazy: the plain law: a fetch that goes with a state; what is left of it; each piece that comes.
-/
import Derived.Test.YtlnokohmmhmoaaaLTake
import Derived.Test.YtlnokohmmhmoaaaLAsk3
namespace Go.Proofs.Ytlnokohmmhmoaaa
open Go.RowKit
set_option linter.unusedSimpArgs false

/-- A document of the fetch goes with the state's. -/
structure Fit (x : Pt) (d : Dt) : Prop where
  doc : d.doc = x.doc
  rev : d.rev = x.rev
  turn : d.turn = x.turn
  full : d.all = true → d.bs = x.bs
  part : d.all = false → d.bs = x.bs.take d.bs.length ∧ (d.bs.length < x.bs.length ∨ d.bs.length = 0) ∧ (d.total = -1 ∨ d.total = (x.bs.length : Int))
def need (z : Pt × Dt) : Nat := if z.2.all then 0 else max ((z.1.bs.length - z.2.bs.length + 63) / 64) 1
def needs (zs : List (Pt × Dt)) : Nat := (zs.map need).sum
def pieceB (x : Pt) (off : Nat) : List Nat := (x.bs.drop off).take 64
theorem pieceB_len (x : Pt) (off : Nat) : (pieceB x off).length = min 64 (x.bs.length - off) := by simp [pieceB]
theorem fit_len {x : Pt} {d : Dt} (h : Fit x d) : d.bs.length ≤ x.bs.length := by
  by_cases ha : d.all = true
  · rw [h.full ha]; exact Nat.le_refl _
  · have := (h.part (by simpa using ha)).2.1
    omega
theorem fit_good {x : Pt} {d : Dt} (h : Fit x d) (ha : d.all = false) : badD d (d.bs.length : Int) (x.bs.length : Int) (pieceB x d.bs.length).length = false := by
  have hl := fit_len h
  have hp := h.part ha
  have hn := pieceB_len x d.bs.length
  generalize (pieceB x d.bs.length).length = n at hn ⊢
  unfold badD
  have e1 : decide ((d.bs.length : Int) ≠ (d.bs.length : Int)) = false := by simp
  have e2 : decide ((x.bs.length : Int) < (d.bs.length : Int) + (n : Int)) = false := by simp; omega
  have e3 : (decide (0 ≤ d.total) && decide (d.total ≠ (x.bs.length : Int))) = false := by
    rcases hp.2.2 with h | h
    · rw [h]; rfl
    · rw [h]; simp
  have e4 : (decide (n = 0) && decide ((d.bs.length : Int) + (n : Int) < (x.bs.length : Int))) = false := by
    by_cases hz : n = 0
    · have : ¬ ((d.bs.length : Int) + (n : Int) < (x.bs.length : Int)) := by omega
      simp [this]
    · simp [hz]
  rw [e1, e2, e3, e4]
  rfl
theorem fit_bad {d : Dt} {off tot : Int} {n : Nat} (h : badD d off tot n = false) : off = (d.bs.length : Int) := by
  unfold badD at h
  simp only [Bool.or_eq_false_iff, decide_eq_false_iff_not, Decidable.not_not] at h
  exact h.1.1.1
theorem take_all {x : Pt} {d : Dt} (hl : d.bs.length ≤ x.bs.length) : (takeD d (pieceB x d.bs.length) (x.bs.length : Int)).all = decide (x.bs.length ≤ d.bs.length + 64) := by
  have hn := pieceB_len x d.bs.length
  show decide (_ = _) = _
  apply decide_eq_decide.2
  omega
theorem take_fit {x : Pt} {d : Dt} (h : Fit x d) (ha : d.all = false) : Fit x (takeD d (pieceB x d.bs.length) (x.bs.length : Int)) := by
  have hl := fit_len h
  have hp := h.part ha
  have hb : d.bs ++ pieceB x d.bs.length = x.bs.take (d.bs.length + 64) := by
    rw [List.take_add]
    conv => lhs; lhs; rw [hp.1]
    rfl
  have hlen : (x.bs.take (d.bs.length + 64)).length = min (d.bs.length + 64) x.bs.length := List.length_take
  refine ⟨h.doc, h.rev, h.turn, fun hall => ?_, fun hall => ?_⟩
  · rw [take_all hl] at hall
    show d.bs ++ _ = _
    rw [hb]
    exact List.take_of_length_le (by simpa using hall)
  · rw [take_all hl] at hall
    have hall : ¬ x.bs.length ≤ d.bs.length + 64 := by simpa using hall
    have e : (takeD d (pieceB x d.bs.length) (x.bs.length : Int)).bs = x.bs.take (d.bs.length + 64) := hb
    rw [e, hlen, Nat.min_eq_left (by omega)]
    exact ⟨rfl, .inl (by omega), .inr rfl⟩
theorem take_need {x : Pt} {d : Dt} (h : Fit x d) (ha : d.all = false) : need (x, takeD d (pieceB x d.bs.length) (x.bs.length : Int)) + 1 = need (x, d) := by
  have hl := fit_len h
  have hp := h.part ha
  have hlen : (takeD d (pieceB x d.bs.length) (x.bs.length : Int)).bs.length = d.bs.length + min 64 (x.bs.length - d.bs.length) := by
    show (d.bs ++ _).length = _
    rw [List.length_append, pieceB_len]
  unfold need
  simp only [take_all hl, hlen, ha]
  by_cases hc : x.bs.length ≤ d.bs.length + 64
  · simp only [hc, decide_true, if_true, Bool.false_eq_true, if_false]
    omega
  · simp only [hc, decide_false, Bool.false_eq_true, if_false]
    omega
theorem needs_set {zs : List (Pt × Dt)} {i : Nat} {x : Pt} {d d' : Dt} (hz : zs[i]? = some (x, d)) (h : need (x, d') + 1 = need (x, d)) : needs (zs.set i (x, d')) + 1 = needs zs := by
  unfold needs
  induction zs generalizing i with
  | nil => simp at hz
  | cons z zs ih =>
    cases i with
    | zero =>
      simp at hz
      subst hz
      simp only [List.set_cons_zero, List.map_cons, List.sum_cons]
      omega
    | succ i =>
      simp only [List.getElem?_cons_succ] at hz
      simp only [List.set_cons_succ, List.map_cons, List.sum_cons]
      have := ih hz
      omega
theorem needs_zero {zs : List (Pt × Dt)} (h : ∀ z ∈ zs, z.2.all = true) : needs zs = 0 := by
  unfold needs
  induction zs with
  | nil => rfl
  | cons z zs ih =>
    rw [List.map_cons, List.sum_cons, ih fun y hy => h y (List.mem_cons_of_mem _ hy)]
    unfold need
    rw [h z (List.mem_cons_self ..)]
    rfl
theorem needs_le {zs : List (Pt × Dt)} {k : Nat} (h : ∀ z ∈ zs, need z ≤ k) : needs zs ≤ zs.length * k := by
  unfold needs
  induction zs with
  | nil => simp
  | cons z zs ih =>
    rw [List.map_cons, List.sum_cons, List.length_cons, Nat.succ_mul]
    have := ih fun y hy => h y (List.mem_cons_of_mem _ hy)
    have := h z (List.mem_cons_self ..)
    omega
def Numbered (ps : List Pt) : Prop := ∀ (i : Nat) (x : Pt), ps[i]? = some x → x.doc = i + 1
theorem Numbered.rises {ps : List Pt} (h : Numbered ps) : Rises ps := fun i y x hy hx => by
  rw [h i y hy, h (i + 1) x hx]
  omega
/-- A fetch with a plan, of a state at node frm. -/
structure Goes (ps : List Pt) (frm : Int) (op : Nat) (rest : List Nat) (f : F) (zs : List (Pt × Dt)) : Prop where
  frm : f.frm = frm
  op : f.op = op
  rest : f.rest = rest
  ps : zs.map (·.1) = ps
  ds : zs.map (·.2) = f.docs
  fit : ∀ z ∈ zs, Fit z.1 z.2
theorem set_self {α : Type} : ∀ {l : List α} {i : Nat} {x : α}, l[i]? = some x → l.set i x = l
  | [], i, x, h => by simp at h
  | a :: l, 0, x, h => by simp at h; subst h; rfl
  | a :: l, i + 1, x, h => by
    rw [List.set_cons_succ, set_self (by simpa using h)]
section
variable {ps : List Pt} {frm : Int} {op : Nat} {rest : List Nat} {f : F} {zs : List (Pt × Dt)}
theorem Goes.at (h : Goes ps frm op rest f zs) {i : Nat} {d : Dt} (hd : f.docs[i]? = some d) : ∃ x, ps[i]? = some x ∧ zs[i]? = some (x, d) ∧ Fit x d := by
  rw [← h.ds, List.getElem?_map] at hd
  cases hz : zs[i]? with
  | none => rw [hz] at hd; cases hd
  | some z =>
    rw [hz] at hd
    simp only [Option.map_some, Option.some.injEq] at hd
    subst hd
    exact ⟨z.1, by rw [← h.ps, List.getElem?_map, hz]; rfl, rfl, h.fit z (List.mem_of_getElem? hz)⟩
theorem Goes.take (h : Goes ps frm op rest f zs) {i : Nat} {x : Pt} {d : Dt} (hz : zs[i]? = some (x, d)) (ha : d.all = false) :
    Goes ps frm op rest (takeF f i d (pieceB x d.bs.length) (x.bs.length : Int)) (zs.set i (x, takeD d (pieceB x d.bs.length) (x.bs.length : Int))) ∧ needs (zs.set i (x, takeD d (pieceB x d.bs.length) (x.bs.length : Int))) + 1 = needs zs := by
  have hf := h.fit _ (List.mem_of_getElem? hz)
  have hlt := (List.getElem?_eq_some_iff.1 hz).1
  refine ⟨⟨h.frm, h.op, h.rest, ?_, ?_, fun z hm => ?_⟩, needs_set hz (take_need hf ha)⟩
  · have hx : ps[i]? = some x := by rw [← h.ps, List.getElem?_map, hz]; rfl
    rw [List.map_set, h.ps]
    exact set_self hx
  · rw [List.map_set, h.ds]
    rfl
  · rcases List.mem_or_eq_of_mem_set hm with hm | rfl
    · exact h.fit z hm
    · exact take_fit hf ha
end
end Go.Proofs.Ytlnokohmmhmoaaa

