/-
  lazy: the plain law, on: what is at hand; a plan; the places; the end.
-/
import Derived.Test.YtlnokohmmhmoaaaLMsg
namespace Go.Proofs.Ytlnokohmmhmoaaa
open Go.RowKit
set_option linter.unusedSimpArgs false

theorem handFrom_some {d t : Nat} {b : List Nat} : ∀ (h : List Pt) (r : Option (List Nat)), h.foldl (fun r e => if e.doc = d ∧ e.turn = t then some e.bs else r) r = some b → r = some b ∨ ∃ e ∈ h, e.doc = d ∧ e.turn = t ∧ e.bs = b
  | [], r, h => .inl h
  | e :: l, r, h => by
    rw [List.foldl_cons] at h
    rcases handFrom_some l _ h with h1 | ⟨y, hy, h1⟩
    · split at h1
      · rename_i hc
        injection h1 with h1
        exact .inr ⟨e, List.mem_cons_self .., hc.1, hc.2, h1⟩
      · exact .inl h1
    · exact .inr ⟨y, List.mem_cons_of_mem _ hy, h1⟩
theorem handOf_some {h : List Pt} {d t : Nat} {b : List Nat} (hh : handOf h d t = some b) : ∃ e ∈ h, e.doc = d ∧ e.turn = t ∧ e.bs = b := by
  rcases handFrom_some h none hh with h1 | h1
  · cases h1
  · exact h1
theorem handFrom_is {d t : Nat} : ∀ (h : List Pt) (r : Option (List Nat)), (r.isSome = true ∨ ∃ e ∈ h, e.doc = d ∧ e.turn = t) → (h.foldl (fun r e => if e.doc = d ∧ e.turn = t then some e.bs else r) r).isSome = true
  | [], r, h => by
    rcases h with h | ⟨e, he, -⟩
    · exact h
    · cases he
  | e :: l, r, h => by
    rw [List.foldl_cons]
    refine handFrom_is l _ ?_
    by_cases hc : e.doc = d ∧ e.turn = t
    · rw [if_pos hc]; exact .inl rfl
    · rw [if_neg hc]
      rcases h with h | ⟨y, hy, h1⟩
      · exact .inl h
      · rcases List.mem_cons.1 hy with rfl | hy
        · exact absurd h1 hc
        · exact .inr ⟨y, hy, h1⟩
theorem handOf_is {h : List Pt} {d t : Nat} {e : Pt} (he : e ∈ h) (hd : e.doc = d) (ht : e.turn = t) : (handOf h d t).isSome = true := handFrom_is h none (.inr ⟨e, he, hd, ht⟩)
/-- What is at hand of a state's document is that document's. -/
def HandOk (own ps : List Pt) : Prop := ∀ x ∈ ps, ∀ b, handOf own x.doc x.turn = some b → b = x.bs
theorem plan_fit {own : List Pt} {x : Pt} (h : ∀ b, handOf own x.doc x.turn = some b → b = x.bs) : Fit x (planD own (dcOf x)) := by
  refine ⟨rfl, rfl, rfl, fun ha => ?_, fun ha => ?_⟩
  · show (handOf own x.doc x.turn).getD [] = x.bs
    have ha : (handOf own x.doc x.turn).isSome = true := ha
    cases hh : handOf own x.doc x.turn with
    | none => rw [hh] at ha; cases ha
    | some b => exact h b hh
  · have ha : (handOf own x.doc x.turn).isSome = false := ha
    have e : (planD own (dcOf x)).bs = [] := by
      show (handOf own x.doc x.turn).getD [] = []
      cases hh : handOf own x.doc x.turn with
      | none => rfl
      | some b => rw [hh] at ha; cases ha
    rw [e]
    exact ⟨rfl, .inr rfl, .inl rfl⟩
def planZ (own ps : List Pt) : List (Pt × Dt) := ps.map fun x => (x, planD own (dcOf x))
theorem goes_plan {ps : List Pt} {f : F} (frm : Int) (op : Nat) (rest : List Nat) (h : HandOk f.hand ps) : Goes ps frm op rest (planF f frm op rest (ps.map dcOf)) (planZ f.hand ps) := by
  refine ⟨rfl, rfl, rfl, ?_, ?_, fun z hz => ?_⟩
  · unfold planZ; rw [List.map_map]; exact List.map_id ps
  · show _ = (ps.map dcOf).map (planD f.hand)
    simp [planZ]
  · obtain ⟨x, hx, rfl⟩ := List.mem_map.1 hz
    exact plan_fit (h x hx)
theorem idxI_inv {α : Type} {f : α → Bool} {l : List α} {i : Nat} (h : idxI f l = (i : Int)) : ∃ x, l[i]? = some x ∧ f x = true := by
  unfold idxI at h
  cases hh : l.findIdx? f with
  | none => rw [hh] at h; simp only at h; omega
  | some j =>
    rw [hh] at h
    simp only at h
    obtain rfl : j = i := by omega
    obtain ⟨hj, h1, -⟩ := List.findIdx?_eq_some_iff_getElem.1 hh
    exact ⟨_, List.getElem?_eq_getElem hj, h1⟩
theorem doneF_all {f : F} (h : doneF f = true) : 0 ≤ f.frm ∧ ∀ d ∈ f.docs, d.all = true := by
  unfold doneF at h
  simp only [Bool.and_eq_true, decide_eq_true_eq, List.all_eq_true] at h
  exact h
theorem doneF_neg {f : F} (h : f.frm < 0) : doneF f = false := by
  unfold doneF
  have : decide (0 ≤ f.frm) = false := by simp; omega
  rw [this]; rfl
section
variable {ps : List Pt} {frm : Int} {op : Nat} {rest : List Nat} {f : F} {zs : List (Pt × Dt)}
theorem Goes.len (h : Goes ps frm op rest f zs) : f.docs.length = ps.length := by rw [← h.ds, ← h.ps, List.length_map, List.length_map]
theorem Goes.atDoc (h : Goes ps frm op rest f zs) (hn : Numbered ps) {i : Nat} {d : Dt} (hd : f.docs[i]? = some d) : d.doc = i + 1 := by
  obtain ⟨x, h1, h2, h3⟩ := h.at hd
  rw [h3.doc]; exact hn i x h1
/-- The place of a document that is not all there. -/
theorem Goes.place (h : Goes ps frm op rest f zs) (hn : Numbered ps) {i : Nat} {d : Dt} (hd : f.docs[i]? = some d) (ha : d.all = false) : idxI (fun e : Dt => decide (e.doc = i + 1) && !e.all) f.docs = (i : Int) := by
  refine idxI_hit hd (by rw [h.atDoc hn hd, ha]; simp) (fun y hy => ?_)
  obtain ⟨j, hj⟩ := List.getElem?_of_mem hy
  rw [List.getElem?_take] at hj
  split at hj
  · have := h.atDoc hn hj
    have e : decide (y.doc = i + 1) = false := by simp; omega
    rw [e]; rfl
  · cases hj
theorem Goes.noplace (h : Goes ps frm op rest f zs) (hn : Numbered ps) {i : Nat} {d : Dt} (hd : f.docs[i]? = some d) (ha : d.all = true) : idxI (fun e : Dt => decide (e.doc = i + 1) && !e.all) f.docs = -1 := by
  refine idxI_none (fun y hy => ?_)
  obtain ⟨j, hj⟩ := List.getElem?_of_mem hy
  have := h.atDoc hn hj
  by_cases hji : j = i
  · subst hji
    rw [hd] at hj
    injection hj with hj
    subst hj
    rw [ha]; simp
  · have e : decide (y.doc = i + 1) = false := by simp; omega
    rw [e]; rfl
theorem Goes.doneNeeds (h : Goes ps frm op rest f zs) (hd : doneF f = true) : needs zs = 0 := by
  refine needs_zero (fun z hz => (doneF_all hd).2 _ ?_)
  rw [← h.ds]
  exact List.mem_map_of_mem hz
theorem Goes.end (h : Goes ps frm op rest f zs) (hd : doneF f = true) : f.docs.map ptOf = ps := by
  rw [← h.ds, ← h.ps, List.map_map]
  refine List.map_congr_left (fun z hz => ?_)
  have hf := h.fit z hz
  have ha : z.2.all = true := (doneF_all hd).2 _ (by rw [← h.ds]; exact List.mem_map_of_mem hz)
  obtain ⟨x, d⟩ := z
  have e := hf.full ha
  show ptOf d = x
  simp only at e
  unfold ptOf
  rw [hf.doc, hf.rev, hf.turn, e]
/-- What is asked does not turn how far it is. -/
theorem Goes.same (h : Goes ps frm op rest f zs) {g : F} (h1 : g.frm = f.frm) (h2 : g.op = f.op) (h3 : g.rest = f.rest) (h4 : g.docs = f.docs) : Goes ps frm op rest g zs := ⟨h1.trans h.frm, h2.trans h.op, h3.trans h.rest, h.ps, h.ds.trans h4.symm, h.fit⟩
theorem Goes.bsle (h : Goes ps frm op rest f zs) {k : Nat} (hp : ∀ x ∈ ps, x.bs.length ≤ k) : ∀ d ∈ f.docs, d.bs.length ≤ k := by
  intro d hd
  obtain ⟨i, hi⟩ := List.getElem?_of_mem hd
  obtain ⟨x, h1, -, h3⟩ := h.at hi
  exact Nat.le_trans (fit_len h3) (hp x (List.mem_of_getElem? h1))
theorem Goes.needs5 (h : Goes ps frm op rest f zs) (hl : ps.length ≤ 20) (hp : ∀ x ∈ ps, x.bs.length ≤ 300) : needs zs ≤ 100 := by
  have h1 : zs.length = ps.length := by rw [← h.ps, List.length_map]
  have h2 := needs_le (zs := zs) (k := 5) (fun z hz => by
    have := hp z.1 (by rw [← h.ps]; exact List.mem_map_of_mem hz)
    unfold need
    split <;> omega)
  have h3 : zs.length * 5 ≤ 20 * 5 := Nat.mul_le_mul_right 5 (by omega)
  omega
end
theorem askF_fresh {f : F} (now : Nat) (hf : f.fresh = true) (hv : f.vain = 0) : askF f now = { f with now := max f.now now, asked := max f.now now, fresh := false } := by
  have h1 : vainF f = 0 := by unfold vainF; rw [hf, if_pos rfl, hv]
  have h2 : resetF f = false := by unfold resetF; rw [h1]; rfl
  unfold askF
  rw [h2, h1, if_neg (by decide)]
  obtain ⟨a, b, c, d, e, f1, g, h, i, j, k⟩ := f
  simp only at hv
  subst hv
  rfl
end Go.Proofs.Ytlnokohmmhmoaaa

