/-
  lazy: the plain law of a fetch that loses messages: how long it takes at most.
-/
import Derived.Test.YtlnokohmmhmoaaaLServe
namespace Go.Proofs.Ytlnokohmmhmoaaa
open Go.RowKit
set_option linter.unusedSimpArgs false

theorem le_sum : ∀ {l : List Nat} {n : Nat}, n ∈ l → n ≤ l.sum
  | a :: l, n, h => by
    rw [List.sum_cons]
    rcases List.mem_cons.1 h with rfl | h
    · omega
    · have := le_sum h; omega
def nF (ps : List Pt) (f : F) : Nat := needs (ps.zip f.docs)
theorem Goes.zip {ps : List Pt} {frm : Int} {op : Nat} {rest : List Nat} {f : F} {zs : List (Pt × Dt)} (h : Goes ps frm op rest f zs) : zs = ps.zip f.docs := by
  have h1 := h.ps
  have h2 := h.ds
  rw [← h1, ← h2]
  clear h h1 h2
  induction zs with
  | nil => rfl
  | cons z zs ih => simp only [List.map_cons, List.zip_cons_cons]; rw [← ih]
/-- How many questions are still to come at most. -/
def todo (ps : List Pt) (f : F) (k : Nat) : Nat := if k < 60 then 162 - k else if f.fresh = true ∧ 0 ≤ f.frm then nF ps f else 101
def waitF (f : F) (now : Nat) : Nat := if f.fresh = true then 0 else f.asked + 4 - now
/-- How a fetch is at a time. -/
structure Wel (ps : List Pt) (q least : Nat) (hand : List Pt) (rest : List Nat) (now : Nat) (f : F) : Prop where
  me : f.me = 3
  lst : f.least = least
  hnd : f.hand = hand
  nowle : f.now ≤ now
  asked : f.asked ≤ f.now
  vain : f.vain ≤ now
  fv : f.fresh = true → f.vain = 0
  goes : (f.frm = -1 ∧ f.docs = []) ∨ ∃ zs, Goes ps 5 q rest f zs
section
variable {ps : List Pt} {q least now k : Nat} {hand : List Pt} {rest : List Nat} {f f' : F}
theorem Wel.start : Wel ps q least hand rest 0 (newF 3 least hand) := ⟨rfl, rfl, rfl, Nat.le_refl _, Nat.le_refl _, Nat.le_refl _, fun _ => rfl, .inl ⟨rfl, rfl⟩⟩
theorem Wel.later (h : Wel ps q least hand rest now f) {n : Nat} (hn : now ≤ n) : Wel ps q least hand rest n f := ⟨h.me, h.lst, h.hnd, Nat.le_trans h.nowle hn, h.asked, Nat.le_trans h.vain hn, h.fv, h.goes⟩
theorem Wel.zs (h : Wel ps q least hand rest now f) (h0 : 0 ≤ f.frm) : Goes ps 5 q rest f (ps.zip f.docs) ∧ f.frm = 5 := by
  rcases h.goes with ⟨h1, -⟩ | ⟨zs, h1⟩
  · omega
  · have := h1.zip
    subst this
    exact ⟨h1, h1.frm⟩
theorem Wel.neg (h : Wel ps q least hand rest now f) (h0 : f.frm < 0) : f.frm = -1 := by
  rcases h.goes with ⟨h1, -⟩ | ⟨zs, h1⟩
  · exact h1
  · have := h1.frm; omega
theorem Wel.len (h : Wel ps q least hand rest now f) : f.docs.length ≤ ps.length := by
  rcases h.goes with ⟨-, h1⟩ | ⟨zs, h1⟩
  · rw [h1]; exact Nat.zero_le _
  · rw [h1.len]; exact Nat.le_refl _
theorem Wel.wait (h : Wel ps q least hand rest now f) : Wel ps q least hand rest (now + 1) { f with now := max f.now now } :=
  ⟨h.me, h.lst, h.hnd, by show max f.now now ≤ _; have := h.nowle; omega, by show f.asked ≤ max f.now now; have := h.asked; omega, by show f.vain ≤ _; have := h.vain; omega, h.fv, h.goes.imp id (fun ⟨zs, hz⟩ => ⟨zs, hz.same rfl rfl rfl rfl⟩)⟩
theorem askF_asked : (askF f now).asked = max f.now now := by unfold askF; split <;> rfl
theorem askF_now : (askF f now).now = max f.now now := by unfold askF; split <;> rfl
theorem askF_fr : (askF f now).fresh = false := by unfold askF; split <;> rfl
theorem askF_me : (askF f now).me = f.me := by unfold askF; split <;> rfl
theorem askF_least : (askF f now).least = f.least := by unfold askF; split <;> rfl
theorem askF_hand : (askF f now).hand = f.hand := by unfold askF; split <;> rfl
theorem askF_vain : (askF f now).vain ≤ f.vain + 1 := by
  have h2 : vainF f ≤ f.vain + 1 := by unfold vainF; split <;> omega
  unfold askF
  split
  · exact Nat.zero_le _
  · exact h2
theorem askF_goes : ((askF f now).frm = -1 ∧ (askF f now).docs = []) ∨ ((askF f now).frm = f.frm ∧ (askF f now).op = f.op ∧ (askF f now).rest = f.rest ∧ (askF f now).docs = f.docs) := by
  unfold askF
  split
  · exact .inl ⟨rfl, rfl⟩
  · exact .inr ⟨rfl, rfl, rfl, rfl⟩
theorem Wel.ask (h : Wel ps q least hand rest now f) : Wel ps q least hand rest (now + 1) (askF f now) := by
  refine ⟨askF_me.trans h.me, askF_least.trans h.lst, askF_hand.trans h.hnd, ?_, ?_, ?_, fun e => ?_, ?_⟩
  · rw [askF_now]; have := h.nowle; omega
  · rw [askF_now, askF_asked]; exact Nat.le_refl _
  · have := askF_vain (f := f) (now := now); have := h.vain; omega
  · rw [askF_fr] at e; cases e
  · rcases askF_goes (f := f) (now := now) with h1 | ⟨h1, h2, h3, h4⟩
    · exact .inl h1
    · rcases h.goes with ⟨h5, h6⟩ | ⟨zs, h5⟩
      · exact .inl ⟨h1.trans h5, h4.trans h6⟩
      · exact .inr ⟨zs, h5.same h1 h2 h3 h4⟩
theorem Wel.plan (h : Wel ps q least hand rest now f) (hh : HandOk hand ps) : Wel ps q least hand rest now (planF f 5 q rest (ps.map dcOf)) :=
  ⟨h.me, h.lst, h.hnd, h.nowle, h.asked, Nat.zero_le _, fun _ => rfl, .inr ⟨_, goes_plan 5 q rest (by rw [h.hnd]; exact hh)⟩⟩
theorem Wel.take (h : Wel ps q least hand rest now f) (h0 : 0 ≤ f.frm) {i : Nat} {x : Pt} {d : Dt} (hz : (ps.zip f.docs)[i]? = some (x, d)) (ha : d.all = false) :
    Wel ps q least hand rest now (takeF f i d (pieceB x d.bs.length) x.bs.length) ∧ nF ps (takeF f i d (pieceB x d.bs.length) x.bs.length) + 1 = nF ps f := by
  obtain ⟨g1, g2⟩ := (h.zs h0).1.take hz ha
  refine ⟨⟨h.me, h.lst, h.hnd, h.nowle, h.asked, Nat.zero_le _, fun _ => rfl, .inr ⟨_, g1⟩⟩, ?_⟩
  have := g1.zip
  unfold nF
  rw [← this]
  exact g2
theorem Wel.n100 (h : Wel ps q least hand rest now f) (hg : GoodPs ps) (h0 : 0 ≤ f.frm) : nF ps f ≤ 100 := (h.zs h0).1.needs5 hg.len hg.bs
/-- What has come does not take it back. -/
def Pg (ps : List Pt) (f f' : F) : Prop := f' = f ∨ (f'.fresh = true ∧ 0 ≤ f'.frm ∧ (f.frm < 0 ∨ nF ps f' < nF ps f))
theorem Pg.refl : Pg ps f f := .inl rfl
theorem pg_plan (h0 : f.frm < 0) : Pg ps f (planF f 5 q rest (ps.map dcOf)) := .inr ⟨rfl, by show (0 : Int) ≤ 5; decide, .inl h0⟩
theorem Wel.pgTake (h : Wel ps q least hand rest now f) (h0 : 0 ≤ f.frm) {i : Nat} {x : Pt} {d : Dt} (hz : (ps.zip f.docs)[i]? = some (x, d)) (ha : d.all = false) : Pg ps f (takeF f i d (pieceB x d.bs.length) x.bs.length) := by
  have := (h.take h0 hz ha).2
  exact .inr ⟨rfl, h0, .inr (by omega)⟩
theorem Pg.trans {f'' : F} (h : Pg ps f f') (k : Pg ps f' f'') : Pg ps f f'' := by
  rcases k with rfl | ⟨k1, k2, k3⟩
  · exact h
  · rcases h with rfl | ⟨h1, h2, h3⟩
    · exact .inr ⟨k1, k2, k3⟩
    · refine .inr ⟨k1, k2, ?_⟩
      rcases h3 with h3 | h3
      · exact .inl h3
      · rcases k3 with k3 | k3
        · omega
        · exact .inr (by omega)
/-- All that a tick knows. -/
structure Sam (ps : List Pt) (q least : Nat) (hand : List Pt) (rest : List Nat) (now k : Nat) (f : F) : Prop where
  wel : Wel ps q least hand rest now f
  pot : 5 * todo ps f k + waitF f now + now ≤ 810
theorem Sam.start : Sam ps q least hand rest 0 0 (newF 3 least hand) := ⟨Wel.start, by unfold todo waitF; rw [if_pos (by decide)]; simp [newF]⟩
theorem Sam.wait (h : Sam ps q least hand rest now k f) (hu : dueF f now = false) : Sam ps q least hand rest (now + 1) k { f with now := max f.now now } := by
  refine ⟨h.wel.wait, ?_⟩
  have hp := h.pot
  unfold dueF at hu
  simp only [Bool.or_eq_false_iff, decide_eq_false_iff_not] at hu
  obtain ⟨h1, h2⟩ := hu
  have e1 : waitF f now = f.asked + 4 - now := by unfold waitF; rw [if_neg (by rw [h1]; decide)]
  have e2 : waitF { f with now := max f.now now } (now + 1) = f.asked + 4 - (now + 1) := by unfold waitF; rw [if_neg (by show ¬ f.fresh = true; rw [h1]; decide)]
  have e3 : todo ps { f with now := max f.now now } k = todo ps f k := rfl
  have := h.wel.nowle
  rw [e1] at hp
  rw [e2, e3]
  omega
theorem todo_pos (h : Sam ps q least hand rest now k f) (hd : doneF f = false) : 1 ≤ todo ps f k := by
  unfold todo
  split
  · omega
  · split
    · rename_i h1
      obtain ⟨h2, -⟩ := h.wel.zs h1.2
      unfold nF
      generalize hz : ps.zip f.docs = zs at h2
      have : ∃ z ∈ zs, z.2.all = false := by
        unfold doneF at hd
        rw [Bool.and_eq_false_iff] at hd
        rcases hd with hd | hd
        · simp at hd; omega
        · rw [List.all_eq_false] at hd
          obtain ⟨d, hd, ha⟩ := hd
          rw [← h2.ds] at hd
          obtain ⟨z, hz, rfl⟩ := List.mem_map.1 hd
          exact ⟨z, hz, by simpa using ha⟩
      obtain ⟨z, hz, ha⟩ := this
      have h3 : 1 ≤ need z := by unfold need; rw [ha]; simp only [Bool.false_eq_true, if_false]; omega
      obtain ⟨i, hi⟩ := List.getElem?_of_mem hz
      have h4 : need z ≤ needs zs := by
        unfold needs
        exact le_sum (List.mem_map_of_mem hz)
      omega
    · omega
/-- A tick that asks. -/
theorem Sam.next (hg : GoodPs ps) (h : Sam ps q least hand rest now k f) (hd : doneF f = false) {k' : Nat} {f' : F} (hw : Wel ps q least hand rest (now + 1) f') (ha : f'.asked ≤ now) (hk : k + 1 ≤ k') (hc : k < 60 ∨ (f'.fresh = true ∧ 0 ≤ f'.frm ∧ ((askF f now).frm < 0 ∨ nF ps f' < nF ps (askF f now)))) : Sam ps q least hand rest (now + 1) k' f' := by
  refine ⟨hw, ?_⟩
  have hp := h.pot
  have h1 := todo_pos h hd
  have hwt : waitF f' (now + 1) ≤ 3 := by unfold waitF; split <;> omega
  have ht : todo ps f' k' + 1 ≤ todo ps f k := by
    by_cases hk60 : k < 60
    · have e : todo ps f k = 162 - k := by unfold todo; rw [if_pos hk60]
      have e2 : todo ps f' k' ≤ 161 - k := by
        unfold todo
        split
        · omega
        · split
          · rename_i h2
            have := hw.n100 hg h2.2
            omega
          · omega
      omega
    · obtain ⟨h2, h3, h4⟩ : f'.fresh = true ∧ 0 ≤ f'.frm ∧ ((askF f now).frm < 0 ∨ nF ps f' < nF ps (askF f now)) := by
        rcases hc with hc | hc
        · exact absurd hc hk60
        · exact hc
      have e' : todo ps f' k' = nF ps f' := by unfold todo; rw [if_neg (by omega), if_pos ⟨h2, h3⟩]
      have h100 := hw.n100 hg h3
      rw [e']
      unfold todo
      rw [if_neg hk60]
      split
      · rename_i h5
        have h6 : askF f now = { f with now := max f.now now, asked := max f.now now, fresh := false } := askF_fresh now h5.1 (h.wel.fv h5.1)
        have h7 : (askF f now).frm = f.frm := by rw [h6]
        have h8 : nF ps (askF f now) = nF ps f := by rw [h6]; rfl
        rcases h4 with h4 | h4
        · have := h5.2; omega
        · omega
      · omega
  omega
theorem Sam.now810 (h : Sam ps q least hand rest now k f) : now ≤ 810 := by have := h.pot; omega
end
end Go.Proofs.Ytlnokohmmhmoaaa

