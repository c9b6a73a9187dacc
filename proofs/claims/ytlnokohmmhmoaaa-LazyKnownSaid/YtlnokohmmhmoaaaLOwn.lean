/-
  lazy: the plain law: which documents are at hand, by flags; how much is wanted.
-/
import Derived.Test.YtlnokohmmhmoaaaLServe
namespace Go.Proofs.Ytlnokohmmhmoaaa
open Go.RowKit
set_option linter.unusedSimpArgs false

theorem wpList_unguard {P : Program} {ops : Array Oper} {Q : Exit → Act → World → Prop} {o : Oper} {rest : List Oper} {a : Act} {w : World} (h : Region.wanted o (yielded ops a.tmps) = true) (k : wpList P ops Q ({ o with guard := none } :: rest) a w) : wpList P ops Q (o :: rest) a w := by
  have h2 : Region.wanted { o with guard := none } (yielded ops a.tmps) = true := rfl
  unfold wpList at k ⊢
  rw [if_pos h2] at k
  rw [if_pos h]
  exact k
def ownJ {α : Type} (g : Nat → Bool) (l : List α) : Nat → List α
  | 0 => []
  | j + 1 => match l[j]? with
    | some x => if g j then ownJ g l j ++ [x] else ownJ g l j
    | none => ownJ g l j
section
variable {α β : Type} {g : Nat → Bool} {l : List α}
theorem ownJ_yes {j : Nat} {x : α} (hx : l[j]? = some x) (hg : g j = true) : ownJ g l (j + 1) = ownJ g l j ++ [x] := by simp [ownJ, hx, hg]
theorem ownJ_no {j : Nat} {x : α} (hx : l[j]? = some x) (hg : g j = false) : ownJ g l (j + 1) = ownJ g l j := by simp [ownJ, hx, hg]
theorem ownJ_map (f : α → β) : ∀ j, (ownJ g l j).map f = ownJ g (l.map f) j
  | 0 => rfl
  | j + 1 => by
    cases hx : l[j]? with
    | none => simp [ownJ, hx, ownJ_map f j]
    | some x =>
      cases hg : g j <;> simp [ownJ, hx, hg, ownJ_map f j]
theorem ownJ_mem {x : α} : ∀ {j : Nat}, x ∈ ownJ g l j → ∃ i, i < j ∧ l[i]? = some x ∧ g i = true
  | 0, h => by cases h
  | j + 1, h => by
    cases hx : l[j]? with
    | none =>
      simp only [ownJ, hx] at h
      obtain ⟨i, h1, h2⟩ := ownJ_mem h
      exact ⟨i, by omega, h2⟩
    | some y =>
      cases hg : g j with
      | false =>
        rw [ownJ_no hx hg] at h
        obtain ⟨i, h1, h2⟩ := ownJ_mem h
        exact ⟨i, by omega, h2⟩
      | true =>
        rw [ownJ_yes hx hg] at h
        rcases List.mem_append.1 h with h | h
        · obtain ⟨i, h1, h2⟩ := ownJ_mem h
          exact ⟨i, by omega, h2⟩
        · simp only [List.mem_singleton] at h
          subst h
          exact ⟨j, by omega, hx, hg⟩
theorem ownJ_is {x : α} {i : Nat} (hx : l[i]? = some x) (hg : g i = true) : ∀ {j : Nat}, i < j → x ∈ ownJ g l j
  | 0, h => by omega
  | j + 1, h => by
    by_cases hij : i = j
    · subst hij
      rw [ownJ_yes hx hg]
      exact List.mem_append_right _ (List.mem_singleton.2 rfl)
    · have := ownJ_is hx hg (j := j) (by omega)
      cases hy : l[j]? with
      | none => simpa only [ownJ, hy] using this
      | some y =>
        cases hgj : g j with
        | false => rw [ownJ_no hy hgj]; exact this
        | true => rw [ownJ_yes hy hgj]; exact List.mem_append_left _ this
theorem ownJ_len : ∀ j, (ownJ g l j).length ≤ j
  | 0 => Nat.le_refl _
  | j + 1 => by
    have := ownJ_len j
    cases hx : l[j]? with
    | none => simp only [ownJ, hx]; omega
    | some x =>
      cases hg : g j with
      | false => rw [ownJ_no hx hg]; omega
      | true => rw [ownJ_yes hx hg, List.length_append]; simp; omega
end
theorem rises_snoc {a : List Pt} {x : Pt} (h : Rises a) (hx : ∀ y ∈ a, y.doc < x.doc) : Rises (a ++ [x]) := fun i y z hy hz => by
  by_cases hi : i + 1 < a.length
  · rw [List.getElem?_append_left (by omega)] at hy hz
    exact h i y z hy hz
  · have hl := (List.getElem?_eq_some_iff.1 hz).1
    simp at hl
    have e : i + 1 = a.length := by omega
    rw [e, List.getElem?_append_right (Nat.le_refl _)] at hz
    simp at hz
    subst hz
    rw [List.getElem?_append_left (by omega)] at hy
    exact hx y (List.mem_of_getElem? hy)
theorem ownJ_rises {g : Nat → Bool} {ps : List Pt} (hn : Numbered ps) : ∀ j, Rises (ownJ g ps j)
  | 0 => fun i y x h => by simp [ownJ] at h
  | j + 1 => by
    have ih := ownJ_rises (g := g) hn j
    cases hx : ps[j]? with
    | none => simpa only [ownJ, hx] using ih
    | some x =>
      cases hg : g j with
      | false => rw [ownJ_no hx hg]; exact ih
      | true =>
        rw [ownJ_yes hx hg]
        refine rises_snoc ih (fun y hy => ?_)
        obtain ⟨i, h1, h2, -⟩ := ownJ_mem hy
        rw [hn i y h2, hn j x hx]
        omega
theorem ownJ_doc {g : Nat → Bool} {ps : List Pt} (hn : Numbered ps) {i j : Nat} {x y : Pt} (hx : ps[i]? = some x) (hy : y ∈ ownJ g ps j) (hd : y.doc = x.doc) : y = x ∧ g i = true := by
  obtain ⟨k, h1, h2, h3⟩ := ownJ_mem hy
  have e1 := hn k y h2
  have e2 := hn i x hx
  obtain rfl : k = i := by omega
  rw [hx] at h2
  injection h2 with h2
  exact ⟨h2.symm, h3⟩
theorem ownJ_ok {g : Nat → Bool} {ps : List Pt} (hn : Numbered ps) (j : Nat) : HandOk (ownJ g ps j) ps := fun x hx b hb => by
  obtain ⟨i, hi⟩ := List.getElem?_of_mem hx
  obtain ⟨e, he, h1, h2, rfl⟩ := handOf_some hb
  rw [(ownJ_doc hn hi he h1).1]
def want1 (g : Nat → Bool) (i : Nat) (x : Pt) : Nat := if g i then 0 else max ((x.bs.length + 63) / 64) 1
def wantJ (g : Nat → Bool) (ps : List Pt) : Nat → Nat
  | 0 => 1
  | j + 1 => match ps[j]? with
    | some x => wantJ g ps j + want1 g j x
    | none => wantJ g ps j
theorem plan_need {g : Nat → Bool} {ps : List Pt} (hn : Numbered ps) {i n : Nat} {x : Pt} (hx : ps[i]? = some x) (hi : i < n) : need (x, planD (ownJ g ps n) (dcOf x)) = want1 g i x := by
  unfold need want1
  have e : (planD (ownJ g ps n) (dcOf x)).all = (handOf (ownJ g ps n) x.doc x.turn).isSome := rfl
  have e2 : (planD (ownJ g ps n) (dcOf x)).bs = (handOf (ownJ g ps n) x.doc x.turn).getD [] := rfl
  simp only [e, e2]
  cases hg : g i with
  | true => rw [if_pos (handOf_is (ownJ_is hx hg hi) rfl rfl), if_pos rfl]
  | false =>
    cases hh : handOf (ownJ g ps n) x.doc x.turn with
    | none => simp
    | some b =>
      obtain ⟨y, hy, h1, -⟩ := handOf_some hh
      have := (ownJ_doc hn hx hy h1).2
      rw [hg] at this
      cases this
theorem needs_app (a b : List (Pt × Dt)) : needs (a ++ b) = needs a + needs b := by simp [needs]
theorem wants (g : Nat → Bool) {ps : List Pt} (hn : Numbered ps) (n : Nat) : ∀ j, j ≤ ps.length → j ≤ n → needs (planZ (ownJ g ps n) (ps.take j)) + 1 = wantJ g ps j
  | 0, _, _ => by simp [planZ, needs, wantJ]
  | j + 1, h1, h2 => by
    obtain ⟨x, hx⟩ : ∃ x, ps[j]? = some x := ⟨_, List.getElem?_eq_getElem (by omega)⟩
    have ih := wants g hn n j (by omega) (by omega)
    have e : planZ (ownJ g ps n) (ps.take (j + 1)) = planZ (ownJ g ps n) (ps.take j) ++ [(x, planD (ownJ g ps n) (dcOf x))] := by
      unfold planZ
      rw [List.take_add_one, hx, List.map_append]
      rfl
    have e2 : wantJ g ps (j + 1) = wantJ g ps j + want1 g j x := by simp [wantJ, hx]
    have e3 : needs [(x, planD (ownJ g ps n) (dcOf x))] = want1 g j x := by
      rw [← plan_need hn hx (show j < n by omega)]
      simp [needs]
    rw [e, e2, needs_app, e3]
    omega
theorem wants_all {g : Nat → Bool} {ps : List Pt} (hn : Numbered ps) : needs (planZ (ownJ g ps ps.length) ps) + 1 = wantJ g ps ps.length := by
  have := wants g hn ps.length ps.length (Nat.le_refl _) (Nat.le_refl _)
  rwa [List.take_of_length_le (Nat.le_refl _)] at this
/-- None that is at hand is still asked for. -/
def NotOwn (own : List Pt) (zs : List (Pt × Dt)) : Prop := ∀ z ∈ zs, z.2.all = false → ∀ y ∈ own, y.doc ≠ z.1.doc
theorem notOwn_plan {g : Nat → Bool} {ps : List Pt} (hn : Numbered ps) : NotOwn (ownJ g ps ps.length) (planZ (ownJ g ps ps.length) ps) := fun z hz ha y hy hd => by
  obtain ⟨x, hx, rfl⟩ := List.mem_map.1 hz
  obtain ⟨i, hi⟩ := List.getElem?_of_mem hx
  have := (ownJ_doc hn hi hy hd).1
  subst this
  have e : (handOf (ownJ g ps ps.length) y.doc y.turn).isSome = false := ha
  rw [handOf_is hy rfl rfl] at e
  cases e
theorem NotOwn.set {own : List Pt} {zs : List (Pt × Dt)} (h : NotOwn own zs) {i : Nat} {x : Pt} {d d' : Dt} (hz : zs[i]? = some (x, d)) (ha : d.all = false) : NotOwn own (zs.set i (x, d')) := fun z hm ha2 y hy => by
  rcases List.mem_or_eq_of_mem_set hm with hm | rfl
  · exact h z hm ha2 y hy
  · exact h _ (List.mem_of_getElem? hz) ha y hy
theorem wantJ_le {g : Nat → Bool} {ps : List Pt} (hb : ∀ x ∈ ps, x.bs.length ≤ 300) : ∀ j, wantJ g ps j ≤ 1 + 5 * j
  | 0 => Nat.le_refl _
  | j + 1 => by
    have ih := wantJ_le (g := g) hb j
    cases hx : ps[j]? with
    | none => simp only [wantJ, hx]; omega
    | some x =>
      have := hb x (List.mem_of_getElem? hx)
      have : want1 g j x ≤ 5 := by unfold want1; split <;> omega
      simp only [wantJ, hx]
      omega
end Go.Proofs.Ytlnokohmmhmoaaa

