/-
  edit, the plain law of EditBack: the units of a row's runs are the row; no run follows the one ahead. No program in sight.
-/
import Derived.Test.YtfpbmpgdpnpdjaaRunsM
namespace Go.Proofs.Ytfpbmpgdpnpdjaa
open Go.RowKit

def mayU (u : U) : Bool := if u.k = 0 then decide (u.p = 0) && decide (u.c = 0) else if u.k = 1 ∨ u.k = 2 then decide (0 ≤ u.p) && mayI u.c else false
/-- A place is an int. -/
def Placed (u : U) : Prop := -9223372036854775808 ≤ u.p ∧ u.p ≤ 9223372036854775807
def rowOf (rs : List R) : List U := rs.flatMap fun r => unitsOf r.k r.p r.cl r.rq r.cs
theorem rowOf_app (a b : List R) : rowOf (a ++ b) = rowOf a ++ rowOf b := by simp [rowOf]
theorem rowOf_one (r : R) : rowOf [r] = unitsOf r.k r.p r.cl r.rq r.cs := by simp [rowOf]
theorem unitsOf_app (k p cl rq : Int) (cs : List Int) (c : Int) : unitsOf k p cl rq (cs ++ [c]) = unitsOf k p cl rq cs ++ [mkU k p cl rq cs.length c] := by
  unfold unitsOf
  rw [List.mapIdx_append]
  simp
theorem runsOf_app (us : List U) (u : U) : runsOf (us ++ [u]) = addU (runsOf us) u := by simp [runsOf]
theorem wrap_in {x : Int} (h : -9223372036854775808 ≤ x) (h2 : x ≤ 9223372036854775807) : wrap64 x = x := by
  unfold wrap64; omega
theorem wrap_zero : wrap64 0 = 0 := by unfold wrap64; omega
theorem mk_new {u : U} (hm : mayU u = true) (hp : Placed u) : mkU u.k u.p u.cl u.rq 0 u.c = u := by
  obtain ⟨k, p, c, cl, rq⟩ := u
  simp only [mayU, Placed] at hm hp
  unfold mkU
  by_cases h : k = 0
  · subst h
    simp at hm
    simp [hm.1, hm.2]
  · rw [if_neg h]
    rw [show ((0 : Nat) : Int) = 0 from rfl, Int.zero_mul, wrap_zero, Int.add_zero, wrap_in hp.1 hp.2]
theorem row_back : ∀ (us : List U), (∀ u ∈ us, mayU u = true ∧ Placed u) → rowOf (runsOf us) = us := by
  suffices h : ∀ (n : Nat) (us : List U), us.length = n → (∀ u ∈ us, mayU u = true ∧ Placed u) → rowOf (runsOf us) = us from fun us hu => h _ us rfl hu
  intro n
  induction n with
  | zero =>
    intro us hl _
    obtain rfl := List.eq_nil_of_length_eq_zero hl
    rfl
  | succ n ih =>
    intro us hl hu
    rcases List.eq_nil_or_concat us with rfl | ⟨q, u, rfl⟩
    · simp at hl
    rw [List.concat_eq_append] at hl hu ⊢
    have hq := ih q (by simpa using hl) (fun x hx => hu x (by simp [hx]))
    have hx := hu u (by simp)
    rw [runsOf_app]
    cases hg : goes (runsOf q) u with
    | false =>
      rw [addU_new hg, rowOf_app, hq, rowOf_one]
      congr 1
      show [mkU u.k u.p u.cl u.rq 0 u.c] = _
      rw [mk_new hx.1 hx.2]
    | true =>
      rcases List.eq_nil_or_concat (runsOf q) with h0 | ⟨rs, r, h0⟩
      · rw [h0] at hg; cases hg
      rw [List.concat_eq_append] at h0
      rw [h0] at hg hq ⊢
      rw [rowOf_app, rowOf_one] at hq
      rw [addU_on hg, rowOf_app, rowOf_one]
      simp only
      rw [unitsOf_app, ← List.append_assoc, hq]
      congr 1
      rw [goes_snoc] at hg
      simp only [follows, Bool.and_eq_true, Bool.not_eq_true', decide_eq_false_iff_not, decide_eq_true_eq] at hg
      obtain ⟨h1, ⟨h2, h3, h4⟩, h5⟩ := hg
      unfold mkU
      rw [h2, if_neg h1, ← h5, h3, h4]
/-- No run follows the one ahead; none is empty; a Nop stands alone. -/
structure Sep (rs : List R) : Prop where
  one : ∀ (i : Nat) (r : R), rs[i]? = some r → r.cs.length ≠ 0 ∧ (r.k = 0 → r.cs.length = 1) ∧ (r.k = 0 ∨ r.k = 1 ∨ r.k = 2)
  two : ∀ (i : Nat) (a b : R), rs[i]? = some a → rs[i + 1]? = some b → a.k = b.k → a.cl = b.cl → a.rq = b.rq → b.k ≠ 0 → b.p ≠ wrap64 (a.p + wrap64 ((a.cs.length : Int) * stepI b.k))
theorem may_kind {u : U} (h : mayU u = true) : u.k = 0 ∨ u.k = 1 ∨ u.k = 2 := by
  unfold mayU at h
  by_cases h0 : u.k = 0
  · exact .inl h0
  · rw [if_neg h0] at h
    by_cases h1 : u.k = 1 ∨ u.k = 2
    · exact .inr h1
    · rw [if_neg h1] at h; cases h
theorem sep_back : ∀ (us : List U), (∀ u ∈ us, mayU u = true) → Sep (runsOf us) := by
  suffices h : ∀ (n : Nat) (us : List U), us.length = n → (∀ u ∈ us, mayU u = true) → Sep (runsOf us) from fun us hu => h _ us rfl hu
  intro n
  induction n with
  | zero =>
    intro us hl _
    obtain rfl := List.eq_nil_of_length_eq_zero hl
    exact ⟨fun i r h => by simp [runsOf] at h, fun i a b h => by simp [runsOf] at h⟩
  | succ n ih =>
    intro us hl hu
    rcases List.eq_nil_or_concat us with rfl | ⟨q, u, rfl⟩
    · simp at hl
    rw [List.concat_eq_append] at hl hu ⊢
    have hq := ih q (by simpa using hl) (fun x hx => hu x (by simp [hx]))
    have hx := may_kind (hu u (by simp))
    rw [runsOf_app]
    cases hg : goes (runsOf q) u with
    | false =>
      rw [addU_new hg]
      refine ⟨fun i r h => ?_, fun i a b ha hb => ?_⟩
      · rcases Nat.lt_trichotomy i (runsOf q).length with h1 | h1 | h1
        · rw [List.getElem?_append_left h1] at h; exact hq.one i r h
        · subst h1
          rw [List.getElem?_append_right (Nat.le_refl _)] at h
          simp at h; subst h
          exact ⟨by simp, by simp, hx⟩
        · rw [List.getElem?_append_right (by omega), List.getElem?_eq_none (by simp; omega)] at h; cases h
      · rcases Nat.lt_trichotomy (i + 1) (runsOf q).length with h1 | h1 | h1
        · rw [List.getElem?_append_left (by omega)] at ha
          rw [List.getElem?_append_left (by omega)] at hb
          exact hq.two i a b ha hb
        · rw [List.getElem?_append_left (by omega)] at ha
          rw [List.getElem?_append_right (by omega), h1, Nat.sub_self] at hb
          simp at hb; subst hb
          have hl : (runsOf q).getLast? = some a := by rw [List.getLast?_eq_getElem?, show (runsOf q).length - 1 = i by omega]; exact ha
          unfold goes at hg
          rw [hl] at hg
          simp only [follows] at hg
          intro h1 h2 h3 h4 h5
          simp only [newR] at h1 h2 h3 h4 h5
          rw [← h5] at hg
          simp [h1, h2, h3, h4] at hg
        · rw [List.getElem?_append_right (by omega), List.getElem?_eq_none (by simp; omega)] at hb; cases hb
    | true =>
      rcases List.eq_nil_or_concat (runsOf q) with h0 | ⟨rs, r, h0⟩
      · rw [h0] at hg; cases hg
      rw [List.concat_eq_append] at h0
      rw [h0] at hg hq ⊢
      rw [addU_on hg]
      rw [goes_snoc] at hg
      simp only [follows, Bool.and_eq_true, Bool.not_eq_true', decide_eq_false_iff_not, decide_eq_true_eq] at hg
      obtain ⟨h1, ⟨h2, h3, h4⟩, h5⟩ := hg
      refine ⟨fun i x h => ?_, fun i a b ha hb => ?_⟩
      · rcases Nat.lt_trichotomy i rs.length with h6 | h6 | h6
        · rw [List.getElem?_append_left h6] at h; exact hq.one i x (by rw [List.getElem?_append_left h6]; exact h)
        · subst h6
          rw [List.getElem?_append_right (Nat.le_refl _)] at h
          simp at h; subst h
          exact ⟨by simp, fun h => absurd (h2.symm.trans h) h1, by rw [← h2] at hx; exact hx⟩
        · rw [List.getElem?_append_right (by omega), List.getElem?_eq_none (by simp; omega)] at h; cases h
      · rcases Nat.lt_trichotomy (i + 1) rs.length with h6 | h6 | h6
        · rw [List.getElem?_append_left (by omega)] at ha hb
          exact hq.two i a b (by rw [List.getElem?_append_left (by omega)]; exact ha) (by rw [List.getElem?_append_left (by omega)]; exact hb)
        · rw [List.getElem?_append_left (by omega)] at ha
          rw [List.getElem?_append_right (by omega), h6, Nat.sub_self] at hb
          simp at hb; subst hb
          exact hq.two i a r (by rw [List.getElem?_append_left (by omega)]; exact ha) (by rw [List.getElem?_append_right (by omega), h6, Nat.sub_self]; rfl)
        · rw [List.getElem?_append_right (by omega), List.getElem?_eq_none (by simp; omega)] at hb; cases hb
end Go.Proofs.Ytfpbmpgdpnpdjaa

