/-
  edit, the plain law of EditJoins: the runs of two rows, one behind the other.
-/
import Derived.Test.YtfpbmpgdpnpdjaaBackP
namespace Go.Proofs.Ytfpbmpgdpnpdjaa
open Go.RowKit

/-- Where the next unit of a run would stand. -/
def nextP (r : R) : Int := wrap64 (r.p + wrap64 ((r.cs.length : Int) * stepI r.k))
theorem stepI_01 (k : Int) : stepI k = 0 ∨ stepI k = 1 := by unfold stepI; split <;> simp
theorem nextP_push (r : R) (c : Int) : nextP { r with cs := r.cs ++ [c] } = wrap64 (nextP r + stepI r.k) := by
  unfold nextP
  simp only [List.length_append, List.length_singleton]
  rcases stepI_01 r.k with h | h <;> rw [h] <;> unfold wrap64 <;> push_cast <;> omega
theorem follows_next (r : R) (u : U) : follows r u = (decide (r.k = u.k) && (decide (r.cl = u.cl) && decide (r.rq = u.rq)) && decide (u.p = nextP r)) := by
  unfold follows nextP
  by_cases h : r.k = u.k
  · rw [h]
  · simp [h]
theorem fold_last : ∀ (b : List U) (rs : List R) (r : R), b.foldl addU (rs ++ [r]) = rs ++ b.foldl addU [r]
  | [], rs, r => rfl
  | u :: b, rs, r => by
    simp only [List.foldl_cons]
    have hg : goes (rs ++ [r]) u = goes [r] u := by rw [goes_snoc]; exact (goes_snoc [] r u).symm
    cases h : goes [r] u with
    | true =>
      have h1 := addU_on (rs := rs) (r := r) (u := u) (hg.trans h)
      have h2 := addU_on (rs := []) (r := r) (u := u) h
      rw [List.nil_append] at h2
      rw [h1, h2, fold_last b rs, List.nil_append]
    | false =>
      have h1 := addU_new (hg.trans h)
      have h2 := addU_new h
      rw [h1, h2, fold_last b (rs ++ [r]), fold_last b [r], List.append_assoc]
theorem fold_len : ∀ (b : List U) (x y : R), x.k = y.k → x.cl = y.cl → x.rq = y.rq → nextP x = nextP y → (b.foldl addU [x]).length = (b.foldl addU [y]).length
  | [], x, y, _, _, _, _ => rfl
  | u :: b, x, y, h1, h2, h3, h4 => by
    simp only [List.foldl_cons]
    have hg : goes [x] u = goes [y] u := by
      have e1 := goes_snoc [] x u
      have e2 := goes_snoc [] y u
      rw [List.nil_append] at e1 e2
      rw [e1, e2, follows_next, follows_next, h1, h2, h3, h4]
    cases h : goes [y] u with
    | true =>
      have e1 := addU_on (rs := []) (r := x) (u := u) (hg.trans h)
      have e2 := addU_on (rs := []) (r := y) (u := u) h
      rw [List.nil_append] at e1 e2
      rw [e1, e2, List.nil_append, List.nil_append]
      exact fold_len b _ _ h1 h2 h3 (by rw [nextP_push, nextP_push, h4, h1])
    | false =>
      rw [addU_new (hg.trans h), addU_new h, fold_last, fold_last, List.length_append, List.length_append]
      rfl
theorem runs_ne {us : List U} (h : us ≠ []) : runsOf us ≠ [] := by
  intro he
  rcases List.eq_nil_or_concat us with rfl | ⟨q, u, rfl⟩
  · exact h rfl
  · rw [List.concat_eq_append, runsOf_app] at he
    cases hg : goes (runsOf q) u with
    | false => rw [addU_new hg] at he; simp at he
    | true =>
      rcases List.eq_nil_or_concat (runsOf q) with h0 | ⟨rs, r, h0⟩
      · rw [h0] at hg; cases hg
      · rw [List.concat_eq_append] at h0
        rw [h0] at hg he
        rw [addU_on hg] at he; simp at he
theorem runs_join (a b : List U) : (runsOf (a ++ b)).length = (runsOf a).length + (runsOf b).length ∨ ((runsOf (a ++ b)).length + 1 = (runsOf a).length + (runsOf b).length ∧ (runsOf a).length ≠ 0 ∧ (runsOf b).length ≠ 0) := by
  have e : runsOf (a ++ b) = b.foldl addU (runsOf a) := by simp [runsOf]
  rw [e]
  match b with
  | [] => exact .inl (by simp [runsOf])
  | u :: r =>
    rcases List.eq_nil_or_concat (runsOf a) with h0 | ⟨q, x, h0⟩
    · rw [h0]; exact .inl (by simp [runsOf])
    · rw [List.concat_eq_append] at h0
      rw [h0, fold_last]
      have eb : runsOf (u :: r) = r.foldl addU [{ newR u with cs := [u.c] }] := by
        unfold runsOf
        simp only [List.foldl_cons]
        rw [addU_new (goes_nil u), List.nil_append]
      have hb : (runsOf (u :: r)).length ≠ 0 := fun h => runs_ne (by simp) (List.eq_nil_of_length_eq_zero h)
      simp only [List.foldl_cons]
      cases h : goes [x] u with
      | false =>
        left
        rw [addU_new h, fold_last, eb]
        simp only [List.length_append, List.length_singleton]
        omega
      | true =>
        right
        have e2 := addU_on (rs := []) (r := x) (u := u) h
        rw [List.nil_append] at e2
        have hf := goes_snoc [] x u
        rw [List.nil_append, h, follows_next] at hf
        have hf := hf.symm
        simp only [Bool.and_eq_true, Bool.not_eq_true', decide_eq_false_iff_not, decide_eq_true_eq] at hf
        obtain ⟨h1, ⟨h2, h3, h4⟩, h5⟩ := hf
        have hl := fold_len r { x with cs := x.cs ++ [u.c] } { newR u with cs := [u.c] } h2 h3 h4 (by
          rw [nextP_push, ← h5]
          unfold nextP newR
          simp only [List.length_singleton]
          rw [h2]
          rcases stepI_01 u.k with h | h <;> rw [h] <;> unfold wrap64 <;> push_cast <;> omega)
        rw [e2, List.nil_append, List.length_append, hl, ← eb]
        simp only [List.length_append, List.length_singleton]
        exact ⟨by omega, by omega, hb⟩
/-- How many chars. -/
def charsOf (rs : List R) : Nat := (rs.map fun r => r.cs.length).sum
theorem charsOf_app (a b : List R) : charsOf (a ++ b) = charsOf a + charsOf b := by simp [charsOf]
theorem chars_runs (us : List U) : charsOf (runsOf us) = us.length := by
  suffices h : ∀ (us : List U) (rs : List R), charsOf (us.foldl addU rs) = charsOf rs + us.length by
    have := h us []
    simpa [charsOf, runsOf] using this
  intro us
  induction us with
  | nil => intro rs; simp
  | cons u us ih =>
    intro rs
    rw [List.foldl_cons, ih, List.length_cons]
    have : charsOf (addU rs u) = charsOf rs + 1 := by
      cases hg : goes rs u with
      | false => rw [addU_new hg, charsOf_app]; simp [charsOf]
      | true =>
        rcases List.eq_nil_or_concat rs with rfl | ⟨q, x, rfl⟩
        · cases hg
        · rw [List.concat_eq_append] at hg ⊢
          rw [addU_on hg, charsOf_app, charsOf_app]; simp [charsOf]; omega
    omega
theorem chars_take {rs : List R} {i : Nat} {r : R} (h : rs[i]? = some r) : charsOf (rs.take (i + 1)) = charsOf (rs.take i) + r.cs.length := by
  rw [List.take_add_one, h, Option.toList_some, charsOf_app]; simp [charsOf]
theorem chars_le (rs : List R) (i : Nat) : charsOf (rs.take i) ≤ charsOf rs := by
  have : charsOf rs = charsOf (rs.take i) + charsOf (rs.drop i) := by rw [← charsOf_app, List.take_append_drop]
  omega
end Go.Proofs.Ytfpbmpgdpnpdjaa

