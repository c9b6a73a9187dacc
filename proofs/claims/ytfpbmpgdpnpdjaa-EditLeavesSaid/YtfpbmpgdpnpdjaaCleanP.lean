/-
  edit, the plain law of EditClean: without Nops a row does what it did.
-/
import Derived.Test.YtfpbmpgdpnpdjaaApply2
import Derived.Test.YtfpbmpgdpnpdjaaClean
namespace Go.Proofs.Ytfpbmpgdpnpdjaa
open Go.RowKit

theorem outI_bd (u : U) (t : List Int) : ∀ i, (outI u t i).length ≤ min i t.length + (if 0 ≤ u.p ∧ u.p < (i : Int) then 1 else 0)
  | 0 => by simp [outI]
  | i + 1 => by
    have ih := outI_bd u t i
    rw [outI, List.length_append, List.length_append]
    have h2 : (if u.k = 2 ∧ (i : Int) = u.p then [] else (t[i]?).toList).length ≤ min (i + 1) t.length - min i t.length := by
      split
      · simp
      · by_cases hi : i < t.length
        · rw [List.getElem?_eq_getElem hi]; simp; omega
        · rw [List.getElem?_eq_none (by omega)]; simp
    by_cases hp : (i : Int) = u.p
    · have h1 : (if u.k = 1 ∧ (i : Int) = u.p then [u.c] else []).length ≤ 1 := by split <;> simp
      rw [if_neg (show ¬ (0 ≤ u.p ∧ u.p < (i : Int)) by omega)] at ih
      rw [if_pos (show 0 ≤ u.p ∧ u.p < ((i + 1 : Nat) : Int) by omega)]
      omega
    · have h1 : (if u.k = 1 ∧ (i : Int) = u.p then [u.c] else []).length = 0 := by rw [if_neg (by intro h; exact hp h.2)]; rfl
      have h3 : (if 0 ≤ u.p ∧ u.p < (i : Int) then 1 else 0) ≤ (if 0 ≤ u.p ∧ u.p < ((i + 1 : Nat) : Int) then 1 else 0) := by
        split
        · rw [if_pos (show 0 ≤ u.p ∧ u.p < ((i + 1 : Nat) : Int) by omega)]; exact Nat.le_refl _
        · omega
      omega
theorem applyU_len {u : U} {t s : List Int} (h : applyU u t = some s) : s.length ≤ t.length + 1 := by
  unfold applyU at h
  split at h
  · injection h with h; subst h
    have := outI_bd u t (t.length + 1)
    split at this <;> omega
  · cases h
theorem fits_of {B : Nat} : ∀ (us : List U) (t : List Int), t.length + us.length ≤ B → Fits B us t
  | [], _, _ => trivial
  | u :: r, t, h => ⟨by simp at h; omega, fun s hs => fits_of r s (by have := applyU_len hs; simp at h; omega)⟩
theorem outI_nop {u : U} {t : List Int} (hk : u.k = 0) : ∀ i, outI u t i = t.take i
  | 0 => by simp [outI]
  | i + 1 => by rw [outI, outI_nop hk i, List.take_add_one]; simp [hk]
theorem apply_nop {u : U} {t s : List Int} (hk : u.k = 0) (h : applyU u t = some s) : s = t := by
  unfold applyU at h
  split at h
  · injection h with h; subst h
    rw [outI_nop hk, List.take_of_length_le (by omega)]
  · cases h
theorem apply_clean : ∀ (us : List U) (t s : List Int), applyR us t = some s → applyR (us.filter notNop) t = some s
  | [], t, s, h => h
  | u :: r, t, s, h => by
    simp only [applyR] at h
    cases ha : applyU u t with
    | none => rw [ha] at h; cases h
    | some x =>
      rw [ha] at h
      have ih := apply_clean r x s h
      by_cases hn : notNop u = true
      · rw [List.filter_cons_of_pos hn]
        simp only [applyR, ha]
        exact ih
      · rw [List.filter_cons_of_neg hn]
        have hk : u.k = 0 := by simpa [notNop] using hn
        obtain rfl := apply_nop hk ha
        exact ih
theorem growU_clean (us : List U) : growU (us.filter notNop) = growU us := by
  induction us with
  | nil => rfl
  | cons u us ih =>
    have e : growU (u :: us) = growI u.k + growU us := by simp [growU]
    by_cases hn : notNop u = true
    · rw [List.filter_cons_of_pos hn, e]
      have e2 : growU (u :: us.filter notNop) = growI u.k + growU (us.filter notNop) := by simp [growU]
      rw [e2, ih]
    · rw [List.filter_cons_of_neg hn, ih, e]
      have hk : u.k = 0 := by simpa [notNop] using hn
      rw [hk]; simp [growI]
def nopsU (us : List U) : Nat := (us.filter fun u => !notNop u).length
theorem nops_len (us : List U) : (us.filter notNop).length + nopsU us = us.length := by
  unfold nopsU
  induction us with
  | nil => rfl
  | cons u us ih =>
    by_cases hn : notNop u = true
    · rw [List.filter_cons_of_pos hn, List.filter_cons_of_neg (by simp [hn]), List.length_cons, List.length_cons]; omega
    · rw [List.filter_cons_of_neg hn, List.filter_cons_of_pos (by simpa using hn), List.length_cons, List.length_cons]; omega
theorem nops_take {us : List U} {i : Nat} {u : U} (h : us[i]? = some u) : nopsU (us.take (i + 1)) = nopsU (us.take i) + (if u.k = 0 then 1 else 0) := by
  unfold nopsU
  rw [List.take_add_one, h, Option.toList_some, List.filter_append, List.length_append]
  by_cases hk : u.k = 0 <;> simp [notNop, hk]
theorem nops_le (us : List U) : nopsU us ≤ us.length := by have := nops_len us; omega
theorem clean_wf {us : List U} (h : ∀ u ∈ us, UWf u) : ∀ u ∈ us.filter notNop, UWf u := fun u hu => h u (List.mem_filter.1 hu).1
end Go.Proofs.Ytfpbmpgdpnpdjaa

