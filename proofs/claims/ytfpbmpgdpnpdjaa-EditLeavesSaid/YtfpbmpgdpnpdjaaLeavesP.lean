/-
  edit, the plain law of EditLeaves: what is typed, erased, replaced, applied to a text.
-/
import Derived.Test.YtfpbmpgdpnpdjaaCleanP
import Derived.Test.YtfpbmpgdpnpdjaaReplaceB
namespace Go.Proofs.Ytfpbmpgdpnpdjaa
open Go.RowKit

theorem outI_ins {u : U} {t : List Int} {q : Nat} (hk : u.k = 1) (hp : u.p = (q : Int)) (hq : q ≤ t.length) : ∀ i, outI u t i = if i ≤ q then t.take i else t.take q ++ u.c :: (t.drop q).take (i - q)
  | 0 => by simp [outI]
  | i + 1 => by
    rw [outI, outI_ins hk hp hq i, if_neg (show ¬ (u.k = 2 ∧ (i : Int) = u.p) by omega)]
    by_cases h1 : i < q
    · rw [if_pos (show i ≤ q by omega), if_pos (show i + 1 ≤ q by omega), if_neg (show ¬ (u.k = 1 ∧ (i : Int) = u.p) by omega), List.append_nil, List.take_add_one]
    · rw [if_neg (show ¬ i + 1 ≤ q by omega)]
      by_cases h2 : i = q
      · subst h2
        rw [if_pos (Nat.le_refl _), if_pos ⟨hk, hp.symm⟩, show i + 1 - i = 1 by omega, List.take_one, List.head?_drop]
        simp
      · rw [if_neg (show ¬ i ≤ q by omega), if_neg (show ¬ (u.k = 1 ∧ (i : Int) = u.p) by omega), List.append_nil, show i + 1 - q = (i - q) + 1 by omega, List.take_add_one, List.getElem?_drop, show q + (i - q) = i by omega]
        simp
theorem outI_del {u : U} {t : List Int} {q : Nat} (hk : u.k = 2) (hp : u.p = (q : Int)) : ∀ i, outI u t i = if i ≤ q then t.take i else t.take q ++ (t.drop (q + 1)).take (i - q - 1)
  | 0 => by simp [outI]
  | i + 1 => by
    rw [outI, outI_del hk hp i, if_neg (show ¬ (u.k = 1 ∧ (i : Int) = u.p) by omega), List.append_nil]
    by_cases h1 : i < q
    · rw [if_pos (show i ≤ q by omega), if_pos (show i + 1 ≤ q by omega), if_neg (show ¬ (u.k = 2 ∧ (i : Int) = u.p) by omega), List.take_add_one]
    · rw [if_neg (show ¬ i + 1 ≤ q by omega)]
      by_cases h2 : i = q
      · subst h2
        rw [if_pos (Nat.le_refl _), if_pos ⟨hk, hp.symm⟩, show i + 1 - i - 1 = 0 by omega]
        simp
      · rw [if_neg (show ¬ i ≤ q by omega), if_neg (show ¬ (u.k = 2 ∧ (i : Int) = u.p) by omega), show i + 1 - q - 1 = (i - q - 1) + 1 by omega, List.take_add_one, List.getElem?_drop, show q + 1 + (i - q - 1) = i by omega, List.append_assoc]
theorem apply_ins {u : U} {t : List Int} {q : Nat} (hk : u.k = 1) (hp : u.p = (q : Int)) (hq : q ≤ t.length) (hc : mayI u.c = true) : applyU u t = some (t.take q ++ [u.c] ++ t.drop q) := by
  have hf : fitsU u t.length = true := by
    unfold fitsU mayU
    rw [hk, hp, hc]
    simp [hq]
  unfold applyU
  rw [if_pos hf, outI_ins hk hp hq, if_neg (by omega), List.take_of_length_le (l := t.drop q) (by rw [List.length_drop]; omega)]
  simp
theorem apply_del {u : U} {t : List Int} {q : Nat} (hk : u.k = 2) (hp : u.p = (q : Int)) (hq : q < t.length) (hc : mayI u.c = true) : applyU u t = some (t.take q ++ t.drop (q + 1)) := by
  have hf : fitsU u t.length = true := by
    unfold fitsU mayU
    rw [hk, hp, hc]
    simp [hq]
  unfold applyU
  rw [if_pos hf, outI_del hk hp, if_neg (by omega), List.take_of_length_le (l := t.drop (q + 1)) (by rw [List.length_drop]; omega)]
theorem applyR_app : ∀ (a b : List U) (t s : List Int), applyR a t = some s → applyR (a ++ b) t = applyR b s
  | [], b, t, s, h => by simp only [applyR, Option.some.injEq] at h; subst h; rfl
  | u :: a, b, t, s, h => by
    simp only [applyR, List.cons_append] at h ⊢
    cases hu : applyU u t with
    | none => rw [hu] at h; cases h
    | some x => rw [hu] at h; exact applyR_app a b x s h
theorem applyR_one (u : U) (t : List Int) : applyR [u] t = applyU u t := by
  simp only [applyR]
  cases applyU u t <;> rfl
theorem apply_typed {p : Nat} {cl rq : Int} {t : List Int} (hp : p ≤ t.length) (hp2 : p ≤ 1000) : ∀ (n : Nat) (cs : List Int), cs.length = n → n ≤ 1000 → (∀ c ∈ cs, mayI c = true) → applyR (unitsOf 1 p cl rq cs) t = some (t.take p ++ cs ++ t.drop p) := by
  intro n
  induction n with
  | zero =>
    intro cs hl _ _
    obtain rfl := List.eq_nil_of_length_eq_zero hl
    simp [unitsOf, applyR]
  | succ n ih =>
    intro cs hl hn hc
    rcases List.eq_nil_or_concat cs with rfl | ⟨q, c, rfl⟩
    · simp at hl
    rw [List.concat_eq_append] at hl hc ⊢
    have hq : q.length = n := by simpa using hl
    have h1 := ih q hq (by omega) (fun x hx => hc x (by simp [hx]))
    rw [unitsOf_app, applyR_app _ _ _ _ h1, applyR_one]
    have hlt : (t.take p).length = p := by rw [List.length_take]; omega
    have hins := apply_ins (u := mkU 1 p cl rq q.length c) (t := t.take p ++ q ++ t.drop p) (q := p + q.length) (by rw [mkU_ins (by omega)]) (by rw [mkU_ins (by omega)]; show wrap64 _ = _; rw [wrap_in (by omega) (by omega)]; push_cast; rfl) (by simp; omega) (by rw [mkU_ins (by omega)]; exact hc c (by simp))
    rw [hins]
    have e1 : (t.take p ++ q ++ t.drop p).take (p + q.length) = t.take p ++ q := List.take_left' (by rw [List.length_append, hlt])
    have e2 : (t.take p ++ q ++ t.drop p).drop (p + q.length) = t.drop p := List.drop_left' (by rw [List.length_append, hlt])
    rw [e1, e2, mkU_ins (by omega)]
    simp
theorem apply_erased {p : Nat} {cl rq : Int} (hp2 : p ≤ 1000) : ∀ (n : Nat) (t : List Int), p + n ≤ t.length → applyR (unitsOf 2 p cl rq (List.replicate n 0)) t = some (t.take p ++ t.drop (p + n))
  | 0, t, _ => by simp [unitsOf, applyR]
  | n + 1, t, h => by
    have h1 := apply_erased (cl := cl) (rq := rq) hp2 n t (by omega)
    rw [unitsOf_rep, applyR_app _ _ _ _ h1, applyR_one]
    have hlt : (t.take p).length = p := by rw [List.length_take]; omega
    have hdel := apply_del (u := mkU 2 p cl rq n 0) (t := t.take p ++ t.drop (p + n)) (q := p) (by rw [mkU_del (by omega)]) (by rw [mkU_del (by omega)]) (by simp; omega) (by rw [mkU_del (by omega)]; rfl)
    rw [hdel]
    have e1 : (t.take p ++ t.drop (p + n)).take p = t.take p := List.take_left' hlt
    have e2 : (t.take p ++ t.drop (p + n)).drop (p + 1) = t.drop (p + (n + 1)) := by
      rw [← List.drop_drop, List.drop_left' hlt, List.drop_drop]; congr 1
    rw [e1, e2]
theorem grow_typed (p cl rq : Int) : ∀ (n : Nat) (cs : List Int), cs.length = n → growU (unitsOf 1 p cl rq cs) = cs.length := by
  intro n
  induction n with
  | zero =>
    intro cs hl
    obtain rfl := List.eq_nil_of_length_eq_zero hl
    rfl
  | succ n ih =>
    intro cs hl
    rcases List.eq_nil_or_concat cs with rfl | ⟨q, c, rfl⟩
    · simp at hl
    rw [List.concat_eq_append] at hl ⊢
    rw [unitsOf_app, growU_app, ih q (by simpa using hl)]
    have : growU [mkU 1 p cl rq q.length c] = 1 := by simp [growU, mkU, growI]
    rw [this, List.length_append]; push_cast; simp
theorem grow_erased (p cl rq : Int) (n : Nat) : growU (unitsOf 2 p cl rq (List.replicate n 0)) = -(n : Int) := by
  induction n with
  | zero => rfl
  | succ n ih =>
    rw [unitsOf_rep, growU_app, ih]
    have : growU [mkU 2 p cl rq n 0] = -1 := by simp [growU, mkU, growI]
    rw [this]; push_cast; omega
theorem kind_units {k p cl rq : Int} {cs : List Int} (hk : k = 1 ∨ k = 2) : ∀ u ∈ unitsOf k p cl rq cs, -9223372036854775808 ≤ u.k ∧ u.k ≤ 9223372036854775807 := by
  intro u hu
  unfold unitsOf at hu
  rw [List.mem_mapIdx] at hu
  obtain ⟨i, hi, rfl⟩ := hu
  rcases hk with rfl | rfl <;> simp [mkU]
end Go.Proofs.Ytfpbmpgdpnpdjaa

