/-
  num, the plain laws: numbers as bytes, with no program in sight.
-/
namespace Go.Proofs.Ytfojelnnjhmggaa

def vb : Nat → Nat → List Nat
  | 0, n => [n]
  | k + 1, n => if n < 128 then [n] else (n % 128 + 128) :: vb k (n / 128)
theorem vb_more : ∀ (k n : Nat), n < 128 ^ (k + 1) → vb (k + 1) n = vb k n
  | 0, n, h => by
    have : n < 128 := by simpa using h
    simp [vb, this]
  | k + 1, n, h => by
    have h2 : n / 128 < 128 ^ (k + 1) := by rw [Nat.pow_succ] at h; omega
    have ih := vb_more k (n / 128) h2
    have e1 : vb (k + 1 + 1) n = if n < 128 then [n] else (n % 128 + 128) :: vb (k + 1) (n / 128) := rfl
    have e2 : vb (k + 1) n = if n < 128 then [n] else (n % 128 + 128) :: vb k (n / 128) := rfl
    rw [e1, e2, ih]
/-- The bytes of a number. -/
def bts (n : Nat) : List Nat := vb 9 n
theorem bts_small {n : Nat} (h : n < 128) : bts n = [n] := by simp [bts, vb, h]
theorem bts_big {n : Nat} (h : 128 ≤ n) (hn : n < 128 ^ 10) : bts n = (n % 128 + 128) :: bts (n / 128) := by
  have e : vb 9 (n / 128) = vb 8 (n / 128) := vb_more 8 _ (by omega)
  show vb 9 n = _ :: vb 9 (n / 128)
  rw [e, vb, if_neg (by omega)]
theorem pow64 : (18446744073709551616 : Nat) < 128 ^ 10 := by decide

theorem bts_bytes (n : Nat) (hn : n < 128 ^ 10) : ∀ c ∈ bts n, c < 256 := by
  induction n using Nat.strongRecOn with
  | ind n ih =>
    by_cases h : n < 128
    · rw [bts_small h]; intro c hc; simp at hc; omega
    · rw [bts_big (by omega) hn]
      intro c hc
      rcases List.mem_cons.1 hc with rfl | hc
      · omega
      · exact ih (n / 128) (by omega) (by omega) c hc
theorem bts_pos (n : Nat) (hn : n < 128 ^ 10) : 1 ≤ (bts n).length := by
  by_cases h : n < 128
  · rw [bts_small h]; simp
  · rw [bts_big (by omega) hn]; simp
theorem bts_size (m : Nat) : ∀ n, n < 128 ^ 10 → ((bts n).length ≤ m + 1 ↔ n < 128 ^ (m + 1)) := by
  induction m with
  | zero =>
    intro n hn
    by_cases h : n < 128
    · rw [bts_small h]; simp; omega
    · rw [bts_big (by omega) hn]
      have := bts_pos (n / 128) (by omega)
      simp only [List.length_cons]
      constructor
      · intro h2; omega
      · intro h2; omega
  | succ m ih =>
    intro n hn
    by_cases h : n < 128
    · rw [bts_small h]
      have : 1 ≤ 128 ^ (m + 1) := Nat.pow_pos (by decide)
      have e : 128 ^ (m + 1 + 1) = 128 ^ (m + 1) * 128 := Nat.pow_succ ..
      simp only [List.length_singleton]
      constructor <;> intro _ <;> omega
    · rw [bts_big (by omega) hn]
      have e : 128 ^ (m + 1 + 1) = 128 ^ (m + 1) * 128 := Nat.pow_succ ..
      have := ih (n / 128) (by omega)
      simp only [List.length_cons]
      constructor
      · intro h2
        have := this.1 (by omega)
        omega
      · intro h2
        have := this.2 (by omega)
        omega
theorem bts_ten {n : Nat} (hn : n < 18446744073709551616) : (bts n).length ≤ 10 := (bts_size 9 n (by have := pow64; omega)).2 (by have := pow64; omega)
theorem bts_mono {a b : Nat} (h : a ≤ b) (hb : b < 128 ^ 10) : (bts a).length ≤ (bts b).length := by
  have hp := bts_pos b hb
  obtain ⟨m, hm⟩ : ∃ m, (bts b).length = m + 1 := ⟨(bts b).length - 1, by omega⟩
  have h1 := (bts_size m b hb).1 (by omega)
  have h2 := (bts_size m a (by omega)).2 (by omega)
  omega

/-- The number that bytes tell. -/
def val : List Nat → Nat
  | [] => 0
  | c :: r => c % 128 + 128 * val r
/-- How many bytes stand ahead that have the highest bit. -/
def stop : List Nat → Nat
  | [] => 0
  | c :: r => if 128 ≤ c then stop r + 1 else 0
theorem stop_le : ∀ l : List Nat, stop l ≤ l.length
  | [] => Nat.le_refl _
  | c :: r => by
    have := stop_le r
    unfold stop
    split <;> simp <;> omega
theorem stop_at {l : List Nat} {k : Nat} (h : ∀ j, j < k → 128 ≤ l.getD j 0) (hk : k < l.length) (hc : l.getD k 0 < 128) : stop l = k := by
  induction l generalizing k with
  | nil => simp at hk
  | cons c r ih =>
    unfold stop
    cases k with
    | zero => simp at hc; rw [if_neg (by omega)]
    | succ k =>
      have h0 := h 0 (by omega)
      simp at h0
      rw [if_pos h0, ih (k := k) (fun j hj => by have := h (j + 1) (by omega); simpa using this) (by simpa using hk) (by simpa using hc)]
theorem stop_ge {l : List Nat} {k : Nat} (h : ∀ j, j < k → 128 ≤ l.getD j 0) (hk : k ≤ l.length) : k ≤ stop l := by
  induction l generalizing k with
  | nil => simp at hk; omega
  | cons c r ih =>
    cases k with
    | zero => omega
    | succ k =>
      have h0 := h 0 (by omega)
      simp at h0
      have := ih (k := k) (fun j hj => by have := h (j + 1) (by omega); simpa using this) (by simpa using hk)
      unfold stop
      rw [if_pos h0]
      omega
def bad (c s : Nat) : Bool := (c == 0 && decide (0 < s)) || (s == 9 && decide (1 < c))
/-- What Get tells: the number, its size, an error's number. -/
def gv (l : List Nat) : Nat := if stop l < l.length ∧ stop l < 10 ∧ bad (l.getD (stop l) 0) (stop l) = false then val (l.take (stop l + 1)) else 0
def gs (l : List Nat) : Nat := if stop l < l.length ∧ stop l < 10 ∧ bad (l.getD (stop l) 0) (stop l) = false then stop l + 1 else 0
def ge (l : List Nat) : Nat :=
  if stop l < l.length ∧ stop l < 10 then (if bad (l.getD (stop l) 0) (stop l) = false then 0 else 5) else if l.length < 10 then 4 else 5

theorem val_append : ∀ (a b : List Nat), val (a ++ b) = val a + 128 ^ a.length * val b
  | [], b => by simp [val]
  | c :: r, b => by
    rw [List.cons_append, val, val, val_append r b, List.length_cons, Nat.pow_succ, Nat.mul_add]
    have : 128 ^ r.length * 128 * val b = 128 * (128 ^ r.length * val b) := by rw [Nat.mul_comm (128 ^ r.length) 128, Nat.mul_assoc]
    omega
theorem val_lt : ∀ l : List Nat, val l < 128 ^ l.length
  | [] => by simp [val]
  | c :: r => by
    have := val_lt r
    rw [val, List.length_cons, Nat.pow_succ]
    omega
theorem val_bts (n : Nat) (hn : n < 128 ^ 10) : val (bts n) = n := by
  induction n using Nat.strongRecOn with
  | ind n ih =>
    by_cases h : n < 128
    · rw [bts_small h]; simp [val]; omega
    · rw [bts_big (by omega) hn, val, ih (n / 128) (by omega) (by omega)]; omega
theorem stop_bts (n : Nat) (hn : n < 128 ^ 10) (r : List Nat) : stop (bts n ++ r) + 1 = (bts n).length := by
  induction n using Nat.strongRecOn with
  | ind n ih =>
    by_cases h : n < 128
    · rw [bts_small h]; simp [stop]; omega
    · rw [bts_big (by omega) hn, List.cons_append, stop, if_pos (by omega), ih (n / 128) (by omega) (by omega)]; simp
/-- The last byte: 0 only of the number 0; the tenth is at most 1. -/
theorem last_bts (n : Nat) (hn : n < 128 ^ 10) (r : List Nat) :
    (bts n ++ r).getD (stop (bts n ++ r)) 0 < 128 ∧ ((bts n ++ r).getD (stop (bts n ++ r)) 0 = 0 → n = 0) ∧ (bts n ++ r).getD (stop (bts n ++ r)) 0 * 128 ^ stop (bts n ++ r) ≤ n := by
  induction n using Nat.strongRecOn with
  | ind n ih =>
    by_cases h : n < 128
    · rw [bts_small h]
      have : ¬ 128 ≤ n := by omega
      simp [stop, this, h]
    · rw [bts_big (by omega) hn, List.cons_append, stop, if_pos (by omega)]
      have := ih (n / 128) (by omega) (by omega)
      simp only [List.getD_cons_succ]
      refine ⟨this.1, fun h0 => ?_, ?_⟩
      · have := this.2.1 h0; omega
      · have h2 := this.2.2
        rw [Nat.pow_succ, ← Nat.mul_assoc]
        omega
theorem get_bts (n : Nat) (hn : n < 18446744073709551616) (r : List Nat) : gv (bts n ++ r) = n ∧ gs (bts n ++ r) = (bts n).length ∧ ge (bts n ++ r) = 0 := by
  have hn' : n < 128 ^ 10 := by have := pow64; omega
  have h1 := stop_bts n hn' r
  have h2 := last_bts n hn' r
  have h3 := bts_ten hn
  have hb : bad ((bts n ++ r).getD (stop (bts n ++ r)) 0) (stop (bts n ++ r)) = false := by
    generalize (bts n ++ r).getD (stop (bts n ++ r)) 0 = c at *
    unfold bad
    rw [Bool.or_eq_false_iff, Bool.and_eq_false_iff, Bool.and_eq_false_iff]
    refine ⟨?_, ?_⟩
    · by_cases h0 : c = 0
      · right
        have := h2.2.1 h0
        subst this
        rw [bts_small (by decide)] at h1 ⊢
        simp at h1
        simp [stop]
      · left; simpa using h0
    · by_cases h9 : stop (bts n ++ r) = 9
      · right
        have := h2.2.2
        rw [h9] at this
        simp
        omega
      · left; simpa using h9
  have hl : (bts n ++ r).take (stop (bts n ++ r) + 1) = bts n := by rw [h1]; simp
  have hlt : stop (bts n ++ r) < (bts n ++ r).length := by simp; omega
  have hc : stop (bts n ++ r) < (bts n ++ r).length ∧ stop (bts n ++ r) < 10 ∧ bad ((bts n ++ r).getD (stop (bts n ++ r)) 0) (stop (bts n ++ r)) = false := ⟨hlt, by omega, hb⟩
  refine ⟨?_, ?_, ?_⟩
  · rw [gv, if_pos hc, hl, val_bts n hn']
  · rw [gs, if_pos hc, h1]
  · rw [ge, if_pos ⟨hc.1, hc.2.1⟩, if_pos hb]
/-- Bytes that are a number's beginning, not all: too few. -/
theorem get_short {l : List Nat} (h : stop l = l.length) (hl : l.length < 10) : gv l = 0 ∧ gs l = 0 ∧ ge l = 4 := by
  have : ¬ stop l < l.length := by omega
  simp [gv, gs, ge, this, hl]
theorem stop_take_bts (n : Nat) (hn : n < 128 ^ 10) : ∀ k, k < (bts n).length → stop ((bts n).take k) = k := by
  induction n using Nat.strongRecOn with
  | ind n ih =>
    intro k hk
    by_cases h : n < 128
    · rw [bts_small h] at hk ⊢
      have : k = 0 := by simpa using hk
      subst this; simp [stop]
    · rw [bts_big (by omega) hn] at hk ⊢
      cases k with
      | zero => simp [stop]
      | succ k => rw [List.take_succ_cons, stop, if_pos (by omega), ih (n / 128) (by omega) (by omega) k (by simpa using hk)]
theorem short_bts (n : Nat) (hn : n < 18446744073709551616) (k : Nat) (hk : k < (bts n).length) : ge ((bts n).take k) = 4 := by
  have hn' : n < 128 ^ 10 := by have := pow64; omega
  have h3 := bts_ten hn
  exact (get_short (by rw [stop_take_bts n hn' k hk]; simp; omega) (by simp; omega)).2.2
/-- A number has no other bytes. -/
theorem bts_val : ∀ (l : List Nat), (∀ c ∈ l, c < 256) → l.length ≤ 10 → stop l + 1 = l.length → (l.getD (stop l) 0 = 0 → stop l = 0) → bts (val l) = l ∧ (l.getD (stop l) 0 ≠ 0 → val l ≠ 0)
  | [], _, _, h, _ => by simp [stop] at h
  | c :: r, hb, hl, hs, hz => by
    have hc := hb c (by simp)
    by_cases h : 128 ≤ c
    · rw [stop, if_pos h] at hs hz ⊢
      simp only [List.getD_cons_succ, List.length_cons] at *
      have hz' : r.getD (stop r) 0 ≠ 0 := fun h0 => by have := hz h0; omega
      have ih := bts_val r (fun x hx => hb x (by simp [hx])) (by omega) (by omega) (fun h0 => absurd h0 hz')
      have hv := ih.2 hz'
      have hlt := val_lt r
      have h10 : val r < 128 ^ 9 := Nat.lt_of_lt_of_le hlt (Nat.pow_le_pow_right (by decide) (by omega))
      have e : c % 128 = c - 128 := by omega
      refine ⟨?_, fun _ => by rw [val]; omega⟩
      rw [val, bts_big (by omega) (by have : (128 : Nat) ^ 10 = 128 ^ 9 * 128 := Nat.pow_succ ..; omega)]
      have e1 : (c % 128 + 128 * val r) % 128 + 128 = c := by omega
      have e2 : (c % 128 + 128 * val r) / 128 = val r := by omega
      rw [e1, e2, ih.1]
    · rw [stop, if_neg h] at hs hz ⊢
      have hr : r = [] := List.eq_nil_of_length_eq_zero (by simpa using hs.symm)
      subst hr
      have e : val [c] = c := by simp [val]; omega
      rw [e, bts_small (by omega)]
      simp
theorem stop_take {l : List Nat} (h : stop l < l.length) : stop (l.take (stop l + 1)) = stop l ∧ (l.take (stop l + 1)).getD (stop l) 0 = l.getD (stop l) 0 := by
  induction l with
  | nil => simp [stop] at h
  | cons c r ih =>
    by_cases hc : 128 ≤ c
    · have e : stop (c :: r) = stop r + 1 := by rw [stop, if_pos hc]
      rw [e] at h ⊢
      have := ih (by simpa using h)
      rw [List.take_succ_cons, stop, if_pos hc]
      exact ⟨by rw [this.1], by simp⟩
    · have e : stop (c :: r) = 0 := by rw [stop, if_neg hc]
      rw [e]
      simp [stop, hc]
theorem get_back {l : List Nat} (hb : ∀ c ∈ l, c < 256) (h : ge l = 0) : 1 ≤ gs l ∧ gs l ≤ min l.length 10 ∧ bts (gv l) = l.take (gs l) := by
  have h1 : stop l < l.length ∧ stop l < 10 ∧ bad (l.getD (stop l) 0) (stop l) = false := by
    unfold ge at h
    split at h
    · rename_i h2
      split at h
      · rename_i h3; exact ⟨h2.1, h2.2, h3⟩
      · omega
    · split at h <;> omega
  have hst := stop_take h1.1
  have hz : l.getD (stop l) 0 = 0 → stop l = 0 := by
    intro h0
    have := h1.2.2
    unfold bad at this
    rw [Bool.or_eq_false_iff, h0] at this
    simpa using this.1
  refine ⟨by rw [gs, if_pos h1]; omega, by rw [gs, if_pos h1]; omega, ?_⟩
  rw [gv, if_pos h1, gs, if_pos h1]
  exact (bts_val (l.take (stop l + 1)) (fun c hc => hb c (List.mem_of_mem_take hc)) (by simp; omega) (by rw [hst.1]; simp; omega) (by rw [hst.1, hst.2]; exact hz)).1
theorem get_err {l : List Nat} (h : ge l ≠ 0) : gv l = 0 ∧ gs l = 0 := by
  have h1 : ¬ (stop l < l.length ∧ stop l < 10 ∧ bad (l.getD (stop l) 0) (stop l) = false) := fun h2 => h (by rw [ge, if_pos ⟨h2.1, h2.2.1⟩, if_pos h2.2.2])
  exact ⟨by rw [gv, if_neg h1], by rw [gs, if_neg h1]⟩
theorem get_bad {l : List Nat} {k : Nat} (h : ∀ j, j < k → 128 ≤ l.getD j 0) (hk : k < l.length) (hk2 : k < 10) (hc : l.getD k 0 < 128) (hb : bad (l.getD k 0) k = true) : gv l = 0 ∧ gs l = 0 ∧ ge l = 5 := by
  have hs := stop_at h hk hc
  have hb2 : ¬ bad (l.getD (stop l) 0) (stop l) = false := by rw [hs, hb]; simp
  refine ⟨by rw [gv, if_neg (fun h => hb2 h.2.2)], by rw [gs, if_neg (fun h => hb2 h.2.2)], ?_⟩
  rw [ge, if_pos (by rw [hs]; exact ⟨hk, hk2⟩), if_neg hb2]
theorem get_good {l : List Nat} {k : Nat} (h : ∀ j, j < k → 128 ≤ l.getD j 0) (hk : k < l.length) (hk2 : k < 10) (hc : l.getD k 0 < 128) (hb : bad (l.getD k 0) k = false) :
    gv l = val (l.take k) + 128 ^ k * l.getD k 0 ∧ gs l = k + 1 ∧ ge l = 0 := by
  have hs := stop_at h hk hc
  have hb2 : bad (l.getD (stop l) 0) (stop l) = false := by rw [hs, hb]
  have h1 : stop l < l.length ∧ stop l < 10 ∧ bad (l.getD (stop l) 0) (stop l) = false := ⟨by omega, by omega, hb2⟩
  refine ⟨?_, by rw [gs, if_pos h1, hs], by rw [ge, if_pos ⟨h1.1, h1.2.1⟩, if_pos hb2]⟩
  have e : l.take (k + 1) = l.take k ++ [l.getD k 0] := by
    rw [List.take_succ_eq_append_getElem hk]
    simp [List.getD, hk]
  have e2 : (l.take k).length = k := by simp; omega
  rw [gv, if_pos h1, hs, e, val_append, e2]
  simp only [val]
  rw [Nat.mod_eq_of_lt hc]; simp
theorem get_more {l : List Nat} {k : Nat} (h : ∀ j, j < k → 128 ≤ l.getD j 0) (hk : k ≤ l.length) (hk2 : k = 10 ∨ k = l.length) : gv l = 0 ∧ gs l = 0 ∧ ge l = if l.length < 10 then 4 else 5 := by
  have hs := stop_ge h hk
  have hle := stop_le l
  have h1 : ¬ (stop l < l.length ∧ stop l < 10) := by omega
  refine ⟨by rw [gv, if_neg (fun h => h1 ⟨h.1, h.2.1⟩)], by rw [gs, if_neg (fun h => h1 ⟨h.1, h.2.1⟩)], by rw [ge, if_neg h1]⟩
theorem val_step {l : List Nat} {k : Nat} (hk : k < l.length) : val (l.take (k + 1)) = val (l.take k) + 128 ^ k * (l.getD k 0 % 128) := by
  have e : l.take (k + 1) = l.take k ++ [l.getD k 0] := by
    rw [List.take_succ_eq_append_getElem hk]
    simp [List.getD, hk]
  have e2 : (l.take k).length = k := by simp; omega
  rw [e, val_append, e2]
  simp [val]
theorem val_take_lt (l : List Nat) (k : Nat) : val (l.take k) < 128 ^ k :=
  Nat.lt_of_lt_of_le (val_lt _) (Nat.pow_le_pow_right (by decide) (by simp; omega))
theorem gv_lt {l : List Nat} : gv l < 128 ^ 10 := by
  unfold gv
  split
  · rename_i h
    refine Nat.lt_of_lt_of_le (val_lt _) (Nat.pow_le_pow_right (by decide) ?_)
    simp; omega
  · decide
theorem gs_le (l : List Nat) : gs l ≤ l.length ∧ gs l ≤ 10 := by
  unfold gs
  split
  · omega
  · omega
theorem bts_prefix {a b : Nat} (ha : a < 18446744073709551616) (hb : b < 18446744073709551616) {r : List Nat} (h : bts b = bts a ++ r) : a = b := by
  have h1 := get_bts a ha r
  have h2 := get_bts b hb []
  rw [List.append_nil, h] at h2
  omega

/-- Fixed bytes. -/
def le : Nat → Nat → List Nat
  | 0, _ => []
  | k + 1, n => n % 256 :: le k (n / 256)
def lev : Nat → List Nat → Nat
  | 0, _ => 0
  | _ + 1, [] => 0
  | k + 1, c :: r => c + 256 * lev k r
theorem le_len : ∀ k n, (le k n).length = k
  | 0, _ => rfl
  | k + 1, n => by simp [le, le_len k]
theorem le_bytes : ∀ k n, ∀ c ∈ le k n, c < 256
  | 0, _ => by simp [le]
  | k + 1, n => by
    intro c hc
    rcases List.mem_cons.1 hc with rfl | hc
    · omega
    · exact le_bytes k _ c hc
theorem le_snoc : ∀ k n, le (k + 1) n = le k n ++ [n / 256 ^ k % 256]
  | 0, n => by simp [le]
  | k + 1, n => by
    have e : n / 256 / 256 ^ k = n / 256 ^ (k + 1) := by rw [Nat.div_div_eq_div_mul, Nat.pow_succ, Nat.mul_comm]
    rw [le, le_snoc k (n / 256), e]; simp [le]
theorem lev_le : ∀ (k n : Nat) (r : List Nat), n < 256 ^ k → lev k (le k n ++ r) = n
  | 0, n, _, h => by simp [lev] at *; omega
  | k + 1, n, r, h => by
    rw [le, List.cons_append, lev, lev_le k (n / 256) r (by rw [Nat.pow_succ] at h; omega)]
    omega
theorem lev_lt : ∀ (k : Nat) (l : List Nat), (∀ c ∈ l, c < 256) → lev k l < 256 ^ k
  | 0, _, _ => by simp [lev]
  | k + 1, [], _ => by simp [lev, Nat.pow_pos]
  | k + 1, c :: r, h => by
    have h1 := h c (by simp)
    have h2 := lev_lt k r (fun x hx => h x (by simp [hx]))
    rw [lev, Nat.pow_succ]
    omega
theorem le_mod : ∀ (k n m : Nat), le k (n % 256 ^ (k + m)) = le k n
  | 0, _, _ => rfl
  | k + 1, n, m => by
    have e : 256 ^ (k + 1 + m) = 256 * 256 ^ (k + m) := by rw [show k + 1 + m = (k + m) + 1 by omega, Nat.pow_succ, Nat.mul_comm]
    have h1 : n % 256 ^ (k + 1 + m) % 256 = n % 256 := by rw [e, Nat.mod_mul_right_mod]
    have h2 : n % 256 ^ (k + 1 + m) / 256 = n / 256 % 256 ^ (k + m) := by rw [e, Nat.mod_mul_right_div_self]
    rw [le, le, h1, h2, le_mod k]

/-- Folded numbers. -/
def foldI (n : Int) : Int := if 0 ≤ n then 2 * n else -2 * n - 1
def unfoldI (n : Int) : Int := if n % 2 = 0 then n / 2 else -(n / 2) - 1
theorem foldI_bd {n : Int} (h0 : -9223372036854775808 ≤ n) (h1 : n ≤ 9223372036854775807) : 0 ≤ foldI n ∧ foldI n < 18446744073709551616 := by unfold foldI; split <;> omega
theorem unfoldI_bd {n : Int} (h0 : 0 ≤ n) (h1 : n < 18446744073709551616) : -9223372036854775808 ≤ unfoldI n ∧ unfoldI n ≤ 9223372036854775807 := by unfold unfoldI; split <;> omega
theorem unfold_fold (n : Int) : unfoldI (foldI n) = n := by unfold unfoldI foldI; split <;> split <;> omega
theorem fold_unfold {n : Int} (h : 0 ≤ n) : foldI (unfoldI n) = n := by unfold unfoldI foldI; split <;> split <;> omega
theorem fold_mod (n : Int) : foldI n % 2 = if 0 ≤ n then 0 else 1 := by unfold foldI; split <;> omega
theorem fold_other (n : Int) : foldI (-n - 1) = if 0 ≤ n then foldI n + 1 else foldI n - 1 := by unfold foldI; split <;> split <;> omega
end Go.Proofs.Ytfojelnnjhmggaa
