/-
  utf, the plain laws: code points, their bytes, what is read of bytes; no program in sight.
-/
namespace Go.Proofs.Ytfpbmpgdpnpdjaa

def mayI (c : Int) : Bool := decide (0 ≤ c) && decide (c ≤ 1114111) && (decide (c < 55296) || decide (57343 < c))
theorem mayI_iff (c : Int) : mayI c = true ↔ 0 ≤ c ∧ c ≤ 1114111 ∧ (c < 55296 ∨ 57343 < c) := by
  simp only [mayI, Bool.and_eq_true, Bool.or_eq_true, decide_eq_true_eq]
  omega
def szN (n : Nat) : Nat := if n < 128 then 1 else if n < 2048 then 2 else if n < 65536 then 3 else 4
def sizeI (c : Int) : Nat := if mayI c then szN c.toNat else 0
theorem szN_bd (n : Nat) : 1 ≤ szN n ∧ szN n ≤ 4 := by unfold szN; split <;> (try split) <;> (try split) <;> omega
def one (n : Nat) : List Nat :=
  if n < 128 then [n] else if n < 2048 then [192 + n / 64, 128 + n % 64] else if n < 65536 then [224 + n / 4096, 128 + n / 64 % 64, 128 + n % 64]
  else [240 + n / 262144, 128 + n / 4096 % 64, 128 + n / 64 % 64, 128 + n % 64]
theorem one_len (n : Nat) : (one n).length = szN n := by
  unfold one szN
  split <;> (try split) <;> (try split) <;> rfl
theorem one_bytes {n : Nat} (h : n ≤ 1114111) : ∀ x ∈ one n, x < 256 := by
  intro x hx
  unfold one at hx
  split at hx <;> (try split at hx) <;> (try split at hx) <;> simp at hx <;> omega

def lead (k x : Nat) : Bool := match k with
  | 0 => decide (x / 128 = 0)
  | 1 => decide (x / 32 = 6)
  | 2 => decide (x / 16 = 14)
  | _ => decide (x / 8 = 30)
def low (k x : Nat) : Nat := match k with
  | 0 => x % 128
  | 1 => x % 32
  | 2 => x % 16
  | _ => x % 8
def acc (c : Nat) (ys : List Nat) : Nat := ys.foldl (fun c y => c * 64 + y % 64) c
def cont (ys : List Nat) : Bool := ys.all fun y => decide (y / 64 = 2)
def val (k : Nat) (l : List Nat) : Nat := match l with
  | [] => 0
  | x :: r => acc (low k x) (r.take k)
def hit (k : Nat) (l : List Nat) : Bool := match l with
  | [] => false
  | x :: r => lead k x && decide (k + 1 ≤ (x :: r).length) && cont (r.take k) && decide (sizeI (acc (low k x) (r.take k)) = k + 1)
def dec1 (l : List Nat) : Option (Nat × Nat) :=
  if hit 0 l then some (val 0 l, 1) else if hit 1 l then some (val 1 l, 2) else if hit 2 l then some (val 2 l, 3) else if hit 3 l then some (val 3 l, 4) else none

theorem sizeI_eq {a k : Nat} : sizeI a = k + 1 ↔ mayI a = true ∧ szN a = k + 1 := by
  unfold sizeI
  by_cases h : mayI a = true
  · simp [h]
  · simp [h]
theorem hit_spec {k : Nat} {l : List Nat} (hk : k < 4) (h : hit k l = true) : mayI (val k l) = true ∧ szN (val k l) = k + 1 ∧ k + 1 ≤ l.length ∧ l.take (k + 1) = one (val k l) := by
  match l with
  | [] => simp [hit] at h
  | x :: r =>
    simp only [hit, Bool.and_eq_true, decide_eq_true_eq] at h
    obtain ⟨⟨⟨h1, h2⟩, h3⟩, h4⟩ := h
    rw [sizeI_eq] at h4
    obtain ⟨h4, h5⟩ := h4
    refine ⟨h4, h5, h2, ?_⟩
    show (x :: r).take (k + 1) = one (acc (low k x) (r.take k))
    rw [List.take_succ_cons]
    unfold szN at h5
    match k, hk with
    | 0, _ =>
      simp only [lead, decide_eq_true_eq] at h1
      simp only [acc, low, List.take_zero, List.foldl_nil] at h5 ⊢
      unfold one
      split at h5
      · rename_i h6; rw [if_pos h6]; simp; omega
      · split at h5 <;> (try split at h5) <;> omega
    | 1, _ =>
      match r with
      | [] => simp at h2
      | y :: r =>
        simp only [lead, decide_eq_true_eq] at h1
        simp only [cont, List.take_succ_cons, List.take_zero, List.all_cons, List.all_nil, Bool.and_true, decide_eq_true_eq] at h3
        simp only [acc, low, List.take_succ_cons, List.take_zero, List.foldl_cons, List.foldl_nil] at h5 ⊢
        unfold one
        split at h5
        · omega
        · rename_i h6
          split at h5
          · rename_i h7; rw [if_neg h6, if_pos h7]; simp; omega
          · split at h5 <;> omega
    | 2, _ =>
      match r with
      | [] => simp at h2
      | [_] => simp at h2
      | y :: z :: r =>
        simp only [lead, decide_eq_true_eq] at h1
        simp only [cont, List.take_succ_cons, List.take_zero, List.all_cons, List.all_nil, Bool.and_true, Bool.and_eq_true, decide_eq_true_eq] at h3
        simp only [acc, low, List.take_succ_cons, List.take_zero, List.foldl_cons, List.foldl_nil] at h5 ⊢
        unfold one
        split at h5
        · omega
        · rename_i h6
          split at h5
          · omega
          · rename_i h7
            split at h5
            · rename_i h8; rw [if_neg h6, if_neg h7, if_pos h8]; simp; omega
            · omega
    | 3, _ =>
      match r with
      | [] => simp at h2
      | [_] => simp at h2
      | [_, _] => simp at h2
      | y :: z :: u :: r =>
        simp only [lead, decide_eq_true_eq] at h1
        simp only [cont, List.take_succ_cons, List.take_zero, List.all_cons, List.all_nil, Bool.and_true, Bool.and_eq_true, decide_eq_true_eq] at h3
        simp only [acc, low, List.take_succ_cons, List.take_zero, List.foldl_cons, List.foldl_nil] at h5 ⊢
        unfold one
        split at h5
        · omega
        · rename_i h6
          split at h5
          · omega
          · rename_i h7
            split at h5
            · omega
            · rename_i h8; rw [if_neg h6, if_neg h7, if_neg h8]; simp; omega

theorem may_le {c : Nat} (h : mayI c = true) : c ≤ 1114111 := by have := (mayI_iff c).1 h; omega
theorem hit_one {c : Nat} (h : mayI c = true) (r : List Nat) : hit (szN c - 1) (one c ++ r) = true ∧ val (szN c - 1) (one c ++ r) = c := by
  have hl := may_le h
  have hs : sizeI (c : Int) = szN c := by unfold sizeI; rw [if_pos h]; simp
  unfold szN one at *
  split
  · rename_i h1
    rw [if_pos h1] at hs
    have e : c % 128 = c := by omega
    simp only [List.cons_append, List.nil_append, hit, val, Nat.sub_self, lead, low, acc, List.take_zero, List.foldl_nil, e, cont, List.all_nil, hs]
    simp; omega
  · split
    · rename_i h1 h2
      rw [if_neg h1, if_pos h2] at hs
      have e : (192 + c / 64) % 32 * 64 + (128 + c % 64) % 64 = c := by omega
      simp only [List.cons_append, List.nil_append, hit, val, Nat.reduceSub, lead, low, acc, List.take_succ_cons, List.take_zero, List.foldl_cons, List.foldl_nil, e, cont, List.all_cons, List.all_nil, hs]
      simp; omega
    · split
      · rename_i h1 h2 h3
        rw [if_neg h1, if_neg h2, if_pos h3] at hs
        have e : ((224 + c / 4096) % 16 * 64 + (128 + c / 64 % 64) % 64) * 64 + (128 + c % 64) % 64 = c := by omega
        simp only [List.cons_append, List.nil_append, hit, val, Nat.reduceSub, lead, low, acc, List.take_succ_cons, List.take_zero, List.foldl_cons, List.foldl_nil, e, cont, List.all_cons, List.all_nil, hs]
        simp; omega
      · rename_i h1 h2 h3
        rw [if_neg h1, if_neg h2, if_neg h3] at hs
        have e : (((240 + c / 262144) % 8 * 64 + (128 + c / 4096 % 64) % 64) * 64 + (128 + c / 64 % 64) % 64) * 64 + (128 + c % 64) % 64 = c := by omega
        simp only [List.cons_append, List.nil_append, hit, val, Nat.reduceSub, lead, low, acc, List.take_succ_cons, List.take_zero, List.foldl_cons, List.foldl_nil, e, cont, List.all_cons, List.all_nil, hs]
        simp; omega
/-- No code point's bytes are the beginning of another one's. -/
theorem one_free {c d : Nat} (hc : mayI c = true) (hd : mayI d = true) {r s : List Nat} (h : one c ++ r = one d ++ s) : c = d ∧ r = s := by
  have h1 := may_le hc
  have h2 := may_le hd
  have key : c = d := by
    unfold one at h
    split at h <;> (try split at h) <;> (try split at h) <;> (try split at h) <;> (try split at h) <;> (try split at h) <;> simp only [List.cons_append, List.nil_append, List.cons.injEq] at h <;> omega
  subst key
  exact ⟨rfl, List.append_cancel_left h⟩
theorem hit_iff {k : Nat} {l : List Nat} (hk : k < 4) : hit k l = true ↔ ∃ c r, mayI (c : Nat) = true ∧ szN c = k + 1 ∧ l = one c ++ r := by
  constructor
  · intro h
    obtain ⟨h1, h2, h3, h4⟩ := hit_spec hk h
    exact ⟨_, l.drop (k + 1), h1, h2, by rw [← h4, List.take_append_drop]⟩
  · rintro ⟨c, r, h1, h2, rfl⟩
    have := (hit_one h1 r).1
    rwa [h2] at this
theorem hit_val {k : Nat} {c : Nat} {r : List Nat} (h : mayI c = true) (hk : szN c = k + 1) : val k (one c ++ r) = c := by
  have := (hit_one h r).2
  rwa [hk] at this
theorem dec1_spec {l : List Nat} {c n : Nat} (h : dec1 l = some (c, n)) : mayI c = true ∧ n = szN c ∧ ∃ r, l = one c ++ r := by
  have go : ∀ k, k < 4 → hit k l = true → val k l = c → k + 1 = n → mayI c = true ∧ n = szN c ∧ ∃ r, l = one c ++ r := by
    rintro k hk hh rfl rfl
    obtain ⟨h1, h2, h3, h4⟩ := hit_spec hk hh
    exact ⟨h1, h2.symm, l.drop (k + 1), by rw [← h4, List.take_append_drop]⟩
  unfold dec1 at h
  split at h
  · rename_i hh; injection h with h; injection h with a b; exact go 0 (by decide) hh a b
  · split at h
    · rename_i hh; injection h with h; injection h with a b; exact go 1 (by decide) hh a b
    · split at h
      · rename_i hh; injection h with h; injection h with a b; exact go 2 (by decide) hh a b
      · split at h
        · rename_i hh; injection h with h; injection h with a b; exact go 3 (by decide) hh a b
        · cases h
theorem hit_one_iff {c : Nat} (h : mayI c = true) (r : List Nat) {k : Nat} (hk : k < 4) : hit k (one c ++ r) = decide (szN c = k + 1) := by
  rw [Bool.eq_iff_iff, decide_eq_true_eq, hit_iff hk]
  constructor
  · rintro ⟨d, s, h1, h2, h3⟩
    obtain ⟨rfl, -⟩ := one_free h h1 h3
    exact h2
  · intro h2
    exact ⟨c, r, h, h2, rfl⟩
theorem dec1_one {c : Nat} (h : mayI c = true) (r : List Nat) : dec1 (one c ++ r) = some (c, szN c) := by
  unfold dec1
  rw [hit_one_iff h r (by decide), hit_one_iff h r (by decide), hit_one_iff h r (by decide), hit_one_iff h r (by decide)]
  have hb := szN_bd c
  by_cases h0 : szN c = 0 + 1
  · rw [hit_val h h0]; simp [h0]
  · by_cases h1 : szN c = 1 + 1
    · rw [hit_val h h1]; simp [h1]
    · by_cases h2 : szN c = 2 + 1
      · rw [hit_val h h2]; simp [h2]
      · have h3 : szN c = 3 + 1 := by omega
        rw [hit_val h h3]; simp [h3]
theorem dec1_len {l : List Nat} {c n : Nat} (h : dec1 l = some (c, n)) : 1 ≤ n ∧ n ≤ 4 ∧ n ≤ l.length := by
  obtain ⟨h1, rfl, r, rfl⟩ := dec1_spec h
  have := szN_bd c
  rw [List.length_append, one_len]
  omega
theorem dec1_nil : dec1 [] = none := by simp [dec1, hit]

/-- The bytes of a text. -/
def encL (t : List Nat) : List Nat := (t.map one).flatten
def valid (t : List Nat) : Prop := ∀ c ∈ t, mayI (c : Nat) = true
theorem encL_nil : encL [] = [] := rfl
theorem encL_cons (c : Nat) (t : List Nat) : encL (c :: t) = one c ++ encL t := by simp [encL]
theorem encL_app (a b : List Nat) : encL (a ++ b) = encL a ++ encL b := by simp [encL]
theorem encL_bytes {t : List Nat} (h : valid t) : ∀ x ∈ encL t, x < 256 := by
  intro x hx
  obtain ⟨q, hq, hx⟩ := List.mem_flatten.1 hx
  obtain ⟨c, hc, rfl⟩ := List.mem_map.1 hq
  exact one_bytes (may_le (h c hc)) x hx
theorem encL_len (t : List Nat) : t.length ≤ (encL t).length ∧ (encL t).length ≤ 4 * t.length := by
  induction t with
  | nil => simp [encL]
  | cons c t ih =>
    rw [encL_cons, List.length_append, one_len, List.length_cons]
    have := szN_bd c
    omega
theorem encL_free {a b : List Nat} (ha : valid a) (hb : valid b) {r s : List Nat} (hr : dec1 r = none) (hs : dec1 s = none) (h : encL a ++ r = encL b ++ s) : a = b ∧ r = s := by
  induction a generalizing b with
  | nil =>
    match b with
    | [] => exact ⟨rfl, h⟩
    | d :: b =>
      rw [encL_cons, encL_nil, List.nil_append, List.append_assoc] at h
      rw [h, dec1_one (hb d (by simp))] at hr
      cases hr
  | cons c a ih =>
    match b with
    | [] =>
      rw [encL_cons, encL_nil, List.nil_append, List.append_assoc] at h
      rw [← h, dec1_one (ha c (by simp))] at hs
      cases hs
    | d :: b =>
      rw [encL_cons, encL_cons, List.append_assoc, List.append_assoc] at h
      obtain ⟨rfl, h5⟩ := one_free (ha c (by simp)) (hb d (by simp)) h
      obtain ⟨rfl, h6⟩ := ih (b := b) (fun x hx => ha x (by simp [hx])) (fun x hx => hb x (by simp [hx])) h5
      exact ⟨rfl, h6⟩
theorem encL_inj {a b : List Nat} (ha : valid a) (hb : valid b) (h : encL a = encL b) : a = b :=
  (encL_free ha hb (r := []) (s := []) dec1_nil dec1_nil (by simpa using h)).1

/-- What is read of bytes: the code points, and how many bytes they had. -/
def readF : Nat → List Nat → List Nat × Nat
  | 0, _ => ([], 0)
  | f + 1, l => match dec1 l with
    | none => ([], 0)
    | some (c, n) => (c :: (readF f (l.drop n)).1, n + (readF f (l.drop n)).2)
def readT (l : List Nat) : List Nat := (readF l.length l).1
def readN (l : List Nat) : Nat := (readF l.length l).2
theorem readF_spec : ∀ (f : Nat) (l : List Nat), l.length ≤ f → ∃ r, valid (readF f l).1 ∧ l = encL (readF f l).1 ++ r ∧ (readF f l).2 = (encL (readF f l).1).length ∧ dec1 r = none := by
  intro f
  induction f with
  | zero =>
    intro l hl
    have : l = [] := List.eq_nil_of_length_eq_zero (by omega)
    subst this
    exact ⟨[], fun c hc => (by cases hc), rfl, rfl, dec1_nil⟩
  | succ f ih =>
    intro l hl
    unfold readF
    split
    · rename_i h
      exact ⟨l, fun c hc => (by cases hc), rfl, rfl, h⟩
    · rename_i c n h
      obtain ⟨h1, rfl, r, rfl⟩ := dec1_spec h
      have hb := szN_bd c
      have hd : (one c ++ r).drop (szN c) = r := by rw [← one_len, List.drop_left]
      rw [List.length_append, one_len] at hl
      rw [hd]
      obtain ⟨s, i1, i2, i3, i4⟩ := ih r (by omega)
      refine ⟨s, fun x hx => ?_, ?_, ?_, i4⟩
      · rcases List.mem_cons.1 hx with rfl | hx
        · exact h1
        · exact i1 x hx
      · simp only
        rw [encL_cons, List.append_assoc, ← i2]
      · simp only
        rw [i3, encL_cons, List.length_append, one_len]
theorem read_spec (l : List Nat) : ∃ r, valid (readT l) ∧ l = encL (readT l) ++ r ∧ readN l = (encL (readT l)).length ∧ dec1 r = none := readF_spec _ _ (Nat.le_refl _)
theorem read_unique {l t r : List Nat} (ht : valid t) (h : l = encL t ++ r) (hr : dec1 r = none) : readT l = t ∧ readN l = (encL t).length := by
  obtain ⟨s, h1, h2, h3, h4⟩ := read_spec l
  obtain ⟨e, -⟩ := encL_free h1 ht h4 hr (h2.symm.trans h)
  exact ⟨e, by rw [h3, e]⟩
theorem read_le (l : List Nat) : readN l ≤ l.length := by
  obtain ⟨s, h1, h2, h3, h4⟩ := read_spec l
  have := congrArg List.length h2
  rw [List.length_append] at this
  omega
theorem read_take (l : List Nat) : l.take (readN l) = encL (readT l) := by
  obtain ⟨s, h1, h2, h3, h4⟩ := read_spec l
  have h5 := congrArg (List.take (readN l)) h2
  rwa [List.take_left' h3.symm] at h5
theorem readT_len (l : List Nat) : (readT l).length ≤ l.length := by
  have := (encL_len (readT l)).1
  obtain ⟨s, h1, h2, h3, h4⟩ := read_spec l
  have := read_le l
  omega
theorem readT_valid (l : List Nat) : valid (readT l) := (read_spec l).choose_spec.1
/-- All bytes are a text's. -/
theorem read_all {l : List Nat} (h : ¬ readN l < l.length) : l = encL (readT l) := by
  have := read_take l
  rw [List.take_of_length_le (by omega)] at this
  exact this
theorem read_enc {t : List Nat} (h : valid t) : readT (encL t) = t ∧ readN (encL t) = (encL t).length := read_unique h (by simp) dec1_nil
/-- One step of the reading. -/
theorem read_step (t : List Nat) (r : List Nat) (ht : valid t) : (dec1 r = none → readT (encL t ++ r) = t ∧ readN (encL t ++ r) = (encL t).length) ∧
    (∀ c n, dec1 r = some (c, n) → valid (t ++ [c]) ∧ encL (t ++ [c]) = encL t ++ one c ∧ n = (one c).length ∧ ∃ s, r = one c ++ s) := by
  refine ⟨fun h => read_unique ht rfl h, fun c n h => ?_⟩
  obtain ⟨h1, rfl, s, rfl⟩ := dec1_spec h
  refine ⟨fun x hx => ?_, by rw [encL_app, encL_cons, encL_nil, List.append_nil], (one_len c).symm, s, rfl⟩
  rcases List.mem_append.1 hx with hx | hx
  · exact ht x hx
  · simp at hx; subst hx; exact h1
end Go.Proofs.Ytfpbmpgdpnpdjaa

