/-
  crc, the plain laws: a register of 32 bits that takes bytes in, with no program in sight.
-/
namespace Go.Proofs.YthoaagkllkcacaaDoor

def poly : Nat := 3988292384
/-- One shift of the register. -/
def st (x : Nat) : Nat := if x % 2 = 1 then (x / 2) ^^^ poly else x / 2
def stN : Nat → Nat → Nat
  | 0, x => x
  | k + 1, x => stN k (st x)
theorem stN_add : ∀ (a b x : Nat), stN (a + b) x = stN b (stN a x)
  | 0, b, x => by simp [stN]
  | a + 1, b, x => by rw [show a + 1 + b = (a + b) + 1 by omega, stN, stN_add a b (st x), stN]

theorem xor_half (u v : Nat) : (u ^^^ v) / 2 = u / 2 ^^^ v / 2 := by
  apply Nat.eq_of_testBit_eq
  intro i
  rw [Nat.testBit_xor, ← Nat.testBit_succ, ← Nat.testBit_succ, ← Nat.testBit_succ, Nat.testBit_xor]
theorem xor_odd (u v : Nat) : (u ^^^ v) % 2 = (u + v) % 2 := by
  have h := Nat.testBit_xor u v 0
  simp only [Nat.testBit_zero] at h
  have h3 : (u ^^^ v) % 2 = 0 ∨ (u ^^^ v) % 2 = 1 := by omega
  have h1 : u % 2 = 0 ∨ u % 2 = 1 := by omega
  have h2 : v % 2 = 0 ∨ v % 2 = 1 := by omega
  rcases h1 with h1 | h1 <;> rcases h2 with h2 | h2 <;> rcases h3 with h3 | h3 <;> simp only [h1, h2, h3] at h <;> first | omega | (exact absurd h (by decide))
theorem xor_swap (a b c d : Nat) : (a ^^^ b) ^^^ (c ^^^ d) = (a ^^^ c) ^^^ (b ^^^ d) := by
  rw [Nat.xor_assoc, Nat.xor_assoc, ← Nat.xor_assoc b c d, Nat.xor_comm b c, Nat.xor_assoc c b d]
theorem st_xor (u v : Nat) : st (u ^^^ v) = st u ^^^ st v := by
  unfold st
  rw [xor_half, xor_odd]
  by_cases h1 : u % 2 = 1 <;> by_cases h2 : v % 2 = 1
  · rw [if_neg (by omega), if_pos h1, if_pos h2, xor_swap, Nat.xor_self, Nat.xor_zero]
  · rw [if_pos (by omega), if_pos h1, if_neg h2, Nat.xor_assoc, Nat.xor_assoc, Nat.xor_comm poly]
  · rw [if_pos (by omega), if_neg h1, if_pos h2, Nat.xor_assoc]
  · rw [if_neg (by omega), if_neg h1, if_neg h2]
theorem stN_xor : ∀ (k u v : Nat), stN k (u ^^^ v) = stN k u ^^^ stN k v
  | 0, _, _ => rfl
  | k + 1, u, v => by rw [stN, st_xor, stN_xor k, stN, stN]
theorem st_double (x : Nat) : st (2 * x) = x := by unfold st; rw [if_neg (by omega)]; omega
theorem stN_double : ∀ (k x : Nat), stN k (2 ^ k * x) = x
  | 0, x => by simp [stN]
  | k + 1, x => by rw [stN, show 2 ^ (k + 1) * x = 2 * (2 ^ k * x) by rw [Nat.pow_succ, Nat.mul_comm (2 ^ k) 2, Nat.mul_assoc], st_double, stN_double k]
theorem st_lt {x : Nat} (h : x < 4294967296) : st x < 4294967296 := by
  unfold st
  split
  · exact Nat.xor_lt_two_pow (n := 32) (by omega) (by decide)
  · omega
theorem stN_lt : ∀ (k : Nat) {x : Nat}, x < 4294967296 → stN k x < 4294967296
  | 0, _, h => h
  | k + 1, _, h => stN_lt k (st_lt h)
theorem xor_lt32 {a b : Nat} (ha : a < 4294967296) (hb : b < 4294967296) : a ^^^ b < 4294967296 := Nat.xor_lt_two_pow (n := 32) ha hb
/-- Nothing is lost in a shift: its uppermost bit tells whether the lowest one was set. -/
theorem xor_can {a b c : Nat} (h : a ^^^ c = b ^^^ c) : a = b := by
  have := congrArg (· ^^^ c) h
  simp only [Nat.xor_assoc, Nat.xor_self, Nat.xor_zero] at this
  exact this
theorem poly_bit {y : Nat} (h : y < 2147483648) : 2147483648 ≤ y ^^^ poly := by
  have h1 : (y ^^^ poly).testBit 31 = true := by
    rw [Nat.testBit_xor, Nat.testBit_lt_two_pow h]
    decide
  exact Nat.ge_two_pow_of_testBit h1
theorem st_inj {x y : Nat} (hx : x < 4294967296) (hy : y < 4294967296) (h : st x = st y) : x = y := by
  unfold st at h
  by_cases h1 : x % 2 = 1 <;> by_cases h2 : y % 2 = 1
  · rw [if_pos h1, if_pos h2] at h
    have := xor_can h
    omega
  · rw [if_pos h1, if_neg h2] at h
    have := poly_bit (y := x / 2) (by omega)
    omega
  · rw [if_neg h1, if_pos h2] at h
    have := poly_bit (y := y / 2) (by omega)
    omega
  · rw [if_neg h1, if_neg h2] at h
    omega
theorem stN_inj : ∀ (k : Nat) {x y : Nat}, x < 4294967296 → y < 4294967296 → stN k x = stN k y → x = y
  | 0, _, _, _, _, h => h
  | k + 1, _, _, hx, hy, h => st_inj hx hy (stN_inj k (st_lt hx) (st_lt hy) h)

/-- The register behind a row of bytes. -/
def run : Nat → List Nat → Nat
  | x, [] => x
  | x, c :: r => run (stN 8 (x ^^^ c)) r
theorem run_nil (x : Nat) : run x [] = x := rfl
theorem run_cons (x c : Nat) (r : List Nat) : run x (c :: r) = run (stN 8 (x ^^^ c)) r := rfl
theorem run_app : ∀ (a : List Nat) (x : Nat) (b : List Nat), run x (a ++ b) = run (run x a) b
  | [], _, _ => rfl
  | _ :: r, _, b => run_app r _ b
theorem byte_lt32 {c : Nat} (h : c < 256) : c < 4294967296 := by omega
theorem run_lt : ∀ (l : List Nat) (x : Nat), x < 4294967296 → (∀ c ∈ l, c < 256) → run x l < 4294967296
  | [], _, hx, _ => hx
  | c :: r, _, hx, h => run_lt r _ (stN_lt 8 (xor_lt32 hx (byte_lt32 (h c (by simp))))) (fun z hz => h z (by simp [hz]))
def ones : Nat := 4294967295
theorem ones_lt : ones < 4294967296 := by decide
/-- The sum that goes on from a sum; the sum of bytes. -/
def more (s : Nat) (l : List Nat) : Nat := run (s ^^^ ones) l ^^^ ones
def sum (l : List Nat) : Nat := more 0 l
theorem more_lt {s : Nat} {l : List Nat} (hs : s < 4294967296) (h : ∀ c ∈ l, c < 256) : more s l < 4294967296 := xor_lt32 (run_lt l _ (xor_lt32 hs ones_lt) h) ones_lt
theorem sum_lt {l : List Nat} (h : ∀ c ∈ l, c < 256) : sum l < 4294967296 := more_lt (by decide) h
theorem xor_back (a b : Nat) : (a ^^^ b) ^^^ b = a := by rw [Nat.xor_assoc, Nat.xor_self, Nat.xor_zero]
theorem more_app (s : Nat) (a b : List Nat) : more (more s a) b = more s (a ++ b) := by
  unfold more
  rw [xor_back, run_app]
theorem more_nil (s : Nat) : more s [] = s := by unfold more; rw [run_nil, xor_back]
theorem ones_sub {s : Nat} (h : s < 4294967296) : s ^^^ ones = 4294967295 - s := by
  apply Nat.eq_of_testBit_eq
  intro i
  rw [Nat.testBit_xor, show ones = 2 ^ 32 - 1 from rfl, Nat.testBit_two_pow_sub_one, show 4294967295 - s = 2 ^ 32 - (s + 1) by omega, Nat.testBit_two_pow_sub_succ (show s < 2 ^ 32 from h)]
  by_cases hi : i < 32
  · simp [hi]
  · have : s.testBit i = false := Nat.testBit_lt_two_pow (Nat.lt_of_lt_of_le (show s < 2 ^ 32 from h) (Nat.pow_le_pow_right (by decide) (by omega)))
    simp [hi, this]

/-- Four shifts by the table. -/
def tab : List Nat := [0, 498536548, 997073096, 651767980, 1994146192, 1802195444, 1303535960, 1342533948, 3988292384, 4027552580, 3604390888, 3412177804, 2607071920, 2262029012, 2685067896, 3183342108]
theorem tab_eq : ∀ b : Fin 16, stN 4 b.val = tab.getD b.val 0 := by decide
theorem join_xor (k a b : Nat) (h : b < 2 ^ k) : 2 ^ k * a ^^^ b = 2 ^ k * a + b := by
  apply Nat.eq_of_testBit_eq
  intro i
  rw [Nat.testBit_xor, Nat.testBit_two_pow_mul_add a h]
  by_cases hi : i < k
  · have hi2 : ¬ k ≤ i := by omega
    rw [if_pos hi, Nat.testBit_two_pow_mul]; simp [hi2]
  · have hi2 : k ≤ i := by omega
    rw [if_neg hi, Nat.testBit_two_pow_mul, Nat.testBit_lt_two_pow (Nat.lt_of_lt_of_le h (Nat.pow_le_pow_right (by decide) (by omega)))]
    simp [hi2]
theorem half_eq (x : Nat) : stN 4 x = (x / 16) ^^^ tab.getD (x % 16) 0 := by
  have e : x = 2 ^ 4 * (x / 16) ^^^ x % 16 := by rw [join_xor 4 _ _ (by omega)]; omega
  have h := tab_eq ⟨x % 16, by omega⟩
  conv => lhs; rw [e]
  rw [stN_xor, stN_double]
  simp only at h
  rw [h]
theorem tab_lt : ∀ b : Fin 16, tab.getD b.val 0 < 4294967296 := by decide

/-- Bytes as one number, the lowest first: a register takes them in at once. -/
def word : List Nat → Nat
  | [] => 0
  | c :: r => c + 256 * word r
theorem word_lt : ∀ l : List Nat, (∀ c ∈ l, c < 256) → word l < 2 ^ (8 * l.length)
  | [], _ => by simp [word]
  | c :: r, h => by
    have h1 := h c (by simp)
    have h2 := word_lt r (fun z hz => h z (by simp [hz]))
    rw [word, List.length_cons, show 8 * (r.length + 1) = 8 * r.length + 8 by omega, Nat.pow_add]
    omega
theorem word_inj : ∀ a b : List Nat, a.length = b.length → (∀ c ∈ a, c < 256) → (∀ c ∈ b, c < 256) → word a = word b → a = b
  | [], [], _, _, _, _ => rfl
  | [], _ :: _, h, _, _, _ => by simp at h
  | _ :: _, [], h, _, _, _ => by simp at h
  | c :: r, d :: q, h, h1, h2, hw => by
    have hc := h1 c (by simp)
    have hd := h2 d (by simp)
    rw [word, word] at hw
    have e1 : c = d := by omega
    subst e1
    rw [word_inj r q (by simpa using h) (fun z hz => h1 z (by simp [hz])) (fun z hz => h2 z (by simp [hz])) (by omega)]
theorem run_word : ∀ (l : List Nat) (x : Nat), (∀ c ∈ l, c < 256) → run x l = stN (8 * l.length) (x ^^^ word l)
  | [], x, _ => by simp [run_nil, word, stN]
  | c :: r, x, h => by
    have hc := h c (by simp)
    have e : c + 256 * word r = 2 ^ 8 * word r ^^^ c := by rw [join_xor 8 _ _ (by omega)]; omega
    rw [run_cons, run_word r _ (fun z hz => h z (by simp [hz])), word, e, List.length_cons, show 8 * (r.length + 1) = 8 + 8 * r.length by omega, stN_add]
    congr 1
    rw [Nat.xor_comm (2 ^ 8 * word r), ← Nat.xor_assoc, stN_xor 8 (x ^^^ c), stN_double]
/-- What is xored. -/
def xorB : List Nat → List Nat → List Nat
  | a :: r, b :: q => (a ^^^ b) :: xorB r q
  | _, _ => []
theorem run_xor : ∀ (a b : List Nat) (x y : Nat), a.length = b.length → run (x ^^^ y) (xorB a b) = run x a ^^^ run y b
  | [], [], _, _, _ => rfl
  | [], _ :: _, _, _, h => by simp at h
  | _ :: _, [], _, _, h => by simp at h
  | c :: r, d :: q, x, y, h => by
    rw [xorB, run_cons, xor_swap, stN_xor, run_xor r q _ _ (by simpa using h), run_cons, run_cons]
theorem xorB_len : ∀ a b : List Nat, a.length = b.length → (xorB a b).length = a.length
  | [], [], _ => rfl
  | [], _ :: _, h => by simp at h
  | _ :: _, [], h => by simp at h
  | c :: r, d :: q, h => by rw [xorB, List.length_cons, List.length_cons, xorB_len r q (by simpa using h)]
theorem sum_xor3 (a b c : List Nat) (h1 : a.length = b.length) (h2 : b.length = c.length) : sum (xorB (xorB a b) c) = sum a ^^^ sum b ^^^ sum c := by
  unfold sum more
  have e : (0 : Nat) ^^^ ones = ((0 ^^^ ones) ^^^ (0 ^^^ ones)) ^^^ (0 ^^^ ones) := by simp
  conv => lhs; rw [e]
  rw [run_xor _ _ _ _ (by rw [xorB_len a b h1]; omega), run_xor _ _ _ _ h1]
  generalize run (0 ^^^ ones) a = A
  generalize run (0 ^^^ ones) b = B
  generalize run (0 ^^^ ones) c = C
  rw [xor_swap A ones B ones, Nat.xor_self, Nat.xor_zero, Nat.xor_assoc]

/-- A sum's bytes, the lowest first. -/
def le4 (s : Nat) : List Nat := [s % 256, s / 256 % 256, s / 65536 % 256, s / 16777216 % 256]
theorem le4_bytes (s : Nat) : ∀ c ∈ le4 s, c < 256 := by intro c hc; simp [le4] at hc; omega
theorem le4_word {s : Nat} (h : s < 4294967296) : word (le4 s) = s := by simp [word, le4]; omega
def residue : Nat := 558161692
/-- Every frame's sum is one number. -/
theorem more_own (s : Nat) (h : s < 4294967296) : more s (le4 s) = residue := by
  unfold more
  rw [run_word _ _ (le4_bytes s), le4_word h, Nat.xor_comm s ones, xor_back]
  show stN 32 ones ^^^ ones = residue
  decide +kernel
theorem sum_frame (b : List Nat) (h : ∀ c ∈ b, c < 256) : sum (b ++ le4 (sum b)) = residue := by
  have : sum (b ++ le4 (sum b)) = more (sum b) (le4 (sum b)) := (more_app 0 b _).symm
  rw [this, more_own _ (sum_lt h)]
theorem le4_inj {s t : Nat} (hs : s < 4294967296) (ht : t < 4294967296) (h : le4 s = le4 t) : s = t := by
  rw [← le4_word hs, ← le4_word ht, h]
/-- Two ends of one length, at most four bytes, behind one sum. -/
theorem more_inj {s : Nat} {a b : List Nat} (hs : s < 4294967296) (hl : a.length = b.length) (h4 : a.length ≤ 4) (ha : ∀ c ∈ a, c < 256) (hb : ∀ c ∈ b, c < 256) (h : more s a = more s b) : a = b := by
  unfold more at h
  have h := xor_can h
  rw [run_word a _ ha, run_word b _ hb, ← hl] at h
  have p : 2 ^ (8 * a.length) ≤ 4294967296 := by
    have : 2 ^ (8 * a.length) ≤ 2 ^ 32 := Nat.pow_le_pow_right (by decide) (by omega)
    exact this
  have wa := word_lt a ha
  have wb := word_lt b hb
  rw [← hl] at wb
  have hx := xor_lt32 hs ones_lt
  have h := stN_inj _ (xor_lt32 hx (by omega)) (xor_lt32 hx (by omega)) h
  rw [Nat.xor_comm _ (word a), Nat.xor_comm _ (word b)] at h
  exact word_inj a b hl ha hb (xor_can h)
/-- A register that differs stays different. -/
theorem run_inj : ∀ (l : List Nat) (x y : Nat), x < 4294967296 → y < 4294967296 → (∀ c ∈ l, c < 256) → run x l = run y l → x = y
  | [], _, _, _, _, _, h => h
  | c :: r, x, y, hx, hy, hb, h => by
    have hc := byte_lt32 (hb c (by simp))
    have := run_inj r _ _ (stN_lt 8 (xor_lt32 hx hc)) (stN_lt 8 (xor_lt32 hy hc)) (fun z hz => hb z (by simp [hz])) h
    exact xor_can (stN_inj 8 (xor_lt32 hx hc) (xor_lt32 hy hc) this)
/-- One byte turned turns the sum. -/
theorem sum_set {l : List Nat} {k v : Nat} (hb : ∀ c ∈ l, c < 256) (hv : v < 256) (hk : k < l.length) (hne : l.getD k 0 ≠ v) : sum (l.set k v) ≠ sum l := by
  intro h
  unfold sum more at h
  have h := xor_can h
  have e1 : l = l.take k ++ (l.getD k 0 :: l.drop (k + 1)) := by
    have : l.getD k 0 = l[k] := by simp [List.getD, hk]
    rw [this]; simp
  have e2 : l.set k v = l.take k ++ (v :: l.drop (k + 1)) := by rw [List.set_eq_take_append_cons_drop, if_pos hk]
  have hw : l.getD k 0 < 256 := by
    have : l.getD k 0 = l[k] := by simp [List.getD, hk]
    rw [this]; exact hb _ (List.getElem_mem hk)
  rw [e2] at h
  conv at h => rhs; rw [e1]
  rw [run_app, run_app, run_cons, run_cons] at h
  have hx : run (0 ^^^ ones) (l.take k) < 4294967296 := run_lt _ _ (by decide) (fun c hc => hb c (List.mem_of_mem_take hc))
  have h := run_inj _ _ _ (stN_lt 8 (xor_lt32 hx (byte_lt32 hv))) (stN_lt 8 (xor_lt32 hx (byte_lt32 hw))) (fun c hc => hb c (List.mem_of_mem_drop hc)) h
  have h := stN_inj 8 (xor_lt32 hx (byte_lt32 hv)) (xor_lt32 hx (byte_lt32 hw)) h
  rw [Nat.xor_comm _ v, Nat.xor_comm _ (l.getD k 0)] at h
  exact hne (xor_can h).symm
end Go.Proofs.YthoaagkllkcacaaDoor
