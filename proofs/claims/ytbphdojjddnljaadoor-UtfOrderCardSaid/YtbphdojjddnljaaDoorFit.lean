/-
  utf: the order of bytes and of texts; the contract of UtfOrder's own closure.
-/
import Derived.Test.YtbphdojjddnljaaDoorSizesWalk
namespace Go.Proofs.YtbphdojjddnljaaDoor
open Go.RowKit
set_option linter.unusedSimpArgs false

/-- Which row is less. -/
def lex : List Nat → List Nat → Bool
  | _, [] => false
  | [], _ :: _ => true
  | a :: r, b :: s => decide (a < b) || (decide (a = b) && lex r s)
theorem lex_app (p a b : List Nat) : lex (p ++ a) (p ++ b) = lex a b := by
  induction p with
  | nil => rfl
  | cons x p ih =>
    have e : decide (x < x) = false := by simp
    simp only [List.cons_append, lex, ih, e, Bool.false_or, decide_true, Bool.true_and]
theorem lex_self (a : List Nat) : lex a a = false := by
  have := lex_app a [] []
  simpa [lex] using this
theorem lex_more (a : List Nat) (y : Nat) (r : List Nat) : lex a (a ++ y :: r) = true ∧ lex (a ++ y :: r) a = false := by
  have h1 := lex_app a [] (y :: r)
  have h2 := lex_app a (y :: r) []
  rw [List.append_nil] at h1 h2
  exact ⟨h1, h2⟩
theorem bytes_lex : ∀ (a b : List Nat), (∀ x ∈ a, x < 256) → (∀ x ∈ b, x < 256) → Op.bytesLess (a.map UInt8.ofNat) (b.map UInt8.ofNat) = lex a b
  | [], [], _, _ => rfl
  | [], _ :: _, _, _ => rfl
  | _ :: _, [], _, _ => rfl
  | x :: a, y :: b, ha, hb => by
    have hx := ha x (by simp)
    have hy := hb y (by simp)
    have ih := bytes_lex a b (fun z hz => ha z (by simp [hz])) (fun z hz => hb z (by simp [hz]))
    have ex : (UInt8.ofNat x).toNat = x := by simp [Nat.mod_eq_of_lt hx]
    have ey : (UInt8.ofNat y).toNat = y := by simp [Nat.mod_eq_of_lt hy]
    have h1 : (UInt8.ofNat x == UInt8.ofNat y) = decide (x = y) := by
      rw [Bool.eq_iff_iff, beq_iff_eq, decide_eq_true_eq, ← UInt8.toNat_inj, ex, ey]
    have h2 : decide (UInt8.ofNat x < UInt8.ofNat y) = decide (x < y) := by
      rw [Bool.eq_iff_iff, decide_eq_true_eq, decide_eq_true_eq, UInt8.lt_iff_toNat_lt, ex, ey]
    simp only [List.map_cons, Op.bytesLess, lex, h1, h2, ih]
theorem str_lex {a b : List Nat} (ha : ∀ x ∈ a, x < 256) (hb : ∀ x ∈ b, x < 256) : Op.bytesLess (str a).toList (str b).toList = lex a b := by
  have hd : ∀ s : ByteArray, s.toList = s.data.toList := fun s => ByteArray.toList_eq s
  rw [hd, hd, str_list, str_list, bytes_lex a b ha hb]
theorem one_lex {c d : Nat} (hc : mayI (c : Int) = true) (hd : mayI (d : Int) = true) (hne : c ≠ d) (r s : List Nat) : lex (one c ++ r) (one d ++ s) = decide (c < d) := by
  have h1 := may_le hc
  have h2 := may_le hd
  rw [Bool.eq_iff_iff, decide_eq_true_eq]
  unfold one
  by_cases hP : lex r s = true
  all_goals
    split <;> (try split) <;> (try split) <;> (try split) <;> (try split) <;> (try split)
    all_goals
      simp only [List.cons_append, List.nil_append, lex, Bool.or_eq_true, Bool.and_eq_true, decide_eq_true_eq, hP, and_true, and_false, or_false]
      omega
theorem encL_at {t : List Nat} {k c : Nat} (h : t[k]? = some c) : encL t = encL (t.take k) ++ (one c ++ encL (t.drop (k + 1))) := by
  have hj := (List.getElem?_eq_some_iff.1 h).1
  have e1 : t = t.take k ++ (c :: t.drop (k + 1)) := by
    have : t.drop k = c :: t.drop (k + 1) := by
      rw [List.drop_eq_getElem_cons hj, (List.getElem?_eq_some_iff.1 h).2]
    rw [← this, List.take_append_drop]
  conv => lhs; rw [e1]
  rw [encL_app, encL_cons]
theorem upN_inj {s t : List Nat} (h : upN s = upN t) : s = t := by
  have h1 := congrArg (List.map Int.toNat) h
  unfold upN at h1
  rw [List.map_map, List.map_map] at h1
  have e : (Int.toNat ∘ fun c : Nat => (c : Int)) = id := by funext x; simp
  rw [e, List.map_id, List.map_id] at h1
  exact h1
/-- The first place at which two texts differ decides. -/
theorem order_diff {s t : List Nat} (hs : valid s) (ht : valid t) {k c d : Nat} (hk : s.take k = t.take k) (hc : s[k]? = some c) (hd : t[k]? = some d) (hne : c ≠ d) : lex (encL s) (encL t) = decide (c < d) ∧ decide (encL s = encL t) = false ∧ decide (upN s = upN t) = false := by
  have hst : s ≠ t := fun e => by subst e; rw [hc] at hd; injection hd with hd; exact hne hd
  refine ⟨?_, ?_, ?_⟩
  · rw [encL_at hc, encL_at hd, hk, lex_app, one_lex (hs c (List.mem_of_getElem? hc)) (ht d (List.mem_of_getElem? hd)) hne]
  · simp only [decide_eq_false_iff_not]
    intro e
    exact hst (encL_inj hs ht e)
  · simp only [decide_eq_false_iff_not]
    intro e
    exact hst (upN_inj e)
theorem one_ne (c : Nat) : ∃ x r, one c = x :: r := by
  unfold one
  split
  · exact ⟨_, _, rfl⟩
  · split
    · exact ⟨_, _, rfl⟩
    · split
      · exact ⟨_, _, rfl⟩
      · exact ⟨_, _, rfl⟩
theorem order_end {s t : List Nat} (hs : valid s) (ht : valid t) {k : Nat} (hk : s.take k = t.take k) (he : k = s.length ∧ k ≤ t.length ∨ k = t.length ∧ k ≤ s.length) : lex (encL s) (encL t) = decide (s.length < t.length) ∧ decide (encL s = encL t) = decide (upN s = upN t) := by
  have hu : decide (upN s = upN t) = decide (s = t) := by
    rw [Bool.eq_iff_iff, decide_eq_true_eq, decide_eq_true_eq]
    constructor
    · exact upN_inj
    · intro e; rw [e]
  have hen : decide (encL s = encL t) = decide (s = t) := by
    rw [Bool.eq_iff_iff, decide_eq_true_eq, decide_eq_true_eq]
    exact ⟨fun e => encL_inj hs ht e, fun e => by rw [e]⟩
  refine ⟨?_, by rw [hu, hen]⟩
  rcases he with ⟨h1, h2⟩ | ⟨h1, h2⟩
  · rw [List.take_of_length_le (by omega)] at hk
    by_cases hlt : k < t.length
    · obtain ⟨d, hd⟩ : ∃ d, t[k]? = some d := ⟨_, List.getElem?_eq_getElem hlt⟩
      obtain ⟨x, r, hx⟩ := one_ne d
      have e : encL t = encL s ++ (x :: (r ++ encL (t.drop (k + 1)))) := by rw [encL_at hd, ← hk, hx]; rfl
      rw [e, (lex_more _ _ _).1]
      simp; omega
    · have e : s = t := by rw [hk, List.take_of_length_le (by omega)]
      rw [e, lex_self]
      simp
  · rw [List.take_of_length_le (l := t) (by omega)] at hk
    by_cases hlt : k < s.length
    · obtain ⟨d, hd⟩ : ∃ d, s[k]? = some d := ⟨_, List.getElem?_eq_getElem hlt⟩
      obtain ⟨x, r, hx⟩ := one_ne d
      have e : encL s = encL t ++ (x :: (r ++ encL (s.drop (k + 1)))) := by rw [encL_at hd, hk, hx]; rfl
      rw [e, (lex_more _ _ _).2]
      simp; omega
    · have e : s = t := by rw [← hk, List.take_of_length_le (by omega)]
      rw [e, lex_self]
      simp
theorem own_form1 {w : World} {b n c : Nat} {e : TypeId} {A : Option Addr} {xs : List Value} (h : w.ownsRow b e 1 (.slice A n c) n xs) (hn : 0 < n) : ∃ g, A = some ⟨g, 0, none⟩ ∧ b ≤ g ∧ g < w.heap.size := by
  rcases h.2 with ⟨_, h5⟩ | ⟨g, cap, cur, hv, hg, _⟩
  · omega
  · injection hv with hA _ hc
    subst hA hc
    exact ⟨g, rfl, hg, (h.lt g rfl).2⟩
theorem i32_mask (z : Int) : 0 ≤ bits .and .i32 z 32767 ∧ bits .and .i32 z 32767 ≤ 32767 := by
  have e : bits .and .i32 z 32767 = IntKind.i32.wrap ((BitVec.ofInt 32 z &&& BitVec.ofInt 32 32767).toNat : Int) := rfl
  have h2 : (BitVec.ofInt 32 32767).toNat = 32767 := by decide
  have h3 : (BitVec.ofInt 32 z &&& BitVec.ofInt 32 32767).toNat ≤ 32767 := by
    rw [BitVec.toNat_and, h2]
    exact Nat.and_le_right
  rw [e, IntKind.wrap_i32]
  omega
theorem fit_step (z : Int) : ∃ c : Nat, mayI (c : Int) = true ∧ (mayI z = true → z = (c : Int)) ∧ (mayI z = false → bits .and .i32 z 32767 = (c : Int)) := by
  cases hz : mayI z with
  | true =>
    obtain ⟨c, rfl⟩ := Int.eq_ofNat_of_zero_le ((mayI_iff z).1 hz).1
    exact ⟨c, hz, fun _ => rfl, (fun h => by cases h)⟩
  | false =>
    have h := i32_mask z
    obtain ⟨c, hc⟩ := Int.eq_ofNat_of_zero_le h.1
    exact ⟨c, (mayI_iff c).2 (by omega), (fun h => by cases h), fun _ => hc⟩
theorem chs_set (l : List Int) (j : Nat) (y : Int) : (chs l).set j (.int .i32 y) = chs (l.set j y) := by simp [chs, List.map_set]
set_option maxRecDepth 100000 in
set_option maxHeartbeats 1000000 in
theorem fit_any {A : Option Addr} {n ca : Nat} {zs : List Int} {w : World} (hA : Lies w 1 A n ca (chs zs)) (hn : ca * 4 ≤ 140737488351232) :
    Calls Tryd.prog 21 #[.slice A n ca] w fun e w' => ∃ (t : List Nat) (A' : Option Addr) (c' : Nat), e = .returned (.slice A' n c') ∧ t.length = n ∧ valid t ∧ w'.ownsRow w.heap.size 24 1 (.slice A' n c') n (chs (upN t)) ∧ Grow w w' := by
  have hla := hA.chs_len
  have hle := hA.le
  have hbig := hA.big
  have HLA := Lib.hid hla
  clear hla
  go_enter Tryd.func21, Tryd.ntmps21
  go_wp2_with (at_builtin; refine wpList_appC rfl (.const (.slice none 0 0)) (.tmp 5) rfl w.heap.size _ 0 [] rfl (own_nilC _ _) A n ca zs rfl hA (by omega) (Nat.le_refl _) ?_; intro A1 c1 w1 own1 L1 bel1)
  have hb1 := bel1 _ _ (Below.refl _ w) (Nat.le_refl _)
  simp only [Nat.zero_add, List.nil_append] at own1 L1 ⊢
  have hle1 := L1.le
  have hbig1 := L1.big
  clear bel1 L1
  go_loopw [4] (fun i wr => ∃ (k : Nat) (t : List Nat), k ≤ n ∧ i = .int .i64 k ∧ Hid (t.length = k ∧ valid t) ∧ wr.ownsRow w.heap.size 24 1 (.slice A1 n c1) n (chs (upN t ++ zs.drop k)) ∧ Below w.heap.size w wr) (fun i _ => n - (intOf i).toNat)
  case atStart => exact ⟨0, [], Nat.zero_le _, rfl, ⟨rfl, fun c hc => (by cases hc)⟩, by simpa [upN] using own1, hb1⟩
  case round =>
    obtain ⟨k, t, hk, rfl, ht, own, hb⟩ := hrel
    by_cases hlt : k < n
    · obtain ⟨g, rfl, hgb, -⟩ := own_form1 own (by omega)
      obtain ⟨z, hz⟩ : ∃ z, zs[k]? = some z := ⟨_, List.getElem?_eq_getElem (by have := HLA.out; omega)⟩
      obtain ⟨c, hc1, hc2, hc3⟩ := fit_step z
      have hdr : zs.drop k = z :: zs.drop (k + 1) := by
        have hkl : k < zs.length := by have := HLA.out; omega
        rw [List.drop_eq_getElem_cons hkl, (List.getElem?_eq_some_iff.1 hz).2]
      have hcell := own.cellAt k (by omega)
      have hfree := own.frozenAt k
      have e1 : (chs (upN t ++ zs.drop k))[k]? = some (Value.int .i32 z) := by
        rw [hdr, chs_app, List.getElem?_append_right (by rw [chs_len, upN_len, ht.out.1]; exact Nat.le_refl _), chs_len, upN_len, ht.out.1]
        simp [chs]
      rw [e1] at hcell
      have ht2 : (t ++ [c]).length = k + 1 ∧ valid (t ++ [c]) := by
        refine ⟨by rw [List.length_append, ht.out.1]; rfl, fun x hx => ?_⟩
        rcases List.mem_append.1 hx with hx | hx
        · exact ht.out.2 x hx
        · simp at hx; subst hx; exact hc1
      have hset : (upN t ++ zs.drop k).set k (c : Int) = upN (t ++ [c]) ++ zs.drop (k + 1) := by
        rw [List.set_append_right _ _ (by rw [upN_len, ht.out.1]; exact Nat.le_refl _), upN_len, ht.out.1, Nat.sub_self, hdr, List.set_cons_zero, upN_app, List.append_assoc]
        rfl
      have HT2 := Lib.hid ht2; have HC1 := Lib.hid hc1
      cases hm : mayI z with
      | true =>
        have hzc := hc2 hm
        have own2 : wr.ownsRow w.heap.size 24 1 (.slice (some ⟨g, 0, none⟩) n c1) n (chs (upN (t ++ [c]) ++ zs.drop (k + 1))) := by
          rw [← hset, hdr, hzc, List.set_append_right _ _ (by rw [upN_len, ht.out.1]; exact Nat.le_refl _), upN_len, ht.out.1, Nat.sub_self, List.set_cons_zero, ← hzc, ← hdr]
          exact own
        have HM := Lib.hid hm
        clear hdr e1 ht2 hset hc1 hc2 hc3 hm hzc hz own ht
        go_wp2_with fail
        refine (may_at true HM.out).mono ?_
        rintro e w2 ⟨rfl, rfl⟩
        go_wp2_with fail
        refine (may_at true HM.out).mono ?_
        rintro e w2 ⟨rfl, rfl⟩
        go_wp2
        go_roundw
        case rel => exact ⟨k + 1, t ++ [c], by omega, by go_num, HT2.out, own2, hb⟩
        case measure => simp [intOf]; omega
      | false =>
        have hzc := hc3 hm
        have hst := own.stored k (.int .i32 (c : Int))
        rw [chs_set, hset] at hst
        have hb2 := hb.setCell (p := ⟨g, k, none⟩) hgb (.int .i32 (c : Int))
        have HM := Lib.hid hm; have HST := Lib.hid hst.1; have HBB := Lib.hid hb2
        clear hdr e1 ht2 hset hc1 hc2 hc3 hm hz own ht hst hb hb2
        go_wp2_with fail
        refine (may_at false HM.out).mono ?_
        rintro e w2 ⟨rfl, rfl⟩
        go_wp2_with fail
        refine (may_at true HC1.out).mono ?_
        rintro e w2 ⟨rfl, rfl⟩
        go_wp2
        go_roundw
        case rel => exact ⟨k + 1, t ++ [c], by omega, by go_num, HT2.out, HST.out, HBB.out⟩
        case measure => simp [intOf]; omega
    · obtain rfl : k = n := by omega
      have e : zs.drop k = [] := List.drop_eq_nil_of_le (by rw [HLA.out]; exact Nat.le_refl _)
      rw [e, List.append_nil] at own
      clear e
      go_wp2
      go_ret
      exact ⟨t, A1, c1, rfl, ht.out.1, ht.out.2, own, hb⟩
end Go.Proofs.YtbphdojjddnljaaDoor

