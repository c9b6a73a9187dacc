/-
  num: the contracts of the functions that make no memory: Fold, Unfold, the references' too; Len64, Size.
-/
import Derived.Test.YtfojelnnjhmggaaMem
import Derived.Test.YtfojelnnjhmggaaPlain
import Derived.Test.YtfojelnnjhmggaaRows
import Derived.Outline
import Derived.Lib.Zigzag
import Derived.Laws.BitsAllLaws
import Derived.Lib.BitFns
import Derived.Lib.Small
import Derived.Lib.Walk
import Derived.Lib.Tables
namespace Go.Proofs.Ytfojelnnjhmggaa
open Go.RowKit

theorem ret_int {k : IntKind} {a b : Int} (h : a = b) : Ending.returned (.int k a) = .returned (.int k b) := by rw [h]

theorem xor_zero (a : Int) (h0 : 0 ≤ a) (h1 : a < 18446744073709551616) : bits .xor .u64 a 0 = a := by
  rw [u64_xor a 0 h0 h1 (by omega) (by omega)]
  simp
  omega
theorem xor_full (a : Int) (h0 : 0 ≤ a) (h1 : a < 18446744073709551616) : bits .xor .u64 a 18446744073709551615 = 18446744073709551615 - a := by
  rw [u64_xor a _ h0 h1 (by omega) (by omega), Nat.xor_comm]
  have := Lib.xor_ones64 a.toNat (by omega)
  have e : (18446744073709551615 : Int).toNat = 2 ^ 64 - 1 := by decide
  rw [e, this]
  omega
theorem fold_bits (n : Int) (h0 : -9223372036854775808 ≤ n) (h1 : n ≤ 9223372036854775807) :
    bits BinOp.xor IntKind.u64 (IntKind.u64.wrap (IntKind.u64.wrap n * 2)) (IntKind.u64.wrap (n / 9223372036854775808)) = foldI n := by
  simp only [IntKind.wrap_u64]
  unfold foldI
  split
  · have e : n / 9223372036854775808 % 18446744073709551616 = 0 := by omega
    rw [e, xor_zero _ (by omega) (by omega)]; omega
  · have e : n / 9223372036854775808 % 18446744073709551616 = 18446744073709551615 := by omega
    rw [e, xor_full _ (by omega) (by omega)]; omega
theorem xor_comm64 (a b : Int) : bits .xor .i64 a b = bits .xor .i64 b a := by
  show IntKind.i64.wrap ((BitVec.ofInt 64 a ^^^ BitVec.ofInt 64 b).toNat : Int) = IntKind.i64.wrap ((BitVec.ofInt 64 b ^^^ BitVec.ofInt 64 a).toNat : Int)
  rw [BitVec.xor_comm]
theorem xor_zero64 (a : Int) (h0 : 0 ≤ a) (h1 : a ≤ 9223372036854775807) : bits .xor .i64 a 0 = a := by
  show IntKind.i64.wrap ((BitVec.ofInt 64 a ^^^ BitVec.ofInt 64 0).toNat : Int) = a
  obtain ⟨x, rfl⟩ := Int.eq_ofNat_of_zero_le h0
  rw [BitVec.toNat_xor, BitVec.ofInt_natCast, BitVec.toNat_ofNat, Nat.mod_eq_of_lt (by omega), IntKind.wrap_i64]
  have : (BitVec.ofInt 64 0).toNat = 0 := by decide
  rw [this, Nat.xor_zero]
  omega
theorem unfold_bits (n : Int) (h0 : 0 ≤ n) (h1 : n < 18446744073709551616) :
    bits BinOp.xor IntKind.i64 (n / 2) (wrap64 (-wrap64 (bits BinOp.and IntKind.u64 n 1))) = unfoldI n := by
  rw [Lib.u64_and1 n h0 h1]
  unfold unfoldI
  split
  · rename_i h
    rw [h, show wrap64 (-wrap64 0) = 0 from by rw [IntWalk.wrap64_in 0 ⟨by omega, by omega⟩]; exact IntWalk.wrap64_in _ ⟨by omega, by omega⟩]
    exact xor_zero64 _ (by omega) (by omega)
  · have h : n % 2 = 1 := by omega
    rw [h]
    have e : wrap64 (-wrap64 1) = -1 := by rw [IntWalk.wrap64_in 1 ⟨by omega, by omega⟩]; exact IntWalk.wrap64_in _ ⟨by omega, by omega⟩
    rw [e, xor_comm64]
    obtain ⟨x, hx⟩ := Int.eq_ofNat_of_zero_le (show 0 ≤ n / 2 by omega)
    rw [hx, Lib.i64_not x (by omega)]

theorem fold_any (n : Int) (w : World) (h0 : -9223372036854775808 ≤ n) (h1 : n ≤ 9223372036854775807) :
    Calls Try.prog 10 #[.int .i64 n] w fun e w' => e = .returned (.int .u64 (foldI n)) ∧ w = w' := by
  go_enter Try.func10, Try.ntmps10
  go_wp2
  go_ret
  exact ⟨ret_int (fold_bits n h0 h1), rfl⟩
theorem unfold_any (n : Int) (w : World) (h0 : 0 ≤ n) (h1 : n < 18446744073709551616) :
    Calls Try.prog 12 #[.int .u64 n] w fun e w' => e = .returned (.int .i64 (unfoldI n)) ∧ w = w' := by
  go_enter Try.func12, Try.ntmps12
  go_wp2
  go_ret
  exact ⟨ret_int (unfold_bits n h0 h1), rfl⟩
theorem rfold_any (n : Int) (w : World) (h0 : -9223372036854775808 ≤ n) (h1 : n ≤ 9223372036854775807) :
    Calls Try.prog 24 #[.int .i64 n] w fun e w' => e = .returned (.int .u64 (foldI n)) ∧ w = w' := by
  go_enter Try.func24, Try.ntmps24
  go_wp2
  · go_ret
    exact ⟨ret_int (by unfold foldI; rw [if_pos (by assumption)]), rfl⟩
  · go_ret
    have h : n < 0 := by assumption
    exact ⟨ret_int (by unfold foldI; rw [if_neg (by omega)]; omega), rfl⟩
theorem runfold_any (n : Int) (w : World) (h0 : 0 ≤ n) (h1 : n < 18446744073709551616) :
    Calls Try.prog 28 #[.int .u64 n] w fun e w' => e = .returned (.int .i64 (unfoldI n)) ∧ w = w' := by
  go_enter Try.func28, Try.ntmps28
  go_wp2
  · go_ret
    have h : (n % 2 == 0) = true := by assumption
    exact ⟨ret_int (by unfold unfoldI; rw [if_pos (by simpa using h)]), rfl⟩
  · go_ret
    have h : (n % 2 == 0) = false := by assumption
    exact ⟨ret_int (by unfold unfoldI; rw [if_neg (by simpa using h)]), rfl⟩
theorem len_get (i : Int) (h0 : 0 ≤ i) (h : i.toNat < Lib.len8tab.size) : ((Lib.len8tab[i.toNat]'h).toNat : Int) = (Lib.bitLen i.toNat : Int) ∧ Lib.bitLen i.toNat ≤ 8 := by
  have hs : Lib.len8tab.size = 256 := Lib.len8tab_size
  have h1 := Lib.len8_of i h0 (by omega)
  refine ⟨?_, Lib.bitLen_le8' i h0 (by omega)⟩
  rw [← h1]
  unfold Lib.len8
  rw [getElem?_pos Lib.len8tab i.toNat h]
  rfl
theorem len_close0 (n : Int) (h0 : 0 ≤ n) (h : n.toNat < Lib.len8tab.size) : wrap64 (wrap64 ((Lib.len8tab[n.toNat]'h).toNat : Int)) = (Lib.bitLen n.toNat : Int) := by
  obtain ⟨e, l⟩ := len_get n h0 h
  rw [e, IntWalk.wrap64_in (Lib.bitLen n.toNat : Int) ⟨by omega, by omega⟩, IntWalk.wrap64_in _ ⟨by omega, by omega⟩]
theorem len_close (k : Nat) (c n i : Int) (hc : c = (k : Int)) (h0 : 0 ≤ i) (hi : i.toNat = n.toNat / 2 ^ k) (hk : 2 ^ k ≤ n.toNat) (h1 : n < 18446744073709551616) (hk2 : k ≤ 64) (h : i.toNat < Lib.len8tab.size) :
    wrap64 (c + wrap64 ((Lib.len8tab[i.toNat]'h).toNat : Int)) = (Lib.bitLen n.toNat : Int) := by
  obtain ⟨e, l⟩ := len_get i h0 h
  have hs := Lib.bitLen_shift k n.toNat hk (by omega)
  subst hc
  rw [e, IntWalk.wrap64_in (Lib.bitLen i.toNat : Int) ⟨by omega, by omega⟩, hs, ← hi, IntWalk.wrap64_in _ ⟨by omega, by omega⟩]
  omega
set_option maxRecDepth 100000 in
set_option maxHeartbeats 1000000 in
theorem len64_any (n : Int) (w : World) (h0 : 0 ≤ n) (h1 : n < 18446744073709551616) :
    Calls Try.prog 35 #[.int .u64 n] w fun e w' => e = .returned (.int .i64 (Lib.bitLen n.toNat)) ∧ w = w' := by
  have hs : (Lib.len8tab.size : Int) = 256 := by rw [Lib.len8tab_size]; rfl
  go_enter Try.func35, Try.ntmps35
  go_wp2
  all_goals go_ret
  · exact ⟨ret_int (len_close 56 _ n _ rfl (by omega) (by omega) (by omega) h1 (by omega) _), rfl⟩
  · exact ⟨ret_int (len_close 48 _ n _ rfl (by omega) (by omega) (by omega) h1 (by omega) _), rfl⟩
  · exact ⟨ret_int (len_close 40 _ n _ rfl (by omega) (by omega) (by omega) h1 (by omega) _), rfl⟩
  · exact ⟨ret_int (len_close 32 _ n _ rfl (by omega) (by omega) (by omega) h1 (by omega) _), rfl⟩
  · exact ⟨ret_int (len_close 24 _ n _ rfl (by omega) (by omega) (by omega) h1 (by omega) _), rfl⟩
  · exact ⟨ret_int (len_close 16 _ n _ rfl (by omega) (by omega) (by omega) h1 (by omega) _), rfl⟩
  · exact ⟨ret_int (len_close 8 _ n _ rfl (by omega) (by omega) (by omega) h1 (by omega) _), rfl⟩
  · exact ⟨ret_int (len_close0 n h0 _), rfl⟩

theorem pow7 (m : Nat) : 128 ^ m = 2 ^ (7 * m) := by rw [Nat.pow_mul]
/-- Seven bits in each byte. -/
theorem size_bts (n : Nat) (hn : n < 18446744073709551616) : max ((Lib.bitLen n + 7 - 1) / 7) 1 = (bts n).length ∧ Lib.bitLen n ≤ 64 := by
  have hn' : n < 128 ^ 10 := by have := pow64; omega
  have hp := bts_pos n hn'
  obtain ⟨m, hm⟩ : ∃ m, (bts n).length = m + 1 := ⟨(bts n).length - 1, by omega⟩
  have h1 := (bts_size m n hn').1 (by omega)
  rw [pow7] at h1
  have hle := Lib.bitLenAux_le 64 n _ h1
  refine ⟨?_, Lib.bitLen_le n 64 (by omega) (by omega)⟩
  change Lib.bitLen n ≤ 7 * (m + 1) at hle
  rw [hm]
  rcases m with _ | m
  · omega
  · have h2 : ¬ n < 128 ^ (m + 1) := fun h => by have := (bts_size m n hn').2 h; omega
    rw [pow7] at h2
    have hs := Lib.bitLen_shift (7 * (m + 1)) n (by omega) (by omega)
    have hq : n / 2 ^ (7 * (m + 1)) ≠ 0 := by
      have : 1 ≤ n / 2 ^ (7 * (m + 1)) := (Nat.one_le_div_iff (Nat.pow_pos (by decide))).2 (by omega)
      omega
    have hh := Lib.bitLen_half _ hq (Nat.lt_of_le_of_lt (Nat.div_le_self _ _) (by omega))
    omega
theorem size_any (n : Int) (w : World) (h0 : 0 ≤ n) (h1 : n < 18446744073709551616) :
    Calls Try.prog 26 #[.int .u64 n] w fun e w' => e = .returned (.int .i64 ((bts n.toNat).length : Int)) ∧ w = w' := by
  obtain ⟨l, hl⟩ : ∃ l, l = Lib.bitLen n.toNat := ⟨_, rfl⟩
  obtain ⟨hz, hb⟩ := size_bts n.toNat (by omega)
  rw [← hl] at hb hz
  have H := Lib.hid hl; clear hl
  have Z := Lib.hid hz; clear hz
  go_enter Try.func26, Try.ntmps26
  go_wp2_with (go_at_call 35; refine (len64_any n _ h0 h1).mono ?_; rintro e w' ⟨rfl, rfl⟩; rw [← H.out])
  go_ret
  have hz := Z.out
  exact ⟨ret_int (by omega), rfl⟩
end Go.Proofs.Ytfojelnnjhmggaa
