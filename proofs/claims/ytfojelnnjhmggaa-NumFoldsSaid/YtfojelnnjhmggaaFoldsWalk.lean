/-
  num: the walk of NumFolds.
-/
import Derived.Test.YtfojelnnjhmggaaAwake
namespace Go.Proofs.Ytfojelnnjhmggaa
open Go.RowKit

theorem side_bits {a : Int} (h0 : 0 ≤ a) (h1 : a < 18446744073709551616) (h : a % 2 = 0) : bits .xor .u64 a (a + 1) = 1 := by
  rw [u64_xor _ _ h0 h1 (by omega) (by omega)]
  obtain ⟨k, hk⟩ : ∃ k : Nat, a.toNat = 2 * k := ⟨a.toNat / 2, by omega⟩
  have e : (a + 1).toNat = 2 * k + 1 := by omega
  rw [hk, e]
  have : 2 * k ^^^ (2 * k + 1) = 1 := by
    apply Nat.eq_of_testBit_eq
    intro i
    rw [Nat.testBit_xor]
    cases i with
    | zero => simp
    | succ i => rw [Nat.testBit_succ, Nat.testBit_succ, Nat.testBit_succ, show 2 * k / 2 = k by omega, show (2 * k + 1) / 2 = k by omega]; simp
  rw [this]
  rfl
theorem other_bits {n : Int} (h0 : -9223372036854775808 ≤ n) (h1 : n ≤ 9223372036854775807) : bits .xor .u64 (foldI n) (foldI (-n - 1)) = 1 := by
  have hb := foldI_bd h0 h1
  rw [fold_other]
  have hm := fold_mod n
  split
  · rename_i h
    rw [if_pos h] at hm
    exact side_bits hb.1 hb.2 hm
  · rename_i h
    rw [if_neg h] at hm
    have := side_bits (a := foldI n - 1) (by omega) (by omega) (by omega)
    rw [show foldI n - 1 + 1 = foldI n by omega] at this
    have hc : bits .xor .u64 (foldI n) (foldI n - 1) = bits .xor .u64 (foldI n - 1) (foldI n) := by
      show IntKind.u64.wrap ((BitVec.ofInt 64 _ ^^^ BitVec.ofInt 64 _).toNat : Int) = IntKind.u64.wrap ((BitVec.ofInt 64 _ ^^^ BitVec.ofInt 64 _).toNat : Int)
      rw [BitVec.xor_comm]
    rw [hc]; exact this
theorem neg_wrap {n : Int} (h0 : -9223372036854775808 ≤ n) (h1 : n ≤ 9223372036854775807) : wrap64 (wrap64 (-n) - 1) = -n - 1 := by
  unfold wrap64
  omega
set_option maxRecDepth 100000 in
set_option maxHeartbeats 1000000 in
theorem folds_any (n m : Int) (w : World) (h0 : -9223372036854775808 ≤ n) (h1 : n ≤ 9223372036854775807) (h2 : 0 ≤ m) (h3 : m < 18446744073709551616) :
    Calls Try.prog 3 #[.int .i64 n, .int .u64 m] w fun e w' => e = .returned (.bool true) ∧ Below w.heap.size w w' := by
  have hw := neg_wrap h0 h1
  have hx := other_bits h0 h1
  have hb := foldI_bd h0 h1
  have hu := unfoldI_bd h2 h3
  have hy : bits .and .u64 (foldI n) 1 = if 0 ≤ n then 0 else 1 := by rw [Lib.u64_and1 _ hb.1 hb.2, fold_mod]
  have HU := Lib.hid hu; have HB := Lib.hid hb
  clear hu hb
  by_cases hn : 0 ≤ n
  all_goals
    first | rw [if_pos hn] at hy | rw [if_neg hn] at hy
    go_enter Try.func3, Try.ntmps3
    go_wp2_with fail
    refine (fold_any n _ h0 h1).mono ?_
    rintro e w1 ⟨rfl, rfl⟩
    go_wp2_with fail
    refine (fold_any (-n - 1) _ (by omega) (by omega)).mono ?_
    rintro e w1 ⟨rfl, rfl⟩
    go_wp2_with fail
    refine awake_any.mono ?_
    rintro e w1 ⟨rfl, hb1⟩
    go_wp2_with fail
    refine (unfold_at (foldI n) n _ (unfold_fold n) HB.out.1 HB.out.2).mono ?_
    rintro e w2 ⟨rfl, rfl⟩
    go_wp2_with fail
    refine (unfold_any m _ h2 h3).mono ?_
    rintro e w2 ⟨rfl, rfl⟩
    go_wp2_with fail
    refine (fold_at (unfoldI m) m _ (fold_unfold h2) HU.out.1 HU.out.2).mono ?_
    rintro e w2 ⟨rfl, rfl⟩
    go_wp2
    go_ret
    refine ⟨?_, hb1⟩
    first | rfl | (show Ending.returned (.bool (!decide (0 ≤ n))) = _; simp [hn])
end Go.Proofs.Ytfojelnnjhmggaa
