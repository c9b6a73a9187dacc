/-
  num: the contracts of PutInt, laid, Put4, Put8, and of the references' Put, Size, Lay.
-/
import Derived.Test.YtfojelnnjhmggaaMake
namespace Go.Proofs.Ytfojelnnjhmggaa
open Go.RowKit

theorem putint_any {A : Option Addr} {n c : Nat} {l : List Nat} {x : Int} {w : World} (h : Lies w 1 A n c (byt l)) (h0 : -9223372036854775808 ≤ x) (h1 : x ≤ 9223372036854775807) (hn : n ≤ 140737488355300) :
    Calls Try.prog 20 #[.slice A n c, .int .i64 x] w fun e w' => ∃ v, e = .returned v ∧ w'.ownsRow w.heap.size 5 1 v (n + (bts (foldI x).toNat).length) (byt (l ++ bts (foldI x).toNat)) ∧ Below w.heap.size w w' := by
  have hf := foldI_bd h0 h1
  obtain ⟨f, hfe⟩ := Int.eq_ofNat_of_zero_le hf.1
  have H := Lib.hid hfe; clear hfe
  go_enter Try.func20, Try.ntmps20
  go_wp2_with (first
    | (go_at_call 10; refine (fold_any x _ h0 h1).mono ?_; rintro e w1 ⟨rfl, rfl⟩; rw [H.out])
    | (go_at_call 13; refine (put_any h (by have := H.out; omega) hn).mono ?_; rintro e w1 ⟨v, rfl, hown, hb⟩))
  go_ret
  refine ⟨_, rfl, ?_, hb⟩
  rw [H.out, Int.toNat_natCast]
  exact hown

set_option maxRecDepth 100000 in
theorem laid_any {x s : Nat} {w : World} (si : Int) (hsi : si = (s : Int)) (hx : x < 18446744073709551616) (hs : s ≤ 8) :
    Calls Try.prog 34 #[.int .u64 x, .int .i64 si] w fun e w' => ∃ v, e = .returned v ∧ w'.ownsRow w.heap.size 5 1 v s (byt (le s x)) ∧ Below w.heap.size w w' := by
  obtain ⟨i0, hi, hz0, hz1, hz2⟩ := info_parts info_u8
  have HX := Lib.hid hx; clear hx
  subst hsi
  go_enter Try.func34, Try.ntmps34
  go_wp2_with (at_make; refine wpList_make_full _ rfl _ _ 28 rfl w.heap.size 5 i0 (.int .u8 0) 1 Try.underlying28 hi hz0 hz1 .i64 .i64 _ _ s rfl rfl rfl rfl (by rw [hz2]; omega) (by simp only [maxLen]; omega) (Nat.le_refl _) ?_; intro w1 hown1 hg1)
  go_loopw [10] (fun i wr => ∃ k : Nat, k ≤ s ∧ i = .int .i64 k ∧ wr.ownsRow w.heap.size 5 1 (.slice (some ⟨w.heap.size, 0, none⟩) s s) s (byt (le k x) ++ List.replicate (s - k) (.int .u8 0)) ∧ Below w.heap.size w wr) (fun i _ => s - (intOf i).toNat)
  case atStart =>
    refine ⟨0, Nat.zero_le _, rfl, ?_, (Below.refl _ _).grown hg1 (Nat.le_refl _) (by simp)⟩
    have e : (madeCells (Value.int IntKind.u8 0).cells (s * 1)).toList = byt (le 0 x) ++ List.replicate (s - 0) (.int .u8 0) := by
      rw [Nat.mul_one]; exact toList_madeCells_one _ _
    rw [← e]
    exact hown1
  case round =>
    obtain ⟨k, hk, rfl, hown, hb⟩ := hrel
    by_cases hlt : k < s
    · have hc := hown.cellAt k (by omega)
      have hf := hown.frozenAt k
      have hg : (byt (le k x) ++ List.replicate (s - k) (.int .u8 0))[k]? = some (.int .u8 0) := by
        rw [List.getElem?_append_right (by rw [byt_len, le_len]; omega), byt_len, le_len]
        simp [show 0 < s - k by omega]
      rw [hg] at hc
      clear hg
      go_wp2
      have e : ((x : Int) / 2 ^ (8 * k) % 256) = ((x / 256 ^ k % 256 : Nat) : Int) := by rw [show (256 : Nat) = 2 ^ 8 from rfl, ← Nat.pow_mul]; simp
      have hst := hown.stored k (.int .u8 ((x : Int) / 2 ^ (8 * k) % 256))
      have hset : (byt (le k x) ++ List.replicate (s - k) (Value.int .u8 0)).set k (Value.int .u8 ((x : Int) / 2 ^ (8 * k) % 256)) = byt (le (k + 1) x) ++ List.replicate (s - (k + 1)) (.int .u8 0) := by
        rw [List.set_append_right _ _ (by rw [byt_len, le_len]; omega), byt_len, le_len, Nat.sub_self, show s - k = (s - (k + 1)) + 1 by omega, List.replicate_succ, List.set_cons_zero, e, le_snoc, byt_app]
        simp [byt]
      rw [hset] at hst
      go_roundw
      case rel => exact ⟨k + 1, by omega, by go_num, hst.1, hb.setCell (by simp) _⟩
      case measure => simp [intOf]; omega
    · have e : k = s := by omega
      subst e
      go_wp2
      go_ret
      refine ⟨_, rfl, ?_, hb⟩
      simpa using hown

theorem put4_any {A : Option Addr} {n c : Nat} {l : List Nat} {x : Nat} {w : World} (h : Lies w 1 A n c (byt l)) (hx : x < 4294967296) (hn : n ≤ 140737488355300) :
    Calls Try.prog 21 #[.slice A n c, .int .u32 x] w fun e w' => ∃ v, e = .returned v ∧ w'.ownsRow w.heap.size 5 1 v (n + 4) (byt (l ++ le 4 x)) ∧ Below w.heap.size w w' := by
  go_enter Try.func21, Try.ntmps21
  go_wp2_with fail
  refine (laid_any (s := 4) 4 rfl (by omega) (by omega)).mono ?_
  rintro e w1 ⟨v1, rfl, hown1, hb1⟩
  obtain ⟨A1, c1, rfl, h1⟩ := own_form hown1
  go_wp2_with (go_at_call 32; refine (joined_any (h.below hb1 (Nat.le_refl _)) h1 (byt_one _) (byt_one _) (by omega)).mono ?_; rintro e w2 ⟨v2, rfl, hown2, hb2⟩)
  go_ret
  exact ⟨_, rfl, by rw [byt_app]; exact hown2.mono hb1.size, hb1.trans (hb2.mono hb1.size)⟩
theorem put8_any {A : Option Addr} {n c : Nat} {l : List Nat} {x : Nat} {w : World} (h : Lies w 1 A n c (byt l)) (hx : x < 18446744073709551616) (hn : n ≤ 140737488355300) :
    Calls Try.prog 22 #[.slice A n c, .int .u64 x] w fun e w' => ∃ v, e = .returned v ∧ w'.ownsRow w.heap.size 5 1 v (n + 8) (byt (l ++ le 8 x)) ∧ Below w.heap.size w w' := by
  have HX := Lib.hid hx; clear hx
  go_enter Try.func22, Try.ntmps22
  go_wp2_with fail
  refine (laid_any (s := 8) 8 rfl HX.out (by omega)).mono ?_
  rintro e w1 ⟨v1, rfl, hown1, hb1⟩
  obtain ⟨A1, c1, rfl, h1⟩ := own_form hown1
  go_wp2_with (go_at_call 32; refine (joined_any (h.below hb1 (Nat.le_refl _)) h1 (byt_one _) (byt_one _) (by omega)).mono ?_; rintro e w2 ⟨v2, rfl, hown2, hb2⟩)
  go_ret
  exact ⟨_, rfl, by rw [byt_app]; exact hown2.mono hb1.size, hb1.trans (hb2.mono hb1.size)⟩
end Go.Proofs.Ytfojelnnjhmggaa
