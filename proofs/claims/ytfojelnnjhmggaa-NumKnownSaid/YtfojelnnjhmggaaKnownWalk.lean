/-
  num: the walk of NumKnown.
-/
import Derived.Test.YtfojelnnjhmggaaAwake
namespace Go.Proofs.Ytfojelnnjhmggaa
open Go.RowKit

theorem get4_at {A : Option Addr} {n c : Nat} {w : World} (l : List Nat) (v k : Int) (h : Lies w 1 A n c (byt l)) (hl : ∀ x ∈ l, x < 256) (hv : (fv 4 l : Int) = v) (hk : (fe 4 l : Int) = k) :
    Calls Try.prog 16 #[.slice A n c] w fun e w' => e = .returned (.tuple #[.int .u32 v, .int .i64 k]) ∧ w = w' := by
  subst hv hk
  exact get4_any h hl
theorem get8_at {A : Option Addr} {n c : Nat} {w : World} (l : List Nat) (v k : Int) (h : Lies w 1 A n c (byt l)) (hl : ∀ x ∈ l, x < 256) (hv : (fv 8 l : Int) = v) (hk : (fe 8 l : Int) = k) :
    Calls Try.prog 17 #[.slice A n c] w fun e w' => e = .returned (.tuple #[.int .u64 v, .int .i64 k]) ∧ w = w' := by
  subst hv hk
  exact get8_any h hl

set_option maxRecDepth 100000 in
set_option maxHeartbeats 4000000 in
theorem known_any {w : World} :
    Calls Try.prog 6 #[] w fun e w' => e = .returned (.bool true) ∧ Below w.heap.size w w' := by
  obtain ⟨i0, hi, hz0, hz1, hz2⟩ := info_parts info_u8
  go_enter Try.func6, Try.ntmps6
  go_wp2_with fail
  refine (get_at [255, 255, 255, 255, 255, 255, 255, 255, 255, 1] 18446744073709551615 10 0 (lies_lit _ 10 (by simp) rfl rfl (by decide)) (by decide) (by decide) (by decide) (by decide)).mono ?_
  rintro e w1 ⟨rfl, rfl⟩
  go_wp2_with fail
  refine (get_at [255, 255, 255, 255, 255, 255, 255, 255, 255, 2] 0 0 5 (lies_lit _ 10 (by simp) rfl rfl (by decide)) (by decide) (by decide) (by decide) (by decide)).mono ?_
  rintro e w1 ⟨rfl, rfl⟩
  go_wp2_with fail
  refine (get_at [255, 255, 255, 255, 255, 255, 255, 255, 255, 0] 0 0 5 (lies_lit _ 10 (by simp) rfl rfl (by decide)) (by decide) (by decide) (by decide) (by decide)).mono ?_
  rintro e w1 ⟨rfl, rfl⟩
  go_wp2_with fail
  refine (get_at [255, 255, 255, 255, 255, 255, 255, 255, 255, 255] 0 0 5 (lies_lit _ 10 (by simp) rfl rfl (by decide)) (by decide) (by decide) (by decide) (by decide)).mono ?_
  rintro e w1 ⟨rfl, rfl⟩
  go_wp2_with fail
  refine (get_at [255, 255, 255, 255, 255, 255, 255, 255, 255] 0 0 4 ((lies_lit [255, 255, 255, 255, 255, 255, 255, 255, 255, 255] 10 (by simp) rfl rfl (by decide)).takeb 9 (by decide)) (by decide) (by decide) (by decide) (by decide)).mono ?_
  rintro e w1 ⟨rfl, rfl⟩
  go_wp2_with fail
  refine (get_at [] 0 0 4 (Lies.nil _ _) (by decide) (by decide) (by decide) (by decide)).mono ?_
  rintro e w1 ⟨rfl, rfl⟩
  go_wp2_with fail
  refine (get4_at [1, 2, 3] 0 4 (lies_lit _ 3 (by simp) rfl rfl (by decide)) (by decide) (by decide) (by decide)).mono ?_
  rintro e w1 ⟨rfl, rfl⟩
  go_wp2_with (at_make; refine wpList_make_full _ rfl _ _ 28 rfl w.heap.size 5 i0 (.int .u8 0) 1 Try.underlying28 hi hz0 hz1 .i64 .i64 _ _ 7 rfl rfl rfl rfl (by rw [hz2]; omega) (by simp only [maxLen]; omega) (by simp; omega) ?_; intro w1 hown1 hg1)
  have hz : (madeCells (Value.int IntKind.u8 0).cells (7 * 1)).toList = byt [0, 0, 0, 0, 0, 0, 0] := toList_madeCells_one _ _
  have hL := Lies.of_own hown1
  rw [hz] at hL
  refine (get8_at [0, 0, 0, 0, 0, 0, 0] 0 4 (by simpa using hL) (by decide) (by decide) (by decide)).mono ?_
  rintro e w2 ⟨rfl, rfl⟩
  have hb : Below w.heap.size w w1 := (((Below.refl _ _).alloc (Nat.le_refl _) _).alloc (by simp) _).grown hg1 (by simp; omega) (by simp)
  clear hown1 hg1
  go_wp2_with fail
  refine awake_any.mono ?_
  rintro e w2 ⟨rfl, hb1⟩
  have hb := hb.trans (hb1.mono hb.size)
  clear hb1
  go_wp2_with fail
  refine (put_at (l := []) 0 0 1 [0] rfl (by decide) (by decide) (Lies.nil _ _) (by decide) (by decide)).mono ?_
  rintro e w3 ⟨A1, c1, rfl, -, h1, hb1⟩
  have hb := hb.trans (hb1.mono hb.size)
  clear hb1
  go_wp2_with fail
  refine (equal_at [0] [0] true (h1.alloc _) (lies_lit _ 1 rfl rfl rfl (by decide)) (by decide) (by decide) (by decide)).mono ?_
  rintro e w4 ⟨rfl, rfl⟩
  have hb := hb.alloc hb.size (Obj.cells #[Value.int IntKind.u8 0] 5)
  go_wp2_with fail
  refine (put_at (l := []) 127 127 1 [127] rfl (by decide) (by decide) (Lies.nil _ _) (by decide) (by decide)).mono ?_
  rintro e w5 ⟨A2, c2, rfl, -, h2, hb1⟩
  have hb := hb.trans (hb1.mono hb.size)
  clear hb1
  go_wp2_with fail
  refine (equal_at [127] [127] true (h2.alloc _) (lies_lit _ 1 rfl rfl rfl (by decide)) (by decide) (by decide) (by decide)).mono ?_
  rintro e w6 ⟨rfl, rfl⟩
  have hb := hb.alloc hb.size (Obj.cells #[Value.int IntKind.u8 127] 5)
  go_wp2_with fail
  refine (put_at (l := []) 128 128 2 [128, 1] rfl (by decide) (by decide) (Lies.nil _ _) (by decide) (by decide)).mono ?_
  rintro e w7 ⟨A3, c3, rfl, -, h3, hb1⟩
  have hb := hb.trans (hb1.mono hb.size)
  clear hb1
  go_wp2_with fail
  refine (equal_at [128, 1] [128, 1] true (h3.alloc _) (lies_lit _ 2 rfl rfl rfl (by decide)) (by decide) (by decide) (by decide)).mono ?_
  rintro e w8 ⟨rfl, rfl⟩
  have hb := hb.alloc hb.size (Obj.cells #[Value.int IntKind.u8 128, Value.int IntKind.u8 1] 5)
  go_wp2_with fail
  refine (fold_at (-1) 1 _ (by decide) (by decide) (by decide)).mono ?_
  rintro e w9 ⟨rfl, rfl⟩
  go_wp2_with fail
  refine (fold_at 1 2 _ (by decide) (by decide) (by decide)).mono ?_
  rintro e w9 ⟨rfl, rfl⟩
  go_wp2_with fail
  refine (fold_at (-9223372036854775808) 18446744073709551615 _ (by decide) (by decide) (by decide)).mono ?_
  rintro e w9 ⟨rfl, rfl⟩
  go_wp2
  go_ret
  exact ⟨rfl, hb⟩
end Go.Proofs.Ytfojelnnjhmggaa
