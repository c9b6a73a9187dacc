/-
  past: the contract of Push, where it refuses.
-/
import Derived.Test.YtfpbmpgdpnpdjaaPPush
namespace Go.Proofs.Ytfpbmpgdpnpdjaa
open Go.RowKit
set_option linter.unusedSimpArgs false

set_option maxRecDepth 100000 in
set_option maxHeartbeats 1000000 in
set_option linter.unusedVariables false in
theorem push_bad {p q n c : Nat} {A : Option Addr} {us : List U} {cl rq m x y : Int} {un : Bool} {os : List O} {lens : List Int} {S : Nat → Prop} {w : World} (hP : PastIs w S p q os lens) (hL : Lies w 5 A n c (uns us)) (hn : n * 40 ≤ 140737488355328)
    (hm : lens[os.length]? = some m) (hlong : longV us m = (x, y)) (h0 : 0 ≤ m) (hm2 : m ≤ 2305843009213693952) (hq : q ≤ 2305843009213693952) (hk : os.length ≤ 256) (hy : y ≠ 0) :
    Calls Try.prog 32 #[.pointer (some ⟨p, 0, none⟩), .agg #[.int .u32 cl, .int .u64 rq, .slice A n c, .bool un]] w fun e w' => e = .returned (.tuple #[.int .u64 0, .int .i64 y]) ∧ Grow w w' := by
  obtain ⟨V, l, B, hos, hP⟩ := hP
  obtain ⟨AV, cV, rfl⟩ := hP.formV
  obtain ⟨gB, cB, rfl⟩ := hP.formB
  obtain ⟨k, hlk⟩ : ∃ k, l.length = k := ⟨_, rfl⟩
  have hok : os.length = k := by rw [← hos, List.length_map]; exact hlk
  rw [hok] at hm hk
  rw [hlk] at hP
  have HP := Lib.hid hP; have HL := Lib.hid hL; have HOS := Lib.hid hos; have HLK := Lib.hid hlk; have HM := Lib.hid hm; have HLONG := Lib.hid hlong
  clear hP hL hos hok hlk hm hlong
  go_enter Try.func32, Try.ntmps32
  go_wp2_with fail
  refine (none_made (HP.out.grow (Grow.alloc _ _)).c3).mono ?_
  rintro e w1 ⟨rfl, rfl⟩
  have bx : ∀ (i : Nat) (v : Value), ([.int .u32 cl, .int .u64 rq, .slice A n c, .bool un] : List Value)[i]? = some v → ∀ W, Grow (w.alloc (.cells #[.int .u32 cl, .int .u64 rq, .slice A n c, .bool un] 67)) W → W.cell? ⟨w.heap.size, i, none⟩ = some v := fun i v h W g => grow_cell (by rw [cell_of_row _ w.heap.size i _ _ (0, 0) (heap_alloc_new w _)]; simpa using h) g
  have BX := Lib.hid bx
  have b2 : ∀ W, Grow (w.alloc (.cells #[.int .u32 cl, .int .u64 rq, .slice A n c, .bool un] 67)) W → W.cell? ⟨w.heap.size, 2, none⟩ = some (.slice A n c) := fun W g => BX.out 2 _ rfl W g
  have c1 : ∀ W, Grow (w.alloc (.cells #[.int .u32 cl, .int .u64 rq, .slice A n c, .bool un] 67)) W → W.cell? ⟨p, 1, none⟩ = some (.slice AV k cV) := fun W g => (HP.out.grow ((Grow.alloc _ _).trans g)).c1
  have c2 : ∀ W, Grow (w.alloc (.cells #[.int .u32 cl, .int .u64 rq, .slice A n c, .bool un] 67)) W → W.cell? ⟨p, 2, none⟩ = some (.slice (some ⟨gB, 0, none⟩) (k + 1) cB) := fun W g => (HP.out.grow ((Grow.alloc _ _).trans g)).c2
  have cm : ∀ W, Grow (w.alloc (.cells #[.int .u32 cl, .int .u64 rq, .slice A n c, .bool un] 67)) W → W.cell? ⟨gB, k, none⟩ = some (.int .i64 m) := fun W g => (HP.out.grow ((Grow.alloc _ _).trans g)).lenCell HM.out
  have i0 : (0 : Int) ≤ (k : Int) := by omega
  have i1 : (k : Int) < (k : Int) + 1 := by omega
  go_wp2_with fail
  refine Chain.start Nat (by kernel_rfl) (by kernel_rfl) (fun hg => ?_)
  repeat (first | (refine Chain.skip hg (fun t => by rfl) ?_; simp only [Act.put, List.setIfInBounds_toArray, List.set_cons_zero, List.set_cons_succ]) | (refine Chain.pure hg (X := ?_) (fun t W hw hN => ⟨by rfl, ?_⟩) ?_; rotate_left; (focus (go_simp <;> with_reducible rfl)); simp only [Act.put, List.setIfInBounds_toArray, List.set_cons_zero, List.set_cons_succ]))
  refine Chain.grow hg (fun _ => .tuple #[.int .i64 x, .int .i64 y]) (fun _ _ => True) (fun _ _ _ h _ => h) (fun _ => by rfl) (fun t W hw hN K hK => ?_) ?_
  · go_simp; refine (long_any (HL.out.below (w' := w) (Grow.refl _) (Nat.le_refl _) |>.alloc _ |>.below hw (Nat.le_refl _)) h0 hm2 (by omega)).mono ?_; rintro e w9 ⟨rfl, g9⟩; rw [HLONG.out]; exact hK.out default _ g9 trivial
  simp only [Act.put, List.setIfInBounds_toArray, List.set_cons_zero, List.set_cons_succ]
  repeat (first | (refine Chain.skip hg (fun t => by rfl) ?_; simp only [Act.put, List.setIfInBounds_toArray, List.set_cons_zero, List.set_cons_succ]) | (refine Chain.pure hg (X := ?_) (fun t W hw hN => ⟨by rfl, ?_⟩) ?_; rotate_left; (focus (go_simp <;> with_reducible rfl)); simp only [Act.put, List.setIfInBounds_toArray, List.set_cons_zero, List.set_cons_succ]))
  refine Chain.done (fun t W hw hN => ?_)
  clear hN hg b2 c1 c2 cm bx
  have HW := Lib.hid hw
  clear hw
  have G3 := Lib.hid ((Grow.alloc w (.cells #[.int .u32 cl, .int .u64 rq, .slice A n c, .bool un] 67)).trans HW.out)
  have dy : (y != 0) = true := by simp; omega
  have dz : (y == 0) = false := by simp; omega
  go_wp2
  go_ret2
  exact ⟨rfl, G3.out⟩
set_option maxRecDepth 100000 in
set_option maxHeartbeats 1000000 in
set_option linter.unusedVariables false in
theorem push_full {p q n c : Nat} {A : Option Addr} {us : List U} {cl rq m x : Int} {un : Bool} {os : List O} {lens : List Int} {S : Nat → Prop} {w : World} (hP : PastIs w S p q os lens) (hL : Lies w 5 A n c (uns us)) (hn : n * 40 ≤ 140737488355328)
    (hm : lens[os.length]? = some m) (hlong : longV us m = (x, 0)) (h0 : 0 ≤ m) (hm2 : m ≤ 2305843009213693952) (hq : q ≤ 2305843009213693952) (hk : os.length ≤ 256) (hf : 1099511627776 ≤ q + os.length ∨ 256 ≤ os.length) :
    Calls Try.prog 32 #[.pointer (some ⟨p, 0, none⟩), .agg #[.int .u32 cl, .int .u64 rq, .slice A n c, .bool un]] w fun e w' => e = .returned (.tuple #[.int .u64 0, .int .i64 7]) ∧ Grow w w' := by
  obtain ⟨V, l, B, hos, hP⟩ := hP
  obtain ⟨AV, cV, rfl⟩ := hP.formV
  obtain ⟨gB, cB, rfl⟩ := hP.formB
  obtain ⟨k, hlk⟩ : ∃ k, l.length = k := ⟨_, rfl⟩
  have hok : os.length = k := by rw [← hos, List.length_map]; exact hlk
  rw [hok] at hm hk hf
  rw [hlk] at hP
  have HP := Lib.hid hP; have HL := Lib.hid hL; have HOS := Lib.hid hos; have HLK := Lib.hid hlk; have HM := Lib.hid hm; have HLONG := Lib.hid hlong
  clear hP hL hos hok hlk hm hlong
  go_enter Try.func32, Try.ntmps32
  go_wp2_with fail
  refine (none_made (HP.out.grow (Grow.alloc _ _)).c3).mono ?_
  rintro e w1 ⟨rfl, rfl⟩
  have bx : ∀ (i : Nat) (v : Value), ([.int .u32 cl, .int .u64 rq, .slice A n c, .bool un] : List Value)[i]? = some v → ∀ W, Grow (w.alloc (.cells #[.int .u32 cl, .int .u64 rq, .slice A n c, .bool un] 67)) W → W.cell? ⟨w.heap.size, i, none⟩ = some v := fun i v h W g => grow_cell (by rw [cell_of_row _ w.heap.size i _ _ (0, 0) (heap_alloc_new w _)]; simpa using h) g
  have BX := Lib.hid bx
  have b2 : ∀ W, Grow (w.alloc (.cells #[.int .u32 cl, .int .u64 rq, .slice A n c, .bool un] 67)) W → W.cell? ⟨w.heap.size, 2, none⟩ = some (.slice A n c) := fun W g => BX.out 2 _ rfl W g
  have c1 : ∀ W, Grow (w.alloc (.cells #[.int .u32 cl, .int .u64 rq, .slice A n c, .bool un] 67)) W → W.cell? ⟨p, 1, none⟩ = some (.slice AV k cV) := fun W g => (HP.out.grow ((Grow.alloc _ _).trans g)).c1
  have c2 : ∀ W, Grow (w.alloc (.cells #[.int .u32 cl, .int .u64 rq, .slice A n c, .bool un] 67)) W → W.cell? ⟨p, 2, none⟩ = some (.slice (some ⟨gB, 0, none⟩) (k + 1) cB) := fun W g => (HP.out.grow ((Grow.alloc _ _).trans g)).c2
  have cm : ∀ W, Grow (w.alloc (.cells #[.int .u32 cl, .int .u64 rq, .slice A n c, .bool un] 67)) W → W.cell? ⟨gB, k, none⟩ = some (.int .i64 m) := fun W g => (HP.out.grow ((Grow.alloc _ _).trans g)).lenCell HM.out
  have i0 : (0 : Int) ≤ (k : Int) := by omega
  have i1 : (k : Int) < (k : Int) + 1 := by omega
  go_wp2_with fail
  refine Chain.start Nat (by kernel_rfl) (by kernel_rfl) (fun hg => ?_)
  repeat (first | (refine Chain.skip hg (fun t => by rfl) ?_; simp only [Act.put, List.setIfInBounds_toArray, List.set_cons_zero, List.set_cons_succ]) | (refine Chain.pure hg (X := ?_) (fun t W hw hN => ⟨by rfl, ?_⟩) ?_; rotate_left; (focus (go_simp <;> with_reducible rfl)); simp only [Act.put, List.setIfInBounds_toArray, List.set_cons_zero, List.set_cons_succ]))
  refine Chain.grow hg (fun _ => .tuple #[.int .i64 x, .int .i64 0]) (fun _ _ => True) (fun _ _ _ h _ => h) (fun _ => by rfl) (fun t W hw hN K hK => ?_) ?_
  · go_simp; refine (long_any (HL.out.below (w' := w) (Grow.refl _) (Nat.le_refl _) |>.alloc _ |>.below hw (Nat.le_refl _)) h0 hm2 (by omega)).mono ?_; rintro e w9 ⟨rfl, g9⟩; rw [HLONG.out]; exact hK.out default _ g9 trivial
  simp only [Act.put, List.setIfInBounds_toArray, List.set_cons_zero, List.set_cons_succ]
  repeat (first | (refine Chain.skip hg (fun t => by rfl) ?_; simp only [Act.put, List.setIfInBounds_toArray, List.set_cons_zero, List.set_cons_succ]) | (refine Chain.pure hg (X := ?_) (fun t W hw hN => ⟨by rfl, ?_⟩) ?_; rotate_left; (focus (go_simp <;> with_reducible rfl)); simp only [Act.put, List.setIfInBounds_toArray, List.set_cons_zero, List.set_cons_succ]))
  refine Chain.done (fun t W hw hN => ?_)
  clear hN hg b2 c1 c2 cm bx
  have HW := Lib.hid hw
  clear hw
  have g3 := (Grow.alloc w (.cells #[.int .u32 cl, .int .u64 rq, .slice A n c, .bool un] 67)).trans HW.out
  have G3 := Lib.hid g3
  go_wp2_with fail
  refine (pnow_any (HP.out.grow g3).c0 (HP.out.grow g3).c1 (HP.out.grow g3).c3 (by omega) (by omega)).mono ?_
  obtain ⟨z, hz⟩ : ∃ z, (q : Int) + (k : Int) = z := ⟨_, rfl⟩
  rw [hz]
  have HZ := Lib.hid hz
  rintro e w1 ⟨rfl, rfl⟩
  have c1 := (HP.out.grow g3).c1
  by_cases hqz : 1099511627776 ≤ q + k
  · have dz : decide (z ≥ 1099511627776) = true := by simp; omega
    clear hz hf hqz g3
    go_wp2
    go_ret2
    exact ⟨rfl, G3.out⟩
  · have dz : decide (z ≥ 1099511627776) = false := by simp; omega
    obtain rfl : k = 256 := by omega
    clear hz hf hqz g3
    go_wp2
    go_ret2
    exact ⟨rfl, G3.out⟩
end Go.Proofs.Ytfpbmpgdpnpdjaa

