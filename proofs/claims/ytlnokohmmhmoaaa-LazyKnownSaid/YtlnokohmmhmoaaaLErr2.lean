/-
  lazy: the contracts of what Piece and the function Plan refuse.
-/
import Derived.Test.YtlnokohmmhmoaaaLErr
namespace Go.Proofs.Ytlnokohmmhmoaaa
open Go.RowKit
set_option linter.unusedSimpArgs false

set_option maxRecDepth 100000 in
set_option maxHeartbeats 4000000 in
theorem piece_state {me frm off tot : Int} {op op2 doc : Nat} {A B A3 B3 : Option Addr} {n c m e0 n3 c3 m3 d3 : Nat} {w : World} (h0 : 0 ≤ me) (h7 : me < 7) (hne : op2 ≠ op) :
    Calls Try.prog 15 #[.int .i64 me, .agg #[.int .u64 op, .slice A n c, .slice B m e0], .agg #[.int .i64 16, .int .u64 0, .int .i64 frm, .int .u32 0, .int .u64 0, .int .u64 0, .int .u64 op2, .int .u64 0, .int .u64 0, .int .u64 0, .int .u64 0, .int .u32 0, .int .u64 0, .slice none 0 0, .int .u32 doc, .int .i64 off, .int .i64 tot, .bool false, .slice A3 n3 c3, .slice B3 m3 d3]] w fun e w' => e = .returned (.tuple #[.agg #[.int .i64 0, .int .u64 0, .int .i64 0, .int .u32 0, .int .u64 0, .int .u64 0, .int .u64 0, .int .u64 0, .int .u64 0, .int .u64 0, .int .u64 0, .int .u32 0, .int .u64 0, .slice none 0 0, .int .u32 0, .int .i64 0, .int .i64 0, .bool false, .slice none 0 0, .slice none 0 0], .int .i64 39]) ∧ Grow w w' := by
  have g1 : Grow w (((w.alloc (.cells #[.int .u64 op, .slice A n c, .slice B m e0] 26)).alloc (.cells #[.int .i64 16, .int .u64 0, .int .i64 frm, .int .u32 0, .int .u64 0, .int .u64 0, .int .u64 op2, .int .u64 0, .int .u64 0, .int .u64 0, .int .u64 0, .int .u32 0, .int .u64 0, .slice none 0 0, .int .u32 doc, .int .i64 off, .int .i64 tot, .bool false, .slice A3 n3 c3, .slice B3 m3 d3] 42)).alloc (.cells #[.int .i64 0, .int .u64 0, .int .i64 0, .int .u32 0, .int .u64 0, .int .u64 0, .int .u64 0, .int .u64 0, .int .u64 0, .int .u64 0, .int .u64 0, .int .u32 0, .int .u64 0, .slice none 0 0, .int .u32 0, .int .i64 0, .int .i64 0, .bool false, .slice none 0 0, .slice none 0 0] 42)) := ((Grow.alloc w _).trans (Grow.alloc _ _)).trans (Grow.alloc _ _)
  have sb := row_grow (heap_alloc2_old w (.cells #[.int .u64 op, .slice A n c, .slice B m e0] 26) (.cells #[.int .i64 16, .int .u64 0, .int .i64 frm, .int .u32 0, .int .u64 0, .int .u64 0, .int .u64 op2, .int .u64 0, .int .u64 0, .int .u64 0, .int .u64 0, .int .u32 0, .int .u64 0, .slice none 0 0, .int .u32 doc, .int .i64 off, .int .i64 tot, .bool false, .slice A3 n3 c3, .slice B3 m3 d3] 42)) (Grow.alloc _ (.cells #[.int .i64 0, .int .u64 0, .int .i64 0, .int .u32 0, .int .u64 0, .int .u64 0, .int .u64 0, .int .u64 0, .int .u64 0, .int .u64 0, .int .u64 0, .int .u32 0, .int .u64 0, .slice none 0 0, .int .u32 0, .int .i64 0, .int .i64 0, .bool false, .slice none 0 0, .slice none 0 0] 42))
  have mb := row_grow (heap_alloc2_new w (.cells #[.int .u64 op, .slice A n c, .slice B m e0] 26) (.cells #[.int .i64 16, .int .u64 0, .int .i64 frm, .int .u32 0, .int .u64 0, .int .u64 0, .int .u64 op2, .int .u64 0, .int .u64 0, .int .u64 0, .int .u64 0, .int .u32 0, .int .u64 0, .slice none 0 0, .int .u32 doc, .int .i64 off, .int .i64 tot, .bool false, .slice A3 n3 c3, .slice B3 m3 d3] 42)) (Grow.alloc _ (.cells #[.int .i64 0, .int .u64 0, .int .i64 0, .int .u32 0, .int .u64 0, .int .u64 0, .int .u64 0, .int .u64 0, .int .u64 0, .int .u64 0, .int .u64 0, .int .u32 0, .int .u64 0, .slice none 0 0, .int .u32 0, .int .i64 0, .int .i64 0, .bool false, .slice none 0 0, .slice none 0 0] 42))
  have rb := heap_alloc2_new (w.alloc (.cells #[.int .u64 op, .slice A n c, .slice B m e0] 26)) (.cells #[.int .i64 16, .int .u64 0, .int .i64 frm, .int .u32 0, .int .u64 0, .int .u64 0, .int .u64 op2, .int .u64 0, .int .u64 0, .int .u64 0, .int .u64 0, .int .u32 0, .int .u64 0, .slice none 0 0, .int .u32 doc, .int .i64 off, .int .i64 tot, .bool false, .slice A3 n3 c3, .slice B3 m3 d3] 42) (.cells #[.int .i64 0, .int .u64 0, .int .i64 0, .int .u32 0, .int .u64 0, .int .u64 0, .int .u64 0, .int .u64 0, .int .u64 0, .int .u64 0, .int .u64 0, .int .u32 0, .int .u64 0, .slice none 0 0, .int .u32 0, .int .i64 0, .int .i64 0, .bool false, .slice none 0 0, .slice none 0 0] 42)
  rw [show (w.alloc (.cells #[.int .u64 op, .slice A n c, .slice B m e0] 26)).heap.size + 1 = w.heap.size + 2 by simp] at rb
  obtain ⟨w1, hw1⟩ : ∃ w1, ((w.alloc (.cells #[.int .u64 op, .slice A n c, .slice B m e0] 26)).alloc (.cells #[.int .i64 16, .int .u64 0, .int .i64 frm, .int .u32 0, .int .u64 0, .int .u64 0, .int .u64 op2, .int .u64 0, .int .u64 0, .int .u64 0, .int .u64 0, .int .u32 0, .int .u64 0, .slice none 0 0, .int .u32 doc, .int .i64 off, .int .i64 tot, .bool false, .slice A3 n3 c3, .slice B3 m3 d3] 42)).alloc (.cells #[.int .i64 0, .int .u64 0, .int .i64 0, .int .u32 0, .int .u64 0, .int .u64 0, .int .u64 0, .int .u64 0, .int .u64 0, .int .u64 0, .int .u64 0, .int .u32 0, .int .u64 0, .slice none 0 0, .int .u32 0, .int .i64 0, .int .i64 0, .bool false, .slice none 0 0, .slice none 0 0] 42) = w1 := ⟨_, rfl⟩
  rw [hw1] at g1 sb mb rb
  have SB := Lib.hid sb; have MB := Lib.hid mb; have RB := Lib.hid rb; have G1 := Lib.hid g1; have HW1 := Lib.hid hw1
  clear g1 sb mb rb hw1
  go_enter Try.func15, Try.ntmps15
  go_wp2_with fail
  rw [HW1.out]
  refine (node_ok h0 h7).mono ?_
  rintro e w2 ⟨rfl, rfl⟩
  have k0 : w1.cell? ⟨w.heap.size + 1, 0, none⟩ = some (.int .i64 16) := cell_of_row w1 _ 0 _ _ (0, 0) MB.out
  have k6 : w1.cell? ⟨w.heap.size + 1, 6, none⟩ = some (.int .u64 op2) := cell_of_row w1 _ 6 _ _ (0, 0) MB.out
  have s0 : w1.cell? ⟨w.heap.size, 0, none⟩ = some (.int .u64 op) := cell_of_row w1 _ 0 _ _ (0, 0) SB.out
  have s2 : w1.cell? ⟨w.heap.size, 2, none⟩ = some (.slice B m e0) := cell_of_row w1 _ 2 _ _ (0, 0) SB.out
  have d0 : ((op2 : Int) != (op : Int)) = true := by simp; omega
  clear s2
  go_wp2_with (
    refine wpList_store_row rfl _ _ _ rfl (w.heap.size + 2) #[.int .i64 0, .int .u64 0, .int .i64 0, .int .u32 0, .int .u64 0, .int .u64 0, .int .u64 0, .int .u64 0, .int .u64 0, .int .u64 0, .int .u64 0, .int .u32 0, .int .u64 0, .slice none 0 0, .int .u32 0, .int .i64 0, .int .i64 0, .bool false, .slice none 0 0, .slice none 0 0] rfl rfl _ _ RB.out (by kernel_rfl) rfl msg_oc ?_
    have hrw := setRow_heap w1 (w.heap.size + 2) _ #[.int .i64 0, .int .u64 0, .int .i64 0, .int .u32 0, .int .u64 0, .int .u64 0, .int .u64 0, .int .u64 0, .int .u64 0, .int .u64 0, .int .u64 0, .int .u32 0, .int .u64 0, .slice none 0 0, .int .u32 0, .int .i64 0, .int .i64 0, .bool false, .slice none 0 0, .slice none 0 0] _ _ RB.out
    have g3 := GrowS.setRow (T := fun i => i = w.heap.size + 2) w1 rfl #[.int .i64 0, .int .u64 0, .int .i64 0, .int .u32 0, .int .u64 0, .int .u64 0, .int .u64 0, .int .u64 0, .int .u64 0, .int .u64 0, .int .u64 0, .int .u32 0, .int .u64 0, .slice none 0 0, .int .u32 0, .int .i64 0, .int .i64 0, .bool false, .slice none 0 0, .slice none 0 0]
    go_wp2
    refine bodyPost_ret (v := .tuple #[.agg #[.int .i64 0, .int .u64 0, .int .i64 0, .int .u32 0, .int .u64 0, .int .u64 0, .int .u64 0, .int .u64 0, .int .u64 0, .int .u64 0, .int .u64 0, .int .u32 0, .int .u64 0, .slice none 0 0, .int .u32 0, .int .i64 0, .int .i64 0, .bool false, .slice none 0 0, .slice none 0 0], .int .i64 39]) (results_ct (p := 6) (u := 7) (ty := 42) rfl _ _ (w.heap.size + 2) _ rfl (run_loadVar_row _ _ _ _ _ _ _ hrw Try.underlying42 rfl (by kernel_rfl))) rfl ⟨rfl, g3.over G1.out (fun k hk => by omega)⟩)
set_option maxRecDepth 100000 in
set_option maxHeartbeats 4000000 in
theorem piece_none {me frm off tot : Int} {op op2 doc : Nat} {A B A3 B3 : Option Addr} {n c m e0 n3 c3 m3 d3 : Nat} {l : List (Pt × Value)} {R0 : Nat → Prop} {w : World} (h0 : 0 ≤ me) (h7 : me < 7) (he : op2 = op) (hP : PsAt w R0 B m e0 l) (hi : idxI (fun d : Pt => decide (d.doc = doc)) (l.map (·.1)) = -1) :
    Calls Try.prog 15 #[.int .i64 me, .agg #[.int .u64 op, .slice A n c, .slice B m e0], .agg #[.int .i64 16, .int .u64 0, .int .i64 frm, .int .u32 0, .int .u64 0, .int .u64 0, .int .u64 op2, .int .u64 0, .int .u64 0, .int .u64 0, .int .u64 0, .int .u32 0, .int .u64 0, .slice none 0 0, .int .u32 doc, .int .i64 off, .int .i64 tot, .bool false, .slice A3 n3 c3, .slice B3 m3 d3]] w fun e w' => e = .returned (.tuple #[.agg #[.int .i64 0, .int .u64 0, .int .i64 0, .int .u32 0, .int .u64 0, .int .u64 0, .int .u64 0, .int .u64 0, .int .u64 0, .int .u64 0, .int .u64 0, .int .u32 0, .int .u64 0, .slice none 0 0, .int .u32 0, .int .i64 0, .int .i64 0, .bool false, .slice none 0 0, .slice none 0 0], .int .i64 6]) ∧ Grow w w' := by
  subst he
  have g1 : Grow w (((w.alloc (.cells #[.int .u64 op2, .slice A n c, .slice B m e0] 26)).alloc (.cells #[.int .i64 16, .int .u64 0, .int .i64 frm, .int .u32 0, .int .u64 0, .int .u64 0, .int .u64 op2, .int .u64 0, .int .u64 0, .int .u64 0, .int .u64 0, .int .u32 0, .int .u64 0, .slice none 0 0, .int .u32 doc, .int .i64 off, .int .i64 tot, .bool false, .slice A3 n3 c3, .slice B3 m3 d3] 42)).alloc (.cells #[.int .i64 0, .int .u64 0, .int .i64 0, .int .u32 0, .int .u64 0, .int .u64 0, .int .u64 0, .int .u64 0, .int .u64 0, .int .u64 0, .int .u64 0, .int .u32 0, .int .u64 0, .slice none 0 0, .int .u32 0, .int .i64 0, .int .i64 0, .bool false, .slice none 0 0, .slice none 0 0] 42)) := ((Grow.alloc w _).trans (Grow.alloc _ _)).trans (Grow.alloc _ _)
  have sb := row_grow (heap_alloc2_old w (.cells #[.int .u64 op2, .slice A n c, .slice B m e0] 26) (.cells #[.int .i64 16, .int .u64 0, .int .i64 frm, .int .u32 0, .int .u64 0, .int .u64 0, .int .u64 op2, .int .u64 0, .int .u64 0, .int .u64 0, .int .u64 0, .int .u32 0, .int .u64 0, .slice none 0 0, .int .u32 doc, .int .i64 off, .int .i64 tot, .bool false, .slice A3 n3 c3, .slice B3 m3 d3] 42)) (Grow.alloc _ (.cells #[.int .i64 0, .int .u64 0, .int .i64 0, .int .u32 0, .int .u64 0, .int .u64 0, .int .u64 0, .int .u64 0, .int .u64 0, .int .u64 0, .int .u64 0, .int .u32 0, .int .u64 0, .slice none 0 0, .int .u32 0, .int .i64 0, .int .i64 0, .bool false, .slice none 0 0, .slice none 0 0] 42))
  have mb := row_grow (heap_alloc2_new w (.cells #[.int .u64 op2, .slice A n c, .slice B m e0] 26) (.cells #[.int .i64 16, .int .u64 0, .int .i64 frm, .int .u32 0, .int .u64 0, .int .u64 0, .int .u64 op2, .int .u64 0, .int .u64 0, .int .u64 0, .int .u64 0, .int .u32 0, .int .u64 0, .slice none 0 0, .int .u32 doc, .int .i64 off, .int .i64 tot, .bool false, .slice A3 n3 c3, .slice B3 m3 d3] 42)) (Grow.alloc _ (.cells #[.int .i64 0, .int .u64 0, .int .i64 0, .int .u32 0, .int .u64 0, .int .u64 0, .int .u64 0, .int .u64 0, .int .u64 0, .int .u64 0, .int .u64 0, .int .u32 0, .int .u64 0, .slice none 0 0, .int .u32 0, .int .i64 0, .int .i64 0, .bool false, .slice none 0 0, .slice none 0 0] 42))
  have rb := heap_alloc2_new (w.alloc (.cells #[.int .u64 op2, .slice A n c, .slice B m e0] 26)) (.cells #[.int .i64 16, .int .u64 0, .int .i64 frm, .int .u32 0, .int .u64 0, .int .u64 0, .int .u64 op2, .int .u64 0, .int .u64 0, .int .u64 0, .int .u64 0, .int .u32 0, .int .u64 0, .slice none 0 0, .int .u32 doc, .int .i64 off, .int .i64 tot, .bool false, .slice A3 n3 c3, .slice B3 m3 d3] 42) (.cells #[.int .i64 0, .int .u64 0, .int .i64 0, .int .u32 0, .int .u64 0, .int .u64 0, .int .u64 0, .int .u64 0, .int .u64 0, .int .u64 0, .int .u64 0, .int .u32 0, .int .u64 0, .slice none 0 0, .int .u32 0, .int .i64 0, .int .i64 0, .bool false, .slice none 0 0, .slice none 0 0] 42)
  rw [show (w.alloc (.cells #[.int .u64 op2, .slice A n c, .slice B m e0] 26)).heap.size + 1 = w.heap.size + 2 by simp] at rb
  obtain ⟨w1, hw1⟩ : ∃ w1, ((w.alloc (.cells #[.int .u64 op2, .slice A n c, .slice B m e0] 26)).alloc (.cells #[.int .i64 16, .int .u64 0, .int .i64 frm, .int .u32 0, .int .u64 0, .int .u64 0, .int .u64 op2, .int .u64 0, .int .u64 0, .int .u64 0, .int .u64 0, .int .u32 0, .int .u64 0, .slice none 0 0, .int .u32 doc, .int .i64 off, .int .i64 tot, .bool false, .slice A3 n3 c3, .slice B3 m3 d3] 42)).alloc (.cells #[.int .i64 0, .int .u64 0, .int .i64 0, .int .u32 0, .int .u64 0, .int .u64 0, .int .u64 0, .int .u64 0, .int .u64 0, .int .u64 0, .int .u64 0, .int .u32 0, .int .u64 0, .slice none 0 0, .int .u32 0, .int .i64 0, .int .i64 0, .bool false, .slice none 0 0, .slice none 0 0] 42) = w1 := ⟨_, rfl⟩
  rw [hw1] at g1 sb mb rb
  have SB := Lib.hid sb; have MB := Lib.hid mb; have RB := Lib.hid rb; have G1 := Lib.hid g1; have HW1 := Lib.hid hw1; have HP := Lib.hid hP; have HI := Lib.hid hi
  clear g1 sb mb rb hw1 hP hi
  go_enter Try.func15, Try.ntmps15
  go_wp2_with fail
  rw [HW1.out]
  refine (node_ok h0 h7).mono ?_
  rintro e w2 ⟨rfl, rfl⟩
  have k0 : w1.cell? ⟨w.heap.size + 1, 0, none⟩ = some (.int .i64 16) := cell_of_row w1 _ 0 _ _ (0, 0) MB.out
  have k6 : w1.cell? ⟨w.heap.size + 1, 6, none⟩ = some (.int .u64 op2) := cell_of_row w1 _ 6 _ _ (0, 0) MB.out
  have s0 : w1.cell? ⟨w.heap.size, 0, none⟩ = some (.int .u64 op2) := cell_of_row w1 _ 0 _ _ (0, 0) SB.out
  have s2 : w1.cell? ⟨w.heap.size, 2, none⟩ = some (.slice B m e0) := cell_of_row w1 _ 2 _ _ (0, 0) SB.out
  go_wp2_with fail
  refine (idx_piece (doc := doc) (HP.out.row.below (w' := w1) G1.out (Nat.le_refl _)) HP.out.sl (cell_of_row w1 _ 14 _ _ (0, 0) MB.out)).mono ?_
  rw [HI.out]
  rintro e w2 ⟨rfl, g2⟩
  have RB2 := Lib.hid (row_grow RB.out g2); have G2 := Lib.hid (G1.out.trans g2)
  clear g2 k0 k6 s0 s2
  go_wp2_with (
    refine wpList_store_row rfl _ _ _ rfl (w.heap.size + 2) #[.int .i64 0, .int .u64 0, .int .i64 0, .int .u32 0, .int .u64 0, .int .u64 0, .int .u64 0, .int .u64 0, .int .u64 0, .int .u64 0, .int .u64 0, .int .u32 0, .int .u64 0, .slice none 0 0, .int .u32 0, .int .i64 0, .int .i64 0, .bool false, .slice none 0 0, .slice none 0 0] rfl rfl _ _ RB2.out (by kernel_rfl) rfl msg_oc ?_
    have hrw := setRow_heap w2 (w.heap.size + 2) _ #[.int .i64 0, .int .u64 0, .int .i64 0, .int .u32 0, .int .u64 0, .int .u64 0, .int .u64 0, .int .u64 0, .int .u64 0, .int .u64 0, .int .u64 0, .int .u32 0, .int .u64 0, .slice none 0 0, .int .u32 0, .int .i64 0, .int .i64 0, .bool false, .slice none 0 0, .slice none 0 0] _ _ RB2.out
    have g3 := GrowS.setRow (T := fun i => i = w.heap.size + 2) w2 rfl #[.int .i64 0, .int .u64 0, .int .i64 0, .int .u32 0, .int .u64 0, .int .u64 0, .int .u64 0, .int .u64 0, .int .u64 0, .int .u64 0, .int .u64 0, .int .u32 0, .int .u64 0, .slice none 0 0, .int .u32 0, .int .i64 0, .int .i64 0, .bool false, .slice none 0 0, .slice none 0 0]
    go_wp2
    refine bodyPost_ret (v := .tuple #[.agg #[.int .i64 0, .int .u64 0, .int .i64 0, .int .u32 0, .int .u64 0, .int .u64 0, .int .u64 0, .int .u64 0, .int .u64 0, .int .u64 0, .int .u64 0, .int .u32 0, .int .u64 0, .slice none 0 0, .int .u32 0, .int .i64 0, .int .i64 0, .bool false, .slice none 0 0, .slice none 0 0], .int .i64 6]) (results_ct (p := 6) (u := 7) (ty := 42) rfl _ _ (w.heap.size + 2) _ rfl (run_loadVar_row _ _ _ _ _ _ _ hrw Try.underlying42 rfl (by kernel_rfl))) rfl ⟨rfl, g3.over G2.out (fun k hk => by omega)⟩)
set_option maxRecDepth 100000 in
set_option maxHeartbeats 4000000 in
theorem piece_range {me frm off tot : Int} {op op2 doc : Nat} {A B A3 B3 : Option Addr} {n c m e0 n3 c3 m3 d3 : Nat} {i : Nat} {x : Pt} {l : List (Pt × Value)} {R0 : Nat → Prop} {w : World} (h0 : 0 ≤ me) (h7 : me < 7) (he : op2 = op) (hP : PsAt w R0 B m e0 l) (hi : idxI (fun d : Pt => decide (d.doc = doc)) (l.map (·.1)) = (i : Int)) (hx : (l.map (·.1))[i]? = some x) (hoff : (x.bs.length : Int) < off) (h9 : 0 ≤ off) :
    Calls Try.prog 15 #[.int .i64 me, .agg #[.int .u64 op, .slice A n c, .slice B m e0], .agg #[.int .i64 16, .int .u64 0, .int .i64 frm, .int .u32 0, .int .u64 0, .int .u64 0, .int .u64 op2, .int .u64 0, .int .u64 0, .int .u64 0, .int .u64 0, .int .u32 0, .int .u64 0, .slice none 0 0, .int .u32 doc, .int .i64 off, .int .i64 tot, .bool false, .slice A3 n3 c3, .slice B3 m3 d3]] w fun e w' => e = .returned (.tuple #[.agg #[.int .i64 0, .int .u64 0, .int .i64 0, .int .u32 0, .int .u64 0, .int .u64 0, .int .u64 0, .int .u64 0, .int .u64 0, .int .u64 0, .int .u64 0, .int .u32 0, .int .u64 0, .slice none 0 0, .int .u32 0, .int .i64 0, .int .i64 0, .bool false, .slice none 0 0, .slice none 0 0], .int .i64 30]) ∧ Grow w w' := by
  subst he
  have g1 : Grow w (((w.alloc (.cells #[.int .u64 op2, .slice A n c, .slice B m e0] 26)).alloc (.cells #[.int .i64 16, .int .u64 0, .int .i64 frm, .int .u32 0, .int .u64 0, .int .u64 0, .int .u64 op2, .int .u64 0, .int .u64 0, .int .u64 0, .int .u64 0, .int .u32 0, .int .u64 0, .slice none 0 0, .int .u32 doc, .int .i64 off, .int .i64 tot, .bool false, .slice A3 n3 c3, .slice B3 m3 d3] 42)).alloc (.cells #[.int .i64 0, .int .u64 0, .int .i64 0, .int .u32 0, .int .u64 0, .int .u64 0, .int .u64 0, .int .u64 0, .int .u64 0, .int .u64 0, .int .u64 0, .int .u32 0, .int .u64 0, .slice none 0 0, .int .u32 0, .int .i64 0, .int .i64 0, .bool false, .slice none 0 0, .slice none 0 0] 42)) := ((Grow.alloc w _).trans (Grow.alloc _ _)).trans (Grow.alloc _ _)
  have sb := row_grow (heap_alloc2_old w (.cells #[.int .u64 op2, .slice A n c, .slice B m e0] 26) (.cells #[.int .i64 16, .int .u64 0, .int .i64 frm, .int .u32 0, .int .u64 0, .int .u64 0, .int .u64 op2, .int .u64 0, .int .u64 0, .int .u64 0, .int .u64 0, .int .u32 0, .int .u64 0, .slice none 0 0, .int .u32 doc, .int .i64 off, .int .i64 tot, .bool false, .slice A3 n3 c3, .slice B3 m3 d3] 42)) (Grow.alloc _ (.cells #[.int .i64 0, .int .u64 0, .int .i64 0, .int .u32 0, .int .u64 0, .int .u64 0, .int .u64 0, .int .u64 0, .int .u64 0, .int .u64 0, .int .u64 0, .int .u32 0, .int .u64 0, .slice none 0 0, .int .u32 0, .int .i64 0, .int .i64 0, .bool false, .slice none 0 0, .slice none 0 0] 42))
  have mb := row_grow (heap_alloc2_new w (.cells #[.int .u64 op2, .slice A n c, .slice B m e0] 26) (.cells #[.int .i64 16, .int .u64 0, .int .i64 frm, .int .u32 0, .int .u64 0, .int .u64 0, .int .u64 op2, .int .u64 0, .int .u64 0, .int .u64 0, .int .u64 0, .int .u32 0, .int .u64 0, .slice none 0 0, .int .u32 doc, .int .i64 off, .int .i64 tot, .bool false, .slice A3 n3 c3, .slice B3 m3 d3] 42)) (Grow.alloc _ (.cells #[.int .i64 0, .int .u64 0, .int .i64 0, .int .u32 0, .int .u64 0, .int .u64 0, .int .u64 0, .int .u64 0, .int .u64 0, .int .u64 0, .int .u64 0, .int .u32 0, .int .u64 0, .slice none 0 0, .int .u32 0, .int .i64 0, .int .i64 0, .bool false, .slice none 0 0, .slice none 0 0] 42))
  have rb := heap_alloc2_new (w.alloc (.cells #[.int .u64 op2, .slice A n c, .slice B m e0] 26)) (.cells #[.int .i64 16, .int .u64 0, .int .i64 frm, .int .u32 0, .int .u64 0, .int .u64 0, .int .u64 op2, .int .u64 0, .int .u64 0, .int .u64 0, .int .u64 0, .int .u32 0, .int .u64 0, .slice none 0 0, .int .u32 doc, .int .i64 off, .int .i64 tot, .bool false, .slice A3 n3 c3, .slice B3 m3 d3] 42) (.cells #[.int .i64 0, .int .u64 0, .int .i64 0, .int .u32 0, .int .u64 0, .int .u64 0, .int .u64 0, .int .u64 0, .int .u64 0, .int .u64 0, .int .u64 0, .int .u32 0, .int .u64 0, .slice none 0 0, .int .u32 0, .int .i64 0, .int .i64 0, .bool false, .slice none 0 0, .slice none 0 0] 42)
  rw [show (w.alloc (.cells #[.int .u64 op2, .slice A n c, .slice B m e0] 26)).heap.size + 1 = w.heap.size + 2 by simp] at rb
  obtain ⟨w1, hw1⟩ : ∃ w1, ((w.alloc (.cells #[.int .u64 op2, .slice A n c, .slice B m e0] 26)).alloc (.cells #[.int .i64 16, .int .u64 0, .int .i64 frm, .int .u32 0, .int .u64 0, .int .u64 0, .int .u64 op2, .int .u64 0, .int .u64 0, .int .u64 0, .int .u64 0, .int .u32 0, .int .u64 0, .slice none 0 0, .int .u32 doc, .int .i64 off, .int .i64 tot, .bool false, .slice A3 n3 c3, .slice B3 m3 d3] 42)).alloc (.cells #[.int .i64 0, .int .u64 0, .int .i64 0, .int .u32 0, .int .u64 0, .int .u64 0, .int .u64 0, .int .u64 0, .int .u64 0, .int .u64 0, .int .u64 0, .int .u32 0, .int .u64 0, .slice none 0 0, .int .u32 0, .int .i64 0, .int .i64 0, .bool false, .slice none 0 0, .slice none 0 0] 42) = w1 := ⟨_, rfl⟩
  rw [hw1] at g1 sb mb rb
  obtain ⟨v, hlx⟩ : ∃ v, l[i]? = some (x, v) := by
    rw [List.getElem?_map] at hx
    cases hq : l[i]? with
    | none => rw [hq] at hx; cases hx
    | some y =>
      rw [hq] at hx
      simp at hx
      exact ⟨y.2, by rw [← hx]⟩
  obtain ⟨A7, m7, c7, hv, hL7, -⟩ := (hP.each _ (List.mem_of_getElem? hlx)).lies
  simp only at hv hL7
  subst hv
  have hm7 : m7 = x.bs.length := by have := hL7.len; rw [byt_len] at this; omega
  subst hm7
  obtain ⟨k, hk⟩ : ∃ k, x.bs.length = k := ⟨_, rfl⟩
  rw [hk] at hL7 hlx hoff
  have hln := Lies.flat_n pcell_len (by decide) hP.row
  have him : i < m := by have := (List.getElem?_eq_some_iff.1 hlx).1; omega
  obtain ⟨bb, o7, rfl, -, -⟩ := hP.row.pos (by omega) (by decide)
  have SB := Lib.hid sb; have MB := Lib.hid mb; have RB := Lib.hid rb; have G1 := Lib.hid g1; have HW1 := Lib.hid hw1; have HP := Lib.hid hP; have HI := Lib.hid hi; have HLX := Lib.hid hlx
  clear g1 sb mb rb hw1 hP hi hx hlx hL7 hln hk
  go_enter Try.func15, Try.ntmps15
  go_wp2_with fail
  rw [HW1.out]
  refine (node_ok h0 h7).mono ?_
  rintro e w2 ⟨rfl, rfl⟩
  have k0 : w1.cell? ⟨w.heap.size + 1, 0, none⟩ = some (.int .i64 16) := cell_of_row w1 _ 0 _ _ (0, 0) MB.out
  have k6 : w1.cell? ⟨w.heap.size + 1, 6, none⟩ = some (.int .u64 op2) := cell_of_row w1 _ 6 _ _ (0, 0) MB.out
  have s0 : w1.cell? ⟨w.heap.size, 0, none⟩ = some (.int .u64 op2) := cell_of_row w1 _ 0 _ _ (0, 0) SB.out
  have s2 : w1.cell? ⟨w.heap.size, 2, none⟩ = some (.slice (some ⟨bb, o7, none⟩) m e0) := cell_of_row w1 _ 2 _ _ (0, 0) SB.out
  go_wp2_with fail
  refine (idx_piece (doc := doc) (HP.out.row.below (w' := w1) G1.out (Nat.le_refl _)) HP.out.sl (cell_of_row w1 _ 14 _ _ (0, 0) MB.out)).mono ?_
  rw [HI.out]
  rintro e w2 ⟨rfl, g2⟩
  have SB2 := Lib.hid (row_grow SB.out g2); have MB2 := Lib.hid (row_grow MB.out g2); have RB2 := Lib.hid (row_grow RB.out g2); have G2 := Lib.hid (G1.out.trans g2)
  clear g2 k0 k6 s0 s2
  have s2 : w2.cell? ⟨w.heap.size, 2, none⟩ = some (.slice (some ⟨bb, o7, none⟩) m e0) := cell_of_row w2 _ 2 _ _ (0, 0) SB2.out
  have k15 : w2.cell? ⟨w.heap.size + 1, 15, none⟩ = some (.int .i64 off) := cell_of_row w2 _ 15 _ _ (0, 0) MB2.out
  have x3 := Lies.flat_cell (j := 3) pcell_len (HP.out.grow G2.out).row HLX.out rfl
  have i0 : (0 : Int) ≤ (i : Int) := by omega
  have i1 : (i : Int) < (m : Int) := by omega
  have d0 : decide (off < 0) = false := by simp; omega
  have d1 : decide ((k : Int) < off) = true := by simp; omega
  clear hoff h9
  go_wp2_with (
    refine wpList_store_row rfl _ _ _ rfl (w.heap.size + 2) #[.int .i64 0, .int .u64 0, .int .i64 0, .int .u32 0, .int .u64 0, .int .u64 0, .int .u64 0, .int .u64 0, .int .u64 0, .int .u64 0, .int .u64 0, .int .u32 0, .int .u64 0, .slice none 0 0, .int .u32 0, .int .i64 0, .int .i64 0, .bool false, .slice none 0 0, .slice none 0 0] rfl rfl _ _ RB2.out (by kernel_rfl) rfl msg_oc ?_
    have hrw := setRow_heap w2 (w.heap.size + 2) _ #[.int .i64 0, .int .u64 0, .int .i64 0, .int .u32 0, .int .u64 0, .int .u64 0, .int .u64 0, .int .u64 0, .int .u64 0, .int .u64 0, .int .u64 0, .int .u32 0, .int .u64 0, .slice none 0 0, .int .u32 0, .int .i64 0, .int .i64 0, .bool false, .slice none 0 0, .slice none 0 0] _ _ RB2.out
    have g3 := GrowS.setRow (T := fun i => i = w.heap.size + 2) w2 rfl #[.int .i64 0, .int .u64 0, .int .i64 0, .int .u32 0, .int .u64 0, .int .u64 0, .int .u64 0, .int .u64 0, .int .u64 0, .int .u64 0, .int .u64 0, .int .u32 0, .int .u64 0, .slice none 0 0, .int .u32 0, .int .i64 0, .int .i64 0, .bool false, .slice none 0 0, .slice none 0 0]
    go_wp2
    refine bodyPost_ret (v := .tuple #[.agg #[.int .i64 0, .int .u64 0, .int .i64 0, .int .u32 0, .int .u64 0, .int .u64 0, .int .u64 0, .int .u64 0, .int .u64 0, .int .u64 0, .int .u64 0, .int .u32 0, .int .u64 0, .slice none 0 0, .int .u32 0, .int .i64 0, .int .i64 0, .bool false, .slice none 0 0, .slice none 0 0], .int .i64 30]) (results_ct (p := 6) (u := 7) (ty := 42) rfl _ _ (w.heap.size + 2) _ rfl (run_loadVar_row _ _ _ _ _ _ _ hrw Try.underlying42 rfl (by kernel_rfl))) rfl ⟨rfl, g3.over G2.out (fun k hk => by omega)⟩)
set_option maxRecDepth 100000 in
set_option maxHeartbeats 4000000 in
theorem planf_many {me : Int} {op : Nat} {A B : Option Addr} {n c m e0 : Nat} {w : World} (h0 : 0 ≤ me) (h7 : me < 7) (hm : 32 < m) :
    Calls Try.prog 14 #[.int .i64 me, .agg #[.int .u64 op, .slice A n c, .slice B m e0]] w fun e w' => e = .returned (.tuple #[.agg #[.int .i64 0, .int .u64 0, .int .i64 0, .int .u32 0, .int .u64 0, .int .u64 0, .int .u64 0, .int .u64 0, .int .u64 0, .int .u64 0, .int .u64 0, .int .u32 0, .int .u64 0, .slice none 0 0, .int .u32 0, .int .i64 0, .int .i64 0, .bool false, .slice none 0 0, .slice none 0 0], .int .i64 1]) ∧ Grow w w' := by
  have sb := heap_alloc2_old w (.cells #[.int .u64 op, .slice A n c, .slice B m e0] 26) (.cells #[.int .i64 0, .int .u64 0, .int .i64 0, .int .u32 0, .int .u64 0, .int .u64 0, .int .u64 0, .int .u64 0, .int .u64 0, .int .u64 0, .int .u64 0, .int .u32 0, .int .u64 0, .slice none 0 0, .int .u32 0, .int .i64 0, .int .i64 0, .bool false, .slice none 0 0, .slice none 0 0] 42)
  have rb := heap_alloc2_new w (.cells #[.int .u64 op, .slice A n c, .slice B m e0] 26) (.cells #[.int .i64 0, .int .u64 0, .int .i64 0, .int .u32 0, .int .u64 0, .int .u64 0, .int .u64 0, .int .u64 0, .int .u64 0, .int .u64 0, .int .u64 0, .int .u32 0, .int .u64 0, .slice none 0 0, .int .u32 0, .int .i64 0, .int .i64 0, .bool false, .slice none 0 0, .slice none 0 0] 42)
  obtain ⟨w1, hw1⟩ : ∃ w1, (w.alloc (.cells #[.int .u64 op, .slice A n c, .slice B m e0] 26)).alloc (.cells #[.int .i64 0, .int .u64 0, .int .i64 0, .int .u32 0, .int .u64 0, .int .u64 0, .int .u64 0, .int .u64 0, .int .u64 0, .int .u64 0, .int .u64 0, .int .u32 0, .int .u64 0, .slice none 0 0, .int .u32 0, .int .i64 0, .int .i64 0, .bool false, .slice none 0 0, .slice none 0 0] 42) = w1 := ⟨_, rfl⟩
  have g1 : Grow w w1 := hw1 ▸ (Grow.alloc w _).trans (Grow.alloc _ _)
  rw [hw1] at sb rb
  have SB := Lib.hid sb; have RB := Lib.hid rb; have G1 := Lib.hid g1; have HW1 := Lib.hid hw1
  clear sb rb g1 hw1
  go_enter Try.func14, Try.ntmps14
  go_wp2_with fail
  rw [HW1.out]
  have k2 : w1.cell? ⟨w.heap.size, 2, none⟩ = some (.slice B m e0) := cell_of_row w1 _ 2 _ _ (0, 0) SB.out
  have dm : decide ((m : Int) > 32) = true := by simp; omega
  have dm2 : decide (32 < m) = true := by simp; omega
  clear hm
  refine (node_ok h0 h7).mono ?_
  rintro e w2 ⟨rfl, rfl⟩
  go_wp2_with (
    refine wpList_store_row rfl _ _ _ rfl (w.heap.size + 1) #[.int .i64 0, .int .u64 0, .int .i64 0, .int .u32 0, .int .u64 0, .int .u64 0, .int .u64 0, .int .u64 0, .int .u64 0, .int .u64 0, .int .u64 0, .int .u32 0, .int .u64 0, .slice none 0 0, .int .u32 0, .int .i64 0, .int .i64 0, .bool false, .slice none 0 0, .slice none 0 0] rfl rfl _ _ RB.out (by kernel_rfl) rfl msg_oc ?_
    have hrw := setRow_heap w1 (w.heap.size + 1) _ #[.int .i64 0, .int .u64 0, .int .i64 0, .int .u32 0, .int .u64 0, .int .u64 0, .int .u64 0, .int .u64 0, .int .u64 0, .int .u64 0, .int .u64 0, .int .u32 0, .int .u64 0, .slice none 0 0, .int .u32 0, .int .i64 0, .int .i64 0, .bool false, .slice none 0 0, .slice none 0 0] _ _ RB.out
    have g3 := GrowS.setRow (T := fun i => i = w.heap.size + 1) w1 rfl #[.int .i64 0, .int .u64 0, .int .i64 0, .int .u32 0, .int .u64 0, .int .u64 0, .int .u64 0, .int .u64 0, .int .u64 0, .int .u64 0, .int .u64 0, .int .u32 0, .int .u64 0, .slice none 0 0, .int .u32 0, .int .i64 0, .int .i64 0, .bool false, .slice none 0 0, .slice none 0 0]
    go_wp2
    refine bodyPost_ret (v := .tuple #[.agg #[.int .i64 0, .int .u64 0, .int .i64 0, .int .u32 0, .int .u64 0, .int .u64 0, .int .u64 0, .int .u64 0, .int .u64 0, .int .u64 0, .int .u64 0, .int .u32 0, .int .u64 0, .slice none 0 0, .int .u32 0, .int .i64 0, .int .i64 0, .bool false, .slice none 0 0, .slice none 0 0], .int .i64 1]) (results_ct (p := 4) (u := 5) (ty := 42) rfl _ _ (w.heap.size + 1) _ rfl (run_loadVar_row _ _ _ _ _ _ _ hrw Try.underlying42 rfl (by kernel_rfl))) rfl ⟨rfl, g3.over G1.out (fun k hk => by omega)⟩)
end Go.Proofs.Ytlnokohmmhmoaaa

