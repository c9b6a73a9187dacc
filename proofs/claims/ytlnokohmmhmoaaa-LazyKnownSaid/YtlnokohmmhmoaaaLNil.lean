/-
  lazy: the methods on no fetch.
-/
import Derived.Test.YtlnokohmmhmoaaaLState
namespace Go.Proofs.Ytlnokohmmhmoaaa
open Go.RowKit
set_option linter.unusedSimpArgs false

theorem copy_nil {w : World} : Calls Try.prog 11 #[.pointer none] w fun e w' => e = .returned (.pointer none) ∧ w = w' := by
  go_enter Try.func11, Try.ntmps11
  go_wp2_with fail
  refine fnone_nil.mono ?_
  rintro e w2 ⟨rfl, rfl⟩
  go_wp2
  go_ret
  exact ⟨rfl, rfl⟩
set_option maxRecDepth 100000 in
theorem take_nil {k frm op doc off tot : Int} {A B : Option Addr} {n c m e0 : Nat} {w : World} : Calls Try.prog 18 #[.pointer none, .agg #[.int .i64 k, .int .u64 0, .int .i64 frm, .int .u32 0, .int .u64 0, .int .u64 0, .int .u64 op, .int .u64 0, .int .u64 0, .int .u64 0, .int .u64 0, .int .u32 0, .int .u64 0, .slice none 0 0, .int .u32 doc, .int .i64 off, .int .i64 tot, .bool false, .slice A n c, .slice B m e0]] w fun e w' => e = .returned (.int .i64 2) ∧ Grow w w' := by
  go_enter Try.func18, Try.ntmps18
  go_wp2_with fail
  refine fnone_nil.mono ?_
  rintro e w2 ⟨rfl, rfl⟩
  go_wp2
  go_ret
  exact ⟨rfl, Grow.alloc _ _⟩
set_option maxRecDepth 100000 in
theorem plan_nil {k frm op doc off tot : Int} {A B : Option Addr} {n c m e0 : Nat} {w : World} : Calls Try.prog 17 #[.pointer none, .agg #[.int .i64 k, .int .u64 0, .int .i64 frm, .int .u32 0, .int .u64 0, .int .u64 0, .int .u64 op, .int .u64 0, .int .u64 0, .int .u64 0, .int .u64 0, .int .u32 0, .int .u64 0, .slice none 0 0, .int .u32 doc, .int .i64 off, .int .i64 tot, .bool false, .slice A n c, .slice B m e0]] w fun e w' => e = .returned (.int .i64 2) ∧ Grow w w' := by
  go_enter Try.func17, Try.ntmps17
  go_wp2_with fail
  refine fnone_nil.mono ?_
  rintro e w2 ⟨rfl, rfl⟩
  go_wp2
  go_ret
  exact ⟨rfl, Grow.alloc _ _⟩
set_option maxRecDepth 100000 in
theorem state_nil {w : World} : Calls Try.prog 19 #[.pointer none] w fun e w' => e = .returned (.tuple #[.agg #[.int .u64 0, .slice none 0 0, .slice none 0 0], .bool false]) ∧ Grow w w' := by
  have rb := heap_alloc_new w (.cells #[.int .u64 0, .slice none 0 0, .slice none 0 0] 26)
  have g1 := Grow.alloc w (.cells #[.int .u64 0, .slice none 0 0, .slice none 0 0] 26)
  obtain ⟨w2, hw1⟩ : ∃ w1, w.alloc (.cells #[.int .u64 0, .slice none 0 0, .slice none 0 0] 26) = w1 := ⟨_, rfl⟩
  rw [hw1] at rb g1
  have RB2 := Lib.hid rb; have G2 := Lib.hid g1; have HW1 := Lib.hid hw1
  clear rb g1 hw1
  go_enter Try.func19, Try.ntmps19
  go_wp2_with fail
  rw [HW1.out]
  refine done_nil.mono ?_
  rintro e w3 ⟨rfl, rfl⟩
  go_upto_region 2 with fail
  have a0 : w2.cell? ⟨w.heap.size, 0, none⟩ = some (.int .u64 0) := cell_of_row w2 _ 0 _ _ (0, 0) RB2.out
  have b0 := frozen_of_row w2 _ 0 _ _ RB2.out
  have st1 := heap_setCell_same w2 w.heap.size 0 _ _ (.int .u64 0) RB2.out
  have a1 : (w2.setCell ⟨w.heap.size, 0, none⟩ (.int .u64 0)).cell? ⟨w.heap.size, 1, none⟩ = some (.slice none 0 0) := cell_of_row _ _ 1 _ _ (0, 0) st1
  have b1 := frozen_of_row _ _ 1 _ _ st1
  have st2 := heap_setCell_same _ w.heap.size 1 _ _ (.slice none 0 0) st1
  have a2 : ((w2.setCell ⟨w.heap.size, 0, none⟩ (.int .u64 0)).setCell ⟨w.heap.size, 1, none⟩ (.slice none 0 0)).cell? ⟨w.heap.size, 2, none⟩ = some (.slice none 0 0) := cell_of_row _ _ 2 _ _ (0, 0) st2
  have b2 := frozen_of_row _ _ 2 _ _ st2
  have st3 := heap_setCell_same _ w.heap.size 2 _ _ (.slice none 0 0) st2
  have ST3 := Lib.hid st3
  have gs := ((GrowS.setCell (T := fun k => k = w.heap.size) w2 (p := ⟨w.heap.size, 0, none⟩) rfl (.int .u64 0)).trans (GrowS.setCell (T := fun k => k = w.heap.size) _ (p := ⟨w.heap.size, 1, none⟩) rfl (.slice none 0 0))).trans (GrowS.setCell (T := fun k => k = w.heap.size) _ (p := ⟨w.heap.size, 2, none⟩) rfl (.slice none 0 0))
  have GS := Lib.hid (gs.over G2.out (fun k hk => by omega))
  clear st1 st2 st3 gs
  go_wp2
  refine bodyPost_ret (v := .tuple #[.agg #[.int .u64 0, .slice none 0 0, .slice none 0 0], .bool false]) (results_ct (p := 2) (u := 3) (ty := 26) rfl _ _ w.heap.size _ rfl (run_loadVar_row _ _ _ _ _ _ _ (by simpa using ST3.out) Try.underlying26 rfl (by kernel_rfl))) rfl ⟨rfl, GS.out⟩
set_option maxRecDepth 100000 in
theorem ask_nil {now : Int} {w : World} :
    Calls Try.prog 12 #[.pointer none, .int .u64 now] w fun e w' => e = .returned (.tuple #[.int .i64 0, .agg #[.int .i64 0, .int .u64 0, .int .i64 0, .int .u32 0, .int .u64 0, .int .u64 0, .int .u64 0, .int .u64 0, .int .u64 0, .int .u64 0, .int .u64 0, .int .u32 0, .int .u64 0, .slice none 0 0, .int .u32 0, .int .i64 0, .int .i64 0, .bool false, .slice none 0 0, .slice none 0 0], .bool false]) ∧ Grow w w' := by
  have hb := heap_alloc_new w (.cells #[.int .i64 0, .int .u64 0, .int .i64 0, .int .u32 0, .int .u64 0, .int .u64 0, .int .u64 0, .int .u64 0, .int .u64 0, .int .u64 0, .int .u64 0, .int .u32 0, .int .u64 0, .slice none 0 0, .int .u32 0, .int .i64 0, .int .i64 0, .bool false, .slice none 0 0, .slice none 0 0] 42)
  have HB1 := Lib.hid hb
  have G1 := Lib.hid (Grow.alloc w (.cells #[.int .i64 0, .int .u64 0, .int .i64 0, .int .u32 0, .int .u64 0, .int .u64 0, .int .u64 0, .int .u64 0, .int .u64 0, .int .u64 0, .int .u64 0, .int .u32 0, .int .u64 0, .slice none 0 0, .int .u32 0, .int .i64 0, .int .i64 0, .bool false, .slice none 0 0, .slice none 0 0] 42))
  obtain ⟨w1, hw1⟩ : ∃ w1, w.alloc (.cells #[.int .i64 0, .int .u64 0, .int .i64 0, .int .u32 0, .int .u64 0, .int .u64 0, .int .u64 0, .int .u64 0, .int .u64 0, .int .u64 0, .int .u64 0, .int .u32 0, .int .u64 0, .slice none 0 0, .int .u32 0, .int .i64 0, .int .i64 0, .bool false, .slice none 0 0, .slice none 0 0] 42) = w1 := ⟨_, rfl⟩
  rw [hw1] at HB1 G1
  have HW1 := Lib.hid hw1
  clear hb hw1
  go_enter Try.func12, Try.ntmps12
  go_wp2_with fail
  rw [HW1.out]
  refine fnone_nil.mono ?_
  rintro e w1 ⟨rfl, rfl⟩
  go_wp2_with (
    refine wpList_store_row rfl _ _ _ rfl w.heap.size #[.int .i64 0, .int .u64 0, .int .i64 0, .int .u32 0, .int .u64 0, .int .u64 0, .int .u64 0, .int .u64 0, .int .u64 0, .int .u64 0, .int .u64 0, .int .u32 0, .int .u64 0, .slice none 0 0, .int .u32 0, .int .i64 0, .int .i64 0, .bool false, .slice none 0 0, .slice none 0 0] rfl rfl _ _ HB1.out (by kernel_rfl) rfl msg_oc ?_)
  have hrw := setRow_heap w1 w.heap.size _ #[.int .i64 0, .int .u64 0, .int .i64 0, .int .u32 0, .int .u64 0, .int .u64 0, .int .u64 0, .int .u64 0, .int .u64 0, .int .u64 0, .int .u64 0, .int .u32 0, .int .u64 0, .slice none 0 0, .int .u32 0, .int .i64 0, .int .i64 0, .bool false, .slice none 0 0, .slice none 0 0] _ _ HB1.out
  have gs := GrowS.setRow (T := fun i => i = w.heap.size) w1 rfl #[.int .i64 0, .int .u64 0, .int .i64 0, .int .u32 0, .int .u64 0, .int .u64 0, .int .u64 0, .int .u64 0, .int .u64 0, .int .u64 0, .int .u64 0, .int .u32 0, .int .u64 0, .slice none 0 0, .int .u32 0, .int .i64 0, .int .i64 0, .bool false, .slice none 0 0, .slice none 0 0]
  refine bodyPost_ret (v := .tuple #[.int .i64 0, .agg #[.int .i64 0, .int .u64 0, .int .i64 0, .int .u32 0, .int .u64 0, .int .u64 0, .int .u64 0, .int .u64 0, .int .u64 0, .int .u64 0, .int .u64 0, .int .u32 0, .int .u64 0, .slice none 0 0, .int .u32 0, .int .i64 0, .int .i64 0, .bool false, .slice none 0 0, .slice none 0 0], .bool false]) (results_tct (s := 4) (p := 5) (u := 6) (ty := 42) rfl _ _ w.heap.size _ rfl (run_loadVar_row _ _ _ _ _ _ _ hrw Try.underlying42 rfl (by kernel_rfl))) rfl ⟨rfl, gs.over G1.out fun k hk => by omega⟩
end Go.Proofs.Ytlnokohmmhmoaaa

