/-
  past: the contract of own.
-/
import Derived.Test.YtfpbmpgdpnpdjaaPMem
namespace Go.Proofs.Ytfpbmpgdpnpdjaa
open Go.RowKit
set_option linter.unusedSimpArgs false

set_option maxRecDepth 100000 in
theorem pown_any {A : Option Addr} {n c : Nat} {us : List U} {cl rq : Int} {un : Bool} {w : World} (hL : Lies w 5 A n c (uns us)) (hn : n * 40 ≤ 140737488355328) :
    Calls Try.prog 62 #[.agg #[.int .u32 cl, .int .u64 rq, .slice A n c, .bool un]] w fun e w' => ∃ A' c', e = .returned (.agg #[.int .u32 cl, .int .u64 rq, .slice A' n c', .bool un]) ∧ w'.ownsRow w.heap.size 30 5 (.slice A' n c') n (uns us) ∧ Grow w w' := by
  have HL := Lib.hid hL
  clear hL
  go_enter Try.func62, Try.ntmps62
  go_wp2_with fail
  refine (own_any ((HL.out.alloc _).alloc _) hn).mono ?_
  rintro e w1 ⟨A', c', rfl, own1, g1⟩
  have r0 := row_grow (row_grow (heap_alloc_new w (.cells #[.int .u32 cl, .int .u64 rq, .slice A n c, .bool un] 67)) (Grow.alloc _ _)) g1
  have O1 := Lib.hid own1; have G1 := Lib.hid (Grow.trans (Grow.trans (Grow.alloc w _) (Grow.alloc _ _)) g1); have R0 := Lib.hid r0
  have r1 := row_grow (heap_alloc_new (w.alloc (.cells #[.int .u32 cl, .int .u64 rq, .slice A n c, .bool un] 67)) (.cells #[.int .u32 0, .int .u64 0, .slice none 0 0, .bool false] 67)) g1
  have R1 := Lib.hid ((heap_set w1 w.heap.size 2 (w.heap.size + 1) (.slice A' n c') (by omega)).trans (by simpa using r1))
  clear own1 g1 r0 r1
  have q0 := cell_of_row w1 w.heap.size 0 _ _ (0, 0) R0.out
  have q1 := cell_of_row w1 w.heap.size 1 _ _ (0, 0) R0.out
  have q2 := cell_of_row w1 w.heap.size 2 _ _ (0, 0) R0.out
  have q3 := cell_of_row w1 w.heap.size 3 _ _ (0, 0) R0.out
  have z0 : (w1.setCell ⟨w.heap.size, 2, none⟩ (.slice A' n c')).cell? ⟨w.heap.size, 0, none⟩ = some (.int .u32 cl) := by refine Eq.trans (World.cell?_setCell_other (h := ?_) ..) q0; simp
  have z1 : (w1.setCell ⟨w.heap.size, 2, none⟩ (.slice A' n c')).cell? ⟨w.heap.size, 1, none⟩ = some (.int .u64 rq) := by refine Eq.trans (World.cell?_setCell_other (h := ?_) ..) q1; simp
  have z2 : (w1.setCell ⟨w.heap.size, 2, none⟩ (.slice A' n c')).cell? ⟨w.heap.size, 2, none⟩ = some (.slice A' n c') := by apply World.cell?_setCell_same; exact q2
  have z3 : (w1.setCell ⟨w.heap.size, 2, none⟩ (.slice A' n c')).cell? ⟨w.heap.size, 3, none⟩ = some (.bool un) := by refine Eq.trans (World.cell?_setCell_other (h := ?_) ..) q3; simp
  have fr := frozen_of_row w1 w.heap.size 2 _ _ R0.out
  go_wp2_with (refine wpList_store_row rfl _ _ _ rfl (w.heap.size + 1) #[.int .u32 cl, .int .u64 rq, .slice A' n c', .bool un] rfl rfl _ _ R1.out (by kernel_rfl) rfl (by simp [Value.oneCell']) ?_)
  have hrw := setRow_heap (w1.setCell ⟨w.heap.size, 2, none⟩ (.slice A' n c')) (w.heap.size + 1) _ #[.int .u32 cl, .int .u64 rq, .slice A' n c', .bool un] _ _ R1.out
  have gs : GrowS (fun k => k = w.heap.size ∨ k = w.heap.size + 1) w1 ((w1.setCell ⟨w.heap.size, 2, none⟩ (.slice A' n c')).setRow (w.heap.size + 1) #[.int .u32 cl, .int .u64 rq, .slice A' n c', .bool un]) :=
    (GrowS.setCell w1 (.inl rfl) _).trans (GrowS.setRow _ (.inr rfl) _)
  refine bodyPost_ret (v := .agg #[.int .u32 cl, .int .u64 rq, .slice A' n c', .bool un]) (results_cell_row rfl _ _ (w.heap.size + 1) _ _ _ _ rfl hrw Try.underlying67 rfl (by kernel_rfl)) rfl ⟨A', c', rfl, ?_, ?_⟩
  · refine (gs.own O1.out fun g hg => ?_).mono (by simp; omega)
    have := (O1.out.lt g hg).1
    simp at this
    omega
  · exact gs.over G1.out fun k hk => by omega
end Go.Proofs.Ytfpbmpgdpnpdjaa

