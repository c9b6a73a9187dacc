/-
  past: the reference's Own, One, Same.
-/
import Derived.Test.YtfpbmpgdpnpdjaaPPush2
import Derived.Test.YtfpbmpgdpnpdjaaPCopy
namespace Go.Proofs.Ytfpbmpgdpnpdjaa
open Go.RowKit
set_option linter.unusedSimpArgs false

set_option maxRecDepth 100000 in
theorem rown_any {A : Option Addr} {n c : Nat} {us : List U} {cl rq : Int} {un : Bool} {w : World} (hL : Lies w 5 A n c (uns us)) (hn : n * 40 ≤ 140737488355328) :
    Calls Try.prog 33 #[.agg #[.int .u32 cl, .int .u64 rq, .slice A n c, .bool un]] w fun e w' => ∃ A' c', e = .returned (.agg #[.int .u32 cl, .int .u64 rq, .slice A' n c', .bool un]) ∧ w'.ownsRow w.heap.size 30 5 (.slice A' n c') n (uns us) ∧ Grow w w' := by
  have HL := Lib.hid hL
  clear hL
  go_enter Try.func33, Try.ntmps33
  have a0 := heap_alloc2_old w (.cells #[.int .u32 cl, .int .u64 rq, .slice A n c, .bool un] 67) (.cells #[.int .u32 0, .int .u64 0, .slice none 0 0, .bool false] 67)
  have a1 := heap_alloc2_new w (.cells #[.int .u32 cl, .int .u64 rq, .slice A n c, .bool un] 67) (.cells #[.int .u32 0, .int .u64 0, .slice none 0 0, .bool false] 67)
  have g0 : Grow w ((w.alloc (.cells #[.int .u32 cl, .int .u64 rq, .slice A n c, .bool un] 67)).alloc (.cells #[.int .u32 0, .int .u64 0, .slice none 0 0, .bool false] 67)) := (Grow.alloc w _).trans (Grow.alloc _ _)
  have sz0 := (Array.getElem?_eq_some_iff.1 a1).1
  have A0 := Lib.hid a0; have A1 := Lib.hid a1; have G0 := Lib.hid g0; have SZ0 := Lib.hid sz0
  clear a0 a1 g0 sz0
  go_wp2_with (
    at_builtin
    refine wpList_appU rfl (.tmp 4) (.tmp 6) rfl (w.heap.size + 2) _ 0 [] rfl (own_nilU _ _) A n c us rfl (HL.out.below G0.out (Nat.le_refl _)) (by omega) (by have := SZ0.out; omega) ?_
    intro A' c' w1 own1 L1 bel1
    simp only [Nat.zero_add, List.nil_append] at own1
    have g1 := bel1 _ _ (Grow.refl _) (by simp)
    have R0 := Lib.hid (row_grow A0.out g1)
    have R1 := Lib.hid ((heap_set w1 w.heap.size 2 (w.heap.size + 1) (.slice A' n c') (by omega)).trans (row_grow A1.out g1))
    have O1 := Lib.hid own1
    have G1 := Lib.hid (G0.out.trans g1)
    clear own1 L1 bel1 g1
    simp only [Nat.zero_add]
    have q0 := cell_of_row w1 w.heap.size 0 _ _ (0, 0) R0.out
    have q1 := cell_of_row w1 w.heap.size 1 _ _ (0, 0) R0.out
    have q2 := cell_of_row w1 w.heap.size 2 _ _ (0, 0) R0.out
    have q3 := cell_of_row w1 w.heap.size 3 _ _ (0, 0) R0.out
    have z0 : (w1.setCell ⟨w.heap.size, 2, none⟩ (.slice A' n c')).cell? ⟨w.heap.size, 0, none⟩ = some (.int .u32 cl) := (by refine Eq.trans (World.cell?_setCell_other (h := ?_) ..) q0; simp)
    have z1 : (w1.setCell ⟨w.heap.size, 2, none⟩ (.slice A' n c')).cell? ⟨w.heap.size, 1, none⟩ = some (.int .u64 rq) := (by refine Eq.trans (World.cell?_setCell_other (h := ?_) ..) q1; simp)
    have z2 : (w1.setCell ⟨w.heap.size, 2, none⟩ (.slice A' n c')).cell? ⟨w.heap.size, 2, none⟩ = some (.slice A' n c') := (by apply World.cell?_setCell_same; exact q2)
    have z3 : (w1.setCell ⟨w.heap.size, 2, none⟩ (.slice A' n c')).cell? ⟨w.heap.size, 3, none⟩ = some (.bool un) := (by refine Eq.trans (World.cell?_setCell_other (h := ?_) ..) q3; simp)
    have fr := frozen_of_row w1 w.heap.size 2 _ _ R0.out
    go_wp2_with (refine wpList_store_row rfl _ _ _ rfl (w.heap.size + 1) #[.int .u32 cl, .int .u64 rq, .slice A' n c', .bool un] rfl rfl _ _ R1.out (by kernel_rfl) rfl (by simp [Value.oneCell']) ?_)
    have hrw := setRow_heap (w1.setCell ⟨w.heap.size, 2, none⟩ (.slice A' n c')) (w.heap.size + 1) _ #[.int .u32 cl, .int .u64 rq, .slice A' n c', .bool un] _ _ R1.out
    have gs : GrowS (fun k => k = w.heap.size ∨ k = w.heap.size + 1) w1 ((w1.setCell ⟨w.heap.size, 2, none⟩ (.slice A' n c')).setRow (w.heap.size + 1) #[.int .u32 cl, .int .u64 rq, .slice A' n c', .bool un]) :=
      (GrowS.setCell w1 (.inl rfl) _).trans (GrowS.setRow _ (.inr rfl) _)
    refine bodyPost_ret (v := .agg #[.int .u32 cl, .int .u64 rq, .slice A' n c', .bool un]) (results_cell_row rfl _ _ (w.heap.size + 1) _ _ _ _ rfl hrw Try.underlying67 rfl (by kernel_rfl)) rfl ⟨A', c', rfl, ?_, ?_⟩
    · refine (gs.own O1.out fun g hg => ?_).mono (by have := SZ0.out; omega)
      have := (O1.out.lt g hg).1
      have := SZ0.out
      omega
    · exact gs.over G1.out fun k hk => by omega)
end Go.Proofs.Ytfpbmpgdpnpdjaa

