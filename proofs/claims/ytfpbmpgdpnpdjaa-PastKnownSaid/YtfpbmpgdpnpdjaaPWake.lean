/-
  past: the contracts of the law's end, wakes.
-/
import Derived.Test.YtfpbmpgdpnpdjaaPRefS
namespace Go.Proofs.Ytfpbmpgdpnpdjaa
open Go.RowKit
set_option linter.unusedSimpArgs false

def endU (pos : Int) : U := ⟨1, pos, 122, 0, 0⟩
def endO (pos : Int) : O := ⟨0, 0, [endU pos], false⟩
def nopO : O := ⟨0, 0, [], false⟩
theorem long_end {pos m : Int} (h0 : 0 ≤ pos) (h1 : pos ≤ m) : longV [endU pos] m = (m + 1, 0) := by
  have hm : ∀ u ∈ [endU pos], mayU u = true := by
    intro u hu
    simp only [List.mem_singleton] at hu
    subst hu
    have : mayI 122 = true := by decide
    simp [mayU, endU, h0, this]
  have hf : longU [endU pos] m = some (m + 1) := by
    have : fitsI 1 pos m = true := by simp [fitsI, h1]
    simp [longU, endU, this, growI]
  exact longV_some hm hf
theorem long_nil (m : Int) : longV [] m = (m, 0) := longV_some (fun _ h => by cases h) rfl
set_option maxRecDepth 100000 in
theorem end_any {pos : Int} {w : World} : Calls Try.prog 45 #[.int .i64 pos] w fun e w' => ∃ A c, e = .returned (.agg #[.int .u32 0, .int .u64 0, .slice A 1 c, .bool false]) ∧ Lies w' 5 A 1 c (uns [endU pos]) ∧ (∀ a, A = some a → w.heap.size ≤ a.block) ∧ Grow w w' := by
  go_enter Try.func45, Try.ntmps45
  have a0 := heap_alloc2_old w (.cells #[.int .u32 0, .int .u64 0, .slice none 0 0, .bool false] 67) (.cells #[.int .i64 1, .int .i64 pos, .int .i32 122, .int .u32 0, .int .u64 0] 30)
  have g0 : Grow w ((w.alloc (.cells #[.int .u32 0, .int .u64 0, .slice none 0 0, .bool false] 67)).alloc (.cells #[.int .i64 1, .int .i64 pos, .int .i32 122, .int .u32 0, .int .u64 0] 30)) := (Grow.alloc w _).trans (Grow.alloc _ _)
  have L0 : Lies ((w.alloc (.cells #[.int .u32 0, .int .u64 0, .slice none 0 0, .bool false] 67)).alloc (.cells #[.int .i64 1, .int .i64 pos, .int .i32 122, .int .u32 0, .int .u64 0] 30)) 5 (some ⟨w.heap.size + 1, 0, none⟩) 1 1 (uns [endU pos]) := lies_unit (endU pos) (by simp)
  have A0 := Lib.hid a0; have G0 := Lib.hid g0; have LL := Lib.hid L0
  clear a0 g0 L0
  go_wp2_with (
    refine wpList_store_row rfl _ _ _ rfl w.heap.size #[.int .u32 0, .int .u64 0, .slice (some ⟨w.heap.size + 1, 0, none⟩) 1 1, .bool false] rfl rfl _ _ A0.out (by kernel_rfl) rfl (by simp [Value.oneCell']) ?_)
  have hrw := setRow_heap _ w.heap.size _ #[.int .u32 0, .int .u64 0, .slice (some ⟨w.heap.size + 1, 0, none⟩) 1 1, .bool false] _ _ A0.out
  have gs := GrowS.setRow (T := fun i => i = w.heap.size) ((w.alloc (.cells #[.int .u32 0, .int .u64 0, .slice none 0 0, .bool false] 67)).alloc (.cells #[.int .i64 1, .int .i64 pos, .int .i32 122, .int .u32 0, .int .u64 0] 30)) rfl #[.int .u32 0, .int .u64 0, .slice (some ⟨w.heap.size + 1, 0, none⟩) 1 1, .bool false]
  refine bodyPost_ret (v := .agg #[.int .u32 0, .int .u64 0, .slice (some ⟨w.heap.size + 1, 0, none⟩) 1 1, .bool false]) (results_cell_row rfl _ _ w.heap.size _ _ _ _ rfl hrw Try.underlying67 rfl (by kernel_rfl)) rfl ⟨some ⟨w.heap.size + 1, 0, none⟩, 1, rfl, gs.lies LL.out (fun a ha e => by injection ha with ha; subst ha; simp at e), fun a ha => by injection ha with ha; subst ha; simp, gs.over G0.out fun k hk => by omega⟩
end Go.Proofs.Ytfpbmpgdpnpdjaa

