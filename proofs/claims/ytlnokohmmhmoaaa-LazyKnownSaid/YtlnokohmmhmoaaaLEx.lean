/-
  lazy: the contract of the law's example.
-/
import Derived.Test.YtlnokohmmhmoaaaLNil
namespace Go.Proofs.Ytlnokohmmhmoaaa
open Go.RowKit
set_option linter.unusedSimpArgs false

def exP : Pt := ⟨1, 0, 3, [97, 98, 99]⟩
set_option maxRecDepth 100000 in
theorem example_ok {w : World} : Calls Try.prog 22 #[] w fun e w' => ∃ A c B d l, e = .returned (.agg #[.int .u64 8, .slice A 1 c, .slice B 1 d]) ∧ Lies w' 1 A 1 c (byt [114]) ∧ (∀ a, A = some a → w.heap.size ≤ a.block) ∧ PsAt w' (fun k => w.heap.size ≤ k ∧ k < w'.heap.size) B 1 d l ∧ l.map (·.1) = [exP] ∧ Grow w w' := by
  have kc := conv_const
  go_enter Try.func22, Try.ntmps22
  go_wp2_with fail
  have hrw := row_grow (row_grow (row_grow (heap_alloc_new w (.cells #[.int .u64 8, .slice (some ⟨w.heap.size + 1, 0, none⟩) 1 1, .slice (some ⟨w.heap.size + 1 + 1 + 1, 0, none⟩) 1 1] 26)) (Grow.alloc _ (.cells #[.int .u8 114] 5 (1, 2)))) (Grow.alloc _ (.cells #[.int .u8 97, .int .u8 98, .int .u8 99] 5 (3, 4)))) (Grow.alloc _ (.cells #[.int .u32 1, .int .u64 0, .int .u64 3, .slice (some ⟨w.heap.size + 1 + 1, 0, none⟩) 3 3] 31))
  have g0 : Grow w _ := ((Grow.alloc w (.cells #[.int .u64 8, .slice (some ⟨w.heap.size + 1, 0, none⟩) 1 1, .slice (some ⟨w.heap.size + 1 + 1 + 1, 0, none⟩) 1 1] 26)).trans (Grow.alloc _ (.cells #[.int .u8 114] 5 (1, 2)))).trans ((Grow.alloc _ (.cells #[.int .u8 97, .int .u8 98, .int .u8 99] 5 (3, 4))).trans (Grow.alloc _ (.cells #[.int .u32 1, .int .u64 0, .int .u64 3, .slice (some ⟨w.heap.size + 1 + 1, 0, none⟩) 3 3] 31)))
  have L1 : Lies _ 1 (some ⟨w.heap.size + 1, 0, none⟩) 1 1 (byt [114]) := ((lies_mark (w := w.alloc (.cells #[.int .u64 8, .slice (some ⟨w.heap.size + 1, 0, none⟩) 1 1, .slice (some ⟨w.heap.size + 1 + 1 + 1, 0, none⟩) 1 1] 26)) (e := 5) (cs := #[.int .u8 114]) (m := (1, 2)) [114] 1 (by simp) rfl rfl (Nat.le_refl _) (by decide)).alloc (.cells #[.int .u8 97, .int .u8 98, .int .u8 99] 5 (3, 4))).alloc (.cells #[.int .u32 1, .int .u64 0, .int .u64 3, .slice (some ⟨w.heap.size + 1 + 1, 0, none⟩) 3 3] 31)
  have L2 : Lies _ 1 (some ⟨w.heap.size + 1 + 1, 0, none⟩) 3 3 (byt [97, 98, 99]) := (lies_mark (w := (w.alloc (.cells #[.int .u64 8, .slice (some ⟨w.heap.size + 1, 0, none⟩) 1 1, .slice (some ⟨w.heap.size + 1 + 1 + 1, 0, none⟩) 1 1] 26)).alloc (.cells #[.int .u8 114] 5 (1, 2))) (e := 5) (cs := #[.int .u8 97, .int .u8 98, .int .u8 99]) (m := (3, 4)) [97, 98, 99] 3 (by simp) rfl rfl (Nat.le_refl _) (by decide)).alloc (.cells #[.int .u32 1, .int .u64 0, .int .u64 3, .slice (some ⟨w.heap.size + 1 + 1, 0, none⟩) 3 3] 31)
  have h3 := heap_alloc_new (((w.alloc (.cells #[.int .u64 8, .slice (some ⟨w.heap.size + 1, 0, none⟩) 1 1, .slice (some ⟨w.heap.size + 1 + 1 + 1, 0, none⟩) 1 1] 26)).alloc (.cells #[.int .u8 114] 5 (1, 2))).alloc (.cells #[.int .u8 97, .int .u8 98, .int .u8 99] 5 (3, 4))) (.cells #[.int .u32 1, .int .u64 0, .int .u64 3, .slice (some ⟨w.heap.size + 1 + 1, 0, none⟩) 3 3] 31)
  have L3 := lies_pt (x := exP) h3
  refine bodyPost_ret (v := .agg #[.int .u64 8, .slice (some ⟨w.heap.size + 1, 0, none⟩) 1 1, .slice (some ⟨w.heap.size + 1 + 1 + 1, 0, none⟩) 1 1]) (results_cell_row rfl _ _ w.heap.size _ _ _ _ rfl hrw Try.underlying26 rfl (by kernel_rfl)) rfl ⟨some ⟨w.heap.size + 1, 0, none⟩, 1, some ⟨w.heap.size + 1 + 1 + 1, 0, none⟩, 1, [(exP, .slice (some ⟨w.heap.size + 1 + 1, 0, none⟩) 3 3)], rfl, L1, fun a ha => by injection ha with ha; subst ha; simp, ⟨?_, ?_, ?_⟩, rfl, g0⟩
  · simpa using L3
  · intro a ha _
    injection ha with ha; subst ha
    simp
    omega
  · intro x hx
    simp only [List.mem_singleton] at hx
    subst hx
    exact ⟨_, 3, 3, rfl, L2, fun a ha _ => by injection ha with ha; subst ha; simp; omega⟩
end Go.Proofs.Ytlnokohmmhmoaaa

