/-
  lazy: the contract of Take, where the document is not found.
-/
import Derived.Test.YtlnokohmmhmoaaaLTake1
namespace Go.Proofs.Ytlnokohmmhmoaaa
open Go.RowKit
set_option linter.unusedSimpArgs false

set_option maxRecDepth 100000 in
set_option maxHeartbeats 4000000 in
theorem take_none {T R : Nat → Prop} {p doc : Nat} {f : F} {off tot : Int} {A B : Option Addr} {n c m e0 : Nat} {w : World} (h : FIs w T R p f) (hfr : 0 ≤ f.frm) (hi : idxI (fun d : Dt => decide (d.doc = doc) && !d.all) f.docs = -1) :
    Calls Try.prog 18 #[.pointer (some ⟨p, 0, none⟩), .agg #[.int .i64 17, .int .u64 0, .int .i64 f.frm, .int .u32 0, .int .u64 0, .int .u64 0, .int .u64 f.op, .int .u64 0, .int .u64 0, .int .u64 0, .int .u64 0, .int .u32 0, .int .u64 0, .slice none 0 0, .int .u32 doc, .int .i64 off, .int .i64 tot, .bool false, .slice A n c, .slice B m e0]] w fun e w' => e = .returned (.int .i64 6) ∧ Grow w w' := by
  obtain ⟨b, Rv, V, l, h⟩ := h
  have hbox := heap_alloc_new w (.cells #[.int .i64 17, .int .u64 0, .int .i64 f.frm, .int .u32 0, .int .u64 0, .int .u64 0, .int .u64 f.op, .int .u64 0, .int .u64 0, .int .u64 0, .int .u64 0, .int .u32 0, .int .u64 0, .slice none 0 0, .int .u32 doc, .int .i64 off, .int .i64 tot, .bool false, .slice A n c, .slice B m e0] 42)
  have ga := Grow.alloc w (.cells #[.int .i64 17, .int .u64 0, .int .i64 f.frm, .int .u32 0, .int .u64 0, .int .u64 0, .int .u64 f.op, .int .u64 0, .int .u64 0, .int .u64 0, .int .u64 0, .int .u32 0, .int .u64 0, .slice none 0 0, .int .u32 doc, .int .i64 off, .int .i64 tot, .bool false, .slice A n c, .slice B m e0] 42)
  obtain ⟨w1, hw1⟩ : ∃ w1, w.alloc (.cells #[.int .i64 17, .int .u64 0, .int .i64 f.frm, .int .u32 0, .int .u64 0, .int .u64 0, .int .u64 f.op, .int .u64 0, .int .u64 0, .int .u64 0, .int .u64 0, .int .u32 0, .int .u64 0, .slice none 0 0, .int .u32 doc, .int .i64 off, .int .i64 tot, .bool false, .slice A n c, .slice B m e0] 42) = w1 := ⟨_, rfl⟩
  rw [hw1] at hbox ga
  obtain ⟨A6, c6', rfl, -⟩ := own_form h.docs
  obtain ⟨k2, hk2⟩ : ∃ k2, l.length = k2 := ⟨_, rfl⟩
  rw [hk2] at h
  have c11 : w1.cell? ⟨p, 11, none⟩ = some (.bool true) := (h.grow ga).c 11
  have H1 := Lib.hid (h.grow ga); have BX := Lib.hid hbox; have GA := Lib.hid ga; have HW1 := Lib.hid hw1; have HK2 := Lib.hid hk2; have HI := Lib.hid hi
  clear h hbox ga hw1 hk2 hi
  go_enter Try.func18, Try.ntmps18
  go_wp2_with fail
  rw [HW1.out]
  refine (fnone_made c11).mono ?_
  rintro e w2 ⟨rfl, rfl⟩
  go_upto_region 3 with fail
  have y0 : ∀ W, Grow w1 W → W.cell? ⟨w.heap.size, 0, none⟩ = some (.int .i64 17) := fun W g => cell_of_row W _ 0 _ _ (0, 0) (row_grow BX.out g)
  have y2 : ∀ W, Grow w1 W → W.cell? ⟨w.heap.size, 2, none⟩ = some (.int .i64 f.frm) := fun W g => cell_of_row W _ 2 _ _ (0, 0) (row_grow BX.out g)
  have y6 : ∀ W, Grow w1 W → W.cell? ⟨w.heap.size, 6, none⟩ = some (.int .u64 f.op) := fun W g => cell_of_row W _ 6 _ _ (0, 0) (row_grow BX.out g)
  have q3 : ∀ W, Grow w1 W → W.cell? ⟨p, 3, none⟩ = some (.int .i64 f.frm) := fun W g => (H1.out.grow g).c 3
  have q4 : ∀ W, Grow w1 W → W.cell? ⟨p, 4, none⟩ = some (.int .u64 f.op) := fun W g => (H1.out.grow g).c 4
  have e2 : decide (f.frm < 0) = false := by simp; omega
  clear c11
  refine Chain.start Nat (by kernel_rfl) (by kernel_rfl) (fun hg => ?_)
  repeat (first | (refine Chain.skip hg (fun t => by rfl) ?_; simp only [Act.put, List.setIfInBounds_toArray, List.set_cons_zero, List.set_cons_succ]) | (refine Chain.pure hg (X := ?_) (fun t W hw hN => ⟨by rfl, ?_⟩) ?_; rotate_left; (focus (go_simp <;> with_reducible rfl)); simp only [Act.put, List.setIfInBounds_toArray, List.set_cons_zero, List.set_cons_succ]))
  refine Chain.done (fun t W hw hN => ?_)
  have H2 := Lib.hid (H1.out.grow hw); have BX2 := Lib.hid (row_grow BX.out hw); have G2 := Lib.hid (GA.out.trans hw)
  clear hN hg y0 y2 y6 q3 q4 hw e2
  have c6 : W.cell? ⟨p, 6, none⟩ = some (.slice A6 k2 c6') := H2.out.c 6
  go_wp2_with fail
  refine (idx_take (doc := doc) (Lies.of_own (by have := H2.out.docs; rw [HK2.out] at this; exact this)) (fun x hx => by obtain ⟨A, n, c, e, -⟩ := (H2.out.each x hx).lies; exact ⟨A, n, c, e⟩) (cell_of_row W _ 14 _ _ (0, 0) BX2.out)).mono ?_
  rw [H2.out.map, HI.out]
  rintro e w3 ⟨rfl, g3⟩
  have G3 := Lib.hid (G2.out.trans g3)
  clear g3 c6
  go_wp2
  go_ret
  exact ⟨rfl, G3.out⟩
end Go.Proofs.Ytlnokohmmhmoaaa

