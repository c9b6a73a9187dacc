/-
  lazy: the contract of Ask, where it asks nothing.
-/
import Derived.Test.YtlnokohmmhmoaaaLTurn
namespace Go.Proofs.Ytlnokohmmhmoaaa
open Go.RowKit
set_option linter.unusedSimpArgs false

theorem msg_oc {k fr op d of tt : Int} {A B : Option Addr} {n c m e : Nat} : (#[.int .i64 k, .int .u64 0, .int .i64 fr, .int .u32 0, .int .u64 0, .int .u64 0, .int .u64 op, .int .u64 0, .int .u64 0, .int .u64 0, .int .u64 0, .int .u32 0, .int .u64 0, .slice none 0 0, .int .u32 d, .int .i64 of, .int .i64 tt, .bool false, .slice A n c, .slice B m e] : Array Value).all (·.oneCell') = true := by
  simp [Value.oneCell']
set_option maxRecDepth 100000 in
theorem ask_done {T R : Nat → Prop} {p : Nat} {f : F} {now : Int} {w : World} (h : FIs w T R p f) (hd : doneF f = true) :
    Calls Try.prog 12 #[.pointer (some ⟨p, 0, none⟩), .int .u64 now] w fun e w' => e = .returned (.tuple #[.int .i64 0, .agg #[.int .i64 0, .int .u64 0, .int .i64 0, .int .u32 0, .int .u64 0, .int .u64 0, .int .u64 0, .int .u64 0, .int .u64 0, .int .u64 0, .int .u64 0, .int .u32 0, .int .u64 0, .slice none 0 0, .int .u32 0, .int .i64 0, .int .i64 0, .bool false, .slice none 0 0, .slice none 0 0], .bool false]) ∧ Grow w w' := by
  have H := Lib.hid h
  have HD := Lib.hid hd
  have hb := heap_alloc_new w (.cells #[.int .i64 0, .int .u64 0, .int .i64 0, .int .u32 0, .int .u64 0, .int .u64 0, .int .u64 0, .int .u64 0, .int .u64 0, .int .u64 0, .int .u64 0, .int .u32 0, .int .u64 0, .slice none 0 0, .int .u32 0, .int .i64 0, .int .i64 0, .bool false, .slice none 0 0, .slice none 0 0] 42)
  have c11 : (w.alloc (.cells #[.int .i64 0, .int .u64 0, .int .i64 0, .int .u32 0, .int .u64 0, .int .u64 0, .int .u64 0, .int .u64 0, .int .u64 0, .int .u64 0, .int .u64 0, .int .u32 0, .int .u64 0, .slice none 0 0, .int .u32 0, .int .i64 0, .int .i64 0, .bool false, .slice none 0 0, .slice none 0 0] 42)).cell? ⟨p, 11, none⟩ = some (.bool true) := by
    obtain ⟨b, Rv, V, l, h⟩ := h.grow (Grow.alloc w (.cells #[.int .i64 0, .int .u64 0, .int .i64 0, .int .u32 0, .int .u64 0, .int .u64 0, .int .u64 0, .int .u64 0, .int .u64 0, .int .u64 0, .int .u64 0, .int .u32 0, .int .u64 0, .slice none 0 0, .int .u32 0, .int .i64 0, .int .i64 0, .bool false, .slice none 0 0, .slice none 0 0] 42))
    exact h.c 11
  have HB := Lib.hid hb
  clear h hd hb
  go_enter Try.func12, Try.ntmps12
  go_wp2_with fail
  refine (fnone_made c11).mono ?_
  rintro e w1 ⟨rfl, rfl⟩
  go_wp2_with fail
  refine (fdone_any (H.out.grow (Grow.alloc _ _))).mono ?_
  rw [HD.out]
  rintro e w1 ⟨rfl, g1⟩
  have hb1 := row_grow HB.out g1
  have HB1 := Lib.hid hb1
  have G1 := Lib.hid (Grow.trans (Grow.alloc w _) g1)
  clear hb1 g1 c11
  go_wp2_with (
    refine wpList_store_row rfl _ _ _ rfl w.heap.size #[.int .i64 0, .int .u64 0, .int .i64 0, .int .u32 0, .int .u64 0, .int .u64 0, .int .u64 0, .int .u64 0, .int .u64 0, .int .u64 0, .int .u64 0, .int .u32 0, .int .u64 0, .slice none 0 0, .int .u32 0, .int .i64 0, .int .i64 0, .bool false, .slice none 0 0, .slice none 0 0] rfl rfl _ _ HB1.out (by kernel_rfl) rfl msg_oc ?_)
  have hrw := setRow_heap w1 w.heap.size _ #[.int .i64 0, .int .u64 0, .int .i64 0, .int .u32 0, .int .u64 0, .int .u64 0, .int .u64 0, .int .u64 0, .int .u64 0, .int .u64 0, .int .u64 0, .int .u32 0, .int .u64 0, .slice none 0 0, .int .u32 0, .int .i64 0, .int .i64 0, .bool false, .slice none 0 0, .slice none 0 0] _ _ HB1.out
  have gs := GrowS.setRow (T := fun i => i = w.heap.size) w1 rfl #[.int .i64 0, .int .u64 0, .int .i64 0, .int .u32 0, .int .u64 0, .int .u64 0, .int .u64 0, .int .u64 0, .int .u64 0, .int .u64 0, .int .u64 0, .int .u32 0, .int .u64 0, .slice none 0 0, .int .u32 0, .int .i64 0, .int .i64 0, .bool false, .slice none 0 0, .slice none 0 0]
  refine bodyPost_ret (v := .tuple #[.int .i64 0, .agg #[.int .i64 0, .int .u64 0, .int .i64 0, .int .u32 0, .int .u64 0, .int .u64 0, .int .u64 0, .int .u64 0, .int .u64 0, .int .u64 0, .int .u64 0, .int .u32 0, .int .u64 0, .slice none 0 0, .int .u32 0, .int .i64 0, .int .i64 0, .bool false, .slice none 0 0, .slice none 0 0], .bool false]) (results_tct (s := 4) (p := 5) (u := 6) (ty := 42) rfl _ _ w.heap.size _ rfl (run_loadVar_row _ _ _ _ _ _ _ hrw Try.underlying42 rfl (by kernel_rfl))) rfl ⟨rfl, gs.over G1.out fun k hk => by omega⟩
end Go.Proofs.Ytlnokohmmhmoaaa

