/-
  lazy: the contract of Ask, where it waits; where it asks.
-/
import Derived.Test.YtlnokohmmhmoaaaLAsk
namespace Go.Proofs.Ytlnokohmmhmoaaa
open Go.RowKit
set_option linter.unusedSimpArgs false

def vainF (f : F) : Nat := if f.fresh then f.vain else f.vain + 1
def resetF (f : F) : Bool := decide (3 ≤ vainF f) && decide (0 ≤ f.frm)
def askF (f : F) (now : Nat) : F :=
  if resetF f then { f with frm := -1, docs := [], rest := [], vain := 0, now := max f.now now, asked := max f.now now, fresh := false }
  else { f with vain := vainF f, now := max f.now now, asked := max f.now now, fresh := false }
def dueF (f : F) (now : Nat) : Bool := f.fresh || decide (4 ≤ max f.now now - f.asked)
set_option maxRecDepth 100000 in
set_option maxHeartbeats 2000000 in
theorem ask_wait {T R : Nat → Prop} {p : Nat} {f : F} {now : Nat} {w : World} (h : FIs w T R p f) (hd : doneF f = false) (hu : dueF f now = false) (ha : f.asked ≤ f.now) (hb : f.now ≤ 9223372036854775807) (hb2 : now ≤ 9223372036854775807) :
    Calls Try.prog 12 #[.pointer (some ⟨p, 0, none⟩), .int .u64 now] w fun e w' => e = .returned (.tuple #[.int .i64 0, .agg #[.int .i64 0, .int .u64 0, .int .i64 0, .int .u32 0, .int .u64 0, .int .u64 0, .int .u64 0, .int .u64 0, .int .u64 0, .int .u64 0, .int .u64 0, .int .u32 0, .int .u64 0, .slice none 0 0, .int .u32 0, .int .i64 0, .int .i64 0, .bool false, .slice none 0 0, .slice none 0 0], .bool false]) ∧ FIs w' T R p { f with now := max f.now now } ∧ GrowS T w w' := by
  obtain ⟨b, Rv, V, l, h⟩ := h
  obtain ⟨hfr, hlt⟩ : f.fresh = false ∧ max f.now now - f.asked < 4 := by
    unfold dueF at hu
    simp at hu
    omega
  obtain ⟨n, hn⟩ : ∃ n, max f.now now = n := ⟨_, rfl⟩
  rw [hn] at hlt ⊢
  have hmx : (if f.now < now then (now : Int) else (f.now : Int)) = (n : Int) := by split <;> omega
  have hnb : n ≤ 9223372036854775807 := by omega
  have han : f.asked ≤ n := by omega
  have H := Lib.hid h; have HD := Lib.hid hd
  have hb0 := heap_alloc_new w (.cells #[.int .i64 0, .int .u64 0, .int .i64 0, .int .u32 0, .int .u64 0, .int .u64 0, .int .u64 0, .int .u64 0, .int .u64 0, .int .u64 0, .int .u64 0, .int .u32 0, .int .u64 0, .slice none 0 0, .int .u32 0, .int .i64 0, .int .i64 0, .bool false, .slice none 0 0, .slice none 0 0] 42)
  have HB := Lib.hid hb0
  have hgp : p < w.heap.size := h.ltT p h.pT
  have c11 : (w.alloc (.cells #[.int .i64 0, .int .u64 0, .int .i64 0, .int .u32 0, .int .u64 0, .int .u64 0, .int .u64 0, .int .u64 0, .int .u64 0, .int .u64 0, .int .u64 0, .int .u32 0, .int .u64 0, .slice none 0 0, .int .u32 0, .int .i64 0, .int .i64 0, .bool false, .slice none 0 0, .slice none 0 0] 42)).cell? ⟨p, 11, none⟩ = some (.bool true) := (h.grow (Grow.alloc w _)).c 11
  have HN := Lib.hid hn
  clear h hd hb0 hu hn
  go_enter Try.func12, Try.ntmps12
  go_wp2_with fail
  refine (fnone_made c11).mono ?_
  rintro e w1 ⟨rfl, rfl⟩
  go_wp2_with fail
  refine (fdone_any ⟨b, Rv, V, l, H.out.grow (Grow.alloc _ _)⟩).mono ?_
  rw [HD.out]
  rintro e w1 ⟨rfl, g1⟩
  have HB1 := Lib.hid (row_grow HB.out g1)
  have G1 := Lib.hid (Grow.trans (Grow.alloc w _) g1)
  have H1 := Lib.hid (H.out.grow G1.out)
  have c8 : w1.cell? ⟨p, 8, none⟩ = some (.int .u64 f.now) := H1.out.c 8
  have e8 := frozen_of_row w1 p 8 _ _ H1.out.st
  clear g1 c11
  go_upto_region 4 with fail
  have gs : GrowS (fun k => k = p) w1 (w1.setCell ⟨p, 8, none⟩ (.int .u64 n)) := GrowS.setCell (T := fun k => k = p) w1 (p := ⟨p, 8, none⟩) rfl _
  have H2 := Lib.hid (H1.out.turn (f' := { f with now := n }) gs (by have := heap_setCell_same w1 p 8 _ _ (.int .u64 n) H1.out.st; simpa [fcells] using this) rfl (.inl ⟨rfl, rfl⟩) (.inl ⟨rfl, rfl, rfl⟩))
  have GS := Lib.hid gs
  have HB2 := Lib.hid (gs.kept HB1.out (by omega))
  generalize w1.setCell ⟨p, 8, none⟩ (.int .u64 n) = w2 at *
  clear gs c8 e8
  have c10 : ∀ W, Grow w2 W → W.cell? ⟨p, 10, none⟩ = some (.bool f.fresh) := fun W g => (H2.out.grow g).c 10
  have c8 : ∀ W, Grow w2 W → W.cell? ⟨p, 8, none⟩ = some (.int .u64 n) := fun W g => (H2.out.grow g).c 8
  have c7 : ∀ W, Grow w2 W → W.cell? ⟨p, 7, none⟩ = some (.int .u64 f.asked) := fun W g => (H2.out.grow g).c 7
  rw [hfr] at c10
  have uw : IntKind.u64.wrap ((n : Int) - (f.asked : Int)) = (n : Int) - (f.asked : Int) := by rw [IntKind.wrap_u64]; omega
  have dl : decide ((n : Int) - (f.asked : Int) < 4) = true := by simp; omega
  refine Chain.start Nat (by kernel_rfl) (by kernel_rfl) (fun hg => ?_)
  repeat (first | (refine Chain.skip hg (fun t => by rfl) ?_; simp only [Act.put, List.setIfInBounds_toArray, List.set_cons_zero, List.set_cons_succ]) | (refine Chain.pure hg (X := ?_) (fun t W hw hN => ⟨by rfl, ?_⟩) ?_; rotate_left; (focus (go_simp <;> with_reducible rfl)); simp only [Act.put, List.setIfInBounds_toArray, List.set_cons_zero, List.set_cons_succ]))
  refine Chain.done (fun t W hw hN => ?_)
  have H3 := Lib.hid (H2.out.grow hw)
  have HB3 := Lib.hid (row_grow HB2.out hw)
  have HW := Lib.hid hw
  clear hN hg c10 c8 c7 hw
  go_wp2_with (
    refine wpList_store_row rfl _ _ _ rfl w.heap.size #[.int .i64 0, .int .u64 0, .int .i64 0, .int .u32 0, .int .u64 0, .int .u64 0, .int .u64 0, .int .u64 0, .int .u64 0, .int .u64 0, .int .u64 0, .int .u32 0, .int .u64 0, .slice none 0 0, .int .u32 0, .int .i64 0, .int .i64 0, .bool false, .slice none 0 0, .slice none 0 0] rfl rfl _ _ HB3.out (by kernel_rfl) rfl msg_oc ?_)
  have hrw := setRow_heap W w.heap.size _ #[.int .i64 0, .int .u64 0, .int .i64 0, .int .u32 0, .int .u64 0, .int .u64 0, .int .u64 0, .int .u64 0, .int .u64 0, .int .u64 0, .int .u64 0, .int .u32 0, .int .u64 0, .slice none 0 0, .int .u32 0, .int .i64 0, .int .i64 0, .bool false, .slice none 0 0, .slice none 0 0] _ _ HB3.out
  have g3 := GrowS.setRow (T := fun i => i = w.heap.size) W rfl #[.int .i64 0, .int .u64 0, .int .i64 0, .int .u32 0, .int .u64 0, .int .u64 0, .int .u64 0, .int .u64 0, .int .u64 0, .int .u64 0, .int .u64 0, .int .u32 0, .int .u64 0, .slice none 0 0, .int .u32 0, .int .i64 0, .int .i64 0, .bool false, .slice none 0 0, .slice none 0 0]
  refine bodyPost_ret (v := .tuple #[.int .i64 0, .agg #[.int .i64 0, .int .u64 0, .int .i64 0, .int .u32 0, .int .u64 0, .int .u64 0, .int .u64 0, .int .u64 0, .int .u64 0, .int .u64 0, .int .u64 0, .int .u32 0, .int .u64 0, .slice none 0 0, .int .u32 0, .int .i64 0, .int .i64 0, .bool false, .slice none 0 0, .slice none 0 0], .bool false]) (results_tct (s := 4) (p := 5) (u := 6) (ty := 42) rfl _ _ w.heap.size _ rfl (run_loadVar_row _ _ _ _ _ _ _ hrw Try.underlying42 rfl (by kernel_rfl))) rfl ⟨rfl, ⟨b, Rv, V, l, H3.out.keep g3 (fun k hk e => by have := H.out.ltT k hk; omega) (fun k hk e => by have := H.out.ltR k hk; omega)⟩, ?_⟩
  exact ((((G1.out.wide T).trans (GS.out.mono (fun k e => e ▸ H.out.pT))).trans (HW.out.wide T)).news g3 (fun i e => .inr (by omega)))
end Go.Proofs.Ytlnokohmmhmoaaa

