/-
  crc: the law's own wakes.
-/
import Derived.Test.YthoaagkllkcacaaDoorStrip
import Derived.Lib.SlBytesConst
namespace Go.Proofs.YthoaagkllkcacaaDoor
open Go.RowKit

theorem lies_mark {w : World} {e : TypeId} {cs : Array Value} {g c : Nat} {m : Nat × Nat} (l : List Nat) (n : Nat) (hg : g = w.heap.size) (h : cs.toList = byt l) (hn : l.length = n) (hc : n ≤ c) (hb : c ≤ 9223372036854775807) :
    Lies (w.alloc (.cells cs e m)) 1 (some ⟨g, 0, none⟩) n c (byt l) := by
  subst hg
  refine ⟨by rw [byt_len]; omega, fun h => by (cases h), hc, hb, fun a ha j u hu => ?_⟩
  injection ha with ha
  subst ha
  rw [add_none, cell_of_row _ w.heap.size (0 + j) cs e m (heap_alloc_new w _)]
  rw [← h] at hu
  simpa using hu
theorem sum0_any {w : World} (hT : Tab w) : Calls Tryd.prog 13 #[.slice none 0 0] w fun e w' => e = .returned (.int .u32 0) ∧ w = w' := by
  have hP : Parts w none 0 0 [] [] := ⟨Lies.nil _ _, rfl, fun j v l hv => by simp at hv⟩
  exact sum_any hT hP
theorem sum1_of {A : Option Addr} {n c g : Nat} {l : List Nat} {w : World} {t : TypeId} (r : Int) (hr : (sum l : Int) = r) (hT : Tab w) (hg : g = w.heap.size) (hL : Lies w 1 A n c (byt l)) (hb : ∀ x ∈ l, x < 256) :
    Calls Tryd.prog 13 #[.slice (some ⟨g, 0, none⟩) 1 1] (w.alloc (.cells #[.slice A n c] t)) fun e w' => e = .returned (.int .u32 r) ∧ w.alloc (.cells #[.slice A n c] t) = w' := by
  subst hr
  exact sum1_any hT hg hL hb
set_option maxRecDepth 100000 in
set_option maxHeartbeats 2000000 in
theorem wakes_any {w : World} (hT : Tab w) :
    Calls Tryd.prog 16 #[] w fun e w' => e = .returned (.bool true) ∧ Below w.heap.size w w' := by
  obtain ⟨i0, hi, hz0, hz1, hz2⟩ := info_parts info_u8
  have kc := fun (w : World) (C : Array Value) (n c : Nat) => Lib.run_convert_bytes_const (P := Tryd.prog) w 23 5 C n c Tryd.underlying23 Tryd.underlying5
  go_enter Tryd.func16, Tryd.ntmps16
  go_wp2_with (at_make; refine wpList_make_full _ rfl _ _ 23 rfl w.heap.size 5 i0 (.int .u8 0) 1 Tryd.underlying23 hi hz0 hz1 .i64 .i64 _ _ 3 rfl rfl rfl rfl (by rw [hz2]; omega) (by simp only [maxLen]; omega) (Nat.le_refl _) ?_; intro w1 hown1 hg1)
  have hb1 : Below w.heap.size w w1 := (Below.refl _ _).grown hg1 (Nat.le_refl _) (by simp)
  have hz : (madeCells (Value.int IntKind.u8 0).cells (3 * 1)).toList = byt [0, 0, 0] := toList_madeCells_one _ _
  have hL := Lies.of_own hown1
  rw [hz] at hL
  refine (strip_short hL (by decide)).mono ?_
  rintro e w2 ⟨rfl, hb2⟩
  have hb2 := then_ hb1 hb2
  clear hL hz hown1 hg1 hb1
  go_wp2_with fail
  have hT2 := hT.same hb2
  refine (strip_long (l := [0, 0, 0, 1]) (hT2.alloc _) (lies_lit [0, 0, 0, 1] 4 rfl rfl rfl (by decide)) (by decide) (by decide) (by decide)).mono ?_
  rintro e w3 ⟨hs, hb3⟩
  have hf : framed [0, 0, 0, 1] = false := by decide +kernel
  have he : e = .returned (.tuple #[.slice none 0 0, .int .i64 20]) := by
    rcases hs with h | h
    · exact h.2
    · rw [hf] at h; exact absurd h.1 (by decide)
  subst he
  have hb3 := (hb2.alloc hb2.size _).trans (hb3.mono (by have := hb2.size; simp; omega))
  have hT3 := hT.same hb3
  clear hs hb2 hT2
  go_wp2_with fail
  refine (sum1_of (l := [49, 50, 51, 52, 53, 54, 55, 56, 57]) 3421780262 (by decide +kernel) (hT3.alloc _) (by simp) (lies_mark _ 9 rfl rfl rfl (by decide) (by decide)) (by decide)).mono ?_
  rintro e w4 ⟨rfl, rfl⟩
  go_wp2_with fail
  refine (sum0_any ((hT3.alloc _).alloc _)).mono ?_
  rintro e w4 ⟨rfl, rfl⟩
  go_wp2_with fail
  refine (sum1_of (l := [0]) 3523407757 (by decide +kernel) (((hT3.alloc _).alloc _).alloc _) (by simp) (lies_lit _ 1 (by simp) rfl rfl (by decide)) (by decide)).mono ?_
  rintro e w4 ⟨rfl, rfl⟩
  go_wp2_with fail
  refine (mark_any (l := []) ((((hT3.alloc _).alloc _).alloc _).alloc _) (Lies.nil _ _) (by decide) (by decide)).mono ?_
  rintro e w4 ⟨A4, c4, rfl, -, L4, hb4⟩
  have h0 : ([] : List Nat) ++ le4 (sum []) = [0, 0, 0, 0] := by decide +kernel
  rw [h0] at L4
  have hb4 : Below w.heap.size w w4 := by
    refine Below.trans ((((hb3.alloc hb3.size _).alloc ?_ _).alloc ?_ _).alloc ?_ _) (hb4.mono ?_)
    all_goals (have := hb3.size; simp; omega)
  have e2 := run_convert_lies (P := Tryd.prog) L4 23 5 9 Tryd.underlying23 Tryd.underlying5 Tryd.underlying9
  have e3 : ((str [0, 0, 0, 0]).toList == [0, 0, 0, 0]) = true := by rw [ByteArray.toList_eq, str_list]; decide
  go_wp2
  go_ret
  exact ⟨rfl, hb4⟩
end Go.Proofs.YthoaagkllkcacaaDoor
