/-
  past: Since, Length, At, Undo where they refuse; Length where it answers.
-/
import Derived.Test.YtfpbmpgdpnpdjaaPSince
namespace Go.Proofs.Ytfpbmpgdpnpdjaa
open Go.RowKit
set_option linter.unusedSimpArgs false

set_option maxRecDepth 100000 in
theorem at_none {pa : Option Addr} {r least : Int} {f : Value} {w : World} (hN : Calls Try.prog 60 #[.pointer pa] w fun e w' => e = .returned (.bool true) ∧ w = w') :
    Calls Try.prog 66 #[.pointer pa, .int .u64 r, .int .i64 least, f] w fun e w' => e = .returned (.int .i64 2) ∧ w = w' := by
  have HN := Lib.hid hN
  clear hN
  go_enter Try.func66, Try.ntmps66
  go_wp2_with fail
  refine HN.out.mono ?_
  rintro e w1 ⟨rfl, rfl⟩
  go_wp2
  go_ret
  exact ⟨rfl, rfl⟩
/-- at refuses with k, in every later world. -/
def Refuses (w : World) (pa : Option Addr) (r least k : Int) : Prop := ∀ (f : Value) (W : World), Grow w W → Calls Try.prog 66 #[.pointer pa, .int .u64 r, .int .i64 least, f] W fun e w' => e = .returned (.int .i64 k) ∧ W = w'
theorem refuses_rev {p q : Nat} {r least : Int} {os : List O} {lens : List Int} {S : Nat → Prop} {w : World} (hP : PastIs w S p q os lens) (hk : os.length ≤ 2305843009213693952) (hq : q ≤ 2305843009213693952) (hr : (q : Int) + os.length < r) : Refuses w (some ⟨p, 0, none⟩) r least 31 := by
  obtain ⟨V, l, B, hos, hP⟩ := hP
  obtain ⟨A, c, rfl⟩ := hP.formV
  subst hos
  rw [List.length_map] at hk hr
  exact fun f W g => at_rev (hP.grow g).c0 (hP.grow g).c1 (hP.grow g).c3 hq hk hr
theorem refuses_gone {p q : Nat} {r least : Int} {os : List O} {lens : List Int} {S : Nat → Prop} {w : World} (hP : PastIs w S p q os lens) (hk : os.length ≤ 2305843009213693952) (hq : q ≤ 2305843009213693952) (hr : r ≤ (q : Int) + os.length) (h0 : 0 ≤ r) (hl : least = 0 ∨ least = 1) (hg : r < q + least) : Refuses w (some ⟨p, 0, none⟩) r least 32 := by
  obtain ⟨V, l, B, hos, hP⟩ := hP
  obtain ⟨A, c, rfl⟩ := hP.formV
  subst hos
  rw [List.length_map] at hk hr
  exact fun f W g => at_gone (hP.grow g).c0 (hP.grow g).c1 (hP.grow g).c3 hq hk hr h0 hl hg
theorem refuses_nil {r least : Int} {w : World} : Refuses w none r least 2 := fun _ _ _ => at_none none_nil
theorem refuses_zero {p : Nat} {r least : Int} {w : World} (c3 : w.cell? ⟨p, 3, none⟩ = some (.bool false)) : Refuses w (some ⟨p, 0, none⟩) r least 2 := fun _ _ g => at_none (none_zero (grow_cell c3 g))
theorem set_self {w : World} {b : Nat} {v : Value} {t : TypeId} (h : w.heap[b]? = some (.cells #[v] t (0, 0))) : w.setCell ⟨b, 0, none⟩ v = w := by
  rw [setCell_eq_setRow w b 0 #[v] t (0, 0) v h]
  exact setRow_self w b #[v] t (0, 0) h
set_option maxRecDepth 100000 in
theorem since_err {pa : Option Addr} {r k : Int} {w : World} (h : Refuses w pa r 0 k) :
    Calls Try.prog 38 #[.pointer pa, .int .u64 r] w fun e w' => e = .returned (.tuple #[.slice none 0 0, .int .i64 k]) ∧ Grow w w' := by
  have HH := Lib.hid h
  clear h
  go_enter Try.func38, Try.ntmps38
  go_wp2_with fail
  refine (HH.out _ _ ((Grow.alloc _ _).trans (Grow.alloc _ _))).mono ?_
  rintro e w1 ⟨rfl, rfl⟩
  have hb := heap_alloc2_new w (.cells #[.pointer pa] 59) (.cells #[.slice none 0 0] 58)
  have z1 := cell_of_row _ (w.heap.size + 1) 0 _ _ (0, 0) hb
  have z2 := frozen_of_row _ (w.heap.size + 1) 0 _ _ hb
  go_wp2
  refine bodyPost_ret (v := .tuple #[.slice none 0 0, .int .i64 k]) (by rw [results_cell_tmp rfl]; go_simp) rfl ⟨rfl, ?_⟩
  exact (Grow.alloc w _).trans (Grow.alloc _ _)
set_option maxRecDepth 100000 in
theorem length_err {pa : Option Addr} {r k : Int} {w : World} (h : Refuses w pa r 0 k) :
    Calls Try.prog 39 #[.pointer pa, .int .u64 r] w fun e w' => e = .returned (.tuple #[.int .i64 0, .int .i64 k]) ∧ Grow w w' := by
  have HH := Lib.hid h
  clear h
  go_enter Try.func39, Try.ntmps39
  go_wp2_with fail
  refine (HH.out _ _ ((Grow.alloc _ _).trans (Grow.alloc _ _))).mono ?_
  rintro e w1 ⟨rfl, rfl⟩
  have hb := heap_alloc2_new w (.cells #[.pointer pa] 59) (.cells #[.int .i64 0] 3)
  have z1 := cell_of_row _ (w.heap.size + 1) 0 _ _ (0, 0) hb
  have z2 := frozen_of_row _ (w.heap.size + 1) 0 _ _ hb
  go_wp2
  refine bodyPost_ret (v := .tuple #[.int .i64 0, .int .i64 k]) (by rw [results_cell_tmp rfl]; go_simp) rfl ⟨rfl, ?_⟩
  exact (Grow.alloc w _).trans (Grow.alloc _ _)
end Go.Proofs.Ytfpbmpgdpnpdjaa

