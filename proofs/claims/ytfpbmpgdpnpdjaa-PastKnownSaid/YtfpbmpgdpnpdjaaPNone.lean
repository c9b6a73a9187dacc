/-
  past: the contracts where there is no past.
-/
import Derived.Test.YtfpbmpgdpnpdjaaPGrowsWalk
namespace Go.Proofs.Ytfpbmpgdpnpdjaa
open Go.RowKit
set_option linter.unusedSimpArgs false

/-- There is no past at pa. -/
def NoPast (w : World) (pa : Option Addr) : Prop := ∀ W, Grow w W → Calls Try.prog 60 #[.pointer pa] W fun e w' => e = .returned (.bool true) ∧ W = w'
theorem nopast_nil (w : World) : NoPast w none := fun _ _ => none_nil
theorem nopast_zero {w : World} {p : Nat} (c3 : w.cell? ⟨p, 3, none⟩ = some (.bool false)) : NoPast w (some ⟨p, 0, none⟩) := fun _ g => none_zero (grow_cell c3 g)
theorem NoPast.grow {w w' : World} {pa : Option Addr} (h : NoPast w pa) (g : Grow w w') : NoPast w' pa := fun W k => h W (g.trans k)
theorem NoPast.refuses {w : World} {pa : Option Addr} (h : NoPast w pa) (r least : Int) : Refuses w pa r least 2 := fun _ W g => at_none (h W g)
set_option maxRecDepth 100000 in
theorem push_no {w : World} {pa : Option Addr} {cl rq : Int} {A : Option Addr} {n c : Nat} {un : Bool} (h : NoPast w pa) :
    Calls Try.prog 32 #[.pointer pa, .agg #[.int .u32 cl, .int .u64 rq, .slice A n c, .bool un]] w fun e w' => e = .returned (.tuple #[.int .u64 0, .int .i64 2]) ∧ Grow w w' := by
  have H := Lib.hid h
  clear h
  go_enter Try.func32, Try.ntmps32
  go_wp2_with fail
  refine (H.out _ (Grow.alloc _ _)).mono ?_
  rintro e w1 ⟨rfl, rfl⟩
  go_wp2
  go_ret2
  exact ⟨rfl, Grow.alloc _ _⟩
theorem from_no {w : World} {pa : Option Addr} (h : NoPast w pa) : Calls Try.prog 36 #[.pointer pa] w fun e w' => e = .returned (.int .u64 0) ∧ w = w' := by
  have H := Lib.hid h
  clear h
  go_enter Try.func36, Try.ntmps36
  go_wp2_with fail
  refine (H.out _ (Grow.refl _)).mono ?_
  rintro e w1 ⟨rfl, rfl⟩
  go_wp2
  go_ret
  exact ⟨rfl, rfl⟩
theorem len_no {w : World} {pa : Option Addr} (h : NoPast w pa) : Calls Try.prog 37 #[.pointer pa] w fun e w' => e = .returned (.int .i64 0) ∧ w = w' := by
  have H := Lib.hid h
  clear h
  go_enter Try.func37, Try.ntmps37
  go_wp2_with fail
  refine (H.out _ (Grow.refl _)).mono ?_
  rintro e w1 ⟨rfl, rfl⟩
  go_wp2
  go_ret
  exact ⟨rfl, rfl⟩
theorem now_no {w : World} {pa : Option Addr} (h : NoPast w pa) : Calls Try.prog 31 #[.pointer pa] w fun e w' => e = .returned (.int .u64 0) ∧ w = w' := by
  have H := Lib.hid h
  clear h
  go_enter Try.func31, Try.ntmps31
  go_wp2_with fail
  refine (from_no H.out).mono ?_
  rintro e w1 ⟨rfl, rfl⟩
  go_wp2_with fail
  refine (len_no H.out).mono ?_
  rintro e w1 ⟨rfl, rfl⟩
  go_wp2
  go_ret
  exact ⟨rfl, rfl⟩
theorem drop_no {w : World} {pa : Option Addr} (h : NoPast w pa) : Calls Try.prog 35 #[.pointer pa, .int .i64 0] w fun e w' => e = .returned (.int .i64 0) ∧ w = w' := by
  have H := Lib.hid h
  clear h
  go_enter Try.func35, Try.ntmps35
  go_wp2_with fail
  refine (len_no H.out).mono ?_
  rintro e w1 ⟨rfl, rfl⟩
  go_wp2
  go_ret
  exact ⟨rfl, rfl⟩
theorem copy_no {w : World} {pa : Option Addr} (h : NoPast w pa) : Calls Try.prog 34 #[.pointer pa] w fun e w' => e = .returned (.pointer none) ∧ w = w' := by
  have H := Lib.hid h
  clear h
  go_enter Try.func34, Try.ntmps34
  go_wp2_with fail
  refine (H.out _ (Grow.refl _)).mono ?_
  rintro e w1 ⟨rfl, rfl⟩
  go_wp2
  go_ret
  exact ⟨rfl, rfl⟩
end Go.Proofs.Ytfpbmpgdpnpdjaa

