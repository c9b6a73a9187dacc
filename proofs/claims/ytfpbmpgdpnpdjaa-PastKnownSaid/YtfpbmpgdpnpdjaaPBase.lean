/-
  past: the contracts of none, From, Len, Now.
-/
import Derived.Test.YtfpbmpgdpnpdjaaLong
namespace Go.Proofs.Ytfpbmpgdpnpdjaa
open Go.RowKit
set_option linter.unusedSimpArgs false

theorem none_made {p : Nat} {w : World} (c3 : w.cell? ⟨p, 3, none⟩ = some (.bool true)) : Calls Try.prog 60 #[.pointer (some ⟨p, 0, none⟩)] w fun e w' => e = .returned (.bool false) ∧ w = w' := by
  go_enter Try.func60, Try.ntmps60
  go_wp2
  go_ret
  exact ⟨rfl, rfl⟩
theorem none_zero {p : Nat} {w : World} (c3 : w.cell? ⟨p, 3, none⟩ = some (.bool false)) : Calls Try.prog 60 #[.pointer (some ⟨p, 0, none⟩)] w fun e w' => e = .returned (.bool true) ∧ w = w' := by
  go_enter Try.func60, Try.ntmps60
  go_wp2
  go_ret
  exact ⟨rfl, rfl⟩
theorem none_nil {w : World} : Calls Try.prog 60 #[.pointer none] w fun e w' => e = .returned (.bool true) ∧ w = w' := by
  go_enter Try.func60, Try.ntmps60
  go_wp2
  go_ret
  exact ⟨rfl, rfl⟩
theorem pfrom_any {p : Nat} {q : Int} {w : World} (c0 : w.cell? ⟨p, 0, none⟩ = some (.int .u64 q)) (c3 : w.cell? ⟨p, 3, none⟩ = some (.bool true)) : Calls Try.prog 36 #[.pointer (some ⟨p, 0, none⟩)] w fun e w' => e = .returned (.int .u64 q) ∧ w = w' := by
  go_enter Try.func36, Try.ntmps36
  go_wp2_with fail
  refine (none_made c3).mono ?_
  rintro e w1 ⟨rfl, rfl⟩
  go_wp2
  go_ret
  exact ⟨rfl, rfl⟩
theorem plen_any {p : Nat} {A : Option Addr} {n c : Nat} {w : World} (c1 : w.cell? ⟨p, 1, none⟩ = some (.slice A n c)) (c3 : w.cell? ⟨p, 3, none⟩ = some (.bool true)) : Calls Try.prog 37 #[.pointer (some ⟨p, 0, none⟩)] w fun e w' => e = .returned (.int .i64 n) ∧ w = w' := by
  go_enter Try.func37, Try.ntmps37
  go_wp2_with fail
  refine (none_made c3).mono ?_
  rintro e w1 ⟨rfl, rfl⟩
  go_wp2
  go_ret
  exact ⟨rfl, rfl⟩
theorem pnow_any {p q n c : Nat} {A : Option Addr} {w : World} (c0 : w.cell? ⟨p, 0, none⟩ = some (.int .u64 q)) (c1 : w.cell? ⟨p, 1, none⟩ = some (.slice A n c)) (c3 : w.cell? ⟨p, 3, none⟩ = some (.bool true)) (hq : q ≤ 2305843009213693952) (hn : n ≤ 2305843009213693952) :
    Calls Try.prog 31 #[.pointer (some ⟨p, 0, none⟩)] w fun e w' => e = .returned (.int .u64 ((q : Int) + (n : Int))) ∧ w = w' := by
  go_enter Try.func31, Try.ntmps31
  go_wp2_with fail
  refine (pfrom_any c0 c3).mono ?_
  rintro e w1 ⟨rfl, rfl⟩
  go_wp2_with fail
  refine (plen_any c1 c3).mono ?_
  rintro e w1 ⟨rfl, rfl⟩
  go_wp2
  go_ret
  exact ⟨rfl, rfl⟩
end Go.Proofs.Ytfpbmpgdpnpdjaa

