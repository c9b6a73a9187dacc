/-
  past: the contract of at.
-/
import Derived.Test.YtfpbmpgdpnpdjaaPPush
namespace Go.Proofs.Ytfpbmpgdpnpdjaa
open Go.RowKit
set_option linter.unusedSimpArgs false

set_option maxRecDepth 100000 in
theorem at_rev {p q n c : Nat} {r least : Int} {f : Value} {A : Option Addr} {w : World} (c0 : w.cell? ⟨p, 0, none⟩ = some (.int .u64 q)) (c1 : w.cell? ⟨p, 1, none⟩ = some (.slice A n c)) (c3 : w.cell? ⟨p, 3, none⟩ = some (.bool true)) (hq : q ≤ 2305843009213693952) (hn : n ≤ 2305843009213693952) (hr : (q : Int) + n < r) :
    Calls Try.prog 66 #[.pointer (some ⟨p, 0, none⟩), .int .u64 r, .int .i64 least, f] w fun e w' => e = .returned (.int .i64 31) ∧ w = w' := by
  go_enter Try.func66, Try.ntmps66
  go_wp2_with fail
  refine (none_made c3).mono ?_
  rintro e w1 ⟨rfl, rfl⟩
  go_wp2_with fail
  refine (pnow_any c0 c1 c3 hq hn).mono ?_
  obtain ⟨z, hz⟩ : ∃ z, (q : Int) + (n : Int) = z := ⟨_, rfl⟩
  rw [hz] at hr ⊢
  have d : decide (r > z) = true := by simp; omega
  clear hz hr
  rintro e w1 ⟨rfl, rfl⟩
  go_wp2
  go_ret
  exact ⟨rfl, rfl⟩
set_option maxRecDepth 100000 in
theorem at_gone {p q n c : Nat} {r least : Int} {f : Value} {A : Option Addr} {w : World} (c0 : w.cell? ⟨p, 0, none⟩ = some (.int .u64 q)) (c1 : w.cell? ⟨p, 1, none⟩ = some (.slice A n c)) (c3 : w.cell? ⟨p, 3, none⟩ = some (.bool true)) (hq : q ≤ 2305843009213693952) (hn : n ≤ 2305843009213693952) (hr : r ≤ (q : Int) + n) (h0 : 0 ≤ r) (hl : least = 0 ∨ least = 1) (hg : r < q + least) :
    Calls Try.prog 66 #[.pointer (some ⟨p, 0, none⟩), .int .u64 r, .int .i64 least, f] w fun e w' => e = .returned (.int .i64 32) ∧ w = w' := by
  go_enter Try.func66, Try.ntmps66
  go_wp2_with fail
  refine (none_made c3).mono ?_
  rintro e w1 ⟨rfl, rfl⟩
  go_wp2_with fail
  refine (pnow_any c0 c1 c3 hq hn).mono ?_
  obtain ⟨z, hz⟩ : ∃ z, (q : Int) + (n : Int) = z := ⟨_, rfl⟩
  rw [hz] at hr ⊢
  have d : decide (r > z) = false := by simp; omega
  clear hz hr
  rintro e w1 ⟨rfl, rfl⟩
  by_cases hrq : r < q
  · have d2 : decide (r < q) = true := by simp; omega
    clear hg
    go_wp2
    go_ret
    exact ⟨rfl, rfl⟩
  · have d2 : decide (r < q) = false := by simp; omega
    obtain ⟨rfl, rfl⟩ : least = 1 ∧ r = q := by omega
    go_wp2
    go_ret
    exact ⟨rfl, rfl⟩
set_option maxRecDepth 100000 in
theorem at_do_since {p q n c d : Nat} {r least : Int} {x y : Value} {Q : World → Prop} {A : Option Addr} {w : World} (c0 : w.cell? ⟨p, 0, none⟩ = some (.int .u64 q)) (c1 : w.cell? ⟨p, 1, none⟩ = some (.slice A n c)) (c3 : w.cell? ⟨p, 3, none⟩ = some (.bool true)) (hq : q ≤ 2305843009213693952) (hn : n ≤ 2305843009213693952) (hr : r = (q : Int) + d) (hd : d ≤ n) (hl : least = 0 ∨ least = 1) (hg : least ≤ d)
    (hF : Calls Try.prog 67 #[.int .i64 d, x, y] w fun e w' => e = .returned (.tuple #[]) ∧ Q w') :
    Calls Try.prog 66 #[.pointer (some ⟨p, 0, none⟩), .int .u64 r, .int .i64 least, .func (.func 67) #[] #[x, y]] w fun e w' => e = .returned (.int .i64 0) ∧ Q w' := by
  have HF := Lib.hid hF; have HR := Lib.hid hr
  clear hF hr
  go_enter Try.func66, Try.ntmps66
  go_wp2_with fail
  refine (none_made c3).mono ?_
  rintro e w1 ⟨rfl, rfl⟩
  go_wp2_with fail
  refine (pnow_any c0 c1 c3 hq hn).mono ?_
  obtain ⟨z, hz⟩ : ∃ z, (q : Int) + (n : Int) = z := ⟨_, rfl⟩
  rw [hz]
  have d1 : decide (r > z) = false := by have := HR.out; simp; omega
  have d2 : decide (r < q) = false := by have := HR.out; simp; omega
  have u1 : r - (q : Int) = d := by have := HR.out; omega
  have u2 : decide ((d : Int) < least) = false := by simp; omega
  clear hz
  rintro e w1 ⟨rfl, rfl⟩
  go_wp2_with fail
  refine HF.out.mono ?_
  rintro e w1 ⟨rfl, hQ⟩
  have HQ := Lib.hid hQ
  clear hQ
  go_wp2
  go_ret
  exact ⟨rfl, HQ.out⟩
set_option maxRecDepth 100000 in
theorem at_do_length {p q n c d : Nat} {r least : Int} {x y : Value} {Q : World → Prop} {A : Option Addr} {w : World} (c0 : w.cell? ⟨p, 0, none⟩ = some (.int .u64 q)) (c1 : w.cell? ⟨p, 1, none⟩ = some (.slice A n c)) (c3 : w.cell? ⟨p, 3, none⟩ = some (.bool true)) (hq : q ≤ 2305843009213693952) (hn : n ≤ 2305843009213693952) (hr : r = (q : Int) + d) (hd : d ≤ n) (hl : least = 0 ∨ least = 1) (hg : least ≤ d)
    (hF : Calls Try.prog 68 #[.int .i64 d, x, y] w fun e w' => e = .returned (.tuple #[]) ∧ Q w') :
    Calls Try.prog 66 #[.pointer (some ⟨p, 0, none⟩), .int .u64 r, .int .i64 least, .func (.func 68) #[] #[x, y]] w fun e w' => e = .returned (.int .i64 0) ∧ Q w' := by
  have HF := Lib.hid hF; have HR := Lib.hid hr
  clear hF hr
  go_enter Try.func66, Try.ntmps66
  go_wp2_with fail
  refine (none_made c3).mono ?_
  rintro e w1 ⟨rfl, rfl⟩
  go_wp2_with fail
  refine (pnow_any c0 c1 c3 hq hn).mono ?_
  obtain ⟨z, hz⟩ : ∃ z, (q : Int) + (n : Int) = z := ⟨_, rfl⟩
  rw [hz]
  have d1 : decide (r > z) = false := by have := HR.out; simp; omega
  have d2 : decide (r < q) = false := by have := HR.out; simp; omega
  have u1 : r - (q : Int) = d := by have := HR.out; omega
  have u2 : decide ((d : Int) < least) = false := by simp; omega
  clear hz
  rintro e w1 ⟨rfl, rfl⟩
  go_wp2_with fail
  refine HF.out.mono ?_
  rintro e w1 ⟨rfl, hQ⟩
  have HQ := Lib.hid hQ
  clear hQ
  go_wp2
  go_ret
  exact ⟨rfl, HQ.out⟩
set_option maxRecDepth 100000 in
theorem at_do_undo {p q n c d : Nat} {r least : Int} {x y : Value} {Q : World → Prop} {A : Option Addr} {w : World} (c0 : w.cell? ⟨p, 0, none⟩ = some (.int .u64 q)) (c1 : w.cell? ⟨p, 1, none⟩ = some (.slice A n c)) (c3 : w.cell? ⟨p, 3, none⟩ = some (.bool true)) (hq : q ≤ 2305843009213693952) (hn : n ≤ 2305843009213693952) (hr : r = (q : Int) + d) (hd : d ≤ n) (hl : least = 0 ∨ least = 1) (hg : least ≤ d)
    (hF : Calls Try.prog 69 #[.int .i64 d, x, y] w fun e w' => e = .returned (.tuple #[]) ∧ Q w') :
    Calls Try.prog 66 #[.pointer (some ⟨p, 0, none⟩), .int .u64 r, .int .i64 least, .func (.func 69) #[] #[x, y]] w fun e w' => e = .returned (.int .i64 0) ∧ Q w' := by
  have HF := Lib.hid hF; have HR := Lib.hid hr
  clear hF hr
  go_enter Try.func66, Try.ntmps66
  go_wp2_with fail
  refine (none_made c3).mono ?_
  rintro e w1 ⟨rfl, rfl⟩
  go_wp2_with fail
  refine (pnow_any c0 c1 c3 hq hn).mono ?_
  obtain ⟨z, hz⟩ : ∃ z, (q : Int) + (n : Int) = z := ⟨_, rfl⟩
  rw [hz]
  have d1 : decide (r > z) = false := by have := HR.out; simp; omega
  have d2 : decide (r < q) = false := by have := HR.out; simp; omega
  have u1 : r - (q : Int) = d := by have := HR.out; omega
  have u2 : decide ((d : Int) < least) = false := by simp; omega
  clear hz
  rintro e w1 ⟨rfl, rfl⟩
  go_wp2_with fail
  refine HF.out.mono ?_
  rintro e w1 ⟨rfl, hQ⟩
  have HQ := Lib.hid hQ
  clear hQ
  go_wp2
  go_ret
  exact ⟨rfl, HQ.out⟩
set_option maxRecDepth 100000 in
theorem at_do_at {p q n c d : Nat} {r least : Int} {x y : Value} {Q : World → Prop} {A : Option Addr} {w : World} (c0 : w.cell? ⟨p, 0, none⟩ = some (.int .u64 q)) (c1 : w.cell? ⟨p, 1, none⟩ = some (.slice A n c)) (c3 : w.cell? ⟨p, 3, none⟩ = some (.bool true)) (hq : q ≤ 2305843009213693952) (hn : n ≤ 2305843009213693952) (hr : r = (q : Int) + d) (hd : d ≤ n) (hl : least = 0 ∨ least = 1) (hg : least ≤ d)
    (hF : Calls Try.prog 70 #[.int .i64 d, x, y] w fun e w' => e = .returned (.tuple #[]) ∧ Q w') :
    Calls Try.prog 66 #[.pointer (some ⟨p, 0, none⟩), .int .u64 r, .int .i64 least, .func (.func 70) #[] #[x, y]] w fun e w' => e = .returned (.int .i64 0) ∧ Q w' := by
  have HF := Lib.hid hF; have HR := Lib.hid hr
  clear hF hr
  go_enter Try.func66, Try.ntmps66
  go_wp2_with fail
  refine (none_made c3).mono ?_
  rintro e w1 ⟨rfl, rfl⟩
  go_wp2_with fail
  refine (pnow_any c0 c1 c3 hq hn).mono ?_
  obtain ⟨z, hz⟩ : ∃ z, (q : Int) + (n : Int) = z := ⟨_, rfl⟩
  rw [hz]
  have d1 : decide (r > z) = false := by have := HR.out; simp; omega
  have d2 : decide (r < q) = false := by have := HR.out; simp; omega
  have u1 : r - (q : Int) = d := by have := HR.out; omega
  have u2 : decide ((d : Int) < least) = false := by simp; omega
  clear hz
  rintro e w1 ⟨rfl, rfl⟩
  go_wp2_with fail
  refine HF.out.mono ?_
  rintro e w1 ⟨rfl, hQ⟩
  have HQ := Lib.hid hQ
  clear hQ
  go_wp2
  go_ret
  exact ⟨rfl, HQ.out⟩
end Go.Proofs.Ytfpbmpgdpnpdjaa

