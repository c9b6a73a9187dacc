/-
  past: the contract of weave.Long, in parts: unit.Fits; whether a unit may not be.
-/
import Derived.Test.YtfpbmpgdpnpdjaaRow
import Derived.Test.YtfpbmpgdpnpdjaaGrows
namespace Go.Proofs.Ytfpbmpgdpnpdjaa
open Go.RowKit
set_option linter.unusedSimpArgs false

theorem umay_at {k p c cl rq : Int} {w : World} (r : Bool) (h : mayU ⟨k, p, c, cl, rq⟩ = r) : Calls Try.prog 13 #[.agg #[.int .i64 k, .int .i64 p, .int .i32 c, .int .u32 cl, .int .u64 rq]] w fun e w' => e = .returned (.bool r) ∧ Grow w w' := by
  subst h; exact umay_any (u := ⟨k, p, c, cl, rq⟩)
theorem long1_any {k p c cl rq : Int} {w : World} (r : Bool) (h : mayU ⟨k, p, c, cl, rq⟩ = r) : Calls Try.prog 77 #[.agg #[.int .i64 k, .int .i64 p, .int .i32 c, .int .u32 cl, .int .u64 rq]] w fun e w' => e = .returned (.bool (!r)) ∧ Grow w w' := by
  have HR := Lib.hid h
  clear h
  go_enter Try.func77, Try.ntmps77
  go_wp2_with fail
  refine (umay_at r HR.out).mono ?_
  rintro e w1 ⟨rfl, g1⟩
  have G1 := Lib.hid ((Grow.alloc w _).trans g1)
  clear g1
  go_wp2
  go_ret
  exact ⟨rfl, G1.out⟩
theorem takeU_ok {us : List U} {j : Nat} {u : U} (h : ∀ x ∈ us.take j, mayU x = true) (hj : us[j]? = some u) (hc : mayU u = true) : ∀ x ∈ us.take (j + 1), mayU x = true := by
  intro x hx
  rw [List.take_add_one, hj, List.mem_append] at hx
  rcases hx with hx | hx
  · exact h x hx
  · simp at hx; subst hx; exact hc
set_option maxRecDepth 100000 in
theorem uindex_any {A : Option Addr} {n cap : Nat} {us : List U} {w : World} (hL : Lies w 5 A n cap (uns us)) :
    Calls Try.prog 73 #[.slice A n cap, .func (.func 77) #[] #[]] w fun e w' => ∃ r : Int, e = .returned (.int .i64 r) ∧ Grow w w' ∧ ((∀ c ∈ us, mayU c = true) → r = -1) ∧ (¬ (∀ c ∈ us, mayU c = true) → 0 ≤ r) := by
  have hle := hL.le
  have hbig := hL.big
  have hln := hL.uns_len
  have HL := Lib.hid hL; have HLN := Lib.hid hln
  clear hL hln
  go_enter Try.func73, Try.ntmps73
  go_wp2
  go_loopw [8] (fun i wr => ∃ j : Nat, j ≤ n ∧ i = .int .i64 j ∧ Hid (∀ c ∈ us.take j, mayU c = true) ∧ Grow w wr) (fun i _ => n - (intOf i).toNat)
  case atStart => exact ⟨0, Nat.zero_le _, rfl, by simp [Hid], Grow.refl _⟩
  case round =>
    obtain ⟨j, hj, rfl, hok, gw⟩ := hrel
    have GW := Lib.hid gw
    by_cases hlt : j < n
    · obtain ⟨u, hu⟩ : ∃ u, us[j]? = some u := ⟨_, List.getElem?_eq_getElem (by have := HLN.out; omega)⟩
      obtain ⟨b, off, rfl, hbs, hcell⟩ := HL.out.pos (by omega) (by decide)
      obtain ⟨x0, x1, x2, x3, x4⟩ := HL.out.unit_cells hu wr gw
      obtain ⟨r, hr⟩ : ∃ r, mayU u = r := ⟨_, rfl⟩
      have HC := Lib.hid hu; have HR := Lib.hid hr
      obtain ⟨uk, up, uc, ucl, urq⟩ := u
      simp only at x0 x1 x2 x3 x4
      clear hu hr hcell gw
      go_wp2_with fail
      refine (long1_any r HR.out).mono ?_
      rintro e w1 ⟨rfl, g1⟩
      have G1 := Lib.hid (GW.out.trans g1)
      clear g1 x0 x1 x2 x3 x4
      cases r with
      | true =>
        have hok2 := Lib.hid (takeU_ok hok.out HC.out HR.out)
        go_wp2
        go_roundw
        case rel => exact ⟨j + 1, by omega, by go_num, hok2, G1.out⟩
        case measure => simp [intOf]; omega
      | false =>
        have hno := Lib.hid (show ¬ (∀ c ∈ us, mayU c = true) from fun h => by have := h _ (List.mem_of_getElem? HC.out); rw [HR.out] at this; cases this)
        go_wp2
        go_ret
        exact ⟨(j : Int), rfl, G1.out, fun h => absurd h hno.out, fun _ => by omega⟩
    · obtain rfl : j = n := by omega
      have e : us.take j = us := List.take_of_length_le (by have := HLN.out; omega)
      have H2 := Lib.hid (e ▸ hok.out)
      clear e gw
      go_wp2
      go_ret
      exact ⟨-1, rfl, GW.out, fun _ => rfl, fun h => absurd H2.out h⟩
set_option maxRecDepth 100000 in
theorem ucontains_any {A : Option Addr} {n cap : Nat} {us : List U} {w : World} (r : Bool) (hr : (∀ c ∈ us, mayU c = true) ↔ r = false) (hL : Lies w 5 A n cap (uns us)) :
    Calls Try.prog 76 #[.slice A n cap, .func (.func 77) #[] #[]] w fun e w' => e = .returned (.bool r) ∧ Grow w w' := by
  have HL := Lib.hid hL; have HR := Lib.hid hr
  clear hL hr
  go_enter Try.func76, Try.ntmps76
  go_wp2_with fail
  refine (uindex_any HL.out).mono ?_
  rintro e w1 ⟨q, rfl, g1, h1, h2⟩
  have G1 := Lib.hid g1
  clear g1
  cases r with
  | true =>
    have h3 : 0 ≤ q := h2 fun h => by have := HR.out.1 h; cases this
    have e1 : decide (0 ≤ q) = true := by simp [h3]
    have e2 : decide (q ≥ 0) = true := by simp [h3]
    clear h1 h2
    go_wp2
    go_ret
    exact ⟨rfl, G1.out⟩
  | false =>
    have h3 : q = -1 := h1 (HR.out.2 rfl)
    subst h3
    clear h1 h2
    go_wp2
    go_ret
    exact ⟨rfl, G1.out⟩
end Go.Proofs.Ytfpbmpgdpnpdjaa

