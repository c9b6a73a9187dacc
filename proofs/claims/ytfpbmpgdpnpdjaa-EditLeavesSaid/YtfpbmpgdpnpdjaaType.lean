/-
  edit: the contract of Type.
-/
import Derived.Test.YtfpbmpgdpnpdjaaUnits
namespace Go.Proofs.Ytfpbmpgdpnpdjaa
open Go.RowKit
set_option linter.unusedSimpArgs false

theorem type1_any {c : Int} {w : World} : Calls Try.prog 52 #[.int .i32 c] w fun e w' => e = .returned (.bool (!mayI c)) ∧ w = w' := by
  obtain ⟨r, hr⟩ : ∃ r, mayI c = r := ⟨_, rfl⟩
  have HR := Lib.hid hr
  rw [hr]
  clear hr
  go_enter Try.func52, Try.ntmps52
  go_wp2_with fail
  refine (may_at r HR.out).mono ?_
  rintro e w1 ⟨rfl, rfl⟩
  go_wp2
  go_ret
  exact ⟨rfl, rfl⟩
theorem take_ok {cs : List Int} {j : Nat} {c : Int} (h : ∀ x ∈ cs.take j, mayI x = true) (hj : cs[j]? = some c) (hc : mayI c = true) : ∀ x ∈ cs.take (j + 1), mayI x = true := by
  intro x hx
  rw [List.take_add_one, hj, List.mem_append] at hx
  rcases hx with hx | hx
  · exact h x hx
  · simp at hx; subst hx; exact hc
set_option maxRecDepth 100000 in
theorem index_any {A : Option Addr} {n cap : Nat} {cs : List Int} {w : World} (hL : Lies w 1 A n cap (chs cs)) :
    Calls Try.prog 71 #[.slice A n cap, .func (.func 52) #[] #[]] w fun e w' => ∃ r : Int, e = .returned (.int .i64 r) ∧ w = w' ∧ ((∀ c ∈ cs, mayI c = true) → r = -1) ∧ (¬ (∀ c ∈ cs, mayI c = true) → 0 ≤ r) := by
  have hle := hL.le
  have hbig := hL.big
  have hln := hL.chs_len
  have HL := Lib.hid hL; have HLN := Lib.hid hln
  clear hL hln
  go_enter Try.func71, Try.ntmps71
  go_wp2
  go_loopw [8] (fun i wr => ∃ j : Nat, j ≤ n ∧ i = .int .i64 j ∧ Hid (∀ c ∈ cs.take j, mayI c = true) ∧ w = wr) (fun i _ => n - (intOf i).toNat)
  case atStart => exact ⟨0, Nat.zero_le _, rfl, by simp [Hid], rfl⟩
  case round =>
    obtain ⟨j, hj, rfl, hok, rfl⟩ := hrel
    by_cases hlt : j < n
    · obtain ⟨c, hc⟩ : ∃ c, cs[j]? = some c := ⟨_, List.getElem?_eq_getElem (by have := HLN.out; omega)⟩
      obtain ⟨b, off, rfl, hbs, hcell⟩ := HL.out.pos (by omega) (by decide)
      have hcc : w.cell? ⟨b, off + j, none⟩ = some (.int .i32 c) := hcell j _ (by simp [chs, hc])
      obtain ⟨r, hr⟩ : ∃ r, mayI c = r := ⟨_, rfl⟩
      have HC := Lib.hid hc; have HR := Lib.hid hr
      clear hc hr hcell
      go_wp2_with fail
      refine type1_any.mono ?_
      rw [HR.out]
      rintro e w1 ⟨rfl, rfl⟩
      cases r with
      | true =>
        have hok2 := Lib.hid (take_ok hok.out HC.out HR.out)
        go_wp2
        go_roundw
        case rel => exact ⟨j + 1, by omega, by go_num, hok2, by first | rfl | trivial⟩
        case measure => simp [intOf]; omega
      | false =>
        have hno := Lib.hid (show ¬ (∀ c ∈ cs, mayI c = true) from fun h => by have := h c (List.mem_of_getElem? HC.out); rw [HR.out] at this; cases this)
        go_wp2
        go_ret
        exact ⟨(j : Int), rfl, rfl, fun h => absurd h hno.out, fun _ => by omega⟩
    · obtain rfl : j = n := by omega
      have e : cs.take j = cs := List.take_of_length_le (by have := HLN.out; omega)
      have H2 := Lib.hid (e ▸ hok.out)
      clear e
      go_wp2
      go_ret
      exact ⟨-1, rfl, rfl, fun _ => rfl, fun h => absurd H2.out h⟩
set_option maxRecDepth 100000 in
theorem contains_any {A : Option Addr} {n cap : Nat} {cs : List Int} {w : World} (r : Bool) (hr : (∀ c ∈ cs, mayI c = true) ↔ r = false) (hL : Lies w 1 A n cap (chs cs)) :
    Calls Try.prog 51 #[.slice A n cap, .func (.func 52) #[] #[]] w fun e w' => e = .returned (.bool r) ∧ w = w' := by
  have HL := Lib.hid hL; have HR := Lib.hid hr
  clear hL hr
  go_enter Try.func51, Try.ntmps51
  go_wp2_with fail
  refine (index_any HL.out).mono ?_
  rintro e w1 ⟨q, rfl, rfl, h1, h2⟩
  cases r with
  | true =>
    have h3 : 0 ≤ q := h2 fun h => by have := HR.out.1 h; cases this
    have e1 : decide (0 ≤ q) = true := by simp [h3]
    have e2 : decide (q ≥ 0) = true := by simp [h3]
    clear h1 h2
    go_wp2
    go_ret
    exact ⟨rfl, rfl⟩
  | false =>
    have h3 : q = -1 := h1 (HR.out.2 rfl)
    subst h3
    clear h1 h2
    go_wp2
    go_ret
    exact ⟨rfl, rfl⟩
def TypePost (pos cl rq : Int) (cs : List Int) (w : World) (e : Ending) (w' : World) : Prop :=
  ∃ A n c E, e = .returned (.tuple #[.slice A n c, .int .i64 E]) ∧ Grow w w' ∧
    ((pos < 0 ∧ E = 1 ∧ A = none ∧ n = 0 ∧ c = 0) ∨ (0 ≤ pos ∧ 256 < cs.length ∧ E = 3 ∧ A = none ∧ n = 0 ∧ c = 0) ∨ (0 ≤ pos ∧ cs.length ≤ 256 ∧ ¬ (∀ x ∈ cs, mayI x = true) ∧ E = 21 ∧ A = none ∧ n = 0 ∧ c = 0) ∨
      (0 ≤ pos ∧ cs.length ≤ 256 ∧ (∀ x ∈ cs, mayI x = true) ∧ E = 0 ∧ n = cs.length ∧ w'.ownsRow w.heap.size 30 5 (.slice A n c) n (uns (unitsOf 1 pos cl rq cs))))
set_option maxRecDepth 100000 in
theorem type_any {pos cl rq : Int} {A : Option Addr} {n cap : Nat} {cs : List Int} {w : World} (hL : Lies w 1 A n cap (chs cs)) :
    Calls Try.prog 19 #[.int .i64 pos, .slice A n cap, .agg #[.int .u32 cl, .int .u64 rq]] w (TypePost pos cl rq cs w) := by
  have hln := hL.chs_len
  have HL := Lib.hid hL; have HLN := Lib.hid hln
  clear hL hln
  by_cases h0 : pos < 0
  · have g : ∀ w', Grow w w' → TypePost pos cl rq cs w (.returned (.tuple #[.slice none 0 0, .int .i64 1])) w' := fun w' g => ⟨none, 0, 0, 1, rfl, g, .inl ⟨h0, rfl, rfl, rfl, rfl⟩⟩
    have HG := Lib.hid g
    clear g
    go_enter Try.func19, Try.ntmps19
    go_wp2
    go_ret2
    exact HG.out _ (Grow.alloc _ _)
  · by_cases h1 : 256 < n
    · have g : ∀ w', Grow w w' → TypePost pos cl rq cs w (.returned (.tuple #[.slice none 0 0, .int .i64 3])) w' := fun w' g => ⟨none, 0, 0, 3, rfl, g, .inr (.inl ⟨by omega, by rw [HLN.out]; exact h1, rfl, rfl, rfl, rfl⟩)⟩
      have HG := Lib.hid g
      have d1 : decide (256 < n) = true := by simp; omega
      have d2 : decide ((256 : Int) < (n : Int)) = true := by simp; omega
      clear g
      go_enter Try.func19, Try.ntmps19
      go_wp2
      go_ret2
      exact HG.out _ (Grow.alloc _ _)
    · have d1 : decide (256 < n) = false := by simp; omega
      have d2 : decide ((256 : Int) < (n : Int)) = false := by simp; omega
      have hn : n * 40 ≤ 140737488355328 := by omega
      have h1' : cs.length ≤ 256 := by rw [HLN.out]; omega
      have H1 := Lib.hid h1'; have H0 := Lib.hid h0
      by_cases hall : ∀ x ∈ cs, mayI x = true
      · have HA := Lib.hid hall
        clear hall h1 h1'
        go_enter Try.func19, Try.ntmps19
        go_wp2_with fail
        refine (contains_any false ⟨fun _ => rfl, fun _ => HA.out⟩ (HL.out.alloc _)).mono ?_
        rintro e w1 ⟨rfl, rfl⟩
        go_wp2_with fail
        refine (units_any (HL.out.alloc _) hn).mono ?_
        rintro e w1 ⟨A1, c1, rfl, own1, g1⟩
        have O1 := Lib.hid (own1.mono (b2 := w.heap.size) (by simp))
        have G1 := Lib.hid (Grow.trans (Grow.alloc w _) g1)
        clear own1 g1
        go_wp2
        go_ret2
        exact ⟨A1, n, c1, 0, rfl, G1.out, .inr (.inr (.inr ⟨by have := H0.out; omega, H1.out, HA.out, rfl, HLN.out.symm, O1.out⟩))⟩
      · have HA := Lib.hid hall
        clear hall h1 h1'
        go_enter Try.func19, Try.ntmps19
        go_wp2_with fail
        refine (contains_any true ⟨fun h => absurd h HA.out, fun h => by cases h⟩ (HL.out.alloc _)).mono ?_
        rintro e w1 ⟨rfl, rfl⟩
        go_wp2
        go_ret2
        exact ⟨none, 0, 0, 21, rfl, Grow.alloc _ _, .inr (.inr (.inl ⟨by have := H0.out; omega, H1.out, HA.out, rfl, rfl, rfl, rfl⟩))⟩
end Go.Proofs.Ytfpbmpgdpnpdjaa

