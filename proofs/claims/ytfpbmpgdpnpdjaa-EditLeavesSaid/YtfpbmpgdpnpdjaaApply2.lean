/-
  edit: the contract of the reference's Apply of a row.
-/
import Derived.Test.YtfpbmpgdpnpdjaaApply
namespace Go.Proofs.Ytfpbmpgdpnpdjaa
open Go.RowKit
set_option linter.unusedSimpArgs false

/-- How long texts may get on the way. -/
def Fits (B : Nat) : List U → List Int → Prop
  | [], _ => True
  | u :: r, t => t.length ≤ B ∧ ∀ s, applyU u t = some s → Fits B r s
def RowPost (us : List U) (t : List Int) (w : World) (e : Ending) (w' : World) : Prop :=
  ∃ A m c r, e = .returned (.tuple #[.slice A m c, .bool r]) ∧ Grow w w' ∧ ((applyR us t = none ∧ r = false) ∨ ∃ s, applyR us t = some s ∧ r = true ∧ Lies w' 1 A m c (chs s))
theorem applyR_snoc {us : List U} {t s : List Int} {i : Nat} {u : U} (h : us[i]? = some u) (hs : applyR (us.take i) t = some s) : applyR (us.take (i + 1)) t = applyU u s := by
  induction us generalizing t i with
  | nil => simp at h
  | cons a us ih =>
    cases i with
    | zero =>
      simp at h; subst h
      simp only [List.take_zero, applyR, Option.some.injEq] at hs
      subst hs
      simp only [List.take_succ_cons, List.take_zero, applyR]
      cases applyU a t <;> rfl
    | succ i =>
      simp only [List.take_succ_cons, applyR] at hs ⊢
      cases ha : applyU a t with
      | none => rw [ha] at hs; cases hs
      | some x =>
        rw [ha] at hs
        exact ih (by simpa using h) hs
theorem applyR_none {us : List U} {t s : List Int} {i : Nat} {u : U} (h : us[i]? = some u) (hs : applyR (us.take i) t = some s) (hn : applyU u s = none) : applyR us t = none := by
  induction us generalizing t i with
  | nil => simp at h
  | cons a us ih =>
    cases i with
    | zero =>
      simp at h; subst h
      simp only [List.take_zero, applyR, Option.some.injEq] at hs
      subst hs
      simp only [applyR, hn]
    | succ i =>
      simp only [List.take_succ_cons, applyR] at hs ⊢
      cases ha : applyU a t with
      | none => rfl
      | some x =>
        rw [ha] at hs
        exact ih (by simpa using h) hs
theorem outI_bound {u : U} {t s : List Int} (h : applyU u t = some s) : s.length ≤ 2 * (t.length + 1) := by
  unfold applyU at h
  split at h
  · injection h with h; subst h; exact outI_len _ _ _
  · cases h
theorem applyR_bound {us : List U} {t s : List Int} {i B : Nat} (hf : Fits B us t) (hi : i < us.length) (hs : applyR (us.take i) t = some s) : s.length ≤ B := by
  induction us generalizing t i with
  | nil => simp at hi
  | cons a us ih =>
    cases i with
    | zero =>
      simp only [List.take_zero, applyR, Option.some.injEq] at hs
      subst hs
      exact hf.1
    | succ i =>
      simp only [List.take_succ_cons, applyR] at hs
      cases ha : applyU a t with
      | none => rw [ha] at hs; cases hs
      | some x =>
        rw [ha] at hs
        exact ih (hf.2 x ha) (by simpa using hi) hs
set_option maxRecDepth 100000 in
set_option maxHeartbeats 2000000 in
set_option linter.unusedVariables false in
theorem r08apply_any {us : List U} {A B : Option Addr} {n cap nt ct : Nat} {t : List Int} {w : World} (hU : Lies w 5 A n cap (uns us)) (hT : Lies w 1 B nt ct (chs t)) (hF : Fits 1048576 us t) :
    Calls Try.prog 28 #[.slice A n cap, .slice B nt ct] w (RowPost us t w) := by
  have hle := hU.le
  have hbig := hU.big
  have hln := hU.uns_len
  have HU := Lib.hid hU; have HT := Lib.hid hT; have HF := Lib.hid hF; have HLN := Lib.hid hln
  clear hU hT hF hln
  go_enter Try.func28, Try.ntmps28
  go_wp2
  go_loopw [1, 6] (fun v i wr => ∃ (j m1 : Nat) (A1 : Option Addr) (c1 : Nat) (s : List Int), j ≤ n ∧ i = .int .i64 j ∧ v = .slice A1 m1 c1 ∧ Hid (applyR (us.take j) t = some s) ∧ Lies wr 1 A1 m1 c1 (chs s) ∧ Grow w wr) (fun _ i _ => n - (intOf i).toNat)
  case atStart => exact ⟨0, nt, B, ct, t, Nat.zero_le _, rfl, rfl, rfl, HT.out, Grow.refl _⟩
  case round =>
    obtain ⟨j, m1, A1, c1, s, hj, rfl, rfl, hs, hLs, hg⟩ := hrel
    have LS := Lib.hid hLs; have G1 := Lib.hid hg
    by_cases hlt : j < n
    · obtain ⟨u, hu⟩ : ∃ u, us[j]? = some u := ⟨_, List.getElem?_eq_getElem (by have := HLN.out; omega)⟩
      obtain ⟨b, off, rfl, hbs, hcell⟩ := HU.out.pos (by omega) (by decide)
      obtain ⟨x0, x1, x2, x3, x4⟩ := HU.out.unit_cells hu wr hg
      have hb := applyR_bound HF.out (by have := HLN.out; omega) hs.out
      have hl := hLs.chs_len
      have HUU := Lib.hid hu
      clear hu hcell hg hLs
      have hm : m1 ≤ 1048576 := by omega
      clear hb hl
      go_wp2_with fail
      refine (r06apply_any (u := u) LS.out hm).mono ?_
      rintro e w1 ⟨A2, m2, c2, E, rfl, g1, h⟩
      have G2 := Lib.hid (G1.out.trans g1)
      clear g1 x0 x1 x2 x3 x4
      rcases h with ⟨hn, hE⟩ | ⟨s2, hs2, rfl, own2⟩
      · have HN := Lib.hid (applyR_none HUU.out hs.out hn)
        have e1 : (E != 0) = true := by simp [hE]
        clear hn hE
        go_wp2
        go_ret2
        exact ⟨none, 0, 0, false, rfl, G2.out, .inl ⟨HN.out, rfl⟩⟩
      · have hs3 : Hid (applyR (us.take (j + 1)) t = some s2) := by show _ = _; rw [applyR_snoc HUU.out hs.out]; exact hs2
        have L2 := Lib.hid (Lies.of_own own2)
        clear hs2 own2
        go_wp2
        go_roundw
        case rel => exact ⟨j + 1, m2, A2, c2, s2, by omega, by go_num, rfl, hs3, L2.out, G2.out⟩
        case measure => simp [intOf]; omega
    · obtain rfl : j = n := by omega
      have hfin : applyR us t = some s := by
        have := hs.out
        rwa [List.take_of_length_le (by have := HLN.out; omega)] at this
      have HFIN := Lib.hid hfin
      clear hfin hg hLs
      go_wp2
      go_ret2
      exact ⟨A1, m1, c1, true, rfl, G1.out, .inr ⟨s, HFIN.out, rfl, LS.out⟩⟩
end Go.Proofs.Ytfpbmpgdpnpdjaa

