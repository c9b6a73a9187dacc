/-
  edit: the walk of EditClean.
-/
import Derived.Test.YtfpbmpgdpnpdjaaCleanP
import Derived.Test.YtfpbmpgdpnpdjaaEJoinsWalk
import Derived.Test.YtfpbmpgdpnpdjaaEMakesWalk
namespace Go.Proofs.Ytfpbmpgdpnpdjaa
open Go.RowKit
set_option linter.unusedSimpArgs false

set_option maxRecDepth 100000 in
set_option maxHeartbeats 4000000 in
set_option linter.unusedVariables false in
theorem editclean_any {A B : Option Addr} {na ca nb cb : Nat} {ts0 : List Int} {us0 : List U} {w : World} (hA : Lies w 1 A na ca (chs ts0)) (hB : Lies w 5 B nb cb (uns us0)) (hu : ∀ u ∈ us0, UWf u) :
    Calls Try.prog 5 #[.slice A na ca, .slice B nb cb] w fun e w' => e = .returned (.bool true) ∧ Below w.heap.size w w' := by
  have hle := hA.le
  have hbig := hA.big
  have hle2 := hB.le
  have hbig2 := hB.big
  obtain ⟨m, hm, hmn, hm1⟩ := cut_min na 100 100 rfl
  obtain ⟨k, hk, hkn, hk1⟩ := cut_min nb 100 100 rfl
  have hA2 := hA.takeC m hmn
  have hB2 := hB.takeU k hkn
  obtain ⟨ts, hts⟩ : ∃ ts, ts0.take m = ts := ⟨_, rfl⟩
  obtain ⟨us, hus⟩ : ∃ us, us0.take k = us := ⟨_, rfl⟩
  rw [hts] at hA2
  rw [hus] at hB2
  have hu2 : ∀ u ∈ us, UWf u := fun u h => hu u (List.mem_of_mem_take (hus ▸ h))
  have LA := Lib.hid hA2; have LB := Lib.hid hB2; have WB := Lib.hid hu2
  have NA := Lib.hid hA2.chs_len; have NB := Lib.hid hB2.uns_len
  clear hA hB hA2 hB2 hu hu2 hts hus
  go_enter Try.func5, Try.ntmps5
  go_upto_region 1 with fail
  have i0 : (0 : Int) ≤ (m : Int) := by omega
  have i1 : (m : Int) ≤ (na : Int) := by omega
  have i2 : (m : Int) ≤ (ca : Int) := by omega
  have i3 : (0 : Int) ≤ (k : Int) := by omega
  have i4 : (k : Int) ≤ (nb : Int) := by omega
  have i5 : (k : Int) ≤ (cb : Int) := by omega
  refine Chain.start Nat (by kernel_rfl) (by kernel_rfl) (fun hg => ?_)
  repeat (first | (refine Chain.skip hg (fun t => by rfl) ?_; simp only [Act.put, List.setIfInBounds_toArray, List.set_cons_zero, List.set_cons_succ]) | (refine Chain.pure hg (X := ?_) (fun t W hw hN => ⟨by rfl, ?_⟩) ?_; rotate_left; (focus (go_simp <;> with_reducible rfl)); simp only [Act.put, List.setIfInBounds_toArray, List.set_cons_zero, List.set_cons_succ]))
  refine Chain.done (fun t W hw hN => ?_)
  clear hN hg hm hk i0 i1 i2 i3 i4 i5
  have G0 := Lib.hid hw
  clear hw
  go_wp2_with fail
  refine (clean_any (LB.out.below G0.out (Nat.le_refl _)) (by omega)).mono ?_
  rintro e w1 ⟨A1, n1, c1, rfl, own1, g1⟩
  have L1 := Lib.hid (Lies.of_own own1); have G1 := Lib.hid (G0.out.trans g1)
  have hl1 := L1.out.uns_len
  have hnl := nops_len us
  have N2 := NB.out
  obtain ⟨z, hz⟩ : ∃ z, nopsU us = z := ⟨_, rfl⟩
  have hzk : n1 + z = k := by omega
  have HZ := Lib.hid hz
  clear own1 g1 hl1 hnl N2 hz
  go_wp2
  go_loopw [6, 7] (fun s i wr => ∃ j : Nat, j ≤ k ∧ i = .int .i64 j ∧ s = .int .i64 (nopsU (us.take j) : Nat) ∧ w1 = wr) (fun _ i _ => k - (intOf i).toNat)
  case atStart => exact ⟨0, Nat.zero_le _, rfl, rfl, rfl⟩
  case round =>
    obtain ⟨j, hj, rfl, rfl, rfl⟩ := hrel
    by_cases hlt : j < k
    · obtain ⟨u, hu⟩ : ∃ u, us[j]? = some u := ⟨_, List.getElem?_eq_getElem (by have := NB.out; omega)⟩
      obtain ⟨b, off, rfl, hbs, hcell⟩ := LB.out.pos (by omega) (by decide)
      have x0 := (LB.out.unit_cells hu w1 G1.out).1
      have hst := nops_take hu
      have hb := nops_le (us.take j)
      rw [List.length_take] at hb
      obtain ⟨y, hy⟩ : ∃ y, nopsU (us.take j) = y := ⟨_, rfl⟩
      rw [hy] at hst hb
      rw [hy]
      have hb2 : y ≤ 100 := by omega
      have HST := Lib.hid hst
      obtain ⟨uk, up, uc, ucl, urq⟩ := u
      simp only at x0
      clear hu hcell hst hb hy
      by_cases hk0 : uk = 0
      · subst hk0
        go_wp2
        go_roundw
        case rel => exact ⟨j + 1, by omega, by go_num, by rw [HST.out]; go_num, by first | rfl | trivial⟩
        case measure => simp [intOf]; omega
      · have e0 : (uk == 0) = false := by simp [hk0]
        go_wp2
        go_roundw
        case rel => exact ⟨j + 1, by omega, by go_num, by rw [HST.out]; simp [hk0], by first | rfl | trivial⟩
        case measure => simp [intOf]; omega
    · obtain rfl : j = k := by omega
      have e : us.take j = us := List.take_of_length_le (by have := NB.out; omega)
      rw [e, HZ.out]
      have bu := growU_bd us
      have ec := growU_clean us
      have e1 : ((n1 : Int) != (j : Int) - (z : Int)) = false := by simp; omega
      have w1' : wrap64 ((j : Int) - (z : Int)) = (j : Int) - (z : Int) := wrap_in (by omega) (by omega)
      obtain ⟨s1, hs1⟩ : ∃ s, growU us = s := ⟨_, rfl⟩
      have HS1 := Lib.hid hs1; have HS2 := Lib.hid (ec.trans hs1)
      clear e bu ec hs1
      go_wp2_with fail
      clear w1' e1
      refine (grows_any L1.out (clean_wf WB.out)).mono ?_
      rw [HS2.out]
      rintro e w2 ⟨rfl, g2⟩
      have G2 := Lib.hid (G1.out.trans g2); have D2 := Lib.hid g2
      clear g2
      go_wp2_with fail
      refine (grows_any (LB.out.below G2.out (Nat.le_refl _)) WB.out).mono ?_
      rw [HS1.out]
      rintro e w3 ⟨rfl, g3⟩
      have G3 := Lib.hid (G2.out.trans g3); have D3 := Lib.hid (D2.out.trans g3)
      clear g3
      go_wp2_with fail
      refine (clean_any (L1.out.below D3.out (Nat.le_refl _)) (by omega)).mono ?_
      rintro e w4 ⟨A4, n4, c4, rfl, own4, g4⟩
      have G4 := Lib.hid (G3.out.trans g4); have D4 := Lib.hid (D3.out.trans g4); have L4 := Lib.hid (Lies.of_own own4)
      clear own4 g4
      go_wp2_with fail
      refine (esame_any L4.out (L1.out.below D4.out (Nat.le_refl _))).mono ?_
      rw [show decide ((us.filter notNop).filter notNop = us.filter notNop) = true by simp]
      rintro e w5 ⟨rfl, g5⟩
      have G5 := Lib.hid (G4.out.trans g5); have D5 := Lib.hid (D4.out.trans g5)
      clear g5
      have hf1 : Fits 1048576 us ts := fits_of us ts (by have h1 := NA.out; have h2 := NB.out; omega)
      have hf2 : Fits 1048576 (us.filter notNop) ts := fits_of _ ts (by have h1 := NA.out; have h2 := NB.out; have h3 := List.length_filter_le notNop us; omega)
      have HF1 := Lib.hid hf1; have HF2 := Lib.hid hf2
      clear hf1 hf2
      go_wp2_with fail
      refine (r08apply_any (LB.out.below G5.out (Nat.le_refl _)) (LA.out.below G5.out (Nat.le_refl _)) HF1.out).mono ?_
      rintro e w6 ⟨A6, n6, c6, r6, rfl, g6, h6⟩
      have G6 := Lib.hid (G5.out.trans g6); have D6 := Lib.hid (D5.out.trans g6); have H6 := Lib.hid h6
      clear g6 h6
      go_wp2_with fail
      refine (r08apply_any (L1.out.below D6.out (Nat.le_refl _)) (LA.out.below G6.out (Nat.le_refl _)) HF2.out).mono ?_
      rintro e w7 ⟨A7, n7, c7, r7, rfl, g7, h7⟩
      have G7 := Lib.hid (G6.out.trans g7); have E7 := Lib.hid g7
      clear g7
      rcases H6.out with ⟨h6, rfl⟩ | ⟨s, hs, rfl, L6⟩
      · clear h6 h7
        go_wp2_with fail
        refine wakes8.mono ?_
        rintro e w8 ⟨rfl, g8⟩
        have GF := Lib.hid (G7.out.trans g8)
        clear g8
        go_wp2
        go_ret
        exact ⟨rfl, GF.out⟩
      · have hcl := apply_clean us ts s hs
        rcases h7 with ⟨h7, -⟩ | ⟨s2, hs2, rfl, L7⟩
        · rw [hcl] at h7; cases h7
        · rw [hcl] at hs2
          injection hs2 with hs2
          subst hs2
          have LL6 := Lib.hid (L6.below E7.out (Nat.le_refl _)); have LL7 := Lib.hid L7
          clear L6 L7 hcl hs
          go_wp2_with fail
          refine (same_at true (by simp) LL6.out LL7.out).mono ?_
          rintro e w8 ⟨rfl, g8⟩
          have G8 := Lib.hid (G7.out.trans g8)
          clear g8
          go_wp2_with fail
          refine wakes8.mono ?_
          rintro e w9 ⟨rfl, g9⟩
          have GF := Lib.hid (G8.out.trans g9)
          clear g9
          go_wp2
          go_ret
          exact ⟨rfl, GF.out⟩
end Go.Proofs.Ytfpbmpgdpnpdjaa

