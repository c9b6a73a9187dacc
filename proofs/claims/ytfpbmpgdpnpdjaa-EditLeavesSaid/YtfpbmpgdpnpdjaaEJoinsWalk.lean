/-
  edit: the walk of EditJoins.
-/
import Derived.Test.YtfpbmpgdpnpdjaaJoinsP
import Derived.Test.YtfpbmpgdpnpdjaaClean
import Derived.Test.YtfpbmpgdpnpdjaaEBackWalk
namespace Go.Proofs.Ytfpbmpgdpnpdjaa
open Go.RowKit
set_option linter.unusedSimpArgs false

theorem toGrow2 {w w' : World} (h : Below w.heap.size w w') : Grow w w' := h
theorem cut_min (n k : Nat) (K : Int) (hK : K = (k : Int)) : ∃ m : Nat, (if K < (n : Int) then K else (n : Int)) = (m : Int) ∧ m ≤ n ∧ m ≤ k := ⟨min n k, by split <;> omega, by omega, by omega⟩
set_option maxRecDepth 100000 in
set_option maxHeartbeats 4000000 in
set_option linter.unusedVariables false in
theorem editjoins_any {A B : Option Addr} {na ca nb cb : Nat} {us0 vs0 : List U} {w : World} (hA : Lies w 5 A na ca (uns us0)) (hB : Lies w 5 B nb cb (uns vs0)) (hu : ∀ u ∈ us0, UWf u) (hv : ∀ u ∈ vs0, UWf u) :
    Calls Try.prog 6 #[.slice A na ca, .slice B nb cb] w fun e w' => e = .returned (.bool true) ∧ Below w.heap.size w w' := by
  have hle := hA.le
  have hbig := hA.big
  have hle2 := hB.le
  have hbig2 := hB.big
  obtain ⟨m, hm, hmn, hm1⟩ := cut_min na 100 100 rfl
  obtain ⟨k, hk, hkn, hk1⟩ := cut_min nb 100 100 rfl
  have hA2 := hA.takeU m hmn
  have hB2 := hB.takeU k hkn
  obtain ⟨us, hus⟩ : ∃ us, us0.take m = us := ⟨_, rfl⟩
  obtain ⟨vs, hvs⟩ : ∃ vs, vs0.take k = vs := ⟨_, rfl⟩
  rw [hus] at hA2
  rw [hvs] at hB2
  have hu2 : ∀ u ∈ us, UWf u := fun u h => hu u (List.mem_of_mem_take (hus ▸ h))
  have hv2 : ∀ u ∈ vs, UWf u := fun u h => hv u (List.mem_of_mem_take (hvs ▸ h))
  have LA := Lib.hid hA2; have LB := Lib.hid hB2; have WA := Lib.hid hu2; have WB := Lib.hid hv2
  have NA := Lib.hid hA2.uns_len; have NB := Lib.hid hB2.uns_len
  have WC := Lib.hid (show ∀ u ∈ us ++ vs, UWf u from fun u h => (List.mem_append.1 h).elim (hu2 u) (hv2 u))
  clear hA hB hA2 hB2 hu hv hu2 hv2 hus hvs
  go_enter Try.func6, Try.ntmps6
  go_upto_region 1 with fail
  have i0 : (0 : Int) ≤ (m : Int) := by omega
  have i1 : (m : Int) ≤ (na : Int) := by omega
  have i2 : (m : Int) ≤ (ca : Int) := by omega
  have i3 : (0 : Int) ≤ (k : Int) := by omega
  have i4 : (k : Int) ≤ (nb : Int) := by omega
  have i5 : (k : Int) ≤ (cb : Int) := by omega
  refine Chain.start Nat (by kernel_rfl) (by kernel_rfl) (fun hg => ?_)
  repeat (first | (refine Chain.skip hg (fun t => by rfl) ?_; simp only [Act.put, List.setIfInBounds_toArray, List.set_cons_zero, List.set_cons_succ]) | (refine Chain.pure hg (X := ?_) (fun t W hw hN => ⟨by rfl, ?_⟩) ?_; rotate_left; (focus (go_simp <;> with_reducible rfl)); simp only [Act.put, List.setIfInBounds_toArray, List.set_cons_zero, List.set_cons_succ]))
  refine Chain.done (fun t W hw hN => ?_)
  clear hN hg hm hk i0 i1 i2 i3 i4 i5
  have G0 := Lib.hid hw
  clear hw
  go_wp2_with (first
    | (at_builtin; refine wpList_appU rfl (.const (.slice none 0 0)) (.tmp 23) rfl W.heap.size _ 0 [] rfl (own_nilU _ _) A m ca us rfl (LA.out.below G0.out (Nat.le_refl _)) (by omega) (Nat.le_refl _) ?_; intro A1 c1 w1 own1 L1 bel1; simp only [Nat.zero_add, List.nil_append] at own1; have O1 := Lib.hid own1; have G01 := Lib.hid (toGrow2 (bel1 _ _ (Grow.refl _) (Nat.le_refl _))); clear own1 L1 bel1)
    | (at_builtin; refine wpList_appU rfl (.tmp 24) (.tmp 25) rfl W.heap.size _ m us rfl O1.out B k cb vs rfl (LB.out.below (G0.out.trans G01.out) (Nat.le_refl _)) (by omega) G01.out.size ?_; intro A2 c2 w2 own2 L2 bel2; have LC := Lib.hid L2; have G02 := Lib.hid (toGrow2 (bel2 _ _ G01.out (Nat.le_refl _))); clear own2 L2 bel2))
  have G2 := Lib.hid (G0.out.trans G02.out)
  refine (runs_any (LA.out.below G2.out (Nat.le_refl _)) (by omega)).mono ?_
  rintro e w3 ⟨V3, l3, rfl, h3, R3, g3⟩
  obtain ⟨A3, c3, rfl, -⟩ := own_form R3.row
  have G3 := Lib.hid (G2.out.trans g3); have D3 := Lib.hid g3; have H3 := Lib.hid h3
  clear R3 g3 h3
  go_wp2_with fail
  refine (runs_any (LB.out.below G3.out (Nat.le_refl _)) (by omega)).mono ?_
  rintro e w4 ⟨V4, l4, rfl, h4, R4, g4⟩
  obtain ⟨A4, c4, rfl, -⟩ := own_form R4.row
  have G4 := Lib.hid (G3.out.trans g4); have D4 := Lib.hid (D3.out.trans g4); have H4 := Lib.hid h4
  clear R4 g4 h4
  go_wp2_with fail
  refine (runs_any (LC.out.below D4.out (Nat.le_refl _)) (by omega)).mono ?_
  rintro e w5 ⟨V5, l5, rfl, h5, R5, g5⟩
  obtain ⟨A5, c5, rfl, -⟩ := own_form R5.row
  have G5 := Lib.hid (G4.out.trans g5); have D5 := Lib.hid (D4.out.trans g5); have H5 := Lib.hid h5
  have RL := Lib.hid R5.lie
  clear R5 g5 h5
  obtain ⟨n3, hn3⟩ : ∃ n, l3.length = n := ⟨_, rfl⟩
  obtain ⟨n4, hn4⟩ : ∃ n, l4.length = n := ⟨_, rfl⟩
  obtain ⟨n5, hn5⟩ : ∃ n, l5.length = n := ⟨_, rfl⟩
  rw [hn5] at RL
  rw [hn3, hn4, hn5]
  have e3 := congrArg List.length H3.out
  have e4 := congrArg List.length H4.out
  have e5 := congrArg List.length H5.out
  rw [List.length_map] at e3 e4 e5
  have q3 := runsOf_len us
  have q4 := runsOf_len vs
  have hj := runs_join us vs
  have N1 := NA.out; have N2 := NB.out
  have b3 : n3 ≤ 100 := by omega
  have b4 : n4 ≤ 100 := by omega
  have hj2 : n5 = n3 + n4 ∨ (n5 + 1 = n3 + n4 ∧ n3 ≠ 0 ∧ n4 ≠ 0) := by rw [← hn3, ← hn4, ← hn5, e3, e4, e5]; exact hj
  have HN5 := Lib.hid hn5
  clear e3 e4 e5 q3 q4 hj hn3 hn4 hn5 N1 N2
  have NC := Lib.hid (show charsOf (runsOf (us ++ vs)) = m + k by rw [chars_runs, List.length_append, NA.out, NB.out])
  go_upto_region 4 with fail
  go_cut [61] (fun s61 wc => s61 = .bool false ∧ w5 = wc)
  case first =>
    rcases hj2 with h | ⟨h, h3, h4⟩
    · have e1 : ((n5 : Int) != (n3 : Int) + (n4 : Int)) = false := by simp; omega
      clear h
      go_wp2
      go_meet
      exact ⟨rfl, rfl⟩
    · have e1 : ((n5 : Int) != (n3 : Int) + (n4 : Int)) = true := by simp; omega
      have e2 : ((n5 : Int) != (n3 : Int) + (n4 : Int) - 1) = false := by simp; omega
      have e3 : ((n3 : Int) == 0) = false := by simp; omega
      have e4 : ((n4 : Int) == 0) = false := by simp; omega
      clear h h3 h4
      go_wp2
      go_meet
      exact ⟨rfl, rfl⟩
  case rest =>
    obtain ⟨rfl, rfl⟩ := hcut
    have bn5 : n5 ≤ 200 := by omega
    clear hj2
    go_wp2
    go_loopw [9, 10] (fun s i wr => ∃ q : Nat, q ≤ n5 ∧ i = .int .i64 q ∧ s = .int .i64 (charsOf ((runsOf (us ++ vs)).take q) : Nat) ∧ w5 = wr) (fun _ i _ => n5 - (intOf i).toNat)
    case atStart => exact ⟨0, Nat.zero_le _, rfl, rfl, rfl⟩
    case round =>
      obtain ⟨q, hq, rfl, rfl, rfl⟩ := hrel
      by_cases hlt : q < n5
      · obtain ⟨⟨r, v⟩, hu⟩ : ∃ u, l5[q]? = some u := ⟨_, List.getElem?_eq_getElem (by have := HN5.out; omega)⟩
        obtain ⟨A6, c6, hv, hL6⟩ := RL.out.each (r, v) (List.mem_of_getElem? hu)
        simp only at hv
        subst hv
        obtain ⟨b2, off2, rfl, -, -⟩ := RL.out.row.pos (by omega) (by decide)
        have x4 := (RL.out.cells hu w5 (Grow.refl _)).2.2.2.2
        have hrq : (runsOf (us ++ vs))[q]? = some r := by rw [← H5.out, List.getElem?_map, hu]; rfl
        have hct := chars_take hrq
        have hcl := chars_le (runsOf (us ++ vs)) (q + 1)
        rw [NC.out, hct] at hcl
        obtain ⟨z, hz⟩ : ∃ z, charsOf ((runsOf (us ++ vs)).take q) = z := ⟨_, rfl⟩
        obtain ⟨y, hy⟩ : ∃ y, r.cs.length = y := ⟨_, rfl⟩
        rw [hz, hy] at hcl
        rw [hy] at x4
        rw [hz]
        have HCT := Lib.hid hct; have HZ := Lib.hid hz; have HY := Lib.hid hy
        clear hu hL6 hrq hct hz hy
        go_wp2
        go_roundw
        case rel => exact ⟨q + 1, by omega, by go_num, by rw [HCT.out, HZ.out, HY.out]; go_num, by first | rfl | trivial⟩
        case measure => simp [intOf]; omega
      · obtain rfl : q = n5 := by omega
        have e9 : charsOf ((runsOf (us ++ vs)).take q) = m + k := by
          rw [List.take_of_length_le, NC.out]
          have h1 := congrArg List.length H5.out
          rw [List.length_map, HN5.out] at h1
          omega
        rw [e9]
        clear e9
        go_wp2_with fail
        refine (clean_any (LA.out.below G5.out (Nat.le_refl _)) (by omega)).mono ?_
        rintro e w6 ⟨A6, n6, c6, rfl, own6, g6⟩
        have G6 := Lib.hid (G5.out.trans g6); have D6 := Lib.hid g6; have O6 := Lib.hid own6
        clear own6 g6
        go_wp2_with fail
        refine (clean_any (LB.out.below G6.out (Nat.le_refl _)) (by omega)).mono ?_
        rintro e w7 ⟨A7, n7, c7, rfl, own7, g7⟩
        have G7 := Lib.hid (G6.out.trans g7); have D7 := Lib.hid (D6.out.trans g7)
        have O67 := Lib.hid (own_grow O6.out g7); have L7 := Lib.hid (Lies.of_own own7)
        have u6 := (Lies.of_own O6.out).uns_len
        have u7 := L7.out.uns_len
        have f6 := List.length_filter_le notNop us
        have f7 := List.length_filter_le notNop vs
        have m1 := NA.out; have m2 := NB.out
        have b67 : (n6 + n7) * 40 ≤ 140737488355328 := by omega
        have SZ := Lib.hid G7.out.size; have S5 := Lib.hid D7.out.size
        clear own7 g7 u6 u7 f6 f7 m1 m2
        go_wp2_with (at_builtin; refine wpList_appU rfl (.tmp 77) (.tmp 79) rfl w5.heap.size _ n6 _ rfl O67.out A7 n7 c7 _ rfl L7.out b67 S5.out ?_; intro A8 c8 w8 own8 L8 bel8; have G8 := Lib.hid (bel8 _ _ G7.out (by have := G5.out.size; omega)); have D8 := Lib.hid (toGrow2 (bel8 _ _ D7.out (Nat.le_refl _))); have LX := Lib.hid L8; clear own8 L8 bel8)
        refine (own_any (LA.out.below G8.out (Nat.le_refl _)) (by omega)).mono ?_
        rintro e w9 ⟨A9, c9, rfl, own9, g9⟩
        have G9 := Lib.hid (Grow.trans G8.out g9); have D9 := Lib.hid (D8.out.trans g9); have E9 := Lib.hid g9; have O9 := Lib.hid own9
        clear own9 g9
        go_wp2_with fail
        refine (own_any (LB.out.below G9.out (Nat.le_refl _)) (by omega)).mono ?_
        rintro e w10 ⟨A10, c10, rfl, own10, g10⟩
        have G10 := Lib.hid (G9.out.trans g10); have D10 := Lib.hid (D9.out.trans g10); have E10 := Lib.hid (E9.out.trans g10)
        have O910 := Lib.hid (own_grow O9.out g10); have L10 := Lib.hid (Lies.of_own own10)
        clear own10 g10
        have hs10 := E10.out.size; have hb10 := G8.out.size; have hb11 := G10.out.size
        go_wp2_with (first
          | (at_builtin; refine wpList_appU rfl (.tmp 82) (.tmp 84) rfl w8.heap.size _ m _ rfl O910.out A10 k c10 _ rfl L10.out (by omega) hs10 ?_; intro A11 c11 w11 own11 L11 bel11; have G11 := Lib.hid (show Grow w w11 from bel11 _ _ G10.out hb10); have E11 := Lib.hid (toGrow2 (bel11 _ _ E10.out (Nat.le_refl _))); have LY := Lib.hid L11; clear own11 L11 bel11))
        have D11 := Lib.hid (D8.out.trans E11.out)
        have LC5 := Lib.hid ((LC.out.below D5.out (Nat.le_refl _)).below D11.out (Nat.le_refl _))
        have bu := growU_bd us; have bv := growU_bd vs
        have N1 := NA.out; have N2 := NB.out
        obtain ⟨s1, hs1⟩ : ∃ s, growU us = s := ⟨_, rfl⟩
        obtain ⟨s2, hs2⟩ : ∃ s, growU vs = s := ⟨_, rfl⟩
        have hs3 : growU (us ++ vs) = s1 + s2 := by rw [growU_app, hs1, hs2]
        have hw : wrap64 (s1 + s2) = s1 + s2 := wrap_in (by omega) (by omega)
        have HS1 := Lib.hid hs1; have HS2 := Lib.hid hs2; have HS3 := Lib.hid hs3; have HW := Lib.hid hw
        clear bu bv N1 N2 hs1 hs2 hs3 hw hs10 hb10 hb11
        refine (grows_any LC5.out WC.out).mono ?_
        rw [HS3.out]
        rintro e w12 ⟨rfl, g12⟩
        have F12 := Lib.hid g12
        clear g12
        go_wp2_with fail
        refine (grows_any (LA.out.below (G11.out.trans F12.out) (Nat.le_refl _)) WA.out).mono ?_
        rw [HS1.out]
        rintro e w13 ⟨rfl, g13⟩
        have F13 := Lib.hid (F12.out.trans g13)
        clear g13
        go_wp2_with fail
        refine (grows_any (LB.out.below (G11.out.trans F13.out) (Nat.le_refl _)) WB.out).mono ?_
        rw [HS2.out]
        rintro e w14 ⟨rfl, g14⟩
        have F14 := Lib.hid (F13.out.trans g14)
        have hw := HW.out
        clear g14
        go_wp2_with fail
        clear hw
        refine (clean_any (LC5.out.below F14.out (Nat.le_refl _)) (by omega)).mono ?_
        rintro e w15 ⟨A15, n15, c15, rfl, own15, g15⟩
        have F15 := Lib.hid (F14.out.trans g15); have L15 := Lib.hid (Lies.of_own own15)
        clear own15 g15
        go_wp2_with fail
        refine (esame_any L15.out (LX.out.below (E11.out.trans F15.out) (Nat.le_refl _))).mono ?_
        rw [show decide ((us ++ vs).filter notNop = us.filter notNop ++ vs.filter notNop) = true by simp]
        rintro e w16 ⟨rfl, g16⟩
        have F16 := Lib.hid (F15.out.trans g16)
        clear g16
        go_wp2_with fail
        refine (esame_any (LY.out.below F16.out (Nat.le_refl _)) (LC5.out.below F16.out (Nat.le_refl _))).mono ?_
        rw [show decide (us ++ vs = us ++ vs) = true by simp]
        rintro e w17 ⟨rfl, g17⟩
        have F17 := Lib.hid (F16.out.trans g17)
        clear g17
        obtain ⟨d, hd⟩ : ∃ d, decide (us = vs) = d := ⟨_, rfl⟩
        have hd2 : decide (vs = us) = d := by rw [← hd]; simp [eq_comm]
        have HD := Lib.hid hd; have HD2 := Lib.hid hd2
        clear hd hd2
        go_wp2_with fail
        refine (esame_any (LA.out.below (G11.out.trans F17.out) (Nat.le_refl _)) (LB.out.below (G11.out.trans F17.out) (Nat.le_refl _))).mono ?_
        rw [HD.out]
        rintro e w18 ⟨rfl, g18⟩
        have F18 := Lib.hid (F17.out.trans g18)
        clear g18
        go_wp2_with fail
        refine (esame_any (LB.out.below (G11.out.trans F18.out) (Nat.le_refl _)) (LA.out.below (G11.out.trans F18.out) (Nat.le_refl _))).mono ?_
        rw [HD2.out]
        rintro e w19 ⟨rfl, g19⟩
        have F19 := Lib.hid (F18.out.trans g19)
        clear g19
        go_wp2_with fail
        refine (esame_any (LC5.out.below F19.out (Nat.le_refl _)) (LC5.out.below F19.out (Nat.le_refl _))).mono ?_
        rw [show decide (us ++ vs = us ++ vs) = true by simp]
        rintro e w20 ⟨rfl, g20⟩
        have F20 := Lib.hid (F19.out.trans g20)
        clear g20
        go_wp2_with fail
        refine wakes8.mono ?_
        rintro e w21 ⟨rfl, g21⟩
        have GF := Lib.hid (G11.out.trans (F20.out.trans g21))
        clear g21
        go_wp2
        go_ret
        exact ⟨rfl, GF.out⟩
end Go.Proofs.Ytfpbmpgdpnpdjaa

