/-
  utf: the walk of UtfBack.
-/
import Derived.Test.YtbphdojjddnljaaDoorWakes
namespace Go.Proofs.YtbphdojjddnljaaDoor
open Go.RowKit
set_option linter.unusedSimpArgs false

theorem sizeI_le (z : Int) : sizeI z ≤ 4 := by
  unfold sizeI
  split
  · exact (szN_bd _).2
  · omega
theorem sizeI_yes {c : Nat} (h : mayI (c : Int) = true) : sizeI (c : Int) = szN c := by unfold sizeI; rw [if_pos h]; simp
theorem encL_step {t : List Nat} {k c : Nat} (h : t[k]? = some c) : (encL (t.take (k + 1))).length = (encL (t.take k)).length + szN c := by rw [encL_snoc h, List.length_append, one_len]
/-- What the loop over a text leaves. -/
def Sized (t : List Nat) (k S : Nat) : Prop := k ≤ t.length → S = (encL (t.take k)).length

set_option maxRecDepth 100000 in
set_option maxHeartbeats 4000000 in
set_option linter.unusedVariables false in
theorem utfback_any {A B : Option Addr} {n ca nb cb : Nat} {zs : List Int} {l : List Nat} {w : World} (hT : Tab w) (hA : Lies w 1 A n ca (chs zs)) (hLB : Lies w 1 B nb cb (byt l)) (hl : ∀ x ∈ l, x < 256) (hn : n ≤ 1048576) (hnb : nb ≤ 1048576) :
    Calls Tryd.prog 4 #[.slice A n ca, .slice B nb cb] w fun e w' => e = .returned (.bool true) ∧ Below w.heap.size w w' := by
  obtain ⟨t, ht, hzs⟩ := text_split zs
  have hla := hA.chs_len
  have hln := hLB.bytes_len
  have hle := hA.le
  have hbig := hA.big
  have hle2 := hLB.le
  have hbig2 := hLB.big
  obtain ⟨p, hp0⟩ : ∃ p, p = t.length := ⟨_, rfl⟩
  have hpn : p ≤ n := by
    rcases hzs with rfl | ⟨x, r, rfl, _⟩
    · rw [upN_len] at hla; omega
    · rw [List.length_append, upN_len] at hla; omega
  have elt : ∀ k, k < n → ∃ z, (chs zs)[k]? = some (Value.int .i32 z) ∧ (k < p → ∃ c : Nat, z = (c : Int) ∧ t[k]? = some c ∧ mayI (c : Int) = true) ∧ (k = p → mayI z = false) := by
    intro k hk
    obtain ⟨z, hz⟩ : ∃ z, zs[k]? = some z := ⟨_, List.getElem?_eq_getElem (by omega)⟩
    refine ⟨z, by simp [chs, hz], fun hkp => ?_, fun hkp => ?_⟩
    · obtain ⟨c, hc⟩ : ∃ c, t[k]? = some c := ⟨_, List.getElem?_eq_getElem (by omega)⟩
      have e : zs[k]? = some (c : Int) := by
        rcases hzs with rfl | ⟨x, r, rfl, _⟩
        · simp [upN, hc]
        · rw [List.getElem?_append_left (by rw [upN_len]; omega)]; simp [upN, hc]
      rw [hz] at e
      injection e with e
      exact ⟨c, e, hc, ht c (List.mem_of_getElem? hc)⟩
    · rcases hzs with rfl | ⟨x, r, rfl, hx⟩
      · rw [upN_len] at hla; omega
      · rw [hkp, hp0, List.getElem?_append_right (by rw [upN_len]; exact Nat.le_refl _), upN_len, Nat.sub_self] at hz
        simp at hz
        rw [← hz]; exact hx
  have HT := Lib.hid hT; have HA := Lib.hid hA; have HLB := Lib.hid hLB; have HB := Lib.hid hl; have HV := Lib.hid ht; have HLA := Lib.hid hla; have HLN := Lib.hid hln; have HP := Lib.hid hp0; have HEL := Lib.hid elt
  clear hT hA hLB hl ht hla hln elt
  by_cases hall : p = n
  · have hz : zs = upN t := by
      rcases hzs with h | ⟨x, r, h, _⟩
      · exact h
      · have := HLA.out; rw [h, List.length_append, upN_len, List.length_cons] at this; omega
    have HZ := Lib.hid hz
    subst hall
    clear hz hzs hp0
    go_enter Tryd.func4, Tryd.ntmps4
    go_wp2_with fail
    refine (enc_yes zs t HT.out HA.out HV.out HZ.out (by omega)).mono ?_
    rintro e w1 ⟨Ax, nx, cx, rfl, own1, g1⟩
    have hnx : nx = (encL t).length := (Lies.of_own own1).bytes_len.symm
    have hnx4 : nx ≤ 4 * p := by have h1 := (encL_len t).2; have h2 := HP.out; omega
    have hlex := (Lies.of_own own1).le
    have hbigx := (Lies.of_own own1).big
    have LX := Lib.hid (Lies.of_own own1); have HNX := Lib.hid hnx; have G1 := Lib.hid g1
    clear own1 g1 hnx
    go_wp2
    go_loopw [7, 8, 9] (fun m s i wr => ∃ (k S : Nat), k ≤ p ∧ i = .int .i64 k ∧ m = .bool true ∧ s = .int .i64 S ∧ S ≤ 4 * k ∧ Hid (Sized t k S) ∧ Grow w1 wr) (fun _ _ i _ => p - (intOf i).toNat)
    case atStart => exact ⟨0, 0, Nat.zero_le _, rfl, rfl, rfl, by omega, fun _ => by simp [encL], Grow.refl _⟩
    case round =>
      obtain ⟨k, S, hk, rfl, rfl, rfl, hS4, hS, hg⟩ := hrel
      by_cases hlt : k < p
      · obtain ⟨z, hz, hc, -⟩ := HEL.out k hlt
        obtain ⟨c, rfl, hc, hmc⟩ := hc hlt
        obtain ⟨g, off, rfl, hgs, hcell⟩ := HA.out.pos (by omega) (by decide)
        have h2 := grow_cell (hcell k _ hz) (G1.out.trans hg)
        have hst := encL_step hc
        have hS2 := hS.out (by have := HP.out; omega)
        rw [← hS2] at hst
        have hsz := sizeI_yes hmc
        have hsb := szN_bd c
        obtain ⟨q, hq⟩ : ∃ q, szN c = q := ⟨_, rfl⟩
        rw [hq] at hst hsz hsb
        have HST := Lib.hid hst; have HMC := Lib.hid hmc; have HSZ := Lib.hid hsz
        clear hz hc hcell hst hS2 hmc hq hsz
        go_wp2_with fail
        refine (may_at true HMC.out).mono ?_
        rintro e w2 ⟨rfl, rfl⟩
        go_wp2_with fail
        refine (size_any (HT.out.same (G1.out.trans hg))).mono ?_
        rw [HSZ.out]
        rintro e w2 ⟨rfl, g2⟩
        have hg2 := hg.trans g2
        clear g2 hg h2
        go_wp2
        go_roundw
        case rel => exact ⟨k + 1, S + q, by omega, by go_num, rfl, by go_num, by omega, fun _ => HST.out.symm, hg2⟩
        case measure => simp [intOf]; omega
      · obtain rfl : k = p := by omega
        have hS2 : S = nx := by
          have h1 := hS.out (by have := HP.out; omega)
          rw [List.take_of_length_le (by have := HP.out; omega)] at h1
          rw [h1, HNX.out]
        subst hS2
        have G2 := Lib.hid (G1.out.trans hg); have GX := Lib.hid hg
        have hre := read_enc HV.out
        have hde : decE (encL t) = 0 ∧ decT (encL t) = t := by
          unfold decE decT
          rw [hre.2, if_neg (Nat.lt_irrefl _), if_neg (Nat.lt_irrefl _), hre.1]
          exact ⟨rfl, rfl⟩
        have hwe : (readN (encL t) : Int) = (S : Int) := by rw [hre.2, HNX.out]
        have HDE := Lib.hid hde; have HWE := Lib.hid hwe
        clear hg hre hde hwe
        go_wp2_with fail
        refine (decode_at (encL t) 0 t (by rw [HDE.out.1]; rfl) HDE.out.2 (HT.out.same G2.out) (LX.out.below GX.out (Nat.le_refl _)) (encL_bytes HV.out) (by omega)).mono ?_
        rintro e w3 ⟨A3, m3, c3, rfl, own3, g3⟩
        have L3 := Lib.hid (Lies.of_own own3)
        have G3 := Lib.hid (G2.out.trans g3); have GX3 := Lib.hid (GX.out.trans g3)
        clear own3 g3
        go_wp2_with fail
        refine (same_at true (by rw [HZ.out]; simp) L3.out (HA.out.below G3.out (Nat.le_refl _))).mono ?_
        rintro e w4 ⟨rfl, g4⟩
        have G4 := Lib.hid (G3.out.trans g4); have GX4 := Lib.hid (GX3.out.trans g4)
        clear g4
        go_wp2_with fail
        refine (whole_at (encL t) S HWE.out (HT.out.same G4.out) (LX.out.below GX4.out (Nat.le_refl _)) (encL_bytes HV.out) (by omega)).mono ?_
        rintro e w5 ⟨rfl, g5⟩
        have G9 := Lib.hid (G4.out.trans g5)
        clear g5
        go_wp2_with fail
        by_cases hdec : readN l < nb
        · refine (decode_at l 21 [] (by rw [decE, if_pos (by rw [HLN.out]; exact hdec)]; rfl) (by rw [decT, if_pos (by rw [HLN.out]; exact hdec)]) (HT.out.same G9.out) (HLB.out.below G9.out (Nat.le_refl _)) HB.out (by omega)).mono ?_
          rintro e w10 ⟨A10, m10, c10, rfl, own10, g10⟩
          have hz : m10 = 0 := by have := (Lies.of_own own10).chs_len; rw [upN_len] at this; simpa using this.symm
          subst hz
          have G10 := Lib.hid (G9.out.trans g10)
          obtain ⟨R, hR⟩ : ∃ R, readN l = R := ⟨_, rfl⟩
          rw [hR] at hdec
          have HR := Lib.hid hR
          clear own10 g10 hR
          go_wp2_with fail
          refine (whole_at l R (by rw [HR.out]) (HT.out.same G10.out) (HLB.out.below G10.out (Nat.le_refl _)) HB.out (by omega)).mono ?_
          rintro e w11 ⟨rfl, g11⟩
          have G11 := Lib.hid (G10.out.trans g11)
          clear g11
          go_wp2_with fail
          refine (wakes_any (HT.out.same G11.out)).mono ?_
          rintro e w12 ⟨rfl, g12⟩
          have G12 := Lib.hid (G11.out.trans g12)
          clear g12
          go_wp2
          go_ret
          exact ⟨rfl, G12.out⟩
        · have hnd : ¬ readN l < l.length := by rw [HLN.out]; exact hdec
          refine (decode_at l 0 (readT l) (by rw [decE, if_neg hnd]; rfl) (by rw [decT, if_neg hnd]) (HT.out.same G9.out) (HLB.out.below G9.out (Nat.le_refl _)) HB.out (by omega)).mono ?_
          rintro e w10 ⟨A10, m10, c10, rfl, own10, g10⟩
          have hm10 : m10 ≤ nb := by
            have h1 := (Lies.of_own own10).chs_len
            rw [upN_len] at h1
            have h2 := readT_len l
            rw [HLN.out] at h2
            omega
          have hle10 := (Lies.of_own own10).le
          have hbig10 := (Lies.of_own own10).big
          have L10 := Lib.hid (Lies.of_own own10)
          have G10 := Lib.hid (G9.out.trans g10)
          have HE := Lib.hid (read_all hnd)
          clear own10 g10 hnd hdec
          go_wp2_with fail
          refine (enc_yes (upN (readT l)) (readT l) (HT.out.same G10.out) L10.out (readT_valid l) rfl (by omega)).mono ?_
          rw [← HE.out]
          rintro e w11 ⟨A11, m11, c11, rfl, own11, g11⟩
          have G11 := Lib.hid (G10.out.trans g11)
          have v1 := conv_bytes (Lies.of_own own11)
          have v2 := conv_bytes (HLB.out.below G11.out (Nat.le_refl _))
          clear own11 g11
          go_wp2_with fail
          refine (wakes_any (HT.out.same G11.out)).mono ?_
          rintro e w12 ⟨rfl, g12⟩
          have G12 := Lib.hid (G11.out.trans g12)
          clear g12
          go_wp2
          go_ret
          exact ⟨rfl, G12.out⟩
  · have hpl : p < n := by omega
    obtain ⟨x, r, hz, hx⟩ : ∃ x r, zs = upN t ++ x :: r ∧ mayI x = false := by
      rcases hzs with h | h
      · have := HLA.out; rw [h, upN_len] at this; omega
      · exact h
    have HZ := Lib.hid hz; have HXX := Lib.hid hx
    clear hz hzs hx hp0 hall
    go_enter Tryd.func4, Tryd.ntmps4
    go_wp2_with fail
    refine (enc_no zs t x r HT.out HA.out HV.out HZ.out HXX.out (by omega)).mono ?_
    rintro e w1 ⟨rfl, g1⟩
    have G1 := Lib.hid g1
    clear g1
    go_wp2
    go_loopw [7, 8, 9] (fun m s i wr => ∃ (k S : Nat) (o : Bool), k ≤ n ∧ i = .int .i64 k ∧ m = .bool o ∧ s = .int .i64 S ∧ S ≤ 4 * k ∧ Hid (o = decide (k ≤ p)) ∧ Grow w1 wr) (fun _ _ i _ => n - (intOf i).toNat)
    case atStart => exact ⟨0, 0, true, Nat.zero_le _, rfl, rfl, rfl, by omega, by simp [Hid], Grow.refl _⟩
    case round =>
      obtain ⟨k, S, o, hk, rfl, rfl, rfl, hS4, ho, hg⟩ := hrel
      by_cases hlt : k < n
      · obtain ⟨z, hz, hc, hcp⟩ := HEL.out k hlt
        obtain ⟨g, off, rfl, hgs, hcell⟩ := HA.out.pos (by omega) (by decide)
        have h2 := grow_cell (hcell k _ hz) (G1.out.trans hg)
        obtain ⟨q, hq⟩ : ∃ q, sizeI z = q := ⟨_, rfl⟩
        have hsb := sizeI_le z
        rw [hq] at hsb
        have HQ := Lib.hid hq
        obtain ⟨o2, ho2⟩ : ∃ o2, mayI z = o2 := ⟨_, rfl⟩
        have key : (o && o2) = decide (k + 1 ≤ p) := by
          rw [ho.out, ← ho2]
          rcases Nat.lt_trichotomy k p with h | h | h
          · obtain ⟨c, rfl, _, hm⟩ := hc h
            rw [hm]; simp; omega
          · rw [hcp h]; simp; omega
          · have e1 : decide (k ≤ p) = false := by simp; omega
            have e2 : decide (k + 1 ≤ p) = false := by simp; omega
            rw [e1, e2]; rfl
        have HO2 := Lib.hid ho2; have KEY := Lib.hid key
        clear hz hc hcp hcell hq ho2 key ho
        cases o with
        | true =>
          have k2 := Lib.hid (show o2 = decide (k + 1 ≤ p) by have := KEY.out; rwa [Bool.true_and] at this)
          go_wp2_with fail
          refine (may_at o2 HO2.out).mono ?_
          rintro e w2 ⟨rfl, rfl⟩
          go_wp2_with fail
          refine (size_any (HT.out.same (G1.out.trans hg))).mono ?_
          rw [HQ.out]
          rintro e w2 ⟨rfl, g2⟩
          have hg2 := hg.trans g2
          clear g2 hg h2
          go_wp2
          go_roundw
          case rel => exact ⟨k + 1, S + q, o2, by omega, by go_num, rfl, by go_num, by omega, k2, hg2⟩
          case measure => simp [intOf]; omega
        | false =>
          have k2 := Lib.hid (show false = decide (k + 1 ≤ p) by have := KEY.out; rwa [Bool.false_and] at this)
          go_wp2_with fail
          refine (size_any (HT.out.same (G1.out.trans hg))).mono ?_
          rw [HQ.out]
          rintro e w2 ⟨rfl, g2⟩
          have hg2 := hg.trans g2
          clear g2 hg h2
          go_wp2
          go_roundw
          case rel => exact ⟨k + 1, S + q, false, by omega, by go_num, rfl, by go_num, by omega, k2, hg2⟩
          case measure => simp [intOf]; omega
      · obtain rfl : k = n := by omega
        obtain rfl : o = false := by rw [ho.out]; simp; omega
        have G9 := Lib.hid (G1.out.trans hg)
        clear hg ho
        go_wp2_with fail
        by_cases hdec : readN l < nb
        · refine (decode_at l 21 [] (by rw [decE, if_pos (by rw [HLN.out]; exact hdec)]; rfl) (by rw [decT, if_pos (by rw [HLN.out]; exact hdec)]) (HT.out.same G9.out) (HLB.out.below G9.out (Nat.le_refl _)) HB.out (by omega)).mono ?_
          rintro e w10 ⟨A10, m10, c10, rfl, own10, g10⟩
          have hz : m10 = 0 := by have := (Lies.of_own own10).chs_len; rw [upN_len] at this; simpa using this.symm
          subst hz
          have G10 := Lib.hid (G9.out.trans g10)
          obtain ⟨R, hR⟩ : ∃ R, readN l = R := ⟨_, rfl⟩
          rw [hR] at hdec
          have HR := Lib.hid hR
          clear own10 g10 hR
          go_wp2_with fail
          refine (whole_at l R (by rw [HR.out]) (HT.out.same G10.out) (HLB.out.below G10.out (Nat.le_refl _)) HB.out (by omega)).mono ?_
          rintro e w11 ⟨rfl, g11⟩
          have G11 := Lib.hid (G10.out.trans g11)
          clear g11
          go_wp2_with fail
          refine (wakes_any (HT.out.same G11.out)).mono ?_
          rintro e w12 ⟨rfl, g12⟩
          have G12 := Lib.hid (G11.out.trans g12)
          clear g12
          go_wp2
          go_ret
          exact ⟨rfl, G12.out⟩
        · have hnd : ¬ readN l < l.length := by rw [HLN.out]; exact hdec
          refine (decode_at l 0 (readT l) (by rw [decE, if_neg hnd]; rfl) (by rw [decT, if_neg hnd]) (HT.out.same G9.out) (HLB.out.below G9.out (Nat.le_refl _)) HB.out (by omega)).mono ?_
          rintro e w10 ⟨A10, m10, c10, rfl, own10, g10⟩
          have hm10 : m10 ≤ nb := by
            have h1 := (Lies.of_own own10).chs_len
            rw [upN_len] at h1
            have h2 := readT_len l
            rw [HLN.out] at h2
            omega
          have hle10 := (Lies.of_own own10).le
          have hbig10 := (Lies.of_own own10).big
          have L10 := Lib.hid (Lies.of_own own10)
          have G10 := Lib.hid (G9.out.trans g10)
          have HE := Lib.hid (read_all hnd)
          clear own10 g10 hnd hdec
          go_wp2_with fail
          refine (enc_yes (upN (readT l)) (readT l) (HT.out.same G10.out) L10.out (readT_valid l) rfl (by omega)).mono ?_
          rw [← HE.out]
          rintro e w11 ⟨A11, m11, c11, rfl, own11, g11⟩
          have G11 := Lib.hid (G10.out.trans g11)
          have v1 := conv_bytes (Lies.of_own own11)
          have v2 := conv_bytes (HLB.out.below G11.out (Nat.le_refl _))
          clear own11 g11
          go_wp2_with fail
          refine (wakes_any (HT.out.same G11.out)).mono ?_
          rintro e w12 ⟨rfl, g12⟩
          have G12 := Lib.hid (G11.out.trans g12)
          clear g12
          go_wp2
          go_ret
          exact ⟨rfl, G12.out⟩
end Go.Proofs.YtbphdojjddnljaaDoor

