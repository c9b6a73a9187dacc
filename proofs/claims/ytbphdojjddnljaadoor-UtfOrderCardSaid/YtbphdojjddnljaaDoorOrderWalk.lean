/-
  utf: the walk of UtfOrder.
-/
import Derived.Test.YtbphdojjddnljaaDoorFit
namespace Go.Proofs.YtbphdojjddnljaaDoor
open Go.RowKit
set_option linter.unusedSimpArgs false

set_option maxRecDepth 100000 in
set_option maxHeartbeats 4000000 in
set_option linter.unusedVariables false in
theorem utforder_any {A B : Option Addr} {n ca m cb : Nat} {zs us : List Int} {w : World} (hTb : Tab w) (hA : Lies w 1 A n ca (chs zs)) (hB : Lies w 1 B m cb (chs us)) (hn : ca * 4 ≤ 140737488351232) (hm : cb * 4 ≤ 140737488351232) :
    Calls Tryd.prog 5 #[.slice A n ca, .slice B m cb] w fun e w' => e = .returned (.bool true) ∧ Below w.heap.size w w' := by
  have hle := hA.le
  have hbig := hA.big
  have hle2 := hB.le
  have hbig2 := hB.big
  have HTB := Lib.hid hTb; have HA := Lib.hid hA; have HB := Lib.hid hB
  clear hTb hA hB
  go_enter Tryd.func5, Tryd.ntmps5
  go_wp2_with fail
  refine (fit_any HA.out hn).mono ?_
  rintro e w1 ⟨s, As, cs, rfl, hsl, hs, own1, g1⟩
  have LS1 := Lib.hid (Lies.of_own own1); have HS := Lib.hid hs; have HSL := Lib.hid hsl; have G1 := Lib.hid g1
  clear own1 hs hsl g1
  go_wp2_with fail
  refine (fit_any (HB.out.below G1.out (Nat.le_refl _)) hm).mono ?_
  rintro e w2 ⟨t, At', ct, rfl, htl, ht, own2, g2⟩
  have LT2 := Lib.hid (Lies.of_own own2); have HT2 := Lib.hid ht; have HTL := Lib.hid htl; have G2 := Lib.hid (G1.out.trans g2)
  have LS2 := Lib.hid (LS1.out.below g2 (Nat.le_refl _))
  clear own2 ht htl g2
  go_wp2_with fail
  refine (enc_yes (upN s) s (HTB.out.same G2.out) LS2.out HS.out rfl (by omega)).mono ?_
  rintro e w3 ⟨Ax, nx, cx, rfl, own3, g3⟩
  have LX3 := Lib.hid (Lies.of_own own3); have G3 := Lib.hid (G2.out.trans g3)
  have LT3 := Lib.hid (LT2.out.below g3 (Nat.le_refl _))
  have LS3 := Lib.hid (LS2.out.below g3 (Nat.le_refl _))
  clear own3 g3
  go_wp2_with fail
  refine (enc_yes (upN t) t (HTB.out.same G3.out) LT3.out HT2.out rfl (by omega)).mono ?_
  rintro e w4 ⟨Ay, ny, cy, rfl, own4, g4⟩
  have LY := Lib.hid (Lies.of_own own4); have G0 := Lib.hid (G3.out.trans g4)
  have LT := Lib.hid (LT3.out.below g4 (Nat.le_refl _))
  have LS := Lib.hid (LS3.out.below g4 (Nat.le_refl _))
  have LX := Lib.hid (LX3.out.below g4 (Nat.le_refl _))
  have ls1 := LS.out.le
  have ls2 := LS.out.big
  have lt1 := LT.out.le
  have lt2 := LT.out.big
  clear own4 g4
  obtain ⟨less, hless⟩ : ∃ b, decide ((n : Int) < (m : Int)) = b := ⟨_, rfl⟩
  have hless2 : decide (n < m) = less := by rw [← hless]; simp
  have HLS := Lib.hid (show decide (n < m) = less from hless2)
  go_wp2
  go_loopw [10, 11] (fun b i wr => ∃ k : Nat, k ≤ n ∧ k ≤ m ∧ i = .int .i64 k ∧ b = .bool less ∧ Hid (s.take k = t.take k) ∧ Grow w4 wr) (fun _ i _ => n - (intOf i).toNat)
  case atStart => exact ⟨0, Nat.zero_le _, Nat.zero_le _, rfl, rfl, by simp [Hid], Grow.refl _⟩
  case round =>
    obtain ⟨k, hk, hk2, rfl, rfl, htk, hgw⟩ := hrel
    by_cases hlt : k < n
    · by_cases hlt2 : k < m
      · obtain ⟨g1, o1, rfl, hgs1, hc1⟩ := LS.out.pos (by omega) (by decide)
        obtain ⟨g2, o2, rfl, hgs2, hc2⟩ := LT.out.pos (by omega) (by decide)
        obtain ⟨c, hc⟩ : ∃ c, s[k]? = some c := ⟨_, List.getElem?_eq_getElem (by have := HSL.out; omega)⟩
        obtain ⟨d, hd⟩ : ∃ d, t[k]? = some d := ⟨_, List.getElem?_eq_getElem (by have := HTL.out; omega)⟩
        have q1 := hc1 k (.int .i32 (c : Int)) (by simp [chs, upN, hc])
        have q2 := hc2 k (.int .i32 (d : Int)) (by simp [chs, upN, hd])
        have r1 : ∀ W : World, Grow wr W → W.cell? ⟨g1, o1 + k, none⟩ = some (.int .i32 (c : Int)) := fun W h => grow_cell q1 (hgw.trans h)
        have r2 : ∀ W : World, Grow wr W → W.cell? ⟨g2, o2 + k, none⟩ = some (.int .i32 (d : Int)) := fun W h => grow_cell q2 (hgw.trans h)
        have i0 : (0 : Int) ≤ (k : Int) := by omega
        have i1 : (k : Int) < (n : Int) := by omega
        have i2 : (k : Int) < (m : Int) := by omega
        by_cases hcd : c = d
        · have e1 : ((c : Int) != (d : Int)) = false := by simp [hcd]
          have ht : s.take (k + 1) = t.take (k + 1) := by rw [List.take_add_one, List.take_add_one, htk.out, hc, hd, hcd]
          have HTT := Lib.hid ht
          clear hc1 hc2 q1 q2 hc hd hcd ht
          go_wp2_with fail
          refine Chain.start Nat (by kernel_rfl) (by kernel_rfl) (fun hg => ?_)
          repeat (first | (refine Chain.skip hg (fun t => by rfl) ?_; simp only [Act.put, List.setIfInBounds_toArray, List.set_cons_zero, List.set_cons_succ]) | (refine Chain.pure hg (X := ?_) (fun t W hw hN => ⟨by rfl, ?_⟩) ?_; rotate_left; (focus (go_simp <;> with_reducible rfl)); simp only [Act.put, List.setIfInBounds_toArray, List.set_cons_zero, List.set_cons_succ]))
          refine Chain.done (fun t9 W hw hN => ?_)
          clear hN hg r1 r2
          have hgW := hgw.trans hw
          go_wp2
          go_roundw
          case rel => exact ⟨k + 1, by omega, by omega, by go_num, rfl, HTT, hgW⟩
          case measure => simp [intOf]; omega
        · have e1 : ((c : Int) != (d : Int)) = true := by simp; omega
          obtain ⟨lb, hlb⟩ : ∃ b, decide ((c : Int) < (d : Int)) = b := ⟨_, rfl⟩
          have hlb2 : decide (c < d) = lb := by rw [← hlb]; simp
          have hod := order_diff HS.out HT2.out htk.out hc hd hcd
          rw [hlb2] at hod
          have HOD := Lib.hid hod
          clear hc1 hc2 q1 q2 hc hd hcd hod
          go_wp2_with fail
          refine Chain.start Nat (by kernel_rfl) (by kernel_rfl) (fun hg => ?_)
          repeat (first | (refine Chain.skip hg (fun t => by rfl) ?_; simp only [Act.put, List.setIfInBounds_toArray, List.set_cons_zero, List.set_cons_succ]) | (refine Chain.pure hg (X := ?_) (fun t W hw hN => ⟨by rfl, ?_⟩) ?_; rotate_left; (focus (go_simp <;> with_reducible rfl)); simp only [Act.put, List.setIfInBounds_toArray, List.set_cons_zero, List.set_cons_succ]))
          refine Chain.done (fun t9 W hw hN => ?_)
          have r3 : ∀ V : World, Grow W V → V.cell? ⟨g1, o1 + k, none⟩ = some (.int .i32 (c : Int)) := fun V h => r1 V (hw.trans h)
          have r4 : ∀ V : World, Grow W V → V.cell? ⟨g2, o2 + k, none⟩ = some (.int .i32 (d : Int)) := fun V h => r2 V (hw.trans h)
          have hgW := hgw.trans hw
          clear hN hg r1 r2 hw
          go_wp2_with fail
          refine Chain.start Nat (by kernel_rfl) (by kernel_rfl) (fun hg => ?_)
          repeat (first | (refine Chain.skip hg (fun t => by rfl) ?_; simp only [Act.put, List.setIfInBounds_toArray, List.set_cons_zero, List.set_cons_succ]) | (refine Chain.pure hg (X := ?_) (fun t W hw hN => ⟨by rfl, ?_⟩) ?_; rotate_left; (focus (go_simp <;> with_reducible rfl)); simp only [Act.put, List.setIfInBounds_toArray, List.set_cons_zero, List.set_cons_succ]))
          refine Chain.done (fun t8 W2 hw hN => ?_)
          have hgW2 := hgW.trans hw
          clear hN hg r3 r4 hw hgW hgw
          have hgw := hgW2
          have hlx := HOD.out.1
          have heq : decide (encL s = encL t) = decide (upN s = upN t) := by rw [HOD.out.2.1, HOD.out.2.2]
          obtain ⟨d1, hd1⟩ : ∃ d, d = decide (encL s = encL t) := ⟨_, rfl⟩
          have hsm : decide (upN s = upN t) = d1 := by rw [hd1, heq]
          have sl := str_lex (encL_bytes HS.out) (encL_bytes HT2.out)
          rw [hlx] at sl
          have se := str_eq (encL_bytes HS.out) (encL_bytes HT2.out)
          rw [← hd1] at se
          have v1 : ∀ W : World, Grow W2 W → (convert 23 9 (.slice Ax nx cx)).run Tryd.prog W = .ok (.string (str (encL s))) W := fun W h => conv_bytes (LX.out.below (hgw.trans h) (Nat.le_refl _))
          have v2 : ∀ W : World, Grow W2 W → (convert 23 9 (.slice Ay ny cy)).run Tryd.prog W = .ok (.string (str (encL t))) W := fun W h => conv_bytes (LY.out.below (hgw.trans h) (Nat.le_refl _))
          have bb : (d1 == d1) = true := by simp
          have HSM := Lib.hid hsm
          have GW := Lib.hid hgw
          clear hd1 hlx heq hsm
          go_wp2_with fail
          refine Chain.start Nat (by kernel_rfl) (by kernel_rfl) (fun hg => ?_)
          repeat (first | (refine Chain.skip hg (fun t => by rfl) ?_; simp only [Act.put, List.setIfInBounds_toArray, List.set_cons_zero, List.set_cons_succ]) | (refine Chain.pure hg (X := ?_) (fun t W hw hN => ⟨by rfl, ?_⟩) ?_; rotate_left; (focus (go_simp <;> with_reducible rfl)); simp only [Act.put, List.setIfInBounds_toArray, List.set_cons_zero, List.set_cons_succ]))
          refine Chain.grow hg (fun _ => .bool d1) (fun _ _ => True) (fun _ _ _ h _ => h) (fun _ => by rfl) (fun t W hw hN K hK => ?_) ?_
          · go_simp; refine (same_at d1 HSM.out (LS.out.below (GW.out.trans hw) (Nat.le_refl _)) (LT.out.below (GW.out.trans hw) (Nat.le_refl _))).mono ?_; rintro e w9 ⟨rfl, g9⟩; exact hK.out default _ g9 trivial
          simp only [Act.put, List.setIfInBounds_toArray, List.set_cons_zero, List.set_cons_succ]
          repeat (first | (refine Chain.skip hg (fun t => by rfl) ?_; simp only [Act.put, List.setIfInBounds_toArray, List.set_cons_zero, List.set_cons_succ]) | (refine Chain.pure hg (X := ?_) (fun t W hw hN => ⟨by rfl, ?_⟩) ?_; rotate_left; (focus (go_simp <;> with_reducible rfl)); simp only [Act.put, List.setIfInBounds_toArray, List.set_cons_zero, List.set_cons_succ]))
          refine Chain.grow hg (fun _ => .bool true) (fun _ _ => True) (fun _ _ _ h _ => h) (fun _ => by rfl) (fun t W hw hN K hK => ?_) ?_
          · go_simp; refine (wakes_any (HTB.out.same (G0.out.trans (GW.out.trans hw)))).mono ?_; rintro e w9 ⟨rfl, g9⟩; exact hK.out default _ g9 trivial
          simp only [Act.put, List.setIfInBounds_toArray, List.set_cons_zero, List.set_cons_succ]
          repeat (first | (refine Chain.skip hg (fun t => by rfl) ?_; simp only [Act.put, List.setIfInBounds_toArray, List.set_cons_zero, List.set_cons_succ]) | (refine Chain.pure hg (X := ?_) (fun t W hw hN => ⟨by rfl, ?_⟩) ?_; rotate_left; (focus (go_simp <;> with_reducible rfl)); simp only [Act.put, List.setIfInBounds_toArray, List.set_cons_zero, List.set_cons_succ]))
          refine Chain.done (fun t9 W hw hN => ?_)
          clear hN hg v1 v2
          have G9 := Lib.hid (G0.out.trans (GW.out.trans hw))
          clear hw
          go_wp2
          go_ret
          exact ⟨rfl, G9.out⟩
      · obtain rfl : k = m := by omega
        have hoe := order_end HS.out HT2.out htk.out (.inr ⟨HTL.out.symm, by rw [HSL.out]; exact hk⟩)
        rw [HSL.out, HTL.out, HLS.out] at hoe
        have hlx := hoe.1
        have heq := hoe.2
        clear hoe
        obtain ⟨d1, hd1⟩ : ∃ d, d = decide (encL s = encL t) := ⟨_, rfl⟩
        have hsm : decide (upN s = upN t) = d1 := by rw [hd1, heq]
        have sl := str_lex (encL_bytes HS.out) (encL_bytes HT2.out)
        rw [hlx] at sl
        have se := str_eq (encL_bytes HS.out) (encL_bytes HT2.out)
        rw [← hd1] at se
        have v1 : ∀ W : World, Grow wr W → (convert 23 9 (.slice Ax nx cx)).run Tryd.prog W = .ok (.string (str (encL s))) W := fun W h => conv_bytes (LX.out.below (hgw.trans h) (Nat.le_refl _))
        have v2 : ∀ W : World, Grow wr W → (convert 23 9 (.slice Ay ny cy)).run Tryd.prog W = .ok (.string (str (encL t))) W := fun W h => conv_bytes (LY.out.below (hgw.trans h) (Nat.le_refl _))
        have bb : (d1 == d1) = true := by simp
        have HSM := Lib.hid hsm
        have GW := Lib.hid hgw
        clear hd1 hlx heq hsm
        go_wp2_with fail
        refine Chain.start Nat (by kernel_rfl) (by kernel_rfl) (fun hg => ?_)
        repeat (first | (refine Chain.skip hg (fun t => by rfl) ?_; simp only [Act.put, List.setIfInBounds_toArray, List.set_cons_zero, List.set_cons_succ]) | (refine Chain.pure hg (X := ?_) (fun t W hw hN => ⟨by rfl, ?_⟩) ?_; rotate_left; (focus (go_simp <;> with_reducible rfl)); simp only [Act.put, List.setIfInBounds_toArray, List.set_cons_zero, List.set_cons_succ]))
        refine Chain.grow hg (fun _ => .bool d1) (fun _ _ => True) (fun _ _ _ h _ => h) (fun _ => by rfl) (fun t W hw hN K hK => ?_) ?_
        · go_simp; refine (same_at d1 HSM.out (LS.out.below (GW.out.trans hw) (Nat.le_refl _)) (LT.out.below (GW.out.trans hw) (Nat.le_refl _))).mono ?_; rintro e w9 ⟨rfl, g9⟩; exact hK.out default _ g9 trivial
        simp only [Act.put, List.setIfInBounds_toArray, List.set_cons_zero, List.set_cons_succ]
        repeat (first | (refine Chain.skip hg (fun t => by rfl) ?_; simp only [Act.put, List.setIfInBounds_toArray, List.set_cons_zero, List.set_cons_succ]) | (refine Chain.pure hg (X := ?_) (fun t W hw hN => ⟨by rfl, ?_⟩) ?_; rotate_left; (focus (go_simp <;> with_reducible rfl)); simp only [Act.put, List.setIfInBounds_toArray, List.set_cons_zero, List.set_cons_succ]))
        refine Chain.grow hg (fun _ => .bool true) (fun _ _ => True) (fun _ _ _ h _ => h) (fun _ => by rfl) (fun t W hw hN K hK => ?_) ?_
        · go_simp; refine (wakes_any (HTB.out.same (G0.out.trans (GW.out.trans hw)))).mono ?_; rintro e w9 ⟨rfl, g9⟩; exact hK.out default _ g9 trivial
        simp only [Act.put, List.setIfInBounds_toArray, List.set_cons_zero, List.set_cons_succ]
        repeat (first | (refine Chain.skip hg (fun t => by rfl) ?_; simp only [Act.put, List.setIfInBounds_toArray, List.set_cons_zero, List.set_cons_succ]) | (refine Chain.pure hg (X := ?_) (fun t W hw hN => ⟨by rfl, ?_⟩) ?_; rotate_left; (focus (go_simp <;> with_reducible rfl)); simp only [Act.put, List.setIfInBounds_toArray, List.set_cons_zero, List.set_cons_succ]))
        refine Chain.done (fun t9 W hw hN => ?_)
        clear hN hg v1 v2
        have G9 := Lib.hid (G0.out.trans (GW.out.trans hw))
        clear hw
        go_wp2
        go_ret
        exact ⟨rfl, G9.out⟩
    · obtain rfl : k = n := by omega
      have hoe := order_end HS.out HT2.out htk.out (.inl ⟨HSL.out.symm, by rw [HTL.out]; exact hk2⟩)
      rw [HSL.out, HTL.out, HLS.out] at hoe
      have hlx := hoe.1
      have heq := hoe.2
      clear hoe
      obtain ⟨d1, hd1⟩ : ∃ d, d = decide (encL s = encL t) := ⟨_, rfl⟩
      have hsm : decide (upN s = upN t) = d1 := by rw [hd1, heq]
      have sl := str_lex (encL_bytes HS.out) (encL_bytes HT2.out)
      rw [hlx] at sl
      have se := str_eq (encL_bytes HS.out) (encL_bytes HT2.out)
      rw [← hd1] at se
      have v1 : ∀ W : World, Grow wr W → (convert 23 9 (.slice Ax nx cx)).run Tryd.prog W = .ok (.string (str (encL s))) W := fun W h => conv_bytes (LX.out.below (hgw.trans h) (Nat.le_refl _))
      have v2 : ∀ W : World, Grow wr W → (convert 23 9 (.slice Ay ny cy)).run Tryd.prog W = .ok (.string (str (encL t))) W := fun W h => conv_bytes (LY.out.below (hgw.trans h) (Nat.le_refl _))
      have bb : (d1 == d1) = true := by simp
      have HSM := Lib.hid hsm
      have GW := Lib.hid hgw
      clear hd1 hlx heq hsm
      go_wp2_with fail
      refine Chain.start Nat (by kernel_rfl) (by kernel_rfl) (fun hg => ?_)
      repeat (first | (refine Chain.skip hg (fun t => by rfl) ?_; simp only [Act.put, List.setIfInBounds_toArray, List.set_cons_zero, List.set_cons_succ]) | (refine Chain.pure hg (X := ?_) (fun t W hw hN => ⟨by rfl, ?_⟩) ?_; rotate_left; (focus (go_simp <;> with_reducible rfl)); simp only [Act.put, List.setIfInBounds_toArray, List.set_cons_zero, List.set_cons_succ]))
      refine Chain.grow hg (fun _ => .bool d1) (fun _ _ => True) (fun _ _ _ h _ => h) (fun _ => by rfl) (fun t W hw hN K hK => ?_) ?_
      · go_simp; refine (same_at d1 HSM.out (LS.out.below (GW.out.trans hw) (Nat.le_refl _)) (LT.out.below (GW.out.trans hw) (Nat.le_refl _))).mono ?_; rintro e w9 ⟨rfl, g9⟩; exact hK.out default _ g9 trivial
      simp only [Act.put, List.setIfInBounds_toArray, List.set_cons_zero, List.set_cons_succ]
      repeat (first | (refine Chain.skip hg (fun t => by rfl) ?_; simp only [Act.put, List.setIfInBounds_toArray, List.set_cons_zero, List.set_cons_succ]) | (refine Chain.pure hg (X := ?_) (fun t W hw hN => ⟨by rfl, ?_⟩) ?_; rotate_left; (focus (go_simp <;> with_reducible rfl)); simp only [Act.put, List.setIfInBounds_toArray, List.set_cons_zero, List.set_cons_succ]))
      refine Chain.grow hg (fun _ => .bool true) (fun _ _ => True) (fun _ _ _ h _ => h) (fun _ => by rfl) (fun t W hw hN K hK => ?_) ?_
      · go_simp; refine (wakes_any (HTB.out.same (G0.out.trans (GW.out.trans hw)))).mono ?_; rintro e w9 ⟨rfl, g9⟩; exact hK.out default _ g9 trivial
      simp only [Act.put, List.setIfInBounds_toArray, List.set_cons_zero, List.set_cons_succ]
      repeat (first | (refine Chain.skip hg (fun t => by rfl) ?_; simp only [Act.put, List.setIfInBounds_toArray, List.set_cons_zero, List.set_cons_succ]) | (refine Chain.pure hg (X := ?_) (fun t W hw hN => ⟨by rfl, ?_⟩) ?_; rotate_left; (focus (go_simp <;> with_reducible rfl)); simp only [Act.put, List.setIfInBounds_toArray, List.set_cons_zero, List.set_cons_succ]))
      refine Chain.done (fun t9 W hw hN => ?_)
      clear hN hg v1 v2
      have G9 := Lib.hid (G0.out.trans (GW.out.trans hw))
      clear hw
      go_wp2
      go_ret
      exact ⟨rfl, G9.out⟩
end Go.Proofs.YtbphdojjddnljaaDoor

