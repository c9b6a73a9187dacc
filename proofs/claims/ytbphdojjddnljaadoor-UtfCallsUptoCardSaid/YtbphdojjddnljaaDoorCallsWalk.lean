/-
  utf: the walk of UtfCalls.
-/
import Derived.Test.YtbphdojjddnljaaDoorRefDec
namespace Go.Proofs.YtbphdojjddnljaaDoor
open Go.RowKit
set_option linter.unusedSimpArgs false

/-- What both Encodes give of a text. -/
theorem encs (zs : List Int) : ∃ (E : Int) (L : List Nat),
    (∀ (A : Option Addr) (n cap : Nat) (w : World), Tab w → Lies w 1 A n cap (chs zs) → n * 4 ≤ 140737488355324 → Calls Tryd.prog 9 #[.slice A n cap] w fun e w' => ∃ A' n' c', e = .returned (.tuple #[.slice A' n' c', .int .i64 E]) ∧ Lies w' 1 A' n' c' (byt L) ∧ Grow w w') ∧
    (∀ (A : Option Addr) (n cap : Nat) (w : World), Tab w → Lies w 1 A n cap (chs zs) → n * 4 ≤ 140737488355324 → Calls Tryd.prog 10 #[.slice A n cap] w fun e w' => ∃ A' n' c', e = .returned (.tuple #[.slice A' n' c', .int .i64 E]) ∧ Lies w' 1 A' n' c' (byt L) ∧ Grow w w') := by
  obtain ⟨t, ht, hzs⟩ := text_split zs
  by_cases hz : zs = upN t
  · refine ⟨0, encL t, fun A n cap w hT hL hn => ?_, fun A n cap w hT hL hn => ?_⟩
    · refine (enc_any hT hL ht hzs hn).mono ?_
      rintro e w' ⟨A', n', c', h1, h2, h3⟩
      rcases h1 with ⟨_, h1⟩ | ⟨h1, _⟩
      · exact ⟨A', n', c', h1, Lies.of_own (h2 hz), h3⟩
      · exact absurd hz h1
    · refine (renc_any hT hL ht hzs hn).mono ?_
      rintro e w' ⟨A', n', c', h1, h2, h3⟩
      rcases h1 with ⟨_, h1⟩ | ⟨h1, _⟩
      · exact ⟨A', n', c', h1, Lies.of_own (h2 hz), h3⟩
      · exact absurd hz h1
  · refine ⟨21, [], fun A n cap w hT hL hn => ?_, fun A n cap w hT hL hn => ?_⟩
    · refine (enc_any hT hL ht hzs hn).mono ?_
      rintro e w' ⟨A', n', c', h1, h2, h3⟩
      rcases h1 with ⟨h1, _⟩ | ⟨_, _, _, _, h1⟩
      · exact absurd h1 hz
      · exact ⟨none, 0, 0, h1, Lies.nil _ _, h3⟩
    · refine (renc_any hT hL ht hzs hn).mono ?_
      rintro e w' ⟨A', n', c', h1, h2, h3⟩
      rcases h1 with ⟨h1, _⟩ | ⟨_, _, _, _, h1⟩
      · exact absurd h1 hz
      · exact ⟨none, 0, 0, h1, Lies.nil _ _, h3⟩

set_option maxRecDepth 100000 in
set_option maxHeartbeats 4000000 in
set_option linter.unusedVariables false in
theorem utfcalls_any {A B : Option Addr} {n ca nb cb : Nat} {zs : List Int} {l : List Nat} {c : Int} {w : World} (hT : Tab w) (hA : Lies w 1 A n ca (chs zs)) (hLB : Lies w 1 B nb cb (byt l)) (hl : ∀ x ∈ l, x < 256) (hn : n ≤ 1048576) (hnb : nb ≤ 1048576) :
    Calls Tryd.prog 3 #[.slice A n ca, .slice B nb cb, .int .i32 c] w fun e w' => e = .returned (.bool true) ∧ Below w.heap.size w w' := by
  obtain ⟨E, L, he1, he2⟩ := encs zs
  obtain ⟨D, hD⟩ : ∃ D : Int, (decE l : Int) = D := ⟨_, rfl⟩
  obtain ⟨R, hR⟩ : ∃ R : Int, (readN l : Int) = R := ⟨_, rfl⟩
  obtain ⟨m, hm⟩ : ∃ m, mayI c = m := ⟨_, rfl⟩
  obtain ⟨q, hq⟩ : ∃ q, sizeI c = q := ⟨_, rfl⟩
  have es : ∀ s : ByteArray, (s.toList == s.toList) = true := fun s => by simp
  have HT := Lib.hid hT; have HA := Lib.hid hA; have HLB := Lib.hid hLB; have HB := Lib.hid hl; have HE1 := Lib.hid he1; have HE2 := Lib.hid he2; have HD := Lib.hid hD; have HR := Lib.hid hR; have HM := Lib.hid hm; have HQ := Lib.hid hq
  clear hT hA hLB hl he1 he2 hD hR hm hq
  go_enter Tryd.func3, Tryd.ntmps3
  go_wp2_with fail
  refine (HE1.out A n ca w HT.out HA.out (by omega)).mono ?_
  rintro e w1 ⟨A1, n1, c1, rfl, l1, g1⟩
  have G1 := Lib.hid g1; have L1 := Lib.hid l1
  clear g1 l1
  go_wp2_with fail
  refine (HE2.out A n ca w1 (HT.out.same G1.out) (HA.out.below G1.out (Nat.le_refl _)) (by omega)).mono ?_
  rintro e w2 ⟨A2, n2, c2, rfl, l2, g2⟩
  have G12 := Lib.hid g2; have L2 := Lib.hid l2
  have G2 := Lib.hid (G1.out.trans g2)
  clear g2 l2
  go_wp2_with fail
  refine (decode_at l D _ HD.out rfl (HT.out.same G2.out) (HLB.out.below G2.out (Nat.le_refl _)) HB.out (by omega)).mono ?_
  rintro e w3 ⟨A3, n3, c3, rfl, own3, g3⟩
  have L3 := Lib.hid (Lies.of_own own3); have G23 := Lib.hid g3
  have G3 := Lib.hid (G2.out.trans g3)
  clear g3 own3
  go_wp2_with fail
  refine (rdecode_at l D _ HD.out rfl (HLB.out.below G3.out (Nat.le_refl _)) HB.out (by omega)).mono ?_
  rintro e w4 ⟨A4, n4, c4, rfl, own4, g4⟩
  have L4 := Lib.hid (Lies.of_own own4); have G34 := Lib.hid g4
  have G4 := Lib.hid (G3.out.trans g4)
  clear g4 own4
  have v1 := conv_bytes (L1.out.below (G12.out.trans (G23.out.trans G34.out)) (Nat.le_refl _))
  have v2 := conv_bytes (L2.out.below (G23.out.trans G34.out) (Nat.le_refl _))
  go_wp2_with fail
  refine (same_at true (by simp) (L3.out.below G34.out (Nat.le_refl _)) L4.out).mono ?_
  rintro e w5 ⟨rfl, g5⟩
  have G5 := Lib.hid (G4.out.trans g5)
  clear g5 v1 v2
  go_wp2_with fail
  refine (whole_at l R HR.out (HT.out.same G5.out) (HLB.out.below G5.out (Nat.le_refl _)) HB.out (by omega)).mono ?_
  rintro e w6 ⟨rfl, g6⟩
  have G6 := Lib.hid (G5.out.trans g6)
  clear g6
  go_wp2_with fail
  refine (rwhole_at l R HR.out (HLB.out.below G6.out (Nat.le_refl _)) HB.out).mono ?_
  rintro e w7 ⟨rfl, g7⟩
  have G7 := Lib.hid (G6.out.trans g7)
  clear g7
  go_wp2_with fail
  refine (may_at m HM.out).mono ?_
  rintro e w8 ⟨rfl, rfl⟩
  go_wp2_with fail
  refine (rmay_at m HM.out).mono ?_
  rintro e w8 ⟨rfl, rfl⟩
  go_wp2_with fail
  refine (size_any (HT.out.same G7.out)).mono ?_
  rw [HQ.out]
  rintro e w9 ⟨rfl, g9⟩
  have G9 := Lib.hid (G7.out.trans g9)
  clear g9
  go_wp2_with fail
  refine rsize_any.mono ?_
  rw [HQ.out]
  rintro e w10 ⟨rfl, g10⟩
  have G10 := Lib.hid (G9.out.trans g10)
  clear g10
  go_wp2_with fail
  refine (wakes_any (HT.out.same G10.out)).mono ?_
  rintro e w12 ⟨rfl, g12⟩
  have G12 := Lib.hid (G10.out.trans g12)
  clear g12
  go_wp2
  go_ret
  exact ⟨rfl, G12.out⟩
end Go.Proofs.YtbphdojjddnljaaDoor

