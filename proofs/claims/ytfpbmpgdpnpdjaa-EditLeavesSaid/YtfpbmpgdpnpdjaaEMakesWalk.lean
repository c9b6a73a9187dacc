/-
  edit: the walk of EditMakes.
-/
import Derived.Test.YtfpbmpgdpnpdjaaReplaceB
namespace Go.Proofs.Ytfpbmpgdpnpdjaa
open Go.RowKit
set_option linter.unusedSimpArgs false

theorem toGrow {w w' : World} (h : Below w.heap.size w w') : Grow w w' := h
theorem Lies.takeC {w : World} {A : Option Addr} {n c : Nat} {cs : List Int} (h : Lies w 1 A n c (chs cs)) (m : Nat) (hm : m ≤ n) : Lies w 1 A m c (chs (cs.take m)) := by
  have := h.take1 m hm
  rwa [show (chs cs).take m = chs (cs.take m) by simp [chs]] at this
set_option maxRecDepth 100000 in
set_option maxHeartbeats 4000000 in
theorem editmakes_any {pos n cl rq : Int} {A : Option Addr} {na ca : Nat} {cs : List Int} {w : World} (hL : Lies w 1 A na ca (chs cs)) (hp : -9223372036854775808 ≤ pos ∧ pos ≤ 9223372036854775807) :
    Calls Try.prog 4 #[.int .i64 pos, .int .i64 n, .slice A na ca, .agg #[.int .u32 cl, .int .u64 rq]] w fun e w' => e = .returned (.bool true) ∧ Below w.heap.size w w' := by
  have hle := hL.le
  have hbig := hL.big
  obtain ⟨m, hm, hmn, hm3⟩ : ∃ m : Nat, min (na : Int) 300 = (m : Int) ∧ m ≤ na ∧ m ≤ 300 := ⟨min na 300, by omega, by omega, by omega⟩
  have hL2 := hL.takeC m hmn
  obtain ⟨vs, hvs⟩ : ∃ vs, cs.take m = vs := ⟨_, rfl⟩
  rw [hvs] at hL2
  have HL := Lib.hid hL2; have HP := Lib.hid hp
  clear hL hL2 hp hvs
  go_enter Try.func4, Try.ntmps4
  go_upto_region 1 with fail
  go_cut [2] (fun s2 wc => s2 = .slice A m ca ∧ w.alloc (.cells #[.int .u32 cl, .int .u64 rq] 28) = wc)
  case first =>
    have HM := Lib.hid hm
    clear hm
    go_wp2
    all_goals
      go_meet
      exact ⟨by have := HM.out; first | rfl | (congr 1; omega), rfl⟩
  case rest =>
    obtain ⟨rfl, rfl⟩ := hcut
    clear hm
    go_wp2_with (at_builtin; refine wpList_appC rfl (.const (.slice none 0 0)) (.tmp 27) rfl (w.heap.size + 1) _ 0 [] rfl (own_nilC _ _) A m ca vs rfl (HL.out.alloc _) (by omega) (by simp) ?_; intro A1 c1 w1 own1 L1 bel1; have g1 := toGrow (bel1 _ _ (Grow.refl _) (by simp)); obtain ⟨i0, i1⟩ := id_cells g1)
    rw [Nat.zero_add, List.nil_append] at L1
    have GB := Lib.hid g1; have G1 := Lib.hid ((Grow.alloc w _).trans g1)
    have LM := Lib.hid L1
    clear own1 bel1 g1 L1
    refine (ptype_any LM.out).mono ?_
    rintro e w2 ⟨A2, m2, c2, rfl, own2, g2⟩
    have GB2 := Lib.hid (GB.out.trans g2); have G2 := Lib.hid (G1.out.trans g2); have D2 := Lib.hid g2
    have L2 := Lib.hid (Lies.of_own own2)
    clear own2 g2 i0 i1
    obtain ⟨i0, i1⟩ := id_cells GB2.out
    go_wp2_with fail
    refine (rtype_any (HL.out.below G2.out (Nat.le_refl _))).mono ?_
    rintro e w3 ⟨A3, m3, c3, rfl, own3, g3⟩
    have GB3 := Lib.hid (GB2.out.trans g3); have G3 := Lib.hid (G2.out.trans g3); have D3 := Lib.hid g3
    have L3 := Lib.hid (Lies.of_own own3)
    clear own3 g3 i0 i1
    obtain ⟨i0, i1⟩ := id_cells GB3.out
    go_wp2_with fail
    refine (perase_any).mono ?_
    rintro e w4 ⟨A4, m4, c4, rfl, own4, g4⟩
    have GB4 := Lib.hid (GB3.out.trans g4); have G4 := Lib.hid (G3.out.trans g4); have D4 := Lib.hid g4
    have L4 := Lib.hid (Lies.of_own own4)
    clear own4 g4 i0 i1
    obtain ⟨i0, i1⟩ := id_cells GB4.out
    go_wp2_with fail
    refine (rerase_any HP.out).mono ?_
    rintro e w5 ⟨A5, m5, c5, rfl, own5, g5⟩
    have GB5 := Lib.hid (GB4.out.trans g5); have G5 := Lib.hid (G4.out.trans g5); have D5 := Lib.hid g5
    have L5 := Lib.hid (Lies.of_own own5)
    clear own5 g5 i0 i1
    obtain ⟨i0, i1⟩ := id_cells GB5.out
    have M5 := Lib.hid (D2.out.trans (D3.out.trans (D4.out.trans D5.out)))
    go_wp2_with fail
    refine (preplace_any (LM.out.below M5.out (Nat.le_refl _)) HP.out).mono ?_
    rintro e w6 ⟨A6, m6, c6, rfl, own6, g6⟩
    have GB6 := Lib.hid (GB5.out.trans g6); have G6 := Lib.hid (G5.out.trans g6); have D6 := Lib.hid g6
    have L6 := Lib.hid (Lies.of_own own6)
    clear own6 g6 i0 i1
    obtain ⟨i0, i1⟩ := id_cells GB6.out
    go_wp2_with fail
    refine (rreplace_any (HL.out.below G6.out (Nat.le_refl _)) HP.out).mono ?_
    rintro e w7 ⟨A7, m7, c7, rfl, own7, g7⟩
    have G7 := Lib.hid (G6.out.trans g7); have D7 := Lib.hid g7
    have L7 := Lib.hid (Lies.of_own own7)
    clear own7 g7 i0 i1
    have E5 := Lib.hid (D5.out.trans (D6.out.trans D7.out))
    have E4 := Lib.hid (D4.out.trans E5.out)
    have E3 := Lib.hid (D3.out.trans E4.out)
    obtain ⟨x1, hx1⟩ : ∃ x, errT pos vs = x := ⟨_, rfl⟩
    obtain ⟨x2, hx2⟩ : ∃ x, errE pos n = x := ⟨_, rfl⟩
    obtain ⟨x3, hx3⟩ : ∃ x, errR pos n vs = x := ⟨_, rfl⟩
    rw [hx1, hx2, hx3]
    clear hx1 hx2 hx3
    go_wp2_with fail
    refine (rsame_any (L2.out.below E3.out (Nat.le_refl _)) (L3.out.below E4.out (Nat.le_refl _))).mono ?_
    rw [show decide (resT pos cl rq vs = resT pos cl rq vs) = true by simp]
    rintro e w8 ⟨rfl, g8⟩
    have G8 := Lib.hid g8
    clear g8
    go_wp2_with fail
    refine (rsame_any (L4.out.below (E5.out.trans G8.out) (Nat.le_refl _)) (L5.out.below ((D6.out.trans D7.out).trans G8.out) (Nat.le_refl _))).mono ?_
    rw [show decide (resE pos n cl rq = resE pos n cl rq) = true by simp]
    rintro e w9 ⟨rfl, g9⟩
    have G9 := Lib.hid (G8.out.trans g9)
    clear g9
    go_wp2_with fail
    refine (rsame_any (L6.out.below (D7.out.trans G9.out) (Nat.le_refl _)) (L7.out.below G9.out (Nat.le_refl _))).mono ?_
    rw [show decide (resR pos n cl rq vs = resR pos n cl rq vs) = true by simp]
    rintro e w10 ⟨rfl, g10⟩
    have G10 := Lib.hid (G9.out.trans g10)
    clear g10
    go_wp2_with fail
    refine (same_at true (by simp) (LM.out.below ((M5.out.trans (D6.out.trans D7.out)).trans G10.out) (Nat.le_refl _)) (HL.out.below (G7.out.trans G10.out) (Nat.le_refl _))).mono ?_
    rintro e w11 ⟨rfl, g11⟩
    have G11 := Lib.hid (G10.out.trans g11)
    clear g11
    go_wp2_with fail
    refine wakes8.mono ?_
    rintro e w12 ⟨rfl, g12⟩
    have GF := Lib.hid (G7.out.trans (G11.out.trans g12))
    clear g12
    go_wp2
    go_ret
    exact ⟨rfl, GF.out⟩
end Go.Proofs.Ytfpbmpgdpnpdjaa

