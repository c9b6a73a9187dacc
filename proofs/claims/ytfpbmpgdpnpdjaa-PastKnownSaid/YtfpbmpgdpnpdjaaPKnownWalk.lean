/-
  PastKnown: the walk.
-/
import Derived.Test.YtfpbmpgdpnpdjaaPNone
namespace Go.Proofs.Ytfpbmpgdpnpdjaa
open Go.RowKit
set_option linter.unusedSimpArgs false

def opsN (n : Nat) : List O := (List.range n).map fun i : Nat => endO (i : Int)
def lensN (n : Nat) : List Int := (List.range (n + 1)).map fun i : Nat => (i : Int)
theorem opsN_len (n : Nat) : (opsN n).length = n := by simp [opsN]
theorem opsN_succ (n : Nat) : opsN n ++ [endO (n : Int)] = opsN (n + 1) := by simp [opsN, List.range_succ]
theorem lensN_succ (n : Nat) : lensN n ++ [(n : Int) + 1] = lensN (n + 1) := by simp [lensN, List.range_succ]
theorem lensN_get {n i : Nat} (h : i ≤ n) : (lensN n)[i]? = some (i : Int) := by
  unfold lensN
  rw [List.getElem?_map, List.getElem?_range (by omega)]
  rfl
theorem long_far : longV [endU 1] 0 = (0, 30) := by decide
set_option maxRecDepth 100000 in
set_option maxHeartbeats 4000000 in
theorem pastknown_any {w : World} : Calls Try.prog 12 #[] w fun e w' => e = .returned (.bool true) ∧ Grow w w' := by
  have hb := heap_alloc_new w (.cells #[.int .u64 0, .slice none 0 0, .slice none 0 0, .bool false] 85)
  have NZ := Lib.hid (nopast_zero (cell_of_row _ w.heap.size 3 _ _ (0, 0) hb))
  have G0 := Lib.hid (Grow.alloc w (.cells #[.int .u64 0, .slice none 0 0, .slice none 0 0, .bool false] 85))
  clear hb
  go_enter Try.func12, Try.ntmps12
  go_wp2_with fail
  refine (push_no (nopast_nil _)).mono ?_
  rintro e w1 ⟨rfl, g1⟩
  have G1 := Lib.hid (G0.out.trans g1); have Z1 := Lib.hid (NZ.out.grow g1)
  clear g1 G0 NZ
  go_wp2_with fail
  refine (since_err (Z1.out.refuses 0 0)).mono ?_
  rintro e w2 ⟨rfl, g2⟩
  have G2 := Lib.hid (G1.out.trans g2); have Z2 := Lib.hid (Z1.out.grow g2)
  clear g2 G1 Z1
  go_wp2_with fail
  refine (length_err ((nopast_nil _).refuses 0 0)).mono ?_
  rintro e w3 ⟨rfl, g3⟩
  have G3 := Lib.hid (G2.out.trans g3); have Z3 := Lib.hid (Z2.out.grow g3)
  clear g3 G2 Z2
  go_wp2_with fail
  refine (patc_err (Z3.out.refuses 1 1)).mono ?_
  rintro e w4 ⟨rfl, g4⟩
  have ga : Grow w4 (w4.alloc (.cells #[.int .u32 0, .int .u64 0, .slice none 0 0, .bool false] 67)) := Grow.alloc _ _
  have G4 := Lib.hid ((G3.out.trans g4).trans ga); have Z4 := Lib.hid (Z3.out.grow (g4.trans ga))
  clear g4 G3 Z3 ga
  go_wp2_with fail
  refine (undo_err ((nopast_nil _).refuses 1 1)).mono ?_
  rintro e w5 ⟨rfl, g5⟩
  have G5 := Lib.hid (G4.out.trans g5); have Z5 := Lib.hid (Z4.out.grow g5)
  clear g5 G4 Z4
  go_wp2_with fail
  refine (now_no (nopast_nil _)).mono ?_
  rintro e w6 ⟨rfl, rfl⟩
  go_wp2_with fail
  refine (from_no Z5.out).mono ?_
  rintro e w6 ⟨rfl, rfl⟩
  go_wp2_with fail
  refine (len_no (nopast_nil _)).mono ?_
  rintro e w6 ⟨rfl, rfl⟩
  go_wp2_with fail
  refine (drop_no Z5.out).mono ?_
  rintro e w6 ⟨rfl, rfl⟩
  go_wp2_with fail
  refine (copy_no Z5.out).mono ?_
  rintro e w6 ⟨rfl, rfl⟩
  go_wp2_with fail
  refine (new_bad (.inl (by decide))).mono ?_
  rintro e w6 ⟨rfl, rfl⟩
  go_wp2_with fail
  refine (new_bad (.inr (by decide))).mono ?_
  rintro e w6 ⟨rfl, rfl⟩
  go_wp2_with fail
  refine (new_at (q := 1099511627775) rfl (by decide) (by decide)).mono ?_
  rintro e w7 ⟨p, rfl, hP, g7⟩
  have P7 := Lib.hid hP; have G7 := Lib.hid (G5.out.trans g7)
  have S7 : Hid (∀ k, anew w5 w7 k → w.heap.size ≤ k) := fun k hk => by have := G5.out.size; have := hk.1; omega
  clear hP g7 Z5
  go_wp2_with fail
  refine (push_at (z := 1099511627776) (os2 := [nopO]) (lens2 := [0, 0]) P7.out (Lies.nil _ _) (fun a ha => by cases ha) (by omega) rfl (long_nil 0) (by omega) (by omega) (by decide) (by decide) rfl rfl rfl).mono ?_
  rintro e w8 ⟨rfl, hP, g8⟩
  have P8 := Lib.hid hP; have G8 := Lib.hid (g8.over G7.out S7)
  clear hP g8
  go_wp2_with fail
  refine (push_full (x := 0) P8.out (Lies.nil _ _) (by omega) rfl (long_nil 0) (by omega) (by omega) (by decide) (by decide) (.inl (by decide))).mono ?_
  rintro e w9 ⟨rfl, g9⟩
  have P9 := Lib.hid (P8.out.grow g9); have G9 := Lib.hid (G8.out.trans g9)
  clear g9
  go_wp2_with fail
  refine end_any.mono ?_
  rintro e w10 ⟨A, c, rfl, hL, hA, g10⟩
  have P10 := Lib.hid (P9.out.grow g10); have G10 := Lib.hid (G9.out.trans g10); have L10 := Lib.hid hL
  clear hL hA g10
  go_wp2_with fail
  refine (push_bad P10.out L10.out (by omega) rfl long_far (by omega) (by omega) (by decide) (by decide) (by decide)).mono ?_
  rintro e w11 ⟨rfl, g11⟩
  have G11 := Lib.hid (G10.out.trans g11)
  clear g11
  go_wp2_with fail
  refine (new_at (q := 0) rfl (by decide) (by decide)).mono ?_
  rintro e w12 ⟨p2, rfl, hP, g12⟩
  have P12 := Lib.hid hP; have G12 := Lib.hid (G11.out.trans g12)
  have S12 : Hid (∀ k, anew w11 w12 k → w.heap.size ≤ k) := fun k hk => by have := G11.out.size; have := hk.1; omega
  clear hP g12
  go_wp2
  go_loopw [25] (fun i wr => ∃ (j : Nat) (S : Nat → Prop), j ≤ 256 ∧ i = .int .i64 j ∧ Hid (PastIs wr S p2 0 (opsN j) (lensN j)) ∧ Hid (∀ k, S k → w.heap.size ≤ k) ∧ Grow w wr) (fun i _ => 256 - (intOf i).toNat)
  case atStart => exact ⟨0, anew w11 w12, by omega, rfl, P12, S12, G12.out⟩
  case round =>
    obtain ⟨j, S, hj, rfl, hP, hS, hg⟩ := hrel
    have GR := Lib.hid hg
    clear hg
    by_cases hlt : j < 256
    · go_wp2_with fail
      refine (end_any (pos := (j : Int))).mono ?_
      rintro e w13 ⟨A, c, rfl, hL, hA, g13⟩
      have P13 := Lib.hid (hP.out.grow g13); have G13 := Lib.hid (GR.out.trans g13); have L13 := Lib.hid hL; have HA := Lib.hid hA
      have SL := Lib.hid hP.out.lt
      clear hL hA g13
      go_wp2_with fail
      refine (push_at (z := (j : Int) + 1) (os2 := opsN (j + 1)) (lens2 := lensN (j + 1)) P13.out L13.out (fun a ha _ hs => by have := HA.out a ha; have := SL.out _ hs; omega) (by omega) (by rw [opsN_len]; exact lensN_get (Nat.le_refl _)) (long_end (by omega) (by omega)) (by omega) (by omega) (by rw [opsN_len]; omega) (by rw [opsN_len]; omega) (by rw [opsN_len]; push_cast; omega) (opsN_succ j) (lensN_succ j)).mono ?_
      rintro e w14 ⟨rfl, hP2, g14⟩
      have P14 := Lib.hid hP2; have G14 := Lib.hid (g14.over G13.out hS.out)
      have S14 : Hid (∀ k, plus S w13 w14 k → w.heap.size ≤ k) := fun k hk => hk.elim (hS.out k) (fun h => by have := G13.out.size; have := h.1; omega)
      clear hP2 g14
      go_wp2
      go_roundw
      case rel => exact ⟨j + 1, _, by omega, by go_num, P14, S14, G14.out⟩
      case measure => simp [intOf]; omega
    · obtain rfl : j = 256 := by omega
      go_wp2_with fail
      refine (end_any (pos := 0)).mono ?_
      rintro e w13 ⟨A, c, rfl, hL, hA, g13⟩
      have P13 := Lib.hid (hP.out.grow g13); have G13 := Lib.hid (GR.out.trans g13); have L13 := Lib.hid hL
      clear hL hA g13
      go_wp2_with fail
      refine (push_full P13.out L13.out (by omega) (by rw [opsN_len]; exact lensN_get (Nat.le_refl _)) (long_end (by omega) (by omega)) (by omega) (by omega) (by omega) (by rw [opsN_len]; omega) (.inr (by rw [opsN_len]; omega))).mono ?_
      rintro e w14 ⟨rfl, g14⟩
      have P14 := Lib.hid (P13.out.grow g14); have G14 := Lib.hid (G13.out.trans g14)
      clear g14
      go_wp2_with fail
      refine (drop_some (d := 1) P14.out (by rw [opsN_len]; omega) (by omega) (by rw [opsN_len]; rfl) (by omega)).mono ?_
      rintro e w15 ⟨rfl, hP2, g15⟩
      have P15 := Lib.hid hP2; have G15 := Lib.hid (g15.over G14.out hS.out)
      have S15 : Hid (∀ k, plus S w14 w15 k → w.heap.size ≤ k) := fun k hk => hk.elim (hS.out k) (fun h => by have := G14.out.size; have := h.1; omega)
      have SL := Lib.hid hP2.lt
      clear hP2 g15
      go_wp2_with fail
      refine (end_any (pos := 256)).mono ?_
      rintro e w16 ⟨A2, c2, rfl, hL, hA, g16⟩
      have P16 := Lib.hid (P15.out.grow g16); have G16 := Lib.hid (G15.out.trans g16); have L16 := Lib.hid hL; have HA := Lib.hid hA
      clear hL hA g16
      have hlen : ((opsN 256).drop 1).length = 255 := by rw [List.length_drop, opsN_len]
      go_wp2_with fail
      refine (push_at (z := 257) (os2 := (opsN 256).drop 1 ++ [endO 256]) (lens2 := (lensN 256).drop 1 ++ [257]) (m := 256) P16.out L16.out (fun a ha _ hs => by have := HA.out a ha; have := SL.out _ hs; omega) (by omega) (by rw [hlen, List.getElem?_drop]; exact lensN_get (by omega)) (long_end (by omega) (by omega)) (by omega) (by omega) (by rw [hlen]; omega) (by rw [hlen]; omega) (by rw [hlen]; rfl) rfl rfl).mono ?_
      rintro e w17 ⟨rfl, hP2, g17⟩
      have P17 := Lib.hid hP2; have G17 := Lib.hid (g17.over G16.out S15)
      have hlen2 : ((opsN 256).drop 1 ++ [endO 256]).length = 256 := by rw [List.length_append, hlen]; rfl
      have hlen3 : ((lensN 256).drop 1).length = 256 := by simp [lensN]
      clear hP2 g17
      go_wp2_with fail
      refine (length_ok (d := 256) (m := 257) P17.out (by omega) (by omega) (by omega) (by rw [List.getElem?_append_right (by omega), hlen3]; rfl) rfl).mono ?_
      rintro e w18 ⟨rfl, g18⟩
      have P18 := Lib.hid (P17.out.grow g18); have G18 := Lib.hid (G17.out.trans g18)
      clear g18
      go_wp2_with fail
      refine (pfrom_z (z := 1) P18.out rfl).mono ?_
      rintro e w19 ⟨rfl, rfl⟩
      go_wp2_with fail
      refine wakes10.mono ?_
      rintro e w20 ⟨rfl, g20⟩
      have G20 := Lib.hid (G18.out.trans g20)
      clear g20
      go_wp2
      go_ret
      exact ⟨rfl, G20.out⟩
end Go.Proofs.Ytfpbmpgdpnpdjaa

