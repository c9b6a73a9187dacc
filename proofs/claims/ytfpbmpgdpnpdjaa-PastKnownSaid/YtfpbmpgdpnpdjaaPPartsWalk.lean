/-
  PastParts: the walk.
-/
import Derived.Test.YtfpbmpgdpnpdjaaPCases
namespace Go.Proofs.Ytfpbmpgdpnpdjaa
open Go.RowKit
set_option linter.unusedSimpArgs false

theorem OpsOwn.within {w w' : World} {V : Value} {l : List (O × Value)} (h : OpsOwn w' (fun k => w.heap.size ≤ k) V l) : OpsOwn w' (anew w w') V l :=
  ⟨h.row, fun g hg => ⟨h.rowIn g hg, (h.row.lt g hg).2⟩, h.each, fun x hx g hg => ⟨h.eachIn x hx g hg, ((h.each x hx).lt g hg).2⟩, h.apart⟩
theorem tmod_nat (x k : Nat) : Int.tmod (x : Int) ((k : Int) + 1) = ((x % (k + 1) : Nat) : Int) := by
  rw [show ((k : Int) + 1) = ((k + 1 : Nat) : Int) by push_cast; rfl]
  exact (Int.ofNat_tmod x (k + 1)).symm
set_option maxRecDepth 100000 in
set_option maxHeartbeats 4000000 in
theorem pastparts_any {A : Option Addr} {n c x y : Nat} {l : List (O × Value)} {w : World} (hL : OpsLie w (fun k => k < w.heap.size) A n c l) (hwf : ∀ x ∈ l, OWf x.1) (hx : x < 256) (hy : y < 256) :
    Calls Try.prog 11 #[.slice A n c, .int .u8 x, .int .u8 y] w fun e w' => e = .returned (.bool true) ∧ Grow w w' := by
  have hle := hL.row.le
  have hbig := hL.row.big
  have hln := hL.row.ocs_len
  have HL := Lib.hid hL; have HLN := Lib.hid hln; have HWF := Lib.hid hwf
  clear hL hln hwf
  go_enter Try.func11, Try.ntmps11
  go_wp2_with fail
  refine (new_inv (q := 5) rfl (by omega) (by omega)).mono ?_
  rintro e w1 ⟨p, rfl, hI, g1⟩
  have HI := Lib.hid hI; have G1 := Lib.hid g1
  clear hI g1
  go_wp2
  go_loopw [9] (fun i wr => ∃ (j : Nat) (S : Nat → Prop) (os : List O), j ≤ n ∧ j ≤ 50 ∧ i = .int .i64 j ∧ os.length ≤ j ∧ Hid (PInv wr S p 5 1000 os) ∧ Hid (∀ k, S k → w.heap.size ≤ k) ∧ Grow w wr) (fun i _ => n - (intOf i).toNat)
  case atStart => exact ⟨0, _, [], Nat.zero_le _, by omega, rfl, Nat.zero_le _, HI, fun k hk => hk.1, G1.out⟩
  case round =>
    obtain ⟨j, S, os, hj, hj2, rfl, hos, hI, hS, hg⟩ := hrel
    have G2 := Lib.hid hg
    clear hg
    by_cases hlt : j < n ∧ j < 50
    · obtain ⟨hlt, hlt2⟩ := hlt
      obtain ⟨⟨o, v⟩, hx⟩ : ∃ u, l[j]? = some u := ⟨_, List.getElem?_eq_getElem (by have := HLN.out; omega)⟩
      obtain ⟨A2, n2, c2, hv, hL2, hA2⟩ := HL.out.each (o, v) (List.mem_of_getElem? hx)
      simp only at hv hL2
      subst hv
      have HO := Lib.hid (HWF.out _ (List.mem_of_getElem? hx))
      obtain ⟨b, off, rfl, hbs, hcell⟩ := HL.out.row.pos (by omega) (by decide)
      obtain ⟨x0, x1, x2, x3⟩ := HL.out.cells hx wr G2.out
      have L2 := Lib.hid (hL2.below (w' := wr) G2.out (Nat.le_refl _)); have HA2 := Lib.hid hA2
      have dj : decide ((j : Int) < 50) = true := by simp; omega
      have dj2 : decide (j < 50) = true := by simp; omega
      clear hx hcell hL2 hA2
      go_wp2_with fail
      refine (push_cases hI.out L2.out (fun a ha h0 hs => by have h1 : a.block < w.heap.size := HA2.out a ha h0; have h2 := hS.out _ hs; omega) HO.out (by omega) (by omega) (by omega)).mono ?_
      rintro e w3 (⟨rfl, hI3, g3⟩ | ⟨ye, hye, rfl, g3⟩)
      · have I3 := Lib.hid hI3; have G3 := Lib.hid (g3.over G2.out hS.out)
        have S3 : Hid (∀ k, plus S wr w3 k → w.heap.size ≤ k) := fun k hk => hk.elim (fun h => hS.out k h) (fun h => by have := G2.out.size; have := h.1; omega)
        clear hI3 g3 x0 x1 x2 x3
        go_wp2
        go_roundw
        case rel => exact ⟨j + 1, _, _, by omega, by omega, by go_num, by simp; omega, I3, S3, G3.out⟩
        case measure => simp [intOf]; omega
      · have G3 := Lib.hid (G2.out.trans g3); have I3 := Lib.hid (hI.out.grow g3)
        clear g3 x0 x1 x2 x3 hye
        go_wp2
        go_roundw
        case rel => exact ⟨j + 1, _, _, by omega, by omega, by go_num, by omega, I3, hS, G3.out⟩
        case measure => simp [intOf]; omega
    · go_upto_region 5 with fail
      go_cut [37] (fun s W => s = .bool false ∧ W = wr)
      case first =>
        have key : ¬ j < n ∨ (j < n ∧ j = 50) := by omega
        rcases key with h1 | ⟨h1, rfl⟩
        all_goals
          go_wp2
          go_meet
          exact ⟨rfl, rfl⟩
      case rest =>
        obtain ⟨rfl, rfl⟩ := hcut
        go_wp2_with fail
        refine (plen_at hI.out.is).mono ?_
        rintro e w3 ⟨rfl, rfl⟩
        obtain ⟨k, hk⟩ : ∃ k, os.length = k := ⟨_, rfl⟩
        rw [hk]
        have hk50 : k ≤ 50 := by omega
        obtain ⟨a, ha⟩ : ∃ a, x % (k + 1) = a := ⟨_, rfl⟩
        obtain ⟨d, hd⟩ : ∃ d, y % (k + 1) = d := ⟨_, rfl⟩
        have ha2 : a ≤ k := by have := Nat.mod_lt x (show 0 < k + 1 by omega); omega
        have hd2 : d ≤ k := by have := Nat.mod_lt y (show 0 < k + 1 by omega); omega
        have ta : Int.tmod (x : Int) ((k : Int) + 1) = (a : Int) := by rw [tmod_nat, ha]
        have td : Int.tmod (y : Int) ((k : Int) + 1) = (d : Int) := by rw [tmod_nat, hd]
        have nz : ((k : Int) + 1 == 0) = false := by simp; omega
        have HK := Lib.hid hk
        clear ha hd hk hos hj2
        obtain ⟨b, hb⟩ : ∃ b, min (a + d) k = b := ⟨_, rfl⟩
        have hba : a ≤ b := by omega
        have hbk : b ≤ k := by omega
        obtain ⟨z, hz⟩ : ∃ z : Int, (5 : Int) + (k : Int) = z := ⟨_, rfl⟩
        have HZ := Lib.hid hz; have HB := Lib.hid hb
        clear hz hb
        go_wp2_with fail
        refine (pnow_at (z := z) hI.out.is (by omega) (by rw [HK.out]; omega) (by rw [HK.out]; exact HZ.out)).mono ?_
        rintro e w3 ⟨rfl, rfl⟩
        go_upto_if 66 with fail
        go_cut [12] (fun s W => s = .int .u64 ((5 : Int) + (b : Int)) ∧ W = wc)
        case first =>
          by_cases hb2 : a + d ≤ k
          · have dz : decide (z < (5 : Int) + (a : Int) + (d : Int)) = false := by have := HZ.out; simp; omega
            simp only [dz]
            have eb : (5 : Int) + (b : Int) = 5 + (a : Int) + (d : Int) := by have := HB.out; omega
            have EB := Lib.hid eb
            clear eb
            go_wp2
            go_meet
            exact ⟨by rw [EB.out], rfl⟩
          · have dz : decide (z < (5 : Int) + (a : Int) + (d : Int)) = true := by have := HZ.out; simp; omega
            simp only [dz]
            have eb : (5 : Int) + (b : Int) = z := by have := HB.out; have := HZ.out; omega
            have EB := Lib.hid eb
            clear eb
            go_wp2_with fail
            refine (pnow_at (z := z) hI.out.is (by omega) (by rw [HK.out]; omega) (by rw [HK.out]; exact HZ.out)).mono ?_
            rintro e w3 ⟨rfl, rfl⟩
            go_wp2
            go_meet
            exact ⟨by rw [EB.out], rfl⟩
        case rest =>
          obtain ⟨rfl, rfl⟩ := hcut
          have hw40 : ∀ o ∈ os, o.us.length * 40 ≤ 140737488355328 := fun o ho => (hI.out.wf o ho).n
          have H40 := Lib.hid hw40
          clear hw40 ta td nz
          go_wp2_with fail
          refine (since_ok (d := a) hI.out.is (by rw [HK.out]; omega) H40.out (by omega) (by rw [HK.out]; exact ha2) rfl).mono ?_
          rintro e w3 ⟨A1, n1, c1, l1, rfl, hl1, own1, g3⟩
          have I3 := Lib.hid (hI.out.grow g3); have G3 := Lib.hid (G2.out.trans g3); have O1 := Lib.hid own1; have HL1 := Lib.hid hl1
          have hn1 : n1 = k - a := by rw [own1.n]; have := congrArg List.length hl1; rw [List.length_map, List.length_drop, HK.out] at this; exact this
          have HN1 := Lib.hid hn1
          clear g3 own1 hl1 hn1
          go_wp2_with fail
          refine (since_ok (d := b) I3.out.is (by rw [HK.out]; omega) H40.out (by omega) (by rw [HK.out]; exact hbk) rfl).mono ?_
          rintro e w4 ⟨A2, n2, c2, l2, rfl, hl2, own2, g4⟩
          have I4 := Lib.hid (I3.out.grow g4); have G4 := Lib.hid (G3.out.trans g4); have O2 := Lib.hid own2; have HL2 := Lib.hid hl2
          have O3 := Lib.hid (O1.out.grow g4)
          have hn2 : n2 = k - b := by rw [own2.n]; have := congrArg List.length hl2; rw [List.length_map, List.length_drop, HK.out] at this; exact this
          have HN2 := Lib.hid hn2
          clear g4 own2 hl2 hn2
          obtain ⟨t, ht⟩ : ∃ t, b - a = t := ⟨_, rfl⟩
          have e1 : (n1 : Int) - (n2 : Int) = (t : Int) := by have := HN1.out; have := HN2.out; omega
          have e2 : (5 : Int) + (b : Int) - (5 + (a : Int)) = (t : Int) := by omega
          have htn : t ≤ n1 := by have := HN1.out; omega
          have htn2 : (t : Int) ≤ (n1 : Int) := by omega
          have hle1 := O3.out.lie.row.le
          have hbig1 := O3.out.lie.row.big
          have hfr := O3.out.lie.fromG t htn
          have hsm : ((l1.drop t).map (·.1)) = l2.map (·.1) := by rw [List.map_drop, HL1.out, HL2.out, List.drop_drop, show a + t = b by omega]
          have HFR := Lib.hid hfr; have HSM := Lib.hid hsm
          clear hfr hsm
          go_upto_region 15 with fail
          go_cut [108] (fun s W => s = .bool false ∧ Grow w4 W)
          case first =>
            by_cases hcd : c1 = t
            · subst hcd
              have HF := Lib.hid (show OpsLie w4 _ A1 0 0 (l1.drop c1) by have := HFR.out; rw [if_pos rfl, Nat.sub_self, show n1 - c1 = 0 by omega] at this; exact this)
              go_wp2_with fail
              refine (osame_eq HF.out O2.out.lie HSM.out).mono ?_
              rintro e w5 ⟨rfl, g5⟩
              have G5 := Lib.hid g5
              clear g5
              go_wp2
              go_meet
              exact ⟨rfl, G5.out⟩
            · have HF := Lib.hid (show OpsLie w4 _ (A1.map fun x => x.add (t * 4)) (n1 - t) (c1 - t) (l1.drop t) by have := HFR.out; rw [if_neg hcd] at this; exact this)
              go_wp2_with fail
              refine (osame_eq HF.out O2.out.lie HSM.out).mono ?_
              rintro e w5 ⟨rfl, g5⟩
              have G5 := Lib.hid g5
              clear g5
              go_wp2
              go_meet
              exact ⟨rfl, G5.out⟩
          case rest =>
            obtain ⟨rfl, hgc⟩ := hcut
            have I5 := Lib.hid (I4.out.grow hgc); have G5 := Lib.hid (G4.out.trans hgc); have O5 := Lib.hid (O3.out.grow hgc)
            clear hgc e1 e2 htn htn2 HFR HSM O2 O3 HL2
            go_wp2_with fail
            refine (length_ok (d := a) I5.out.is (by rw [HK.out]; omega) (by omega) (by rw [HK.out]; exact ha2) (lensOf_get (by rw [HK.out]; exact ha2)) rfl).mono ?_
            rintro e w6 ⟨rfl, g6⟩
            have I6 := Lib.hid (I5.out.grow g6); have G6 := Lib.hid (G5.out.trans g6); have O6 := Lib.hid (O5.out.grow g6)
            clear g6
            go_wp2
            go_loopw [17, 19] (fun v i wr => ∃ j : Nat, j ≤ n1 ∧ i = .int .i64 j ∧ v = .int .i64 (1000 + growO (os.take (a + j))) ∧ Grow w6 wr) (fun _ i _ => n1 - (intOf i).toNat)
            case atStart => exact ⟨0, Nat.zero_le _, rfl, rfl, Grow.refl _⟩
            case round =>
              obtain ⟨i, hi, rfl, rfl, hg⟩ := hrel
              have G7 := Lib.hid hg
              clear hg
              by_cases hlt : i < n1
              · have hak : a + i < k := by have := HN1.out; omega
                obtain ⟨o, ho⟩ : ∃ o, os[a + i]? = some o := ⟨_, List.getElem?_eq_getElem (by rw [HK.out]; exact hak)⟩
                obtain ⟨⟨o2, v⟩, hx⟩ : ∃ u, l1[i]? = some u := ⟨_, List.getElem?_eq_getElem (by rw [← O6.out.n]; exact hlt)⟩
                obtain rfl : o2 = o := by
                  have := congrArg (fun l : List O => l[i]?) HL1.out
                  simp only [List.getElem?_map, hx, List.getElem?_drop, ho] at this
                  simpa using this
                have HO := Lib.hid ho; have HX := Lib.hid hx
                have m1 := growO_snoc ho
                have m2 := I6.out.bd (by rw [HK.out]; omega) (by omega) (i := a + i) (by rw [HK.out]; omega)
                have m3 := I6.out.nn (a + i) (by rw [HK.out]; omega)
                have m4 := growU_bd o2.us
                have m5 := (I6.out.wf o2 (List.mem_of_getElem? ho)).n
                obtain ⟨M, hM⟩ : ∃ M, 1000 + growO (os.take (a + i)) = M := ⟨_, rfl⟩
                rw [hM] at m2 m3 ⊢
                have HM2 := Lib.hid (show 1000 + growO (os.take (a + (i + 1))) = M + growU o2.us by rw [← Nat.add_assoc, m1]; omega)
                clear m1 hM hx ho
                go_wp2_with fail
                refine (patc_ok (j := a + i) (I6.out.grow G7.out).is (by rw [HK.out]; omega) (by omega) (by rw [HK.out]; exact hak) HO.out m5 (by push_cast; omega)).mono ?_
                rintro e w8 ⟨A8, c8, rfl, own8, g8⟩
                have G8 := Lib.hid (G7.out.trans g8); have O8 := Lib.hid own8
                clear g8 own8
                go_wp2_with fail
                have hb := heap_alloc_new w8 (.cells #[.int .u32 o2.cl, .int .u64 o2.rq, .slice A8 o2.us.length c8, .bool o2.un] 67)
                have HB := Lib.hid hb
                have G9 := Lib.hid (G8.out.trans (Grow.alloc _ (.cells #[.int .u32 o2.cl, .int .u64 o2.rq, .slice A8 o2.us.length c8, .bool o2.un] 67)))
                refine (length_ok (d := a + i + 1) (m := M + growU o2.us) (I6.out.grow G9.out).is (by rw [HK.out]; omega) (by omega) (by rw [HK.out]; exact hak) (by rw [lensOf_get (by rw [HK.out]; exact hak)]; exact congrArg some HM2.out) (by push_cast; omega)).mono ?_
                rintro e w10 ⟨rfl, g10⟩
                have G10 := Lib.hid (G9.out.trans g10)
                have HB2 := Lib.hid (row_grow HB.out g10)
                have O10 := Lib.hid (own_grow (O8.out.alloc _) g10)
                clear hb g10 HB
                obtain ⟨b1, cb1, hAb⟩ := own_pos O6.out.row (by rw [← O6.out.n]; omega)
                injection hAb with hA1 hA2 hA3
                clear hA2 hA3
                subst hA1
                have X := O6.out.lie.cells HX.out
                have x2 := (X w10 G10.out).2.2.1
                obtain ⟨A7, c7, hv, hL7⟩ := own_form (O6.out.each (o2, v) (List.mem_of_getElem? HX.out))
                simp only at hv hL7
                subst hv
                have HXC := Lib.hid X; have L7 := Lib.hid (hL7.below (w' := w10) G10.out (Nat.le_refl _))
                rw [Nat.zero_add] at x2
                have i0 : (0 : Int) ≤ (i : Int) := by omega
                have i1 : (i : Int) < (n1 : Int) := by omega
                clear X hL7
                go_wp2_with fail
                refine (grows_any L7.out (fun u hu => (I6.out.wf o2 (List.mem_of_getElem? HO.out)).us u hu)).mono ?_
                obtain ⟨gu, hgu⟩ : ∃ gu, growU o2.us = gu := ⟨_, rfl⟩
                rw [hgu] at m4 ⊢
                have HGU := Lib.hid hgu
                rintro e w11 ⟨rfl, g11⟩
                have G11 := Lib.hid (G10.out.trans g11)
                have ws : wrap64 (M + gu) = M + gu := wrap_in (by omega) (by omega)
                clear hgu x2
                go_wp2_with fail
                have Y := fun (j : Nat) (v : Value) (h : ([.int .u32 o2.cl, .int .u64 o2.rq, .slice A8 o2.us.length c8, .bool o2.un] : List Value)[j]? = some v) (W : World) (g : Grow w11 W) => grow_cell (show w10.cell? ⟨w8.heap.size, j, none⟩ = some v by rw [cell_of_row w10 w8.heap.size j _ _ (0, 0) HB2.out]; simpa using h) (g11.trans g)
                have y0 := Y 0 _ rfl
                have y1 := Y 1 _ rfl
                have y2 := Y 2 _ rfl
                have y3 := Y 3 _ rfl
                have z0 := fun W (g : Grow w11 W) => (HXC.out W (G11.out.trans g)).1
                have z1 := fun W (g : Grow w11 W) => (HXC.out W (G11.out.trans g)).2.1
                have z2 := fun W (g : Grow w11 W) => (HXC.out W (G11.out.trans g)).2.2.1
                have z3 := fun W (g : Grow w11 W) => (HXC.out W (G11.out.trans g)).2.2.2
                simp only [Nat.zero_add] at z0 z1 z2 z3
                have L8 := Lib.hid (Lies.of_own O10.out)
                have G1011 := Lib.hid g11
                clear Y g11
                refine Chain.start Nat (by kernel_rfl) (by kernel_rfl) (fun hg => ?_)
                repeat (first | (refine Chain.skip hg (fun t => by rfl) ?_; simp only [Act.put, List.setIfInBounds_toArray, List.set_cons_zero, List.set_cons_succ]) | (refine Chain.pure hg (X := ?_) (fun t W hw hN => ⟨by rfl, ?_⟩) ?_; rotate_left; (focus (go_simp <;> with_reducible rfl)); simp only [Act.put, List.setIfInBounds_toArray, List.set_cons_zero, List.set_cons_succ]))
                refine Chain.grow hg (fun _ => .bool true) (fun _ _ => True) (fun _ _ _ h _ => h) (fun _ => by rfl) (fun t W hw hN K hK => ?_) ?_
                · go_simp; refine (one_eq (L8.out.below (G1011.out.trans hw) (Nat.le_refl _)) (L7.out.below (G1011.out.trans hw) (Nat.le_refl _))).mono ?_; rintro e w9 ⟨rfl, g9⟩; exact hK.out default _ g9 trivial
                simp only [Act.put, List.setIfInBounds_toArray, List.set_cons_zero, List.set_cons_succ]
                repeat (first | (refine Chain.skip hg (fun t => by rfl) ?_; simp only [Act.put, List.setIfInBounds_toArray, List.set_cons_zero, List.set_cons_succ]) | (refine Chain.pure hg (X := ?_) (fun t W hw hN => ⟨by rfl, ?_⟩) ?_; rotate_left; (focus (go_simp <;> with_reducible rfl)); simp only [Act.put, List.setIfInBounds_toArray, List.set_cons_zero, List.set_cons_succ]))
                refine Chain.done (fun t W hw hN => ?_)
                clear hN hg y0 y1 y2 y3 z0 z1 z2 z3
                have GW := Lib.hid (G11.out.trans hw)
                go_wp2
                go_roundw
                case rel => exact ⟨i + 1, by omega, by go_num, by rw [HM2.out, HGU.out], GW.out⟩
                case measure => simp [intOf]; omega
              · obtain rfl : i = n1 := by omega
                go_wp2_with fail
                refine wakes10.mono ?_
                rintro e w8 ⟨rfl, g8⟩
                have G8 := Lib.hid ((G6.out.trans G7.out).trans g8)
                clear g8
                go_wp2
                go_ret
                exact ⟨rfl, G8.out⟩
end Go.Proofs.Ytfpbmpgdpnpdjaa

