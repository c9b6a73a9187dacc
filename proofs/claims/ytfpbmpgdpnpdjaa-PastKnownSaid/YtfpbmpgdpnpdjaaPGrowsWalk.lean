/-
  PastGrows: the walk.
-/
import Derived.Test.YtfpbmpgdpnpdjaaPBeside
namespace Go.Proofs.Ytfpbmpgdpnpdjaa
open Go.RowKit
set_option linter.unusedSimpArgs false

set_option maxRecDepth 100000 in
set_option maxHeartbeats 4000000 in
theorem pastgrows_any {A : Option Addr} {n c x0 x1 x3 : Nat} {l : List (O × Value)} {w : World} (hL : OpsLie w (fun k => k < w.heap.size) A n c l) (hwf : ∀ x ∈ l, OWf x.1) (hx3 : x3 < 256) :
    Calls Try.prog 9 #[.int .u64 x0, .int .u16 x1, .slice A n c, .int .u8 x3] w fun e w' => e = .returned (.bool true) ∧ Grow w w' := by
  have hle := hL.row.le
  have hbig := hL.row.big
  have hln := hL.row.ocs_len
  have HL := Lib.hid hL; have HLN := Lib.hid hln; have HWF := Lib.hid hwf
  obtain ⟨q, hq⟩ : ∃ q, x0 % 549755813888 = q := ⟨_, rfl⟩
  obtain ⟨m0, hm0⟩ : ∃ m0 : Nat, x1 % 4097 = m0 := ⟨_, rfl⟩
  have hq2 : q < 549755813888 := by omega
  have hm2 : m0 ≤ 4096 := by omega
  have t0 : Int.tmod (x0 : Int) 549755813888 = (q : Int) := by rw [← hq]; exact (Int.ofNat_tmod x0 549755813888).symm
  have t1 : Int.tmod (x1 : Int) 4097 = (m0 : Int) := by rw [← hm0]; exact (Int.ofNat_tmod x1 4097).symm
  clear hL hln hwf hq hm0
  go_enter Try.func9, Try.ntmps9
  go_wp2_with fail
  refine (new_inv (q := q) rfl (by omega) (by omega)).mono ?_
  rintro e w1 ⟨p, rfl, hI, g1⟩
  have HI := Lib.hid hI; have G1 := Lib.hid g1
  have BE := Lib.hid (show Beside (w1.alloc (.cells #[.int .i64 (m0 : Int)] 3)) (fun k => k = w1.heap.size) (anew w w1) (.slice none 0 0) (.slice (some ⟨w1.heap.size, 0, none⟩) 1 1) [] (lensOf m0 []) from
    ⟨OpsOwn.nil _ _, by
      have := own_lit w1 3 #[.int .i64 (m0 : Int)] 1 1 rfl (by decide)
      simpa [lensOf, growO, ins] using this, fun g hg => by injection hg with hg; exact hg.symm, fun k hk hs => by have := hs.2; omega, fun k hk => by subst hk; exact (Array.getElem?_eq_some_iff.1 (heap_alloc_new w1 _)).1⟩)
  have HI2 := Lib.hid (HI.out.grow (Grow.alloc w1 (.cells #[.int .i64 (m0 : Int)] 3))); have G2 := Lib.hid (g1.trans (Grow.alloc w1 (.cells #[.int .i64 (m0 : Int)] 3)))
  have SZ1 := Lib.hid g1.size
  clear hI g1 t0 t1
  go_wp2
  go_loopw [9, 12, 13, 14] (fun m a b i wr => ∃ (j : Nat) (S T : Nat → Prop) (os : List O) (la : List (O × Value)), j ≤ n ∧ j ≤ 60 ∧ i = .int .i64 j ∧ m = .int .i64 ((m0 : Int) + growO os) ∧ os.length ≤ j ∧ Hid (PInv wr S p q m0 os) ∧ Hid (∀ k, S k → w.heap.size ≤ k) ∧ Hid (∀ k, T k → w.heap.size ≤ k) ∧ Hid (Beside wr T S a b la (lensOf m0 os)) ∧ Hid (la.map (·.1) = os) ∧ Grow w wr) (fun _ _ _ i _ => n - (intOf i).toNat)
  case atStart => exact ⟨0, anew w w1, fun k => k = w1.heap.size, [], [], Nat.zero_le _, by omega, rfl, by simp [growO], Nat.zero_le _, HI2, fun k hk => hk.1, fun k hk => by rw [hk]; exact SZ1.out, BE, rfl, G2.out⟩
  case round =>
    obtain ⟨j, S, T, os, la, hj, hj2, rfl, rfl, hos, hI, hS, hT, hB, hla, hg⟩ := hrel
    have G3 := Lib.hid hg
    clear hg HI HI2 BE G1 G2
    obtain ⟨k, hk⟩ : ∃ k, os.length = k := ⟨_, rfl⟩
    obtain ⟨AV, cV, rfl⟩ : ∃ A c, _ = Value.slice A k c := by
      obtain ⟨A, c, h, -⟩ := own_form hB.out.all.row
      have := congrArg List.length hla.out
      rw [List.length_map, hk] at this
      rw [this] at h
      exact ⟨A, c, h⟩
    obtain ⟨gB, cB, rfl⟩ : ∃ g c, _ = Value.slice (some ⟨g, 0, none⟩) (k + 1) c := by
      have h := hB.out.len
      rw [lensOf_len, hk] at h
      exact own_pos h (by omega)
    have HK := Lib.hid hk
    rw [hk] at hos
    clear hk
    by_cases hlt : j < n ∧ j < 60
    · obtain ⟨hlt, hlt2⟩ := hlt
      obtain ⟨⟨o, v⟩, hx⟩ : ∃ u, l[j]? = some u := ⟨_, List.getElem?_eq_getElem (by have := HLN.out; omega)⟩
      obtain ⟨A2, n2, c2, hv, hL2, hA2⟩ := HL.out.each (o, v) (List.mem_of_getElem? hx)
      simp only at hv hL2
      subst hv
      have HO := Lib.hid (HWF.out _ (List.mem_of_getElem? hx))
      obtain ⟨b, off, rfl, hbs, hcell⟩ := HL.out.row.pos (by omega) (by decide)
      have XC := Lib.hid (HL.out.cells hx)
      obtain ⟨y0, y1, y2, y3⟩ := XC.out wr G3.out
      have L2 := Lib.hid hL2; have HA2 := Lib.hid hA2
      have dj : decide ((j : Int) < 60) = true := by simp; omega
      have dj2 : decide (j < 60) = true := by simp; omega
      obtain ⟨z, hz⟩ : ∃ z : Int, (q : Int) + (k : Int) = z := ⟨_, rfl⟩
      have HZ := Lib.hid hz
      have hz1 : z ≤ 549755813948 := by omega
      have hz0 : 0 ≤ z := by omega
      clear hx hcell hL2 hA2 hz
      go_wp2_with fail
      refine (pnow_z (z := z) hI.out.is (by omega) (by rw [HK.out]; omega) (by rw [HK.out]; exact HZ.out)).mono ?_
      rintro e w3 ⟨rfl, rfl⟩
      go_wp2_with fail
      refine (push_cases hI.out (L2.out.below G3.out (Nat.le_refl _)) (fun a ha h0 hs => by have h1 : a.block < w.heap.size := HA2.out a ha h0; have h2 := hS.out _ hs; omega) HO.out (by omega) (by rw [HK.out]; omega) (by rw [HK.out]; omega)).mono ?_
      rintro e w3 (⟨he, hI3, g3⟩ | ⟨ye, hye, rfl, g3⟩)
      · have ez : (q : Int) + ((os.length + 1 : Nat) : Int) = z + 1 := by rw [HK.out]; have := HZ.out; push_cast; omega
        rw [ez] at he
        subst he
        have B4 := Lib.hid (hB.out.pushed g3)
        have I3 := Lib.hid hI3; have G4 := Lib.hid (g3.over G3.out hS.out)
        have S3 : Hid (∀ k, plus S wr w3 k → w.heap.size ≤ k) := fun k hk => hk.elim (fun h => hS.out k h) (fun h => by have := G3.out.size; have := h.1; omega)
        have SL : Hid (∀ k, plus S wr w3 k → k < w3.heap.size) := hI3.is.lt
        clear hI3 g3 y0 y1 y2 y3 ez
        obtain ⟨y0, y1, y2, y3⟩ := XC.out w3 G4.out
        go_wp2_with fail
        refine (pnow_z (z := z + 1) I3.out.is (by omega) (by simp [HK.out]; omega) (by have := HZ.out; simp [HK.out]; omega)).mono ?_
        rintro e w4 ⟨rfl, rfl⟩
        go_wp2_with fail
        have hn40 : n2 * 40 ≤ 140737488355328 := by have := L2.out.uns_len; have := HO.out.n; omega
        refine (rown_any (L2.out.below G4.out (Nat.le_refl _)) hn40).mono ?_
        rintro e w5 ⟨A9, c9, rfl, own9, g5⟩
        have B5 := Lib.hid (B4.out.grow g5); have I5 := Lib.hid (I3.out.grow g5); have G5 := Lib.hid (G4.out.trans g5); have O9 := Lib.hid own9; have SZ5 := Lib.hid g5.size
        have HAP := Lib.hid (own_apart B4.out.all.row own9)
        have hlk : la.length = k := by have := congrArg List.length hla.out; rw [List.length_map, HK.out] at this; exact this
        have HLK := Lib.hid hlk
        have hn9 := L2.out.uns_len
        have HN9 := Lib.hid hn9
        clear g5 own9 y0 y1 y2 y3 hlk hn9
        go_wp2_with (
          at_builtin
          refine wpList_appO rfl (.tmp 94) (.tmp 100) rfl 0 _ k la rfl (by have := B5.out.all.row; rw [HLK.out] at this; exact own_grow this (Grow.alloc _ _)) (some ⟨w5.heap.size, 0, none⟩) 1 1 [(o, .slice A9 n2 c9)] rfl (lies_op o _ rfl) (by simp [Value.oneCell']) (by omega) (Nat.zero_le _) ?_
          intro AV2 cV2 w6 own6 gr6 fr6
          have ga : Grow w5 (w5.alloc (.cells #[.int .u32 o.cl, .int .u64 o.rq, .slice A9 n2 c9, .bool o.un] 67)) := Grow.alloc _ _
          have sza := ga.size
          have B6 := Lib.hid (((B5.out.grow ga).more (w0 := w3) SL.out).addO (o := o) (v := .slice A9 n2 c9) (fun i hi => by have := SL.out i hi; have := SZ5.out; omega) (by rw [HN9.out]; exact own_grow (O9.out.mono (Nat.zero_le _)) ga) (fun g hg => .inl (.inr ⟨(O9.out.lt g hg).1, Nat.lt_of_lt_of_le (O9.out.lt g hg).2 sza⟩)) HAP.out gr6 fr6 (by rw [HLK.out]; exact own6))
          have I6 := Lib.hid ((I5.out.grow ga).keep (gr6.wide (T := fun i => (Value.slice AV k cV).ownBlock = some i) (fun _ h => h)) (fun i hi hr => B5.out.apart i (B5.out.all.rowIn i hr) hi))
          have G6 := Lib.hid (grown_new gr6 (G5.out.trans ga) (fun i hi => hT.out i (B5.out.all.rowIn i hi)))
          have T6 : Hid (∀ i, plus (plus T w3 (w5.alloc (.cells #[.int .u32 o.cl, .int .u64 o.rq, .slice A9 n2 c9, .bool o.un] 67))) (w5.alloc (.cells #[.int .u32 o.cl, .int .u64 o.rq, .slice A9 n2 c9, .bool o.un] 67)) w6 i → w.heap.size ≤ i) := fun i hi => hi.elim (fun h => h.elim (hT.out i) (fun h => by have := G4.out.size; have := h.1; omega)) (fun h => by have := G5.out.size; have := h.1; omega)
          generalize plus (plus T w3 (w5.alloc (.cells #[.int .u32 o.cl, .int .u64 o.rq, .slice A9 n2 c9, .bool o.un] 67))) (w5.alloc (.cells #[.int .u32 o.cl, .int .u64 o.rq, .slice A9 n2 c9, .bool o.un] 67)) w6 = TT at *
          have SZ6 := Lib.hid (show w3.heap.size ≤ w6.heap.size by have := gr6.size; have := SZ5.out; omega)
          clear own6 gr6 fr6 ga sza B5 I5
          obtain ⟨y0, y1, y2, y3⟩ := XC.out w6 G6.out
          go_wp2_with fail
          refine (grows_any (L2.out.below G6.out (Nat.le_refl _)) HO.out.us).mono ?_
          rintro e w7 ⟨rfl, g7⟩
          have B7 := Lib.hid (B6.out.grow g7); have I7 := Lib.hid (I6.out.grow g7); have G7 := Lib.hid (G6.out.trans g7); have SZ7 := Lib.hid (Nat.le_trans SZ6.out g7.size)
          clear g7 y0 y1 y2 y3
          have gb := growU_bd o.us
          have gc := HO.out.n
          have gd := hI.out.bd (by rw [HK.out]; omega) (by omega) (Nat.le_refl os.length)
          have ge := hI.out.nn os.length (Nat.le_refl _)
          rw [List.take_length] at gd ge
          obtain ⟨gu, hgu⟩ : ∃ gu, growU o.us = gu := ⟨_, rfl⟩
          rw [hgu] at gb ⊢
          obtain ⟨M, hM⟩ : ∃ M, (m0 : Int) + growO os = M := ⟨_, rfl⟩
          rw [hM] at gd ge ⊢
          have ws : wrap64 (M + gu) = M + gu := wrap_in (by omega) (by omega)
          have HM := Lib.hid hM; have HGU := Lib.hid hgu; have HWS := Lib.hid ws
          clear hgu hM gd ge gb gc
          go_wp2_with (
            at_builtin
            refine wpList_appI rfl (.tmp 110) (.tmp 112) rfl 0 _ (k + 1) (lensOf m0 os) rfl (by have := B7.out.len; rw [lensOf_len, HK.out] at this; exact own_grow this (Grow.alloc _ _)) (some ⟨w7.heap.size, 0, none⟩) 1 1 [M + gu] rfl (lies_box1 (heap_alloc_new w7 _) rfl rfl) (by omega) (Nat.zero_le _) ?_
            intro AB2 cB2 w8 own8 gr8 fr8
            have ga : Grow w7 (w7.alloc (.cells #[.int .i64 (M + gu)] 3)) := Grow.alloc _ _
            have sza := ga.size
            have elen : lensOf m0 os ++ [M + gu] = lensOf m0 (os ++ [o]) := by rw [← lensOf_snoc, HGU.out, HM.out]
            have B8 := Lib.hid ((B7.out.grow ga).addI (m := M + gu) (fun i hi => by have := SL.out i hi; have := SZ7.out; omega) gr8 fr8 (by rw [lensOf_len, HK.out]; exact own8))
            rw [elen] at B8
            have I8 := Lib.hid ((I7.out.grow ga).keep (gr8.wide (T := fun i => (Value.slice (some ⟨gB, 0, none⟩) (k + 1) cB).ownBlock = some i) (fun _ h => h)) (fun i hi hr => B7.out.apart i (B7.out.lenIn i hr) hi))
            have G8 := Lib.hid (grown_new gr8 (G7.out.trans ga) (fun i hi => T6 i (B7.out.lenIn i hi)))
            have T8 : Hid (∀ i, plus TT (w7.alloc (.cells #[.int .i64 (M + gu)] 3)) w8 i → w.heap.size ≤ i) := fun i hi => hi.elim (T6 i) (fun h => by have := G7.out.size; have := h.1; omega)
            clear own8 gr8 fr8 ga sza elen ws
            go_wp2
            go_roundw
            case rel => exact ⟨j + 1, _, _, os ++ [o], _, by omega, by omega, by go_num, by rw [growO_app, growO_one, HGU.out, ← Int.add_assoc, HM.out, HWS.out], by simp [HK.out]; omega, I8, S3, T8, B8, Lib.hid (by rw [List.map_append, hla.out]; rfl), G8.out⟩
            case measure => simp [intOf]; omega))
      · have G4 := Lib.hid (G3.out.trans g3); have I3 := Lib.hid (hI.out.grow g3); have B4 := Lib.hid (hB.out.grow g3)
        clear g3 y0 y1 y2 y3
        rcases hye with rfl | rfl
        all_goals
          go_wp2_with fail
          refine (pnow_z (z := z) I3.out.is (by omega) (by rw [HK.out]; omega) (by rw [HK.out]; exact HZ.out)).mono ?_
          rintro e w4 ⟨rfl, rfl⟩
          go_wp2
          go_roundw
          case rel => exact ⟨j + 1, _, _, _, _, by omega, by omega, by go_num, rfl, by rw [HK.out]; omega, I3, hS, hT, B4, hla, G4.out⟩
          case measure => simp [intOf]; omega
    · go_upto_region 9 with fail
      go_cut [52] (fun s W => s = .bool false ∧ W = wr)
      case first =>
        have key : ¬ j < n ∨ (j < n ∧ j = 60) := by omega
        rcases key with h1 | ⟨h1, rfl⟩
        all_goals
          go_wp2
          go_meet
          exact ⟨rfl, rfl⟩
      case rest =>
        obtain ⟨rfl, rfl⟩ := hcut
        have hk60 : k ≤ 60 := by omega
        have H40 := Lib.hid (show ∀ o ∈ os, o.us.length * 40 ≤ 140737488355328 from fun o ho => (hI.out.wf o ho).n)
        clear hos hj2 hlt
        go_wp2_with fail
        refine (copy_any hI.out.is (by rw [HK.out]; omega) H40.out).mono ?_
        rintro e w4 ⟨p2, rfl, hQ, g4⟩
        have Q4 := Lib.hid hQ; have I4 := Lib.hid (hI.out.grow g4); have G4 := Lib.hid (G3.out.trans g4); have B4 := Lib.hid (hB.out.grow g4)
        have SLT : Hid (∀ i, S i → i < wc.heap.size) := hI.out.is.lt
        have TLT : Hid (∀ i, T i → i < wc.heap.size) := hB.out.lt
        clear hQ g4
        obtain ⟨wn, hwn⟩ : ∃ wn, k - x3 = wn := ⟨_, rfl⟩
        have hwk : wn ≤ k := by omega
        have HWN := Lib.hid hwn
        go_wp2_with fail
        refine (drop_any (went := wn) Q4.out (by rw [HK.out]; omega) (by omega) (by rw [HK.out]; exact hwn) (by omega)).mono ?_
        rintro e w5 ⟨rfl, S', hQ, hS', g5⟩
        have Q5 := Lib.hid hQ
        have I5 := Lib.hid (I4.out.keep g5 (fun i hi hs => by have := SLT.out i hi; have := hs.1; omega))
        have B5 := Lib.hid (B4.out.keep g5 (fun i hi hs => by have := TLT.out i hi; have := hs.1; omega))
        have G5 := Lib.hid (g5.over G4.out (fun i hi => by have := hi.1; have := G3.out.size; omega))
        obtain ⟨z, hz⟩ : ∃ z : Int, (q : Int) + (k : Int) = z := ⟨_, rfl⟩
        have HZ := Lib.hid hz
        have hz1 : z ≤ 549755813948 := by omega
        have hz0 : 0 ≤ z := by omega
        clear hQ hS' g5 hz hwn
        go_upto_region 23 with fail
        go_cut [152] (fun s W => s = .bool false ∧ W = w5)
        case first =>
          by_cases hxk : x3 < k
          · have e0 : ((wn : Int) != (k : Int) - (x3 : Int)) = false := by have := HWN.out; simp; omega
            go_wp2_with fail
            refine (pfrom_z (z := (q : Int) + (wn : Int)) Q5.out (by push_cast; rfl)).mono ?_
            rintro e w6 ⟨rfl, rfl⟩
            go_wp2_with fail
            refine (pnow_z (z := z) Q5.out (by omega) (by rw [List.length_drop, HK.out]; omega) (by rw [List.length_drop, HK.out]; have := HZ.out; push_cast; omega)).mono ?_
            rintro e w6 ⟨rfl, rfl⟩
            go_wp2_with fail
            refine (pnow_z (z := z) I5.out.is (by omega) (by rw [HK.out]; omega) (by rw [HK.out]; exact HZ.out)).mono ?_
            rintro e w6 ⟨rfl, rfl⟩
            go_wp2_with fail
            refine (plen_z (z := (k : Int) - (wn : Int)) Q5.out (by rw [List.length_drop, HK.out]; omega)).mono ?_
            rintro e w6 ⟨rfl, rfl⟩
            go_wp2
            go_meet
            exact ⟨rfl, rfl⟩
          · have e0 : ((wn : Int) != 0) = false := by have := HWN.out; simp; omega
            have e1 : (wn != 0) = false := by have := HWN.out; simp; omega
            go_wp2_with fail
            refine (pfrom_z (z := (q : Int) + (wn : Int)) Q5.out (by push_cast; rfl)).mono ?_
            rintro e w6 ⟨rfl, rfl⟩
            go_wp2_with fail
            refine (pnow_z (z := z) Q5.out (by omega) (by rw [List.length_drop, HK.out]; omega) (by rw [List.length_drop, HK.out]; have := HZ.out; push_cast; omega)).mono ?_
            rintro e w6 ⟨rfl, rfl⟩
            go_wp2_with fail
            refine (pnow_z (z := z) I5.out.is (by omega) (by rw [HK.out]; omega) (by rw [HK.out]; exact HZ.out)).mono ?_
            rintro e w6 ⟨rfl, rfl⟩
            go_wp2_with fail
            refine (plen_z (z := (k : Int) - (wn : Int)) Q5.out (by rw [List.length_drop, HK.out]; omega)).mono ?_
            rintro e w6 ⟨rfl, rfl⟩
            go_wp2
            go_meet
            exact ⟨rfl, rfl⟩
        case rest =>
          obtain ⟨rfl, rfl⟩ := hcut
          have H5 : Hid (∀ o ∈ os.drop wn, o.us.length * 40 ≤ 140737488355328) := fun o ho => H40.out o (List.mem_of_mem_drop ho)
          have HLA := Lib.hid (show la.length = k by have := congrArg List.length hla.out; rw [List.length_map, HK.out] at this; exact this)
          go_wp2
          go_loopw [20] (fun s wr => ∃ i : Nat, i ≤ k + 1 ∧ s = .int .i64 i ∧ Grow wc wr) (fun s _ => k + 1 - (intOf s).toNat)
          case atStart => exact ⟨0, Nat.zero_le _, rfl, Grow.refl _⟩
          case round =>
            obtain ⟨i, hi, rfl, hg⟩ := hrel
            have G6 := Lib.hid hg
            clear hg
            by_cases hlt : i ≤ k
            · have i0 : (0 : Int) ≤ (i : Int) := by omega
              have i1 : (i : Int) < (k : Int) + 1 := by omega
              have i2 : (i : Int) ≤ (k : Int) := by omega
              go_wp2_with fail
              refine (since_ok (d := i) (I5.out.grow G6.out).is (by rw [HK.out]; omega) H40.out (by omega) (by rw [HK.out]; exact hlt) rfl).mono ?_
              rintro e w6 ⟨A1, n1, c1, l1, rfl, hl1, own1, g6⟩
              have G7 := Lib.hid (G6.out.trans g6); have O1 := Lib.hid own1; have HL1 := Lib.hid hl1
              clear g6 own1 hl1
              obtain ⟨M, hM⟩ : ∃ M, (m0 : Int) + growO (os.take i) = M := ⟨_, rfl⟩
              have hM0 : 0 ≤ M := by rw [← hM]; exact I5.out.nn i (by rw [HK.out]; exact hlt)
              have HLI := Lib.hid (show (lensOf m0 os)[i]? = some M by rw [lensOf_get (by rw [HK.out]; exact hlt), hM])
              clear hM
              go_wp2_with fail
              refine (length_ok (d := i) (m := M) (I5.out.grow G7.out).is (by rw [HK.out]; omega) (by omega) (by rw [HK.out]; exact hlt) HLI.out rfl).mono ?_
              rintro e w7 ⟨rfl, g7⟩
              have G8 := Lib.hid (G7.out.trans g7); have O2 := Lib.hid (O1.out.grow g7)
              clear g7 O1
              go_wp2_with fail
              by_cases hiw : i < wn
              · refine (since_err (refuses_gone (Q5.out.grow G8.out) (by rw [List.length_drop, HK.out]; omega) (by omega) (by rw [List.length_drop, HK.out]; push_cast; omega) (by omega) (.inl rfl) (by push_cast; omega))).mono ?_
                rintro e w8 ⟨rfl, g8⟩
                have G9 := Lib.hid (G8.out.trans g8); have O3 := Lib.hid (O2.out.grow g8)
                clear g8 O2
                go_upto_region 32 with fail
                go_cut [206] (fun s W => s = .bool false ∧ Grow w8 W)
                case first =>
                  have B9 := Lib.hid (B5.out.grow G9.out)
                  have hlc : w8.cell? ⟨gB, i, none⟩ = some (.int .i64 M) := by
                    have h := B9.out.len
                    rw [lensOf_len, HK.out] at h
                    have := (Lies.of_own h).cells _ rfl i (.int .i64 M) (by simp [ins, HLI.out])
                    rwa [add_none, Nat.zero_add] at this
                  have hnm : decide (M < 0) = false := by simp; omega
                  have hall := B9.out.all.lie
                  have hlecV := hall.row.le
                  have hbgcV := hall.row.big
                  have hfr := hall.fromG i hlt
                  have hsm : l1.map (·.1) = (la.drop i).map (·.1) := by rw [HL1.out, List.map_drop, hla.out]
                  have HFR := Lib.hid hfr; have HSM := Lib.hid hsm
                  clear hfr hsm hall
                  by_cases hcd : cV = i
                  · subst hcd
                    have HF := Lib.hid (show OpsLie w8 _ AV 0 0 (la.drop cV) by have := HFR.out; rw [if_pos rfl, Nat.sub_self, show k - cV = 0 by omega] at this; exact this)
                    go_wp2_with fail
                    refine (osame_eq O3.out.lie HF.out HSM.out).mono ?_
                    rintro e w9 ⟨rfl, g9⟩
                    have GG := Lib.hid g9
                    clear g9
                    go_wp2
                    go_meet
                    exact ⟨rfl, GG.out⟩
                  · have HF := Lib.hid (show OpsLie w8 _ (AV.map fun x => x.add (i * 4)) (k - i) (cV - i) (la.drop i) by have := HFR.out; rw [if_neg hcd] at this; exact this)
                    go_wp2_with fail
                    refine (osame_eq O3.out.lie HF.out HSM.out).mono ?_
                    rintro e w9 ⟨rfl, g9⟩
                    have GG := Lib.hid g9
                    clear g9
                    go_wp2
                    go_meet
                    exact ⟨rfl, GG.out⟩
                case rest =>
                  obtain ⟨rfl, hgc⟩ := hcut
                  have GN := Lib.hid (G9.out.trans hgc)
                  clear hgc
                  have d1 : decide ((i : Int) < (wn : Int)) = true := by simp; omega
                  have d2 : decide (i < wn) = true := by simp; omega
                  go_wp2
                  go_roundw
                  case rel => exact ⟨i + 1, by omega, by go_num, GN.out⟩
                  case measure => simp [intOf]; omega
              · refine (since_ok (d := i - wn) (Q5.out.grow G8.out) (by rw [List.length_drop, HK.out]; omega) H5.out (by omega) (by rw [List.length_drop, HK.out]; omega) (by push_cast; omega)).mono ?_
                rintro e w8 ⟨A4, n4, c4, l4, rfl, hl4, own4, g8⟩
                have G9 := Lib.hid (G8.out.trans g8); have O3 := Lib.hid (O2.out.grow g8); have O4 := Lib.hid own4
                have HL4 := Lib.hid (show l4.map (·.1) = l1.map (·.1) by rw [hl4, HL1.out, List.drop_drop, show wn + (i - wn) = i by omega])
                clear g8 O2 own4 hl4
                go_upto_region 32 with fail
                go_cut [206] (fun s W => s = .bool false ∧ Grow w8 W)
                case first =>
                  have B9 := Lib.hid (B5.out.grow G9.out)
                  have hlc : w8.cell? ⟨gB, i, none⟩ = some (.int .i64 M) := by
                    have h := B9.out.len
                    rw [lensOf_len, HK.out] at h
                    have := (Lies.of_own h).cells _ rfl i (.int .i64 M) (by simp [ins, HLI.out])
                    rwa [add_none, Nat.zero_add] at this
                  have hnm : decide (M < 0) = false := by simp; omega
                  have hall := B9.out.all.lie
                  have hlecV := hall.row.le
                  have hbgcV := hall.row.big
                  have hfr := hall.fromG i hlt
                  have hsm : l1.map (·.1) = (la.drop i).map (·.1) := by rw [HL1.out, List.map_drop, hla.out]
                  have HFR := Lib.hid hfr; have HSM := Lib.hid hsm
                  clear hfr hsm hall
                  by_cases hcd : cV = i
                  · subst hcd
                    have HF := Lib.hid (show OpsLie w8 _ AV 0 0 (la.drop cV) by have := HFR.out; rw [if_pos rfl, Nat.sub_self, show k - cV = 0 by omega] at this; exact this)
                    go_wp2_with fail
                    refine (osame_eq O3.out.lie HF.out HSM.out).mono ?_
                    rintro e w9 ⟨rfl, g9⟩
                    have GG := Lib.hid g9
                    clear g9
                    go_wp2
                    go_meet
                    exact ⟨rfl, GG.out⟩
                  · have HF := Lib.hid (show OpsLie w8 _ (AV.map fun x => x.add (i * 4)) (k - i) (cV - i) (la.drop i) by have := HFR.out; rw [if_neg hcd] at this; exact this)
                    go_wp2_with fail
                    refine (osame_eq O3.out.lie HF.out HSM.out).mono ?_
                    rintro e w9 ⟨rfl, g9⟩
                    have GG := Lib.hid g9
                    clear g9
                    go_wp2
                    go_meet
                    exact ⟨rfl, GG.out⟩
                case rest =>
                  obtain ⟨rfl, hgc⟩ := hcut
                  have O5 := Lib.hid (O3.out.grow hgc); have O6 := Lib.hid (O4.out.grow hgc)
                  have GN := Lib.hid (G9.out.trans hgc)
                  clear hgc
                  have d1 : decide ((i : Int) < (wn : Int)) = false := by simp; omega
                  have d2 : decide (i < wn) = false := by simp; omega
                  have d3 : decide ((wn : Int) ≤ (i : Int)) = true := by simp; omega
                  go_wp2_with fail
                  refine (osame_eq O6.out.lie O5.out.lie HL4.out).mono ?_
                  rintro e w9 ⟨rfl, g9⟩
                  have GO := Lib.hid (GN.out.trans g9)
                  clear g9
                  go_wp2
                  go_roundw
                  case rel => exact ⟨i + 1, by omega, by go_num, GO.out⟩
                  case measure => simp [intOf]; omega
            · obtain rfl : i = k + 1 := by omega
              go_wp2_with fail
              refine (pnow_z (z := z) (I5.out.grow G6.out).is (by omega) (by rw [HK.out]; omega) (by rw [HK.out]; exact HZ.out)).mono ?_
              rintro e w6 ⟨rfl, rfl⟩
              go_wp2_with fail
              refine (since_err (refuses_rev (I5.out.grow G6.out).is (by rw [HK.out]; omega) (by omega) (by rw [HK.out]; have := HZ.out; omega))).mono ?_
              rintro e w7 ⟨rfl, g7⟩
              have G7 := Lib.hid ((G5.out.trans G6.out).trans g7)
              clear g7
              go_wp2_with fail
              refine wakes10.mono ?_
              rintro e w10 ⟨rfl, g10⟩
              have G10 := Lib.hid (G7.out.trans g10)
              clear g10
              go_wp2
              go_ret
              exact ⟨rfl, G10.out⟩
end Go.Proofs.Ytfpbmpgdpnpdjaa

