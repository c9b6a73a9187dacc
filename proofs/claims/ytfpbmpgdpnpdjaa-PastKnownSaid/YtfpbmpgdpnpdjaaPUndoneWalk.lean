/-
  PastUndone: the walk.
-/
import Derived.Test.YtfpbmpgdpnpdjaaPPartsWalk
namespace Go.Proofs.Ytfpbmpgdpnpdjaa
open Go.RowKit
set_option linter.unusedSimpArgs false

theorem undoO_len (os : List O) (j : Nat) : (undoO os j).length = os.length := by simp [undoO]
theorem undoO_get (os : List O) (j i : Nat) : (undoO os j)[i]? = (os[i]?).map fun o => if i = j then { o with un := true } else o := by
  unfold undoO
  rw [List.getElem?_modify]
  cases os[i]? with
  | none => rfl
  | some o =>
    simp only [Option.map_some, Option.map_eq_map]
    by_cases h : i = j
    · rw [if_pos h.symm, if_pos h]
    · rw [if_neg (fun e => h e.symm), if_neg h]
theorem undoO_twice (os : List O) (j : Nat) : undoO (undoO os j) j = undoO os j := by
  refine List.ext_getElem? fun i => ?_
  rw [undoO_get, undoO_get]
  cases os[i]? with
  | none => rfl
  | some o =>
    simp only [Option.map_some]
    split <;> rfl
theorem undoO_us {os : List O} {j : Nat} {o : O} (h : o ∈ undoO os j) : ∃ x ∈ os, o.us = x.us := by
  obtain ⟨i, hi⟩ := List.mem_iff_getElem?.1 h
  rw [undoO_get] at hi
  cases hx : os[i]? with
  | none => rw [hx] at hi; cases hi
  | some x =>
    rw [hx] at hi
    simp only [Option.map_some, Option.some.injEq] at hi
    refine ⟨x, List.mem_of_getElem? hx, ?_⟩
    rw [← hi]
    split <;> rfl
theorem OpsOwn.setUn {w : World} {S : Nat → Prop} {g c n i : Nat} {l : List (O × Value)} {o : O} {v : Value} (h : OpsOwn w S (.slice (some ⟨g, 0, none⟩) n c) l) (hi : l[i]? = some (o, v)) (b : Bool) :
    OpsOwn (w.setCell ⟨g, i * 4 + 3, none⟩ (.bool b)) S (.slice (some ⟨g, 0, none⟩) n c) (l.set i ({ o with un := b }, v)) := by
  have hn := own_len h.row
  subst hn
  obtain ⟨hs1, hs2⟩ := h.row.stored (i * 4 + 3) (.bool b)
  rw [ocs_set l i o v b hi] at hs1
  have gs : GrowS (fun i => i = g) w (w.setCell ⟨g, i * 4 + 3, none⟩ (.bool b)) := GrowS.setCell (T := fun i => i = g) w (p := ⟨g, i * 4 + 3, none⟩) rfl _
  have hmem : ∀ x ∈ l.set i ({ o with un := b }, v), ∃ y ∈ l, x.2 = y.2 ∧ x.1.us = y.1.us := fun x hx => by
    rcases List.mem_or_eq_of_mem_set hx with hx | rfl
    · exact ⟨x, hx, rfl, rfl⟩
    · exact ⟨(o, v), List.mem_of_getElem? hi, rfl, rfl⟩
  refine ⟨by rw [List.length_set]; exact hs1, h.rowIn, fun x hx => ?_, fun x hx => ?_, fun x hx => ?_⟩
  · obtain ⟨y, hy, e1, e2⟩ := hmem x hx
    rw [e1, e2]
    exact gs.own (h.each y hy) (fun k hk e => h.apart y hy g rfl (e ▸ hk))
  · obtain ⟨y, hy, e1, e2⟩ := hmem x hx
    rw [e1]
    exact h.eachIn y hy
  · obtain ⟨y, hy, e1, e2⟩ := hmem x hx
    rw [e1]
    exact h.apart y hy
theorem setUn_map {l : List (O × Value)} {os : List O} {i j : Nat} {o : O} {v : Value} {b : Bool} (hl : l.map (·.1) = (undoO os j).take i ++ os.drop i) (ho : os[i]? = some o) (hb : (undoO os j)[i]? = some { o with un := b }) :
    (l.set i ({ o with un := b }, v)).map (·.1) = (undoO os j).take (i + 1) ++ os.drop (i + 1) := by
  have hlt : i < os.length := (List.getElem?_eq_some_iff.1 ho).1
  have ht : ((undoO os j).take i).length = i := by rw [List.length_take, undoO_len]; omega
  rw [List.map_set, hl, List.set_append_right _ _ (by omega), ht, Nat.sub_self, List.take_add_one, hb, List.append_assoc]
  congr 1
  rw [List.drop_eq_getElem_cons hlt]
  rfl
set_option maxRecDepth 100000 in
set_option maxHeartbeats 4000000 in
theorem pastundone_any {A : Option Addr} {n c x : Nat} {l : List (O × Value)} {w : World} (hL : OpsLie w (fun k => k < w.heap.size) A n c l) (hwf : ∀ x ∈ l, OWf x.1) (hx : x < 256) :
    Calls Try.prog 10 #[.slice A n c, .int .u8 x] w fun e w' => e = .returned (.bool true) ∧ Grow w w' := by
  have hle := hL.row.le
  have hbig := hL.row.big
  have hln := hL.row.ocs_len
  have HL := Lib.hid hL; have HLN := Lib.hid hln; have HWF := Lib.hid hwf
  clear hL hln hwf
  go_enter Try.func10, Try.ntmps10
  go_wp2_with fail
  refine (new_inv (q := 0) rfl (by omega) (by omega)).mono ?_
  rintro e w1 ⟨p, rfl, hI, g1⟩
  have HI := Lib.hid hI; have G1 := Lib.hid g1
  clear hI g1
  go_wp2
  go_loopw [7] (fun i wr => ∃ (j : Nat) (S : Nat → Prop) (os : List O), j ≤ n ∧ j ≤ 40 ∧ i = .int .i64 j ∧ os.length ≤ j ∧ Hid (PInv wr S p 0 100 os) ∧ Hid (∀ k, S k → w.heap.size ≤ k) ∧ Hid (∀ o ∈ os, o.un = false) ∧ Grow w wr) (fun i _ => n - (intOf i).toNat)
  case atStart => exact ⟨0, _, [], Nat.zero_le _, by omega, rfl, Nat.zero_le _, HI, fun k hk => hk.1, fun _ h => (by cases h), G1.out⟩
  case round =>
    obtain ⟨j, S, os, hj, hj2, rfl, hos, hI, hS, hun, hg⟩ := hrel
    have G2 := Lib.hid hg
    clear hg
    by_cases hlt : j < n ∧ j < 40
    · obtain ⟨hlt, hlt2⟩ := hlt
      obtain ⟨⟨o, v⟩, hx⟩ : ∃ u, l[j]? = some u := ⟨_, List.getElem?_eq_getElem (by have := HLN.out; omega)⟩
      obtain ⟨A2, n2, c2, hv, hL2, hA2⟩ := HL.out.each (o, v) (List.mem_of_getElem? hx)
      simp only at hv hL2
      subst hv
      have HO := Lib.hid (HWF.out _ (List.mem_of_getElem? hx))
      obtain ⟨b, off, rfl, hbs, hcell⟩ := HL.out.row.pos (by omega) (by decide)
      obtain ⟨x0, x1, x2, x3⟩ := HL.out.cells hx wr G2.out
      have L2 := Lib.hid (hL2.below (w' := wr) G2.out (Nat.le_refl _)); have HA2 := Lib.hid hA2
      have dj : decide ((j : Int) < 40) = true := by simp; omega
      have dj2 : decide (j < 40) = true := by simp; omega
      have ga : Grow wr (wr.alloc (.cells #[.int .u32 o.cl, .int .u64 o.rq, .slice A2 n2 c2, .bool false] 67)) := Grow.alloc _ _
      have GA := Lib.hid ga
      clear hx hcell hL2 hA2 ga
      go_wp2_with fail
      refine (push_cases (o := { o with un := false }) (hI.out.grow GA.out) (L2.out.below GA.out (Nat.le_refl _)) (fun a ha h0 hs => by have h1 : a.block < w.heap.size := HA2.out a ha h0; have h2 := hS.out _ hs; omega) ⟨HO.out.cl, HO.out.rq, HO.out.us, HO.out.n⟩ (by omega) (by omega) (by omega)).mono ?_
      rintro e w3 (⟨rfl, hI3, g3⟩ | ⟨ye, hye, rfl, g3⟩)
      · have I3 := Lib.hid hI3; have G3 := Lib.hid (g3.over (G2.out.trans GA.out) hS.out)
        have S3 : Hid (∀ k, plus S (wr.alloc (.cells #[.int .u32 o.cl, .int .u64 o.rq, .slice A2 n2 c2, .bool false] 67)) w3 k → w.heap.size ≤ k) := fun k hk => hk.elim (fun h => hS.out k h) (fun h => by have := G2.out.size; have := GA.out.size; have := h.1; omega)
        have U3 : Hid (∀ x ∈ os ++ [({ o with un := false } : O)], x.un = false) := fun x hx => by
          rcases List.mem_append.1 hx with hx | hx
          · exact hun.out x hx
          · simp at hx; subst hx; rfl
        clear hI3 g3 x0 x1 x2 x3
        go_wp2
        go_roundw
        case rel => exact ⟨j + 1, _, _, by omega, by omega, by go_num, by simp; omega, I3, S3, U3, G3.out⟩
        case measure => simp [intOf]; omega
      · have G3 := Lib.hid ((G2.out.trans GA.out).trans g3); have I3 := Lib.hid (hI.out.grow (GA.out.trans g3))
        clear g3 x0 x1 x2 x3 hye
        go_wp2
        go_roundw
        case rel => exact ⟨j + 1, _, _, by omega, by omega, by go_num, by omega, I3, hS, hun, G3.out⟩
        case measure => simp [intOf]; omega
    · go_upto_region 5 with fail
      go_cut [31] (fun s W => s = .bool false ∧ W = wr)
      case first =>
        have key : ¬ j < n ∨ (j < n ∧ j = 40) := by omega
        rcases key with h1 | ⟨h1, rfl⟩
        all_goals
          go_wp2
          go_meet
          exact ⟨rfl, rfl⟩
      case rest =>
        obtain ⟨rfl, rfl⟩ := hcut
        go_wp2_with fail
        refine (plen_at hI.out.is).mono ?_
        rintro e w3 ⟨rfl, rfl⟩
        obtain ⟨k, hk⟩ : ∃ k, os.length = k := ⟨_, rfl⟩
        rw [hk]
        have hk40 : k ≤ 40 := by omega
        have HK := Lib.hid hk
        clear hk hos hj2
        by_cases hk0 : k = 0
        · subst hk0
          go_wp2_with fail
          refine (undo_err (refuses_gone hI.out.is (by rw [HK.out]; omega) (by omega) (by rw [HK.out]; decide) (by omega) (.inr rfl) (by decide))).mono ?_
          rintro e w3 ⟨rfl, g3⟩
          have I3 := Lib.hid (hI.out.grow g3); have G3 := Lib.hid (G2.out.trans g3)
          clear g3
          go_wp2_with fail
          refine (undo_err (refuses_rev I3.out.is (by rw [HK.out]; omega) (by omega) (by rw [HK.out]; decide))).mono ?_
          rintro e w4 ⟨rfl, g4⟩
          have G4 := Lib.hid (G3.out.trans g4)
          clear g4
          go_wp2_with fail
          refine wakes10.mono ?_
          rintro e w8 ⟨rfl, g8⟩
          have G8 := Lib.hid (G4.out.trans g8)
          clear g8
          go_wp2
          go_ret
          exact ⟨rfl, G8.out⟩
        · obtain ⟨j, hj⟩ : ∃ j, x % k = j := ⟨_, rfl⟩
          have hjk : j < k := by have := Nat.mod_lt x (show 0 < k by omega); omega
          have ta : Int.tmod (x : Int) (k : Int) = (j : Int) := by rw [← hj]; exact (Int.ofNat_tmod x k).symm
          have nz : ((k : Int) == 0) = false := by simp; omega
          have nz2 : (k == 0) = false := by simp; omega
          have H40 := Lib.hid (show ∀ o ∈ os, o.us.length * 40 ≤ 140737488355328 from fun o ho => (hI.out.wf o ho).n)
          have H41 : Hid (∀ o ∈ undoO os j, o.us.length * 40 ≤ 140737488355328) := fun o ho => by
            obtain ⟨y, hy, e⟩ := undoO_us ho
            rw [e]; exact H40.out y hy
          obtain ⟨o, ho⟩ : ∃ o, os[j]? = some o := ⟨_, List.getElem?_eq_getElem (by rw [HK.out]; exact hjk)⟩
          have HOJ := Lib.hid ho
          have HUNJ := Lib.hid (hun.out o (List.mem_of_getElem? ho))
          clear hj ho
          go_wp2_with fail
          refine (plen_at hI.out.is).mono ?_
          rw [HK.out]
          rintro e w3 ⟨rfl, rfl⟩
          go_wp2_with fail
          refine (copy_any hI.out.is (by rw [HK.out]; omega) H40.out).mono ?_
          rintro e w3 ⟨p2, rfl, hQ, g3⟩
          have Q3 := Lib.hid hQ; have I3 := Lib.hid (hI.out.grow g3); have G3 := Lib.hid (G2.out.trans g3)
          have SLT : Hid (∀ k, S k → k < wc.heap.size) := hI.out.is.lt
          clear hQ g3 ta
          go_wp2_with fail
          refine (undo_at (j := j) (o := o) (z := 0) (os2 := undoO os j) I3.out.is (by rw [HK.out]; omega) (by omega) HOJ.out (by push_cast; omega) (by rw [HUNJ.out]; rfl) rfl).mono ?_
          rintro e w4 ⟨rfl, hP, g4⟩
          have P4 := Lib.hid hP; have G4 := Lib.hid (g4.over G3.out hS.out)
          have Q4 := Lib.hid (Q3.out.keep g4 (fun i hi hs => by have := SLT.out i hs; have := hi.1; omega))
          clear hP g4
          go_wp2_with fail
          refine (undo_at (j := j) (o := { o with un := true }) (z := 34) (os2 := undoO os j) P4.out (by rw [undoO_len, HK.out]; omega) (by omega) (by rw [undoO_get, HOJ.out]; simp) (by push_cast; omega) rfl (undoO_twice os j)).mono ?_
          rintro e w5 ⟨rfl, hP, g5⟩
          have P5 := Lib.hid hP; have G5 := Lib.hid (g5.over G4.out hS.out)
          have Q5 := Lib.hid (Q4.out.keep g5 (fun i hi hs => by have := SLT.out i hs; have := hi.1; omega))
          clear hP g5
          go_wp2_with fail
          refine (since_ok (d := 0) P5.out (by rw [undoO_len, HK.out]; omega) H41.out (by omega) (Nat.zero_le _) rfl).mono ?_
          rintro e w6 ⟨A1, n1, c1, l1, rfl, hl1, own1, g6⟩
          rw [List.drop_zero] at hl1
          have hn1 : n1 = k := by rw [own1.n]; have := congrArg List.length hl1; rw [List.length_map, undoO_len, HK.out] at this; exact this
          subst hn1
          have P6 := Lib.hid (P5.out.grow g6); have Q6 := Lib.hid (Q5.out.grow g6); have G6 := Lib.hid (G5.out.trans g6); have O1 := Lib.hid own1.within; have HL1 := Lib.hid hl1
          have SZ3 := Lib.hid (show ∀ i, anew wc w3 i → i < w6.heap.size from fun i hi => Q6.out.lt i hi)
          clear g6 own1 hl1
          go_wp2_with fail
          refine (since_ok (d := 0) Q6.out (by rw [HK.out]; omega) H40.out (by omega) (Nat.zero_le _) rfl).mono ?_
          rintro e w7 ⟨A2, n2, c2, l2, rfl, hl2, own2, g7⟩
          rw [List.drop_zero] at hl2
          have hn2 : n2 = n1 := by rw [own2.n]; have := congrArg List.length hl2; rw [List.length_map, HK.out] at this; exact this
          subst hn2
          have P7 := Lib.hid (P6.out.grow g7); have Q7 := Lib.hid (Q6.out.grow g7); have G7 := Lib.hid (G6.out.trans g7); have O2 := Lib.hid own2.within; have HL2 := Lib.hid hl2
          have O3 := Lib.hid (O1.out.grow g7)
          have SZ7 := Lib.hid g7.size
          clear g7 own2 hl2 O1
          go_wp2_with fail
          refine (plen_at P7.out).mono ?_
          rw [undoO_len, HK.out]
          rintro e w8 ⟨rfl, rfl⟩
          have hn2 : 0 < n2 := by omega
          obtain ⟨b1, cb1, hb1⟩ := own_pos O3.out.row (by rw [← O3.out.n]; exact hn2)
          injection hb1 with hA1 hB1 hC1
          clear hB1 hC1
          subst hA1
          obtain ⟨b2, cb2, hb2⟩ := own_pos O2.out.row (by rw [← O2.out.n]; exact hn2)
          injection hb2 with hA2 hB2 hC2
          clear hB2 hC2
          subst hA2
          have L1N := Lib.hid O3.out.n.symm
          go_wp2
          go_loopw [17] (fun s wr => ∃ (i : Nat) (lm : List (O × Value)), i ≤ n2 ∧ s = .int .i64 i ∧ Hid (OpsOwn wr (anew w6 w7) (.slice (some ⟨b2, 0, none⟩) n2 c2) lm) ∧ Hid (lm.map (·.1) = (undoO os j).take i ++ os.drop i) ∧ GrowS (anew w6 w7) w7 wr) (fun s _ => n2 - (intOf s).toNat)
          case atStart => exact ⟨0, l2, Nat.zero_le _, rfl, O2, Lib.hid (by rw [HL2.out]; rfl), GrowS.refl _ _⟩
          case round =>
            obtain ⟨i, lm, hi, rfl, OM, HLM, hg⟩ := hrel
            have GT := Lib.hid hg
            clear hg
            by_cases hlt : i < n2
            · obtain ⟨oi, hoi⟩ : ∃ o, os[i]? = some o := ⟨_, List.getElem?_eq_getElem (by rw [HK.out]; exact hlt)⟩
              obtain ⟨b, hb⟩ : ∃ b, decide (i = j) = b := ⟨_, rfl⟩
              have hui : (undoO os j)[i]? = some { oi with un := b } := by
                rw [undoO_get, hoi, ← hb]
                have hu := hun.out oi (List.mem_of_getElem? hoi)
                by_cases h : i = j
                · simp [h]
                · obtain ⟨a1, a2, a3, a4⟩ := oi
                  simp only at hu
                  subst hu
                  simp [h]
              obtain ⟨⟨u1, v1⟩, hx1⟩ : ∃ u, l1[i]? = some u := ⟨_, List.getElem?_eq_getElem (by rw [L1N.out]; exact hlt)⟩
              obtain rfl : u1 = { oi with un := b } := by
                have := congrArg (fun l : List O => l[i]?) HL1.out
                simp only [List.getElem?_map, hx1, hui] at this
                simpa using this
              obtain ⟨⟨u2, v2⟩, hx2⟩ : ∃ u, lm[i]? = some u := ⟨_, List.getElem?_eq_getElem (by rw [← OM.out.n]; exact hlt)⟩
              obtain rfl : u2 = oi := by
                have := congrArg (fun l : List O => l[i]?) HLM.out
                simp only [List.getElem?_map, hx2] at this
                have ht : ((undoO os j).take i).length = i := by rw [List.length_take, undoO_len, HK.out]; omega
                rw [List.getElem?_append_right (by omega), ht, Nat.sub_self, List.getElem?_drop, Nat.add_zero, hoi] at this
                simpa using this
              have OL := Lib.hid (O3.out.keep GT.out (fun q h1 h2 => by have := h1.2; have := h2.1; omega))
              have y3 := (OL.out.lie.cells hx1 wr (Grow.refl _)).2.2.2
              have z3 := (OM.out.lie.cells hx2 wr (Grow.refl _)).2.2.2
              have fz := (show wr.ownsRow 0 67 4 (.slice (some ⟨b2, 0, none⟩) n2 c2) n2 (ocs lm) by have := OM.out.row; rw [← OM.out.n] at this; exact this).frozenAt (i * 4 + 3)
              rw [Nat.zero_add] at y3 z3
              rw [hun.out _ (List.mem_of_getElem? hoi)] at z3
              simp only at y3
              have eb : ((i : Int) + 1 == 1 + (j : Int)) = b := by rw [← hb]; by_cases h : i = j <;> simp [h] <;> omega
              have i0 : (0 : Int) ≤ (i : Int) := by omega
              have i1 : (i : Int) < (n2 : Int) := by omega
              have OM2 := Lib.hid (OM.out.setUn hx2 b)
              have gs : GrowS (anew w6 w7) wr (wr.setCell ⟨b2, i * 4 + 3, none⟩ (.bool b)) := GrowS.setCell (T := anew w6 w7) _ (p := ⟨b2, i * 4 + 3, none⟩) (OM.out.rowIn b2 rfl) _
              have GS := Lib.hid gs
              have OL2 := Lib.hid (OL.out.keep gs (fun q h1 h2 => by have := h1.2; have := h2.1; omega))
              have HLM2 := Lib.hid (setUn_map (v := v2) HLM.out hoi hui)
              have HX1 := Lib.hid hx1
              have HX2 := Lib.hid (show (lm.set i ({ u2 with un := b }, v2))[i]? = some ({ u2 with un := b }, v2) by rw [List.getElem?_set_self (List.getElem?_eq_some_iff.1 hx2).1])
              clear hoi hb hui hx1 hx2 gs
              go_upto_region 25 with fail
              generalize wr.setCell ⟨b2, i * 4 + 3, none⟩ (.bool b) = W at *
              clear y3 z3 fz eb
              obtain ⟨A7, c7, hv1, L7⟩ := own_form (OL2.out.each _ (List.mem_of_getElem? HX1.out))
              obtain ⟨A8, c8, hv2, L8⟩ := own_form (OM2.out.each _ (List.mem_of_getElem? HX2.out))
              simp only at hv1 hv2 L7 L8
              subst hv1 hv2
              have X := fun (V : World) (g : Grow W V) => OL2.out.lie.cells HX1.out V g
              have Y := fun (V : World) (g : Grow W V) => OM2.out.lie.cells HX2.out V g
              simp only [Nat.zero_add] at X Y
              have x0 := fun V g => (X V g).1
              have x1 := fun V g => (X V g).2.1
              have x2 := fun V g => (X V g).2.2.1
              have x3 := fun V g => (X V g).2.2.2
              have y0 := fun V g => (Y V g).1
              have y1 := fun V g => (Y V g).2.1
              have y2 := fun V g => (Y V g).2.2.1
              have y3 := fun V g => (Y V g).2.2.2
              have H7 := Lib.hid L7; have H8 := Lib.hid L8
              clear X Y L7 L8
              refine Chain.start Nat (by kernel_rfl) (by kernel_rfl) (fun hg => ?_)
              repeat (first | (refine Chain.skip hg (fun t => by rfl) ?_; simp only [Act.put, List.setIfInBounds_toArray, List.set_cons_zero, List.set_cons_succ]) | (refine Chain.pure hg (X := ?_) (fun t W hw hN => ⟨by rfl, ?_⟩) ?_; rotate_left; (focus (go_simp <;> with_reducible rfl)); simp only [Act.put, List.setIfInBounds_toArray, List.set_cons_zero, List.set_cons_succ]))
              refine Chain.grow hg (fun _ => .bool true) (fun _ _ => True) (fun _ _ _ h _ => h) (fun _ => by rfl) (fun t W hw hN K hK => ?_) ?_
              · go_simp; refine (one_eq (H7.out.below hw (Nat.le_refl _)) (H8.out.below hw (Nat.le_refl _))).mono ?_; rintro e w9 ⟨rfl, g9⟩; exact hK.out default _ g9 trivial
              simp only [Act.put, List.setIfInBounds_toArray, List.set_cons_zero, List.set_cons_succ]
              repeat (first | (refine Chain.skip hg (fun t => by rfl) ?_; simp only [Act.put, List.setIfInBounds_toArray, List.set_cons_zero, List.set_cons_succ]) | (refine Chain.pure hg (X := ?_) (fun t W hw hN => ⟨by rfl, ?_⟩) ?_; rotate_left; (focus (go_simp <;> with_reducible rfl)); simp only [Act.put, List.setIfInBounds_toArray, List.set_cons_zero, List.set_cons_succ]))
              refine Chain.done (fun t V hw hN => ?_)
              clear hN hg x0 x1 x2 x3 y0 y1 y2 y3
              have GW := Lib.hid ((GT.out.trans GS.out).trans (hw.wide _))
              have OM3 := Lib.hid (OM2.out.grow hw)
              go_wp2
              go_roundw
              case rel => exact ⟨i + 1, _, by omega, by go_num, OM3, HLM2, GW.out⟩
              case measure => simp [intOf]; omega
            · obtain rfl : i = n2 := by omega
              have Q8 := Lib.hid (Q7.out.keep GT.out (fun q h1 h2 => by have := SZ3.out q h1; have := h2.1; omega))
              have G8 := Lib.hid (GT.out.over G7.out (fun q h => by have h1 := h.1; have h2 := G6.out.size; omega))
              go_wp2_with fail
              refine (undo_at (j := j) (o := o) (z := 0) (os2 := undoO os j) Q8.out (by rw [HK.out]; omega) (by omega) HOJ.out (by push_cast; omega) (by rw [HUNJ.out]; rfl) rfl).mono ?_
              rintro e w9 ⟨rfl, hQ, g9⟩
              have G9 := Lib.hid (g9.over G8.out (fun q h => by have h1 := h.1; have h2 := G2.out.size; omega))
              clear hQ g9
              go_wp2_with fail
              refine wakes10.mono ?_
              rintro e w10 ⟨rfl, g10⟩
              have G10 := Lib.hid (G9.out.trans g10)
              clear g10
              go_wp2
              go_ret
              exact ⟨rfl, G10.out⟩
end Go.Proofs.Ytfpbmpgdpnpdjaa

