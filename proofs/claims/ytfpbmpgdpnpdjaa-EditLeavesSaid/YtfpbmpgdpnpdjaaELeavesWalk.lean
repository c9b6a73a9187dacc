/-
  edit: the walk of EditLeaves.
-/
import Derived.Test.YtfpbmpgdpnpdjaaLeavesP
import Derived.Test.YtfpbmpgdpnpdjaaEJoinsWalk
import Derived.Test.YtfpbmpgdpnpdjaaEMakesWalk
namespace Go.Proofs.Ytfpbmpgdpnpdjaa
open Go.RowKit
set_option linter.unusedSimpArgs false

theorem toGrow4 {w w' : World} (h : Below w.heap.size w w') : Grow w w' := h
theorem at_add (a : Addr) (m n : Nat) : (a.add m).add n = a.add (m + n) := by
  by_cases hm : m = 0 <;> by_cases hn : n = 0 <;> simp [Addr.add, hm, hn, Nat.add_assoc]
theorem Lies.fromC {w : World} {A : Option Addr} {n c : Nat} {cs : List Int} (h : Lies w 1 A n c (chs cs)) (i : Nat) (hi : i ≤ n) : Lies w 1 (if c = i then A else A.map (fun x => x.add i)) (n - i) (c - i) (chs (cs.drop i)) := by
  have hl := h.chs_len
  have hle := h.le
  have hbig := h.big
  have hlen : (chs (cs.drop i)).length = (n - i) * 1 := by rw [Proofs.Ytfpbmpgdpnpdjaa.chs_len, List.length_drop]; omega
  by_cases hc : c = i
  · rw [if_pos hc]
    refine ⟨hlen, fun _ => by omega, by omega, by omega, fun a ha x u hu => ?_⟩
    have := (List.getElem?_eq_some_iff.1 hu).1
    omega
  · rw [if_neg hc]
    refine ⟨hlen, fun h0 => ?_, by omega, by omega, fun a ha x u hu => ?_⟩
    · have := h.nilc (by simpa using h0)
      omega
    · obtain ⟨a0, rfl⟩ : ∃ a0, A = some a0 := by cases A with | none => cases ha | some a0 => exact ⟨a0, rfl⟩
      injection ha with ha
      subst ha
      rw [at_add]
      exact h.cells a0 rfl (i + x) u (by unfold chs at hu ⊢; rw [List.map_drop, List.getElem?_drop] at hu; exact hu)
theorem apply_back {p k : Nat} {cl rq : Int} {ts cs : List Int} (hp : p ≤ ts.length) (hp2 : p ≤ 1000) (hk : cs.length = k) (hk2 : k ≤ 1000) (hall : ∀ c ∈ cs, mayI c = true) : applyR (unitsOf 1 p cl rq cs ++ unitsOf 2 p cl rq (List.replicate k 0)) ts = some ts := by
  rw [applyR_app _ _ _ _ (apply_typed hp hp2 k cs hk hk2 hall), apply_erased hp2 k _ (by simp; omega)]
  rw [List.append_assoc, List.take_left' (by simp; omega), ← List.append_assoc, List.drop_left' (by simp; omega), List.take_append_drop]
theorem apply_swap {p n k : Nat} {cl rq : Int} {ts cs : List Int} (hp : p + n ≤ ts.length) (hp2 : p ≤ 1000) (hk : cs.length = k) (hk2 : k ≤ 1000) (hall : ∀ c ∈ cs, mayI c = true) : applyR (unitsOf 2 p cl rq (List.replicate n 0) ++ unitsOf 1 p cl rq cs) ts = some (ts.take p ++ cs ++ ts.drop (p + n)) := by
  rw [applyR_app _ _ _ _ (apply_erased hp2 n ts hp), apply_typed (by simp; omega) hp2 k cs hk hk2 hall]
  rw [List.take_left' (by simp; omega), List.drop_left' (by simp; omega)]
set_option maxRecDepth 100000 in
set_option maxHeartbeats 4000000 in
set_option linter.unusedVariables false in
theorem editleaves_any {A B : Option Addr} {na ca nb cb x1 x2 : Nat} {ts0 cs0 : List Int} {cl rq : Int} {w : World} (hA : Lies w 1 A na ca (chs ts0)) (hB : Lies w 1 B nb cb (chs cs0)) (hx1 : x1 < 65536) (hx2 : x2 < 65536) :
    Calls Try.prog 7 #[.slice A na ca, .int .u16 x1, .int .u16 x2, .slice B nb cb, .agg #[.int .u32 cl, .int .u64 rq]] w fun e w' => e = .returned (.bool true) ∧ Below w.heap.size w w' := by
  have hle := hA.le
  have hbig := hA.big
  have hle2 := hB.le
  have hbig2 := hB.big
  obtain ⟨m, hm, hmn, hm1⟩ := cut_min na 300 300 rfl
  obtain ⟨k, hk, hkn, hk1⟩ := cut_min nb 100 100 rfl
  have hA2 := hA.takeC m hmn
  have hB2 := hB.takeC k hkn
  obtain ⟨ts, hts⟩ : ∃ ts, ts0.take m = ts := ⟨_, rfl⟩
  obtain ⟨cs, hcs⟩ : ∃ cs, cs0.take k = cs := ⟨_, rfl⟩
  rw [hts] at hA2
  rw [hcs] at hB2
  obtain ⟨p, hp, hpm⟩ : ∃ p : Nat, (x1 : Int).tmod ((m : Int) + 1) = (p : Int) ∧ p ≤ m := ⟨x1 % (m + 1), by rw [show ((m : Int) + 1) = ((m + 1 : Nat) : Int) by push_cast; rfl]; exact (Int.ofNat_tmod x1 (m + 1)).symm, by have := Nat.mod_lt x1 (show 0 < m + 1 by omega); omega⟩
  obtain ⟨q, hq, hq1⟩ : ∃ q : Nat, (x2 : Int).tmod 100 = (q : Int) ∧ q < 100 := ⟨x2 % 100, (Int.ofNat_tmod x2 100).symm, Nat.mod_lt _ (by omega)⟩
  obtain ⟨n, hn, hn1, hn2⟩ : ∃ n : Nat, (if (m : Int) - (p : Int) < (q : Int) then (m : Int) - (p : Int) else (q : Int)) = (n : Int) ∧ n < 100 ∧ p + n ≤ m := ⟨min (m - p) q, by split <;> omega, by omega, by omega⟩
  have LA := Lib.hid hA2; have LB := Lib.hid hB2
  have NA := Lib.hid hA2.chs_len; have NB := Lib.hid hB2.chs_len
  clear hA hB hA2 hB2 hts hcs
  go_enter Try.func7, Try.ntmps7
  go_upto_region 1 with fail
  have i0 : (0 : Int) ≤ (m : Int) := by omega
  have i1 : (m : Int) ≤ (na : Int) := by omega
  have i2 : (m : Int) ≤ (ca : Int) := by omega
  have i3 : (0 : Int) ≤ (k : Int) := by omega
  have i4 : (k : Int) ≤ (nb : Int) := by omega
  have i5 : (k : Int) ≤ (cb : Int) := by omega
  refine Chain.start Nat (by kernel_rfl) (by kernel_rfl) (fun hg => ?_)
  repeat (first | (refine Chain.skip hg (fun t => by rfl) ?_; simp only [Act.put, List.setIfInBounds_toArray, List.set_cons_zero, List.set_cons_succ]) | (refine Chain.pure hg (X := ?_) (fun t W hw hN => ⟨by rfl, ?_⟩) ?_; rotate_left; (focus (go_simp <;> with_reducible rfl)); simp only [Act.put, List.setIfInBounds_toArray, List.set_cons_zero, List.set_cons_succ]))
  refine Chain.done (fun t W hw hN => ?_)
  clear hN hg hm hk i0 i1 i2 i3 i4 i5
  have GI := Lib.hid hw
  have G0 := Lib.hid ((Grow.alloc w _).trans hw)
  clear hw
  go_upto_region 2 with fail
  go_cut [11] (fun s11 wc => s11 = .int .i64 p ∧ W = wc)
  case first =>
    have HP := Lib.hid hp
    clear hp hn hq
    go_wp2
    go_meet
    refine ⟨?_, rfl⟩
    have h := HP.out
    first
      | (rw [h])
      | (rw [← Int.tmod_eq_emod_of_nonneg (Int.natCast_nonneg x1), h])
  case rest =>
    obtain ⟨rfl, rfl⟩ := hcut
    go_upto_region 3 with fail
    go_cut [12] (fun s12 wc => s12 = .int .i64 n ∧ W = wc)
    case first =>
      have HN := Lib.hid hn; have HQ := Lib.hid hq
      clear hn hq hp
      go_wp2
      all_goals
        go_meet
        refine ⟨?_, rfl⟩
        have h1 := HN.out
        have h2 := HQ.out
        rw [Int.tmod_eq_emod_of_nonneg (Int.natCast_nonneg x2)] at h2
        rw [h2] at h
        clear HN HQ
        congr 1
        split at h1
        · omega
        · omega
    case rest =>
      obtain ⟨rfl, rfl⟩ := hcut
      clear hp hq hn
      obtain ⟨i0, i1⟩ := id_cells GI.out
      go_wp2_with fail
      refine (ptype_any (LB.out.below G0.out (Nat.le_refl _))).mono ?_
      rintro e w1 ⟨A1, m1, c1, rfl, own1, g1⟩
      have G1 := Lib.hid (G0.out.trans g1); have GI1 := Lib.hid (GI.out.trans g1); have O1 := Lib.hid own1; have LO1 := Lib.hid (Lies.of_own own1)
      have hl1 := (Lies.of_own own1).uns_len
      have hkk := NB.out; have htt := NA.out
      clear own1 g1 i0 i1
      by_cases hall : cs.all mayI = true
      · have hE : errT (p : Int) cs = 0 := by simp only [errT, if_neg (show ¬ (p : Int) < 0 by omega), if_neg (show ¬ 256 < cs.length by omega), if_pos hall]
        have hR : resT (p : Int) cl rq cs = unitsOf 1 p cl rq cs := by simp [resT, hE]
        rw [hR, unitsOf_len, hkk] at hl1
        subst hl1
        rw [hR] at O1 LO1
        rw [hE]
        have HALL := Lib.hid ((all_iff cs).1 hall)
        have ET := Lib.hid hE; have RT := Lib.hid hR
        clear hE hR hall
        obtain ⟨i0, i1⟩ := id_cells GI1.out
        go_wp2_with fail
        refine (perase_any (n := (k : Int))).mono ?_
        have hE2 : errE (p : Int) (k : Int) = 0 := by simp only [errE, if_neg (show ¬ ((p : Int) < 0 ∨ (k : Int) < 0) by omega), if_neg (show ¬ 256 < (k : Int) by omega)]
        have hR2 : resE (p : Int) (k : Int) cl rq = unitsOf 2 p cl rq (List.replicate k 0) := by simp [resE, hE2]
        rw [hE2, hR2]
        rintro e w2 ⟨A2, m2, c2, rfl, own2, g2⟩
        have G2 := Lib.hid (G1.out.trans g2); have GI2 := Lib.hid (GI1.out.trans g2); have D2 := Lib.hid g2; have L2 := Lib.hid (Lies.of_own own2)
        have hl2 := (Lies.of_own own2).uns_len
        rw [unitsOf_len, List.length_replicate] at hl2
        subst hl2
        clear own2 g2 i0 i1 hE2 hR2
        go_wp2_with fail
        refine (grows_k (LO1.out.below D2.out (Nat.le_refl _)) (kind_units (.inl rfl))).mono ?_
        rw [grow_typed _ _ _ _ _ rfl, NB.out]
        rintro e w3 ⟨rfl, g3⟩
        have G3 := Lib.hid (G2.out.trans g3); have D3 := Lib.hid g3
        clear g3
        go_wp2_with fail
        refine (grows_k (L2.out.below D3.out (Nat.le_refl _)) (kind_units (.inr rfl))).mono ?_
        rw [grow_erased]
        rintro e w4 ⟨rfl, g4⟩
        have G4 := Lib.hid (G3.out.trans g4); have D4 := Lib.hid (D3.out.trans g4)
        clear g4
        go_upto_region 10 with fail
        have HF1 := Lib.hid (fits_of (B := 1048576) (unitsOf 1 (p : Int) cl rq cs ++ unitsOf 2 (p : Int) cl rq (List.replicate k 0)) ts (by have h1 := NA.out; have h2 := NB.out; rw [List.length_append, unitsOf_len, unitsOf_len, List.length_replicate]; omega))
        have HAP := Lib.hid (apply_back (p := p) (k := k) (cl := cl) (rq := rq) (ts := ts) (cs := cs) (by have h1 := NA.out; omega) (by omega) (by have h2 := NB.out; omega) (by omega) HALL.out)
        have LU := Lib.hid (LO1.out.below (D2.out.trans D4.out) (Nat.le_refl _))
        have LV := Lib.hid (L2.out.below D4.out (Nat.le_refl _))
        go_wp2_with (first
          | (at_builtin; refine wpList_appU rfl (.const (.slice none 0 0)) (.tmp 92) rfl w4.heap.size _ 0 [] rfl (own_nilU _ _) A1 k c1 _ rfl LU.out (by omega) (Nat.le_refl _) ?_; intro A5 c5 w5 own5 L5 bel5; simp only [Nat.zero_add, List.nil_append] at own5; have O5 := Lib.hid own5; have G45 := Lib.hid (toGrow4 (bel5 _ _ (Grow.refl _) (Nat.le_refl _))); clear own5 L5 bel5)
          | (at_builtin; refine wpList_appU rfl (.tmp 93) (.tmp 94) rfl w4.heap.size _ k _ rfl O5.out A2 k c2 _ rfl (LV.out.below G45.out (Nat.le_refl _)) (by omega) G45.out.size ?_; intro A6 c6 w6 own6 L6 bel6; have LC := Lib.hid L6; have G46 := Lib.hid (toGrow4 (bel6 _ _ G45.out (Nat.le_refl _))); clear own6 L6 bel6))
        refine (r08apply_any LC.out (LA.out.below (G4.out.trans G46.out) (Nat.le_refl _)) HF1.out).mono ?_
        rintro e w7 ⟨A7, n7, c7, r7, rfl, g7, h7⟩
        have G7 := Lib.hid (G4.out.trans (G46.out.trans g7)); have D7 := Lib.hid (D4.out.trans (G46.out.trans g7))
        rcases h7 with ⟨h7, rfl⟩ | ⟨s, hs, rfl, l7⟩
        · rw [HAP.out] at h7; cases h7
        rw [HAP.out] at hs
        injection hs with hs
        subst hs
        have L7 := Lib.hid l7
        clear l7 g7
        go_wp2_with fail
        refine (same_at true (by simp) L7.out (LA.out.below G7.out (Nat.le_refl _))).mono ?_
        rintro e w8 ⟨rfl, g8⟩
        have G8 := Lib.hid (G7.out.trans g8); have GI8 := Lib.hid (GI2.out.trans (D7.out.trans g8))
        clear g8
        obtain ⟨i0, i1⟩ := id_cells GI8.out
        obtain ⟨e1, e2⟩ : errR (p : Int) (n : Int) cs = 0 ∧ resR (p : Int) (n : Int) cl rq cs = unitsOf 2 p cl rq (List.replicate n 0) ++ unitsOf 1 p cl rq cs := by
          have hE2 : errE (p : Int) (n : Int) = 0 := by simp only [errE, if_neg (show ¬ ((p : Int) < 0 ∨ (n : Int) < 0) by omega), if_neg (show ¬ 256 < (n : Int) by omega)]
          have hR2 : resE (p : Int) (n : Int) cl rq = unitsOf 2 p cl rq (List.replicate n 0) := by simp [resE, hE2]
          obtain ⟨_, _, _, h⟩ := errR_0 (cs := cs) cl rq hE2 ET.out
          obtain ⟨h1, h2⟩ := h (by have := NB.out; omega)
          rw [hR2, RT.out] at h2
          exact ⟨h1, h2⟩
        go_wp2_with fail
        refine (preplace_any (n := (n : Int)) (LB.out.below G8.out (Nat.le_refl _)) ⟨by omega, by omega⟩).mono ?_
        rw [e1, e2]
        rintro e w9 ⟨A9, m9, c9, rfl, own9, g9⟩
        have G9 := Lib.hid (G8.out.trans g9); have L9 := Lib.hid (Lies.of_own own9)
        have hl9 := (Lies.of_own own9).uns_len
        rw [List.length_append, unitsOf_len, unitsOf_len, List.length_replicate, NB.out] at hl9
        subst hl9
        clear own9 g9 i0 i1 e1 e2
        have HW := Lib.hid (show wrap64 ((k : Int) - (n : Int)) = (k : Int) - (n : Int) from wrap_in (by omega) (by omega))
        go_wp2_with fail
        refine (grows_k L9.out fun u hu => (List.mem_append.1 hu).elim (kind_units (.inr rfl) u) (kind_units (.inl rfl) u)).mono ?_
        rw [growU_app, grow_erased, grow_typed _ _ _ _ _ rfl, NB.out]
        rintro e w10 ⟨rfl, g10⟩
        have G10 := Lib.hid (G9.out.trans g10); have D10 := Lib.hid g10
        clear g10
        have f1 : ((-(n : Int) + (k : Int)) != (k : Int) - (n : Int)) = false := by simp; omega
        have w1' := HW.out
        go_wp2_with fail
        clear f1 w1'
        have HF2 := Lib.hid (fits_of (B := 1048576) (unitsOf 2 (p : Int) cl rq (List.replicate n 0) ++ unitsOf 1 (p : Int) cl rq cs) ts (by have h1 := NA.out; have h2 := NB.out; rw [List.length_append, unitsOf_len, unitsOf_len, List.length_replicate]; omega))
        have HAS := Lib.hid (apply_swap (p := p) (n := n) (k := k) (cl := cl) (rq := rq) (ts := ts) (cs := cs) (by have h1 := NA.out; omega) (by omega) (by have h2 := NB.out; omega) (by omega) HALL.out)
        refine (r08apply_any (L9.out.below D10.out (Nat.le_refl _)) (LA.out.below G10.out (Nat.le_refl _)) HF2.out).mono ?_
        rintro e w11 ⟨A11, n11, c11, r11, rfl, g11, h11⟩
        have G11 := Lib.hid (G10.out.trans g11)
        rcases h11 with ⟨h11, rfl⟩ | ⟨s, hs, rfl, l11⟩
        · rw [HAS.out] at h11; cases h11
        rw [HAS.out] at hs
        injection hs with hs
        have HS := Lib.hid hs
        have L11 := Lib.hid l11
        clear l11 g11 hs
        go_upto_region 17 with fail
        have hca := LA.out.le
        have i0 : (0 : Int) ≤ (p : Int) := by omega
        have i1 : (p : Int) ≤ (ca : Int) := by omega
        have i2 : (0 : Int) ≤ (p : Int) + (n : Int) := by omega
        have i3 : (p : Int) + (n : Int) ≤ (m : Int) := by omega
        have i4 : (m : Int) ≤ (ca : Int) := by omega
        have wa : wrap64 ((p : Int) + (n : Int)) = (p : Int) + (n : Int) := wrap_in (by omega) (by omega)
        have wa2 : IntKind.i64.wrap ((p : Int) + (n : Int)) = (p : Int) + (n : Int) := by rw [IntWalk.i64_left]; exact wa
        refine wp_region_any (by kernel_rfl) ?_
        refine wpAny_take (i := 0) (v := ?_) rfl (by kernel_rfl) (by kernel_rfl) (by kernel_rfl) (fun _ _ _ h => h) (Or.inl ⟨by rfl, fun W => ?_⟩) ?_
        rotate_left
        focus (go_simp <;> with_reducible rfl)
        simp only [Act.put, List.getElem_toArray, List.getElem_cons_succ, List.getElem_cons_zero, List.setIfInBounds_toArray, List.set_cons_zero, List.set_cons_succ]
        refine wpAny_take (i := 1) (v := ?_) rfl (by kernel_rfl) (by kernel_rfl) (by kernel_rfl) (fun _ _ _ h => h) (Or.inl ⟨by rfl, fun W => ?_⟩) ?_
        rotate_left
        focus (go_simp <;> with_reducible rfl)
        simp only [Act.put, List.getElem_toArray, List.getElem_cons_succ, List.getElem_cons_zero, List.setIfInBounds_toArray, List.set_cons_zero, List.set_cons_succ]
        refine wpAny_take (i := 2) (v := ?_) rfl (by kernel_rfl) (by kernel_rfl) (by kernel_rfl) (fun _ _ _ h => h) (Or.inl ⟨by rfl, fun W => ?_⟩) ?_
        rotate_left
        focus (go_simp <;> with_reducible rfl)
        simp only [Act.put, List.getElem_toArray, List.getElem_cons_succ, List.getElem_cons_zero, List.setIfInBounds_toArray, List.set_cons_zero, List.set_cons_succ]
        refine wpAny_take (i := 4) (v := ?_) rfl (by kernel_rfl) (by kernel_rfl) (by kernel_rfl) (fun _ _ _ h => h) (Or.inl ⟨by rfl, fun W => ?_⟩) ?_
        rotate_left
        focus (go_simp <;> with_reducible rfl)
        simp only [Act.put, List.getElem_toArray, List.getElem_cons_succ, List.getElem_cons_zero, List.setIfInBounds_toArray, List.set_cons_zero, List.set_cons_succ]
        refine wpAny_take (i := 6) (v := ?_) rfl (by kernel_rfl) (by kernel_rfl) (by kernel_rfl) (fun _ _ _ h => h) (Or.inl ⟨by rfl, fun W => ?_⟩) ?_
        rotate_left
        focus (go_simp <;> with_reducible rfl)
        simp only [Act.put, List.getElem_toArray, List.getElem_cons_succ, List.getElem_cons_zero, List.setIfInBounds_toArray, List.set_cons_zero, List.set_cons_succ]
        refine wpAny_take (i := 7) (v := ?_) rfl (by kernel_rfl) (by kernel_rfl) (by kernel_rfl) (fun _ _ _ h => h) (Or.inl ⟨by rfl, fun W => ?_⟩) ?_
        rotate_left
        focus (go_simp <;> with_reducible rfl)
        simp only [Act.put, List.getElem_toArray, List.getElem_cons_succ, List.getElem_cons_zero, List.setIfInBounds_toArray, List.set_cons_zero, List.set_cons_succ]
        refine wpAny_take (i := 8) (v := ?_) rfl (by kernel_rfl) (by kernel_rfl) (by kernel_rfl) (fun _ _ _ h => h) (Or.inl ⟨by rfl, fun W => ?_⟩) ?_
        rotate_left
        focus (go_simp <;> with_reducible rfl)
        simp only [Act.put, List.getElem_toArray, List.getElem_cons_succ, List.getElem_cons_zero, List.setIfInBounds_toArray, List.set_cons_zero, List.set_cons_succ]
        refine wpAny_take (i := 9) (v := ?_) rfl (by kernel_rfl) (by kernel_rfl) (by kernel_rfl) (fun _ _ _ h => h) (Or.inl ⟨by rfl, fun W => ?_⟩) ?_
        rotate_left
        focus (go_simp <;> with_reducible rfl)
        simp only [Act.put, List.getElem_toArray, List.getElem_cons_succ, List.getElem_cons_zero, List.setIfInBounds_toArray, List.set_cons_zero, List.set_cons_succ]
        refine wpAny_take (i := 10) (v := ?_) rfl (by kernel_rfl) (by kernel_rfl) (by kernel_rfl) (fun _ _ _ h => h) (Or.inl ⟨by rfl, fun W => ?_⟩) ?_
        rotate_left
        focus (go_simp <;> with_reducible rfl)
        simp only [Act.put, List.getElem_toArray, List.getElem_cons_succ, List.getElem_cons_zero, List.setIfInBounds_toArray, List.set_cons_zero, List.set_cons_succ]
        refine WChain.from Nat NoRow 2007 (by kernel_rfl) (by kernel_rfl) (by kernel_rfl) (by kernel_rfl) (Grow.drew _) (fun hg => ?_)
        refine WChain.was (by rfl) ?_
        refine WChain.was (by rfl) ?_
        refine WChain.was (by rfl) ?_
        refine WChain.tail (wtail_of (by kernel_rfl)) rfl (fun t W hw hN => ?_)
        simp only [restE, Nat.reduceAdd, cond_true, cond_false, show Nat.testBit 2007 3 = false from rfl, show Nat.testBit 2007 4 = true from rfl, show Nat.testBit 2007 5 = false from rfl, show Nat.testBit 2007 6 = true from rfl, show Nat.testBit 2007 7 = true from rfl, show Nat.testBit 2007 8 = true from rfl, show Nat.testBit 2007 9 = true from rfl, show Nat.testBit 2007 10 = true from rfl, show Nat.testBit 2007 11 = false from rfl, show Nat.testBit 2007 12 = false from rfl]
        clear wa wa2 i0 i1 i2 i3 i4 hN hg
        have GW := Lib.hid (G11.out.trans hw.no)
        have L12 := Lib.hid (L11.out.below hw.no (Nat.le_refl _))
        clear hw
        have ei : ((p : Int) + (n : Int)).toNat = p + n := by omega
        have LT := Lib.hid ((LA.out.takeC p (by omega)).below GW.out (Nat.le_refl _))
        have LD := Lib.hid (show Lies w 1 (if ca = ((p : Int) + (n : Int)).toNat then A else A.map (fun x => x.add ((p : Int) + (n : Int)).toNat)) (m - ((p : Int) + (n : Int)).toNat) (ca - ((p : Int) + (n : Int)).toNat) (chs (ts.drop (p + n))) by rw [ei]; exact LA.out.fromC (p + n) (by omega))
        (refine wpList_appC rfl (.const (.slice none 0 0)) (.tmp 135) rfl W.heap.size _ 0 [] rfl (own_nilC _ _) A p ca (ts.take p) rfl LT.out (by omega) (Nat.le_refl _) ?_; intro A12 c12 w12 own12 L12' bel12; simp only [Nat.zero_add, List.nil_append, Act.put, List.setIfInBounds_toArray, List.set_cons_zero, List.set_cons_succ] at own12 ⊢; have O12 := Lib.hid own12; have E12 := Lib.hid (toGrow4 (bel12 _ _ (Grow.refl _) (Nat.le_refl _))); clear own12 L12' bel12)
        (refine wpList_appC rfl (.tmp 136) (.tmp 137) rfl W.heap.size _ p (ts.take p) rfl O12.out B k cb cs rfl (LB.out.below (GW.out.trans E12.out) (Nat.le_refl _)) (by omega) E12.out.size ?_; intro A13 c13 w13 own13 L13 bel13; have O13 := Lib.hid own13; have E13 := Lib.hid (toGrow4 (bel13 _ _ E12.out (Nat.le_refl _))); clear own13 L13 bel13)
        (refine wpList_appC rfl (.tmp 138) (.tmp 143) rfl W.heap.size _ (p + k) (ts.take p ++ cs) rfl O13.out _ _ _ (ts.drop (p + n)) rfl (LD.out.below (GW.out.trans E13.out) (Nat.le_refl _)) (by omega) E13.out.size ?_; intro A14 c14 w14 own14 L14 bel14; have L15 := Lib.hid L14; have E14 := Lib.hid (toGrow4 (bel14 _ _ E13.out (Nat.le_refl _))); clear own14 L14 bel14)
        go_wp2_with fail
        all_goals
          refine (same_at true (by rw [← HS.out]; simp) (L12.out.below E14.out (Nat.le_refl _)) L15.out).mono ?_
          rintro e w15 ⟨rfl, g15⟩
          have G15 := Lib.hid (GW.out.trans (E14.out.trans g15))
          clear g15
          go_wp2_with fail
          refine wakes8.mono ?_
          rintro e w16 ⟨rfl, g16⟩
          have GF := Lib.hid (G15.out.trans g16)
          clear g16
          go_wp2
          go_ret
          exact ⟨rfl, GF.out⟩
      · have hE : errT (p : Int) cs = 21 := by simp only [errT, if_neg (show ¬ (p : Int) < 0 by omega), if_neg (show ¬ 256 < cs.length by omega), if_neg hall]
        have hR : resT (p : Int) cl rq cs = [] := by simp [resT, hE]
        rw [hR] at hl1
        simp only [List.length_nil] at hl1
        subst hl1
        rw [hE]
        clear hE hR O1 LO1 hall
        go_wp2_with fail
        refine wakes8.mono ?_
        rintro e w2 ⟨rfl, g2⟩
        have GF := Lib.hid (G1.out.trans g2)
        clear g2
        go_wp2
        go_ret
        exact ⟨rfl, GF.out⟩
end Go.Proofs.Ytfpbmpgdpnpdjaa

