/-
  utf: the walk of UtfSizes.
-/
import Derived.Test.YtbphdojjddnljaaDoorBackWalk
namespace Go.Proofs.YtbphdojjddnljaaDoor
open Go.RowKit
set_option linter.unusedSimpArgs false

theorem Lies.cutv {w : World} {b off n c : Nat} {xs : List Value} (h : Lies w 1 (some ⟨b, off, none⟩) n c xs) (i j : Nat) (hij : i ≤ j) (hj : j ≤ n) : Lies w 1 (some ⟨b, off + i, none⟩) (j - i) (c - i) ((xs.drop i).take (j - i)) := by
  have hl := h.len
  have hle := h.le
  have hbig := h.big
  refine ⟨by simp; omega, fun h => by (cases h), by omega, by omega, fun a ha x u hu => ?_⟩
  injection ha with ha
  subst ha
  have hx : x < j - i := by
    have := (List.getElem?_eq_some_iff.1 hu).1
    simp at this; omega
  rw [List.getElem?_take, if_pos hx, List.getElem?_drop] at hu
  have := h.cells _ rfl (i + x) u hu
  rw [add_none] at this ⊢
  rwa [Nat.add_assoc]
/-- How many bytes are no further ones. -/
def cnt (l : List Nat) : Nat := (l.filter fun y => decide (y / 64 ≠ 2)).length
theorem cnt_app (a b : List Nat) : cnt (a ++ b) = cnt a + cnt b := by simp [cnt]
theorem cnt_one {c : Nat} (h : mayI (c : Int) = true) : cnt (one c) = 1 := by
  have := may_le h
  unfold one cnt
  split
  · rename_i h1
    have e : decide (c / 64 ≠ 2) = true := by simp; omega
    simp only [List.filter_cons, e, if_true, List.filter_nil, List.length_cons, List.length_nil]
  · split
    · have e : decide ((192 + c / 64) / 64 ≠ 2) = true := by simp; omega
      have e2 : decide ((128 + c % 64) / 64 ≠ 2) = false := by simp; omega
      simp only [List.filter_cons, e, e2, if_true, Bool.false_eq_true, if_false, List.filter_nil, List.length_cons, List.length_nil]
    · split
      · have e : decide ((224 + c / 4096) / 64 ≠ 2) = true := by simp; omega
        have e2 : decide ((128 + c / 64 % 64) / 64 ≠ 2) = false := by simp; omega
        have e3 : decide ((128 + c % 64) / 64 ≠ 2) = false := by simp; omega
        simp only [List.filter_cons, e, e2, e3, if_true, Bool.false_eq_true, if_false, List.filter_nil, List.length_cons, List.length_nil]
      · have e : decide ((240 + c / 262144) / 64 ≠ 2) = true := by simp; omega
        have e1 : decide ((128 + c / 4096 % 64) / 64 ≠ 2) = false := by simp; omega
        have e2 : decide ((128 + c / 64 % 64) / 64 ≠ 2) = false := by simp; omega
        have e3 : decide ((128 + c % 64) / 64 ≠ 2) = false := by simp; omega
        simp only [List.filter_cons, e, e1, e2, e3, if_true, Bool.false_eq_true, if_false, List.filter_nil, List.length_cons, List.length_nil]
theorem cnt_enc {t : List Nat} (h : valid t) : cnt (encL t) = t.length := by
  induction t with
  | nil => rfl
  | cons c t ih =>
    rw [encL_cons, cnt_app, cnt_one (h c (by simp)), ih (fun x hx => h x (by simp [hx])), List.length_cons]
    omega
theorem cnt_le (l : List Nat) : cnt l ≤ l.length := List.length_filter_le _ _
theorem cnt_snoc {l : List Nat} {k y : Nat} (h : l[k]? = some y) : cnt (l.take (k + 1)) = cnt (l.take k) + if y / 64 = 2 then 0 else 1 := by
  rw [List.take_add_one, h, cnt_app]
  by_cases e : y / 64 = 2 <;> simp [cnt, e]
/-- A code point's first byte is no further one. -/
theorem one_head {c : Nat} (h : mayI (c : Int) = true) : ∃ x r, one c = x :: r ∧ x / 64 ≠ 2 := by
  have := may_le h
  unfold one
  split
  · exact ⟨_, _, rfl, by omega⟩
  · split
    · exact ⟨_, _, rfl, by omega⟩
    · split
      · exact ⟨_, _, rfl, by omega⟩
      · exact ⟨_, _, rfl, by omega⟩
theorem one_cut {c k : Nat} (h : mayI (c : Int) = true) (hk : k < szN c) : dec1 ((one c).take k) = none := by
  cases hd : dec1 ((one c).take k) with
  | none => rfl
  | some p =>
    obtain ⟨d, m⟩ := p
    obtain ⟨h1, rfl, r, hr⟩ := dec1_spec hd
    have e : one c ++ [] = one d ++ (r ++ (one c).drop k) := by rw [← List.append_assoc, ← hr, List.take_append_drop, List.append_nil]
    obtain ⟨rfl, -⟩ := one_free h h1 e
    have := congrArg List.length hr
    rw [List.length_append, List.length_take, one_len] at this
    omega
theorem readN_none {l : List Nat} (h : dec1 l = none) : readN l = 0 := (read_unique (t := []) (l := l) (r := l) (fun c hc => (by cases hc)) rfl h).2
theorem readN_one {c : Nat} (h : mayI (c : Int) = true) : readN (one c) = szN c := by
  have := (read_unique (l := one c) (t := [c]) (r := []) (fun x hx => by simp at hx; subst hx; exact h) (by simp [encL]) dec1_nil).2
  rw [this]; simp [encL, one_len]
theorem enc_at {t : List Nat} {j c : Nat} (h : t[j]? = some c) : ((encL t).drop (encL (t.take j)).length).take (szN c) = one c ∧ (encL (t.take j)).length + szN c ≤ (encL t).length := by
  have hj := (List.getElem?_eq_some_iff.1 h).1
  have e : encL t = encL (t.take j) ++ (one c ++ encL (t.drop (j + 1))) := by
    have e1 : t = t.take j ++ (c :: t.drop (j + 1)) := by
      have : t.drop j = c :: t.drop (j + 1) := by
        rw [List.drop_eq_getElem_cons hj]
        have := (List.getElem?_eq_some_iff.1 h).2
        rw [this]
      rw [← this, List.take_append_drop]
    conv => lhs; rw [e1]
    rw [encL_app, encL_cons]
  refine ⟨?_, ?_⟩
  · conv => lhs; rw [e]
    rw [List.drop_left, ← one_len, List.take_left]
  · conv => rhs; rw [e]
    rw [List.length_append, List.length_append, one_len]
    omega

set_option maxRecDepth 100000 in
set_option maxHeartbeats 4000000 in
set_option linter.unusedVariables false in
theorem utfsizes_any {A : Option Addr} {n ca : Nat} {zs : List Int} {w : World} (hT : Tab w) (hA : Lies w 1 A n ca (chs zs)) (hn : ca * 4 ≤ 140737488351232) :
    Calls Tryd.prog 7 #[.slice A n ca] w fun e w' => e = .returned (.bool true) ∧ Below w.heap.size w w' := by
  obtain ⟨t, ht, hzs⟩ := text_split zs
  have hla := hA.chs_len
  have hle := hA.le
  have hbig := hA.big
  have HT := Lib.hid hT; have HA := Lib.hid hA; have HV := Lib.hid ht; have HLA := Lib.hid hla
  clear hT hA ht hla
  rcases hzs with hz | ⟨x, r, hz, hx⟩
  · have hln : t.length = n := by have := HLA.out; rw [hz, upN_len] at this; exact this
    have HZ := Lib.hid hz; have HLN := Lib.hid hln
    clear hz hln
    go_enter Tryd.func7, Tryd.ntmps7
    go_wp2_with fail
    refine (enc_yes zs t HT.out HA.out HV.out HZ.out (by omega)).mono ?_
    rintro e w1 ⟨Ax, nx, cx, rfl, own1, g1⟩
    obtain ⟨X, hX⟩ : ∃ X, X = encL t := ⟨_, rfl⟩
    rw [← hX] at own1
    have hnx : X.length = nx := (Lies.of_own own1).bytes_len
    have hnx4 : nx ≤ 4 * n := by have h1 := (encL_len t).2; have h2 := HLN.out; rw [← hX] at h1; omega
    have hlex := (Lies.of_own own1).le
    have hbigx := (Lies.of_own own1).big
    have bX : ∀ y ∈ X, y < 256 := by rw [hX]; exact encL_bytes HV.out
    have hct : cnt X = n := by rw [hX, cnt_enc HV.out]; exact HLN.out
    have LX := Lib.hid (Lies.of_own own1); have HNX := Lib.hid hnx; have G1 := Lib.hid g1; have HX := Lib.hid hX; have HBX := Lib.hid bX; have HCT := Lib.hid hct
    clear own1 g1 hnx hX bX hct
    go_wp2
    go_loopw [5, 7] (fun m i wr => ∃ (k S : Nat), k ≤ nx ∧ i = .int .i64 k ∧ m = .int .i64 S ∧ S ≤ k ∧ Hid (S = cnt (X.take k)) ∧ w1 = wr) (fun _ i _ => nx - (intOf i).toNat)
    case atStart => exact ⟨0, 0, Nat.zero_le _, rfl, rfl, Nat.le_refl _, by simp [Hid, cnt], rfl⟩
    case round =>
      obtain ⟨k, S, hk, rfl, rfl, hSk, hS, rfl⟩ := hrel
      by_cases hlt : k < nx
      · obtain ⟨gx, ox, rfl, hgs, hcell⟩ := LX.out.pos (by omega) (by decide)
        obtain ⟨y, hy⟩ : ∃ y, X[k]? = some y := ⟨_, List.getElem?_eq_getElem (by have := HNX.out; omega)⟩
        have yl : y < 256 := HBX.out y (List.mem_of_getElem? hy)
        have hc := hcell k (.int .u8 (y : Int)) (by simp [byt, hy])
        have hst := cnt_snoc hy
        rw [← hS.out] at hst
        by_cases h6 : y / 64 = 2
        · rw [if_pos h6] at hst
          have HST := Lib.hid hst
          have e1 : ((y : Int) / 64 != 2) = false := by simp; omega
          clear hcell hy hst h6
          go_wp2
          go_roundw
          case rel => exact ⟨k + 1, S, by omega, by go_num, rfl, by omega, HST.out.symm, trivial⟩
          case measure => simp [intOf]; omega
        · rw [if_neg h6] at hst
          have HST := Lib.hid hst
          have e1 : ((y : Int) / 64 != 2) = true := by simp; omega
          clear hcell hy hst h6
          go_wp2
          go_roundw
          case rel => exact ⟨k + 1, S + 1, by omega, by go_num, by go_num, by omega, HST.out.symm, trivial⟩
          case measure => simp [intOf]; omega
      · obtain rfl : k = nx := by omega
        obtain rfl : S = n := by
          have h1 := hS.out
          rw [List.take_of_length_le (by rw [HNX.out]; exact Nat.le_refl _), HCT.out] at h1
          exact h1
        clear hS
        go_wp2
        go_loopw [6, 8] (fun at_ i wr => ∃ (j a : Nat), j ≤ S ∧ i = .int .i64 j ∧ at_ = .int .i64 a ∧ a ≤ k ∧ Hid (a = (encL (t.take j)).length) ∧ Grow w1 wr) (fun _ i _ => S - (intOf i).toNat)
        case atStart => exact ⟨0, 0, Nat.zero_le _, rfl, rfl, Nat.zero_le _, by simp [Hid, encL], Grow.refl _⟩
        case round =>
          obtain ⟨j, a, hj, rfl, rfl, hak, ha, hg⟩ := hrel
          by_cases hlt2 : j < S
          · obtain ⟨c, hc⟩ : ∃ c, t[j]? = some c := ⟨_, List.getElem?_eq_getElem (by have := HLN.out; omega)⟩
            have hmc : mayI (c : Int) = true := HV.out c (List.mem_of_getElem? hc)
            have hea := enc_at hc
            rw [← ha.out, ← HX.out] at hea
            have hst := encL_step hc
            rw [← ha.out] at hst
            obtain ⟨hd1, hd2⟩ := hea
            rw [HNX.out] at hd2
            obtain ⟨q, hq⟩ : ∃ q, szN c = q := ⟨_, rfl⟩
            have hqb := szN_bd c
            have hsz := sizeI_yes hmc
            rw [hq] at hd1 hd2 hst hqb hsz
            obtain ⟨gx, ox, rfl, hgs, hcell⟩ := LX.out.pos (by omega) (by decide)
            obtain ⟨g, off, rfl, hgs2, hcellA⟩ := HA.out.pos (by omega) (by decide)
            have hcj := grow_cell (hcellA j (.int .i32 (c : Int)) (by rw [HZ.out]; simp [chs, upN, hc])) (G1.out.trans hg)
            obtain ⟨x, r, hone, hx6⟩ := one_head hmc
            have hXa : X[a]? = some x := by
              have h1 := congrArg (fun l : List Nat => l[0]?) hd1
              rw [List.getElem?_take, if_pos (by omega), List.getElem?_drop, Nat.add_zero, hone] at h1
              exact h1
            have xl : x < 256 := HBX.out x (List.mem_of_getElem? hXa)
            have hca := grow_cell (hcell a (.int .u8 (x : Int)) (by simp [byt, hXa])) hg
            have e6 : ((x : Int) / 64 == 2) = false := by simp; omega
            obtain ⟨aq, haq⟩ : ∃ aq, aq = a + q := ⟨_, rfl⟩
            have haq1 : a + 1 ≤ aq := by omega
            have haq2 : aq ≤ k := by omega
            have haq4 : aq ≤ a + 4 := by omega
            have s1 : (a : Int) + (q : Int) = (aq : Int) := by omega
            have LA := (HA.out.below (G1.out.trans hg) (Nat.le_refl _)).cutv j (j + 1) (by omega) (by omega)
            have eA : ((chs zs).drop j).take (j + 1 - j) = chs [(c : Int)] := by
              rw [HZ.out, show j + 1 - j = 1 by omega]
              have : (chs (upN t)).drop j = Value.int .i32 (c : Int) :: (chs (upN t)).drop (j + 1) := by
                rw [List.drop_eq_getElem_cons (by rw [chs_len, upN_len, HLN.out]; omega)]
                congr 1
                have h9 : (chs (upN t))[j]? = some (Value.int .i32 (c : Int)) := by simp [chs, upN, hc]
                exact (List.getElem?_eq_some_iff.1 h9).2
              rw [this]
              rfl
            rw [eA, show j + 1 - j = 1 by omega] at LA
            have HLA2 := Lib.hid LA
            have LQ := LX.out.cut1 a aq (by omega) haq2
            rw [show aq - a = q by omega, hd1] at LQ
            have HLQ := Lib.hid LQ
            have LQ1 := LX.out.cut1 a (aq - 1) (by omega) (by omega)
            have eQ1 : (X.drop a).take (aq - 1 - a) = (one c).take (q - 1) := by
              rw [← hd1, List.take_take, show aq - 1 - a = min (q - 1) q by omega]
            rw [eQ1] at LQ1
            have HLQ1 := Lib.hid LQ1
            have rq : (readN (one c) : Int) = (q : Int) := by rw [readN_one hmc, hq]
            have rq1 : (readN ((one c).take (q - 1)) : Int) = 0 := by rw [readN_none (one_cut hmc (by omega))]; rfl
            have b1 : ∀ y ∈ one c, y < 256 := one_bytes (may_le hmc)
            have HRQ := Lib.hid rq; have HRQ1 := Lib.hid rq1; have HB1 := Lib.hid b1; have HMC := Lib.hid hmc; have HSZ := Lib.hid hsz; have HST := Lib.hid hst; have HAQ := Lib.hid haq
            have hql : q ≤ 4 := hqb.2
            have hq1 : 1 ≤ q := hqb.1
            clear hc hmc hd1 hd2 hst hqb hsz hcell hcellA hone hx6 hXa LA eA LQ LQ1 eQ1 rq rq1 b1 hq haq ha
            go_wp2_with fail
            refine (size_any (HT.out.same (G1.out.trans hg))).mono ?_
            rw [HSZ.out]
            rintro e w2 ⟨rfl, g2⟩
            have hca2 := grow_cell hca g2
            have hg2 := hg.trans g2
            have HLA3 := Lib.hid (HLA2.out.below g2 (Nat.le_refl _))
            clear hca hcj g2 hg HLA2
            go_wp2_with fail
            refine (enc_yes [(c : Int)] [c] (HT.out.same (G1.out.trans hg2)) HLA3.out (fun y hy => by simp at hy; subst hy; exact HMC.out) rfl (by decide)).mono ?_
            have e7 : encL [c] = one c := by simp [encL]
            rw [e7]
            rintro e w3 ⟨A3, n3, c3, rfl, own3, g3⟩
            have L3 := Lib.hid (Lies.of_own own3)
            have G3 := Lib.hid (hg2.trans g3)
            have v1 : ∀ W : World, Grow w3 W → (convert 23 9 (.slice A3 n3 c3)).run Tryd.prog W = .ok (.string (str (one c))) W := fun W h => conv_bytes (L3.out.below h (Nat.le_refl _))
            have v2 : ∀ W : World, Grow w3 W → (convert 23 9 (.slice (some ⟨gx, ox + a, none⟩) q (cx - a))).run Tryd.prog W = .ok (.string (str (one c))) W := fun W h => conv_bytes (HLQ.out.below (G3.out.trans h) (Nat.le_refl _))
            have t1 : IntKind.i64.wrap (aq : Int) = (aq : Int) := IntWalk.i64_in _ (by omega)
            have t2 : aq - a = q := by have := HAQ.out; omega
            have t3 : (0 : Int) ≤ (a : Int) := by omega
            have t4 : (a : Int) ≤ (aq : Int) := by omega
            have t5 : (aq : Int) ≤ (cx : Int) := by omega
            have t6 : ¬ cx = a := by omega
            clear own3 g3 hca2 hg2 e7
            obtain ⟨aq1, haq1'⟩ : ∃ z, z = aq - 1 := ⟨_, rfl⟩
            rw [← haq1'] at HLQ1
            have t7 : IntKind.i64.wrap ((aq : Int) - 1) = (aq1 : Int) := by rw [IntWalk.i64_in _ (by omega)]; omega
            have t8 : (a : Int) ≤ (aq1 : Int) := by omega
            have t9 : (aq1 : Int) ≤ (cx : Int) := by omega
            have HAQ1 := Lib.hid haq1'
            clear haq1'
            by_cases h1q : 1 < q
            · have d1 : decide ((1 : Int) < (q : Int)) = true := by simp; omega
              have d2 : decide (1 < q) = true := by simp; omega
              go_wp2_with fail
              refine Chain.start Nat (by kernel_rfl) (by kernel_rfl) (fun hg => ?_)
              repeat (first | (refine Chain.skip hg (fun t => by rfl) ?_; simp only [Act.put, List.setIfInBounds_toArray, List.set_cons_zero, List.set_cons_succ]) | (refine Chain.pure hg (X := ?_) (fun t W hw hN => ⟨by rfl, ?_⟩) ?_; rotate_left; (focus (go_simp <;> with_reducible rfl)); simp only [Act.put, List.setIfInBounds_toArray, List.set_cons_zero, List.set_cons_succ]))
              refine Chain.grow hg (fun _ => .int .i64 (q : Int)) (fun _ _ => True) (fun _ _ _ h _ => h) (fun _ => by rfl) (fun t W hw hN K hK => ?_) ?_
              · go_simp; refine (whole_at (one c) q HRQ.out (HT.out.same (G1.out.trans (G3.out.trans hw))) (HLQ.out.below (G3.out.trans hw) (Nat.le_refl _)) HB1.out (by omega)).mono ?_; rintro e w9 ⟨rfl, g9⟩; exact hK.out default _ g9 trivial
              simp only [Act.put, List.setIfInBounds_toArray, List.set_cons_zero, List.set_cons_succ]
              repeat (first | (refine Chain.skip hg (fun t => by rfl) ?_; simp only [Act.put, List.setIfInBounds_toArray, List.set_cons_zero, List.set_cons_succ]) | (refine Chain.pure hg (X := ?_) (fun t W hw hN => ⟨by rfl, ?_⟩) ?_; rotate_left; (focus (go_simp <;> with_reducible rfl)); simp only [Act.put, List.setIfInBounds_toArray, List.set_cons_zero, List.set_cons_succ]))
              refine Chain.grow hg (fun _ => .int .i64 0) (fun _ _ => True) (fun _ _ _ h _ => h) (fun _ => by rfl) (fun t W hw hN K hK => ?_) ?_
              · go_simp; refine (whole_at ((one c).take (q - 1)) 0 HRQ1.out (HT.out.same (G1.out.trans (G3.out.trans hw))) (HLQ1.out.below (G3.out.trans hw) (Nat.le_refl _)) (fun y hy => HB1.out y (List.mem_of_mem_take hy)) (by have := HAQ1.out; omega)).mono ?_; rintro e w9 ⟨rfl, g9⟩; exact hK.out default _ g9 trivial
              simp only [Act.put, List.setIfInBounds_toArray, List.set_cons_zero, List.set_cons_succ]
              repeat (first | (refine Chain.skip hg (fun t => by rfl) ?_; simp only [Act.put, List.setIfInBounds_toArray, List.set_cons_zero, List.set_cons_succ]) | (refine Chain.pure hg (X := ?_) (fun t W hw hN => ⟨by rfl, ?_⟩) ?_; rotate_left; (focus (go_simp <;> with_reducible rfl)); simp only [Act.put, List.setIfInBounds_toArray, List.set_cons_zero, List.set_cons_succ]))
              refine Chain.done (fun t W hw hN => ?_)
              clear hN hg v1 v2
              have G9 := Lib.hid (G3.out.trans hw)
              clear hw
              go_wp2
              go_roundw
              case rel => exact ⟨j + 1, aq, by omega, by go_num, rfl, by omega, by have h1 := HST.out; have h2 := HAQ.out; show aq = _; omega, G9.out⟩
              case measure => simp [intOf]; omega
            · have d1 : decide ((1 : Int) < (q : Int)) = false := by simp; omega
              have d2 : decide (1 < q) = false := by simp; omega
              go_wp2_with fail
              refine Chain.start Nat (by kernel_rfl) (by kernel_rfl) (fun hg => ?_)
              repeat (first | (refine Chain.skip hg (fun t => by rfl) ?_; simp only [Act.put, List.setIfInBounds_toArray, List.set_cons_zero, List.set_cons_succ]) | (refine Chain.pure hg (X := ?_) (fun t W hw hN => ⟨by rfl, ?_⟩) ?_; rotate_left; (focus (go_simp <;> with_reducible rfl)); simp only [Act.put, List.setIfInBounds_toArray, List.set_cons_zero, List.set_cons_succ]))
              refine Chain.grow hg (fun _ => .int .i64 (q : Int)) (fun _ _ => True) (fun _ _ _ h _ => h) (fun _ => by rfl) (fun t W hw hN K hK => ?_) ?_
              · go_simp; refine (whole_at (one c) q HRQ.out (HT.out.same (G1.out.trans (G3.out.trans hw))) (HLQ.out.below (G3.out.trans hw) (Nat.le_refl _)) HB1.out (by omega)).mono ?_; rintro e w9 ⟨rfl, g9⟩; exact hK.out default _ g9 trivial
              simp only [Act.put, List.setIfInBounds_toArray, List.set_cons_zero, List.set_cons_succ]
              repeat (first | (refine Chain.skip hg (fun t => by rfl) ?_; simp only [Act.put, List.setIfInBounds_toArray, List.set_cons_zero, List.set_cons_succ]) | (refine Chain.pure hg (X := ?_) (fun t W hw hN => ⟨by rfl, ?_⟩) ?_; rotate_left; (focus (go_simp <;> with_reducible rfl)); simp only [Act.put, List.setIfInBounds_toArray, List.set_cons_zero, List.set_cons_succ]))
              refine Chain.done (fun t W hw hN => ?_)
              clear hN hg v1 v2
              have G9 := Lib.hid (G3.out.trans hw)
              clear hw
              go_wp2
              go_roundw
              case rel => exact ⟨j + 1, aq, by omega, by go_num, rfl, by omega, by have h1 := HST.out; have h2 := HAQ.out; show aq = _; omega, G9.out⟩
              case measure => simp [intOf]; omega
          · obtain rfl : j = S := by omega
            obtain rfl : a = k := by
              have h1 := ha.out
              rw [List.take_of_length_le (by rw [HLN.out]; exact Nat.le_refl _), ← HX.out, HNX.out] at h1
              exact h1
            have G9 := Lib.hid (G1.out.trans hg)
            clear ha hg
            go_wp2_with fail
            refine (wakes_any (HT.out.same G9.out)).mono ?_
            rintro e w12 ⟨rfl, g12⟩
            have G12 := Lib.hid (G9.out.trans g12)
            clear g12
            go_wp2
            go_ret
            exact ⟨rfl, G12.out⟩
  · have HZ := Lib.hid hz; have HXX := Lib.hid hx
    clear hz hx
    go_enter Tryd.func7, Tryd.ntmps7
    go_wp2_with fail
    refine (enc_no zs t x r HT.out HA.out HV.out HZ.out HXX.out (by omega)).mono ?_
    rintro e w1 ⟨rfl, g1⟩
    have G1 := Lib.hid g1
    clear g1
    go_wp2_with fail
    refine (wakes_any (HT.out.same G1.out)).mono ?_
    rintro e w12 ⟨rfl, g12⟩
    have G12 := Lib.hid (G1.out.trans g12)
    clear g12
    go_wp2
    go_ret
    exact ⟨rfl, G12.out⟩
end Go.Proofs.YtbphdojjddnljaaDoor

