/-
  utf: the walk of UtfParts.
-/
import Derived.Test.YtbphdojjddnljaaDoorSizesWalk
namespace Go.Proofs.YtbphdojjddnljaaDoor
open Go.RowKit
set_option linter.unusedSimpArgs false

theorem wpList_unguard {P : Program} {ops : Array Oper} {Q : Exit → Act → World → Prop} {o : Oper} {rest : List Oper} {a : Act} {w : World} (h : Region.wanted o (yielded ops a.tmps) = true) (k : wpList P ops Q ({ o with guard := none } :: rest) a w) : wpList P ops Q (o :: rest) a w := by
  have h2 : Region.wanted { o with guard := none } (yielded ops a.tmps) = true := rfl
  unfold wpList at k ⊢
  rw [if_pos h2] at k
  rw [if_pos h]
  exact k
theorem dec_yes {l : List Nat} (h : ¬ readN l < l.length) : decE l = 0 ∧ decT l = readT l ∧ l = encL (readT l) := by
  unfold decE decT
  rw [if_neg h, if_neg h]
  exact ⟨rfl, rfl, read_all h⟩
theorem dec_no {l : List Nat} (h : readN l < l.length) : decE l = 21 ∧ decT l = [] := by
  unfold decE decT
  rw [if_pos h, if_pos h]
  exact ⟨rfl, rfl⟩
theorem dec_enc {t : List Nat} (h : valid t) : decE (encL t) = 0 := (dec_yes (by rw [(read_enc h).2]; exact Nat.lt_irrefl _)).1
/-- Bytes behind a text's. -/
theorem read_app {t : List Nat} (ht : valid t) (b : List Nat) : readT (encL t ++ b) = t ++ readT b ∧ readN (encL t ++ b) = (encL t).length + readN b := by
  obtain ⟨r, h1, h2, h3, h4⟩ := read_spec b
  have e : encL t ++ b = encL (t ++ readT b) ++ r := by rw [encL_app, List.append_assoc, ← h2]
  have hv : valid (t ++ readT b) := fun c hc => (List.mem_append.1 hc).elim (ht c) (h1 c)
  obtain ⟨q1, q2⟩ := read_unique hv e h4
  exact ⟨q1, by rw [q2, encL_app, List.length_append, h3]⟩
theorem dec_app {a b : List Nat} (ha : ¬ readN a < a.length) : decE (a ++ b) = decE b ∧ (¬ readN b < b.length → decT (a ++ b) = readT a ++ readT b) := by
  obtain ⟨-, -, e⟩ := dec_yes ha
  obtain ⟨h1, h2⟩ := read_app (readT_valid a) b
  rw [← e] at h1 h2
  have hl : (a ++ b).length = a.length + b.length := List.length_append
  unfold decE decT
  rw [h2, hl]
  by_cases hb : readN b < b.length
  · rw [if_pos hb, if_pos (by omega)]; exact ⟨rfl, fun h => absurd hb h⟩
  · rw [if_neg hb, if_neg (by omega), if_neg (by omega)]; exact ⟨rfl, fun _ => h1⟩
theorem decT_len (l : List Nat) : (decT l).length ≤ l.length := by
  unfold decT
  split
  · exact Nat.zero_le _
  · exact readT_len l
theorem dec_all (a b : List Nat) : (decE a : Int) = 21 ∨ ((decE a : Int) = 0 ∧ (((decE b : Int) = 21 ∧ (decE ([] ++ a ++ b) : Int) = 21) ∨ ((decE b : Int) = 0 ∧ (decE ([] ++ a ++ b) : Int) = 0 ∧ decT ([] ++ a ++ b) = decT a ++ decT b))) := by
  rw [List.nil_append]
  by_cases ha : readN a < a.length
  · left; rw [(dec_no ha).1]; rfl
  · right
    obtain ⟨h1, h2⟩ := dec_app (b := b) ha
    rw [(dec_yes ha).1, h1, (dec_yes ha).2.1]
    refine ⟨rfl, ?_⟩
    by_cases hb : readN b < b.length
    · left; rw [(dec_no hb).1]; exact ⟨rfl, rfl⟩
    · right; rw [(dec_yes hb).1, (dec_yes hb).2.1]; exact ⟨rfl, rfl, h2 hb⟩
/-- What is read of a prefix. -/
theorem read_pre (a : List Nat) (k : Nat) (hk : k ≤ a.length) : readN (a.take k) ≤ k ∧ readN (a.take k) ≤ readN a ∧ (k ≤ readN a → k ≤ readN (a.take k) + 3) ∧
    decE (a.take (readN (a.take k))) = 0 ∧ decE ((a.drop (readN (a.take k))).take (readN a - readN (a.take k))) = 0 := by
  obtain ⟨r, h1, h2, h3, h4⟩ := read_spec (a.take k)
  obtain ⟨s, hs⟩ : ∃ s, readT (a.take k) = s := ⟨_, rfl⟩
  obtain ⟨N, hN⟩ : ∃ N, readN (a.take k) = N := ⟨_, rfl⟩
  rw [hs] at h1 h2 h3
  rw [hN] at h3 ⊢
  have e : a = encL s ++ (r ++ a.drop k) := by
    rw [← List.append_assoc, ← h2, List.take_append_drop]
  obtain ⟨q1, q2⟩ := read_app h1 (r ++ a.drop k)
  rw [← e, ← h3] at q2
  have hlen : k = N + r.length := by
    have := congrArg List.length h2
    rw [List.length_append, ← h3, List.length_take] at this
    omega
  obtain ⟨r2, g1, g2, g3, g4⟩ := read_spec (r ++ a.drop k)
  obtain ⟨q, hq⟩ : ∃ q, readT (r ++ a.drop k) = q := ⟨_, rfl⟩
  rw [hq] at g1 g2 g3
  have e1 : a.take N = encL s := by
    have := congrArg (List.take N) e
    rwa [List.take_left' h3.symm] at this
  have e2 : a.drop N = encL q ++ r2 := by
    have := congrArg (List.drop N) e
    rwa [List.drop_left' h3.symm, g2] at this
  refine ⟨by omega, by omega, fun hkw => ?_, by rw [e1]; exact dec_enc h1, ?_⟩
  · match q, g1, g2, g3 with
    | [], _, _, g3 => rw [encL_nil, List.length_nil] at g3; omega
    | c :: q, g1, g2, _ =>
      have hb := szN_bd c
      by_cases hc : szN c ≤ r.length
      · exfalso
        rw [encL_cons, List.append_assoc] at g2
        have h5 := congrArg (List.take (szN c)) g2
        rw [List.take_append_of_le_length hc, List.take_left' (one_len c)] at h5
        have h6 : r = one c ++ r.drop (szN c) := by rw [← h5, List.take_append_drop]
        rw [h6, dec1_one (g1 c (by simp))] at h4
        cases h4
      · omega
  · rw [e2, q2, Nat.add_sub_cancel_left, g3, List.take_left]
    exact dec_enc g1

set_option maxRecDepth 100000 in
set_option maxHeartbeats 4000000 in
set_option linter.unusedVariables false in
theorem utfparts_any {A B : Option Addr} {na ca nb cb x : Nat} {la lb : List Nat} {w : World} (hT : Tab w) (hA : Lies w 1 A na ca (byt la)) (hB : Lies w 1 B nb cb (byt lb)) (hla : ∀ y ∈ la, y < 256) (hlb : ∀ y ∈ lb, y < 256) (hn : na ≤ 1048576) (hnb : nb ≤ 1048576) (hx : x < 65536) :
    Calls Tryd.prog 6 #[.slice A na ca, .slice B nb cb, .int .u16 x] w fun e w' => e = .returned (.bool true) ∧ Below w.heap.size w w' := by
  have hna := hA.bytes_len
  have hnb' := hB.bytes_len
  have hle := hA.le
  have hbig := hA.big
  have hle2 := hB.le
  have hbig2 := hB.big
  obtain ⟨k, hk⟩ : ∃ k, k = x % (na + 1) := ⟨_, rfl⟩
  have hkn : k ≤ na := by have := Nat.mod_lt x (show 0 < na + 1 by omega); omega
  have hki : ((x : Int) % ((na : Int) + 1)) = (k : Int) := by rw [hk]; simp
  have hki2 : ((x : Int).tmod ((na : Int) + 1)) = (k : Int) := by rw [hk]; rw [Int.tmod_eq_emod_of_nonneg (by omega)]; simp
  obtain ⟨p1, p2, p3, p4, p5⟩ := read_pre la k (by omega)
  obtain ⟨N, hN⟩ : ∃ N, readN (la.take k) = N := ⟨_, rfl⟩
  obtain ⟨W, hW⟩ : ∃ W, readN la = W := ⟨_, rfl⟩
  have hWn := read_le la
  rw [hna] at hWn
  rw [hN] at p1 p2 p3 p4 p5
  rw [hW] at p2 p3 p5 hWn
  have HT := Lib.hid hT; have HA := Lib.hid hA; have HB := Lib.hid hB; have HLA := Lib.hid hla; have HLB := Lib.hid hlb; have HNA := Lib.hid hna; have HNB := Lib.hid hnb'
  have HK := Lib.hid hk; have P4 := Lib.hid p4; have P5 := Lib.hid p5; have HN := Lib.hid hN; have HW := Lib.hid hW; have P3 := Lib.hid p3
  clear hT hA hB hla hlb hna hnb' hk p4 p5 hN hW p3
  go_enter Tryd.func6, Tryd.ntmps6
  obtain ⟨E1, hE1⟩ : ∃ E1 : Int, (decE la : Int) = E1 := ⟨_, rfl⟩
  obtain ⟨E2, hE2⟩ : ∃ E2 : Int, (decE lb : Int) = E2 := ⟨_, rfl⟩
  obtain ⟨E3, hE3⟩ : ∃ E3 : Int, (decE ([] ++ la ++ lb) : Int) = E3 := ⟨_, rfl⟩
  obtain ⟨T1, hT1⟩ : ∃ T1, decT la = T1 := ⟨_, rfl⟩
  obtain ⟨T2, hT2⟩ : ∃ T2, decT lb = T2 := ⟨_, rfl⟩
  obtain ⟨T3, hT3⟩ : ∃ T3, decT ([] ++ la ++ lb) = T3 := ⟨_, rfl⟩
  have hl1 : T1.length ≤ na ∧ T2.length ≤ nb := by
    rw [← hT1, ← hT2, ← HNA.out, ← HNB.out]; exact ⟨decT_len _, decT_len _⟩
  obtain ⟨hl1, hl2⟩ := hl1
  have all : E1 = 21 ∨ (E1 = 0 ∧ ((E2 = 21 ∧ E3 = 21) ∨ (E2 = 0 ∧ E3 = 0 ∧ T3 = T1 ++ T2))) := by
    rw [← hE1, ← hE2, ← hE3, ← hT1, ← hT2, ← hT3]
    exact dec_all la lb
  have HE1 := Lib.hid hE1; have HE2 := Lib.hid hE2; have HE3 := Lib.hid hE3; have HT1 := Lib.hid hT1; have HT2 := Lib.hid hT2; have HT3 := Lib.hid hT3; have HALL := Lib.hid all
  clear hE1 hE2 hE3 hT1 hT2 hT3 all
  go_wp2_with fail
  refine (decode_at la E1 T1 HE1.out HT1.out HT.out HA.out HLA.out (by omega)).mono ?_
  rintro e w1 ⟨A1, m1, c1, rfl, own1, g1⟩
  have G1 := Lib.hid g1
  have hm1 : m1 ≤ na := by have := (Lies.of_own own1).chs_len; rw [upN_len] at this; omega
  have L1 := Lib.hid (Lies.of_own own1)
  clear own1 g1
  go_wp2_with fail
  refine (decode_at lb E2 T2 HE2.out HT2.out (HT.out.same G1.out) (HB.out.below G1.out (Nat.le_refl _)) HLB.out (by omega)).mono ?_
  rintro e w2 ⟨A2, m2, c2, rfl, own2, g2⟩
  have G2 := Lib.hid (G1.out.trans g2); have G12 := Lib.hid g2
  have hm2 : m2 ≤ nb := by have := (Lies.of_own own2).chs_len; rw [upN_len] at this; omega
  have L2 := Lib.hid (Lies.of_own own2)
  clear own2 g2 hl1 hl2
  go_wp2_with (first
    | (at_builtin; refine wpList_app8 rfl (.const (.slice none 0 0)) (.tmp 31) rfl w2.heap.size _ 0 [] rfl (own_nil8 _ _) A na ca la rfl (HA.out.below G2.out (Nat.le_refl _)) (by omega) (Nat.le_refl _) ?_; intro A3 c3 w3 own3 L3 bel3; have G23 := Lib.hid (show Grow w2 w3 from bel3 _ _ (Grow.refl _) (Nat.le_refl _)); rw [Nat.zero_add] at own3; have O3 := Lib.hid own3; clear bel3 L3 own3)
    | (at_builtin; refine wpList_app8 rfl (.tmp 32) (.tmp 33) rfl w2.heap.size _ na _ rfl O3.out B nb cb lb rfl (HB.out.below (G2.out.trans G23.out) (Nat.le_refl _)) (by omega) G23.out.size ?_; intro A4 c4 w4 own4 L4 bel4))
  have G24 := Lib.hid (show Grow w2 w4 from bel4 _ _ G23.out (Nat.le_refl _))
  have G4 := Lib.hid (show Grow w w4 from G2.out.trans G24.out)
  have L4 := Lib.hid L4
  clear bel4 own4 O3
  go_wp2_with fail
  refine (decode_at ([] ++ la ++ lb) E3 T3 HE3.out HT3.out (HT.out.same G4.out) L4.out (by intro y hy; simp at hy; exact hy.elim (HLA.out y) (HLB.out y)) (by omega)).mono ?_
  rintro e w5 ⟨A5, m5, c5, rfl, own5, g5⟩
  have G5 := Lib.hid (G4.out.trans g5); have G25 := Lib.hid (G24.out.trans g5)
  have L5 := Lib.hid (Lies.of_own own5)
  clear own5 g5 HE1 HE2 HE3 HT1 HT2 HT3
  go_upto_region 4 with fail
  go_cut [0, 8, 10, 12, 56] (fun s0 s8 s10 s12 s56 wx => s0 = .slice A na ca ∧ s8 = .int .i64 E1 ∧ s10 = .int .i64 E2 ∧ s12 = .int .i64 E3 ∧ s56 = .bool false ∧ Grow w wx)
  case first =>
    rcases HALL.out with rfl | ⟨rfl, ⟨rfl, rfl⟩ | ⟨rfl, rfl, h3⟩⟩
    · go_wp2_with fail
      go_meet
      exact ⟨rfl, rfl, rfl, rfl, rfl, G5.out⟩
    · go_wp2_with fail
      go_meet
      exact ⟨rfl, rfl, rfl, rfl, rfl, G5.out⟩
    · have H3 := Lib.hid h3
      clear h3
      go_wp2_with (first
        | (at_builtin; refine wpList_unguard (by rfl) ?_; refine wpList_appC rfl (.const (.slice none 0 0)) (.tmp 49) rfl w5.heap.size _ 0 [] rfl (own_nilC _ _) A1 m1 c1 (upN T1) rfl (L1.out.below (G12.out.trans G25.out) (Nat.le_refl _)) (by omega) (Nat.le_refl _) ?_; intro A6 c6 w6 own6 L6 bel6; have G56 := Lib.hid (show Grow w5 w6 from bel6 _ _ (Grow.refl _) (Nat.le_refl _)); rw [Nat.zero_add] at own6; have O6 := Lib.hid own6; clear bel6 L6 own6)
        | (at_builtin; refine wpList_unguard (by rfl) ?_; refine wpList_appC rfl (.tmp 50) (.tmp 51) rfl w5.heap.size _ m1 _ rfl O6.out A2 m2 c2 (upN T2) rfl (L2.out.below (G25.out.trans G56.out) (Nat.le_refl _)) (by omega) G56.out.size ?_; intro A7 c7 w7 own7 L7 bel7))
      have G57 := Lib.hid (show Grow w5 w7 from bel7 _ _ G56.out (Nat.le_refl _))
      have G7 := Lib.hid (G5.out.trans G57.out)
      have L7 := Lib.hid L7
      clear bel7 own7 O6
      go_wp2_with fail
      refine (same_at true (by rw [H3.out, List.nil_append, upN_app]; simp) (L5.out.below G57.out (Nat.le_refl _)) L7.out).mono ?_
      rintro e w8 ⟨rfl, g8⟩
      have G8 := Lib.hid (G7.out.trans g8)
      clear g8
      go_wp2_with fail
      go_meet
      exact ⟨rfl, rfl, rfl, rfl, rfl, G8.out⟩
  case rest =>
  obtain ⟨rfl, rfl, rfl, rfl, rfl, hg⟩ := hcut
  rename_i wa
  have GA := Lib.hid hg
  clear hg
  go_upto_region 6 with fail
  go_cut [0, 65] (fun s0 s65 wx => s0 = .slice A na ca ∧ s65 = .bool false ∧ Grow w wx)
  case first =>
    rcases HALL.out with rfl | ⟨rfl, ⟨rfl, rfl⟩ | ⟨rfl, rfl, h3⟩⟩
    · go_wp2_with fail
      go_meet
      exact ⟨rfl, rfl, GA.out⟩
    · go_wp2_with fail
      go_meet
      exact ⟨rfl, rfl, GA.out⟩
    · clear h3
      go_wp2_with fail
      go_meet
      exact ⟨rfl, rfl, GA.out⟩
  case rest =>
    obtain ⟨rfl, rfl, hg⟩ := hcut
    have G0 := Lib.hid hg
    clear hg
    go_wp2_with fail
    refine (whole_at (la.take k) N (by rw [HN.out]) (HT.out.same G0.out) ((HA.out.below G0.out (Nat.le_refl _)).takeb k hkn) (fun y hy => HLA.out y (List.mem_of_mem_take hy)) (by omega)).mono ?_
    rintro e w1 ⟨rfl, g1⟩
    have G1 := Lib.hid (G0.out.trans g1)
    clear g1
    go_wp2_with fail
    refine (whole_at la W (by rw [HW.out]) (HT.out.same G1.out) (HA.out.below G1.out (Nat.le_refl _)) HLA.out (by omega)).mono ?_
    rintro e w2 ⟨rfl, g2⟩
    have G2 := Lib.hid (G1.out.trans g2)
    clear g2
    go_upto_region 11 with fail
    go_cut [0, 14, 15, 96] (fun s0 s14 s15 s96 wx => s0 = .slice A na ca ∧ s14 = .int .i64 N ∧ s15 = .int .i64 W ∧ s96 = .bool false ∧ w2 = wx)
    case first =>
      by_cases hkw : k ≤ W
      · have hk3 := P3.out hkw
        have b1 : decide (k < N) = false := by simp; omega
        have b2 : decide (W < N) = false := by simp; omega
        have b3 : decide ((3 : Int) < (k : Int) - (N : Int)) = false := by simp; omega
        go_wp2_with fail
        go_meet
        exact ⟨rfl, rfl, rfl, rfl, rfl⟩
      · have b1 : decide (k < N) = false := by simp; omega
        have b2 : decide (W < N) = false := by simp; omega
        go_wp2_with fail
        go_meet
        exact ⟨rfl, rfl, rfl, rfl, rfl⟩
    case rest =>
      obtain ⟨rfl, rfl, rfl, rfl, rfl⟩ := hcut
      go_wp2_with fail
      refine (decode_at (la.take N) 0 _ (by rw [P4.out]; rfl) rfl (HT.out.same G2.out) ((HA.out.below G2.out (Nat.le_refl _)).takeb N (by omega)) (fun y hy => HLA.out y (List.mem_of_mem_take hy)) (by omega)).mono ?_
      rintro e w3 ⟨A3, m3, c3, rfl, own3, g3⟩
      have G3 := Lib.hid (G2.out.trans g3)
      clear own3 g3
      have hd256 : ∀ y ∈ (la.drop N).take (W - N), y < 256 := fun y hy => HLA.out y (List.mem_of_mem_drop (List.mem_of_mem_take hy))
      have HD := Lib.hid hd256
      clear hd256
      by_cases hcN : ca = N
      · obtain rfl : na = N := by omega
        obtain rfl : W = na := by omega
        have e0 : (la.drop W).take (W - W) = [] := by rw [Nat.sub_self]; rfl
        have P6 := Lib.hid P5.out
        rw [e0] at P6
        have L3 : ∀ wr : World, Lies wr 1 A 0 0 (byt []) := fun wr => ⟨rfl, fun _ => rfl, Nat.le_refl _, by omega, fun a ha j u hu => by simp [byt] at hu⟩
        have HL3 := Lib.hid L3
        clear L3 e0
        go_wp2_with fail
        refine (decode_at [] 0 _ (by rw [P6.out]; rfl) rfl (HT.out.same G3.out) (HL3.out _) (by simp) (by omega)).mono ?_
        rintro e w4 ⟨A4, m4, c4, rfl, own4, g4⟩
        have G4 := Lib.hid (G3.out.trans g4)
        clear own4 g4
        go_wp2_with fail
        refine (wakes_any (HT.out.same G4.out)).mono ?_
        rintro e w12 ⟨rfl, g12⟩
        have G12 := Lib.hid (G4.out.trans g12)
        clear g12
        go_wp2
        go_ret
        exact ⟨rfl, G12.out⟩
      · rcases Nat.eq_zero_or_pos na with h0 | h0
        · subst h0
          obtain rfl : N = 0 := by omega
          obtain rfl : W = 0 := by omega
          rcases A with _ | ad
          · exact absurd (HA.out.nilc rfl) hcN
          have hl0 : la = [] := List.eq_nil_of_length_eq_zero HNA.out
          have e0 : (la.drop 0).take (0 - 0) = la := by rw [hl0]; rfl
          have P6 := Lib.hid P5.out
          rw [e0] at P6
          clear hl0 e0
          go_wp2_with fail
          refine (decode_at la 0 _ (by rw [P6.out]; rfl) rfl (HT.out.same G3.out) (HA.out.below G3.out (Nat.le_refl _)) HLA.out (by omega)).mono ?_
          rintro e w4 ⟨A4, m4, c4, rfl, own4, g4⟩
          have G4 := Lib.hid (G3.out.trans g4)
          clear own4 g4
          go_wp2_with fail
          refine (wakes_any (HT.out.same G4.out)).mono ?_
          rintro e w12 ⟨rfl, g12⟩
          have G12 := Lib.hid (G4.out.trans g12)
          clear g12
          go_wp2
          go_ret
          exact ⟨rfl, G12.out⟩
        · obtain ⟨g, off, rfl, hgs, -⟩ := HA.out.pos h0 (by decide)
          have LC := Lib.hid ((HA.out.below G3.out (Nat.le_refl _)).cut1 N W (by omega) (by omega))
          go_wp2_with fail
          refine (decode_at _ 0 _ (by rw [P5.out]; rfl) rfl (HT.out.same G3.out) LC.out HD.out (by omega)).mono ?_
          rintro e w4 ⟨A4, m4, c4, rfl, own4, g4⟩
          have G4 := Lib.hid (G3.out.trans g4)
          clear own4 g4
          go_wp2_with fail
          refine (wakes_any (HT.out.same G4.out)).mono ?_
          rintro e w12 ⟨rfl, g12⟩
          have G12 := Lib.hid (G4.out.trans g12)
          clear g12
          go_wp2
          go_ret
          exact ⟨rfl, G12.out⟩
end Go.Proofs.YtbphdojjddnljaaDoor

