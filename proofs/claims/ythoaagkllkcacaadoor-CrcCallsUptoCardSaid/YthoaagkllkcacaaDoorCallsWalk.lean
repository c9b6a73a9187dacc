/-
  crc: the walk of CrcCalls.
-/
import Derived.Test.YthoaagkllkcacaaDoorRefs
import Derived.Test.YthoaagkllkcacaaDoorKnownWalk
import Derived.Deep.DeepCutAuto
namespace Go.Proofs.YthoaagkllkcacaaDoor
open Go.RowKit
set_option linter.unusedSimpArgs false

theorem Parts.take {w : World} {A : Option Addr} {k c : Nat} {vs : List (Option Addr × Nat × Nat)} {ls : List (List Nat)} (h : Parts w A k c vs ls) (j : Nat) (hj : j ≤ k) : Parts w A j c (vs.take j) (ls.take j) := by
  refine ⟨?_, by rw [List.length_take, h.len]; omega, fun i v l hv hl => ?_⟩
  · rw [List.map_take]; exact h.lies.take1 j hj
  · rw [List.getElem?_take] at hv hl
    split at hv
    · rename_i hi
      rw [if_pos hi] at hl
      exact h.each i v l hv hl
    · cases hv
theorem Parts.grow {w w' : World} {A : Option Addr} {k c : Nat} {vs : List (Option Addr × Nat × Nat)} {ls : List (List Nat)} (h : Parts w A k c vs ls) (hg : Grow w w') : Parts w' A k c vs ls :=
  ⟨h.lies.below hg (Nat.le_refl _), h.len, fun i v l hv hl => ⟨((h.each i v l hv hl).1).below hg (Nat.le_refl _), (h.each i v l hv hl).2⟩⟩
theorem own_ne {w w' : World} {b g n : Nat} {e : TypeId} {v : Value} {xs : List Value} (h : w'.ownsRow b e 1 v n xs) (hg : g < w.heap.size) (hb : w.heap.size ≤ b) : v.ownBlock ≠ some g := by
  intro he
  have := (h.lt g he).1
  omega
theorem own_form1 {w : World} {b n c : Nat} {e : TypeId} {A : Option Addr} {xs : List Value} (h : w.ownsRow b e 1 (.slice A n c) n xs) (hn : 0 < n) : ∃ g, A = some ⟨g, 0, none⟩ ∧ b ≤ g ∧ g < w.heap.size := by
  rcases h.2 with ⟨_, h5⟩ | ⟨g, cap, cur, hv, hg, _⟩
  · omega
  · injection hv with hA _ hc
    subst hA hc
    exact ⟨g, rfl, hg, (h.lt g rfl).2⟩
theorem ret_slice {A : Option Addr} {n m c : Nat} (h : n = m) : Value.slice A n c = .slice A m c := by rw [h]
theorem set_bytes {l : List Nat} {j y : Nat} (h : ∀ x ∈ l, x < 256) (hy : y < 256) : ∀ x ∈ l.set j y, x < 256 := by
  intro x hx
  rcases List.mem_or_eq_of_mem_set hx with h1 | h1
  · exact h x h1
  · omega

set_option maxRecDepth 100000 in
set_option maxHeartbeats 3000000 in
set_option linter.unusedVariables false in
theorem crccalls_any {A B : Option Addr} {k0 c0 n cb : Nat} {vs : List (Option Addr × Nat × Nat)} {ls : List (List Nat)} {l : List Nat} {w : World} (hT : Tab w) (hP : Parts w A k0 c0 vs ls) (hL : Lies w 1 B n cb (byt l))
    (hl : ∀ x ∈ l, x < 256) (htot : ls.flatten.length ≤ 1048576) (hn : cb ≤ 140737488351232) :
    Calls Tryd.prog 3 #[.slice A k0 c0, .slice B n cb] w fun e w' => e = .returned (.bool true) ∧ Below w.heap.size w w' := by
  obtain ⟨k, hk0⟩ : ∃ k, k = min k0 40 := ⟨_, rfl⟩
  have k1 : k ≤ k0 := by omega
  have k2 : k ≤ 40 := by omega
  have hP1 := hP.take k k1
  have hle0 := hP.lies.le
  have hbig0 := hP.lies.big
  have hln := hL.bytes_len
  have hle := hL.le
  obtain ⟨F, hF⟩ : ∃ F, F = (ls.take k).flatten := ⟨_, rfl⟩
  have ht1 : (ls.take k).flatten.length ≤ 1048576 := by
    refine Nat.le_trans ?_ htot
    conv => rhs; rw [← List.take_append_drop k ls, List.flatten_append, List.length_append]
    omega
  have hFb : ∀ x ∈ F, x < 256 := by
    intro x hx
    rw [hF] at hx
    obtain ⟨q, hq, hx⟩ := List.mem_flatten.1 hx
    exact hP1.bytes q hq x hx
  have HK := Lib.hid hk0; have HF := Lib.hid hF; have HFB := Lib.hid hFb; have HP := Lib.hid hP1; have HTOT := Lib.hid ht1; have HL := Lib.hid hL; have HB := Lib.hid hl; have HLN := Lib.hid hln; have HT := Lib.hid hT
  clear hk0 hF hFb hP1 ht1 hL hl hln hT hP htot
  go_enter Tryd.func3, Tryd.ntmps3
  go_upto_region 1 with fail
  go_cut [0] (fun s0 wx => s0 = .slice A k c0 ∧ w = wx)
  case first =>
    all_goals go_wp2_with fail
    all_goals go_meet
    all_goals refine ⟨ret_slice ?_, rfl⟩
    all_goals (have := HK.out; omega)
  case rest =>
    obtain ⟨rfl, rfl⟩ := hcut
    go_wp2_with fail
    refine (join_any HP.out HTOT.out).mono ?_
    rw [← HF.out]
    rintro e w1 ⟨A1, N1, c1, rfl, L1, g1⟩
    have HL1 := Lib.hid L1; have G1 := Lib.hid g1
    clear L1 g1
    go_wp2_with (at_builtin; refine wpList_app8 rfl (.const (.slice none 0 0)) (.tmp 22) rfl w1.heap.size _ 0 [] rfl (own_nil8 _ _) B n cb l rfl (HL.out.below G1.out (Nat.le_refl _)) (by omega) (Nat.le_refl _) ?_; intro Am cm w2 own2 L2 bel2)
    have g2 : Grow w1 w2 := bel2 _ _ (Below.refl _ w1) (Nat.le_refl _)
    simp only [Nat.zero_add, List.nil_append] at own2 L2 ⊢
    have HL2 := Lib.hid L2; have G2 := Lib.hid (G1.out.trans g2)
    have HL1 := Lib.hid (HL1.out.below g2 (Nat.le_refl _))
    clear own2 L2 g2 bel2
    obtain ⟨N, hN⟩ : ∃ N, n + 4 = N := ⟨_, rfl⟩
    have hN1 : N ≤ 140737488351236 := by omega
    have HN := Lib.hid hN
    clear hN
    go_wp2_with fail
    refine (mark_own N _ HN.out rfl (HT.out.same G2.out) HL2.out HB.out (by omega)).mono ?_
    rintro e w3 ⟨g, c, rfl, hg0, own3, g3⟩
    have HO3 := Lib.hid own3; have G3 := Lib.hid (show Grow w2 w3 from g3)
    have hg3 := (own3.lt g rfl).2
    clear own3 g3
    go_wp2_with fail
    refine (strip_any (HT.out.same (G2.out.trans G3.out)) (HL2.out.below G3.out (Nat.le_refl _)) HB.out (by omega)).mono ?_
    rintro e w4 ⟨As, ms, cs, rfl, own4, g4⟩
    have HO4 := Lib.hid own4; have G4 := Lib.hid (G3.out.trans g4)
    have HO3 := Lib.hid (own_grow HO3.out g4)
    have HLs := Lib.hid (Lies.of_own own4)
    clear own4 g4
    go_wp2_with fail
    refine (rstrip_any (HL.out.below (G2.out.trans G4.out) (Nat.le_refl _)) HB.out (by omega)).mono ?_
    rintro e w5 ⟨Au, mu, cu, rfl, own5, g5⟩
    have HLu := Lib.hid (Lies.of_own own5); have G5 := Lib.hid (G4.out.trans g5)
    have HO3 := Lib.hid (own_grow HO3.out g5)
    have HO4 := Lib.hid (own_grow HO4.out g5)
    have HLs := Lib.hid (HLs.out.below g5 (Nat.le_refl _))
    clear own5 g5
    have v1 : ∀ W : World, Grow w5 W → (convert 23 9 (.slice (some ⟨g, 0, none⟩) N c)).run Tryd.prog W = .ok (.string (str (l ++ le4 (sum l)))) W := fun W h => run_convert_lies (P := Tryd.prog) ((Lies.of_own HO3.out).below h (Nat.le_refl _)) 23 5 9 Tryd.underlying23 Tryd.underlying5 Tryd.underlying9
    have v2 : ∀ W : World, Grow w5 W → (convert 23 9 (.slice As ms cs)).run Tryd.prog W = .ok (.string (str (stripB l))) W := fun W h => run_convert_lies (P := Tryd.prog) (HLs.out.below h (Nat.le_refl _)) 23 5 9 Tryd.underlying23 Tryd.underlying5 Tryd.underlying9
    have v3 : ∀ W : World, Grow w5 W → (convert 23 9 (.slice Au mu cu)).run Tryd.prog W = .ok (.string (str (stripB l))) W := fun W h => run_convert_lies (P := Tryd.prog) (HLu.out.below h (Nat.le_refl _)) 23 5 9 Tryd.underlying23 Tryd.underlying5 Tryd.underlying9
    obtain ⟨S, hS⟩ : ∃ S, S = sum F := ⟨_, rfl⟩
    have HS := Lib.hid hS
    clear hS
    have G05 := Lib.hid (G2.out.trans G5.out)
    have HL1 := Lib.hid (HL1.out.below G5.out (Nat.le_refl _))
    go_wp2_with fail
    refine Chain.start (Option Addr × Nat × Nat) (by kernel_rfl) (by kernel_rfl) (fun hg => ?_)
    repeat (first | (refine Chain.skip hg (fun t => by rfl) ?_; simp only [Act.put, List.setIfInBounds_toArray, List.set_cons_zero, List.set_cons_succ]) | (refine Chain.pure hg (X := ?_) (fun t W hw hN => ⟨by rfl, ?_⟩) ?_; rotate_left; (focus (go_simp <;> with_reducible rfl)); simp only [Act.put, List.setIfInBounds_toArray, List.set_cons_zero, List.set_cons_succ]))
    refine Chain.grow hg (fun _ => .int .u32 (S : Int)) (fun _ _ => True) (fun _ _ _ h _ => h) (fun _ => by rfl) (fun t W hw hN K hK => ?_) ?_
    · go_simp; refine (sum_any (HT.out.same (G05.out.trans hw)) (HP.out.grow (G05.out.trans hw))).mono ?_; rw [← HF.out, ← HS.out]; rintro e w9 ⟨rfl, rfl⟩; exact hK.out default _ (Grow.refl _) trivial
    simp only [Act.put, List.setIfInBounds_toArray, List.set_cons_zero, List.set_cons_succ]
    repeat (first | (refine Chain.skip hg (fun t => by rfl) ?_; simp only [Act.put, List.setIfInBounds_toArray, List.set_cons_zero, List.set_cons_succ]) | (refine Chain.pure hg (X := ?_) (fun t W hw hN => ⟨by rfl, ?_⟩) ?_; rotate_left; (focus (go_simp <;> with_reducible rfl)); simp only [Act.put, List.setIfInBounds_toArray, List.set_cons_zero, List.set_cons_succ]))
    refine Chain.grow hg (fun _ => .int .u32 (S : Int)) (fun _ _ => True) (fun _ _ _ h _ => h) (fun _ => by rfl) (fun t W hw hN K hK => ?_) ?_
    · go_simp; refine (rsum_any (HL1.out.below hw (Nat.le_refl _)) HFB.out).mono ?_; rw [← HS.out]; rintro e w9 ⟨rfl, rfl⟩; exact hK.out default _ (Grow.refl _) trivial
    simp only [Act.put, List.setIfInBounds_toArray, List.set_cons_zero, List.set_cons_succ]
    repeat (first | (refine Chain.skip hg (fun t => by rfl) ?_; simp only [Act.put, List.setIfInBounds_toArray, List.set_cons_zero, List.set_cons_succ]) | (refine Chain.pure hg (X := ?_) (fun t W hw hN => ⟨by rfl, ?_⟩) ?_; rotate_left; (focus (go_simp <;> with_reducible rfl)); simp only [Act.put, List.setIfInBounds_toArray, List.set_cons_zero, List.set_cons_succ]))
    refine Chain.grow hg (fun s => .slice s.1 s.2.1 s.2.2) (fun s W => Lies W 1 s.1 s.2.1 s.2.2 (byt (l ++ le4 (sum l)))) (fun _ _ _ h k => h.below k (Nat.le_refl _)) (fun _ => by rfl) (fun t W hw hN K hK => ?_) ?_
    · go_simp; refine (rmark_any (HL.out.below (G05.out.trans hw) (Nat.le_refl _)) HB.out (by omega)).mono ?_; rintro e w9 ⟨A9, N9, c9, rfl, L9, hg9⟩; exact hK.out (A9, N9, c9) _ hg9 L9
    simp only [Act.put, List.setIfInBounds_toArray, List.set_cons_zero, List.set_cons_succ]
    refine Chain.pure hg (X := fun _ => .string (str (l ++ le4 (sum l)))) (fun t W hw hN => ⟨by rfl, ?_⟩) ?_
    · have hc := hN.get 9 rfl (by kernel_rfl); have hv := run_convert_lies (P := Tryd.prog) hc 23 5 9 Tryd.underlying23 Tryd.underlying5 Tryd.underlying9; go_simp
    simp only [Act.put, List.setIfInBounds_toArray, List.set_cons_zero, List.set_cons_succ]
    repeat (first | (refine Chain.skip hg (fun t => by rfl) ?_; simp only [Act.put, List.setIfInBounds_toArray, List.set_cons_zero, List.set_cons_succ]) | (refine Chain.pure hg (X := ?_) (fun t W hw hN => ⟨by rfl, ?_⟩) ?_; rotate_left; (focus (go_simp <;> with_reducible rfl)); simp only [Act.put, List.setIfInBounds_toArray, List.set_cons_zero, List.set_cons_succ]))
    refine Chain.done (fun t w6 hw hN => ?_)
    clear hN hg v1 v2 v3
    generalize t 9 = z
    have HO3 := Lib.hid (own_grow HO3.out hw)
    have HO4 := Lib.hid (own_grow HO4.out hw)
    have G6 := Lib.hid (G5.out.trans hw)
    have hg2 : w2.heap.size ≤ g := hg0
    clear hw
    have own_s := HO4.out
    have hne : (Value.slice As ms cs).ownBlock ≠ some g := own_ne own_s hg3 (Nat.le_refl _)
    have HNE := Lib.hid hne
    have hms := (Lies.of_own own_s).le
    have hms2 := (Lies.of_own own_s).big
    have hbm : ∀ x ∈ l ++ le4 (sum l), x < 256 := by
      intro y hy
      rcases List.mem_append.1 hy with h | h
      · exact HB.out y h
      · exact le4_bytes _ y h
    have HBM := Lib.hid hbm
    have HBS := Lib.hid (stripB_bytes HB.out)
    have hw3 : w2.heap.size ≤ w3.heap.size := G3.out.size
    clear own_s hne hbm
    go_wp2
    go_loopw [13] (fun i wr => ∃ (q : Nat) (l' : List Nat), q ≤ N ∧ i = .int .i64 q ∧ wr.ownsRow w2.heap.size 5 1 (.slice (some ⟨g, 0, none⟩) N c) N (byt l') ∧ Hid (∀ x ∈ l', x < 256) ∧ wr.ownsRow w3.heap.size 5 1 (.slice As ms cs) ms (byt (stripB l)) ∧ Below w2.heap.size w2 wr) (fun i _ => N - (intOf i).toNat)
    case atStart => exact ⟨0, _, Nat.zero_le _, rfl, HO3.out, HBM, HO4.out, G6.out⟩
    case round =>
      obtain ⟨q, l', hq, rfl, om, bl', os, hb⟩ := hrel
      by_cases hlt : q < N
      · have hlen := (Lies.of_own om).bytes_len
        obtain ⟨x, hx⟩ : ∃ x, l'[q]? = some x := ⟨_, List.getElem?_eq_getElem (by omega)⟩
        have xl : x < 256 := bl'.out x (List.mem_of_getElem? hx)
        have hc := om.cellAt q (by omega)
        rw [show (byt l')[q]? = some (.int .u8 (x : Int)) by simp [byt, hx]] at hc
        have hf := om.frozenAt q
        obtain ⟨y, hy⟩ : ∃ y, y = x ^^^ 255 := ⟨_, rfl⟩
        have yl : y < 256 := by rw [hy]; exact Nat.xor_lt_two_pow (n := 8) xl (by decide)
        have e1 := u8_xor_nat x 255 xl (by decide)
        rw [← hy] at e1
        simp only [Int.cast_ofNat_Int] at e1
        have ho1 := om.stored q (.int .u8 (y : Int))
        rw [byt_set] at ho1
        have os1 := os.kept ho1.2 (.inr HNE.out)
        have hb1 := hb.setCell (p := ⟨g, q, none⟩) hg2 (.int .u8 (y : Int))
        have HA := Lib.hid ho1.1; have HBB := Lib.hid os1; have HC := Lib.hid hb1; have HY := Lib.hid (set_bytes (j := q) bl'.out yl)
        clear hlen hx hy om os hb ho1 os1 hb1
        go_wp2
        go_roundw
        case rel => exact ⟨q + 1, _, by omega, by go_num, HA.out, HY, HBB.out, HC.out⟩
        case measure => simp [intOf]; omega
      · obtain rfl : q = N := by omega
        clear om bl'
        go_wp2
        go_loopw [14] (fun i wr => ∃ (q : Nat) (l' : List Nat), q ≤ ms ∧ i = .int .i64 q ∧ Hid (∀ x ∈ l', x < 256) ∧ wr.ownsRow w3.heap.size 5 1 (.slice As ms cs) ms (byt l') ∧ Below w2.heap.size w2 wr) (fun i _ => ms - (intOf i).toNat)
        case atStart => exact ⟨0, _, Nat.zero_le _, rfl, HBS, os, hb⟩
        case round =>
          obtain ⟨q, l', hq, rfl, bl', om, hb⟩ := hrel
          by_cases hlt : q < ms
          · obtain ⟨gs, rfl, hgs, -⟩ := own_form1 om (by omega)
            have hlen := (Lies.of_own om).bytes_len
            obtain ⟨x, hx⟩ : ∃ x, l'[q]? = some x := ⟨_, List.getElem?_eq_getElem (by omega)⟩
            have xl : x < 256 := bl'.out x (List.mem_of_getElem? hx)
            have hc := om.cellAt q (by omega)
            rw [show (byt l')[q]? = some (.int .u8 (x : Int)) by simp [byt, hx]] at hc
            have hf := om.frozenAt q
            obtain ⟨y, hy⟩ : ∃ y, y = x ^^^ 255 := ⟨_, rfl⟩
            have yl : y < 256 := by rw [hy]; exact Nat.xor_lt_two_pow (n := 8) xl (by decide)
            have e1 := u8_xor_nat x 255 xl (by decide)
            rw [← hy] at e1
            simp only [Int.cast_ofNat_Int] at e1
            have ho1 := om.stored q (.int .u8 (y : Int))
            rw [byt_set] at ho1
            have hb1 := hb.setCell (p := ⟨gs, q, none⟩) (Nat.le_trans hw3 hgs) (.int .u8 (y : Int))
            have HA := Lib.hid ho1.1; have HC := Lib.hid hb1; have HY := Lib.hid (set_bytes (j := q) bl'.out yl)
            clear hlen hx hy om hb ho1 hb1
            go_wp2
            go_roundw
            case rel => exact ⟨q + 1, _, by omega, by go_num, HY, HA.out, HC.out⟩
            case measure => simp [intOf]; omega
          · obtain rfl : q = ms := by omega
            have e1 := run_convert_lies (P := Tryd.prog) (HL2.out.below hb (Nat.le_refl _)) 23 5 9 Tryd.underlying23 Tryd.underlying5 Tryd.underlying9
            have HBB := Lib.hid (G2.out.trans hb)
            have e2 := run_convert_lies (P := Tryd.prog) (HL.out.below HBB.out (Nat.le_refl _)) 23 5 9 Tryd.underlying23 Tryd.underlying5 Tryd.underlying9
            clear om bl' hb
            go_wp2_with fail
            refine (wakes_below HT.out HBB.out).mono ?_
            rintro e w9 ⟨rfl, hb9⟩
            go_wp2
            go_ret
            exact ⟨rfl, hb9⟩
end Go.Proofs.YthoaagkllkcacaaDoor

