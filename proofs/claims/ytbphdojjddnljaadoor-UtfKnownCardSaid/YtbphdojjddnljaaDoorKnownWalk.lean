/-
  utf: the walk of UtfKnown.
-/
import Derived.Test.YtbphdojjddnljaaDoorSizesWalk
namespace Go.Proofs.YtbphdojjddnljaaDoor
open Go.RowKit
set_option linter.unusedSimpArgs false

def edges : List Nat := [0, 127, 128, 2047, 2048, 65535, 65536, 1114111, 55295]
def edgeC : List Value := [.int .i32 0, .int .i32 127, .int .i32 128, .int .i32 2047, .int .i32 2048, .int .i32 65535, .int .i32 65536, .int .i32 1114111, .int .i32 55295]
def sizeC : List Value := [.int .i64 1, .int .i64 1, .int .i64 2, .int .i64 2, .int .i64 3, .int .i64 3, .int .i64 4, .int .i64 4, .int .i64 3]
theorem edge_at (k : Nat) (hk : k < 9) : ∃ c : Nat, mayI (c : Int) = true ∧ edgeC[k]? = some (.int .i32 (c : Int)) ∧ sizeC[k]? = some (.int .i64 ((sizeI (c : Int) : Nat) : Int)) := by
  match k, hk with
  | 0, _ => exact ⟨0, by decide, rfl, rfl⟩
  | 1, _ => exact ⟨127, by decide, rfl, rfl⟩
  | 2, _ => exact ⟨128, by decide, rfl, rfl⟩
  | 3, _ => exact ⟨2047, by decide, rfl, rfl⟩
  | 4, _ => exact ⟨2048, by decide, rfl, rfl⟩
  | 5, _ => exact ⟨65535, by decide, rfl, rfl⟩
  | 6, _ => exact ⟨65536, by decide, rfl, rfl⟩
  | 7, _ => exact ⟨1114111, by decide, rfl, rfl⟩
  | 8, _ => exact ⟨55295, by decide, rfl, rfl⟩
theorem high (c : Nat) (h1 : 128 ≤ c) (h2 : c < 256) : decE [c] = 21 ∧ decE [c, 97] = 21 ∧ decE [97, c] = 21 ∧ readN [97, c] = 1 := by
  have h : ∀ c : Fin 256, 128 ≤ c.1 → decE [c.1] = 21 ∧ decE [c.1, 97] = 21 ∧ decE [97, c.1] = 21 ∧ readN [97, c.1] = 1 := by decide +kernel
  exact h ⟨c, h2⟩ h1

theorem range_new (w : World) (l : List Value) (cs : Array Value) {e : TypeId} {g : Nat} (hg : g = w.heap.size) (h : cs.toList = l) : (w.alloc (.cells cs e)).rangeAt g 0 l := by
  subst hg h
  intro j v hv
  rw [cell_of_row _ w.heap.size (0 + j) cs e _ (heap_alloc_new w _)]
  simpa using hv
theorem lies_u8 {w : World} {e : TypeId} {cs : Array Value} {g : Nat} (l : List Nat) (n : Nat) (hg : g = w.heap.size) (h : cs.toList = byt l) (hn : l.length = n) (hb : n ≤ 9223372036854775807) :
    Lies (w.alloc (.cells cs e)) 1 (some ⟨g, 0, none⟩) n n (byt l) := lies_lit l n hg h hn hb

theorem dec21 {l : List Nat} (h : decE l = 21) : decT l = [] := by
  unfold decE at h
  unfold decT
  by_cases hl : readN l < l.length
  · rw [if_pos hl]
  · rw [if_neg hl] at h; cases h

set_option maxRecDepth 100000 in
set_option maxHeartbeats 4000000 in
set_option linter.unusedVariables false in
theorem utfknown_any {w : World} (hT : Tab w) :
    Calls Tryd.prog 8 #[] w fun e w' => e = .returned (.bool true) ∧ Below w.heap.size w w' := by
  have HT := Lib.hid hT
  have kc := conv_const
  clear hT
  go_enter Tryd.func8, Tryd.ntmps8
  go_upto_region 3 with fail
  go_cut [0, 1, 2, 3] (fun s0 s1 s2 s3 wx => s0 = .bool false ∧ s3 = .int .i64 0 ∧ ∃ g1 g2, s1 = .pointer (some ⟨g1, 0, none⟩) ∧ s2 = .pointer (some ⟨g2, 0, none⟩) ∧ Grow w wx ∧ wx.rangeAt g1 0 edgeC ∧ wx.rangeAt g2 0 sizeC)
  case first =>
    go_wp2_with fail
    go_meet
    refine ⟨rfl, rfl, w.heap.size, w.heap.size + 1, rfl, rfl, (Grow.alloc _ _).trans (Grow.alloc _ _), ?_, ?_⟩
    · exact fun j v h => grow_cell (range_new w edgeC _ rfl rfl j v h) (Grow.alloc _ _)
    · exact range_new _ sizeC _ (by simp) rfl
  case rest =>
  obtain ⟨rfl, rfl, g1, g2, rfl, rfl, hg, hr1, hr2⟩ := hcut
  have G1 := Lib.hid hg; have R1 := Lib.hid hr1; have R2 := Lib.hid hr2
  clear hg hr1 hr2
  go_wp2
  go_loopw [3] (fun i wr => ∃ k : Nat, k ≤ 9 ∧ i = .int .i64 k ∧ Grow wc wr) (fun i _ => 9 - (intOf i).toNat)
  case atStart => exact ⟨0, by omega, rfl, Grow.refl _⟩
  case round =>
    obtain ⟨k, hk, rfl, hg⟩ := hrel
    by_cases hlt : k < 9
    · obtain ⟨c, hm, he, hs⟩ := edge_at k hlt
      obtain ⟨q, hq⟩ : ∃ q : Nat, sizeI (c : Int) = q := ⟨_, rfl⟩
      rw [hq] at hs
      have r1 : ∀ W : World, Grow wr W → W.cell? ⟨g1, k, none⟩ = some (.int .i32 (c : Int)) := fun W h => by have := R1.out k _ he; rw [Nat.zero_add] at this; exact grow_cell this (hg.trans h)
      have r2 : ∀ W : World, Grow wr W → W.cell? ⟨g2, k, none⟩ = some (.int .i64 (q : Int)) := fun W h => by have := R2.out k _ hs; rw [Nat.zero_add] at this; exact grow_cell this (hg.trans h)
      have i0 : (0 : Int) ≤ (k : Int) := by omega
      have i1 : (k : Int) < 9 := by omega
      have e1 : ((q : Int) != (q : Int)) = false := by simp
      have HM := Lib.hid hm; have HQ := Lib.hid hq; have GR := Lib.hid (G1.out.trans hg); have G0 := Lib.hid hg
      clear hm hq he hs hg
      go_wp2_with fail
      refine Chain.start Nat (by kernel_rfl) (by kernel_rfl) (fun hg => ?_)
      repeat (first | (refine Chain.skip hg (fun t => by rfl) ?_; simp only [Act.put, List.setIfInBounds_toArray, List.set_cons_zero, List.set_cons_succ]) | (refine Chain.pure hg (X := ?_) (fun t W hw hN => ⟨by rfl, ?_⟩) ?_; rotate_left; (focus (go_simp <;> with_reducible rfl)); simp only [Act.put, List.setIfInBounds_toArray, List.set_cons_zero, List.set_cons_succ]))
      refine Chain.grow hg (fun _ => .int .i64 (q : Int)) (fun _ _ => True) (fun _ _ _ h _ => h) (fun _ => by rfl) (fun t W hw hN K hK => ?_) ?_
      · go_simp; refine (size_any (HT.out.same (GR.out.trans hw))).mono ?_; rw [HQ.out]; rintro e w9 ⟨rfl, g9⟩; exact hK.out default _ g9 trivial
      simp only [Act.put, List.setIfInBounds_toArray, List.set_cons_zero, List.set_cons_succ]
      repeat (first | (refine Chain.skip hg (fun t => by rfl) ?_; simp only [Act.put, List.setIfInBounds_toArray, List.set_cons_zero, List.set_cons_succ]) | (refine Chain.pure hg (X := ?_) (fun t W hw hN => ⟨by rfl, ?_⟩) ?_; rotate_left; (focus (go_simp <;> with_reducible rfl)); simp only [Act.put, List.setIfInBounds_toArray, List.set_cons_zero, List.set_cons_succ]))
      refine Chain.grow hg (fun _ => .bool true) (fun _ _ => True) (fun _ _ _ h _ => h) (fun _ => by rfl) (fun t W hw hN K hK => ?_) ?_
      · go_simp; refine (may_at true HM.out).mono ?_; rintro e w9 ⟨rfl, rfl⟩; exact hK.out default _ (Grow.refl _) trivial
      simp only [Act.put, List.setIfInBounds_toArray, List.set_cons_zero, List.set_cons_succ]
      repeat (first | (refine Chain.skip hg (fun t => by rfl) ?_; simp only [Act.put, List.setIfInBounds_toArray, List.set_cons_zero, List.set_cons_succ]) | (refine Chain.pure hg (X := ?_) (fun t W hw hN => ⟨by rfl, ?_⟩) ?_; rotate_left; (focus (go_simp <;> with_reducible rfl)); simp only [Act.put, List.setIfInBounds_toArray, List.set_cons_zero, List.set_cons_succ]))
      refine Chain.done (fun t W hw hN => ?_)
      clear hN hg r1 r2
      have hgW := G0.out.trans hw
      go_wp2
      go_roundw
      case rel => exact ⟨k + 1, by omega, by go_num, hgW⟩
      case measure => simp [intOf]; omega
    · obtain rfl : k = 9 := by omega
      have G2 := Lib.hid (G1.out.trans hg)
      clear hg
      go_wp2_with fail
      refine (may_at false (by decide)).mono ?_
      rintro e w2 ⟨rfl, rfl⟩
      go_wp2_with fail
      refine (may_at false (by decide)).mono ?_
      rintro e w2 ⟨rfl, rfl⟩
      go_wp2_with fail
      refine (may_at false (by decide)).mono ?_
      rintro e w2 ⟨rfl, rfl⟩
      go_wp2_with fail
      refine (may_at false (by decide)).mono ?_
      rintro e w2 ⟨rfl, rfl⟩
      go_wp2_with fail
      refine (size_no (by decide)).mono ?_
      rintro e w2 ⟨rfl, g2⟩
      have G3 := Lib.hid (G2.out.trans g2)
      clear g2
      go_wp2_with fail
      refine (size_no (by decide)).mono ?_
      rintro e w3 ⟨rfl, g3⟩
      have G4 := Lib.hid (G3.out.trans g3)
      clear g3
      go_wp2_with fail
      refine (may_at true (by decide)).mono ?_
      rintro e w4 ⟨rfl, rfl⟩
      go_wp2
      go_loopw [4, 5, 6, 7, 8, 9, 10] (fun i a b c d e f wr => ∃ k : Nat, 128 ≤ k ∧ k ≤ 256 ∧ i = .int .i64 k ∧ Grow w wr) (fun i _ _ _ _ _ _ _ => 256 - (intOf i).toNat)
      case atStart => exact ⟨128, by omega, by omega, rfl, G4.out⟩
      case round =>
        obtain ⟨c, h128, hc, rfl, hg⟩ := hrel
        have G5 := Lib.hid hg
        clear hg
        by_cases hlt : c < 256
        · obtain ⟨d1, d2, d3, d4⟩ := high c h128 hlt
          have D1 := Lib.hid d1; have D2 := Lib.hid d2; have D3 := Lib.hid d3; have D4 := Lib.hid d4
          have B1 : Hid (∀ y ∈ [c], y < 256) := by intro y hy; simp at hy; omega
          have B2 : Hid (∀ y ∈ [c, 97], y < 256) := by intro y hy; simp at hy; omega
          have B3 : Hid (∀ y ∈ [97, c], y < 256) := by intro y hy; simp at hy; omega
          have w8 : IntKind.u8.wrap (c : Int) = (c : Int) := by rw [IntKind.wrap_u8]; omega
          have H128 := Lib.hid h128; have HC := Lib.hid hc
          clear d1 d2 d3 d4 h128 hc kc
          have b1 : decide (c < 256) = true := by simp; omega
          have b2 : decide ((c : Int) < 256) = true := by simp; omega
          have HLT := Lib.hid hlt
          clear hlt
          go_wp2_with fail
          refine (decode_at [c] 21 [] (by rw [D1.out]; rfl) (dec21 D1.out) ((HT.out.same G5.out).alloc _) (lies_u8 [c] 1 rfl rfl rfl (by decide)) B1.out (by decide)).mono ?_
          rintro e w6 ⟨A6, m6, c6, rfl, own6, g6⟩
          have G6 := Lib.hid (G5.out.trans ((Grow.alloc _ _).trans g6))
          clear own6 g6
          go_wp2_with fail
          refine (decode_at [c, 97] 21 [] (by rw [D2.out]; rfl) (dec21 D2.out) ((HT.out.same G6.out).alloc _) (lies_u8 [c, 97] 2 rfl rfl rfl (by decide)) B2.out (by decide)).mono ?_
          rintro e w7 ⟨A7, m7, c7, rfl, own7, g7⟩
          have G7 := Lib.hid (G6.out.trans ((Grow.alloc _ _).trans g7))
          clear own7 g7
          go_wp2_with fail
          refine (decode_at [97, c] 21 [] (by rw [D3.out]; rfl) (dec21 D3.out) ((HT.out.same G7.out).alloc _) (lies_u8 [97, c] 2 rfl rfl rfl (by decide)) B3.out (by decide)).mono ?_
          rintro e w8 ⟨A8, m8, c8, rfl, own8, g8⟩
          have G8 := Lib.hid (G7.out.trans ((Grow.alloc _ _).trans g8))
          clear own8 g8
          go_wp2_with fail
          refine (whole_at [97, c] 1 (by rw [D4.out]; rfl) ((HT.out.same G8.out).alloc _) (lies_u8 [97, c] 2 rfl rfl rfl (by decide)) B3.out (by decide)).mono ?_
          rintro e w9 ⟨rfl, g9⟩
          have G9 := Lib.hid (G8.out.trans ((Grow.alloc _ _).trans g9))
          clear g9 b1 b2
          have hlt := HLT.out
          go_wp2
          have h128 := H128.out
          go_roundw
          case rel => exact ⟨c + 1, by omega, by omega, by go_num, G9.out⟩
          case measure => simp [intOf]; omega
        · obtain rfl : c = 256 := by omega
          go_wp2_with fail
          refine (decode_at [248, 136, 128, 128, 128] 21 [] (by decide) (by decide) ((HT.out.same G5.out).alloc _) (lies_mark _ 5 rfl rfl rfl (by decide) (by decide)) (by decide) (by decide)).mono ?_
          rintro e w6 ⟨A6, m6, c6, rfl, own6, g6⟩
          have G6 := Lib.hid (G5.out.trans ((Grow.alloc _ _).trans g6))
          clear own6 g6
          go_wp2_with fail
          refine (decode_at [224, 159, 191] 21 [] (by decide) (by decide) ((HT.out.same G6.out).alloc _) (lies_mark _ 3 rfl rfl rfl (by decide) (by decide)) (by decide) (by decide)).mono ?_
          rintro e w7 ⟨A7, m7, c7, rfl, own7, g7⟩
          have G7 := Lib.hid (G6.out.trans ((Grow.alloc _ _).trans g7))
          clear own7 g7
          go_wp2_with fail
          refine (decode_at [240, 143, 191, 191] 21 [] (by decide) (by decide) ((HT.out.same G7.out).alloc _) (lies_mark _ 4 rfl rfl rfl (by decide) (by decide)) (by decide) (by decide)).mono ?_
          rintro e w8 ⟨A8, m8, c8, rfl, own8, g8⟩
          have G8 := Lib.hid (G7.out.trans ((Grow.alloc _ _).trans g8))
          clear own8 g8
          go_wp2_with fail
          refine (decode_at [] 0 [] (by decide) (by decide) (HT.out.same G8.out) (Lies.nil _ _) (by decide) (by decide)).mono ?_
          rintro e w9 ⟨A9, m9, c9, rfl, own9, g9⟩
          have hz : m9 = 0 := by have := (Lies.of_own own9).chs_len; rw [upN_len] at this; simpa using this.symm
          subst hz
          have G9 := Lib.hid (G8.out.trans g9)
          clear own9 g9
          go_wp2_with fail
          refine (wakes_any (HT.out.same G9.out)).mono ?_
          rintro e w12 ⟨rfl, g12⟩
          have G12 := Lib.hid (G9.out.trans g12)
          clear g12
          go_wp2
          go_ret
          exact ⟨rfl, G12.out⟩
end Go.Proofs.YtbphdojjddnljaaDoor

