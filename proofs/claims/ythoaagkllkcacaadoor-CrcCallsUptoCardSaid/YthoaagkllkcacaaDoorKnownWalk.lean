/-
  crc: the walk of CrcKnown.
-/
import Derived.Test.YthoaagkllkcacaaDoorFramesWalk
namespace Go.Proofs.YthoaagkllkcacaaDoor
open Go.RowKit
set_option linter.unusedSimpArgs false

theorem framed_set {X M : List Nat} {n j v : Nat} (hM : M = X ++ le4 (sum X)) (hn : X.length = n) (hX : ∀ x ∈ X, x < 256) (hj : j < n + 4) (hv : v < 256) (hne : M[j]? ≠ some v) : framed (M.set j v) = false := by
  have h4 : ∀ s, (le4 s).length = 4 := fun _ => rfl
  have hl : (M.set j v).length = n + 4 := by rw [List.length_set, hM, List.length_append, h4, hn]
  unfold framed
  rw [hl, Nat.add_sub_cancel, decide_eq_false_iff_not]
  intro h
  by_cases hjn : j < n
  · have e1 : (M.set j v).drop n = le4 (sum X) := by rw [List.drop_set_of_lt (by omega), hM, ← hn, List.drop_left]
    have e2 : (M.set j v).take n = X.set j v := by rw [List.take_set, hM, ← hn, List.take_left]
    rw [e1, e2] at h
    have hx : X[j]? ≠ some v := by rw [hM, List.getElem?_append_left (by omega)] at hne; exact hne
    have hg : X.getD j 0 ≠ v := by
      intro e
      apply hx
      have hjx : j < X.length := by omega
      rw [← e, List.getD, List.getElem?_eq_getElem hjx]
      rfl
    refine sum_set hX hv (by omega) hg (le4_inj (sum_lt ?_) (sum_lt hX) h.symm)
    intro c hc
    rcases List.mem_or_eq_of_mem_set hc with h1 | h1
    · exact hX c h1
    · omega
  · have e1 : (M.set j v).drop n = (le4 (sum X)).set (j - n) v := by
      rw [hM, List.set_append_right _ _ (by omega), hn, ← hn, List.drop_left]
    have e2 : (M.set j v).take n = X := by rw [hM, List.set_append_right _ _ (by omega), ← hn, List.take_left]
    rw [e1, e2] at h
    have h5 := congrArg (fun l : List Nat => l[j - n]?) h
    rw [List.getElem?_set_self (by rw [h4]; omega)] at h5
    rw [hM, List.getElem?_append_right (by omega), hn] at hne
    exact hne h5.symm
theorem mark_own {A : Option Addr} {n c : Nat} {l : List Nat} {w : World} (N : Nat) (M : List Nat) (hN : n + 4 = N) (hM : l ++ le4 (sum l) = M) (hT : Tab w) (hL : Lies w 1 A n c (byt l)) (hl : ∀ x ∈ l, x < 256) (hn : n ≤ 140737488355320) :
    Calls Tryd.prog 10 #[.slice A n c] w fun e w' => ∃ g c', e = .returned (.slice (some ⟨g, 0, none⟩) N c') ∧ w.heap.size ≤ g ∧ w'.ownsRow w.heap.size 5 1 (.slice (some ⟨g, 0, none⟩) N c') N (byt M) ∧ Below w.heap.size w w' := by
  subst hN hM
  refine (mark_any hT hL hl hn).mono fun _ _ ⟨A', c', h1, h0, _, h3⟩ => ?_
  rcases h0.2 with ⟨_, h5⟩ | ⟨g, cap, cur, hv, hg, _⟩
  · omega
  · injection hv with hA _ hc
    subst hA hc
    exact ⟨g, c', h1, hg, h0, h3⟩
theorem strip_bad {g N c n j v : Nat} {X M : List Nat} {w W : World} {base : Nat} (hW : Grow w W) (hT : Tab w) (hM : M = X ++ le4 (sum X)) (hn : X.length = n) (hX : ∀ x ∈ X, x < 256) (hj : j < n + 4) (hv : v < 256) (hne : M[j]? ≠ some v) (hN : N = n + 4) (hN2 : N ≤ 140737488355328)
    (hown : W.ownsRow base 5 1 (.slice (some ⟨g, 0, none⟩) N c) N (byt (M.set j v))) :
    Calls Tryd.prog 11 #[.slice (some ⟨g, 0, none⟩) N c] W fun e w' => e = .returned (.tuple #[.slice none 0 0, .int .i64 20]) ∧ Grow W w' := by
  have hf := framed_set hM hn hX hj hv hne
  have hb : ∀ x ∈ M.set j v, x < 256 := by
    intro x hx
    rcases List.mem_or_eq_of_mem_set hx with h1 | h1
    · rw [hM] at h1
      rcases List.mem_append.1 h1 with h2 | h2
      · exact hX x h2
      · exact le4_bytes _ x h2
    · omega
  refine (strip_long (hT.same hW) (Lies.of_own hown) hb (by omega) hN2).mono ?_
  rintro e w' ⟨hs, hb2⟩
  rcases hs with h | h
  · exact ⟨h.2, hb2⟩
  · rw [hf] at h; exact absurd h.1 (by decide)
theorem l000 : (#[Value.int .u8 0, .int .u8 0, .int .u8 0, .int .u8 0] : Array Value).toList = byt ([] ++ le4 (sum [])) := by
  have h : ([] : List Nat) ++ le4 (sum []) = [0, 0, 0, 0] := by decide +kernel
  rw [h]; rfl
theorem byt_set (l : List Nat) (j y : Nat) : (byt l).set j (.int .u8 (y : Int)) = byt (l.set j y) := by simp [byt, List.map_set]
theorem set_back {l : List Nat} {j x : Nat} (h : l[j]? = some x) : l.set j x = l := by
  obtain ⟨hl, h⟩ := List.getElem?_eq_some_iff.1 h
  rw [← h]; exact List.set_getElem_self hl
theorem shl_u8 (r : Nat) (hr : r < 8) : ∃ b : Nat, b < 256 ∧ b ≠ 0 ∧ (b : Int) = 2 ^ r := ⟨2 ^ r, by
  have : 2 ^ r ≤ 2 ^ 7 := Nat.pow_le_pow_right (by decide) (by omega)
  omega, by have := Nat.two_pow_pos r; omega, by simp⟩

set_option maxRecDepth 100000 in
set_option maxHeartbeats 3000000 in
set_option linter.unusedVariables false in
theorem crcknown_any {w : World} (hT : Tab w) :
    Calls Tryd.prog 8 #[] w fun e w' => e = .returned (.bool true) ∧ Below w.heap.size w w' := by
  obtain ⟨i0, hi, hz0, hz1, hz2⟩ := info_parts info_u8
  obtain ⟨n, hn⟩ : ∃ n : Nat, n = 1000 := ⟨_, rfl⟩
  obtain ⟨N, hN⟩ : ∃ N : Nat, n + 4 = N := ⟨_, rfl⟩
  obtain ⟨X, hX⟩ : ∃ X : List Nat, X = List.replicate n 0 := ⟨_, rfl⟩
  obtain ⟨M, hM⟩ : ∃ M, X ++ le4 (sum X) = M := ⟨_, rfl⟩
  have bX : ∀ x ∈ X, x < 256 := by intro x hx; rw [hX] at hx; have := List.eq_of_mem_replicate hx; omega
  have lX : X.length = n := by rw [hX, List.length_replicate]
  have lM : M.length = N := by rw [← hM, List.length_append, lX, ← hN]; rfl
  have bM : ∀ x ∈ M, x < 256 := by intro x hx; rw [← hM] at hx; rcases List.mem_append.1 hx with h | h; exact bX x h; exact le4_bytes _ x h
  have nI : (n : Int) = 1000 := by omega
  have HN := Lib.hid hn; have HNN := Lib.hid hN; have HX := Lib.hid hX; have HM := Lib.hid hM; have HBX := Lib.hid bX; have HLX := Lib.hid lX; have HLM := Lib.hid lM; have HBM := Lib.hid bM; have HT := Lib.hid hT
  clear hn hN hX hM bX lX lM bM hT nI
  have kc : ∀ (w : World) (C : Array Value) (g n c : Nat), g = w.heap.size → (convert 23 23 (.slice (some ⟨g, 0, none⟩) n c)).run Tryd.prog (w.alloc (.cells C 5)) = .ok (.slice (some ⟨g, 0, none⟩) n c) (w.alloc (.cells C 5 (C.size, C.size + 1))) := fun w C g n c hg => by
    subst hg
    exact Lib.run_convert_bytes_const (P := Tryd.prog) w 23 5 C n c Tryd.underlying23 Tryd.underlying5
  go_enter Tryd.func8, Tryd.ntmps8
  go_wp2_with (at_make; refine wpList_make_full _ rfl _ _ 23 rfl w.heap.size 5 i0 (.int .u8 0) 1 Tryd.underlying23 hi hz0 hz1 .i64 .i64 _ _ n (by rw [HN.out]; rfl) (by rw [HN.out]; rfl) rfl rfl (by rw [hz2, HN.out]; decide) (by rw [HN.out]; decide) (Nat.le_refl _) ?_; intro w1 hown1 hg1)
  have hb1 : Below w.heap.size w w1 := (Below.refl _ _).grown hg1 (Nat.le_refl _) (by simp)
  have hz : (madeCells (Value.int IntKind.u8 0).cells (n * 1)).toList = byt X := by
    rw [Nat.mul_one, HX.out]
    refine (toList_madeCells_one _ _).trans ?_
    simp [byt]
  have hL := Lies.of_own hown1
  rw [hz] at hL
  have K1 := Lib.hid hL
  have HB1 := Lib.hid hb1
  clear hL hz hown1 hg1 hb1
  refine (mark_own N M HNN.out HM.out (HT.out.same HB1.out) K1.out HBX.out (by have := HN.out; omega)).mono ?_
  rintro e w2 ⟨g, c, rfl, hgb, own2, hb2⟩
  have hb12 := then_ HB1.out hb2
  have hgw : w.heap.size ≤ g := by have := HB1.out.size; omega
  have own2 := own2.mono HB1.out.size
  clear K1 hb2 hgb
  have hN1 : N ≤ 1004 := by have := HNN.out; have := HN.out; omega
  have hN2 : 1004 ≤ N := by have := HNN.out; have := HN.out; omega
  have q1 : ((N : Int) == 1004) = true := by simp; omega
  have q2 : ((N : Int) != 1004) = false := by simp; omega
  go_wp2
  go_loopw [3] (fun i wr => ∃ k : Nat, k ≤ 8 * N ∧ i = .int .i64 k ∧ wr.ownsRow w.heap.size 5 1 (.slice (some ⟨g, 0, none⟩) N c) N (byt M) ∧ Below w.heap.size w wr) (fun i _ => 8 * N - (intOf i).toNat)
  case atStart => exact ⟨0, Nat.zero_le _, rfl, own2, hb12⟩
  case round =>
    obtain ⟨k, hk, rfl, hown, hb⟩ := hrel
    by_cases hlt : k < 8 * N
    · obtain ⟨j, hj⟩ : ∃ j, j = k / 8 := ⟨_, rfl⟩
      obtain ⟨r, hr⟩ : ∃ r, r = k % 8 := ⟨_, rfl⟩
      have j0 : j < N := by omega
      have r0 : r < 8 := by omega
      have w1 : (k : Int) / 8 = (j : Int) := by omega
      have w2 : (k : Int).tmod 8 = (r : Int) := by rw [Int.tmod_eq_emod_of_nonneg (by omega)]; omega
      have w3 : IntKind.i64.wrap (j : Int) = (j : Int) := IntWalk.i64_in _ (by omega)
      have w4 : IntKind.i64.wrap (r : Int) = (r : Int) := IntWalk.i64_in _ (by omega)
      obtain ⟨x, hx⟩ : ∃ x, M[j]? = some x := ⟨_, List.getElem?_eq_getElem (by have := HLM.out; omega)⟩
      have xl : x < 256 := HBM.out x (List.mem_of_getElem? hx)
      obtain ⟨b, bl, b0, hbr⟩ := shl_u8 r r0
      obtain ⟨y, hy⟩ : ∃ y, y = x ^^^ b := ⟨_, rfl⟩
      have yl : y < 256 := by rw [hy]; exact Nat.xor_lt_two_pow (n := 8) xl bl
      have e1 := u8_xor_nat x b xl bl
      rw [← hy] at e1
      have e2 := u8_xor_nat y b yl bl
      have hyx : y ^^^ b = x := by rw [hy, xor_back]
      rw [hyx] at e2
      have hne : M[j]? ≠ some y := by
        rw [hx]
        intro h
        injection h with h
        have : b = 0 := by
          have h6 : x ^^^ (x ^^^ b) = 0 := by rw [← hy, ← h, Nat.xor_self]
          rwa [← Nat.xor_assoc, Nat.xor_self, Nat.zero_xor] at h6
        exact b0 this
      have hc := hown.cellAt j (by omega)
      have hbx : (byt M)[j]? = some (.int .u8 (x : Int)) := by simp [byt, hx]
      rw [hbx] at hc
      have C1 : ∀ W : World, Grow wr W → W.cell? ⟨g, j, none⟩ = some (.int .u8 (x : Int)) := fun W h => grow_cell hc h
      have F1 : ∀ W : World, Grow wr W → W.frozen? ⟨g, j, none⟩ = false := fun W h => (own_grow hown h).frozenAt j
      have i0 : (0 : Int) ≤ (j : Int) := by omega
      have i1 : (j : Int) < (N : Int) := by omega
      have HOWN := Lib.hid hown; have HBB := Lib.hid hb; have HXX := Lib.hid hx; have HNE := Lib.hid hne; have HBR := Lib.hid hbr
      clear hj hr hown hb hx hne hbr hy hyx hc hbx
      go_wp2_with fail
      refine Chain.start Nat (by kernel_rfl) (by kernel_rfl) (fun hg => ?_)
      iterate 7 (first | (refine Chain.skip hg (fun t => by rfl) ?_; simp only [Act.put, List.setIfInBounds_toArray, List.set_cons_zero, List.set_cons_succ]) | (refine Chain.pure hg (X := ?_) (fun t W hw hN => ⟨by rfl, ?_⟩) ?_; rotate_left; (focus (go_simp <;> with_reducible rfl)); simp only [Act.put, List.setIfInBounds_toArray, List.set_cons_zero, List.set_cons_succ]))
      refine Chain.pure hg (X := fun _ => .int .u8 (b : Int)) (fun t W hw hN => ⟨by rfl, ?_⟩) ?_
      · go_simp; rw [← HBR.out, IntKind.wrap_u8]; omega
      simp only [Act.put, List.setIfInBounds_toArray, List.set_cons_zero, List.set_cons_succ]
      iterate 1 (first | (refine Chain.skip hg (fun t => by rfl) ?_; simp only [Act.put, List.setIfInBounds_toArray, List.set_cons_zero, List.set_cons_succ]) | (refine Chain.pure hg (X := ?_) (fun t W hw hN => ⟨by rfl, ?_⟩) ?_; rotate_left; (focus (go_simp <;> with_reducible rfl)); simp only [Act.put, List.setIfInBounds_toArray, List.set_cons_zero, List.set_cons_succ]))
      refine Chain.tail (tail_of (by kernel_rfl)) (fun t W hw hN => ?_)
      go_wp2_with fail
      clear C1 F1 hN hg
      have ho1 := (own_grow HOWN.out hw).stored j (.int .u8 (y : Int))
      rw [byt_set] at ho1
      have hb1 := (Below.trans HBB.out (Below.mono hw HBB.out.size)).setCell (p := ⟨g, j, none⟩) hgw (.int .u8 (y : Int))
      have HO1 := Lib.hid ho1.1; have HB2 := Lib.hid hb1
      clear ho1 hb1 hw
      refine (strip_bad HB2.out HT.out HM.out.symm HLX.out HBX.out (by have := HNN.out; omega) yl HNE.out HNN.out.symm (by omega) HO1.out).mono ?_
      rintro e w3 ⟨rfl, hg3⟩
      have ho3 := own_grow HO1.out hg3
      have hb3 := Below.trans HB2.out (Below.mono hg3 HB2.out.size)
      have hc3 := ho3.cellAt j (by omega)
      have hbx : (byt (M.set j y))[j]? = some (.int .u8 (y : Int)) := by simp only [byt, List.getElem?_map]; rw [List.getElem?_set_self (by have := HLM.out; omega)]; rfl
      rw [hbx] at hc3
      have C1 : ∀ W : World, Grow w3 W → W.cell? ⟨g, j, none⟩ = some (.int .u8 (y : Int)) := fun W h => grow_cell hc3 h
      have F1 : ∀ W : World, Grow w3 W → W.frozen? ⟨g, j, none⟩ = false := fun W h => (own_grow ho3 h).frozenAt j
      have HO3 := Lib.hid ho3; have HB3 := Lib.hid hb3
      clear hc3 hbx ho3 hb3 hg3
      go_wp2_with fail
      refine Chain.start Nat (by kernel_rfl) (by kernel_rfl) (fun hg => ?_)
      iterate 7 (first | (refine Chain.skip hg (fun t => by rfl) ?_; simp only [Act.put, List.setIfInBounds_toArray, List.set_cons_zero, List.set_cons_succ]) | (refine Chain.pure hg (X := ?_) (fun t W hw hN => ⟨by rfl, ?_⟩) ?_; rotate_left; (focus (go_simp <;> with_reducible rfl)); simp only [Act.put, List.setIfInBounds_toArray, List.set_cons_zero, List.set_cons_succ]))
      refine Chain.pure hg (X := fun _ => .int .u8 (b : Int)) (fun t W hw hN => ⟨by rfl, ?_⟩) ?_
      · go_simp; rw [← HBR.out, IntKind.wrap_u8]; omega
      simp only [Act.put, List.setIfInBounds_toArray, List.set_cons_zero, List.set_cons_succ]
      iterate 1 (first | (refine Chain.skip hg (fun t => by rfl) ?_; simp only [Act.put, List.setIfInBounds_toArray, List.set_cons_zero, List.set_cons_succ]) | (refine Chain.pure hg (X := ?_) (fun t W hw hN => ⟨by rfl, ?_⟩) ?_; rotate_left; (focus (go_simp <;> with_reducible rfl)); simp only [Act.put, List.setIfInBounds_toArray, List.set_cons_zero, List.set_cons_succ]))
      refine Chain.tail (tail_of (by kernel_rfl)) (fun t W hw hN => ?_)
      go_wp2
      have ho4 := (own_grow HO3.out hw).stored j (.int .u8 (x : Int))
      rw [byt_set, List.set_set, set_back HXX.out] at ho4
      have ho4 := ho4.1
      have hb4 := (Below.trans HB3.out (Below.mono hw HB3.out.size)).setCell (p := ⟨g, j, none⟩) hgw (.int .u8 (x : Int))
      go_roundw
      case rel => exact ⟨k + 1, by omega, by go_num, ho4, hb4⟩
      case measure => simp [intOf]; omega
    · obtain rfl : k = 8 * N := by omega
      have hL := Lies.of_own hown
      have HOWN := Lib.hid hL; have HBB := Lib.hid hb
      clear hown hL hb
      go_wp2_with fail
      refine (strip_ok (w := wr) (m := n) (x := X) (Below.refl _ _) (HT.out.same HBB.out) (by rw [HM.out]; exact HOWN.out) HBX.out HNN.out.symm (by omega)).mono ?_
      rintro e w3 ⟨A3, c3, rfl, -, hb3⟩
      have HB3 := Lib.hid (then_ HBB.out hb3)
      clear hb3
      go_wp2_with fail
      refine (strip_ok (w := w3.alloc (.cells #[.int .u8 0, .int .u8 0, .int .u8 0, .int .u8 0] 5)) (m := 0) (x := []) (Below.refl _ _) ((HT.out.same HB3.out).alloc _) (lies_lit ([] ++ le4 (sum [])) 4 rfl l000 rfl (by decide)) (by decide) rfl (by decide)).mono ?_
      rintro e w4 ⟨A4, c4, rfl, -, hb4⟩
      have HB4 := Lib.hid (then_ (HB3.out.alloc HB3.out.size _) hb4)
      clear hb4
      go_wp2_with fail
      refine (sum1_of (l := [255]) 4278190080 (by decide +kernel) ((HT.out.same HB4.out).alloc _) (by simp) (lies_lit _ 1 (by simp) rfl rfl (by decide)) (by decide)).mono ?_
      rintro e w5 ⟨rfl, rfl⟩
      go_wp2_with fail
      refine (sum_any (vs := [(some ⟨w4.heap.size + 1 + 1, 0, none⟩, 4, 4), (some ⟨w4.heap.size + 1 + 1 + 1, 0, none⟩, 5, 5)]) (ls := [[49, 50, 51, 52], [53, 54, 55, 56, 57]]) ((((((HT.out.same HB4.out).alloc _).alloc _).alloc _).alloc _).alloc _) (parts_lit _ _ 2 (by simp) rfl rfl rfl (by decide) ?_)).mono ?_
      · intro j v l' hv hl'
        match j with
        | 0 => simp at hv hl'; subst hv hl'; refine ⟨Lies.alloc (lies_mark (c := 4) [49, 50, 51, 52] 4 ?_ rfl rfl (by decide) (by decide)) _, by decide⟩; simp
        | 1 => simp at hv hl'; subst hv hl'; refine ⟨lies_mark (c := 5) [53, 54, 55, 56, 57] 5 ?_ rfl rfl (by decide) (by decide), by decide⟩; simp
        | j + 2 => simp at hv
      have hs : ((sum [[49, 50, 51, 52], [53, 54, 55, 56, 57]].flatten : Nat) : Int) = 3421780262 := by decide +kernel
      rw [hs]
      rintro e w5 ⟨rfl, rfl⟩
      go_wp2_with fail
      refine (wakes_below HT.out (below_up (below_up (below_up (below_up (below_up HB4.out)))))).mono ?_
      rintro e w5 ⟨rfl, hb5⟩
      go_wp2
      go_ret
      exact ⟨rfl, hb5⟩
end Go.Proofs.YthoaagkllkcacaaDoor

