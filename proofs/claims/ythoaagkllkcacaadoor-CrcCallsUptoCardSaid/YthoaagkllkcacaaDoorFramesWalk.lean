/-
  crc: the walk of CrcFrames.
-/
import Derived.Test.YthoaagkllkcacaaDoorCell
import Derived.Test.YthoaagkllkcacaaDoorFacts
import Derived.IntWalk
namespace Go.Proofs.YthoaagkllkcacaaDoor
open Go.RowKit
set_option linter.unusedSimpArgs false

theorem framed_mark (x : List Nat) : framed (x ++ le4 (sum x)) = true := by
  have h4 : ∀ s, (le4 s).length = 4 := fun _ => rfl
  unfold framed
  rw [List.length_append, h4, Nat.add_sub_cancel, List.drop_left, List.take_left]
  simp
theorem strip_ok {A : Option Addr} {n m c : Nat} {x : List Nat} {w W : World} (hb : Below w.heap.size w W) (hT : Tab w) (hL : Lies w 1 A n c (byt (x ++ le4 (sum x)))) (hx : ∀ y ∈ x, y < 256) (hm : n = m + 4) (hn : n ≤ 140737488355328) :
    Calls Tryd.prog 11 #[.slice A n c] W fun e w' => ∃ A' c', e = .returned (.tuple #[.slice A' m c', .int .i64 0]) ∧ Lies w' 1 A' m c' (byt x) ∧ Below w.heap.size w w' := by
  subst hm
  have h4 : ∀ s, (le4 s).length = 4 := fun _ => rfl
  have hln := hL.bytes_len
  rw [List.length_append, h4] at hln
  refine (strip_long (hT.same hb) (hL.below hb (Nat.le_refl _)) (by intro y hy; rcases List.mem_append.1 hy with h | h; exact hx y h; exact le4_bytes _ y h) (by omega) hn).mono ?_
  rintro e w' ⟨hs, hb2⟩
  rcases hs with h | h
  · rw [framed_mark] at h; exact absurd h.1 (by decide)
  · obtain ⟨-, A', c', he, -, L⟩ := h
    rw [Nat.add_sub_cancel] at he L
    have e2 : (x ++ le4 (sum x)).take m = x := List.take_left' (by omega)
    rw [e2] at L
    exact ⟨A', c', he, L, then_ hb hb2⟩
theorem mark_at {A : Option Addr} {n c : Nat} {l : List Nat} {w : World} (N : Nat) (M : List Nat) (hN : n + 4 = N) (hM : l ++ le4 (sum l) = M) (hT : Tab w) (hL : Lies w 1 A n c (byt l)) (hl : ∀ x ∈ l, x < 256) (hn : n ≤ 140737488355320) :
    Calls Tryd.prog 10 #[.slice A n c] w fun e w' => ∃ A' c', e = .returned (.slice A' N c') ∧ Lies w' 1 A' N c' (byt M) ∧ Below w.heap.size w w' := by
  subst hN hM
  exact (mark_any hT hL hl hn).mono fun _ _ ⟨A', c', h1, _, h2, h3⟩ => ⟨A', c', h1, h2, h3⟩
set_option maxRecDepth 100000 in
set_option maxHeartbeats 3000000 in
set_option linter.unusedVariables false in
theorem crcframes_any {A : Option Addr} {n c : Nat} {l : List Nat} {w : World} (hT : Tab w) (hL : Lies w 1 A n c (byt l)) (hl : ∀ x ∈ l, x < 256) (hr : c * 1 ≤ 140737488351232) :
    Calls Tryd.prog 6 #[.slice A n c] w fun e w' => e = .returned (.bool true) ∧ Below w.heap.size w w' := by
  have h4 : ∀ s, (le4 s).length = 4 := fun _ => rfl
  have hle := hL.le
  have hbig := hL.big
  obtain ⟨M, hM⟩ : ∃ M, M = l ++ le4 (sum l) := ⟨_, rfl⟩
  have bM : ∀ x ∈ M, x < 256 := by rw [hM]; intro y hy; rcases List.mem_append.1 hy with h | h; exact hl y h; exact le4_bytes _ y h
  have sM : ((sum M : Nat) : Int) = 558161692 := by rw [hM, sum_frame l hl]; rfl
  have bN : ∀ x ∈ M ++ le4 (sum M), x < 256 := by intro y hy; rcases List.mem_append.1 hy with h | h; exact bM y h; exact le4_bytes _ y h
  have sN : ((sum (M ++ le4 (sum M)) : Nat) : Int) = 558161692 := by rw [sum_frame M bM]; rfl
  have sO : ((more (sum l) (le4 (sum l)) : Nat) : Int) = 558161692 := by rw [more_own _ (sum_lt hl)]; rfl
  have lM : M.length = n + 4 := by have := hL.bytes_len; rw [hM, List.length_append, h4]; omega
  obtain ⟨F, hF⟩ : ∃ F, F = sum l := ⟨_, rfl⟩
  have hFl : F < 4294967296 := by rw [hF]; exact sum_lt hl
  obtain ⟨N, hN⟩ : ∃ N, n + 4 = N := ⟨_, rfl⟩
  have n1 : n ≤ 140737488351232 := by omega
  have n2 : N ≤ 140737488351240 := by omega
  have n3 : 4 ≤ N := by omega
  have n4 : n ≤ N := by omega
  have HN := Lib.hid hN
  have HN2 := Lib.hid (show N - n = 4 by omega)
  have j7 : IntKind.i64.wrap ((N : Int) - 4) = (n : Int) := by rw [IntWalk.i64_in _ (by omega)]; omega
  have dM : (M.drop n).take 4 = le4 F := by
    have := hL.bytes_len
    rw [hM, List.drop_left' this, hF, List.take_of_length_le (by rw [h4]; exact Nat.le_refl _)]
  rw [← hF] at sO
  have HM := Lib.hid hM; have HBM := Lib.hid bM; have HSM := Lib.hid sM; have HBN := Lib.hid bN; have HSN := Lib.hid sN; have HSO := Lib.hid sO; have HF := Lib.hid hF; have HFl := Lib.hid hFl; have HDM := Lib.hid dM; have HL := Lib.hid hL; have HB := Lib.hid hl; have HT := Lib.hid hT
  clear hN hM bM sM bN sN sO hF hFl dM lM hL hl hT h4
  go_enter Tryd.func6, Tryd.ntmps6
  go_wp2_with fail
  refine (mark_at N M HN.out HM.out.symm HT.out HL.out HB.out (by omega)).mono ?_
  rintro e w1 ⟨A1, c1, rfl, L1, hb1⟩
  go_wp2_with fail
  refine (mark_at (N + 4) _ rfl rfl (HT.out.same hb1) L1 HBM.out (by omega)).mono ?_
  rintro e w2 ⟨A2, c2, rfl, L2, hb2⟩
  go_wp2_with fail
  have hb12 := then_ hb1 hb2
  refine (strip_ok (m := N) (Below.refl _ _) (HT.out.same hb12) L2 HBM.out rfl (by omega)).mono ?_
  rintro e w3 ⟨A3, c3, rfl, L3, hb3⟩
  have hb13 := then_ hb12 hb3
  have T3 := Lib.hid (HT.out.same hb13)
  have K1 := Lib.hid ((L1.below hb2 (Nat.le_refl _)).below hb3 (Nat.le_refl _))
  have K2 := Lib.hid (L2.below hb3 (Nat.le_refl _))
  have K3 := Lib.hid L3
  have HB13 := Lib.hid hb13
  clear L1 L2 L3 hb1 hb2 hb12 hb3 hb13
  go_wp2_with fail
  refine (sum1_cell (w := w3) 558161692 HSM.out ?_ ?_ T3.out K1.out HBM.out).mono ?_
  · simp [cell_top, cell_under, cell_drew]
  · repeat (first | exact Below.refl _ _ | refine below_drew ?_ | refine below_up ?_)
  rintro e w4 ⟨rfl, rfl⟩
  go_wp2_with fail
  refine (sum1_cell (w := w3) 558161692 HSN.out ?_ ?_ T3.out K2.out HBN.out).mono ?_
  · simp [cell_top, cell_under, cell_drew]
  · repeat (first | exact Below.refl _ _ | refine below_drew ?_ | refine below_up ?_)
  rintro e w4 ⟨rfl, rfl⟩
  have e1 := run_convert_lies (P := Tryd.prog) ((K3.out.alloc (.cells #[.slice A1 N c1] 23)).alloc (.cells #[.slice A2 (N + 4) c2] 23)) 23 5 9 Tryd.underlying23 Tryd.underlying5 Tryd.underlying9
  have e2 := run_convert_lies (P := Tryd.prog) ((K1.out.alloc (.cells #[.slice A1 N c1] 23)).alloc (.cells #[.slice A2 (N + 4) c2] 23)) 23 5 9 Tryd.underlying23 Tryd.underlying5 Tryd.underlying9
  go_wp2_with fail
  refine (strip_ok (w := w3) (m := n) (x := l) ?_ T3.out ?_ HB.out HN.out.symm (by omega)).mono ?_
  · repeat (first | exact Below.refl _ _ | refine below_drew ?_ | refine below_up ?_)
  · rw [← HM.out]; exact K3.out
  rintro e w5 ⟨A5, c5, rfl, L5, hb5⟩
  clear e1 e2
  have T5 := Lib.hid (T3.out.same hb5)
  have K5 := Lib.hid L5
  have HB15 := Lib.hid (then_ HB13.out hb5)
  have J0 := Lib.hid (HL.out.below HB15.out (Nat.le_refl _))
  have L15 := K1.out.below hb5 (Nat.le_refl _)
  obtain ⟨g, off, rfl, -, -⟩ := L15.pos (by omega) (by decide)
  have LT := L15.cut1 n N (by omega) (Nat.le_refl _)
  rw [HN2.out, HDM.out, ← HN2.out] at LT
  have l1 := L15.le
  have l2 := L15.big
  have KT := Lib.hid LT
  have v1 : ∀ w' : World, Grow w5 w' → (convert 23 9 (.slice A5 n c5)).run Tryd.prog w' = .ok (.string (str l)) w' := fun w' h => run_convert_lies (P := Tryd.prog) (K5.out.below h (Nat.le_refl _)) 23 5 9 Tryd.underlying23 Tryd.underlying5 Tryd.underlying9
  have v2 : ∀ w' : World, Grow w5 w' → (convert 23 9 (.slice A n c)).run Tryd.prog w' = .ok (.string (str l)) w' := fun w' h => run_convert_lies (P := Tryd.prog) (J0.out.below h (Nat.le_refl _)) 23 5 9 Tryd.underlying23 Tryd.underlying5 Tryd.underlying9
  have j1 : (4 : Int) ≤ (N : Int) := by omega
  have j3 : (0 : Int) ≤ (n : Int) := by omega
  have j4 : (n : Int) ≤ (N : Int) := by omega
  have j5 : (N : Int) ≤ (c1 : Int) := by omega
  have j6 : ¬ c1 = n := by have := HN.out; omega
  have j9 : (n : Int) ≤ (c1 : Int) := by omega
  have j8 : IntKind.i64.wrap (n : Int) = (n : Int) := IntWalk.i64_in _ (by omega)
  have k0 : ¬ (N : Int) < 4 := by omega
  have k1 : (N : Int) - 4 = (n : Int) := by have := HN.out; omega
  have HCA := Lib.hid (show ∀ y ∈ le4 F, y < 256 from le4_bytes _)
  have HSL := Lib.hid (show ((sum l : Nat) : Int) = (F : Int) by rw [HF.out])
  clear hb5 L5 L15 LT
  go_wp2_with fail
  refine Chain.start Nat (by kernel_rfl) (by kernel_rfl) (fun hg => ?_)
  repeat (first | (refine Chain.skip hg (fun t => by rfl) ?_; simp only [Act.put, List.setIfInBounds_toArray, List.set_cons_zero, List.set_cons_succ]) | (refine Chain.pure hg (X := ?_) (fun t W hw hN => ⟨by rfl, ?_⟩) ?_; rotate_left; (focus (go_simp <;> with_reducible rfl)); simp only [Act.put, List.setIfInBounds_toArray, List.set_cons_zero, List.set_cons_succ]))
  refine Chain.grow hg (fun g : Nat => .slice (some ⟨g, 0, none⟩) 1 1) (fun g W => W.cell? ⟨g, 0, none⟩ = some (.slice A n c)) (fun _ _ _ h k => grow_cell h k) (fun _ => by rfl) (fun t W hw hN K hK => ?_) ?_
  · go_simp; exact hK.out _ _ (Grow.alloc _ _) (box_cell _ _ _)
  simp only [Act.put, List.setIfInBounds_toArray, List.set_cons_zero, List.set_cons_succ]
  refine Chain.grow hg (fun _ => .int .u32 (F : Int)) (fun _ _ => True) (fun _ _ _ h _ => h) (fun _ => by rfl) (fun t W hw hN K hK => ?_) ?_
  · have hc := hN.get 11 rfl (by kernel_rfl); go_simp; refine (sum1_cell (w := w5) F HSL.out hc hw T5.out J0.out HB.out).mono ?_; rintro e w1 ⟨rfl, rfl⟩; exact hK.out 0 _ (Grow.refl _) trivial
  simp only [Act.put, List.setIfInBounds_toArray, List.set_cons_zero, List.set_cons_succ]
  iterate 5 (first | (refine Chain.skip hg (fun t => by rfl) ?_; simp only [Act.put, List.setIfInBounds_toArray, List.set_cons_zero, List.set_cons_succ]) | (refine Chain.pure hg (X := ?_) (fun t W hw hN => ⟨by rfl, ?_⟩) ?_; rotate_left; (focus (go_simp <;> with_reducible rfl)); simp only [Act.put, List.setIfInBounds_toArray, List.set_cons_zero, List.set_cons_succ]))
  refine Chain.pure hg (X := fun _ => .int .i64 4) (fun t W hw hN => ⟨by rfl, ?_⟩) ?_
  · go_simp; omega
  simp only [Act.put, List.setIfInBounds_toArray, List.set_cons_zero, List.set_cons_succ]
  repeat (first | (refine Chain.skip hg (fun t => by rfl) ?_; simp only [Act.put, List.setIfInBounds_toArray, List.set_cons_zero, List.set_cons_succ]) | (refine Chain.pure hg (X := ?_) (fun t W hw hN => ⟨by rfl, ?_⟩) ?_; rotate_left; (focus (go_simp <;> with_reducible rfl)); simp only [Act.put, List.setIfInBounds_toArray, List.set_cons_zero, List.set_cons_succ]))
  refine Chain.grow hg (fun _ => .int .u32 558161692) (fun _ _ => True) (fun _ _ _ h _ => h) (fun _ => by rfl) (fun t W hw hN K hK => ?_) ?_
  · go_simp; refine (more_below (w := w5) 558161692 HSO.out hw T5.out HFl.out KT.out HCA.out).mono ?_; rintro e w1 ⟨rfl, rfl⟩; exact hK.out 0 _ (Grow.refl _) trivial
  simp only [Act.put, List.setIfInBounds_toArray, List.set_cons_zero, List.set_cons_succ]
  repeat (first | (refine Chain.skip hg (fun t => by rfl) ?_; simp only [Act.put, List.setIfInBounds_toArray, List.set_cons_zero, List.set_cons_succ]) | (refine Chain.pure hg (X := ?_) (fun t W hw hN => ⟨by rfl, ?_⟩) ?_; rotate_left; (focus (go_simp <;> with_reducible rfl)); simp only [Act.put, List.setIfInBounds_toArray, List.set_cons_zero, List.set_cons_succ]))
  refine Chain.grow hg (fun _ => .bool true) (fun _ _ => True) (fun _ _ _ h _ => h) (fun _ => by rfl) (fun t W hw hN K hK => ?_) ?_
  · go_simp; refine (wakes_any (T5.out.same hw)).mono ?_; rintro e w1 ⟨rfl, hb5⟩; exact hK.out 0 _ hb5 trivial
  simp only [Act.put, List.setIfInBounds_toArray, List.set_cons_zero, List.set_cons_succ]
  repeat (first | (refine Chain.skip hg (fun t => by rfl) ?_; simp only [Act.put, List.setIfInBounds_toArray, List.set_cons_zero, List.set_cons_succ]) | (refine Chain.pure hg (X := ?_) (fun t W hw hN => ⟨by rfl, ?_⟩) ?_; rotate_left; (focus (go_simp <;> with_reducible rfl)); simp only [Act.put, List.setIfInBounds_toArray, List.set_cons_zero, List.set_cons_succ]))
  refine Chain.done (fun t w6 hw hN => ?_)
  clear hN hg
  have hbw := then_ HB15.out hw
  go_wp2
  go_ret
  exact ⟨rfl, hbw⟩
end Go.Proofs.YthoaagkllkcacaaDoor

