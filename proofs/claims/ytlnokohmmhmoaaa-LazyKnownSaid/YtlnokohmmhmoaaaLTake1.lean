/-
  lazy: a fetch of which one document turns.
-/
import Derived.Test.YtlnokohmmhmoaaaLPiece
namespace Go.Proofs.Ytlnokohmmhmoaaa
open Go.RowKit
set_option linter.unusedSimpArgs false

theorem map_set_doc {l : List (Dt × Value)} {i : Nat} {x : Dt × Value} : (l.set i x).map (·.1) = (l.map (·.1)).set i x.1 := List.map_set
theorem FAt.setDoc {w : World} {T R R' : Nat → Prop} {p b gd n c i j : Nat} {f : F} {Rv : Value} {l : List (Dt × Value)} {d d' : Dt} {v v' nv : Value} (h : FAt w T R p f b Rv (.slice (some ⟨gd, 0, none⟩) n c) l) (hx : l[i]? = some (d, v)) (hj : j < 6) (hset : (dcell (d, v)).set j nv = dcell (d', v'))
    (hR : ∀ k, R k → R' k) (hT : ∀ k, T k → ¬ R' k) (hlt : ∀ k, R' k → k < w.heap.size) (hb : BytesAt w R' v' d'.bs) :
    FAt (w.setCell ⟨gd, i * 6 + j, none⟩ nv) T R' p { f with docs := f.docs.set i d' } b Rv (.slice (some ⟨gd, 0, none⟩) n c) (l.set i (d', v')) := by
  have hn := own_len h.docs
  subst hn
  obtain ⟨hs1, hs2⟩ := h.docs.stored (i * 6 + j) nv
  rw [flat_set dcell_len l i j (d, v) (d', v') nv hx hj hset] at hs1
  have hTd : T gd := h.docsT gd rfl
  have gs : GrowS (fun k => k = gd) w (w.setCell ⟨gd, i * 6 + j, none⟩ nv) := GrowS.setCell (T := fun k => k = gd) w (p := ⟨gd, i * 6 + j, none⟩) rfl _
  have hne : ∀ k, R' k → ¬ k = gd := fun k hk e => by subst e; exact hT k hTd hk
  have hpd : p ≠ gd := fun e => row_apart h.docs h.st (by decide) gd rfl e.symm
  refine ⟨gs.kept h.st hpd, (h.hand.mono hR).keep gs hne (hne _ (hR _ h.bR)), hR _ h.bR, (h.rest.mono hR).keep gs hne, by rw [List.length_set]; exact hs1, h.docsT, by rw [map_set_doc, h.map], fun x hx => ?_, h.pT, hT, fun k hk => Nat.lt_of_lt_of_le (h.ltT k hk) gs.size, fun k hk => Nat.lt_of_lt_of_le (hlt k hk) gs.size⟩
  rcases List.mem_or_eq_of_mem_set hx with hx | rfl
  · exact ((h.each x hx).mono hR).keep gs hne
  · exact hb.keep gs hne
set_option maxRecDepth 100000 in
/-- Take refuses by its state. -/
theorem take_state {T R : Nat → Prop} {p op : Nat} {f : F} {k frm doc off tot : Int} {A B : Option Addr} {n c m e0 : Nat} {w : World} (h : FIs w T R p f) (hs : k ≠ 17 ∨ f.frm < 0 ∨ frm ≠ f.frm ∨ op ≠ f.op) :
    Calls Try.prog 18 #[.pointer (some ⟨p, 0, none⟩), .agg #[.int .i64 k, .int .u64 0, .int .i64 frm, .int .u32 0, .int .u64 0, .int .u64 0, .int .u64 op, .int .u64 0, .int .u64 0, .int .u64 0, .int .u64 0, .int .u32 0, .int .u64 0, .slice none 0 0, .int .u32 doc, .int .i64 off, .int .i64 tot, .bool false, .slice A n c, .slice B m e0]] w fun e w' => e = .returned (.int .i64 39) ∧ Grow w w' := by
  obtain ⟨b, Rv, V, l, h⟩ := h
  have hbox := heap_alloc_new w (.cells #[.int .i64 k, .int .u64 0, .int .i64 frm, .int .u32 0, .int .u64 0, .int .u64 0, .int .u64 op, .int .u64 0, .int .u64 0, .int .u64 0, .int .u64 0, .int .u32 0, .int .u64 0, .slice none 0 0, .int .u32 doc, .int .i64 off, .int .i64 tot, .bool false, .slice A n c, .slice B m e0] 42)
  have ga := Grow.alloc w (.cells #[.int .i64 k, .int .u64 0, .int .i64 frm, .int .u32 0, .int .u64 0, .int .u64 0, .int .u64 op, .int .u64 0, .int .u64 0, .int .u64 0, .int .u64 0, .int .u32 0, .int .u64 0, .slice none 0 0, .int .u32 doc, .int .i64 off, .int .i64 tot, .bool false, .slice A n c, .slice B m e0] 42)
  obtain ⟨w1, hw1⟩ : ∃ w1, w.alloc (.cells #[.int .i64 k, .int .u64 0, .int .i64 frm, .int .u32 0, .int .u64 0, .int .u64 0, .int .u64 op, .int .u64 0, .int .u64 0, .int .u64 0, .int .u64 0, .int .u32 0, .int .u64 0, .slice none 0 0, .int .u32 doc, .int .i64 off, .int .i64 tot, .bool false, .slice A n c, .slice B m e0] 42) = w1 := ⟨_, rfl⟩
  rw [hw1] at hbox ga
  have c11 : w1.cell? ⟨p, 11, none⟩ = some (.bool true) := (h.grow ga).c 11
  have H1 := Lib.hid (h.grow ga); have BX := Lib.hid hbox; have GA := Lib.hid ga; have HW1 := Lib.hid hw1
  clear h hbox ga hw1
  go_enter Try.func18, Try.ntmps18
  go_wp2_with fail
  rw [HW1.out]
  refine (fnone_made c11).mono ?_
  rintro e w2 ⟨rfl, rfl⟩
  go_upto_region 3 with fail
  have y0 : ∀ W, Grow w1 W → W.cell? ⟨w.heap.size, 0, none⟩ = some (.int .i64 k) := fun W g => cell_of_row W _ 0 _ _ (0, 0) (row_grow BX.out g)
  have y2 : ∀ W, Grow w1 W → W.cell? ⟨w.heap.size, 2, none⟩ = some (.int .i64 frm) := fun W g => cell_of_row W _ 2 _ _ (0, 0) (row_grow BX.out g)
  have y6 : ∀ W, Grow w1 W → W.cell? ⟨w.heap.size, 6, none⟩ = some (.int .u64 op) := fun W g => cell_of_row W _ 6 _ _ (0, 0) (row_grow BX.out g)
  have q3 : ∀ W, Grow w1 W → W.cell? ⟨p, 3, none⟩ = some (.int .i64 f.frm) := fun W g => (H1.out.grow g).c 3
  have q4 : ∀ W, Grow w1 W → W.cell? ⟨p, 4, none⟩ = some (.int .u64 f.op) := fun W g => (H1.out.grow g).c 4
  clear c11
  by_cases hk : k = 17
  · have e1 : (k != 17) = false := by simp [hk]
    by_cases hf : f.frm < 0
    · have e2 : decide (f.frm < 0) = true := by simp; omega
      clear hk hs
      refine Chain.start Nat (by kernel_rfl) (by kernel_rfl) (fun hg => ?_)
      repeat (first | (refine Chain.skip hg (fun t => by rfl) ?_; simp only [Act.put, List.setIfInBounds_toArray, List.set_cons_zero, List.set_cons_succ]) | (refine Chain.pure hg (X := ?_) (fun t W hw hN => ⟨by rfl, ?_⟩) ?_; rotate_left; (focus (go_simp <;> with_reducible rfl)); simp only [Act.put, List.setIfInBounds_toArray, List.set_cons_zero, List.set_cons_succ]))
      refine Chain.done (fun t W hw hN => ?_)
      have GW := Lib.hid (GA.out.trans hw)
      clear hN hg y0 y2 y6 q3 q4 hw
      go_wp2
      go_ret
      exact ⟨rfl, GW.out⟩
    · have e2 : decide (f.frm < 0) = false := by simp; omega
      by_cases hfm : frm = f.frm
      · have e3 : (frm != f.frm) = false := by simp [hfm]
        have hop : op ≠ f.op := by
          rcases hs with h | h | h | h
          · exact absurd hk h
          · exact absurd h hf
          · exact absurd hfm h
          · exact h
        have e4 : ((op : Int) != (f.op : Int)) = true := by simp; omega
        have e5 : (op != f.op) = true := by simp; omega
        clear hk hs hop hfm
        refine Chain.start Nat (by kernel_rfl) (by kernel_rfl) (fun hg => ?_)
        repeat (first | (refine Chain.skip hg (fun t => by rfl) ?_; simp only [Act.put, List.setIfInBounds_toArray, List.set_cons_zero, List.set_cons_succ]) | (refine Chain.pure hg (X := ?_) (fun t W hw hN => ⟨by rfl, ?_⟩) ?_; rotate_left; (focus (go_simp <;> with_reducible rfl)); simp only [Act.put, List.setIfInBounds_toArray, List.set_cons_zero, List.set_cons_succ]))
        refine Chain.done (fun t W hw hN => ?_)
        have GW := Lib.hid (GA.out.trans hw)
        clear hN hg y0 y2 y6 q3 q4 hw
        go_wp2
        go_ret
        exact ⟨rfl, GW.out⟩
      · have e3 : (frm != f.frm) = true := by simp; exact hfm
        clear hk hs hfm
        refine Chain.start Nat (by kernel_rfl) (by kernel_rfl) (fun hg => ?_)
        repeat (first | (refine Chain.skip hg (fun t => by rfl) ?_; simp only [Act.put, List.setIfInBounds_toArray, List.set_cons_zero, List.set_cons_succ]) | (refine Chain.pure hg (X := ?_) (fun t W hw hN => ⟨by rfl, ?_⟩) ?_; rotate_left; (focus (go_simp <;> with_reducible rfl)); simp only [Act.put, List.setIfInBounds_toArray, List.set_cons_zero, List.set_cons_succ]))
        refine Chain.done (fun t W hw hN => ?_)
        have GW := Lib.hid (GA.out.trans hw)
        clear hN hg y0 y2 y6 q3 q4 hw
        go_wp2
        go_ret
        exact ⟨rfl, GW.out⟩
  · have e1 : (k != 17) = true := by simp [hk]
    clear hk hs
    refine Chain.start Nat (by kernel_rfl) (by kernel_rfl) (fun hg => ?_)
    repeat (first | (refine Chain.skip hg (fun t => by rfl) ?_; simp only [Act.put, List.setIfInBounds_toArray, List.set_cons_zero, List.set_cons_succ]) | (refine Chain.pure hg (X := ?_) (fun t W hw hN => ⟨by rfl, ?_⟩) ?_; rotate_left; (focus (go_simp <;> with_reducible rfl)); simp only [Act.put, List.setIfInBounds_toArray, List.set_cons_zero, List.set_cons_succ]))
    refine Chain.done (fun t W hw hN => ?_)
    have GW := Lib.hid (GA.out.trans hw)
    clear hN hg y0 y2 y6 q3 q4 hw
    go_wp2
    go_ret
    exact ⟨rfl, GW.out⟩
end Go.Proofs.Ytlnokohmmhmoaaa

