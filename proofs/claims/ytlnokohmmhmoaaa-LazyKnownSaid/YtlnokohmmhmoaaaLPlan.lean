/-
  lazy: the contract of Plan, where it takes a plan.
-/
import Derived.Test.YtlnokohmmhmoaaaLPlan1
namespace Go.Proofs.Ytlnokohmmhmoaaa
open Go.RowKit
set_option linter.unusedSimpArgs false

def planD (h : List Pt) (c : Dc) : Dt := ⟨c.doc, c.rev, c.turn, (handOf h c.doc c.turn).getD [], -1, (handOf h c.doc c.turn).isSome⟩
def planF (f : F) (frm : Int) (op : Nat) (rest : List Nat) (cs : List Dc) : F := { f with frm := frm, op := op, rest := rest, docs := cs.map (planD f.hand), fresh := true, vain := 0 }
structure CWf (c : Dc) : Prop where
  doc : c.doc < 4294967296
  rev : c.rev < 18446744073709551616
  turn : c.turn < 18446744073709551616
def RisesC (cs : List Dc) : Prop := ∀ (i : Nat) (y x : Dc), cs[i]? = some y → cs[i + 1]? = some x → y.doc < x.doc
theorem mem_snoc {α : Type} {C : α → Prop} {L : List α} {x : α} (h1 : ∀ s ∈ L, C s) (h2 : C x) : ∀ s ∈ L ++ [x], C s := by
  intro s hs
  rcases List.mem_append.1 hs with hs | hs
  · exact h1 s hs
  · simp at hs; subst hs; exact h2
theorem mem_no {α : Type} {C : α → Prop} : ∀ s ∈ ([] : List α), C s := fun _ h => by cases h
theorem own_lt {w : World} {base : Nat} {e : TypeId} {sz n : Nat} {v : Value} {xs : List Value} (h : w.ownsRow base e sz v n xs) : ∀ g, v.ownBlock = some g → base ≤ g := fun g hg => (h.lt g hg).1
set_option maxRecDepth 100000 in
set_option maxHeartbeats 4000000 in
theorem plan_ok {T R : Nat → Prop} {p op : Nat} {f : F} {frm : Int} {A B : Option Addr} {n c m e0 : Nat} {rest : List Nat} {cs : List Dc} {w : World} (h : FIs w T R p f) (hneg : f.frm < 0) (hop : f.least ≤ op) (hme : frm ≠ f.me) (h0 : 0 ≤ frm) (h7 : frm < 7)
    (hL : Lies w 1 A n c (byt rest)) (hLT : ∀ a, A = some a → 0 < n → ¬ T a.block) (hC : Lies w 3 B m e0 (cs.flatMap ccell)) (hCT : ∀ a, B = some a → 0 < m → ¬ T a.block) (hr : RisesC cs) (hwf : ∀ x ∈ cs, CWf x) (hn : n ≤ 1000) (hm : m ≤ 1000) (hhb : ∀ doc turn bs, handOf f.hand doc turn = some bs → bs.length ≤ 1000) :
    Calls Try.prog 17 #[.pointer (some ⟨p, 0, none⟩), .agg #[.int .i64 15, .int .u64 0, .int .i64 frm, .int .u32 0, .int .u64 0, .int .u64 0, .int .u64 op, .int .u64 0, .int .u64 0, .int .u64 0, .int .u64 0, .int .u32 0, .int .u64 0, .slice none 0 0, .int .u32 0, .int .i64 0, .int .i64 0, .bool false, .slice A n c, .slice B m e0]] w fun e w' => e = .returned (.int .i64 0) ∧ GrowS T w w' ∧ ∃ T' R' : Nat → Prop, FIs w' T' R' p (planF f frm op rest cs) ∧ (∀ k, T' k → T k ∨ w.heap.size ≤ k) ∧ (∀ k, R' k → R k ∨ w.heap.size ≤ k) := by
  obtain ⟨b, Rv, V, l, h⟩ := h
  have hbox := heap_alloc_new w (.cells #[.int .i64 15, .int .u64 0, .int .i64 frm, .int .u32 0, .int .u64 0, .int .u64 0, .int .u64 op, .int .u64 0, .int .u64 0, .int .u64 0, .int .u64 0, .int .u32 0, .int .u64 0, .slice none 0 0, .int .u32 0, .int .i64 0, .int .i64 0, .bool false, .slice A n c, .slice B m e0] 42)
  obtain ⟨w1, hw1⟩ : ∃ w1, w.alloc (.cells #[.int .i64 15, .int .u64 0, .int .i64 frm, .int .u32 0, .int .u64 0, .int .u64 0, .int .u64 op, .int .u64 0, .int .u64 0, .int .u64 0, .int .u64 0, .int .u32 0, .int .u64 0, .slice none 0 0, .int .u32 0, .int .i64 0, .int .i64 0, .bool false, .slice A n c, .slice B m e0] 42) = w1 := ⟨_, rfl⟩
  have g1 : Grow w w1 := hw1 ▸ Grow.alloc w _
  rw [hw1] at hbox
  have H1 := Lib.hid (h.grow g1); have BX := Lib.hid hbox; have HL := Lib.hid hL; have HC := Lib.hid hC; have HW1 := Lib.hid hw1; have G1 := Lib.hid g1; have HR := Lib.hid hr; have HWF := Lib.hid hwf; have HHB := Lib.hid hhb
  have HCN := Lib.hid (Lies.flat_n ccell_len (by decide) hC)
  have HLT := Lib.hid hLT; have HCT := Lib.hid hCT
  have hcle := hC.le
  have c11 : w1.cell? ⟨p, 11, none⟩ = some (.bool true) := (h.grow g1).c 11
  have c3 : w1.cell? ⟨p, 3, none⟩ = some (.int .i64 f.frm) := (h.grow g1).c 3
  have e2 : decide (f.frm ≥ 0) = false := by simp; omega
  have HP := Lib.hid (h.ltT p h.pT)
  clear h hbox g1 hL hC hr hwf hLT hCT hw1 hhb
  go_enter Try.func17, Try.ntmps17
  go_wp2_with fail
  rw [HW1.out]
  refine (fnone_made c11).mono ?_
  rintro e w2 ⟨rfl, rfl⟩
  have k0 : w1.cell? ⟨w.heap.size, 0, none⟩ = some (.int .i64 15) := cell_of_row w1 _ 0 _ _ (0, 0) BX.out
  go_upto_region 5 with fail
  have y2 : ∀ W, Grow w1 W → W.cell? ⟨w.heap.size, 2, none⟩ = some (.int .i64 frm) := fun W g => cell_of_row W _ 2 _ _ (0, 0) (row_grow BX.out g)
  have y6 : ∀ W, Grow w1 W → W.cell? ⟨w.heap.size, 6, none⟩ = some (.int .u64 op) := fun W g => cell_of_row W _ 6 _ _ (0, 0) (row_grow BX.out g)
  have y19 : ∀ W, Grow w1 W → W.cell? ⟨w.heap.size, 19, none⟩ = some (.slice B m e0) := fun W g => cell_of_row W _ 19 _ _ (0, 0) (row_grow BX.out g)
  have q0 : ∀ W, Grow w1 W → W.cell? ⟨p, 0, none⟩ = some (.int .i64 f.me) := fun W g => (H1.out.grow g).c 0
  have q1 : ∀ W, Grow w1 W → W.cell? ⟨p, 1, none⟩ = some (.int .u64 f.least) := fun W g => (H1.out.grow g).c 1
  have d1 : decide ((op : Int) < (f.least : Int)) = false := by simp; omega
  have d2 : decide (op < f.least) = false := by simp; omega
  have d3 : (frm == f.me) = false := by simp; exact hme
  refine Chain.start Nat (by kernel_rfl) (by kernel_rfl) (fun hg => ?_)
  repeat (first | (refine Chain.skip hg (fun t => by rfl) ?_; simp only [Act.put, List.setIfInBounds_toArray, List.set_cons_zero, List.set_cons_succ]) | (refine Chain.pure hg (X := ?_) (fun t W hw hN => ⟨by rfl, ?_⟩) ?_; rotate_left; (focus (go_simp <;> with_reducible rfl)); simp only [Act.put, List.setIfInBounds_toArray, List.set_cons_zero, List.set_cons_succ]))
  refine Chain.grow hg (fun _ => .bool true) (fun _ _ => True) (fun _ _ _ h _ => h) (fun _ => by rfl) (fun t W hw hN K hK => ?_) ?_
  · go_simp; refine (node_ok h0 h7).mono ?_; rintro e w9 ⟨rfl, rfl⟩; exact hK.out default _ (Grow.refl _) trivial
  simp only [Act.put, List.setIfInBounds_toArray, List.set_cons_zero, List.set_cons_succ]
  repeat (first | (refine Chain.skip hg (fun t => by rfl) ?_; simp only [Act.put, List.setIfInBounds_toArray, List.set_cons_zero, List.set_cons_succ]) | (refine Chain.pure hg (X := ?_) (fun t W hw hN => ⟨by rfl, ?_⟩) ?_; rotate_left; (focus (go_simp <;> with_reducible rfl)); simp only [Act.put, List.setIfInBounds_toArray, List.set_cons_zero, List.set_cons_succ]))
  refine Chain.grow hg (fun _ => .bool true) (fun _ _ => True) (fun _ _ _ h _ => h) (fun _ => by rfl) (fun t W hw hN K hK => ?_) ?_
  · go_simp; refine (rise_docs (HC.out.below (G1.out.trans hw) (Nat.le_refl _)) (fun i y x => HR.out i y x)).mono ?_; rintro e w9 ⟨rfl, g9⟩; exact hK.out default _ g9 trivial
  simp only [Act.put, List.setIfInBounds_toArray, List.set_cons_zero, List.set_cons_succ]
  repeat (first | (refine Chain.skip hg (fun t => by rfl) ?_; simp only [Act.put, List.setIfInBounds_toArray, List.set_cons_zero, List.set_cons_succ]) | (refine Chain.pure hg (X := ?_) (fun t W hw hN => ⟨by rfl, ?_⟩) ?_; rotate_left; (focus (go_simp <;> with_reducible rfl)); simp only [Act.put, List.setIfInBounds_toArray, List.set_cons_zero, List.set_cons_succ]))
  refine Chain.done (fun t W hw hN => ?_)
  have HW := Lib.hid hw
  have BX2 := Lib.hid (row_grow BX.out hw); have H2 := Lib.hid (H1.out.grow hw); have G2 := Lib.hid (G1.out.trans hw)
  clear hN hg y2 y6 y19 q0 q1 hw c11 c3 k0
  go_upto_region 7 with fail
  obtain ⟨X, hX⟩ : ∃ X : Nat → Prop, (fun k => k = p) = X := ⟨_, rfl⟩
  have hXp : X p := by rw [← hX]
  have hXn : ∀ k, k ≠ p → ¬ X k := fun k hk hx => by rw [← hX] at hx; exact hk hx
  have HX := Lib.hid hX; have HXN := Lib.hid hXn; have HXP := Lib.hid hXp
  have hgp : w.heap.size ≠ p := by have := HP.out; omega
  have y2 : ∀ W2, GrowS X W W2 → W2.cell? ⟨w.heap.size, 2, none⟩ = some (.int .i64 frm) := fun W2 g => cell_of_row W2 _ 2 _ _ (0, 0) (g.kept BX2.out (HXN.out _ hgp))
  have y6 : ∀ W2, GrowS X W W2 → W2.cell? ⟨w.heap.size, 6, none⟩ = some (.int .u64 op) := fun W2 g => cell_of_row W2 _ 6 _ _ (0, 0) (g.kept BX2.out (HXN.out _ hgp))
  have y18 : ∀ W2, GrowS X W W2 → W2.cell? ⟨w.heap.size, 18, none⟩ = some (.slice A n c) := fun W2 g => cell_of_row W2 _ 18 _ _ (0, 0) (g.kept BX2.out (HXN.out _ hgp))
  have HLW := Lib.hid (HL.out.below (w' := W) G2.out (Nat.le_refl _))
  have LX : Hid (∀ W2, GrowS X W W2 → Lies W2 1 A n c (byt rest)) := fun W2 g => g.liesZ HLW.out (fun a ha h0 hx => by rw [← HX.out] at hx; exact HLT.out a ha h0 (hx ▸ H2.out.pT))
  clear hX hXn hXp
  refine wp_region_any (by kernel_rfl) ?_
  refine wpAny_take (i := 0) (v := ?_) rfl (by kernel_rfl) (by kernel_rfl) (by kernel_rfl) (fun _ _ _ h => h) (Or.inl ⟨by rfl, fun W => ?_⟩) ?_
  rotate_left
  focus (go_simp <;> with_reducible rfl)
  simp only [Act.put, List.getElem_toArray, List.getElem_cons_succ, List.getElem_cons_zero, List.setIfInBounds_toArray, List.set_cons_zero, List.set_cons_succ]
  refine wpAny_take (i := 1) (v := ?_) rfl (by kernel_rfl) (by kernel_rfl) (by kernel_rfl) (fun _ _ _ h => h) (Or.inl ⟨by rfl, fun W => ?_⟩) ?_
  rotate_left
  focus (go_simp <;> with_reducible rfl)
  simp only [Act.put, List.getElem_toArray, List.getElem_cons_succ, List.getElem_cons_zero, List.setIfInBounds_toArray, List.set_cons_zero, List.set_cons_succ]
  refine wpAny_take (i := 2) (v := ?_) rfl (by kernel_rfl) (by kernel_rfl) (by kernel_rfl) (fun _ _ _ h => h) (Or.inl ⟨by rfl, fun W => ?_⟩) ?_
  rotate_left
  focus (go_simp <;> with_reducible rfl)
  simp only [Act.put, List.getElem_toArray, List.getElem_cons_succ, List.getElem_cons_zero, List.setIfInBounds_toArray, List.set_cons_zero, List.set_cons_succ]
  refine wpAny_take (i := 3) (v := ?_) rfl (by kernel_rfl) (by kernel_rfl) (by kernel_rfl) (fun _ _ _ h => h) (Or.inl ⟨by rfl, fun W => ?_⟩) ?_
  rotate_left
  focus (go_simp <;> with_reducible rfl)
  simp only [Act.put, List.getElem_toArray, List.getElem_cons_succ, List.getElem_cons_zero, List.setIfInBounds_toArray, List.set_cons_zero, List.set_cons_succ]
  refine wpAny_take (i := 4) (v := ?_) rfl (by kernel_rfl) (by kernel_rfl) (by kernel_rfl) (fun _ _ _ h => h) (Or.inl ⟨by rfl, fun W => ?_⟩) ?_
  rotate_left
  focus (go_simp <;> with_reducible rfl)
  simp only [Act.put, List.getElem_toArray, List.getElem_cons_succ, List.getElem_cons_zero, List.setIfInBounds_toArray, List.set_cons_zero, List.set_cons_succ]
  refine wpAny_take (i := 6) (v := ?_) rfl (by kernel_rfl) (by kernel_rfl) (by kernel_rfl) (fun _ _ _ h => h) (Or.inl ⟨by rfl, fun W => ?_⟩) ?_
  rotate_left
  focus (go_simp <;> with_reducible rfl)
  simp only [Act.put, List.getElem_toArray, List.getElem_cons_succ, List.getElem_cons_zero, List.setIfInBounds_toArray, List.set_cons_zero, List.set_cons_succ]
  refine wpAny_take (i := 8) (v := ?_) rfl (by kernel_rfl) (by kernel_rfl) (by kernel_rfl) (fun _ _ _ h => h) (Or.inl ⟨by rfl, fun W => ?_⟩) ?_
  rotate_left
  focus (go_simp <;> with_reducible rfl)
  simp only [Act.put, List.getElem_toArray, List.getElem_cons_succ, List.getElem_cons_zero, List.setIfInBounds_toArray, List.set_cons_zero, List.set_cons_succ]
  refine WChain.from (Option Addr × Nat) X 351 (by kernel_rfl) (by kernel_rfl) (by kernel_rfl) (by kernel_rfl) (Grow.drew _) (fun hg => ?_)
  repeat (first | (refine WChain.was (by rfl) ?_) | (refine WChain.skip hg (by rfl) (fun t => by rfl) ?_; simp only [Act.put, List.setIfInBounds_toArray, List.set_cons_zero, List.set_cons_succ]) | (refine WChain.pure hg (X := ?_) (by rfl) (fun t W hw hN => ⟨by rfl, ?_⟩) ?_; rotate_left; (focus (go_simp <;> with_reducible rfl)); simp only [Act.put, List.setIfInBounds_toArray, List.set_cons_zero, List.set_cons_succ]))
  refine WChain.grow hg (fun s => .slice s.1 n s.2) (fun s W2 => W2.ownsRow W.heap.size 5 1 (.slice s.1 n s.2) n (byt rest)) (by kernel_rfl) (fun _ _ _ h g => g.own h (fun k hk => HXN.out k (by have := own_lt h k hk; have := HP.out; have := G2.out.size; omega))) (fun _ => by rfl) (fun t W hw hN K hK => ?_) ?_
  · go_simp
    refine (bclone_any (LX.out _ hw) (by omega)).mono ?_
    rintro e w9 ⟨A', c', rfl, own9, g9⟩
    exact hK.out (A', c') _ g9 (own9.mono hw.size)
  simp only [Act.put, List.setIfInBounds_toArray, List.set_cons_zero, List.set_cons_succ]
  repeat (first | (refine WChain.was (by rfl) ?_) | (refine WChain.skip hg (by rfl) (fun t => by rfl) ?_; simp only [Act.put, List.setIfInBounds_toArray, List.set_cons_zero, List.set_cons_succ]) | (refine WChain.pure hg (X := ?_) (by rfl) (fun t W hw hN => ⟨by rfl, ?_⟩) ?_; rotate_left; (focus (go_simp <;> with_reducible rfl)); simp only [Act.put, List.setIfInBounds_toArray, List.set_cons_zero, List.set_cons_succ]))
  refine WChain.write hg (p) ((fun W2 => W2.heap[p]? = some (.cells (fcells f b Rv V) 66 (0, 0)))) ((fun _ => undef)) ((fun _ W2 => W2.heap[p]? = some (.cells (fcells { f with frm := frm } b Rv V) 66 (0, 0)))) (by kernel_rfl) HXP.out ?_ H2.out.st (fun w5 w6 h5 h6 => h6.kept h5 (fun hx => hx.2 rfl)) (fun _ w5 w6 h5 h6 => h6.kept h5 (fun hx => hx.2 rfl)) (fun _ => by rfl) (fun t W hw hN hp K hK => ?_) ?_
  · repeat (first | exact mem_no | refine mem_snoc ?_ (fun e => by cases e))
  · have a0 : W.cell? ⟨p, 3, none⟩ = some (.int .i64 f.frm) := cell_of_row W p 3 _ _ (0, 0) hp
    have b0 := frozen_of_row W p 3 _ _ hp
    have st1 := heap_setCell_same W p 3 _ _ (.int .i64 frm) hp
    go_simp
    exact hK.out default _ ⟨rfl, rfl, rfl, by simp [World.setCell], fun i _ hi => heap_setCell_other W _ i _ (fun e => hi (by rw [e]))⟩ (by simpa [fcells] using st1)
  simp only [Act.put, List.setIfInBounds_toArray, List.set_cons_zero, List.set_cons_succ]
  refine WChain.last (wtail_of (by kernel_rfl)) (by kernel_rfl) (fun t W3 hw hN => ?_)
  have h10 := hN.get 10 rfl (by rfl) (by kernel_rfl)
  have st1 := hN.get 13 rfl (by rfl) (by kernel_rfl)
  generalize t 10 = s at *
  obtain ⟨A9, c9⟩ := s
  simp only at h10 st1
  have gX : GrowS (fun k => k = p) W W3 := by have := hw; rw [← HX.out] at this; exact this
  have BX3 := Lib.hid (gX.kept BX2.out hgp); have G3 := Lib.hid ((G2.out.wide T).trans (gX.mono (fun k e => e ▸ H2.out.pT))); have O10 := Lib.hid h10; have GX := Lib.hid gX
  have ST1 := Lib.hid st1
  have st1 := ST1.out
  unfold fcells at st1
  have st2 := heap_setCell_same W3 p 4 _ _ (.int .u64 op) st1
  have st3 := heap_setCell_same _ p 5 _ _ (.slice A9 n c9) st2
  have st4 := heap_setCell_same _ p 6 _ _ (.slice none 0 0) st3
  have a1 := cell_of_row _ p 4 _ _ (0, 0) st1
  have b1 := frozen_of_row _ p 4 _ _ st1
  have a2 := cell_of_row _ p 5 _ _ (0, 0) st2
  have b2 := frozen_of_row _ p 5 _ _ st2
  have a3 := cell_of_row _ p 6 _ _ (0, 0) st3
  have b3 := frozen_of_row _ p 6 _ _ st3
  have ST4 := Lib.hid st4
  clear hN hg y2 y6 y18 hw h10 st1 st2 st3 st4 gX
  go_upto_region 8 with fail
  have gs : GrowS (fun k => k = p) W3 (((W3.setCell ⟨p, 4, none⟩ (.int .u64 op)).setCell ⟨p, 5, none⟩ (.slice A9 n c9)).setCell ⟨p, 6, none⟩ (.slice none 0 0)) :=
    ((GrowS.setCell (T := fun k => k = p) W3 (p := ⟨p, 4, none⟩) rfl _).trans (GrowS.setCell (T := fun k => k = p) _ (p := ⟨p, 5, none⟩) rfl _)).trans (GrowS.setCell (T := fun k => k = p) _ (p := ⟨p, 6, none⟩) rfl _)
  have sz2 := G2.out.size
  have H3 := Lib.hid (H2.out.turn (f' := { f with frm := frm }) GX.out ST1.out rfl (.inl ⟨rfl, rfl⟩) (.inl ⟨rfl, rfl, rfl⟩))
  have h4 := H3.out.begin (f' := { f with frm := frm, op := op, rest := rest, docs := [] }) gs O10.out (fun g hg hT => by have h1 := own_lt O10.out g hg; have := H2.out.ltT g hT; omega) (by have := ST4.out; simpa [fcells] using this) rfl rfl
  have R4 : Hid (∀ k, (R k ∨ (Value.slice A9 n c9).ownBlock = some k) → R k ∨ w.heap.size ≤ k) := fun k hk => hk.imp id (fun e => by have := own_lt O10.out k e; omega)
  obtain ⟨R1, hR1⟩ : ∃ R1 : Nat → Prop, (fun k => R k ∨ (Value.slice A9 n c9).ownBlock = some k) = R1 := ⟨_, rfl⟩
  have HR1 := Lib.hid (show ∀ k, R1 k → R k ∨ w.heap.size ≤ k from fun k hk => R4 k (by rw [← hR1] at hk; exact hk))
  rw [hR1] at h4
  have BX4 := Lib.hid (gs.kept BX3.out hgp)
  have G4 := Lib.hid (G3.out.trans (gs.mono (fun k e => e ▸ H3.out.pT)))
  have H4 := Lib.hid h4
  generalize ((W3.setCell ⟨p, 4, none⟩ (.int .u64 op)).setCell ⟨p, 5, none⟩ (.slice A9 n c9)).setCell ⟨p, 6, none⟩ (.slice none 0 0) = w4 at *
  clear gs h4 a1 b1 a2 b2 a3 b3 hR1 R4 ST4
  have k19 : w4.cell? ⟨w.heap.size, 19, none⟩ = some (.slice B m e0) := cell_of_row w4 _ 19 _ _ (0, 0) BX4.out
  go_wp2
  have HCT0 := HCT.out
  go_loopw [74] (fun i wr => ∃ (j : Nat) (T1 R2 : Nat → Prop) (V1 : Value) (l1 : List (Dt × Value)), j ≤ m ∧ i = .int .i64 j ∧ Hid (FAt wr T1 R2 p { f with frm := frm, op := op, rest := rest, docs := (cs.map (planD f.hand)).take j } b (.slice A9 n c9) V1 l1) ∧ Hid (∀ k, T1 k → T k ∨ w.heap.size ≤ k) ∧ Hid (∀ k, R2 k → R k ∨ w.heap.size ≤ k) ∧ GrowS T w wr) (fun i _ => m - (intOf i).toNat)
  case atStart => exact ⟨0, T, R1, .slice none 0 0, [], Nat.zero_le _, rfl, H4, fun k hk => .inl hk, HR1, G4.out⟩
  case round =>
    obtain ⟨j, T1, R2, V1, l1, hj, rfl, hF, hT1, hR2, hg⟩ := hrel
    have GR := Lib.hid hg
    by_cases hlt : j < m
    · obtain ⟨d, hx⟩ : ∃ d, cs[j]? = some d := ⟨_, List.getElem?_eq_getElem (by have := HCN.out; omega)⟩
      obtain ⟨bb, off, rfl, -, -⟩ := HC.out.pos (by omega) (by decide)
      have CR : Lies wr 3 (some ⟨bb, off, none⟩) m e0 (cs.flatMap ccell) := hg.liesZ HC.out HCT0
      have x0 := Lies.flat_cell (j := 0) ccell_len CR hx rfl
      have x1 := Lies.flat_cell (j := 1) ccell_len CR hx rfl
      have x2 := Lies.flat_cell (j := 2) ccell_len CR hx rfl
      simp only [Nat.add_zero] at x0
      have HDW := Lib.hid (show CWf d from HWF.out _ (List.mem_of_getElem? hx))
      have HTK := Lib.hid (show (cs.map (planD f.hand)).take j ++ [planD f.hand d] = (cs.map (planD f.hand)).take (j + 1) by rw [List.take_add_one, List.getElem?_map, hx]; rfl)
      have HLL := Lib.hid (show l1.length = j by have := congrArg List.length hF.out.map; rw [List.length_map, List.length_take, List.length_map] at this; have := HCN.out; omega)
      obtain ⟨A7, n7, c7, ok, look, hB7, hok⟩ := hand_look hF.out.hand HDW.out.doc HDW.out.turn
      obtain ⟨A7', n7', c7', e7, hL7, -⟩ := hB7.lies
      injection e7 with e71 e72 e73
      subst e71 e72 e73
      have hn7 : n7 ≤ 1000 := by
        have := hL7.len
        rw [byt_len] at this
        cases hh : handOf f.hand d.doc d.turn with
        | none => rw [hh] at this; simp at this; omega
        | some bs => rw [hh] at this; have := HHB.out d.doc d.turn bs hh; simp at *; omega
      obtain ⟨bs7, hbs7⟩ : ∃ bs7, (handOf f.hand d.doc d.turn).getD [] = bs7 := ⟨_, rfl⟩
      rw [hbs7] at hL7
      obtain ⟨A1, c1, rfl⟩ := hF.out.formV
      rw [HLL.out] at hF
      obtain ⟨w5, hw5⟩ : ∃ w5, wr.alloc (.cells #[.int .u32 d.doc, .int .u64 d.rev, .int .u64 d.turn] 76) = w5 := ⟨_, rfl⟩
      have g5 : Grow wr w5 := hw5 ▸ Grow.alloc _ _
      have bx : w5.heap[wr.heap.size]? = some (.cells #[.int .u32 d.doc, .int .u64 d.rev, .int .u64 d.turn] 76 (0, 0)) := hw5 ▸ heap_alloc_new _ _
      have G5 := Lib.hid g5; have BX5 := Lib.hid bx; have HW5 := Lib.hid hw5; have HLK := Lib.hid look; have HL7 := Lib.hid hL7; have HOK := Lib.hid hok; have HB7 := Lib.hid hbs7
      have F5 := Lib.hid (hF.out.grow g5)
      clear hx CR bx g5 hw5 look hL7 hok hB7 hg hbs7
      go_upto_region 11 with fail
      rw [HW5.out]
      have q2 : ∀ W, Grow w5 W → W.cell? ⟨p, 2, none⟩ = some (.map (some b)) := fun W g => (F5.out.grow g).c 2
      have z0 : ∀ W, Grow w5 W → W.cell? ⟨wr.heap.size, 0, none⟩ = some (.int .u32 d.doc) := fun W g => cell_of_row W _ 0 _ _ (0, 0) (row_grow BX5.out g)
      have z2 : ∀ W, Grow w5 W → W.cell? ⟨wr.heap.size, 2, none⟩ = some (.int .u64 d.turn) := fun W g => cell_of_row W _ 2 _ _ (0, 0) (row_grow BX5.out g)
      have lk : ∀ W, Grow w5 W → (Instr.lookup 63 (.map (some b)) (.agg #[.int .u32 d.doc, .int .u64 d.turn]) true).run Try.prog W = .ok (.tuple #[.slice A7 n7 c7, .bool ok]) W := fun W g => HLK.out W (G5.out.trans g)
      clear x0 x1 x2
      refine Chain.start Nat (by kernel_rfl) (by kernel_rfl) (fun hg => ?_)
      repeat (first | (refine Chain.skip hg (fun t => by rfl) ?_; simp only [Act.put, List.setIfInBounds_toArray, List.set_cons_zero, List.set_cons_succ]) | (refine Chain.pure hg (X := ?_) (fun t W hw hN => ⟨by rfl, ?_⟩) ?_; rotate_left; (focus (go_simp <;> with_reducible rfl)); simp only [Act.put, List.setIfInBounds_toArray, List.set_cons_zero, List.set_cons_succ]))
      refine Chain.done (fun t W hw hN => ?_)
      have F6 := Lib.hid (F5.out.grow hw); have BX6 := Lib.hid (row_grow BX5.out hw); have G6 := Lib.hid (G5.out.trans hw)
      clear hN hg q2 z0 z2 lk hw
      go_upto_region 12 with fail
      have q6 : ∀ W2, GrowS NoRow W W2 → W2.cell? ⟨p, 6, none⟩ = some (.slice A1 j c1) := fun W2 g => (F6.out.grow g.no).c 6
      have z0 : ∀ W2, GrowS NoRow W W2 → W2.cell? ⟨wr.heap.size, 0, none⟩ = some (.int .u32 d.doc) := fun W2 g => cell_of_row W2 _ 0 _ _ (0, 0) (row_grow BX6.out g.no)
      have z1 : ∀ W2, GrowS NoRow W W2 → W2.cell? ⟨wr.heap.size, 1, none⟩ = some (.int .u64 d.rev) := fun W2 g => cell_of_row W2 _ 1 _ _ (0, 0) (row_grow BX6.out g.no)
      have z2 : ∀ W2, GrowS NoRow W W2 → W2.cell? ⟨wr.heap.size, 2, none⟩ = some (.int .u64 d.turn) := fun W2 g => cell_of_row W2 _ 2 _ _ (0, 0) (row_grow BX6.out g.no)
      refine wp_region_any (by kernel_rfl) ?_
      refine wpAny_take (i := 0) (v := ?_) rfl (by kernel_rfl) (by kernel_rfl) (by kernel_rfl) (fun _ _ _ h => h) (Or.inl ⟨by rfl, fun W => ?_⟩) ?_
      rotate_left
      focus (go_simp <;> with_reducible rfl)
      simp only [Act.put, List.getElem_toArray, List.getElem_cons_succ, List.getElem_cons_zero, List.setIfInBounds_toArray, List.set_cons_zero, List.set_cons_succ]
      refine wpAny_take (i := 1) (v := ?_) rfl (by kernel_rfl) (by kernel_rfl) (by kernel_rfl) (fun _ _ _ h => h) (Or.inl ⟨by rfl, fun W => ?_⟩) ?_
      rotate_left
      focus (go_simp <;> with_reducible rfl)
      simp only [Act.put, List.getElem_toArray, List.getElem_cons_succ, List.getElem_cons_zero, List.setIfInBounds_toArray, List.set_cons_zero, List.set_cons_succ]
      refine wpAny_take (i := 2) (v := ?_) rfl (by kernel_rfl) (by kernel_rfl) (by kernel_rfl) (fun _ _ _ h => h) (Or.inl ⟨by rfl, fun W => ?_⟩) ?_
      rotate_left
      focus (go_simp <;> with_reducible rfl)
      simp only [Act.put, List.getElem_toArray, List.getElem_cons_succ, List.getElem_cons_zero, List.setIfInBounds_toArray, List.set_cons_zero, List.set_cons_succ]
      refine wpAny_take (i := 3) (v := ?_) rfl (by kernel_rfl) (by kernel_rfl) (by kernel_rfl) (fun _ _ _ h => h) (Or.inl ⟨by rfl, fun W => ?_⟩) ?_
      rotate_left
      focus (go_simp <;> with_reducible rfl)
      simp only [Act.put, List.getElem_toArray, List.getElem_cons_succ, List.getElem_cons_zero, List.setIfInBounds_toArray, List.set_cons_zero, List.set_cons_succ]
      refine wpAny_take (i := 5) (v := ?_) rfl (by kernel_rfl) (by kernel_rfl) (by kernel_rfl) (fun _ _ _ h => h) (Or.inl ⟨by rfl, fun W => ?_⟩) ?_
      rotate_left
      focus (go_simp <;> with_reducible rfl)
      simp only [Act.put, List.getElem_toArray, List.getElem_cons_succ, List.getElem_cons_zero, List.setIfInBounds_toArray, List.set_cons_zero, List.set_cons_succ]
      refine wpAny_take (i := 7) (v := ?_) rfl (by kernel_rfl) (by kernel_rfl) (by kernel_rfl) (fun _ _ _ h => h) (Or.inl ⟨by rfl, fun W => ?_⟩) ?_
      rotate_left
      focus (go_simp <;> with_reducible rfl)
      simp only [Act.put, List.getElem_toArray, List.getElem_cons_succ, List.getElem_cons_zero, List.setIfInBounds_toArray, List.set_cons_zero, List.set_cons_succ]
      refine wpAny_take (i := 9) (v := ?_) rfl (by kernel_rfl) (by kernel_rfl) (by kernel_rfl) (fun _ _ _ h => h) (Or.inl ⟨by rfl, fun W => ?_⟩) ?_
      rotate_left
      focus (go_simp <;> with_reducible rfl)
      simp only [Act.put, List.getElem_toArray, List.getElem_cons_succ, List.getElem_cons_zero, List.setIfInBounds_toArray, List.set_cons_zero, List.set_cons_succ]
      refine wpAny_take (i := 11) (v := ?_) rfl (by kernel_rfl) (by kernel_rfl) (by kernel_rfl) (fun _ _ _ h => h) (Or.inl ⟨by rfl, fun W => ?_⟩) ?_
      rotate_left
      focus (go_simp <;> with_reducible rfl)
      simp only [Act.put, List.getElem_toArray, List.getElem_cons_succ, List.getElem_cons_zero, List.setIfInBounds_toArray, List.set_cons_zero, List.set_cons_succ]
      refine wpAny_take (i := 14) (v := ?_) rfl (by kernel_rfl) (by kernel_rfl) (by kernel_rfl) (fun _ _ _ h => h) (Or.inl ⟨by rfl, fun W => ?_⟩) ?_
      rotate_left
      focus (go_simp <;> with_reducible rfl)
      simp only [Act.put, List.getElem_toArray, List.getElem_cons_succ, List.getElem_cons_zero, List.setIfInBounds_toArray, List.set_cons_zero, List.set_cons_succ]
      refine WChain.from (Option Addr × Nat × Nat) NoRow 19119 (by kernel_rfl) (by kernel_rfl) (by kernel_rfl) (by kernel_rfl) (Grow.drew _) (fun hg => ?_)
      repeat (first | (refine WChain.was (by rfl) ?_) | (refine WChain.skip hg (by rfl) (fun t => by rfl) ?_; simp only [Act.put, List.setIfInBounds_toArray, List.set_cons_zero, List.set_cons_succ]) | (refine WChain.pure hg (X := ?_) (by rfl) (fun t W hw hN => ⟨by rfl, ?_⟩) ?_; rotate_left; (focus (go_simp <;> with_reducible rfl)); simp only [Act.put, List.setIfInBounds_toArray, List.set_cons_zero, List.set_cons_succ]))
      refine WChain.growN hg (fun s => .slice s.1 n7 s.2.1) (fun s W2 => W2.ownsRow W.heap.size 5 1 (.slice s.1 n7 s.2.1) n7 (byt bs7)) (by kernel_rfl) (fun _ _ _ h g => own_grow h g) (fun _ => by rfl) (fun t W hw hN K hK => ?_) ?_
      · go_simp
        refine (bclone_any (HL7.out.below (G6.out.trans hw.no) (Nat.le_refl _)) (by omega)).mono ?_
        rintro e w9 ⟨A', c', rfl, own9, g9⟩
        exact hK.out (A', c', 0) _ g9 (own9.mono hw.size)
      simp only [Act.put, List.setIfInBounds_toArray, List.set_cons_zero, List.set_cons_succ]
      repeat (first | (refine WChain.was (by rfl) ?_) | (refine WChain.skip hg (by rfl) (fun t => by rfl) ?_; simp only [Act.put, List.setIfInBounds_toArray, List.set_cons_zero, List.set_cons_succ]) | (refine WChain.pure hg (X := ?_) (by rfl) (fun t W hw hN => ⟨by rfl, ?_⟩) ?_; rotate_left; (focus (go_simp <;> with_reducible rfl)); simp only [Act.put, List.setIfInBounds_toArray, List.set_cons_zero, List.set_cons_succ]))
      refine WChain.growN hg (fun s => .slice (some ⟨s.2.2, 0, none⟩) 1 1) (fun s W2 => W2.heap[s.2.2]? = some (.cells #[.int .u32 d.doc, .int .u64 d.rev, .int .u64 d.turn, .slice s.1 n7 s.2.1, .int .i64 (-1), .bool ok] 73 (0, 0)) ∧ W2.ownsRow W.heap.size 5 1 (.slice s.1 n7 s.2.1) n7 (byt bs7)) (by kernel_rfl) (fun _ _ _ h g => ⟨row_grow h.1 g, own_grow h.2 g⟩) (fun _ => by rfl) (fun t W hw hN K hK => ?_) ?_
      · have h12 := hN.get 12 rfl (by rfl) (by kernel_rfl)
        go_simp
        exact hK.out ((t 12).1, (t 12).2.1, _) _ (Grow.alloc _ _) ⟨heap_alloc_new _ _, own_grow h12 (Grow.alloc _ _)⟩
      simp only [Act.put, List.setIfInBounds_toArray, List.set_cons_zero, List.set_cons_succ]
      refine WChain.last (wtail_of (by kernel_rfl)) (by kernel_rfl) (fun t W7 hw hN => ?_)
      obtain ⟨hrow, hown⟩ := hN.get 16 rfl (by rfl) (by kernel_rfl)
      generalize t 16 = s at *
      obtain ⟨A8, c8, g8⟩ := s
      simp only at hrow hown
      have F7 := Lib.hid (F6.out.grow hw.no); have G7 := Lib.hid (G6.out.trans hw.no)
      have HRW := Lib.hid hrow; have HOW := Lib.hid hown
      have hd8 : planD f.hand d = ⟨d.doc, d.rev, d.turn, bs7, -1, ok⟩ := by unfold planD; rw [HB7.out, HOK.out]
      have HD8 := Lib.hid hd8
      clear hN hg q6 z0 z1 z2 hw hrow hown hd8
      refine wpList_appD rfl (.tmp 95) (.tmp 107) rfl _ j l1 rfl (by have := F7.out.docs; rw [HLL.out] at this; exact this) (some ⟨g8, 0, none⟩) 1 1 [(⟨d.doc, d.rev, d.turn, bs7, -1, ok⟩, .slice A8 n7 c8)] rfl (lies_part HRW.out) (by simp [Value.oneCell']) (by omega) ?_
      intro A5 c5 w8 own8 gr8 fr8
      have hsz := hF.out.ltT
      have hP8 := F7.out.push (d := ⟨d.doc, d.rev, d.turn, bs7, -1, ok⟩) HOW.out (fun g hg hT => by have h1 := own_lt HOW.out g hg; have := F6.out.ltT g hT; omega) gr8 fr8 (by rw [HLL.out]; exact own8)
      have hpv : (Value.slice A1 j c1).ownBlock ≠ some p := fun e => row_apart (by have := F7.out.docs; exact this) F7.out.st (by decide) p e rfl
      have st8 := (gr8.wide (T := fun k => (Value.slice A1 j c1).ownBlock = some k) (fun _ h => h)).kept F7.out.st hpv
      have a6 := cell_of_row w8 p 6 _ _ (0, 0) st8
      have b6 := frozen_of_row w8 p 6 _ _ st8
      have gw8 : GrowS T1 W7 (w8.setCell ⟨p, 6, none⟩ (.slice A5 (j + 1) c5)) := (gr8.wide (T := T1) (fun k hk => F7.out.docsT k hk)).trans (GrowS.setCell (T := T1) w8 (p := ⟨p, 6, none⟩) F7.out.pT _)
      have GF := Lib.hid ((GR.out.trans (G7.out.wide T)).news gw8 hT1.out)
      have szr := GR.out.size
      have sz6 := G6.out.size
      have sz7 := G7.out.size
      have T8 : Hid (∀ k, (T1 k ∨ (Value.slice A5 (j + 1) c5).ownBlock = some k) → T k ∨ w.heap.size ≤ k) := fun k hk => hk.elim (hT1.out k) (fun e => fr8.elim (fun e2 => hT1.out k (F7.out.docsT k (e2 ▸ e))) (fun e2 => .inr (by have := e2 k e; omega)))
      have R8 : Hid (∀ k, (R2 k ∨ (Value.slice A8 n7 c8).ownBlock = some k) → R k ∨ w.heap.size ≤ k) := fun k hk => hk.elim (hR2.out k) (fun e => .inr (by have := own_lt HOW.out k e; omega))
      have P8 := Lib.hid (show FAt (w8.setCell ⟨p, 6, none⟩ (.slice A5 (j + 1) c5)) (fun k => T1 k ∨ (Value.slice A5 (j + 1) c5).ownBlock = some k) (fun k => R2 k ∨ (Value.slice A8 n7 c8).ownBlock = some k) p { f with frm := frm, op := op, rest := rest, docs := (cs.map (planD f.hand)).take (j + 1) } b (.slice A9 n c9) (.slice A5 (j + 1) c5) (l1 ++ [(⟨d.doc, d.rev, d.turn, bs7, -1, ok⟩, .slice A8 n7 c8)]) by rw [← HTK.out, HD8.out]; exact hP8)
      clear hP8 own8 gr8 fr8 st8 gw8
      go_wp2
      go_roundw
      case rel => exact ⟨j + 1, _, _, _, _, by omega, by go_num, P8, T8, R8, GF.out⟩
      case measure => simp [intOf]; omega
    · obtain rfl : j = m := by omega
      have e : (cs.map (planD f.hand)).take j = cs.map (planD f.hand) := List.take_of_length_le (by rw [List.length_map, HCN.out]; exact Nat.le_refl _)
      rw [e] at hF
      clear e
      go_wp2_with fail
      refine (news_any hF.out).mono ?_
      rintro e w9 ⟨rfl, h9, g9⟩
      have H9 := Lib.hid h9
      have GF := Lib.hid (GR.out.news (g9.mono (fun k e => (e ▸ hF.out.pT : T1 k))) hT1.out)
      clear h9 g9 hg
      go_wp2
      go_ret
      exact ⟨rfl, GF.out, T1, R2, ⟨b, _, V1, l1, H9.out⟩, hT1.out, hR2.out⟩
end Go.Proofs.Ytlnokohmmhmoaaa

