/-
  lazy: the contract of State.
-/
import Derived.Test.YtlnokohmmhmoaaaLPlanF
import Derived.Test.YtlnokohmmhmoaaaLCopy
namespace Go.Proofs.Ytlnokohmmhmoaaa
open Go.RowKit
set_option linter.unusedSimpArgs false

def ptOf (d : Dt) : Pt := ⟨d.doc, d.rev, d.turn, d.bs⟩
set_option maxRecDepth 100000 in
set_option maxHeartbeats 4000000 in
theorem state_not {T R : Nat → Prop} {p : Nat} {f : F} {w : World} (h : FIs w T R p f) (hd : doneF f = false) :
    Calls Try.prog 19 #[.pointer (some ⟨p, 0, none⟩)] w fun e w' => e = .returned (.tuple #[.agg #[.int .u64 0, .slice none 0 0, .slice none 0 0], .bool false]) ∧ Grow w w' := by
  have rb := heap_alloc_new w (.cells #[.int .u64 0, .slice none 0 0, .slice none 0 0] 26)
  have g1 := Grow.alloc w (.cells #[.int .u64 0, .slice none 0 0, .slice none 0 0] 26)
  obtain ⟨w1, hw1⟩ : ∃ w1, w.alloc (.cells #[.int .u64 0, .slice none 0 0, .slice none 0 0] 26) = w1 := ⟨_, rfl⟩
  rw [hw1] at rb g1
  have H1 := Lib.hid (h.grow g1); have RB := Lib.hid rb; have G1 := Lib.hid g1; have HW1 := Lib.hid hw1; have HD := Lib.hid hd
  clear h rb g1 hw1 hd
  go_enter Try.func19, Try.ntmps19
  go_wp2_with fail
  rw [HW1.out]
  refine (fdone_any H1.out).mono ?_
  rw [HD.out]
  rintro e w2 ⟨rfl, g2⟩
  have RB2 := Lib.hid (row_grow RB.out g2); have G2 := Lib.hid (G1.out.trans g2)
  clear g2
  go_upto_region 2 with fail
  have a0 : w2.cell? ⟨w.heap.size, 0, none⟩ = some (.int .u64 0) := cell_of_row w2 _ 0 _ _ (0, 0) RB2.out
  have b0 := frozen_of_row w2 _ 0 _ _ RB2.out
  have st1 := heap_setCell_same w2 w.heap.size 0 _ _ (.int .u64 0) RB2.out
  have a1 : (w2.setCell ⟨w.heap.size, 0, none⟩ (.int .u64 0)).cell? ⟨w.heap.size, 1, none⟩ = some (.slice none 0 0) := cell_of_row _ _ 1 _ _ (0, 0) st1
  have b1 := frozen_of_row _ _ 1 _ _ st1
  have st2 := heap_setCell_same _ w.heap.size 1 _ _ (.slice none 0 0) st1
  have a2 : ((w2.setCell ⟨w.heap.size, 0, none⟩ (.int .u64 0)).setCell ⟨w.heap.size, 1, none⟩ (.slice none 0 0)).cell? ⟨w.heap.size, 2, none⟩ = some (.slice none 0 0) := cell_of_row _ _ 2 _ _ (0, 0) st2
  have b2 := frozen_of_row _ _ 2 _ _ st2
  have st3 := heap_setCell_same _ w.heap.size 2 _ _ (.slice none 0 0) st2
  have ST3 := Lib.hid st3
  have gs := ((GrowS.setCell (T := fun k => k = w.heap.size) w2 (p := ⟨w.heap.size, 0, none⟩) rfl (.int .u64 0)).trans (GrowS.setCell (T := fun k => k = w.heap.size) _ (p := ⟨w.heap.size, 1, none⟩) rfl (.slice none 0 0))).trans (GrowS.setCell (T := fun k => k = w.heap.size) _ (p := ⟨w.heap.size, 2, none⟩) rfl (.slice none 0 0))
  have GS := Lib.hid (gs.over G2.out (fun k hk => by omega))
  clear st1 st2 st3 gs
  go_wp2
  refine bodyPost_ret (v := .tuple #[.agg #[.int .u64 0, .slice none 0 0, .slice none 0 0], .bool false]) (results_ct (p := 2) (u := 3) (ty := 26) rfl _ _ w.heap.size _ rfl (run_loadVar_row _ _ _ _ _ _ _ (by simpa using ST3.out) Try.underlying26 rfl (by kernel_rfl))) rfl ⟨rfl, GS.out⟩
theorem info_ptt : (Try.prog.info? 31).map (fun i => (i.zero, i.size, i.bytes)) = some (some (.agg #[.int .u32 0, .int .u64 0, .int .u64 0, .slice none 0 0]), 4, 48) := by kernel_rfl
theorem pcell_oc {x : Pt × Value} (h : x.2.oneCell' = true) : ∀ v ∈ pcell x, v.oneCell' = true := by
  intro v hv
  simp only [pcell, List.mem_cons, List.not_mem_nil, or_false] at hv
  rcases hv with rfl | rfl | rfl | rfl <;> first | rfl | exact h
theorem wpList_appPt {w : World} {ops : Array Oper} {rest : List Oper} {o : Oper} {a : Act} {Q : Exit → Act → World → Prop} (hgd : o.guard = none) (s x : Operand)
    (ho : o.op = .call { callee := .builtin .append, args := #[s, x], argTypes := #[24, 24] }) (base : Nat)
    (v : Value) (n : Nat) (l : List (Pt × Value)) (hs : a.eval s = v) (hown : w.ownsRow base 31 4 v n (l.flatMap pcell))
    (A : Option Addr) (m c : Nat) (r : List (Pt × Value)) (hx : a.eval x = .slice A m c) (hr : Lies w 4 A m c (r.flatMap pcell)) (hoc : ∀ x ∈ r, x.2.oneCell' = true) (hsum : (n + m) * 48 ≤ 140737488355328) (hbase : base ≤ w.heap.size)
    (h : ∀ (A' : Option Addr) (c' : Nat) (w' : World), w'.ownsRow base 31 4 (.slice A' (n + m) c') (n + m) ((l ++ r).flatMap pcell) → w.grownBy w' v.ownBlock →
      wpList Try.prog ops Q rest (a.put o.dst (.slice A' (n + m) c')) w') : wpList Try.prog ops Q (o :: rest) a w := by
  obtain ⟨i0, hi, hz0, hz1, hz2⟩ := info_parts info_ptt
  refine wpList_append_fresh w hgd s x _ ho base 31 i0 _ 4 48 Try.underlying24 hi hz0 hz1 hz2 rfl (by decide) v n _ hs hown A m c _ hx hr (flat_oc _ fun x hx => pcell_oc (hoc x hx)) (by simp only [maxLen]; omega) hsum hbase ?_
  intro v' w' h1 h2 _
  rw [← List.flatMap_append] at h1
  obtain ⟨A', c', rfl, h4⟩ := own_form h1
  exact h A' c' w' h1 h2
theorem lies_pt {w : World} {g : Nat} {e : TypeId} {x : Pt} {v : Value} (h : w.heap[g]? = some (.cells #[.int .u32 x.doc, .int .u64 x.rev, .int .u64 x.turn, v] e (0, 0))) : Lies w 4 (some ⟨g, 0, none⟩) 1 1 ([(x, v)].flatMap pcell) := by
  refine ⟨rfl, fun h => by (cases h), Nat.le_refl _, by decide, fun a ha j u hu => ?_⟩
  injection ha with ha
  subst ha
  rw [add_none, cell_of_row w g (0 + j) _ e (0, 0) h]
  have e : [(x, v)].flatMap pcell = [.int .u32 x.doc, .int .u64 x.rev, .int .u64 x.turn, v] := rfl
  rw [e] at hu
  simpa using hu
set_option maxRecDepth 100000 in
set_option maxHeartbeats 4000000 in
theorem state_ok {T R : Nat → Prop} {p : Nat} {f : F} {w : World} (h : FIs w T R p f) (hd : doneF f = true) (hr : f.rest.length ≤ 1000) (hn : f.docs.length ≤ 1000) (hb : ∀ d ∈ f.docs, d.bs.length ≤ 100000) :
    Calls Try.prog 19 #[.pointer (some ⟨p, 0, none⟩)] w fun e w' => ∃ A1 c1 B1 e1 l1, e = .returned (.tuple #[.agg #[.int .u64 f.op, .slice A1 f.rest.length c1, .slice B1 f.docs.length e1], .bool true]) ∧ w'.ownsRow w.heap.size 5 1 (.slice A1 f.rest.length c1) f.rest.length (byt f.rest) ∧ PsAt w' (fun k => w.heap.size ≤ k ∧ k < w'.heap.size) B1 f.docs.length e1 l1 ∧ l1.map (·.1) = f.docs.map ptOf ∧ Grow w w' := by
  have rb := heap_alloc_new w (.cells #[.int .u64 0, .slice none 0 0, .slice none 0 0] 26)
  have g1 := Grow.alloc w (.cells #[.int .u64 0, .slice none 0 0, .slice none 0 0] 26)
  obtain ⟨w1, hw1⟩ : ∃ w1, w.alloc (.cells #[.int .u64 0, .slice none 0 0, .slice none 0 0] 26) = w1 := ⟨_, rfl⟩
  rw [hw1] at rb g1
  obtain ⟨b, Rv, V, l, h⟩ := h
  obtain ⟨Ar, nr, cr, rfl, Lr, -⟩ := h.rest.lies
  obtain ⟨A6, c6', rfl, -⟩ := own_form h.docs
  have hrn : f.rest.length = nr := by have := Lr.len; rw [byt_len] at this; omega
  obtain ⟨m, hm⟩ : ∃ m, l.length = m := ⟨_, rfl⟩
  have hmd : f.docs.length = m := by rw [← h.map, List.length_map]; exact hm
  rw [hm] at h
  have hm1 : m ≤ 1000 := by omega
  have hr1 : nr ≤ 1000 := by omega
  have H0 := Lib.hid h
  have H1 := Lib.hid (h.grow g1); have RB := Lib.hid rb; have G1 := Lib.hid g1; have HW1 := Lib.hid hw1; have HD := Lib.hid hd; have HBL := Lib.hid hb
  have LR0 := Lib.hid Lr; have HM := Lib.hid hm; have HMD := Lib.hid hmd; have HRN := Lib.hid hrn
  clear h rb g1 hw1 hd hb Lr hm hmd hrn hn hr
  go_enter Try.func19, Try.ntmps19
  go_wp2_with fail
  rw [HW1.out]
  refine (fdone_any ⟨_, _, _, _, H1.out⟩).mono ?_
  rw [HD.out]
  rintro e w2 ⟨rfl, g2⟩
  have RB2 := Lib.hid (row_grow RB.out g2); have G2 := Lib.hid (G1.out.trans g2)
  have H2 := Lib.hid (H1.out.grow g2); have LR := Lib.hid (LR0.out.below (w' := w2) G2.out (Nat.le_refl _))
  clear g2
  go_upto_region 3 with fail
  have y4 : ∀ W, Grow w2 W → W.cell? ⟨p, 4, none⟩ = some (.int .u64 f.op) := fun W g => (H2.out.grow g).c 4
  have y5 : ∀ W, Grow w2 W → W.cell? ⟨p, 5, none⟩ = some (.slice Ar nr cr) := fun W g => (H2.out.grow g).c 5
  refine Chain.start (Option Addr × Nat × Nat) (by kernel_rfl) (by kernel_rfl) (fun hg => ?_)
  repeat (first | (refine Chain.skip hg (fun t => by rfl) ?_; simp only [Act.put, List.setIfInBounds_toArray, List.set_cons_zero, List.set_cons_succ]) | (refine Chain.pure hg (X := ?_) (fun t W hw hN => ⟨by rfl, ?_⟩) ?_; rotate_left; (focus (go_simp <;> with_reducible rfl)); simp only [Act.put, List.setIfInBounds_toArray, List.set_cons_zero, List.set_cons_succ]))
  refine Chain.grow hg (fun s => .slice s.1 nr s.2.1) (fun s W => W.ownsRow w.heap.size 5 1 (.slice s.1 nr s.2.1) nr (byt f.rest)) (fun _ _ _ h g => own_grow h g) (fun _ => by rfl) (fun t W hw hN K hK => ?_) ?_
  · go_simp
    refine (bclone_any (LR.out.below hw (Nat.le_refl _)) (by omega)).mono ?_
    rintro e w9 ⟨A', c', rfl, own9, g9⟩
    exact hK.out (A', c', 0) _ g9 (own9.mono (Nat.le_trans G2.out.size hw.size))
  simp only [Act.put, List.setIfInBounds_toArray, List.set_cons_zero, List.set_cons_succ]
  repeat (first | (refine Chain.skip hg (fun t => by rfl) ?_; simp only [Act.put, List.setIfInBounds_toArray, List.set_cons_zero, List.set_cons_succ]) | (refine Chain.pure hg (X := ?_) (fun t W hw hN => ⟨by rfl, ?_⟩) ?_; rotate_left; (focus (go_simp <;> with_reducible rfl)); simp only [Act.put, List.setIfInBounds_toArray, List.set_cons_zero, List.set_cons_succ]))
  refine Chain.grow hg (fun s => .pointer (some ⟨s.2.2, 0, none⟩)) (fun s W => W.heap[s.2.2]? = some (.cells #[.int .u64 0, .slice none 0 0, .slice none 0 0] 26 (0, 0)) ∧ w2.heap.size ≤ s.2.2) (fun _ _ _ h k => ⟨row_grow h.1 k, h.2⟩) (fun _ => by rfl) (fun t W hw hN K hK => ?_) ?_
  · go_simp; exact hK.out (none, 0, _) _ (Grow.alloc _ _) ⟨heap_alloc_new _ _, hw.size⟩
  simp only [Act.put, List.setIfInBounds_toArray, List.set_cons_zero, List.set_cons_succ]
  refine Chain.tail (tail_of (by kernel_rfl)) (fun t W hw hN => ?_)
  have h8 := hN.get 8 rfl (by kernel_rfl)
  obtain ⟨hrow, hgl⟩ := hN.get 10 rfl (by kernel_rfl)
  generalize t 8 = s8 at *
  generalize t 10 = s10 at *
  obtain ⟨A1, c1, z1⟩ := s8
  obtain ⟨z2, z3, g⟩ := s10
  simp only at h8 hrow hgl
  refine wpList_store_row rfl _ _ _ rfl g #[.int .u64 f.op, .slice A1 nr c1, .slice none 0 0] rfl rfl _ _ hrow (by kernel_rfl) rfl (by simp [Value.oneCell']) ?_
  have hrw := setRow_heap W g _ #[.int .u64 f.op, .slice A1 nr c1, .slice none 0 0] _ _ hrow
  have gg : Grow w2 (W.setRow g #[.int .u64 f.op, .slice A1 nr c1, .slice none 0 0]) := below_setRow hw hgl _
  have og : (W.setRow g #[.int .u64 f.op, .slice A1 nr c1, .slice none 0 0]).ownsRow w.heap.size 5 1 (.slice A1 nr c1) nr (byt f.rest) := (GrowS.setRow (T := fun k => k = g) W rfl _).own h8 (fun k hk e => row_apart h8 hrow (by decide) k hk e)
  generalize W.setRow g #[.int .u64 f.op, .slice A1 nr c1, .slice none 0 0] = w3 at *
  have H3 := Lib.hid (H2.out.grow gg); have RB3 := Lib.hid (row_grow RB2.out gg); have G3 := Lib.hid (G2.out.trans gg); have HRW := Lib.hid hrw; have OG := Lib.hid og
  have szw : w.heap.size < w2.heap.size := (Array.getElem?_eq_some_iff.1 RB2.out).1
  have HGL := Lib.hid (show w.heap.size < g by omega)
  clear hN hg y4 y5 hw h8 hrow hgl hrw gg og szw
  have c6 : w3.cell? ⟨p, 6, none⟩ = some (.slice A6 m c6') := H3.out.c 6
  go_wp2
  go_loopw [26] (fun i wr => ∃ (j : Nat) (B1 : Option Addr) (e1 : Nat) (l1 : List (Pt × Value)), j ≤ m ∧ i = .int .i64 j ∧ Hid (wr.heap[g]? = some (.cells #[.int .u64 f.op, .slice A1 nr c1, .slice B1 j e1] 26 (0, 0))) ∧ Hid (wr.ownsRow w.heap.size 31 4 (.slice B1 j e1) j (l1.flatMap pcell)) ∧ Hid (∀ x ∈ l1, wr.ownsRow w.heap.size 5 1 x.2 x.1.bs.length (byt x.1.bs)) ∧ Hid (l1.map (·.1) = (f.docs.map ptOf).take j) ∧ Hid (wr.ownsRow w.heap.size 5 1 (.slice A1 nr c1) nr (byt f.rest)) ∧ Hid (wr.heap[w.heap.size]? = some (.cells #[.int .u64 0, .slice none 0 0, .slice none 0 0] 26 (0, 0))) ∧ Grow w wr) (fun i _ => m - (intOf i).toNat)
  case atStart => exact ⟨0, none, 0, [], Nat.zero_le _, rfl, HRW, World.ownsRow_nil _ _ _ _, (fun x hx => by cases hx), rfl, OG, RB3, G3.out⟩
  case round =>
    obtain ⟨j, B1, e1, l1, hj, rfl, hM, hD, hE, hL1, hO, hR1, hg⟩ := hrel
    have GR := Lib.hid hg
    by_cases hlt : j < m
    · obtain ⟨⟨d, v⟩, hx⟩ : ∃ x, l[j]? = some x := ⟨_, List.getElem?_eq_getElem (by have := HM.out; omega)⟩
      obtain ⟨A7, k, c7, hv, L7, -⟩ := ((H0.out.grow GR.out).each _ (List.mem_of_getElem? hx)).lies
      simp only at hv L7
      subst hv
      have hk : d.bs.length = k := by have := L7.len; rw [byt_len] at this; omega
      have hdm : d ∈ f.docs := by rw [← H0.out.map]; exact List.mem_map_of_mem (f := (·.1)) (List.mem_of_getElem? hx)
      have hkb : k ≤ 100000 := by rw [← hk]; exact HBL.out d hdm
      have PR0 : Lies wr 6 A6 m c6' (l.flatMap dcell) := Lies.of_own (by have := (H0.out.grow GR.out).docs; rw [HM.out] at this; exact this)
      obtain ⟨bb, off, hA6, -, -⟩ := PR0.pos (by omega) (by decide)
      rw [hA6] at PR0
      have x0 := Lies.flat_cell (j := 0) dcell_len PR0 hx rfl
      have x1 := Lies.flat_cell (j := 1) dcell_len PR0 hx rfl
      have x2 := Lies.flat_cell (j := 2) dcell_len PR0 hx rfl
      have x3 := Lies.flat_cell (j := 3) dcell_len PR0 hx rfl
      have x4 := Lies.flat_cell (j := 4) dcell_len PR0 hx rfl
      have x5 := Lies.flat_cell (j := 5) dcell_len PR0 hx rfl
      simp only [Nat.add_zero] at x0
      have hpt : (f.docs.map ptOf).take j ++ [ptOf d] = (f.docs.map ptOf).take (j + 1) := by rw [List.take_add_one, List.getElem?_map, ← H0.out.map, List.getElem?_map, hx]; rfl
      have HTK := Lib.hid hpt; have HK := Lib.hid hk; have L7H := Lib.hid L7
      have HA6 := Lib.hid hA6
      simp only [hA6]
      clear hpt hk hdm L7 PR0 hx hg hA6
      go_upto_region 7 with fail
      have hbox := heap_alloc_new wr (.cells #[.int .u32 d.doc, .int .u64 d.rev, .int .u64 d.turn, .slice A7 k c7, .int .i64 d.total, .bool d.all] 73)
      have ga := Grow.alloc wr (.cells #[.int .u32 d.doc, .int .u64 d.rev, .int .u64 d.turn, .slice A7 k c7, .int .i64 d.total, .bool d.all] 73)
      generalize wr.alloc _ = wa at *
      have BX := Lib.hid hbox; have GA := Lib.hid ga
      clear hbox ga x0 x1 x2 x3 x4 x5
      have z0 : ∀ W, Grow wa W → W.cell? ⟨wr.heap.size, 0, none⟩ = some (.int .u32 d.doc) := fun W gw => cell_of_row W _ 0 _ _ (0, 0) (row_grow BX.out gw)
      have z1 : ∀ W, Grow wa W → W.cell? ⟨wr.heap.size, 1, none⟩ = some (.int .u64 d.rev) := fun W gw => cell_of_row W _ 1 _ _ (0, 0) (row_grow BX.out gw)
      have z2 : ∀ W, Grow wa W → W.cell? ⟨wr.heap.size, 2, none⟩ = some (.int .u64 d.turn) := fun W gw => cell_of_row W _ 2 _ _ (0, 0) (row_grow BX.out gw)
      have z3 : ∀ W, Grow wa W → W.cell? ⟨wr.heap.size, 3, none⟩ = some (.slice A7 k c7) := fun W gw => cell_of_row W _ 3 _ _ (0, 0) (row_grow BX.out gw)
      have zg : ∀ W, Grow wa W → W.cell? ⟨g, 2, none⟩ = some (.slice B1 j e1) := fun W gw => cell_of_row W _ 2 _ _ (0, 0) (row_grow (row_grow hM.out GA.out) gw)
      refine Chain.start (Option Addr × Nat × Nat) (by kernel_rfl) (by kernel_rfl) (fun hg => ?_)
      repeat (first | (refine Chain.skip hg (fun t => by rfl) ?_; simp only [Act.put, List.setIfInBounds_toArray, List.set_cons_zero, List.set_cons_succ]) | (refine Chain.pure hg (X := ?_) (fun t W hw hN => ⟨by rfl, ?_⟩) ?_; rotate_left; (focus (go_simp <;> with_reducible rfl)); simp only [Act.put, List.setIfInBounds_toArray, List.set_cons_zero, List.set_cons_succ]))
      refine Chain.grow hg (fun s => .slice s.1 k s.2.1) (fun s W => W.ownsRow w.heap.size 5 1 (.slice s.1 k s.2.1) k (byt d.bs)) (fun _ _ _ h g => own_grow h g) (fun _ => by rfl) (fun t W hw hN K hK => ?_) ?_
      · go_simp
        refine (bclone_any (L7H.out.below (GA.out.trans hw) (Nat.le_refl _)) (by omega)).mono ?_
        rintro e w9 ⟨A', c', rfl, own9, g9⟩
        exact hK.out (A', c', 0) _ g9 (own9.mono (Nat.le_trans GR.out.size (Nat.le_trans GA.out.size hw.size)))
      simp only [Act.put, List.setIfInBounds_toArray, List.set_cons_zero, List.set_cons_succ]
      iterate 1 (first | (refine Chain.skip hg (fun t => by rfl) ?_; simp only [Act.put, List.setIfInBounds_toArray, List.set_cons_zero, List.set_cons_succ]) | (refine Chain.pure hg (X := ?_) (fun t W hw hN => ⟨by rfl, ?_⟩) ?_; rotate_left; (focus (go_simp <;> with_reducible rfl)); simp only [Act.put, List.setIfInBounds_toArray, List.set_cons_zero, List.set_cons_succ]))
      refine Chain.grow hg (fun s => .slice (some ⟨s.2.2, 0, none⟩) 1 1) (fun s W => W.heap[s.2.2]? = some (.cells #[.int .u32 d.doc, .int .u64 d.rev, .int .u64 d.turn, .slice s.1 k s.2.1] 31 (0, 0)) ∧ W.ownsRow w.heap.size 5 1 (.slice s.1 k s.2.1) k (byt d.bs)) (fun _ _ _ h g => ⟨row_grow h.1 g, own_grow h.2 g⟩) (fun _ => by rfl) (fun t W hw hN K hK => ?_) ?_
      · have h14 := hN.get 14 rfl (by kernel_rfl)
        go_simp
        exact hK.out ((t 14).1, (t 14).2.1, _) _ (Grow.alloc _ _) ⟨heap_alloc_new _ _, own_grow h14 (Grow.alloc _ _)⟩
      simp only [Act.put, List.setIfInBounds_toArray, List.set_cons_zero, List.set_cons_succ]
      refine Chain.tail (tail_of (by kernel_rfl)) (fun t W hw hN => ?_)
      obtain ⟨h16, o16⟩ := hN.get 16 rfl (by kernel_rfl)
      generalize t 16 = s at *
      obtain ⟨A9, c9, g9⟩ := s
      simp only at h16 o16
      have GW := Lib.hid (GA.out.trans hw); have O16 := Lib.hid o16; have H16 := Lib.hid h16
      clear hN hg hw h16 o16 z0 z1 z2 z3 zg
      refine wpList_appPt rfl (.tmp 31) (.tmp 46) rfl w.heap.size _ j l1 rfl (own_grow hD.out GW.out) (some ⟨g9, 0, none⟩) 1 1 [(ptOf d, .slice A9 k c9)] rfl (lies_pt (x := ptOf d) H16.out) (by intro x hx; simp at hx; subst hx; rfl) (by omega) (by have := GR.out.size; have := GW.out.size; omega) ?_
      intro B2 e2 w5 own5 gr5
      simp only [Act.put, List.setIfInBounds_toArray, List.set_cons_zero, List.set_cons_succ]
      have gV : GrowS (fun k => (Value.slice B1 j e1).ownBlock = some k) wr w5 := (GW.out.wide _).trans (gr5.wide (fun _ h => h))
      have m5 := gV.kept hM.out (fun e => row_apart hD.out hM.out (by decide) g e rfl)
      have r5 := gV.kept hR1.out (fun e => row_apart hD.out hR1.out (by decide) _ e rfl)
      have o5 : w5.ownsRow w.heap.size 5 1 (.slice A1 nr c1) nr (byt f.rest) := gV.own hO.out (fun k hk e => types_apart hO.out hD.out (by decide) k hk e)
      have e5 : ∀ x ∈ l1 ++ [(ptOf d, Value.slice A9 k c9)], w5.ownsRow w.heap.size 5 1 x.2 x.1.bs.length (byt x.1.bs) := fun x hx => by
        rcases List.mem_append.1 hx with hx | hx
        · exact gV.own (hE.out x hx) (fun k hk e => types_apart (hE.out x hx) hD.out (by decide) k hk e)
        · simp at hx; subst hx
          have := (gr5.wide (T := fun k => (Value.slice B1 j e1).ownBlock = some k) (fun _ h => h)).own O16.out (fun k hk e => types_apart O16.out (own_grow hD.out GW.out) (by decide) k hk e)
          simp only [ptOf]; rw [HK.out]; exact this
      have k5 : w5.cell? ⟨g, 2, none⟩ = some (.slice B1 j e1) := cell_of_row w5 g 2 _ _ (0, 0) m5
      have f5 := frozen_of_row w5 g 2 _ _ m5
      have m6 := heap_setCell_same w5 g 2 _ _ (.slice B2 (j + 1) e2) m5
      have gp : GrowS (fun k => k = g) w5 (w5.setCell ⟨g, 2, none⟩ (.slice B2 (j + 1) e2)) := GrowS.setCell (T := fun k => k = g) w5 (p := ⟨g, 2, none⟩) rfl _
      have M6 := Lib.hid (show (w5.setCell ⟨g, 2, none⟩ (.slice B2 (j + 1) e2)).heap[g]? = some (.cells #[.int .u64 f.op, .slice A1 nr c1, .slice B2 (j + 1) e2] 26 (0, 0)) by simpa using m6)
      have R6 := Lib.hid (gp.kept r5 (by have := HGL.out; omega))
      have O6 := Lib.hid (gp.own o5 (fun k hk e => row_apart o5 m5 (by decide) k hk e))
      have E6 := Lib.hid (show ∀ x ∈ l1 ++ [(ptOf d, Value.slice A9 k c9)], (w5.setCell ⟨g, 2, none⟩ (.slice B2 (j + 1) e2)).ownsRow w.heap.size 5 1 x.2 x.1.bs.length (byt x.1.bs) from fun x hx => gp.own (e5 x hx) (fun k hk e => row_apart (e5 x hx) m5 (by decide) k hk e))
      have D6 := Lib.hid (gp.own own5 (fun k hk e => row_apart own5 m5 (by decide) k hk e))
      have G6 := Lib.hid (((gV.mono (T' := fun k => w.heap.size ≤ k) (fun k e => own_lt hD.out k e)).trans (gp.mono (fun k e => by have := HGL.out; omega))).over GR.out (fun k hk => hk))
      have L6 := Lib.hid (show (l1 ++ [(ptOf d, Value.slice A9 k c9)]).map (·.1) = (f.docs.map ptOf).take (j + 1) by rw [List.map_append, hL1.out, ← HTK.out]; rfl)
      clear own5 gr5 gV m5 r5 o5 e5 m6 gp
      go_wp2
      go_roundw
      case rel => exact ⟨j + 1, B2, e2, _, by omega, by go_num, M6, D6, E6, L6, O6, R6, G6.out⟩
      case measure => simp [intOf]; omega
    · obtain rfl : j = m := by omega
      have et : (f.docs.map ptOf).take j = f.docs.map ptOf := List.take_of_length_le (by rw [List.length_map, HMD.out]; exact Nat.le_refl _)
      rw [et] at hL1
      clear et hg
      go_upto_region 9 with fail

      go_wp2_with (
        refine wpList_load_row rfl _ _ rfl g rfl _ _ _ _ hM.out Try.underlying26 rfl (by kernel_rfl) ?_
        refine wpList_store_row rfl _ _ _ rfl w.heap.size #[.int .u64 f.op, .slice A1 nr c1, .slice B1 j e1] rfl rfl _ _ hR1.out (by kernel_rfl) rfl (by simp [Value.oneCell']) ?_
        have hrw := setRow_heap wr w.heap.size _ #[.int .u64 f.op, .slice A1 nr c1, .slice B1 j e1] _ _ hR1.out
        have g3 := GrowS.setRow (T := fun i => i = w.heap.size) wr rfl #[.int .u64 f.op, .slice A1 nr c1, .slice B1 j e1]
        have D7 := g3.own hD.out (fun k hk e => row_apart hD.out hR1.out (by decide) k hk e)
        have E7 := fun x hx => g3.own (hE.out x hx) (fun k hk e => row_apart (hE.out x hx) hR1.out (by decide) k hk e)
        go_wp2
        refine bodyPost_ret (v := .tuple #[.agg #[.int .u64 f.op, .slice A1 nr c1, .slice B1 j e1], .bool true]) (results_ct (p := 2) (u := 3) (ty := 26) rfl _ _ w.heap.size _ rfl (run_loadVar_row _ _ _ _ _ _ _ hrw Try.underlying26 rfl (by kernel_rfl))) rfl (by
          rw [HRN.out, HMD.out]
          exact ⟨A1, c1, B1, e1, l1, rfl, g3.own hO.out (fun k hk e => row_apart hO.out hR1.out (by decide) k hk e), ⟨Lies.of_own D7, fun a ha h0 => D7.lt a.block (by rw [ha]; rfl), fun x hx => BytesAt.own (E7 x hx) (fun q hq => (E7 x hx).lt q hq)⟩, hL1.out, g3.over GR.out (fun k hk => by omega)⟩))
end Go.Proofs.Ytlnokohmmhmoaaa

