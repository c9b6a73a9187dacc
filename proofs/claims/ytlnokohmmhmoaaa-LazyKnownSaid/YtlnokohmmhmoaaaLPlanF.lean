/-
  lazy: the contract of the function Plan.
-/
import Derived.Test.YtlnokohmmhmoaaaLPlan
namespace Go.Proofs.Ytlnokohmmhmoaaa
open Go.RowKit
set_option linter.unusedSimpArgs false

theorem results_ct {fn : Func} {p u : Tmp} {ty : TypeId} (h : fn.results = #[.cell p ty, .tmp u]) (tmps : Array Value) {P : Program} (w : World) (g : Nat) (cs : Array Value)
    (hp : tmps.getD p undef = .pointer (some ⟨g, 0, none⟩)) (hl : (loadVar ty ⟨g, 0, none⟩).run P w = .ok (.agg cs) w) :
    (results fn tmps).run P w = .ok (.tuple #[.agg cs, tmps.getD u undef]) w := by
  rw [results_cell_tmp h, hp]
  simp [asAddr, hl]
theorem info_doc : (Try.prog.info? 76).map (fun i => (i.zero, i.size, i.bytes)) = some (some (.agg #[.int .u32 0, .int .u64 0, .int .u64 0]), 3, 24) := by kernel_rfl
theorem ccell_oc (x : Dc) : ∀ v ∈ ccell x, v.oneCell' = true := by
  intro v hv
  simp only [ccell, List.mem_cons, List.not_mem_nil, or_false] at hv
  rcases hv with rfl | rfl | rfl <;> rfl
theorem wpList_appDc {w : World} {ops : Array Oper} {rest : List Oper} {o : Oper} {a : Act} {Q : Exit → Act → World → Prop} (hgd : o.guard = none) (s x : Operand)
    (ho : o.op = .call { callee := .builtin .append, args := #[s, x], argTypes := #[40, 40] }) (base : Nat)
    (v : Value) (n : Nat) (l : List Dc) (hs : a.eval s = v) (hown : w.ownsRow base 76 3 v n (l.flatMap ccell))
    (A : Option Addr) (m c : Nat) (r : List Dc) (hx : a.eval x = .slice A m c) (hr : Lies w 3 A m c (r.flatMap ccell)) (hsum : (n + m) * 24 ≤ 140737488355328) (hbase : base ≤ w.heap.size)
    (h : ∀ (A' : Option Addr) (c' : Nat) (w' : World), w'.ownsRow base 76 3 (.slice A' (n + m) c') (n + m) ((l ++ r).flatMap ccell) → w.grownBy w' v.ownBlock →
      wpList Try.prog ops Q rest (a.put o.dst (.slice A' (n + m) c')) w') : wpList Try.prog ops Q (o :: rest) a w := by
  obtain ⟨i0, hi, hz0, hz1, hz2⟩ := info_parts info_doc
  refine wpList_append_fresh w hgd s x _ ho base 76 i0 _ 3 24 Try.underlying40 hi hz0 hz1 hz2 rfl (by decide) v n _ hs hown A m c _ hx hr (flat_oc _ fun x _ => ccell_oc x) (by simp only [maxLen]; omega) hsum hbase ?_
  intro v' w' h1 h2 _
  rw [← List.flatMap_append] at h1
  obtain ⟨A', c', rfl, h4⟩ := own_form h1
  exact h A' c' w' h1 h2
def dcOf (x : Pt) : Dc := ⟨x.doc, x.rev, x.turn⟩
theorem lies_dc {w : World} {e : TypeId} {g : Nat} (d : Dc) (hg : g = w.heap.size) : Lies (w.alloc (.cells #[.int .u32 d.doc, .int .u64 d.rev, .int .u64 d.turn] e)) 3 (some ⟨g, 0, none⟩) 1 1 ([d].flatMap ccell) := by
  subst hg
  exact Lies.new w e #[.int .u32 d.doc, .int .u64 d.rev, .int .u64 d.turn] 1 1 (Nat.le_refl _) (by decide) rfl
set_option maxRecDepth 100000 in
set_option maxHeartbeats 4000000 in
theorem planf_ok {me : Int} {op : Nat} {A B : Option Addr} {n c m e0 : Nat} {rest : List Nat} {l : List (Pt × Value)} {R0 : Nat → Prop} {w : World} (h0 : 0 ≤ me) (h7 : me < 7) (hL : Lies w 1 A n c (byt rest)) (hP : PsAt w R0 B m e0 l) (hr : Rises (l.map (·.1))) (hn : n ≤ 1000) (hm : m ≤ 32) :
    Calls Try.prog 14 #[.int .i64 me, .agg #[.int .u64 op, .slice A n c, .slice B m e0]] w fun e w' => ∃ A1 c1 B1 e1, e = .returned (.tuple #[.agg #[.int .i64 15, .int .u64 0, .int .i64 me, .int .u32 0, .int .u64 0, .int .u64 0, .int .u64 op, .int .u64 0, .int .u64 0, .int .u64 0, .int .u64 0, .int .u32 0, .int .u64 0, .slice none 0 0, .int .u32 0, .int .i64 0, .int .i64 0, .bool false, .slice A1 n c1, .slice B1 m e1], .int .i64 0]) ∧ w'.ownsRow w.heap.size 5 1 (.slice A1 n c1) n (byt rest) ∧ w'.ownsRow w.heap.size 76 3 (.slice B1 m e1) m ((l.map fun x => dcOf x.1).flatMap ccell) ∧ Grow w w' := by
  have hln := Lies.flat_n pcell_len (by decide) hP.row
  have hle := hP.row.le
  have sb := heap_alloc2_old w (.cells #[.int .u64 op, .slice A n c, .slice B m e0] 26) (.cells #[.int .i64 0, .int .u64 0, .int .i64 0, .int .u32 0, .int .u64 0, .int .u64 0, .int .u64 0, .int .u64 0, .int .u64 0, .int .u64 0, .int .u64 0, .int .u32 0, .int .u64 0, .slice none 0 0, .int .u32 0, .int .i64 0, .int .i64 0, .bool false, .slice none 0 0, .slice none 0 0] 42)
  have rb := heap_alloc2_new w (.cells #[.int .u64 op, .slice A n c, .slice B m e0] 26) (.cells #[.int .i64 0, .int .u64 0, .int .i64 0, .int .u32 0, .int .u64 0, .int .u64 0, .int .u64 0, .int .u64 0, .int .u64 0, .int .u64 0, .int .u64 0, .int .u32 0, .int .u64 0, .slice none 0 0, .int .u32 0, .int .i64 0, .int .i64 0, .bool false, .slice none 0 0, .slice none 0 0] 42)
  obtain ⟨w1, hw1⟩ : ∃ w1, (w.alloc (.cells #[.int .u64 op, .slice A n c, .slice B m e0] 26)).alloc (.cells #[.int .i64 0, .int .u64 0, .int .i64 0, .int .u32 0, .int .u64 0, .int .u64 0, .int .u64 0, .int .u64 0, .int .u64 0, .int .u64 0, .int .u64 0, .int .u32 0, .int .u64 0, .slice none 0 0, .int .u32 0, .int .i64 0, .int .i64 0, .bool false, .slice none 0 0, .slice none 0 0] 42) = w1 := ⟨_, rfl⟩
  have g1 : Grow w w1 := hw1 ▸ (Grow.alloc w _).trans (Grow.alloc _ _)
  rw [hw1] at sb rb
  have SB := Lib.hid sb; have RB := Lib.hid rb; have G1 := Lib.hid g1; have HW1 := Lib.hid hw1; have HL := Lib.hid hL; have HP := Lib.hid hP; have HR := Lib.hid hr; have HLN := Lib.hid hln
  have SZ1 := Lib.hid (show w.heap.size + 2 ≤ w1.heap.size by have := (Array.getElem?_eq_some_iff.1 rb).1; omega)
  clear sb rb g1 hw1 hL hP hr hln
  go_enter Try.func14, Try.ntmps14
  go_wp2_with fail
  rw [HW1.out]
  have k2 : w1.cell? ⟨w.heap.size, 2, none⟩ = some (.slice B m e0) := cell_of_row w1 _ 2 _ _ (0, 0) SB.out
  have dm : decide ((m : Int) > 32) = false := by simp; omega
  have dm2 : decide (32 < m) = false := by simp; omega
  refine (node_ok h0 h7).mono ?_
  rintro e w2 ⟨rfl, rfl⟩
  go_wp2_with fail
  refine (rise_ps (HP.out.grow G1.out) HR.out).mono ?_
  rintro e w2 ⟨rfl, g2⟩
  have SB2 := Lib.hid (row_grow SB.out g2); have RB2 := Lib.hid (row_grow RB.out g2); have G2 := Lib.hid (G1.out.trans g2); have SZ2 := Lib.hid (Nat.le_trans SZ1.out g2.size)
  clear g2 k2
  go_upto_region 3 with fail
  have y0 : ∀ W, Grow w2 W → W.cell? ⟨w.heap.size, 0, none⟩ = some (.int .u64 op) := fun W g => cell_of_row W _ 0 _ _ (0, 0) (row_grow SB2.out g)
  have y1 : ∀ W, Grow w2 W → W.cell? ⟨w.heap.size, 1, none⟩ = some (.slice A n c) := fun W g => cell_of_row W _ 1 _ _ (0, 0) (row_grow SB2.out g)
  refine Chain.start (Option Addr × Nat × Nat) (by kernel_rfl) (by kernel_rfl) (fun hg => ?_)
  repeat (first | (refine Chain.skip hg (fun t => by rfl) ?_; simp only [Act.put, List.setIfInBounds_toArray, List.set_cons_zero, List.set_cons_succ]) | (refine Chain.pure hg (X := ?_) (fun t W hw hN => ⟨by rfl, ?_⟩) ?_; rotate_left; (focus (go_simp <;> with_reducible rfl)); simp only [Act.put, List.setIfInBounds_toArray, List.set_cons_zero, List.set_cons_succ]))
  refine Chain.grow hg (fun s => .slice s.1 n s.2.1) (fun s W => W.ownsRow w.heap.size 5 1 (.slice s.1 n s.2.1) n (byt rest)) (fun _ _ _ h g => own_grow h g) (fun _ => by rfl) (fun t W hw hN K hK => ?_) ?_
  · go_simp
    refine (bclone_any (HL.out.below (G2.out.trans hw) (Nat.le_refl _)) (by omega)).mono ?_
    rintro e w9 ⟨A', c', rfl, own9, g9⟩
    exact hK.out (A', c', 0) _ g9 (own9.mono (Nat.le_trans G2.out.size hw.size))
  simp only [Act.put, List.setIfInBounds_toArray, List.set_cons_zero, List.set_cons_succ]
  repeat (first | (refine Chain.skip hg (fun t => by rfl) ?_; simp only [Act.put, List.setIfInBounds_toArray, List.set_cons_zero, List.set_cons_succ]) | (refine Chain.pure hg (X := ?_) (fun t W hw hN => ⟨by rfl, ?_⟩) ?_; rotate_left; (focus (go_simp <;> with_reducible rfl)); simp only [Act.put, List.setIfInBounds_toArray, List.set_cons_zero, List.set_cons_succ]))
  refine Chain.grow hg (fun s => .pointer (some ⟨s.2.2, 0, none⟩)) (fun s W => W.heap[s.2.2]? = some (.cells #[.int .i64 0, .int .u64 0, .int .i64 0, .int .u32 0, .int .u64 0, .int .u64 0, .int .u64 0, .int .u64 0, .int .u64 0, .int .u64 0, .int .u64 0, .int .u32 0, .int .u64 0, .slice none 0 0, .int .u32 0, .int .i64 0, .int .i64 0, .bool false, .slice none 0 0, .slice none 0 0] 42 (0, 0)) ∧ w2.heap.size ≤ s.2.2) (fun _ _ _ h k => ⟨row_grow h.1 k, h.2⟩) (fun _ => by rfl) (fun t W hw hN K hK => ?_) ?_
  · go_simp; exact hK.out (none, 0, _) _ (Grow.alloc _ _) ⟨heap_alloc_new _ _, hw.size⟩
  simp only [Act.put, List.setIfInBounds_toArray, List.set_cons_zero, List.set_cons_succ]
  refine Chain.tail (tail_of (by kernel_rfl)) (fun t W hw hN => ?_)
  have h5 := hN.get 5 rfl (by kernel_rfl)
  obtain ⟨hrow, hgl⟩ := hN.get 7 rfl (by kernel_rfl)
  generalize t 5 = s5 at *
  generalize t 7 = s7 at *
  obtain ⟨A1, c1, z1⟩ := s5
  obtain ⟨z2, z3, g⟩ := s7
  simp only at h5 hrow hgl
  refine wpList_store_row rfl _ _ _ rfl g #[.int .i64 15, .int .u64 0, .int .i64 me, .int .u32 0, .int .u64 0, .int .u64 0, .int .u64 op, .int .u64 0, .int .u64 0, .int .u64 0, .int .u64 0, .int .u32 0, .int .u64 0, .slice none 0 0, .int .u32 0, .int .i64 0, .int .i64 0, .bool false, .slice A1 n c1, .slice none 0 0] rfl rfl _ _ hrow (by kernel_rfl) rfl msg_oc ?_
  have hrw := setRow_heap W g _ #[.int .i64 15, .int .u64 0, .int .i64 me, .int .u32 0, .int .u64 0, .int .u64 0, .int .u64 op, .int .u64 0, .int .u64 0, .int .u64 0, .int .u64 0, .int .u32 0, .int .u64 0, .slice none 0 0, .int .u32 0, .int .i64 0, .int .i64 0, .bool false, .slice A1 n c1, .slice none 0 0] _ _ hrow
  have gg : Grow w2 (W.setRow g #[.int .i64 15, .int .u64 0, .int .i64 me, .int .u32 0, .int .u64 0, .int .u64 0, .int .u64 op, .int .u64 0, .int .u64 0, .int .u64 0, .int .u64 0, .int .u32 0, .int .u64 0, .slice none 0 0, .int .u32 0, .int .i64 0, .int .i64 0, .bool false, .slice A1 n c1, .slice none 0 0]) := below_setRow hw hgl _
  have og : (W.setRow g #[.int .i64 15, .int .u64 0, .int .i64 me, .int .u32 0, .int .u64 0, .int .u64 0, .int .u64 op, .int .u64 0, .int .u64 0, .int .u64 0, .int .u64 0, .int .u32 0, .int .u64 0, .slice none 0 0, .int .u32 0, .int .i64 0, .int .i64 0, .bool false, .slice A1 n c1, .slice none 0 0]).ownsRow w.heap.size 5 1 (.slice A1 n c1) n (byt rest) := (GrowS.setRow (T := fun k => k = g) W rfl _).own h5 (fun k hk e => row_apart h5 hrow (by decide) k hk e)
  generalize W.setRow g #[.int .i64 15, .int .u64 0, .int .i64 me, .int .u32 0, .int .u64 0, .int .u64 0, .int .u64 op, .int .u64 0, .int .u64 0, .int .u64 0, .int .u64 0, .int .u32 0, .int .u64 0, .slice none 0 0, .int .u32 0, .int .i64 0, .int .i64 0, .bool false, .slice A1 n c1, .slice none 0 0] = w3 at *
  have SB3 := Lib.hid (row_grow SB2.out gg); have RB3 := Lib.hid (row_grow RB2.out gg); have G3 := Lib.hid (G2.out.trans gg); have HRW := Lib.hid hrw; have OG := Lib.hid og
  have SZ3 := Lib.hid (Nat.le_trans SZ2.out gg.size)
  have HGL := Lib.hid (Nat.le_trans SZ2.out hgl)
  clear hN hg y0 y1 hw h5 hrow hgl hrw gg og
  have k2 : w3.cell? ⟨w.heap.size, 2, none⟩ = some (.slice B m e0) := cell_of_row w3 _ 2 _ _ (0, 0) SB3.out
  go_wp2
  go_loopw [35] (fun i wr => ∃ (j : Nat) (B1 : Option Addr) (e1 : Nat), j ≤ m ∧ i = .int .i64 j ∧ Hid (wr.heap[g]? = some (.cells #[.int .i64 15, .int .u64 0, .int .i64 me, .int .u32 0, .int .u64 0, .int .u64 0, .int .u64 op, .int .u64 0, .int .u64 0, .int .u64 0, .int .u64 0, .int .u32 0, .int .u64 0, .slice none 0 0, .int .u32 0, .int .i64 0, .int .i64 0, .bool false, .slice A1 n c1, .slice B1 j e1] 42 (0, 0))) ∧ Hid (wr.ownsRow w.heap.size 76 3 (.slice B1 j e1) j (((l.map fun x => dcOf x.1).take j).flatMap ccell)) ∧ Hid (wr.ownsRow w.heap.size 5 1 (.slice A1 n c1) n (byt rest)) ∧ Hid (wr.heap[w.heap.size + 1]? = some (.cells #[.int .i64 0, .int .u64 0, .int .i64 0, .int .u32 0, .int .u64 0, .int .u64 0, .int .u64 0, .int .u64 0, .int .u64 0, .int .u64 0, .int .u64 0, .int .u32 0, .int .u64 0, .slice none 0 0, .int .u32 0, .int .i64 0, .int .i64 0, .bool false, .slice none 0 0, .slice none 0 0] 42 (0, 0))) ∧ Grow w wr) (fun i _ => m - (intOf i).toNat)
  case atStart => exact ⟨0, none, 0, Nat.zero_le _, rfl, HRW, World.ownsRow_nil _ _ _ _, OG, RB3, G3.out⟩
  case round =>
    obtain ⟨j, B1, e1, hj, rfl, hM, hD, hO, hR1, hg⟩ := hrel
    have GR := Lib.hid hg
    by_cases hlt : j < m
    · obtain ⟨⟨x, v⟩, hx⟩ : ∃ x, l[j]? = some x := ⟨_, List.getElem?_eq_getElem (by have := HLN.out; omega)⟩
      obtain ⟨A7, m7, c7, hv, -, -⟩ := (HP.out.each _ (List.mem_of_getElem? hx)).lies
      simp only at hv
      subst hv
      obtain ⟨bb, off, rfl, -, -⟩ := HP.out.row.pos (by omega) (by decide)
      have PR := HP.out.grow GR.out
      have x0 := Lies.flat_cell (j := 0) pcell_len PR.row hx rfl
      have x1 := Lies.flat_cell (j := 1) pcell_len PR.row hx rfl
      have x2 := Lies.flat_cell (j := 2) pcell_len PR.row hx rfl
      have x3 := Lies.flat_cell (j := 3) pcell_len PR.row hx rfl
      simp only [Nat.add_zero] at x0
      have HTK := Lib.hid (show ((l.map fun x => dcOf x.1).take j) ++ [dcOf x] = (l.map fun x => dcOf x.1).take (j + 1) by rw [List.take_add_one, List.getElem?_map, hx]; rfl)
      have ga : Grow wr (wr.alloc (.cells #[.int .u32 x.doc, .int .u64 x.rev, .int .u64 x.turn, .slice A7 m7 c7] 31)) := Grow.alloc _ _
      have k19 := cell_of_row _ g 19 _ _ (0, 0) (row_grow hM.out ga)
      have GAA := Lib.hid ga
      clear hx PR hg ga
      go_wp2_with (
        at_builtin
        refine wpList_appDc rfl (.tmp 40) (.tmp 48) rfl w.heap.size _ j ((l.map fun x => dcOf x.1).take j) rfl (own_grow (own_grow hD.out GAA.out) (Grow.alloc _ _)) (some ⟨_, 0, none⟩) 1 1 [dcOf x] rfl (lies_dc (dcOf x) (by simp)) (by omega) (by have := GR.out.size; simp; omega) ?_
        intro B2 e2 w5 own5 gr5
        have gA : Grow wr ((wr.alloc (.cells #[.int .u32 x.doc, .int .u64 x.rev, .int .u64 x.turn, .slice A7 m7 c7] 31)).alloc (.cells #[.int .u32 x.doc, .int .u64 x.rev, .int .u64 x.turn] 76)) := GAA.out.trans (Grow.alloc _ _)
        rw [HTK.out] at own5
        have gV : GrowS (fun k => (Value.slice B1 j e1).ownBlock = some k) wr w5 := (gA.wide _).trans (gr5.wide (fun _ h => h))
        have m5 := gV.kept hM.out (fun e => row_apart hD.out hM.out (by decide) g e rfl)
        have r5 := gV.kept hR1.out (fun e => row_apart hD.out hR1.out (by decide) _ e rfl)
        have o5 : w5.ownsRow w.heap.size 5 1 (.slice A1 n c1) n (byt rest) := gV.own hO.out (fun k hk e => types_apart hO.out hD.out (by decide) k hk e)
        have k5 := cell_of_row w5 g 19 _ _ (0, 0) m5
        have f5 := frozen_of_row w5 g 19 _ _ m5
        have m6 := heap_setCell_same w5 g 19 _ _ (.slice B2 (j + 1) e2) m5
        have gp : GrowS (fun k => k = g) w5 (w5.setCell ⟨g, 19, none⟩ (.slice B2 (j + 1) e2)) := GrowS.setCell (T := fun k => k = g) w5 (p := ⟨g, 19, none⟩) rfl _
        have M6 := Lib.hid (show (w5.setCell ⟨g, 19, none⟩ (.slice B2 (j + 1) e2)).heap[g]? = some (.cells #[.int .i64 15, .int .u64 0, .int .i64 me, .int .u32 0, .int .u64 0, .int .u64 0, .int .u64 op, .int .u64 0, .int .u64 0, .int .u64 0, .int .u64 0, .int .u32 0, .int .u64 0, .slice none 0 0, .int .u32 0, .int .i64 0, .int .i64 0, .bool false, .slice A1 n c1, .slice B2 (j + 1) e2] 42 (0, 0)) by simpa using m6)
        have R6 := Lib.hid (gp.kept r5 (by have := HGL.out; omega))
        have O6 := Lib.hid (gp.own o5 (fun k hk e => row_apart o5 m5 (by decide) k hk e))
        have D6 := Lib.hid (gp.own own5 (fun k hk e => row_apart own5 m5 (by decide) k hk e))
        have G6 := Lib.hid (((gV.mono (T' := fun k => w.heap.size ≤ k) (fun k e => own_lt hD.out k e)).trans (gp.mono (fun k e => by have := HGL.out; omega))).over GR.out (fun k hk => hk))
        clear own5 gr5 gA gV m5 r5 o5 m6 gp x0 x1 x2 x3 k19
        go_wp2
        go_roundw
        case rel => exact ⟨j + 1, B2, e2, by omega, by go_num, M6, D6, O6, R6, G6.out⟩
        case measure => simp [intOf]; omega)
    · obtain rfl : j = m := by omega
      have e : (l.map fun x => dcOf x.1).take j = l.map fun x => dcOf x.1 := List.take_of_length_le (by rw [List.length_map, HLN.out]; exact Nat.le_refl _)
      rw [e] at hD
      clear e hg
      go_upto_region 9 with fail
      go_wp2_with (
        refine wpList_load_row rfl _ _ rfl g rfl _ _ _ _ hM.out Try.underlying42 rfl (by kernel_rfl) ?_
        refine wpList_store_row rfl _ _ _ rfl (w.heap.size + 1) #[.int .i64 15, .int .u64 0, .int .i64 me, .int .u32 0, .int .u64 0, .int .u64 0, .int .u64 op, .int .u64 0, .int .u64 0, .int .u64 0, .int .u64 0, .int .u32 0, .int .u64 0, .slice none 0 0, .int .u32 0, .int .i64 0, .int .i64 0, .bool false, .slice A1 n c1, .slice B1 j e1] rfl rfl _ _ hR1.out (by kernel_rfl) rfl msg_oc ?_
        have hrw := setRow_heap wr (w.heap.size + 1) _ #[.int .i64 15, .int .u64 0, .int .i64 me, .int .u32 0, .int .u64 0, .int .u64 0, .int .u64 op, .int .u64 0, .int .u64 0, .int .u64 0, .int .u64 0, .int .u32 0, .int .u64 0, .slice none 0 0, .int .u32 0, .int .i64 0, .int .i64 0, .bool false, .slice A1 n c1, .slice B1 j e1] _ _ hR1.out
        have g3 := GrowS.setRow (T := fun i => i = w.heap.size + 1) wr rfl #[.int .i64 15, .int .u64 0, .int .i64 me, .int .u32 0, .int .u64 0, .int .u64 0, .int .u64 op, .int .u64 0, .int .u64 0, .int .u64 0, .int .u64 0, .int .u32 0, .int .u64 0, .slice none 0 0, .int .u32 0, .int .i64 0, .int .i64 0, .bool false, .slice A1 n c1, .slice B1 j e1]
        go_wp2
        refine bodyPost_ret (v := .tuple #[.agg #[.int .i64 15, .int .u64 0, .int .i64 me, .int .u32 0, .int .u64 0, .int .u64 0, .int .u64 op, .int .u64 0, .int .u64 0, .int .u64 0, .int .u64 0, .int .u32 0, .int .u64 0, .slice none 0 0, .int .u32 0, .int .i64 0, .int .i64 0, .bool false, .slice A1 n c1, .slice B1 j e1], .int .i64 0]) (results_ct (p := 4) (u := 5) (ty := 42) rfl _ _ (w.heap.size + 1) _ rfl (run_loadVar_row _ _ _ _ _ _ _ hrw Try.underlying42 rfl (by kernel_rfl))) rfl ⟨A1, c1, B1, e1, rfl, g3.own hO.out (fun k hk e => row_apart hO.out hR1.out (by decide) k hk e), g3.own hD.out (fun k hk e => row_apart hD.out hR1.out (by decide) k hk e), g3.over GR.out (fun k hk => by omega)⟩)
end Go.Proofs.Ytlnokohmmhmoaaa

