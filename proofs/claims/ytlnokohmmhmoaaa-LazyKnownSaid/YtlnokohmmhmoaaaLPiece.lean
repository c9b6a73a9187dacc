/-
  lazy: the contract of Piece.
-/
import Derived.Test.YtlnokohmmhmoaaaLPlanF
namespace Go.Proofs.Ytlnokohmmhmoaaa
open Go.RowKit
set_option linter.unusedSimpArgs false

theorem Lies.mid {w : World} {A : Option Addr} {n c off tt : Nat} {bs : List Nat} (h : Lies w 1 A n c (byt bs)) (h1 : off ≤ tt) (h2 : tt ≤ n) : Lies w 1 (if tt = off then A else A.map (fun x => x.add off)) (tt - off) (tt - off) (byt ((bs.drop off).take (tt - off))) := by
  have hl := h.len
  rw [byt_len, Nat.mul_one] at hl
  have hbig := h.big
  have hle := h.le
  have hlen : (byt ((bs.drop off).take (tt - off))).length = (tt - off) * 1 := by rw [byt_len, List.length_take, List.length_drop]; omega
  by_cases hc : tt = off
  · rw [if_pos hc]
    refine ⟨hlen, fun _ => by omega, Nat.le_refl _, by omega, fun a ha j u hu => ?_⟩
    have := (List.getElem?_eq_some_iff.1 hu).1
    rw [hlen] at this
    omega
  · rw [if_neg hc]
    refine ⟨hlen, fun h0 => ?_, Nat.le_refl _, by omega, fun a ha j u hu => ?_⟩
    · have := h.nilc (by simpa using h0)
      omega
    · obtain ⟨a0, rfl⟩ : ∃ a0, A = some a0 := by cases A with | none => cases ha | some a0 => exact ⟨a0, rfl⟩
      injection ha with ha
      subst ha
      have hj : j < tt - off := by
        have := (List.getElem?_eq_some_iff.1 hu).1
        rw [hlen] at this; omega
      have e : (byt bs)[off + j]? = some u := by
        unfold byt at hu ⊢
        rw [List.getElem?_map] at hu ⊢
        rw [List.getElem?_take, if_pos hj, List.getElem?_drop] at hu
        exact hu
      have := h.cells a0 rfl _ u e
      rwa [← Deep.add_add] at this
set_option maxRecDepth 100000 in
set_option maxHeartbeats 4000000 in
theorem piece_ok {me frm tot : Int} {op doc off : Nat} {A B A3 B3 : Option Addr} {n c m e0 n3 c3 m3 d3 i : Nat} {l : List (Pt × Value)} {x : Pt} {R0 : Nat → Prop} {w : World} (h0 : 0 ≤ me) (h7 : me < 7) (hP : PsAt w R0 B m e0 l) (hi : idxI (fun d : Pt => decide (d.doc = doc)) (l.map (·.1)) = (i : Int)) (hx : (l.map (·.1))[i]? = some x) (hoff : off ≤ x.bs.length) (hb : x.bs.length ≤ 1000) :
    Calls Try.prog 15 #[.int .i64 me, .agg #[.int .u64 op, .slice A n c, .slice B m e0], .agg #[.int .i64 16, .int .u64 0, .int .i64 frm, .int .u32 0, .int .u64 0, .int .u64 0, .int .u64 op, .int .u64 0, .int .u64 0, .int .u64 0, .int .u64 0, .int .u32 0, .int .u64 0, .slice none 0 0, .int .u32 doc, .int .i64 off, .int .i64 tot, .bool false, .slice A3 n3 c3, .slice B3 m3 d3]] w fun e w' => ∃ A1 k1 c1, e = .returned (.tuple #[.agg #[.int .i64 17, .int .u64 0, .int .i64 me, .int .u32 0, .int .u64 0, .int .u64 0, .int .u64 op, .int .u64 0, .int .u64 0, .int .u64 0, .int .u64 0, .int .u32 0, .int .u64 0, .slice none 0 0, .int .u32 doc, .int .i64 off, .int .i64 x.bs.length, .bool false, .slice A1 k1 c1, .slice none 0 0], .int .i64 0]) ∧ w'.ownsRow w.heap.size 5 1 (.slice A1 k1 c1) k1 (byt ((x.bs.drop off).take 64)) ∧ Grow w w' := by
  have g1 : Grow w (((w.alloc (.cells #[.int .u64 op, .slice A n c, .slice B m e0] 26)).alloc (.cells #[.int .i64 16, .int .u64 0, .int .i64 frm, .int .u32 0, .int .u64 0, .int .u64 0, .int .u64 op, .int .u64 0, .int .u64 0, .int .u64 0, .int .u64 0, .int .u32 0, .int .u64 0, .slice none 0 0, .int .u32 doc, .int .i64 off, .int .i64 tot, .bool false, .slice A3 n3 c3, .slice B3 m3 d3] 42)).alloc (.cells #[.int .i64 0, .int .u64 0, .int .i64 0, .int .u32 0, .int .u64 0, .int .u64 0, .int .u64 0, .int .u64 0, .int .u64 0, .int .u64 0, .int .u64 0, .int .u32 0, .int .u64 0, .slice none 0 0, .int .u32 0, .int .i64 0, .int .i64 0, .bool false, .slice none 0 0, .slice none 0 0] 42)) := ((Grow.alloc w _).trans (Grow.alloc _ _)).trans (Grow.alloc _ _)
  have sb := row_grow (heap_alloc2_old w (.cells #[.int .u64 op, .slice A n c, .slice B m e0] 26) (.cells #[.int .i64 16, .int .u64 0, .int .i64 frm, .int .u32 0, .int .u64 0, .int .u64 0, .int .u64 op, .int .u64 0, .int .u64 0, .int .u64 0, .int .u64 0, .int .u32 0, .int .u64 0, .slice none 0 0, .int .u32 doc, .int .i64 off, .int .i64 tot, .bool false, .slice A3 n3 c3, .slice B3 m3 d3] 42)) (Grow.alloc _ (.cells #[.int .i64 0, .int .u64 0, .int .i64 0, .int .u32 0, .int .u64 0, .int .u64 0, .int .u64 0, .int .u64 0, .int .u64 0, .int .u64 0, .int .u64 0, .int .u32 0, .int .u64 0, .slice none 0 0, .int .u32 0, .int .i64 0, .int .i64 0, .bool false, .slice none 0 0, .slice none 0 0] 42))
  have mb := row_grow (heap_alloc2_new w (.cells #[.int .u64 op, .slice A n c, .slice B m e0] 26) (.cells #[.int .i64 16, .int .u64 0, .int .i64 frm, .int .u32 0, .int .u64 0, .int .u64 0, .int .u64 op, .int .u64 0, .int .u64 0, .int .u64 0, .int .u64 0, .int .u32 0, .int .u64 0, .slice none 0 0, .int .u32 doc, .int .i64 off, .int .i64 tot, .bool false, .slice A3 n3 c3, .slice B3 m3 d3] 42)) (Grow.alloc _ (.cells #[.int .i64 0, .int .u64 0, .int .i64 0, .int .u32 0, .int .u64 0, .int .u64 0, .int .u64 0, .int .u64 0, .int .u64 0, .int .u64 0, .int .u64 0, .int .u32 0, .int .u64 0, .slice none 0 0, .int .u32 0, .int .i64 0, .int .i64 0, .bool false, .slice none 0 0, .slice none 0 0] 42))
  have rb := heap_alloc2_new (w.alloc (.cells #[.int .u64 op, .slice A n c, .slice B m e0] 26)) (.cells #[.int .i64 16, .int .u64 0, .int .i64 frm, .int .u32 0, .int .u64 0, .int .u64 0, .int .u64 op, .int .u64 0, .int .u64 0, .int .u64 0, .int .u64 0, .int .u32 0, .int .u64 0, .slice none 0 0, .int .u32 doc, .int .i64 off, .int .i64 tot, .bool false, .slice A3 n3 c3, .slice B3 m3 d3] 42) (.cells #[.int .i64 0, .int .u64 0, .int .i64 0, .int .u32 0, .int .u64 0, .int .u64 0, .int .u64 0, .int .u64 0, .int .u64 0, .int .u64 0, .int .u64 0, .int .u32 0, .int .u64 0, .slice none 0 0, .int .u32 0, .int .i64 0, .int .i64 0, .bool false, .slice none 0 0, .slice none 0 0] 42)
  rw [show (w.alloc (.cells #[.int .u64 op, .slice A n c, .slice B m e0] 26)).heap.size + 1 = w.heap.size + 2 by simp] at rb
  obtain ⟨w1, hw1⟩ : ∃ w1, ((w.alloc (.cells #[.int .u64 op, .slice A n c, .slice B m e0] 26)).alloc (.cells #[.int .i64 16, .int .u64 0, .int .i64 frm, .int .u32 0, .int .u64 0, .int .u64 0, .int .u64 op, .int .u64 0, .int .u64 0, .int .u64 0, .int .u64 0, .int .u32 0, .int .u64 0, .slice none 0 0, .int .u32 doc, .int .i64 off, .int .i64 tot, .bool false, .slice A3 n3 c3, .slice B3 m3 d3] 42)).alloc (.cells #[.int .i64 0, .int .u64 0, .int .i64 0, .int .u32 0, .int .u64 0, .int .u64 0, .int .u64 0, .int .u64 0, .int .u64 0, .int .u64 0, .int .u64 0, .int .u32 0, .int .u64 0, .slice none 0 0, .int .u32 0, .int .i64 0, .int .i64 0, .bool false, .slice none 0 0, .slice none 0 0] 42) = w1 := ⟨_, rfl⟩
  rw [hw1] at g1 sb mb rb
  obtain ⟨v, hlx⟩ : ∃ v, l[i]? = some (x, v) := by
    rw [List.getElem?_map] at hx
    cases hq : l[i]? with
    | none => rw [hq] at hx; cases hx
    | some y =>
      rw [hq] at hx
      simp at hx
      exact ⟨y.2, by rw [← hx]⟩
  obtain ⟨A7, m7, c7, hv, hL7, -⟩ := (hP.each _ (List.mem_of_getElem? hlx)).lies
  simp only at hv hL7
  subst hv
  have hm7 : m7 = x.bs.length := by have := hL7.len; rw [byt_len] at this; omega
  subst hm7
  obtain ⟨k, hk⟩ : ∃ k, x.bs.length = k := ⟨_, rfl⟩
  rw [hk] at hL7 hlx hoff hb ⊢
  have hln := Lies.flat_n pcell_len (by decide) hP.row
  have him : i < m := by have := (List.getElem?_eq_some_iff.1 hlx).1; omega
  obtain ⟨bb, o7, rfl, -, -⟩ := hP.row.pos (by omega) (by decide)
  have hle7 := hL7.le
  have hbig7 := hL7.big
  have SB := Lib.hid sb; have MB := Lib.hid mb; have RB := Lib.hid rb; have G1 := Lib.hid g1; have HW1 := Lib.hid hw1; have HP := Lib.hid hP; have HLX := Lib.hid hlx; have HI := Lib.hid hi; have HL7 := Lib.hid hL7; have HKK := Lib.hid hk
  clear g1 sb mb rb hw1 hP hlx hi hx hL7 hln hk
  go_enter Try.func15, Try.ntmps15
  go_wp2_with fail
  rw [HW1.out]
  refine (node_ok h0 h7).mono ?_
  rintro e w2 ⟨rfl, rfl⟩
  have k0 : w1.cell? ⟨w.heap.size + 1, 0, none⟩ = some (.int .i64 16) := cell_of_row w1 _ 0 _ _ (0, 0) MB.out
  have k6 : w1.cell? ⟨w.heap.size + 1, 6, none⟩ = some (.int .u64 op) := cell_of_row w1 _ 6 _ _ (0, 0) MB.out
  have s0 : w1.cell? ⟨w.heap.size, 0, none⟩ = some (.int .u64 op) := cell_of_row w1 _ 0 _ _ (0, 0) SB.out
  have s2 : w1.cell? ⟨w.heap.size, 2, none⟩ = some (.slice (some ⟨bb, o7, none⟩) m e0) := cell_of_row w1 _ 2 _ _ (0, 0) SB.out
  go_wp2_with fail
  refine (idx_piece (doc := doc) (HP.out.row.below (w' := w1) G1.out (Nat.le_refl _)) HP.out.sl (cell_of_row w1 _ 14 _ _ (0, 0) MB.out)).mono ?_
  rw [HI.out]
  rintro e w2 ⟨rfl, g2⟩
  have SB2 := Lib.hid (row_grow SB.out g2); have MB2 := Lib.hid (row_grow MB.out g2); have RB2 := Lib.hid (row_grow RB.out g2); have G2 := Lib.hid (G1.out.trans g2)
  clear g2 k0 k6 s0 s2
  have s2 : w2.cell? ⟨w.heap.size, 2, none⟩ = some (.slice (some ⟨bb, o7, none⟩) m e0) := cell_of_row w2 _ 2 _ _ (0, 0) SB2.out
  have k15 : w2.cell? ⟨w.heap.size + 1, 15, none⟩ = some (.int .i64 off) := cell_of_row w2 _ 15 _ _ (0, 0) MB2.out
  have x3 := Lies.flat_cell (j := 3) pcell_len (HP.out.grow G2.out).row HLX.out rfl
  have i0 : (0 : Int) ≤ (i : Int) := by omega
  have i1 : (i : Int) < (m : Int) := by omega
  have d0 : decide ((off : Int) < 0) = false := by simp
  have d1 : decide ((k : Int) < (off : Int)) = false := by simp; omega
  have d2 : decide (k < off) = false := by simp; omega
  obtain ⟨tt, htt⟩ : ∃ tt, min (off + 64) k = tt := ⟨_, rfl⟩
  have HTT := Lib.hid htt
  have mn1 : (if (k : Int) < (off : Int) + 64 then (k : Int) else (off : Int) + 64) = (tt : Int) := by split <;> omega
  clear htt
  go_upto_region 12 with fail
  have s0 : ∀ W, Grow w2 W → W.cell? ⟨w.heap.size, 0, none⟩ = some (.int .u64 op) := fun W g => cell_of_row W _ 0 _ _ (0, 0) (row_grow SB2.out g)
  have k14 : ∀ W, Grow w2 W → W.cell? ⟨w.heap.size + 1, 14, none⟩ = some (.int .u32 doc) := fun W g => cell_of_row W _ 14 _ _ (0, 0) (row_grow MB2.out g)
  have k15 : ∀ W, Grow w2 W → W.cell? ⟨w.heap.size + 1, 15, none⟩ = some (.int .i64 off) := fun W g => cell_of_row W _ 15 _ _ (0, 0) (row_grow MB2.out g)
  have ht1 : off ≤ tt := by have := HTT.out; omega
  have ht2 : tt ≤ k := by have := HTT.out; omega
  have ht3 : tt ≤ c7 := by omega
  refine Chain.start (Option Addr × Nat × Nat) (by kernel_rfl) (by kernel_rfl) (fun hg => ?_)
  repeat (first | (refine Chain.skip hg (fun t => by rfl) ?_; simp only [Act.put, List.setIfInBounds_toArray, List.set_cons_zero, List.set_cons_succ]) | (refine Chain.pure hg (X := ?_) (fun t W hw hN => ⟨by rfl, ?_⟩) ?_; rotate_left; (focus (go_simp <;> with_reducible rfl)); simp only [Act.put, List.setIfInBounds_toArray, List.set_cons_zero, List.set_cons_succ]))
  obtain ⟨A9, hA9⟩ : ∃ A9, (if tt = off then A7 else Option.map (fun x => x.add off) A7) = A9 := ⟨_, rfl⟩
  have L9 := Lib.hid (show Lies w2 1 A9 (tt - off) (tt - off) (byt ((x.bs.drop off).take 64)) by
    have := (HL7.out.below (w' := w2) G2.out (Nat.le_refl _)).mid ht1 ht2
    rw [hA9] at this
    have e : (x.bs.drop off).take (tt - off) = (x.bs.drop off).take 64 := by
      by_cases h64 : tt - off = 64
      · rw [h64]
      · rw [List.take_of_length_le (l := x.bs.drop off) (i := 64) (by rw [List.length_drop, HKK.out]; have := HTT.out; omega), List.take_of_length_le (by rw [List.length_drop, HKK.out]; have := HTT.out; omega)]
    rw [e] at this
    exact this)
  rw [hA9]
  clear hA9
  refine Chain.grow hg (fun s => .slice s.1 (tt - off) s.2.1) (fun s W => W.ownsRow w.heap.size 5 1 (.slice s.1 (tt - off) s.2.1) (tt - off) (byt ((x.bs.drop off).take 64))) (fun _ _ _ h g => own_grow h g) (fun _ => by rfl) (fun t W hw hN K hK => ?_) ?_
  · go_simp
    refine (bclone_any (L9.out.below hw (Nat.le_refl _)) (by omega)).mono ?_
    rintro e w9 ⟨A', c', rfl, own9, g9⟩
    exact hK.out (A', c', 0) _ g9 (own9.mono (Nat.le_trans G2.out.size hw.size))
  simp only [Act.put, List.setIfInBounds_toArray, List.set_cons_zero, List.set_cons_succ]
  iterate 1 (first | (refine Chain.skip hg (fun t => by rfl) ?_; simp only [Act.put, List.setIfInBounds_toArray, List.set_cons_zero, List.set_cons_succ]) | (refine Chain.pure hg (X := ?_) (fun t W hw hN => ⟨by rfl, ?_⟩) ?_; rotate_left; (focus (go_simp <;> with_reducible rfl)); simp only [Act.put, List.setIfInBounds_toArray, List.set_cons_zero, List.set_cons_succ]))
  refine Chain.tail (tail_of (by kernel_rfl)) (fun t W hw hN => ?_)
  have h15 := hN.get 15 rfl (by kernel_rfl)
  generalize t 15 = s5 at *
  obtain ⟨A1, c1, z1⟩ := s5
  simp only at h15
  have RB3 := Lib.hid (row_grow RB2.out hw); have G3 := Lib.hid (G2.out.trans hw); have O15 := Lib.hid h15
  clear hN hg s0 k14 k15 hw h15 x3 s2
  go_wp2_with (
    refine wpList_store_row rfl _ _ _ rfl (w.heap.size + 2) #[.int .i64 17, .int .u64 0, .int .i64 me, .int .u32 0, .int .u64 0, .int .u64 0, .int .u64 op, .int .u64 0, .int .u64 0, .int .u64 0, .int .u64 0, .int .u32 0, .int .u64 0, .slice none 0 0, .int .u32 doc, .int .i64 off, .int .i64 k, .bool false, .slice A1 (tt - off) c1, .slice none 0 0] rfl rfl _ _ RB3.out (by kernel_rfl) rfl msg_oc ?_
    have hrw := setRow_heap W (w.heap.size + 2) _ #[.int .i64 17, .int .u64 0, .int .i64 me, .int .u32 0, .int .u64 0, .int .u64 0, .int .u64 op, .int .u64 0, .int .u64 0, .int .u64 0, .int .u64 0, .int .u32 0, .int .u64 0, .slice none 0 0, .int .u32 doc, .int .i64 off, .int .i64 k, .bool false, .slice A1 (tt - off) c1, .slice none 0 0] _ _ RB3.out
    have g3 := GrowS.setRow (T := fun i => i = w.heap.size + 2) W rfl #[.int .i64 17, .int .u64 0, .int .i64 me, .int .u32 0, .int .u64 0, .int .u64 0, .int .u64 op, .int .u64 0, .int .u64 0, .int .u64 0, .int .u64 0, .int .u32 0, .int .u64 0, .slice none 0 0, .int .u32 doc, .int .i64 off, .int .i64 k, .bool false, .slice A1 (tt - off) c1, .slice none 0 0]
    go_wp2
    refine bodyPost_ret (v := .tuple #[.agg #[.int .i64 17, .int .u64 0, .int .i64 me, .int .u32 0, .int .u64 0, .int .u64 0, .int .u64 op, .int .u64 0, .int .u64 0, .int .u64 0, .int .u64 0, .int .u32 0, .int .u64 0, .slice none 0 0, .int .u32 doc, .int .i64 off, .int .i64 k, .bool false, .slice A1 (tt - off) c1, .slice none 0 0], .int .i64 0]) (results_ct (p := 6) (u := 7) (ty := 42) rfl _ _ (w.heap.size + 2) _ rfl (run_loadVar_row _ _ _ _ _ _ _ hrw Try.underlying42 rfl (by kernel_rfl))) rfl ⟨A1, tt - off, c1, rfl, g3.own O15.out (fun k hk e => row_apart O15.out RB3.out (by decide) k hk e), g3.over G3.out (fun k hk => by omega)⟩)
end Go.Proofs.Ytlnokohmmhmoaaa

