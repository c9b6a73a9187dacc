/-
  lazy: LazySame, walked.
-/
import Derived.Test.YtlnokohmmhmoaaaLSameL
import Derived.Test.YtlnokohmmhmoaaaLSameH
import Derived.Deep.CutBlock
namespace Go.Proofs.Ytlnokohmmhmoaaa
open Go.RowKit
set_option linter.unusedSimpArgs false

set_option maxRecDepth 100000 in
set_option maxHeartbeats 8000000 in
theorem lazySame_ok {op n c m d hn hc ln lc : Nat} {A B H L : Option Addr} {rest : List Nat} {l : List (Pt × Value)} {hs : List Nat} {ls : List Bool} {R0 : Nat → Prop} {w : World} (hL : BytesAt w R0 (.slice A n c) rest) (hP : PsAt w R0 B m d l) (hR0 : ∀ k, R0 k → k < w.heap.size)
    (hH : Lies w 1 H hn hc (byt hs)) (hLo : Lies w 1 L ln lc (ls.map .bool)) (hW : ∀ x ∈ l, x.1.rev < 18446744073709551616 ∧ x.1.turn < 18446744073709551616) :
    Calls Try.prog 5 #[.agg #[.int .u64 op, .slice A n c, .slice B m d], .slice H hn hc, .slice L ln lc] w fun e w' => e = .returned (.bool true) ∧ Grow w w' := by
  obtain ⟨hLL, hLn, hLR⟩ := hL.len
  have HLr := Lib.hid hLR; have HLL := Lib.hid hLL; have HP := Lib.hid hP; have HR0 := Lib.hid hR0; have HH := Lib.hid hH; have HW := Lib.hid hW; have HLn := Lib.hid hLn; have HLO := Lib.hid hLo
  clear hLL hLn hLR hP hR0 hH hW hL hLo
  go_enter Try.func5, Try.ntmps5
  go_wp2_with (refine wpList_loadS rfl rfl rfl ((StAt.new w op (.slice A n c) (.slice B m d)).grow (Grow.alloc _ _)) ?_)
  have ST1a := StAt.new w op (.slice A n c) (.slice B m d)
  have g1a := Grow.alloc w (.cells #[.int .u64 op, .slice A n c, .slice B m d] 26)
  have hsz1 : (w.alloc (.cells #[.int .u64 op, .slice A n c, .slice B m d] 26)).heap.size = w.heap.size + 1 := Array.size_push _
  generalize w.alloc (.cells #[.int .u64 op, .slice A n c, .slice B m d] 26) = w1a at *
  have LB1 := heap_alloc_new w1a (.cells #[.slice L ln lc] 27)
  have g1b := Grow.alloc w1a (.cells #[.slice L ln lc] 27)
  generalize w1a.alloc (.cells #[.slice L ln lc] 27) = w1 at *
  have ST1 := ST1a.grow g1b
  have g1 := g1a.trans g1b
  have S1 := ST1.lt
  have LBX := Lib.hid LB1
  rw [hsz1] at LBX
  have LBG := Lib.hid (show w.heap.size + 1 < w1.heap.size by have := (Array.getElem?_eq_some_iff.1 LB1).1; omega)
  clear ST1a g1a g1b LB1 hsz1
  obtain ⟨g0, hg0⟩ : ∃ g, w.heap.size = g := ⟨_, rfl⟩
  have HG0 := Lib.hid hg0
  rw [hg0] at ST1 S1 LBX LBG ⊢
  refine (proper_any (HLL.out.below g1 (Nat.le_refl _)) (HP.out.grow g1) (fun k hk => Nat.lt_of_lt_of_le (HR0.out k hk) g1.size)).mono ?_
  rintro e w2 ⟨q, n', B', m', d', l', rfl, hq, hn', o2, hE2, hM2, g2⟩
  have ST2 := ST1.grow g2
  have O2 := Lib.hid o2; have E2 := Lib.hid hE2; have M2 := Lib.hid hM2; have HN' := Lib.hid hn'; have G2 := Lib.hid (g1.trans g2); have G12 := Lib.hid g2; have HQ := Lib.hid hq
  have G1 := Lib.hid g1
  have S2 := g2.size
  clear ST1 o2 hE2 hM2 hn' hq g1 g2 hg0
  have z0 : (g0 : Nat) < w2.heap.size := ST2.lt
  have HST2 := Lib.hid ST2
  clear ST2
  go_wp2_with (refine wpList_restoreS rfl rfl rfl rfl rfl HST2.out ?_; intro w3 gs3 ST3; have d3 := ST3.docs)
  have G3 := Lib.hid (gs3.over G2.out (fun k hk => by rw [hk, ← HG0.out]; exact Nat.le_refl _))
  have O3 := Lib.hid (gs3.own O2.out (fun k hk e => by have := (O2.out.lt k hk).1; omega))
  have E3 := Lib.hid (show ∀ x ∈ l', BytesAt w3 R0 x.2 x.1.bs from fun x hx => (E2.out x hx).keep gs3 (fun k hk e => by have := HR0.out k hk; have := HG0.out; omega))
  have HST3 := Lib.hid ST3
  have S3 := gs3.size
  have LB3 := Lib.hid (gs3.kept (row_grow LBX.out G12.out) (fun e => by omega))
  obtain ⟨ps, hps⟩ : ∃ ps, properP (l.map (·.1)) = ps := ⟨_, rfl⟩
  have hnum : Numbered ps := by rw [← hps]; exact properP_numbered _
  have hp20 : ps.length ≤ 20 := by rw [← hps]; exact properP_len _
  have hpb : ∀ x ∈ ps, x.bs.length ≤ 300 ∧ PWf x := fun x hx => by
    rw [← hps] at hx
    obtain ⟨h1, y, hy, h2, h3, -⟩ := properP_mem hx
    obtain ⟨z, hz, rfl⟩ := List.mem_map.1 hy
    have := HW.out z hz
    obtain ⟨i, hi⟩ := List.getElem?_of_mem hx
    have := properP_numbered _ i x hi
    have := (List.getElem?_eq_some_iff.1 hi).1
    have := properP_len (l.map (·.1))
    exact ⟨h1, by omega, by omega, by omega, by omega⟩
  have hml : l'.map (·.1) = ps := M2.out.trans hps
  have hm' : l'.length = m' := Lies.flat_n pcell_len (by decide) (Lies.of_own O2.out)
  have hpm : ps.length = m' := by rw [← hml, List.length_map, hm']
  have hr300 : (rest.take n').length ≤ 300 := by rw [List.length_take]; have := HN'.out; omega
  have GP := Lib.hid (show GoodPs ps from ⟨hnum, hp20, fun x hx => (hpb x hx).1, fun x hx => (hpb x hx).2⟩)
  have HML := Lib.hid hml; have HM' := Lib.hid hm'; have HPM := Lib.hid hpm; have HR3 := Lib.hid hr300
  have hm20 : m' ≤ 20 := by omega
  obtain ⟨gf, hgf⟩ : ∃ gf : Nat → Nat, (fun i => hs.getD i 0) = gf := ⟨_, rfl⟩
  have HGF := Lib.hid hgf
  have ehl : hs.length = hn := HH.out.bytes_len
  have EHL := Lib.hid ehl
  clear gs3 ST3 hps hnum hp20 hpb hml hm' hpm hr300 hgf ehl M2 E2
  go_loopw [7, 31] (fun o i wr => ∃ (j : Nat) (A1 : Option Addr) (e1 : Nat) (Lr : List (Pt × Value)), j ≤ m' ∧ i = .int .i64 j ∧ o = .slice A1 Lr.length e1 ∧ Hid (Lr.map (·.1) = ownH gf ps j) ∧ Hid (wr.ownsRow w3.heap.size 31 4 (.slice A1 Lr.length e1) Lr.length (Lr.flatMap pcell)) ∧ Hid (∀ x ∈ Lr, BytesAt wr (fun k => k < wr.heap.size ∧ (Value.slice A1 Lr.length e1).ownBlock ≠ some k) x.2 x.1.bs) ∧ GrowS (fun k => w3.heap.size ≤ k) w3 wr) (fun _ i _ => m' - (intOf i).toNat)
  case atStart => exact ⟨0, none, 0, [], Nat.zero_le _, rfl, rfl, rfl, World.ownsRow_nil _ _ _ _, (fun x hx => by cases hx), GrowS.refl _ _⟩
  case round =>
    obtain ⟨j, A1, e1, Lr, hj, rfl, rfl, hLr, hO, hB, hg⟩ := hrel
    have GR := Lib.hid hg
    have GW := Lib.hid (hg.over G3.out (fun k hk => Nat.le_trans G3.out.size hk))
    have GW3 := Lib.hid (hg.grow (fun k hk h => by omega))
    clear hg
    by_cases hlt : j < m'
    · obtain ⟨⟨x, v⟩, hx⟩ : ∃ x, l'[j]? = some x := ⟨_, List.getElem?_eq_getElem (by have := HM'.out; omega)⟩
      obtain ⟨A7, k, c7, hv, L7, hR7⟩ := (E3.out _ (List.mem_of_getElem? hx)).lies
      simp only at hv L7
      subst hv
      have O3r := Lib.hid (GR.out.own O3.out (fun g hg => by have := (O3.out.lt g hg).2; omega))
      obtain ⟨gd, cd, hA4⟩ := own_pos O3r.out (by omega)
      injection hA4 with hA4 _ hc4
      subst hA4 hc4
      have x0 := Lies.flat_cell (j := 0) pcell_len (Lies.of_own O3r.out) hx rfl
      have x1 := Lies.flat_cell (j := 1) pcell_len (Lies.of_own O3r.out) hx rfl
      have x2 := Lies.flat_cell (j := 2) pcell_len (Lies.of_own O3r.out) hx rfl
      have x3 := Lies.flat_cell (j := 3) pcell_len (Lies.of_own O3r.out) hx rfl
      simp only [Nat.add_zero, Nat.zero_add] at x0 x1 x2 x3
      have hk3 : x.bs.length = k := L7.bytes_len
      have hpx : ps[j]? = some x := by rw [← HML.out, List.getElem?_map, hx]; rfl
      have hk300 : k ≤ 300 := by rw [← hk3]; exact GP.out.bs x (List.mem_of_getElem? hpx)
      have HX := Lib.hid hx; have HK3 := Lib.hid hk3; have HPX := Lib.hid hpx
      have hol : Lr.length ≤ j := by have := ownH_len (g := gf) (ps := ps) j; rw [← hLr.out, List.length_map] at this; exact this
      have i0 : (0 : Int) ≤ (j : Int) := by omega
      clear hx L7 hR7 hk3 hpx d3
      go_upto_region 6 with fail
      have hbox := heap_alloc_new wr (.cells #[.int .u32 x.doc, .int .u64 x.rev, .int .u64 x.turn, .slice A7 k c7] 31)
      have ga := Grow.alloc wr (.cells #[.int .u32 x.doc, .int .u64 x.rev, .int .u64 x.turn, .slice A7 k c7] 31)
      generalize wr.alloc _ = wa at *
      have BX := Lib.hid hbox; have GA := Lib.hid ga
      clear hbox ga x0 x1 x2 x3
      by_cases hjn : j < hn
      · have j0 : (j : Int) < (hn : Int) := by omega
        obtain ⟨hb, ho, rfl, -, -⟩ := HH.out.pos (by omega) (by decide)
        have hv : hs[j]? = some (gf j) := by
          rw [← HGF.out]
          simp only [List.getD_eq_getElem?_getD]
          rw [List.getElem?_eq_getElem (by have := EHL.out; omega)]
          rfl
        have b0 := ((HH.out.below (GW.out.trans GA.out) (Nat.le_refl _)).cells _ rfl j (.int .u8 (gf j)) (by unfold byt; rw [List.getElem?_map, hv]; rfl))
        rw [add_none] at b0
        obtain ⟨y, hy⟩ : ∃ y, gf j = y := ⟨_, rfl⟩
        rw [hy] at b0
        have HY := Lib.hid hy
        clear hv hy
        have z0 : wa.cell? ⟨wr.heap.size, 0, none⟩ = some (.int .u32 x.doc) := cell_of_row wa _ 0 _ _ (0, 0) BX.out
        have z1 : wa.cell? ⟨wr.heap.size, 1, none⟩ = some (.int .u64 x.rev) := cell_of_row wa _ 1 _ _ (0, 0) BX.out
        have z2 : wa.cell? ⟨wr.heap.size, 2, none⟩ = some (.int .u64 x.turn) := cell_of_row wa _ 2 _ _ (0, 0) BX.out
        have z3 : wa.cell? ⟨wr.heap.size, 3, none⟩ = some (.slice A7 k c7) := cell_of_row wa _ 3 _ _ (0, 0) BX.out
        by_cases hy0 : y % 3 = 0
        · have d0 : decide (0 < (y : Int) % 3) = false := by simp; omega
          have E1 := Lib.hid (show Lr.map (·.1) = ownH gf ps (j + 1) by rw [ownH_at HPX.out, HY.out, hand_none hy0, hLr.out]; simp)
          have O5 := Lib.hid (own_grow hO.out GA.out)
          have G5 := Lib.hid (GR.out.trans (GA.out.wide _))
          have B5 := Lib.hid (show ∀ x ∈ Lr, BytesAt wa (fun k => k < wa.heap.size ∧ (Value.slice A1 Lr.length e1).ownBlock ≠ some k) x.2 x.1.bs from fun x hx => ((hB.out x hx).grow GA.out).mono (fun k hk => ⟨Nat.lt_of_lt_of_le hk.1 GA.out.size, hk.2⟩))
          clear hy0 z0 z1 z2 z3
          go_wp2
          go_roundw
          case rel => exact ⟨j + 1, A1, e1, Lr, by omega, by go_num, rfl, E1, O5, B5, G5.out⟩
          case measure => simp [intOf]; omega
        · have d0 : decide (0 < (y : Int) % 3) = true := by simp; omega
          have HY0 := Lib.hid hy0
          clear hy0
          go_upto_if 53 with fail
          have hgB := GA.out.size
          have hgR := GR.out.size
          go_cut [9] (fun s W => s = .pointer (some ⟨wr.heap.size, 0, none⟩) ∧ ∃ (x' : Pt) (A' : Option Addr) (n9 c9 : Nat), Hid (handP y x = some x') ∧ Hid (W.heap[wr.heap.size]? = some (.cells #[.int .u32 x'.doc, .int .u64 x'.rev, .int .u64 x'.turn, .slice A' n9 c9] 31 (0, 0))) ∧ Hid (BytesAt W (fun k => k < W.heap.size ∧ (Value.slice A1 Lr.length e1).ownBlock ≠ some k) (.slice A' n9 c9) x'.bs) ∧ GrowS (fun k => k = wr.heap.size) wa W)
          case first =>
            by_cases hy1 : y % 3 = 1
            · have d1 : ((y : Int) % 3 == 1) = true := by simp; omega
              have HH1 := Lib.hid (hand_old (x := x) hy1)
              have e2 := frozen_of_row wa wr.heap.size 2 _ _ BX.out
              clear hy1 z0 z1 z3
              go_upto_region 9 with fail
              have hw8 := heap_setCell_same wa wr.heap.size 2 _ _ (.int .u64 (IntKind.u64.wrap ((x.turn : Int) + 1))) BX.out
              have gs8 := GrowS.setCell (T := fun k => k = wr.heap.size) wa (p := ⟨wr.heap.size, 2, none⟩) rfl (.int .u64 (IntKind.u64.wrap ((x.turn : Int) + 1)))
              rw [wrap_turn] at hw8 gs8
              simp only [wrap_turn]
              generalize wa.setCell ⟨wr.heap.size, 2, none⟩ (.int .u64 (((x.turn + 1) % 18446744073709551616 : Nat) : Int)) = w8 at *
              have hw9 := row_grow hw8 (Grow.alloc w8 (.cells #[.int .u8 111, .int .u8 108, .int .u8 100] 5 (3, 4)))
              have L9 : Lies (w8.alloc (.cells #[.int .u8 111, .int .u8 108, .int .u8 100] 5 (3, 4))) 1 (some ⟨w8.heap.size, 0, none⟩) 3 3 (byt [111, 108, 100]) := lies_mark [111, 108, 100] 3 rfl (by simp [byt]) rfl (Nat.le_refl _) (by decide)
              have e3 := frozen_of_row (w8.alloc (.cells #[.int .u8 111, .int .u8 108, .int .u8 100] 5 (3, 4))) wr.heap.size 3 _ _ hw9
              have z3 := cell_of_row (w8.alloc (.cells #[.int .u8 111, .int .u8 108, .int .u8 100] 5 (3, 4))) wr.heap.size 3 _ _ (0, 0) hw9
              simp at z3
              have kc := conv_const
              have st := heap_setCell_same _ wr.heap.size 3 _ _ (.slice (some ⟨w8.heap.size, 0, none⟩) 3 3) hw9
              have gs9 := GrowS.setCell (T := fun k => k = wr.heap.size) (w8.alloc (.cells #[.int .u8 111, .int .u8 108, .int .u8 100] 5 (3, 4))) (p := ⟨wr.heap.size, 3, none⟩) rfl (.slice (some ⟨w8.heap.size, 0, none⟩) 3 3)
              have LX := Lib.hid (gs9.liesZ L9 (fun a ha _ e => by injection ha with ha; subst ha; have := gs8.size; have e : w8.heap.size = wr.heap.size := e; have := (Array.getElem?_eq_some_iff.1 BX.out).1; omega))
              have ST := Lib.hid st
              have GS := Lib.hid ((gs8.trans ((Grow.alloc w8 (.cells #[.int .u8 111, .int .u8 108, .int .u8 100] 5 (3, 4))).wide _)).trans gs9)
              have GY := Lib.hid (show wr.heap.size ≤ w8.heap.size by have := gs8.size; omega)
              have GZ := Lib.hid (show w8.heap.size < ((w8.alloc (.cells #[.int .u8 111, .int .u8 108, .int .u8 100] 5 (3, 4))).setCell ⟨wr.heap.size, 3, none⟩ (.slice (some ⟨w8.heap.size, 0, none⟩) 3 3)).heap.size by have := gs9.size; have h8 : (w8.alloc (.cells #[.int .u8 111, .int .u8 108, .int .u8 100] 5 (3, 4))).heap.size = w8.heap.size + 1 := Array.size_push _; omega)
              clear hw8 gs8 hw9 L9 st gs9
              go_wp2
              go_meet
              exact ⟨rfl, oldP x, some ⟨w8.heap.size, 0, none⟩, 3, 3, HH1, Lib.hid (by simpa [oldP] using ST.out), ⟨_, 3, 3, rfl, LX.out, fun a ha _ => by injection ha with ha; subst ha; exact ⟨GZ.out, fun e => by have h1 : w8.heap.size < wr.heap.size := (hO.out.lt _ e).2; have := GY.out; omega⟩⟩, GS.out⟩
            · have d1 : ((y : Int) % 3 == 1) = false := by simp; omega
              have HH1 := Lib.hid (hand_own (x := x) HY0.out hy1)
              clear hy1
              go_wp2
              go_meet
              exact ⟨rfl, x, A7, k, c7, HH1, BX, ((E3.out _ (List.mem_of_getElem? HX.out)).grow (GW3.out.trans GA.out)).mono (fun k hk => ⟨by have := HR0.out k hk; have := GW.out.size; have := GA.out.size; omega, fun e => by have := (hO.out.lt _ e).1; have := HR0.out k hk; have := G3.out.size; omega⟩), GrowS.refl _ _⟩
          case rest =>
          obtain ⟨rfl, x', A', n9, c9, HX', BX', BY', gs⟩ := hcut
          clear z0 z1 z2 z3
          obtain ⟨w10, rfl⟩ : ∃ x, x = wc := ⟨_, rfl⟩
          have G10 := Lib.hid (GR.out.trans ((GA.out.wide _).trans (gs.mono (fun k hk => by rw [hk]; exact hgR))))
          have GS10 := Lib.hid ((GA.out.wide _).trans gs)
          have O10 := Lib.hid (gs.own (own_grow hO.out GA.out) (fun g hg e => by have := (hO.out.lt g hg).2; omega))
          have B10 := Lib.hid (show ∀ x ∈ Lr, BytesAt w10 (fun k => k < wr.heap.size ∧ (Value.slice A1 Lr.length e1).ownBlock ≠ some k) x.2 x.1.bs from fun x hx => ((hB.out x hx).grow GA.out).keep gs (fun k hk e => by have := hk.1; omega))
          have s10 := gs.size
          clear gs
          have z0 : w10.cell? ⟨wr.heap.size, 0, none⟩ = some (.int .u32 x'.doc) := cell_of_row w10 _ 0 _ _ (0, 0) BX'.out
          have z1 : w10.cell? ⟨wr.heap.size, 1, none⟩ = some (.int .u64 x'.rev) := cell_of_row w10 _ 1 _ _ (0, 0) BX'.out
          have z2 : w10.cell? ⟨wr.heap.size, 2, none⟩ = some (.int .u64 x'.turn) := cell_of_row w10 _ 2 _ _ (0, 0) BX'.out
          have z3 : w10.cell? ⟨wr.heap.size, 3, none⟩ = some (.slice A' n9 c9) := cell_of_row w10 _ 3 _ _ (0, 0) BX'.out
          go_wp2_with (
            at_builtin
            refine wpList_appPtF rfl (.tmp 61) (.tmp 63) rfl w3.heap.size _ Lr.length Lr rfl (own_grow O10.out (Grow.alloc _ _)) (some ⟨w10.heap.size, 0, none⟩) 1 1 [(x', .slice A' n9 c9)] rfl (lies_pt (x := x') (heap_alloc_new w10 (.cells #[.int .u32 x'.doc, .int .u64 x'.rev, .int .u64 x'.turn, .slice A' n9 c9] 31))) (by intro x hx; simp at hx; subst hx; rfl) (by omega) (by have := G10.out.size; simp; omega) ?_
            intro B2 e2 w5 own5 gr5 fr5)
          have E1 := Lib.hid (show (Lr ++ [(x', Value.slice A' n9 c9)]).map (fun x : Pt × Value => x.1) = ownH gf ps (j + 1) by rw [ownH_at HPX.out, HY.out, HX'.out, List.map_append, hLr.out]; rfl)
          have el : (Lr ++ [(x', Value.slice A' n9 c9)]).length = Lr.length + 1 := by simp
          have O5 := Lib.hid own5
          rw [← el] at O5
          have gn := (Grow.alloc w10 (.cells #[.int .u32 x'.doc, .int .u64 x'.rev, .int .u64 x'.turn, .slice A' n9 c9] 31))
          have gx := gr5.wide (T := fun k => w3.heap.size ≤ k) (fun k hk => (hO.out.lt k hk).1)
          have gy := gr5.wide (T := fun k => (Value.slice A1 Lr.length e1).ownBlock = some k) (fun k hk => hk)
          have G5 := Lib.hid (G10.out.trans ((gn.wide _).trans gx))
          have hA : ∀ k, k < w10.heap.size → (Value.slice A1 Lr.length e1).ownBlock ≠ some k → (Value.slice B2 (Lr.length + 1) e2).ownBlock ≠ some k := fun k h1 h2 e => by
            rcases fr5 with h | h
            · exact h2 (h.symm.trans e)
            · have := h k e
              have := gn.size
              omega
          have B5 := Lib.hid (show ∀ x ∈ Lr ++ [(x', Value.slice A' n9 c9)], BytesAt w5 (fun k => k < w5.heap.size ∧ (Value.slice B2 (Lr.length + 1) e2).ownBlock ≠ some k) x.2 x.1.bs from fun z hz => by
            have := gn.size
            have := gy.size
            rcases List.mem_append.1 hz with h | h
            · exact (((B10.out z h).grow gn).keep gy (fun k hk e => hk.2 e)).mono (fun k hk => ⟨by have := hk.1; omega, hA k (by have := hk.1; omega) hk.2⟩)
            · rw [List.mem_singleton.1 h]
              exact (((BY'.out).grow gn).keep gy (fun k hk e => hk.2 e)).mono (fun k hk => ⟨by have := hk.1; omega, hA k hk.1 hk.2⟩))
          rw [← el] at B5
          rw [← el]
          clear own5 gr5 fr5 hA el z0 z1 z2 z3 gn gx gy
          go_wp2
          go_roundw
          case rel => exact ⟨j + 1, B2, e2, _, by omega, by go_num, rfl, E1, O5, B5, G5.out⟩
          case measure => simp [intOf]; omega
      · have j0 : ¬ ((j : Int) < (hn : Int)) := by omega
        have hv : gf j = 0 := by
          rw [← HGF.out]
          simp only [List.getD_eq_getElem?_getD]
          rw [List.getElem?_eq_none (by have := EHL.out; omega)]
          rfl
        have E1 := Lib.hid (show Lr.map (·.1) = ownH gf ps (j + 1) by rw [ownH_at HPX.out, hand_none (by rw [hv]), hLr.out]; simp)
        have O5 := Lib.hid (own_grow hO.out GA.out)
        have G5 := Lib.hid (GR.out.trans (GA.out.wide _))
        have B5 := Lib.hid (show ∀ x ∈ Lr, BytesAt wa (fun k => k < wa.heap.size ∧ (Value.slice A1 Lr.length e1).ownBlock ≠ some k) x.2 x.1.bs from fun x hx => ((hB.out x hx).grow GA.out).mono (fun k hk => ⟨Nat.lt_of_lt_of_le hk.1 GA.out.size, hk.2⟩))
        clear hv
        go_wp2
        go_roundw
        case rel => exact ⟨j + 1, A1, e1, Lr, by omega, by go_num, rfl, E1, O5, B5, G5.out⟩
        case measure => simp [intOf]; omega
    · obtain rfl : j = m' := by omega
      clear d3
      have STr := Lib.hid (HST3.out.grow GW3.out)
      have q0 := STr.out.opC
      have hq64 : q < 18446744073709551616 := by have := HQ.out; omega
      go_wp2_with fail
      rw [show ((q : Int) / 2) = ((q / 2 : Nat) : Int) by omega]
      obtain ⟨lst, hlst⟩ : ∃ lst, q / 2 = lst := ⟨_, rfl⟩
      have HQ64 := Lib.hid hq64
      have HLS := Lib.hid hlst
      rw [hlst]
      clear hq64 hlst q0
      have hpj := HPM.out
      have EO := Lib.hid (show Lr.map (·.1) = ownH gf ps ps.length by rw [hpj]; exact hLr.out)
      have PO := Lib.hid (show PsAt wr (fun k => k < wr.heap.size) A1 Lr.length e1 Lr from ⟨Lies.of_own hO.out, fun a ha _ => (hO.out.lt _ (own_addr hO.out a ha)).2, fun x hx => (hB.out x hx).mono (fun k hk => hk.1)⟩)
      have SV := Lib.hid (show Srv wr (fun k => k < wr.heap.size) (.slice A n' c) (.slice B' j d') (rest.take n') ps from by
        have hle : n' ≤ n := by have := HN'.out; omega
        refine ⟨⟨A, n', c, rfl, (HLL.out.below GW.out (Nat.le_refl _)).takeb n' hle, fun a ha h0 => ?_⟩, HR3.out, ⟨B', j, d', l', rfl, ⟨Lies.of_own (own_grow O3.out GW3.out), fun a ha _ => ?_, fun x hx => ?_⟩, HML.out⟩, GP.out⟩
        · have := HR0.out _ (HLr.out a ha (by omega)); have := GW.out.size; omega
        · have := (O3.out.lt _ (own_addr O3.out a ha)).2; have := GW3.out.size; omega
        · exact ((E3.out x hx).grow GW3.out).mono (fun k hk => by have := HR0.out k hk; have := GW.out.size; omega))
      have hgN : g0 < wr.heap.size := by have := GW3.out.size; omega
      have LBr := Lib.hid (row_grow LB3.out GW3.out)
      have hLN : Lr.length ≤ 20 := by have := ownH_len (g := gf) (ps := ps) j; rw [← hLr.out, List.length_map] at this; omega
      refine (fnew_ok (me := 3) (least := lst) (by decide) (by decide) PO.out (fun k hk => hk) (by rw [EO.out]; exact ownH_rises GP.out.num _) (fun x hx => by
        have : x.1 ∈ Lr.map (·.1) := List.mem_map_of_mem hx
        rw [EO.out] at this
        exact ownH_wf GP.out this) (by omega)).mono ?_
      rw [EO.out]
      obtain ⟨hand, hhand⟩ : ∃ hd, ownH gf ps ps.length = hd := ⟨_, rfl⟩
      have HOK := Lib.hid (show HandOk hand ps by rw [← hhand]; exact ownH_ok GP.out.num (fun x hx => (GP.out.wf x hx).turn) _)
      have HHL := Lib.hid (show ∀ x ∈ hand, x.bs.length ≤ 1000 from fun x hx => by rw [← hhand] at hx; exact (ownH_wf GP.out hx).bs)
      rw [hhand]
      rintro e w5 ⟨p, T0, R1, rfl, f5, hT5, hR5, g5⟩
      have F5 := Lib.hid f5; have T5 := Lib.hid hT5; have R5 := Lib.hid hR5; have G5 := Lib.hid g5
      clear f5 hT5 hR5 g5
      go_wp2_with fail
      refine awake_ok.mono ?_
      rintro e w6 ⟨rfl, g6⟩
      have F6 := Lib.hid (F5.out.grow g6); have G6 := Lib.hid (G5.out.trans g6)
      clear g6
      obtain ⟨W0, rfl⟩ : ∃ W0, W0 = wr := ⟨_, rfl⟩
      go_wp2_with fail
      have kc := heap_alloc_new w6 (.cells #[.int .i64 0] 3)
      have g7 := Grow.alloc w6 (.cells #[.int .i64 0] 3)
      generalize w6.alloc (.cells #[.int .i64 0] 3) = w7 at *
      have s6 := G6.out.size
      have LP0 := Lib.hid (show Lp w7 W0.heap.size w6.heap.size p q ps (rest.take n') T0 R1 NoRow (.slice none 0 0) [] 0 (newF 3 lst hand) from
        ⟨F6.out.grow g7, fun k hk => T5.out k hk, kc, fun h => by have := F6.out.ltT _ h; omega, fun h => by have := F6.out.ltR _ h; omega, s6, World.ownsRow_nil _ _ _ _, (fun _ h => by cases h), (fun _ h => h.elim), (fun _ h => by cases h), (fun _ h => by cases h)⟩)
      have G7 := Lib.hid (G6.out.trans g7)
      have hLG : ∀ a, L = some a → 0 < ln → a.block ≠ w6.heap.size := fun b hb hn e => by
        obtain ⟨b2, off, e2, hlt, -⟩ := HLO.out.pos hn (by decide)
        rw [e2] at hb
        injection hb with hb
        subst hb
        have e : b2 = w6.heap.size := e
        have := GW.out.size
        omega
      have HLG := Lib.hid hLG
      clear kc g7 hLG
      obtain ⟨kb, hkb⟩ : ∃ kb, w6.heap.size = kb := ⟨_, rfl⟩
      rw [hkb] at LP0 HLG s6 ⊢
      clear hkb
      go_loopw [14, 81] (fun ov iv W => ∃ (t k : Nat) (T R N : Nat → Prop) (ms : List Om) (f : F) (A9 : Option Addr) (c9 : Nat), iv = .int .u64 t ∧ ov = .slice A9 ms.length c9 ∧ Hid (Lp W W0.heap.size kb p q ps (rest.take n') T R N (.slice A9 ms.length c9) ms k f) ∧ Hid (Sam ps q lst hand (rest.take n') t k f) ∧ Hid (k ≤ 2 * t ∧ ms.length ≤ t) ∧ Grow W0 W) (fun _ iv _ => 3000 - (intOf iv).toNat)
      case atStart => exact ⟨0, 0, T0, R1, NoRow, [], _, none, 0, rfl, rfl, LP0, Sam.start, ⟨Nat.le_refl _, Nat.le_refl _⟩, G7.out⟩
      case round =>
        obtain ⟨t, k, T, R, N, ms, f, A9, c9, rfl, rfl, hL, hS, hkt, hg⟩ := hrel
        have GA := Lib.hid hg
        have ht : t ≤ 810 := hS.out.now810
        have ht3 : (t : Int) < 3000 := by omega
        clear hg
        go_wp2_with fail
        refine (fdone_any hL.out.fis).mono ?_
        cases hd : doneF f with
        | true =>
          rintro e w8 ⟨rfl, g8⟩
          have HD := Lib.hid hd; have G8 := Lib.hid (GA.out.trans g8); have F8 := Lib.hid (hL.out.fis.grow g8)
          clear hd g8
          obtain ⟨hgo, hf5⟩ := hS.out.wel.zs (doneF_all HD.out).1
          have hend := hgo.end HD.out
          have hbl : ∀ d ∈ f.docs, d.bs.length ≤ 100000 := fun d hd => by
            have := hgo.bsle (k := 300) GP.out.bs d hd
            omega
          have hdl : f.docs.length = j := by rw [hgo.len]; exact HPM.out
          have hfq : f.op = q := hgo.op
          have hfr : f.rest = rest.take n' := hgo.rest
          have HEND := Lib.hid hend; have HBL := Lib.hid hbl; have HDL := Lib.hid hdl; have HFQ := Lib.hid hfq; have HFR := Lib.hid hfr
          clear hgo hf5 hend hbl hdl hfq hfr
          go_wp2_with fail
          refine (state_ok F8.out HD.out (by rw [HFR.out]; have := HR3.out; omega) (by have := HDL.out; omega) HBL.out).mono ?_
          have htl : (rest.take n').length = n' := by rw [List.length_take, HLn.out]; have := HN'.out; omega
          rw [HFR.out, htl, HFQ.out, HDL.out]
          rintro e w9 ⟨A2, c2, B2, e2, l2, rfl, o9, p9, hl9, g9⟩
          have O9 := Lib.hid (Lies.of_own o9); have P9 := Lib.hid p9; have HL9 := Lib.hid (hl9.trans HEND.out); have G9 := Lib.hid (G8.out.trans g9)
          clear o9 p9 hl9 g9 htl
          go_upto_region 47 with (refine wpList_storeS rfl rfl rfl rfl rfl rfl ?_; intro w10 g10 S10)
          have O10 := Lib.hid (O9.out.below g10 (Nat.le_refl _)); have P10 := Lib.hid (P9.out.grow g10); have G10 := Lib.hid (G9.out.trans g10)
          have a0 := S10.opC; have a1 := S10.rest; have a2 := S10.docs
          have ST10 := Lib.hid (STr.out.grow G10.out)
          have b0 := ST10.out.opC; have b1 := ST10.out.rest; have b2 := ST10.out.docs
          have S10 := Lib.hid S10
          clear g10
          go_wp2_with fail
          obtain ⟨hLr', -, -⟩ := SV.out.rb.len
          refine (equal_same O10.out (hLr'.below G10.out (Nat.le_refl _))).mono ?_
          rintro e w11 ⟨rfl, rfl⟩
          clear hLr'
          go_wp2_with fail
          obtain ⟨w11, rfl⟩ : ∃ x, x = w10 := ⟨_, rfl⟩
          clear a0 a1 a2 b0 b1 b2
          go_loopw [208] (fun iv W => ∃ i : Nat, i ≤ j ∧ iv = .int .i64 i ∧ Grow w11 W) (fun iv _ => j - (intOf iv).toNat)
          case atStart => exact ⟨0, Nat.zero_le _, rfl, Grow.refl _⟩
          case round =>
            obtain ⟨i, hi, rfl, hgi⟩ := hrel
            have GI := Lib.hid hgi
            have GIW := Lib.hid (G10.out.trans hgi)
            clear hgi
            by_cases hlt : i < j
            · obtain ⟨⟨x, v⟩, hx⟩ : ∃ x, l'[i]? = some x := ⟨_, List.getElem?_eq_getElem (by have := HM'.out; omega)⟩
              have hl2 : l2.length = j := Lies.flat_n pcell_len (by decide) P10.out.row
              obtain ⟨⟨x2, v2⟩, hx2⟩ : ∃ x, l2[i]? = some x := ⟨_, List.getElem?_eq_getElem (by omega)⟩
              have hxx : x = x2 := by
                have h1 : ps[i]? = some x := by rw [← HML.out, List.getElem?_map, hx]; rfl
                have h2 : (l2.map (·.1))[i]? = some x2 := by rw [List.getElem?_map, hx2]; rfl
                rw [HL9.out, h1] at h2
                injection h2
              subst hxx
              obtain ⟨A7, n7, c7, hv, L7, -⟩ := (E3.out _ (List.mem_of_getElem? hx)).lies
              obtain ⟨A8, n8, c8, hv2, L8, -⟩ := (P10.out.each _ (List.mem_of_getElem? hx2)).lies
              simp only at hv hv2 L7 L8
              subst hv hv2
              have O3r := Lib.hid (own_grow O3.out (GW3.out.trans GIW.out))
              obtain ⟨gd, cd, hA4⟩ := own_pos O3r.out (by omega)
              injection hA4 with hA4 _ hc4
              subst hA4 hc4
              obtain ⟨gB, oB, hA2, -, -⟩ := P10.out.row.pos (by omega) (by decide)
              subst hA2
              have x0 := Lies.flat_cell (j := 0) pcell_len (Lies.of_own O3r.out) hx rfl
              have x1 := Lies.flat_cell (j := 1) pcell_len (Lies.of_own O3r.out) hx rfl
              have x2 := Lies.flat_cell (j := 2) pcell_len (Lies.of_own O3r.out) hx rfl
              have x3 := Lies.flat_cell (j := 3) pcell_len (Lies.of_own O3r.out) hx rfl
              simp only [Nat.add_zero, Nat.zero_add] at x0 x1 x2 x3
              have H7 := Lib.hid (L7.below (GW3.out.trans GIW.out) (Nat.le_refl _)); have H8 := Lib.hid (L8.below GI.out (Nat.le_refl _))
              have P11 := Lib.hid (P10.out.row.below GI.out (Nat.le_refl _))
              have HX2 := Lib.hid hx2
              have i0 : (0 : Int) ≤ (i : Int) := by omega
              have i1 : (i : Int) < (j : Int) := by omega
              have SX := Lib.hid (S10.out.grow GI.out)
              clear hx hx2 L7 L8
              go_upto_region 52 with fail
              have hb1 := heap_alloc_new wr (.cells #[.int .u32 x.doc, .int .u64 x.rev, .int .u64 x.turn, .slice A7 n7 c7] 31)
              have gb1 := Grow.alloc wr (.cells #[.int .u32 x.doc, .int .u64 x.rev, .int .u64 x.turn, .slice A7 n7 c7] 31)
              have hz1 : (wr.alloc (.cells #[.int .u32 x.doc, .int .u64 x.rev, .int .u64 x.turn, .slice A7 n7 c7] 31)).heap.size = wr.heap.size + 1 := Array.size_push _
              generalize wr.alloc (.cells #[.int .u32 x.doc, .int .u64 x.rev, .int .u64 x.turn, .slice A7 n7 c7] 31) = wa at *
              have y0 := Lies.flat_cell (j := 0) pcell_len (P11.out.below gb1 (Nat.le_refl _)) HX2.out rfl
              have y1 := Lies.flat_cell (j := 1) pcell_len (P11.out.below gb1 (Nat.le_refl _)) HX2.out rfl
              have y2 := Lies.flat_cell (j := 2) pcell_len (P11.out.below gb1 (Nat.le_refl _)) HX2.out rfl
              have y3 := Lies.flat_cell (j := 3) pcell_len (P11.out.below gb1 (Nat.le_refl _)) HX2.out rfl
              simp only [Nat.add_zero] at y0
              have sd := (SX.out.grow gb1).docs
              have HB1 := Lib.hid hb1; have GB1 := Lib.hid gb1; have HZ1 := Lib.hid hz1
              clear x0 x1 x2 x3 hb1 gb1 hz1
              go_upto_region 53 with fail
              have hb2 := heap_alloc_new wa (.cells #[.int .u32 x.doc, .int .u64 x.rev, .int .u64 x.turn, .slice A8 n8 c8] 31)
              have gb2 := Grow.alloc wa (.cells #[.int .u32 x.doc, .int .u64 x.rev, .int .u64 x.turn, .slice A8 n8 c8] 31)
              generalize wa.alloc (.cells #[.int .u32 x.doc, .int .u64 x.rev, .int .u64 x.turn, .slice A8 n8 c8] 31) = wb at *
              clear y0 y1 y2 y3 sd
              have hb1 := row_grow HB1.out gb2
              have x0 : wb.cell? ⟨wr.heap.size, 0, none⟩ = some (.int .u32 x.doc) := cell_of_row wb _ 0 _ _ (0, 0) hb1
              have x1 : wb.cell? ⟨wr.heap.size, 1, none⟩ = some (.int .u64 x.rev) := cell_of_row wb _ 1 _ _ (0, 0) hb1
              have x2 : wb.cell? ⟨wr.heap.size, 2, none⟩ = some (.int .u64 x.turn) := cell_of_row wb _ 2 _ _ (0, 0) hb1
              have x3 : wb.cell? ⟨wr.heap.size, 3, none⟩ = some (.slice A7 n7 c7) := cell_of_row wb _ 3 _ _ (0, 0) hb1
              have y0 : wb.cell? ⟨wa.heap.size, 0, none⟩ = some (.int .u32 x.doc) := cell_of_row wb _ 0 _ _ (0, 0) hb2
              have y1 : wb.cell? ⟨wa.heap.size, 1, none⟩ = some (.int .u64 x.rev) := cell_of_row wb _ 1 _ _ (0, 0) hb2
              have y2 : wb.cell? ⟨wa.heap.size, 2, none⟩ = some (.int .u64 x.turn) := cell_of_row wb _ 2 _ _ (0, 0) hb2
              have y3 : wb.cell? ⟨wa.heap.size, 3, none⟩ = some (.slice A8 n8 c8) := cell_of_row wb _ 3 _ _ (0, 0) hb2
              have GB2 := Lib.hid (GB1.out.trans gb2)
              clear hb1 hb2 gb2
              go_wp2_with fail
              refine (equal_same (H8.out.below GB2.out (Nat.le_refl _)) (H7.out.below GB2.out (Nat.le_refl _))).mono ?_
              rintro e w19 ⟨rfl, rfl⟩
              have GF := Lib.hid (GI.out.trans GB2.out)
              go_wp2
              go_roundw
              case rel => exact ⟨i + 1, by omega, by go_num, GF.out⟩
              case measure => simp [intOf]; omega
            · obtain rfl : i = j := by omega
              go_wp2
              go_ret
              exact ⟨rfl, GW.out.trans GIW.out⟩
        | false =>
          rintro e w8 ⟨rfl, g8⟩
          have HD := Lib.hid hd; have G8 := Lib.hid (GA.out.trans g8); have L8 := Lib.hid (hL.out.grow g8)
          have s8 := G8.out.size
          clear hd g8
          go_wp2_with fail
          cases hu : dueF f t with
          | false =>
            refine (ask_wait (now := t) L8.out.fis HD.out hu hS.out.wel.asked (by have := hS.out.wel.nowle; omega) (by omega)).mono ?_
            rintro e w9 ⟨rfl, f9, g9⟩
            have S9 := Lib.hid (hS.out.wait hu)
            have L9 := Lib.hid (L8.out.fstep g9 f9 (fun k hk => .inl hk) (fun k hk => .inl hk) s8)
            have G9 := Lib.hid (g9.over G8.out (fun k hk => L8.out.tb k hk))
            clear f9 g9 hu
            go_wp2_with (refine wpList_storeM rfl rfl rfl rfl rfl rfl ?_; intro w10 g10 M10)
            have L10 := Lib.hid (L9.out.grow g10); have G10 := Lib.hid (G9.out.trans g10)
            have hkt' := Lib.hid (show k ≤ 2 * (t + 1) ∧ ms.length ≤ t + 1 by have := hkt.out; omega)
            clear g10 M10
            go_roundw
            case rel => exact ⟨t + 1, k, T, R, N, ms, _, A9, c9, by go_num, rfl, L10, S9, hkt', G10.out⟩
            case measure => simp [intOf]; omega
          | true =>
            refine (ask_q (now := t) L8.out.fis HD.out hu hS.out.wel.asked (by have := hS.out.wel.nowle; omega) (by omega) (by have := hS.out.wel.vain; omega)).mono ?_
            rintro e w9 ⟨too, kd, qop, qdoc, qoff, rfl, hq, f9, g9⟩
            rw [hS.out.wel.me]
            have L9 := Lib.hid (L8.out.fstep g9 f9 (fun k hk => .inl hk) (fun k hk => .inl hk) s8)
            have G9 := Lib.hid (g9.over G8.out (fun k hk => L8.out.tb k hk))
            have HQ1 := Lib.hid hq
            have W9 := Lib.hid hS.out.wel.ask
            have A9x := Lib.hid (show (askF f t).asked ≤ t by rw [askF_asked]; have := hS.out.wel.nowle; omega)
            clear f9 g9 hq hu
            go_wp2_with (refine wpList_storeM rfl rfl rfl rfl rfl rfl ?_; intro w10 g10 M10)
            have L10 := Lib.hid (L9.out.grow g10); have G10 := Lib.hid (G9.out.trans g10)
            have hl0 : w10.cell? ⟨g0 + 1, 0, none⟩ = some (.slice L ln lc) := cell_of_row w10 (g0 + 1) 0 _ _ (0, 0) (row_grow LBr.out G10.out)
            have hlb : g0 + 1 < W0.heap.size := (Array.getElem?_eq_some_iff.1 LBr.out).1
            have M10 := Lib.hid M10
            refine (gone_any L10.out.kc hl0 (by omega) (HLO.out.below (GW.out.trans G10.out) (Nat.le_refl _)) HLG.out (by have := hkt.out; omega)).mono ?_
            rintro e w11 ⟨b, rfl, hb60, gs11, hk11⟩
            have L11 := Lib.hid (L10.out.kstep gs11 hk11)
            have G11 := Lib.hid (gs11.over G10.out (fun k hk => by rw [hk]; exact s6))
            have M11 := Lib.hid (M10.out.keep gs11 (fun e => by have := L9.out.kc.lt; omega))
            clear gs11 hk11 g10 hl0
            cases b with
            | true =>
              have S11 := Lib.hid (hS.out.next GP.out HD.out W9.out A9x.out (k' := k + 1) (Nat.le_refl _) (.inl (by have := hb60 rfl; omega)))
              have hkt' := Lib.hid (show k + 1 ≤ 2 * (t + 1) ∧ ms.length ≤ t + 1 by have := hkt.out; omega)
              clear hb60
              go_wp2
              go_roundw
              case rel => exact ⟨t + 1, k + 1, T, R, N, ms, _, A9, c9, by go_num, rfl, L11, S11, hkt', G11.out⟩
              case measure => simp [intOf]; omega
            | false =>
              clear hb60
              obtain ⟨K, hK⟩ : ∃ K, k + 1 = K := ⟨_, rfl⟩
              rw [hK] at L11
              have HK := Lib.hid hK
              have s11 := G11.out.size
              have LT := Lib.hid L11.out.fis.ltT; have LR := Lib.hid L11.out.fis.ltR; have LO := Lib.hid L11.out.oLt; have LK := Lib.hid L11.out.kc.lt; have LN := Lib.hid (fun j hj => (L11.out.nN j hj).1)
              have LM := Lib.hid M11.out.lt
              clear hK
              go_upto_region 25 with fail
              have M19 := Lib.hid (MsgAt.new w11 0 0 0 0 0 0 (.slice none 0 0) (.slice none 0 0))
              have g12 := Grow.alloc w11 (.cells #[.int .i64 0, .int .u64 0, .int .i64 0, .int .u32 0, .int .u64 0, .int .u64 0, .int .u64 0, .int .u64 0, .int .u64 0, .int .u64 0, .int .u64 0, .int .u32 0, .int .u64 0, .slice none 0 0, .int .u32 0, .int .i64 0, .int .i64 0, .bool false, .slice none 0 0, .slice none 0 0] 42)
              have hs12 : (w11.alloc (.cells #[.int .i64 0, .int .u64 0, .int .i64 0, .int .u32 0, .int .u64 0, .int .u64 0, .int .u64 0, .int .u64 0, .int .u64 0, .int .u64 0, .int .u64 0, .int .u32 0, .int .u64 0, .slice none 0 0, .int .u32 0, .int .i64 0, .int .i64 0, .bool false, .slice none 0 0, .slice none 0 0] 42)).heap.size = w11.heap.size + 1 := Array.size_push _
              generalize w11.alloc (.cells #[.int .i64 0, .int .u64 0, .int .i64 0, .int .u32 0, .int .u64 0, .int .u64 0, .int .u64 0, .int .u64 0, .int .u64 0, .int .u64 0, .int .u64 0, .int .u32 0, .int .u64 0, .slice none 0 0, .int .u32 0, .int .i64 0, .int .i64 0, .bool false, .slice none 0 0, .slice none 0 0] 42) = w12 at *
              obtain ⟨g19, hg19⟩ : ∃ g, w11.heap.size = g := ⟨_, rfl⟩
              rw [hg19] at M19 hs12 s11 LT LR LO LK LN LM ⊢
              have L12 := Lib.hid (L11.out.grow g12); have G12 := Lib.hid (G11.out.trans g12); have M12 := Lib.hid (M11.out.grow g12)
              clear g12 hg19
              have k17 := M12.out.kind
              have ST12 := Lib.hid (STr.out.grow G12.out)
              go_upto_block 4 with fail
              clear k17
              go_cut [11] (fun s W => s = .int .i64 0 ∧ (∃ (N2 : Nat → Prop) (m : Om), Hid (Lp W W0.heap.size kb p q ps (rest.take n') T R N2 (.slice A9 ms.length c9) ms K (askF f t)) ∧ Hid (OmAt W g19 q m) ∧ Hid (Told W N2 ps (rest.take n') m) ∧ Hid (m.kd = 15 → m.doc = 0 ∧ m.off = 0 ∧ m.tot = 0) ∧ Hid (Ans ps (askF f t) m) ∧ Hid (¬ N2 g19)) ∧ Grow W0 W)
              case first =>
                have hq64 := HQ64.out
                have k17 := M12.out.kind
                have f17 : w12.cell? ⟨w9.heap.size, 2, none⟩ = some (.int .i64 3) := M12.out.load 2
                have o17 : w12.cell? ⟨w9.heap.size, 6, none⟩ = some (.int .u64 qop) := M12.out.load 6
                have q3 := ST12.out.opC
                by_cases hn : (askF f t).frm < 0
                · obtain ⟨rfl, rfl, rfl, rfl, rfl⟩ := HQ1.out.none hn
                  have HNEG := Lib.hid hn
                  have hlq : ((f.least : Int) != (q : Int) / 2) = false := by have := hS.out.wel.lst; have := HLS.out; simp; omega
                  clear hn
                  go_wp2_with (refine wpList_loadS rfl rfl rfl ST12.out ?_)
                  refine (srv_plan (me := 5) (SV.out.grow G12.out) (by decide) (by decide)).mono ?_
                  rintro e w13 ⟨A2, n2, c2, B2, m2, d2, rfl, P13, g13⟩
                  have M13 := Lib.hid (M19.out.grow g13)
                  have L13 := Lib.hid ((L12.out.grow g13).wideN (n := w12.heap.size) L12.out.fis.ltT L12.out.kc.lt L12.out.oLt)
                  have P13 := Lib.hid P13; have G13 := Lib.hid (G12.out.trans g13)
                  clear g13 k17 f17 o17 q3 hlq
                  go_wp2_with (refine wpList_restoreM rfl rfl rfl rfl rfl M13.out ?_; intro w14 gs14 M14; have M14 := Lib.hid M14; have GS := Lib.hid gs14; clear gs14)
                  go_meet
                  exact ⟨rfl, ⟨_, ⟨15, 0, 0, 0, .slice A2 n2 c2, .slice B2 m2 d2⟩, L13.out.aside GS.out (fun k hk e => by have := LT.out k hk; omega) (fun k hk e => by have := LR.out k hk; omega) (fun e => by have := LK.out; omega) (fun k hk e => by have := LO.out k hk; omega) (fun k hk e => by
                    rcases hk with hk | hk
                    · have := LN.out k hk; omega
                    · omega), M14, .inl ⟨rfl, A2, n2, c2, B2, m2, d2, rfl, rfl, (P13.out.keep GS.out (fun k hk e => by omega)).mono (fun k hk => .inr hk)⟩, fun _ => ⟨rfl, rfl, rfl⟩, .inl ⟨HNEG.out, rfl⟩, fun hk => by
                    rcases hk with hk | hk
                    · have := LN.out _ hk; omega
                    · omega⟩, GS.out.over G13.out (fun k hk => by omega)⟩
                · have hp : 0 ≤ (askF f t).frm := by omega
                  obtain ⟨i, dd, hi, hdd, hall⟩ := next_at HD.out hp
                  obtain ⟨e1, rfl, e3, e4, rfl⟩ := HQ1.out.some hp hi hdd
                  obtain ⟨hgo, hf5⟩ := W9.out.zs hp
                  have hqq : f.op = q := by
                    rcases askF_goes (f := f) (now := t) with ⟨h1, -⟩ | ⟨-, h2, -⟩
                    · omega
                    · rw [← h2]; exact hgo.op
                  obtain ⟨x, hx1, hx2, hfit⟩ := hgo.at hdd
                  have hdoc : dd.doc = x.doc := hfit.doc
                  have hoff : dd.bs.length ≤ x.bs.length := fit_len hfit
                  rw [hf5] at e1
                  rw [hqq] at e3
                  rw [hdoc] at e4
                  subst e1 e3 e4
                  have HX1 := Lib.hid hx1; have HDD := Lib.hid hdd; have HALL := Lib.hid hall; have HOFF := Lib.hid hoff; have HP := Lib.hid hp
                  clear hn hp hi hdd hall hgo hf5 hqq hx1 hx2 hfit hdoc hoff
                  go_wp2_with (first | refine wpList_loadS rfl rfl rfl ST12.out ?_ | refine wpList_loadM rfl rfl rfl M12.out ?_)
                  refine (srv_piece (me := 5) (frm := 3) (tot := 0) (SV.out.grow G12.out) (by decide) (by decide) HX1.out HOFF.out).mono ?_
                  rintro e w13 ⟨A3, k3, c3, rfl, P13, g13⟩
                  have M13 := Lib.hid (M19.out.grow g13)
                  have L13 := Lib.hid ((L12.out.grow g13).wideN (n := w12.heap.size) L12.out.fis.ltT L12.out.kc.lt L12.out.oLt)
                  have P13 := Lib.hid P13; have G13 := Lib.hid (G12.out.trans g13)
                  clear g13 k17 f17 o17 q3
                  go_wp2_with (refine wpList_restoreM rfl rfl rfl rfl rfl M13.out ?_; intro w14 gs14 M14; have M14 := Lib.hid M14; have GS := Lib.hid gs14; clear gs14)
                  go_meet
                  exact ⟨rfl, ⟨_, ⟨17, x.doc, dd.bs.length, x.bs.length, .slice A3 k3 c3, .slice none 0 0⟩, L13.out.aside GS.out (fun k hk e => by have := LT.out k hk; omega) (fun k hk e => by have := LR.out k hk; omega) (fun e => by have := LK.out; omega) (fun k hk e => by have := LO.out k hk; omega) (fun k hk e => by
                    rcases hk with hk | hk
                    · have := LN.out k hk; omega
                    · omega), M14, .inr ⟨rfl, i, x, dd.bs.length, A3, k3, c3, HX1.out, rfl, rfl, rfl, rfl, rfl, (P13.out.keep GS.out (fun k hk e => by omega)).mono (fun k hk => .inr hk)⟩, (fun h => by cases h), .inr ⟨HP.out, rfl, i, x, dd, HX1.out, HDD.out, HALL.out, rfl, rfl⟩, fun hk => by
                    rcases hk with hk | hk
                    · have := LN.out _ hk; omega
                    · omega⟩, GS.out.over G13.out (fun k hk => by omega)⟩
              case rest =>
              obtain ⟨rfl, ⟨N2, ⟨mk, md, mo, mt, MX, MY⟩, L14, M14, TD14, D14, AN14, NG14⟩, hg14⟩ := hcut
              obtain ⟨Aa, na, ca, Bb, nb, cb, hX, hY⟩ := TD14.out.form
              simp only at hX hY
              subst hX hY
              obtain ⟨w14, rfl⟩ : ∃ x, x = wc := ⟨_, rfl⟩
              have G14 := Lib.hid hg14
              have s14 := hg14.size
              have LG := Lib.hid M14.out.lt
              clear hg14
              go_upto_region 37 with (first
                | (refine wpList_loadM rfl rfl rfl M14.out ?_)
                | (at_builtin
                   refine wpList_appM (q := q) rfl (.tmp 142) (.tmp 144) rfl W0.heap.size _ ms.length ms rfl (own_grow L14.out.row (Grow.alloc _ _)) (some ⟨w14.heap.size, 0, none⟩) 1 1 [⟨mk, md, mo, mt, .slice Aa na ca, .slice Bb nb cb⟩] rfl (lies_om (heap_alloc_new w14 _)) (fun y hy => by rw [List.mem_singleton.1 hy]; exact TD14.out.oc) (by have := hkt.out; omega) (by have := (Grow.alloc w14 (.cells #[.int .i64 mk, .int .u64 0, .int .i64 5, .int .u32 0, .int .u64 0, .int .u64 0, .int .u64 q, .int .u64 0, .int .u64 0, .int .u64 0, .int .u64 0, .int .u32 0, .int .u64 0, .slice none 0 0, .int .u32 md, .int .i64 mo, .int .i64 mt, .bool false, .slice Aa na ca, .slice Bb nb cb] 42)).size; omega) ?_
                   intro B15 c15 w15 own15 gr15 fr15))
              have gn := Grow.alloc w14 (.cells #[.int .i64 mk, .int .u64 0, .int .i64 5, .int .u32 0, .int .u64 0, .int .u64 0, .int .u64 q, .int .u64 0, .int .u64 0, .int .u64 0, .int .u64 0, .int .u32 0, .int .u64 0, .slice none 0 0, .int .u32 md, .int .i64 mo, .int .i64 mt, .bool false, .slice Aa na ca, .slice Bb nb cb] 42)
              have gx := gr15.wide (T := fun j => (Value.slice A9 ms.length c9).ownBlock = some j) (fun j hj => hj)
              have L15 := (L14.out.grow gn).push own15 gr15 fr15 (TD14.out.keep (gn.wide NoRow) (fun _ _ k => k)) D14.out
              have M15 := Lib.hid (show OmAt w15 g19 q ⟨mk, md, mo, mt, .slice Aa na ca, .slice Bb nb cb⟩ from (M14.out.grow gn).keep gx (fun e => by have := LO.out _ e; omega))
              have G15 := Lib.hid (gx.over (G14.out.trans gn) (fun k hk => (L14.out.row.lt k hk).1))
              obtain ⟨ms2, hms2⟩ : ∃ ms2, ms ++ [(⟨mk, md, mo, mt, .slice Aa na ca, .slice Bb nb cb⟩ : Om)] = ms2 := ⟨_, rfl⟩
              rw [hms2] at L15
              have hmem : (⟨mk, md, mo, mt, .slice Aa na ca, .slice Bb nb cb⟩ : Om) ∈ ms2 := by rw [← hms2]; exact List.mem_append_right _ (List.mem_singleton.2 rfl)
              have hm2 : ms2.length = ms.length + 1 := by rw [← hms2, List.length_append]; rfl
              rw [← hm2] at L15 ⊢
              have L15 := Lib.hid L15
              have HMEM := Lib.hid hmem
              have LG15 := Lib.hid M15.out.lt
              clear gn gx own15 gr15 fr15 hms2 hmem
              have hK2 : K ≤ 2000 := by have := HK.out; have := hkt.out; omega
              have hm0 : 0 < ms2.length := by omega
              have hm3 : ms2.length ≤ 1000 := by have := hkt.out; omega
              have HM2 := Lib.hid hm2
              clear hm2
              have ck : w15.cell? ⟨kb, 0, none⟩ = some (.int .i64 K) := cell_of_row w15 kb 0 _ _ (0, 0) L15.out.kc
              go_cut [148] (fun s W => (∃ b : Bool, s = .bool b) ∧ W = w15)
              case first =>
                go_wp2
                go_meet
                exact ⟨⟨_, rfl⟩, rfl⟩
              case rest =>
              obtain ⟨⟨b148, rfl⟩, hw⟩ := hcut
              have hw := hw.symm
              subst hw
              go_upto_if 148 with fail
              go_cut [14] (fun s W => s = .slice B15 ms2.length c15 ∧ (∃ (T2 R2 : Nat → Prop) (f2 : F), Hid (Lp W W0.heap.size kb p q ps (rest.take n') T2 R2 N2 (.slice B15 ms2.length c15) ms2 K f2) ∧ Hid (OmAt W g19 q ⟨mk, md, mo, mt, .slice Aa na ca, .slice Bb nb cb⟩) ∧ Hid (Fed ps q lst hand (rest.take n') (t + 1) (askF f t) f2) ∧ Hid (∀ k, T2 k → k ≠ g19)) ∧ Grow W0 W)
              case first =>
                cases b148 with
                | false =>
                  go_wp2
                  go_meet
                  exact ⟨rfl, ⟨T, R, _, L15, M15, ⟨W9.out, Pg.refl, rfl⟩, fun k hk e => by have := LT.out k hk; omega⟩, G15.out⟩
                | true =>
                  obtain ⟨ix, hix⟩ : ∃ ix, K % ms2.length = ix := ⟨_, rfl⟩
                  have ei : (K : Int) % (ms2.length : Int) = (ix : Int) := by rw [← hix]; rfl
                  have hixl : ix < ms2.length := by rw [← hix]; exact Nat.mod_lt _ hm0
                  have i0 : (0 : Int) ≤ (ix : Int) := by omega
                  have i1 : (ix : Int) < (ms2.length : Int) := by omega
                  obtain ⟨⟨xk, xd, xo, xt, XX, XY⟩, hxm⟩ : ∃ x, ms2[ix]? = some x := ⟨_, List.getElem?_eq_getElem hixl⟩
                  have htx := L15.out.told _ (List.mem_of_getElem? hxm)
                  have HDX := Lib.hid (L15.out.d15 _ (List.mem_of_getElem? hxm))
                  obtain ⟨Ax, nx, cx, Bx, mx, dx, hX, hY⟩ := htx.form
                  simp only at hX hY
                  subst hX hY
                  have HTX := Lib.hid htx; have HXM := Lib.hid hxm
                  obtain ⟨ob, oc, hA⟩ := own_pos L15.out.row hm0
                  injection hA with hA _ hc
                  subst hA hc
                  clear hix hixl htx hxm
                  go_wp2_with (first
                    | refine wpList_loadO (q := q) rfl rfl rfl (Lies.of_own L15.out.row) HXM.out ?_
                    | (refine wpList_storeM rfl rfl rfl rfl rfl rfl ?_; intro w16 g16 M16)
                    | refine wpList_loadM rfl rfl rfl M16 ?_)
                  have s16 := g16.size
                  have M16 := Lib.hid M16
                  have L16 := Lib.hid (L15.out.grow g16); have G16 := Lib.hid (G15.out.trans g16)
                  have T16 := Lib.hid (HTX.out.keep (g16.wide NoRow) (fun _ _ k => k))
                  have M19b := Lib.hid (M15.out.grow g16)
                  clear g16 ck
                  refine (feed_plan L16.out.fis W9.out T16.out (fun k hk => (L16.out.nN k hk).2.1) GP.out HR3.out (by have := HLS.out; omega) HHL.out HOK.out HDX.out).mono ?_
                  rintro e w17 ⟨⟨c17, rfl⟩, T3, R3, f3, gs17, fi17, hT17, hR17, fd17, -⟩
                  have L17 := Lib.hid (L16.out.fstep gs17 fi17 hT17 hR17 (by have := G16.out.size; omega))
                  have G17 := Lib.hid (gs17.over G16.out (fun k hk => L16.out.tb k hk))
                  have FD17 := Lib.hid fd17
                  have T17 := Lib.hid (T16.out.keep gs17 (fun k hk => (L16.out.nN k hk).2.1))
                  have M17 := Lib.hid (M19b.out.keep gs17 (fun ht => by have := LT.out _ ht; omega))
                  have M16r := Lib.hid (M16.out.keep gs17 (fun ht => by have := LT.out _ ht; have := LG15.out; omega))
                  have LT17 := Lib.hid (show ∀ k, T3 k → k < g19 ∨ w16.heap.size ≤ k from fun k hk => by
                    rcases hT17 k hk with h | h
                    · exact .inl (LT.out k h)
                    · exact .inr h)
                  have LM16 := Lib.hid M16.out.lt
                  have s17 := G17.out.size
                  clear gs17 fi17 hT17 hR17 fd17
                  go_wp2_with (refine wpList_loadM rfl rfl rfl M16r.out ?_)
                  refine (feed_take L17.out.fis FD17.out.wel T17.out (fun k hk => (L17.out.nN k hk).2.1) GP.out).mono ?_
                  rintro e w18 ⟨⟨c18, rfl⟩, T4, R4, f4, gs18, fi18, hT18, hR18, fd18, -⟩
                  have L18 := Lib.hid (L17.out.fstep gs18 fi18 hT18 hR18 (by omega))
                  have G18 := Lib.hid (gs18.over G17.out (fun k hk => L17.out.tb k hk))
                  have FD18 := Lib.hid (FD17.out.trans fd18)
                  have M18 := Lib.hid (M17.out.keep gs18 (fun ht => by have := LG15.out; rcases LT17.out _ ht with h | h <;> omega))
                  have TG18 := Lib.hid (show ∀ k, T4 k → k ≠ g19 from fun k hk e => by
                    have := M17.out.lt
                    have := LG15.out
                    rcases hT18 k hk with h | h
                    · rcases LT17.out k h with h | h <;> omega
                    · omega)
                  clear gs18 fi18 hT18 hR18 fd18
                  go_wp2
                  go_meet
                  exact ⟨rfl, ⟨T4, R4, f4, L18, M18, FD18, TG18⟩, G18.out⟩
              case rest =>
              obtain ⟨rfl, ⟨T2, R2, f2, L16, M16, FD16, TG16⟩, hg16⟩ := hcut
              obtain ⟨w16, rfl⟩ : ∃ x, x = wc := ⟨_, rfl⟩
              have G16 := Lib.hid hg16
              clear hg16 ck
              go_wp2_with fail
              have hl0 : w16.cell? ⟨g0 + 1, 0, none⟩ = some (.slice L ln lc) := cell_of_row w16 (g0 + 1) 0 _ _ (0, 0) (row_grow LBr.out G16.out)
              refine (gone_any L16.out.kc hl0 (by omega) (HLO.out.below (GW.out.trans G16.out) (Nat.le_refl _)) HLG.out (by omega)).mono ?_
              rintro e w17 ⟨b, rfl, hb60, gs17, hk17⟩
              have L17 := Lib.hid (L16.out.kstep gs17 hk17)
              have G17 := Lib.hid (gs17.over G16.out (fun k hk => by rw [hk]; exact s6))
              have M17 := Lib.hid (M16.out.keep gs17 (fun e => by have := LK.out; omega))
              clear gs17 hk17 hl0
              cases b with
              | true =>
                have S17 := Lib.hid (hS.out.next GP.out HD.out FD16.out.wel (by rw [FD16.out.asked]; exact A9x.out) (k' := K + 1) (by have := HK.out; omega) (.inl (by have := hb60 rfl; have := HK.out; omega)))
                have hkt' := Lib.hid (show K + 1 ≤ 2 * (t + 1) ∧ ms2.length ≤ t + 1 by have := hkt.out; have := HK.out; have := HM2.out; omega)
                clear hb60
                go_wp2
                go_roundw
                case rel => exact ⟨t + 1, K + 1, T2, R2, N2, ms2, _, B15, c15, by go_num, rfl, L17, S17, hkt', G17.out⟩
                case measure => simp [intOf]; omega
              | false =>
                clear hb60
                have hkt' := Lib.hid (show K + 1 ≤ 2 * (t + 1) ∧ ms2.length ≤ t + 1 by have := hkt.out; have := HK.out; have := HM2.out; omega)
                have TM17 := Lib.hid (L17.out.told _ HMEM.out); have DM17 := Lib.hid (L17.out.d15 _ HMEM.out)
                have s17 := G17.out.size
                have ck := M17.out.kind
                rcases AN14.out with ⟨hneg, hmk⟩ | ⟨hpos, hmk, hans⟩
                · simp only at hmk
                  have HNEG := Lib.hid hneg; have HMK := Lib.hid hmk
                  rw [hmk] at ck
                  clear hneg hmk
                  go_wp2_with (refine wpList_loadM rfl rfl rfl M17.out ?_)
                  refine (feed_plan L17.out.fis FD16.out.wel TM17.out (fun k hk => (L17.out.nN k hk).2.1) GP.out HR3.out (by have := HLS.out; omega) HHL.out HOK.out DM17.out).mono ?_
                  rintro e w18 ⟨⟨c18, rfl⟩, T5, R5, f5, gs18, fi18, hT18, hR18, fd18, hx18⟩
                  have L18 := Lib.hid (L17.out.fstep gs18 fi18 hT18 hR18 (by omega))
                  have G18 := Lib.hid (gs18.over G17.out (fun k hk => L17.out.tb k hk))
                  have FD18 := Lib.hid (FD16.out.trans fd18)
                  have S18 := Lib.hid (hS.out.next GP.out HD.out FD18.out.wel (by rw [FD18.out.asked]; exact A9x.out) (k' := K + 1) (by have := HK.out; omega) (.inr (fed_last FD16.out.pg fd18.pg askF_fr (fun e => hx18 (by rw [e]; exact HNEG.out) HMK.out))))
                  clear gs18 fi18 hT18 hR18 fd18 hx18 ck
                  go_wp2
                  go_roundw
                  case rel => exact ⟨t + 1, K + 1, T5, R5, N2, ms2, _, B15, c15, by go_num, rfl, L18, S18, hkt', G18.out⟩
                  case measure => simp [intOf]; omega
                · simp only at hmk
                  have HPOS := Lib.hid hpos; have HANS := Lib.hid (show Ans ps (askF f t) ⟨mk, md, mo, mt, .slice Aa na ca, .slice Bb nb cb⟩ from .inr ⟨hpos, hmk, hans⟩)
                  rw [hmk] at ck
                  clear hpos hmk hans
                  go_wp2_with (refine wpList_loadM rfl rfl rfl M17.out ?_)
                  refine (feed_take L17.out.fis FD16.out.wel TM17.out (fun k hk => (L17.out.nN k hk).2.1) GP.out).mono ?_
                  rintro e w18 ⟨⟨c18, rfl⟩, T5, R5, f5, gs18, fi18, hT18, hR18, fd18, hx18⟩
                  have L18 := Lib.hid (L17.out.fstep gs18 fi18 hT18 hR18 (by omega))
                  have G18 := Lib.hid (gs18.over G17.out (fun k hk => L17.out.tb k hk))
                  have FD18 := Lib.hid (FD16.out.trans fd18)
                  have S18 := Lib.hid (hS.out.next GP.out HD.out FD18.out.wel (by rw [FD18.out.asked]; exact A9x.out) (k' := K + 1) (by have := HK.out; omega) (.inr (fed_last FD16.out.pg fd18.pg askF_fr (fun e => hx18 (by rw [e]; exact HPOS.out) (by rw [e]; exact HANS.out)))))
                  clear gs18 fi18 hT18 hR18 fd18 hx18 ck
                  go_wp2
                  go_roundw
                  case rel => exact ⟨t + 1, K + 1, T5, R5, N2, ms2, _, B15, c15, by go_num, rfl, L18, S18, hkt', G18.out⟩
                  case measure => simp [intOf]; omega
end Go.Proofs.Ytlnokohmmhmoaaa

