/-
  lazy: LazyApart, walked.
-/
import Derived.Test.YtlnokohmmhmoaaaLFewI
import Derived.Test.YtlnokohmmhmoaaaLQ
namespace Go.Proofs.Ytlnokohmmhmoaaa
open Go.RowKit
set_option linter.unusedSimpArgs false

set_option maxRecDepth 100000 in
set_option maxHeartbeats 8000000 in
theorem lazyApart_ok {op n c m d hn hc at0 : Nat} {A B H : Option Addr} {rest : List Nat} {l : List (Pt × Value)} {hs : List Bool} {R0 : Nat → Prop} {w : World} (hL : BytesAt w R0 (.slice A n c) rest) (hP : PsAt w R0 B m d l) (hR0 : ∀ k, R0 k → k < w.heap.size)
    (hH : Lies w 1 H hn hc (hs.map .bool)) (hat : at0 < 256) (hW : ∀ x ∈ l, x.1.rev < 18446744073709551616 ∧ x.1.turn < 18446744073709551616) :
    Calls Try.prog 3 #[.agg #[.int .u64 op, .slice A n c, .slice B m d], .slice H hn hc, .int .u8 at0] w fun e w' => e = .returned (.bool true) ∧ Grow w w' := by
  obtain ⟨hLL, hLn, hLR⟩ := hL.len
  have HLr := Lib.hid hLR; have HLL := Lib.hid hLL; have HP := Lib.hid hP; have HR0 := Lib.hid hR0; have HH := Lib.hid hH; have HW := Lib.hid hW; have HLn := Lib.hid hLn
  clear hLL hLn hLR hP hR0 hH hW hL
  go_enter Try.func3, Try.ntmps3
  go_wp2_with (refine wpList_loadS rfl rfl rfl (StAt.new w op (.slice A n c) (.slice B m d)) ?_)
  have ST1 := StAt.new w op (.slice A n c) (.slice B m d)
  have g1 := Grow.alloc w (.cells #[.int .u64 op, .slice A n c, .slice B m d] 26)
  generalize w.alloc (.cells #[.int .u64 op, .slice A n c, .slice B m d] 26) = w1 at *
  have S1 := ST1.lt
  obtain ⟨g0, hg0⟩ : ∃ g, w.heap.size = g := ⟨_, rfl⟩
  rw [hg0] at ST1 S1 ⊢
  have HG0 := Lib.hid hg0
  refine (proper_any (HLL.out.below g1 (Nat.le_refl _)) (HP.out.grow g1) (fun k hk => Nat.lt_of_lt_of_le (HR0.out k hk) g1.size)).mono ?_
  rintro e w2 ⟨q, n', B', m', d', l', rfl, hq, hn', o2, hE2, hM2, g2⟩
  have ST2 := ST1.grow g2
  have O2 := Lib.hid o2; have E2 := Lib.hid hE2; have M2 := Lib.hid hM2; have HN' := Lib.hid hn'; have G2 := Lib.hid (g1.trans g2); have HQ := Lib.hid hq
  have G1 := Lib.hid g1
  have S2 := g2.size
  clear ST1 o2 hE2 hM2 hn' hq g1 g2 hg0
  have z0 : (g0 : Nat) < w2.heap.size := ST2.lt
  have HST2 := Lib.hid ST2
  clear ST2
  go_wp2_with (refine wpList_restoreS rfl rfl rfl rfl rfl HST2.out ?_; intro w3 gs3 ST3; have d3 := ST3.docs)
  have G3 := Lib.hid (gs3.over G2.out (fun k hk => by rw [hk, ← HG0.out]; exact Nat.le_refl _))
  have O3 := Lib.hid (gs3.own O2.out (fun k hk e => by have := (O2.out.lt k hk).1; omega))
  have E3 := Lib.hid (show ∀ x ∈ l', BytesAt w3 R0 x.2 x.1.bs from fun x hx => (E2.out x hx).keep gs3 (fun k hk e => by have := HR0.out k hk; have := HG0.out; omega))
  have HST3 := Lib.hid ST3
  have S3 := gs3.size
  obtain ⟨ps, hps⟩ : ∃ ps, properP (l.map (·.1)) = ps := ⟨_, rfl⟩
  have hnum : Numbered ps := by rw [← hps]; exact properP_numbered _
  have hp20 : ps.length ≤ 20 := by rw [← hps]; exact properP_len _
  have hpb : ∀ x ∈ ps, x.bs.length ≤ 300 ∧ PWf x := fun x hx => by
    rw [← hps] at hx
    obtain ⟨h1, y, hy, h2, h3, -⟩ := properP_mem hx
    obtain ⟨z, hz, rfl⟩ := List.mem_map.1 hy
    have := HW.out z hz
    obtain ⟨i, hi⟩ := List.getElem?_of_mem hx
    have := properP_numbered _ i x hi
    have := (List.getElem?_eq_some_iff.1 hi).1
    have := properP_len (l.map (·.1))
    exact ⟨h1, by omega, by omega, by omega, by omega⟩
  have hml : l'.map (·.1) = ps := M2.out.trans hps
  have hm' : l'.length = m' := Lies.flat_n pcell_len (by decide) (Lies.of_own O2.out)
  have hpm : ps.length = m' := by rw [← hml, List.length_map, hm']
  have hr300 : (rest.take n').length ≤ 300 := by rw [List.length_take]; have := HN'.out; omega
  have GP := Lib.hid (show GoodPs ps from ⟨hnum, hp20, fun x hx => (hpb x hx).1, fun x hx => (hpb x hx).2⟩)
  have HML := Lib.hid hml; have HM' := Lib.hid hm'; have HPM := Lib.hid hpm; have HR3 := Lib.hid hr300
  have hm20 : m' ≤ 20 := by omega
  obtain ⟨gf, hgf⟩ : ∃ gf : Nat → Bool, (fun i => hs.getD i false) = gf := ⟨_, rfl⟩
  have HGF := Lib.hid hgf
  have ehl : hs.length = hn := by have := HH.out.len; rw [List.length_map, Nat.mul_one] at this; exact this
  have EHL := Lib.hid ehl
  clear gs3 ST3 hps hnum hp20 hpb hml hm' hpm hr300 hgf ehl M2 E2
  go_loopw [7, 34] (fun o i wr => ∃ (j : Nat) (A1 : Option Addr) (e1 : Nat), j ≤ m' ∧ i = .int .i64 j ∧ o = .slice A1 (ownJ gf l' j).length e1 ∧ Hid (wr.ownsRow w3.heap.size 31 4 (.slice A1 (ownJ gf l' j).length e1) (ownJ gf l' j).length ((ownJ gf l' j).flatMap pcell)) ∧ GrowS (fun k => w3.heap.size ≤ k) w3 wr) (fun _ i _ => m' - (intOf i).toNat)
  case atStart => exact ⟨0, none, 0, Nat.zero_le _, rfl, rfl, World.ownsRow_nil _ _ _ _, GrowS.refl _ _⟩
  case round =>
    obtain ⟨j, A1, e1, hj, rfl, rfl, hO, hg⟩ := hrel
    have GR := Lib.hid hg
    have GW := Lib.hid (hg.over G3.out (fun k hk => Nat.le_trans G3.out.size hk))
    have GW3 := Lib.hid (hg.grow (fun k hk h => by omega))
    clear hg
    by_cases hlt : j < m'
    · obtain ⟨⟨x, v⟩, hx⟩ : ∃ x, l'[j]? = some x := ⟨_, List.getElem?_eq_getElem (by have := HM'.out; omega)⟩
      obtain ⟨A7, k, c7, hv, L7, hR7⟩ := (E3.out _ (List.mem_of_getElem? hx)).lies
      simp only at hv L7
      subst hv
      have O3r := Lib.hid (GR.out.own O3.out (fun g hg => by have := (O3.out.lt g hg).2; omega))
      obtain ⟨gd, cd, hA4⟩ := own_pos O3r.out (by omega)
      injection hA4 with hA4 _ hc4
      subst hA4 hc4
      have x0 := Lies.flat_cell (j := 0) pcell_len (Lies.of_own O3r.out) hx rfl
      have x1 := Lies.flat_cell (j := 1) pcell_len (Lies.of_own O3r.out) hx rfl
      have x2 := Lies.flat_cell (j := 2) pcell_len (Lies.of_own O3r.out) hx rfl
      have x3 := Lies.flat_cell (j := 3) pcell_len (Lies.of_own O3r.out) hx rfl
      simp only [Nat.add_zero, Nat.zero_add] at x0 x1 x2 x3
      have hk3 : x.bs.length = k := L7.bytes_len
      have hpx : ps[j]? = some x := by rw [← HML.out, List.getElem?_map, hx]; rfl
      have hk300 : k ≤ 300 := by rw [← hk3]; exact GP.out.bs x (List.mem_of_getElem? hpx)
      have HX := Lib.hid hx; have HK3 := Lib.hid hk3; have HPX := Lib.hid hpx
      have hol := ownJ_len (g := gf) (l := l') j
      have i0 : (0 : Int) ≤ (j : Int) := by omega
      clear hx L7 hR7 hk3 hpx d3
      go_upto_region 6 with fail
      have hbox := heap_alloc_new wr (.cells #[.int .u32 x.doc, .int .u64 x.rev, .int .u64 x.turn, .slice A7 k c7] 31)
      have ga := Grow.alloc wr (.cells #[.int .u32 x.doc, .int .u64 x.rev, .int .u64 x.turn, .slice A7 k c7] 31)
      generalize wr.alloc _ = wa at *
      have BX := Lib.hid hbox; have GA := Lib.hid ga
      clear hbox ga x0 x1 x2 x3
      go_cut [48] (fun s W => s = .bool (gf j) ∧ W = wa)
      case first =>
        by_cases hjn : j < hn
        · have j0 : (j : Int) < (hn : Int) := by omega
          obtain ⟨hb, ho, rfl, -, -⟩ := HH.out.pos (by omega) (by decide)
          have hv : hs[j]? = some (gf j) := by
            rw [← HGF.out]
            simp only [List.getD_eq_getElem?_getD]
            rw [List.getElem?_eq_getElem (by have := EHL.out; omega)]
            rfl
          have b0 := ((HH.out.below (GW.out.trans GA.out) (Nat.le_refl _)).cells _ rfl j (.bool (gf j)) (by rw [List.getElem?_map, hv]; rfl))
          rw [add_none] at b0
          go_wp2
          go_meet
          exact ⟨rfl, rfl⟩
        · have j0 : ¬ ((j : Int) < (hn : Int)) := by omega
          have hv : gf j = false := by
            rw [← HGF.out]
            simp only [List.getD_eq_getElem?_getD]
            rw [List.getElem?_eq_none (by have := EHL.out; omega)]
            rfl
          go_wp2
          go_meet
          exact ⟨by rw [hv], rfl⟩
      case rest =>
        obtain ⟨rfl, rfl⟩ := hcut
        have z0 : wc.cell? ⟨wr.heap.size, 0, none⟩ = some (.int .u32 x.doc) := cell_of_row wc _ 0 _ _ (0, 0) BX.out
        have z1 : wc.cell? ⟨wr.heap.size, 1, none⟩ = some (.int .u64 x.rev) := cell_of_row wc _ 1 _ _ (0, 0) BX.out
        have z2 : wc.cell? ⟨wr.heap.size, 2, none⟩ = some (.int .u64 x.turn) := cell_of_row wc _ 2 _ _ (0, 0) BX.out
        have z3 : wc.cell? ⟨wr.heap.size, 3, none⟩ = some (.slice A7 k c7) := cell_of_row wc _ 3 _ _ (0, 0) BX.out
        cases hb : gf j with
        | true =>
          have HB := Lib.hid hb
          clear hb
          go_wp2_with (
            at_builtin
            refine wpList_appPt rfl (.tmp 49) (.tmp 51) rfl w3.heap.size _ (ownJ gf l' j).length (ownJ gf l' j) rfl (own_grow (own_grow hO.out GA.out) (Grow.alloc _ _)) (some ⟨wc.heap.size, 0, none⟩) 1 1 [(x, .slice A7 k c7)] rfl (lies_pt (x := x) (heap_alloc_new wc (.cells #[.int .u32 x.doc, .int .u64 x.rev, .int .u64 x.turn, .slice A7 k c7] 31))) (by intro x hx; simp at hx; subst hx; rfl) (by omega) (by have := GA.out.size; have := GR.out.size; simp; omega) ?_
            intro B2 e2 w5 own5 gr5)
          have e : ownJ gf l' (j + 1) = ownJ gf l' j ++ [(x, .slice A7 k c7)] := ownJ_yes HX.out HB.out
          have el : (ownJ gf l' (j + 1)).length = (ownJ gf l' j).length + 1 := by rw [e]; simp
          have O5 := Lib.hid own5
          rw [← e, ← el] at O5
          have G5 := Lib.hid ((GR.out.trans ((GA.out.trans (Grow.alloc wc _)).wide _)).trans (gr5.wide (fun k hk => (hO.out.lt k hk).1)))
          rw [← el]
          clear own5 gr5 e el z0 z1 z2 z3
          go_wp2
          go_roundw
          case rel => exact ⟨j + 1, B2, e2, by omega, by go_num, rfl, O5, G5.out⟩
          case measure => simp [intOf]; omega
        | false =>
          have e : ownJ gf l' (j + 1) = ownJ gf l' j := ownJ_no HX.out hb
          have O5 := Lib.hid (own_grow hO.out GA.out)
          rw [← e] at O5 ⊢
          have G5 := Lib.hid (GR.out.trans (GA.out.wide _))
          clear hb e
          go_wp2
          go_roundw
          case rel => exact ⟨j + 1, A1, e1, by omega, by go_num, rfl, O5, G5.out⟩
          case measure => simp [intOf]; omega
    · obtain rfl : j = m' := by omega
      clear d3
      go_wp2_with fail
      have hpj := HPM.out
      have EO := Lib.hid (show (ownJ gf l' j).map (·.1) = ownJ gf ps ps.length by rw [hpj, ← HML.out]; exact ownJ_map (fun x : Pt × Value => x.1) j)
      have PO := Lib.hid (show PsAt wr (fun k => k < wr.heap.size) A1 (ownJ gf l' j).length e1 (ownJ gf l' j) from ⟨Lies.of_own hO.out, fun a ha _ => (hO.out.lt _ (own_addr hO.out a ha)).2, fun x hx => by
        obtain ⟨i, -, hi, -⟩ := ownJ_mem hx
        exact ((E3.out x (List.mem_of_getElem? hi)).grow GW3.out).mono (fun k hk => by have := HR0.out k hk; have := GW.out.size; omega)⟩)
      have SV := Lib.hid (show Srv wr (fun k => k < wr.heap.size) (.slice A n' c) (.slice B' j d') (rest.take n') ps from by
        have hle : n' ≤ n := by have := HN'.out; omega
        refine ⟨⟨A, n', c, rfl, (HLL.out.below GW.out (Nat.le_refl _)).takeb n' hle, fun a ha h0 => ?_⟩, HR3.out, ⟨B', j, d', l', rfl, ⟨Lies.of_own (own_grow O3.out GW3.out), fun a ha _ => ?_, fun x hx => ?_⟩, HML.out⟩, GP.out⟩
        · have := HR0.out _ (HLr.out a ha (by omega)); have := GW.out.size; omega
        · have := (O3.out.lt _ (own_addr O3.out a ha)).2; have := GW3.out.size; omega
        · exact ((E3.out x hx).grow GW3.out).mono (fun k hk => by have := HR0.out k hk; have := GW.out.size; omega))
      have STr := Lib.hid (HST3.out.grow GW3.out)
      have hgN : g0 < wr.heap.size := by have := GW3.out.size; omega
      refine (fnew_ok (me := 0) (least := 0) (by decide) (by decide) PO.out (fun k hk => hk) (by rw [EO.out]; exact ownJ_rises GP.out.num _) (fun x hx => by
        have : x.1 ∈ (ownJ gf l' j).map (·.1) := List.mem_map_of_mem hx
        rw [EO.out] at this
        obtain ⟨i, -, hi, -⟩ := ownJ_mem this
        exact GP.out.wf _ (List.mem_of_getElem? hi)) (by have := ownJ_len (g := gf) (l := l') j; omega)).mono ?_
      rw [EO.out]
      rintro e w5 ⟨p, T0, R1, rfl, f5, hT5, -, g5⟩
      have F5 := Lib.hid f5; have T5 := Lib.hid hT5; have G5 := Lib.hid g5
      clear f5 hT5 g5
      go_wp2_with fail
      refine awake_ok.mono ?_
      rintro e w6 ⟨rfl, g6⟩
      have F6 := Lib.hid (F5.out.grow g6); have G6 := Lib.hid (G5.out.trans g6)
      clear g6
      go_wp2_with fail
      have STr6 := STr.out
      obtain ⟨W0, rfl⟩ : ∃ W0, W0 = wr := ⟨_, rfl⟩
      go_loopw [12, 13] (fun gv iv W => ∃ (asks : Nat) (f : F) (gp : Nat) (T R : Nat → Prop), gv = .pointer (some ⟨gp, 0, none⟩) ∧ iv = .int .i64 asks ∧ Hid (FewInv gf ps q (rest.take n') asks f) ∧ Hid (FIs W T R p f) ∧ Hid (∀ k, T k → W0.heap.size ≤ k) ∧ Hid (Twin W W0.heap.size p gp T R f) ∧ Grow W0 W) (fun _ iv _ => 102 - (intOf iv).toNat)
      case atStart => exact ⟨0, _, p, T0, R1, rfl, rfl, FewInv.start, F6, T5, .inl rfl, G6.out⟩
      case round =>
        obtain ⟨asks, f, gp, T, R, rfl, rfl, hI, hF, hT, hTw, hg⟩ := hrel
        have GA := Lib.hid hg
        clear hg
        have hal : asks ≤ 101 := hI.out.le GP.out
        go_wp2_with fail
        refine (fdone_any hF.out).mono ?_
        cases hd : doneF f with
        | true =>
          rintro e w7 ⟨rfl, g7⟩
          have HD := Lib.hid hd; have G7 := Lib.hid (GA.out.trans g7); have F7 := Lib.hid (hF.out.grow g7); have TW7 := Lib.hid (hTw.out.grow g7)
          clear hd g7
          obtain ⟨hrl, hbl⟩ : f.rest.length ≤ 1000 ∧ ∀ d ∈ f.docs, d.bs.length ≤ 100000 := by
            rcases hI.out.goes with ⟨-, h3⟩ | ⟨-, -, zs, h1, -, -⟩
            · have := (doneF_all HD.out).1
              omega
            · refine ⟨by rw [h1.rest]; have := HR3.out; omega, fun d hd => ?_⟩
              have := h1.bsle (k := 300) GP.out.bs d hd
              omega
          have HRL := Lib.hid hrl; have HBL := Lib.hid hbl
          clear hrl hbl
          go_wp2_with fail
          refine (state_ok F7.out HD.out HRL.out (by have := hI.out.dl; omega) HBL.out).mono ?_
          rintro e w8 ⟨A2, c2, B2, e2, l2, rfl, o8, p8, hl8, g8⟩
          have P8 := Lib.hid p8; have HL8 := Lib.hid hl8; have G8 := Lib.hid (G7.out.trans g8); have TW8 := Lib.hid (TW7.out.grow g8); have F8 := Lib.hid (F7.out.grow g8)
          clear o8 p8 hl8 g8
          go_wp2_with (refine wpList_storeS rfl rfl rfl rfl rfl rfl ?_; intro w9 g9 S9)
          obtain ⟨T2, R2, h9⟩ := (TW8.out.grow g9).is (F8.out.grow g9)
          have F9 := Lib.hid h9; have P9 := Lib.hid (P8.out.grow g9); have G9 := Lib.hid (G8.out.trans g9); have S9 := Lib.hid S9
          have s9 := g9.size
          clear g9 h9
          refine (state_ok F9.out HD.out HRL.out (by have := hI.out.dl; omega) HBL.out).mono ?_
          rintro e w10 ⟨A3, c3, B3, e3, l3, rfl, o10, p10, hl10, g10⟩
          have P10 := Lib.hid p10; have HL10 := Lib.hid hl10; have G10 := Lib.hid (G9.out.trans g10); have S10 := Lib.hid (S9.out.grow g10); have P9x := Lib.hid (P9.out.grow g10)
          have s10 := g10.size
          clear o10 p10 hl10 g10
          go_upto_region 37 with (refine wpList_storeS rfl rfl rfl rfl rfl rfl ?_; intro w11 g11 S11)
          have P11 := Lib.hid (P10.out.grow g11); have G11 := Lib.hid (G10.out.trans g11); have P11x := Lib.hid (P9x.out.grow g11)
          have a0 := (S10.out.grow g11).opC; have a2 := (S10.out.grow g11).docs
          have b0 := S11.opC; have b2 := S11.docs
          have SA := Lib.hid (S10.out.grow g11); have SB := Lib.hid S11
          clear g11 S11
          go_wp2_with fail
          clear a0 a2 b0 b2
          go_loopw [179] (fun iv W => ∃ k : Nat, k ≤ f.docs.length ∧ iv = .int .i64 k ∧ Grow w11 W) (fun iv _ => f.docs.length - (intOf iv).toNat)
          case atStart => exact ⟨0, Nat.zero_le _, rfl, Grow.refl _⟩
          case round =>
            obtain ⟨k, hk, rfl, hg⟩ := hrel
            have GI := Lib.hid hg
            have hdl := hI.out.dl
            clear hg
            by_cases hlt : k < f.docs.length
            · have hl2 : l2.length = f.docs.length := Lies.flat_n pcell_len (by decide) P11x.out.row
              have hl3 : l3.length = f.docs.length := Lies.flat_n pcell_len (by decide) P11.out.row
              obtain ⟨⟨x2, v2⟩, hx2⟩ : ∃ x, l2[k]? = some x := ⟨_, List.getElem?_eq_getElem (by omega)⟩
              obtain ⟨⟨x3, v3⟩, hx3⟩ : ∃ x, l3[k]? = some x := ⟨_, List.getElem?_eq_getElem (by omega)⟩
              have hxx : x2 = x3 := by
                have h2 : (l2.map (·.1))[k]? = some x2 := by rw [List.getElem?_map, hx2]; rfl
                have h3 : (l3.map (·.1))[k]? = some x3 := by rw [List.getElem?_map, hx3]; rfl
                rw [HL8.out] at h2
                rw [HL10.out, h2] at h3
                injection h3
              subst hxx
              obtain ⟨A7, n7, c7, hv2, L7, -⟩ := (P11x.out.each _ (List.mem_of_getElem? hx2)).lies
              obtain ⟨A8, n8, c8, hv3, L8, -⟩ := (P11.out.each _ (List.mem_of_getElem? hx3)).lies
              simp only at hv2 hv3 L7 L8
              subst hv2 hv3
              obtain ⟨g2, o2, hA2, -, -⟩ := P11x.out.row.pos (by omega) (by decide)
              obtain ⟨g3, o3, hA3, -, -⟩ := P11.out.row.pos (by omega) (by decide)
              subst hA2 hA3
              have X := fun (V : World) (g : Grow wr V) => Lies.flat_cell (j := 3) pcell_len (P11x.out.row.below (GI.out.trans g) (Nat.le_refl _)) hx2 rfl
              have Y := fun (V : World) (g : Grow wr V) => Lies.flat_cell (j := 3) pcell_len (P11.out.row.below (GI.out.trans g) (Nat.le_refl _)) hx3 rfl
              have sa := fun (V : World) (g : Grow wr V) => (SA.out.grow (GI.out.trans g)).docs
              have sb := fun (V : World) (g : Grow wr V) => (SB.out.grow (GI.out.trans g)).docs
              have H7 := Lib.hid (L7.below GI.out (Nat.le_refl _)); have H8 := Lib.hid (L8.below GI.out (Nat.le_refl _))
              have i0 : (0 : Int) ≤ (k : Int) := by omega
              have i1 : (k : Int) < (f.docs.length : Int) := by omega
              clear hx2 hx3 L7 L8
              go_upto_region 42 with fail
              refine Chain.start Nat (by kernel_rfl) (by kernel_rfl) (fun hg => ?_)
              repeat (first | (refine Chain.skip hg (fun t => by rfl) ?_; simp only [Act.put, List.setIfInBounds_toArray, List.set_cons_zero, List.set_cons_succ]) | (refine Chain.pure hg (X := ?_) (fun t W hw hN => ⟨by rfl, ?_⟩) ?_; rotate_left; (focus (go_simp <;> with_reducible rfl)); simp only [Act.put, List.setIfInBounds_toArray, List.set_cons_zero, List.set_cons_succ]))
              refine Chain.grow hg (fun _ => .bool true) (fun _ _ => True) (fun _ _ _ h _ => h) (fun _ => by rfl) (fun t W hw hN K hK => ?_) ?_
              · go_simp; refine (equal_same (H7.out.below hw (Nat.le_refl _)) (H8.out.below hw (Nat.le_refl _))).mono ?_; rintro e w19 ⟨rfl, rfl⟩; exact hK.out default _ (Grow.refl _) trivial
              simp only [Act.put, List.setIfInBounds_toArray, List.set_cons_zero, List.set_cons_succ]
              repeat (first | (refine Chain.skip hg (fun t => by rfl) ?_; simp only [Act.put, List.setIfInBounds_toArray, List.set_cons_zero, List.set_cons_succ]) | (refine Chain.pure hg (X := ?_) (fun t W hw hN => ⟨by rfl, ?_⟩) ?_; rotate_left; (focus (go_simp <;> with_reducible rfl)); simp only [Act.put, List.setIfInBounds_toArray, List.set_cons_zero, List.set_cons_succ]))
              refine Chain.done (fun t V hw hN => ?_)
              clear hN hg X Y sa sb
              have GV := Lib.hid (GI.out.trans hw)
              clear hw
              go_wp2
              go_roundw
              case rel => exact ⟨k + 1, by omega, by go_num, GV.out⟩
              case measure => simp [intOf]; omega
            · obtain rfl : k = f.docs.length := by omega
              go_wp2
              go_ret
              exact ⟨rfl, GW.out.trans (G11.out.trans GI.out)⟩
        | false =>
          rintro e w7 ⟨rfl, g7⟩
          have HD := Lib.hid hd; have G7 := Lib.hid (GA.out.trans g7); have F7 := Lib.hid (hF.out.grow g7); have TW7 := Lib.hid (hTw.out.grow g7)
          clear hd g7
          have ha3 : (asks : Int) < 1000 := by omega
          go_upto_region 16 with fail
          go_cut [79] (fun s W => (∃ b : Bool, s = .bool b) ∧ W = w7)
          case first =>
            go_wp2
            go_meet
            exact ⟨⟨_, rfl⟩, rfl⟩
          case rest =>
          obtain ⟨⟨b79, rfl⟩, hw⟩ := hcut
          have hw := hw.symm
          subst hw
          go_upto_if 79 with fail
          go_cut [12] (fun s W => ∃ gp' : Nat, s = .pointer (some ⟨gp', 0, none⟩) ∧ Hid (Twin W W0.heap.size p gp' T R f) ∧ Grow w7 W)
          case first =>
            cases b79 with
            | false =>
              go_wp2
              go_meet
              exact ⟨gp, rfl, TW7, Grow.refl _⟩
            | true =>
              go_wp2_with fail
              refine (copy_ok F7.out (by have := hI.out.dl; omega)).mono ?_
              rintro e w8 ⟨p2, T2, rfl, f8, hT2, g8⟩
              have TW8 := Lib.hid (Twin.copy (b := W0.heap.size) F7.out f8 hT2 G7.out.size)
              have G8 := Lib.hid g8
              clear f8 hT2 g8
              go_wp2
              go_meet
              exact ⟨p2, rfl, TW8, G8.out⟩
          case rest =>
          obtain ⟨gp', rfl, TW8, g8⟩ := hcut
          obtain ⟨w8, rfl⟩ : ∃ x, x = wc := ⟨_, rfl⟩
          have G8 := Lib.hid (G7.out.trans g8); have F8 := Lib.hid (F7.out.grow g8)
          clear g8
          go_wp2_with fail
          refine (ask_q (now := 0) F8.out HD.out (by unfold dueF; rw [hI.out.fresh]; rfl) (by rw [hI.out.asked]; exact Nat.zero_le _) (by rw [hI.out.now]; decide) (by decide) (by rw [hI.out.vain]; decide)).mono ?_
          rintro e w9 ⟨too, kd, qop, qdoc, qoff, rfl, hq, f9, g9⟩
          rw [hI.out.me]
          have TW9 := Lib.hid (TW8.out.step g9 (fun k hk => .inl hk) (fun k hk => .inl hk))
          have G9 := Lib.hid (g9.over G8.out (fun k hk => hT.out k hk))
          have F9 := Lib.hid f9
          have HQ1 := Lib.hid hq
          clear f9 g9 hq
          go_upto_region 21 with (refine wpList_storeM rfl rfl rfl rfl rfl rfl ?_; intro w10 g10 M10)
          have s9 := G9.out.size
          have s10 := g10.size
          have TW10 := Lib.hid (TW9.out.grow g10); have F10 := Lib.hid (F9.out.grow g10); have G10 := Lib.hid (G9.out.trans g10); have GS10 := Lib.hid g10
          have LT10 := Lib.hid (show ∀ k, T k → k < w9.heap.size from F9.out.ltT)
          have M10 := Lib.hid M10
          clear g10
          go_cut [92] (fun s W => s = .bool (decide (gp' ≠ p)) ∧ W = w10)
          case first =>
            have ne := TW10.out.neq F10.out
            go_wp2
            go_meet
            exact ⟨by simp, rfl⟩
          case rest =>
          obtain ⟨rfl, hw⟩ := hcut
          have hw := hw.symm
          subst hw
          go_upto_if 92 with fail
          go_cut [12] (fun s W => s = .pointer (some ⟨gp', 0, none⟩) ∧ Hid (FIs W T R p (askF f 0)) ∧ Hid (MsgAt W w9.heap.size kd 0 qop qdoc qoff 0 (.slice none 0 0) (.slice none 0 0)) ∧ Hid (Twin W W0.heap.size p gp' T R (askF f 0)) ∧ Grow W0 W)
          case first =>
            rcases TW9.out with h | ⟨h, T2, R2, h0, h2, h3, h4, h5⟩
            · have h0 : decide (gp' ≠ p) = false := by simp [h]
              simp only [h0]
              have HP := Lib.hid h
              clear h h0
              go_wp2
              go_meet
              exact ⟨rfl, F10, M10, .inl HP.out, G10.out⟩
            · have LT2 := Lib.hid h0.ltT
              have h1 := h0.grow GS10.out
              clear h0
              have h0 : decide (gp' ≠ p) = true := by simp [h]
              simp only [h0]
              have HN := Lib.hid h; have H1 := Lib.hid h1; have H2 := Lib.hid h2; have H3 := Lib.hid h3; have H4 := Lib.hid h4; have H5 := Lib.hid h5
              have L1 := Lib.hid (show T2 gp' from h1.pT)
              clear h h0 h1 h2 h3 h4 h5
              go_wp2_with fail
              refine (ask_q (now := 0) H1.out HD.out (by unfold dueF; rw [hI.out.fresh]; rfl) (by rw [hI.out.asked]; exact Nat.zero_le _) (by rw [hI.out.now]; decide) (by decide) (by rw [hI.out.vain]; decide)).mono ?_
              rintro e w11 ⟨too2, kd2, qop2, qdoc2, qoff2, rfl, hq2, f11, g11⟩
              obtain ⟨e1, e2, e3, e4, e5⟩ := HQ1.out.det hq2
              subst e1 e2 e3 e4 e5
              rw [hI.out.me]
              have G11 := Lib.hid (g11.over G10.out (fun k hk => H2.out k hk))
              have F11 := Lib.hid (F10.out.keep g11 (fun k hk => H3.out k hk) (fun k hk => H4.out k hk))
              have FG11 := Lib.hid f11
              have M11 := Lib.hid (M10.out.keep g11 (fun ht => by have := LT2.out _ ht; omega))
              clear hq2 f11 g11
              go_wp2_with (first | (refine wpList_storeM rfl rfl rfl rfl rfl rfl ?_; intro w12 g12 M12; have M12r := M11.out.grow g12) | (refine wpList_unguard (by rfl) ?_; refine wpList_loadM rfl rfl rfl M12r ?_) | (refine wpList_unguard (by rfl) ?_; refine wpList_loadM rfl rfl rfl M12 ?_))
              refine msame_ask.mono ?_
              rintro e w13 ⟨rfl, g13⟩
              have GG := Lib.hid (g12.trans g13)
              have MM := Lib.hid (M12r.grow g13)
              clear g12 g13 M12 M12r
              go_wp2
              go_meet
              exact ⟨rfl, F11.out.grow GG.out, MM, .inr ⟨HN.out, T2, R2, FG11.out.grow GG.out, H2.out, H3.out, H4.out, H5.out⟩, G11.out.trans GG.out⟩
          case rest =>
          obtain ⟨rfl, F11, M11, TW11, hg11⟩ := hcut
          obtain ⟨w11, rfl⟩ : ∃ x, x = wc := ⟨_, rfl⟩
          have G11 := Lib.hid hg11
          have s11 := hg11.size
          have LT11 := Lib.hid F11.out.ltT
          have LG11 := Lib.hid M11.out.lt
          clear hg11
          go_wp2_with fail
          refine (copy_ok F11.out (by rw [hI.out.ask]; have := hI.out.dl; show f.docs.length ≤ 1000; omega)).mono ?_
          rintro e w12 ⟨p3, T3, rfl, f12, hT3, g12⟩
          have F12 := Lib.hid f12; have HT3 := Lib.hid hT3; have G12 := Lib.hid (G11.out.trans g12); have LT12 := Lib.hid f12.ltT
          have s12 := g12.size
          have K12 := Lib.hid g12
          clear f12 hT3 g12
          have ST12 := Lib.hid (STr.out.grow G12.out)
          go_wp2_with (refine wpList_loadS rfl rfl rfl ST12.out ?_)
          refine (srv_plan (me := 1) (SV.out.grow G12.out) (by decide) (by decide)).mono ?_
          rintro e w13 ⟨A2, n2, c2, B2, m2, d2, rfl, P13, g13⟩
          have PL13 := Lib.hid (P13.mono (N' := fun k => w12.heap.size ≤ k) (fun k hk => hk.1))
          have s13 := g13.size
          have G13 := Lib.hid (G12.out.trans g13); have K13 := Lib.hid g13
          clear P13 g13
          go_upto_if 116 with (refine wpList_storeM rfl rfl rfl rfl rfl rfl ?_; intro w14 g14 M14; have k14 := ((M11.out.grow (K12.out.trans K13.out)).grow g14).kind)
          have s14 := g14.size
          have M14 := Lib.hid M14; have G14 := Lib.hid (G13.out.trans g14); have K14 := Lib.hid (K13.out.trans g14); have PL14 := Lib.hid (PL13.out.grow g14)
          have M11x := Lib.hid ((M11.out.grow (K12.out.trans K13.out)).grow g14)
          have LG14 := Lib.hid M14.out.lt
          clear g14 k14
          go_cut [22] (fun s W => s = .int .i64 0 ∧ (∃ f' : F, Hid (Next W (fun k => w12.heap.size ≤ k) w13.heap.size ps q (rest.take n') (askF f 0) f') ∧ Hid (FewInv gf ps q (rest.take n') (asks + 1) f')) ∧ GrowS (fun k => k = w13.heap.size) w14 W)
          case first =>
            by_cases hn : (askF f 0).frm < 0
            · obtain ⟨rfl, rfl, rfl, rfl, rfl⟩ := HQ1.out.none hn
              have hfn : f.frm < 0 := by have h := hn; rw [hI.out.ask] at h; exact h
              have NX := Lib.hid (show Next w14 (fun k => w12.heap.size ≤ k) w13.heap.size ps q (rest.take n') (askF f 0) (planF (askF f 0) 1 q (rest.take n') (ps.map dcOf)) from .inl ⟨hn, rfl, A2, n2, c2, B2, m2, d2, M14.out, PL14.out⟩)
              have IX := Lib.hid (hI.out.plan GP.out hfn)
              clear hn hfn
              go_wp2
              go_meet
              exact ⟨rfl, ⟨_, NX, IX⟩, GrowS.refl _ _⟩
            · have hp : 0 ≤ (askF f 0).frm := by omega
              obtain ⟨i, dd, hi, hdd, hall⟩ := next_at HD.out hp
              obtain ⟨rfl, rfl, e3, e4, rfl⟩ := HQ1.out.some hp hi hdd
              have hfn : 0 ≤ f.frm := by have h := hp; rw [hI.out.ask] at h; exact h
              obtain ⟨h1, zs, hgo, hno, hne⟩ := hI.out.zs hfn
              obtain ⟨x, hx1, hx2, hfit⟩ := hgo.at hdd
              have hdoc : dd.doc = x.doc := hfit.doc
              have hoff : dd.bs.length ≤ x.bs.length := fit_len hfit
              have hfq : f.op = q := by have h := hgo.op; rw [hI.out.ask] at h; exact h
              rw [hfq] at e3
              rw [hdoc] at e4
              subst e3 e4
              have I12 := Lib.hid (hI.out.take h1 hgo hno hne hx2 hall)
              have HGO := Lib.hid hgo; have HX1 := Lib.hid hx1; have HD8 := Lib.hid hdd; have HALL := Lib.hid hall; have HOFF := Lib.hid hoff; have HP := Lib.hid hp
              clear hp hfn h1 hgo hno hne hi hdd hall hx1 hx2 hfit hdoc hoff hfq hn
              have ST14 := Lib.hid (STr.out.grow G14.out)
              go_wp2_with (first | refine wpList_loadS rfl rfl rfl ST14.out ?_ | refine wpList_loadM rfl rfl rfl M11x.out ?_)
              refine (srv_piece (me := 1) (frm := 0) (tot := 0) (SV.out.grow G14.out) (by decide) (by decide) HX1.out HOFF.out).mono ?_
              rintro e w15 ⟨A3, k3, c3, rfl, b15, g15⟩
              have M15 := Lib.hid (M14.out.grow g15); have B15 := Lib.hid b15; have G15 := Lib.hid g15
              clear b15 g15
              go_wp2_with (refine wpList_restoreM rfl rfl rfl rfl rfl M15.out ?_; intro w16 gs16 M16; have GS16 := Lib.hid gs16; have M16 := Lib.hid M16; clear gs16)
              go_meet
              exact ⟨rfl, ⟨_, .inr ⟨HP.out, zs, i, x, dd, A3, k3, c3, HGO.out, HX1.out, HD8.out, HALL.out, rfl, M16.out, (B15.out.keep GS16.out (fun k hk e => by have := hk.1; have := LG14.out; omega)).mono (fun k hk => by have := hk.1; omega)⟩, I12⟩, (G15.out.wide _).trans GS16.out⟩
          case rest =>
          obtain ⟨rfl, ⟨f', NX, I17⟩, gs17⟩ := hcut
          obtain ⟨w17, rfl⟩ : ∃ x, x = wc := ⟨_, rfl⟩
          have s17 := gs17.size
          have G17 := Lib.hid (gs17.over K14.out (fun k hk => by omega))
          have F17 := Lib.hid (F12.out.grow G17.out)
          clear gs17
          have hle : (askF f 0).least ≤ q := by rw [hI.out.ask]; show f.least ≤ q; rw [hI.out.least]; exact Nat.zero_le _
          have hme : (1 : Int) ≠ (askF f 0).me := by rw [hI.out.ask]; show (1 : Int) ≠ f.me; rw [hI.out.me]; decide
          have hhl : ∀ x ∈ (askF f 0).hand, x.bs.length ≤ 1000 := fun x hx => by
            rw [hI.out.ask] at hx
            have hx : x ∈ f.hand := hx
            rw [hI.out.hand] at hx
            obtain ⟨i, -, hi, -⟩ := ownJ_mem hx
            have := GP.out.bs x (List.mem_of_getElem? hi)
            omega
          have HLE := Lib.hid hle; have HME := Lib.hid hme; have HHL := Lib.hid hhl
          clear hle hme hhl
          go_wp2_with fail
          refine (take_clo F17.out NX.out (fun k hk ht => by have := LT12.out _ ht; omega) GP.out HR3.out HLE.out HME.out HHL.out).mono ?_
          rintro e w18 ⟨rfl, g18, -⟩
          have G18 := Lib.hid (g18.over (K12.out.trans G17.out) (fun k hk => HT3.out k hk))
          have s18 := g18.size
          have F18 := Lib.hid (F11.out.grow G18.out); have TW18 := Lib.hid (TW11.out.grow G18.out)
          have NX18 := Lib.hid (NX.out.keep g18 (fun k hk ht => by have := LT12.out _ ht; omega) (fun ht => by have := LT12.out _ ht; omega))
          clear g18
          go_wp2_with fail
          refine (take_clo F18.out NX18.out (fun k hk ht => by have := LT11.out _ ht; omega) GP.out HR3.out HLE.out HME.out HHL.out).mono ?_
          rintro e w19 ⟨rfl, g19, T', R', f19, hT19, hR19⟩
          have s19 := g19.size
          have NX19 := Lib.hid (NX18.out.keep g19 (fun k hk ht => by have := LT11.out _ ht; omega) (fun ht => by have := LT11.out _ ht; omega))
          have G19 := Lib.hid (g19.over (G11.out.trans G18.out) (fun k hk => hT.out k hk))
          have F19 := Lib.hid f19
          have HT19 := Lib.hid (show ∀ k, T' k → W0.heap.size ≤ k from fun k hk => by
            rcases hT19 k hk with h | h
            · exact hT.out k h
            · have := G11.out.size; omega)
          have TW19 := Lib.hid (TW18.out.step g19 hT19 hR19)
          have GS19 := Lib.hid g19; have H19 := Lib.hid hT19; have J19 := Lib.hid hR19; have GR18 := Lib.hid (G18.out)
          have LT19 := Lib.hid f19.ltT; have LR19 := Lib.hid f19.ltR
          have s11b := G18.out.size
          clear f19 g19 hT19 hR19
          have ne := TW19.out.neq F19.out
          rcases TW11.out with h | ⟨h, T2, R2, h1, h2, h3, h4, h5⟩
          · have h0 : decide (gp' ≠ p) = false := by simp [h]
            rw [h0] at ne
            have HP := Lib.hid h
            clear h h0
            go_wp2
            go_roundw
            case rel => exact ⟨asks + 1, f', gp', T', R', rfl, by go_num, I17, F19, HT19, .inl HP.out, G19.out⟩
            case measure => simp [intOf]; omega
          · have h0 : decide (gp' ≠ p) = true := by simp [h]
            rw [h0] at ne
            have LT2 := Lib.hid h1.ltT; have LR2 := Lib.hid h1.ltR
            have H1 := Lib.hid ((h1.grow G18.out).keep GS19.out (fun k hk ht => h3 k ht hk) (fun k hk ht => h5 k hk ht))
            have HN := Lib.hid h; have H2 := Lib.hid h2
            have H3 := Lib.hid (show ∀ k, T' k → ¬ T2 k from fun k hk ht => by
              rcases H19.out k hk with h7 | h7
              · exact h3 k h7 ht
              · have := LT2.out k ht; omega)
            have H4 := Lib.hid (show ∀ k, R' k → ¬ T2 k from fun k hk ht => by
              rcases J19.out k hk with h7 | h7
              · exact h4 k h7 ht
              · have := LT2.out k ht; omega)
            have H5 := Lib.hid (show ∀ k, R2 k → ¬ T' k from fun k hk ht => by
              rcases H19.out k ht with h7 | h7
              · exact h5 k hk h7
              · have := LR2.out k hk; omega)
            clear h h0 h1 h2 h3 h4 h5
            go_wp2_with fail
            refine (take_clo H1.out NX19.out (fun k hk ht => by have := LT2.out _ ht; omega) GP.out HR3.out HLE.out HME.out HHL.out).mono ?_
            rintro e w20 ⟨rfl, g20, T4, R4, f20, hT20, hR20⟩
            have F20 := Lib.hid (F19.out.keep g20 H3.out H4.out)
            have G20 := Lib.hid (g20.over G19.out (fun k hk => H2.out k hk))
            have TW20 := Lib.hid (show Twin w20 W0.heap.size p gp' T' R' f' from .inr ⟨HN.out, T4, R4, f20, fun k hk => (by
              rcases hT20 k hk with h7 | h7
              · exact H2.out k h7
              · have := G19.out.size; omega), fun k hk ht => (by
              rcases hT20 k ht with h7 | h7
              · exact H3.out k hk h7
              · have := LT19.out k hk; omega), fun k hk ht => (by
              rcases hT20 k ht with h7 | h7
              · exact H4.out k hk h7
              · have := LR19.out k hk; omega), fun k hk ht => (by
              rcases hR20 k hk with h7 | h7
              · exact H5.out k h7 ht
              · have := LT19.out k ht; omega)⟩)
            clear f20 g20 hT20 hR20
            go_wp2
            go_roundw
            case rel => exact ⟨asks + 1, f', gp', T', R', rfl, by go_num, I17, F20, HT19, TW20, G20.out⟩
            case measure => simp [intOf]; omega
end Go.Proofs.Ytlnokohmmhmoaaa

