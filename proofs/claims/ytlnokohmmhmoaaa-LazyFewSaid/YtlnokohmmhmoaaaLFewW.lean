/-
  lazy: LazyFew, walked.
-/
import Derived.Test.YtlnokohmmhmoaaaLOwn
namespace Go.Proofs.Ytlnokohmmhmoaaa
open Go.RowKit
set_option linter.unusedSimpArgs false

structure FewInv (gf : Nat → Bool) (ps : List Pt) (q : Nat) (rest : List Nat) (asks : Nat) (f : F) : Prop where
  me : f.me = 0
  least : f.least = 0
  hand : f.hand = ownJ gf ps ps.length
  vain : f.vain = 0
  now : f.now = 0
  asked : f.asked = 0
  fresh : f.fresh = true
  goes : (asks = 0 ∧ f.frm = -1) ∨ (1 ≤ asks ∧ f.frm = 1 ∧ ∃ zs, Goes ps 1 q rest f zs ∧ NotOwn (ownJ gf ps ps.length) zs ∧ asks + needs zs = wantJ gf ps ps.length)
section
variable {gf : Nat → Bool} {ps : List Pt} {q asks : Nat} {rest : List Nat} {f : F}
theorem FewInv.start : FewInv gf ps q rest 0 (newF 0 0 (ownJ gf ps ps.length)) := ⟨rfl, rfl, rfl, rfl, rfl, rfl, rfl, .inl ⟨rfl, rfl⟩⟩
theorem FewInv.ask (h : FewInv gf ps q rest asks f) : askF f 0 = { f with now := 0, asked := 0, fresh := false } := by
  rw [askF_fresh 0 h.fresh h.vain, h.now]
  rfl
theorem FewInv.le (h : FewInv gf ps q rest asks f) (hg : GoodPs ps) : asks ≤ 101 := by
  have h1 := wantJ_le (g := gf) hg.bs ps.length
  have h2 := hg.len
  rcases h.goes with ⟨h3, -⟩ | ⟨-, -, zs, -, -, h3⟩ <;> omega
theorem FewInv.done (h : FewInv gf ps q rest asks f) (hd : doneF f = true) : asks = wantJ gf ps ps.length := by
  rcases h.goes with ⟨-, h3⟩ | ⟨-, -, zs, h1, -, h3⟩
  · have := (doneF_all hd).1
    omega
  · rw [h1.doneNeeds hd] at h3
    exact h3
theorem FewInv.plan (h : FewInv gf ps q rest asks f) (hg : GoodPs ps) (hneg : f.frm < 0) : FewInv gf ps q rest (asks + 1) (planF (askF f 0) 1 q rest (ps.map dcOf)) := by
  have h0 : asks = 0 := by
    rcases h.goes with ⟨h3, -⟩ | ⟨-, h3, -⟩
    · exact h3
    · omega
  subst h0
  rw [h.ask]
  refine ⟨h.me, h.least, h.hand, rfl, rfl, rfl, rfl, .inr ⟨Nat.le_refl _, rfl, planZ (ownJ gf ps ps.length) ps, ?_, notOwn_plan hg.num, ?_⟩⟩
  · have hz : planZ f.hand ps = planZ (ownJ gf ps ps.length) ps := by rw [h.hand]
    rw [← hz]
    exact goes_plan (ps := ps) (f := { f with now := 0, asked := 0, fresh := false }) 1 q rest (by show HandOk f.hand ps; rw [h.hand]; exact ownJ_ok hg.num _)
  · have := wants_all (g := gf) hg.num
    omega
theorem FewInv.zs (h : FewInv gf ps q rest asks f) (h0 : 0 ≤ f.frm) : f.frm = 1 ∧ ∃ zs, Goes ps 1 q rest (askF f 0) zs ∧ NotOwn (ownJ gf ps ps.length) zs ∧ asks + needs zs = wantJ gf ps ps.length := by
  rcases h.goes with ⟨-, h3⟩ | ⟨-, h1, zs, h2, h3, h4⟩
  · omega
  · rw [h.ask]
    exact ⟨h1, zs, h2.same rfl rfl rfl rfl, h3, h4⟩
theorem FewInv.take (h : FewInv gf ps q rest asks f) {zs : List (Pt × Dt)} (h1 : f.frm = 1) (h2 : Goes ps 1 q rest (askF f 0) zs) (h3 : NotOwn (ownJ gf ps ps.length) zs) (h4 : asks + needs zs = wantJ gf ps ps.length) {i : Nat} {x : Pt} {d : Dt} (hz : zs[i]? = some (x, d)) (ha : d.all = false) :
    FewInv gf ps q rest (asks + 1) (takeF (askF f 0) i d (pieceB x d.bs.length) x.bs.length) := by
  obtain ⟨g1, g2⟩ := h2.take hz ha
  rw [h.ask] at g1 ⊢
  exact ⟨h.me, h.least, h.hand, rfl, rfl, rfl, rfl, .inr ⟨by omega, h1, _, g1, h3.set hz ha, by omega⟩⟩
end
set_option maxRecDepth 100000 in
set_option maxHeartbeats 8000000 in
theorem lazyFew_ok {op n c m d hn hc : Nat} {A B H : Option Addr} {rest : List Nat} {l : List (Pt × Value)} {hs : List Bool} {R0 : Nat → Prop} {w : World} (hL : BytesAt w R0 (.slice A n c) rest) (hP : PsAt w R0 B m d l) (hR0 : ∀ k, R0 k → k < w.heap.size)
    (hH : Lies w 1 H hn hc (hs.map .bool)) (hW : ∀ x ∈ l, x.1.rev < 18446744073709551616 ∧ x.1.turn < 18446744073709551616) :
    Calls Try.prog 4 #[.agg #[.int .u64 op, .slice A n c, .slice B m d], .slice H hn hc] w fun e w' => e = .returned (.bool true) ∧ Grow w w' := by
  obtain ⟨hLL, hLn, hLR⟩ := hL.len
  have HLr := Lib.hid hLR; have HLL := Lib.hid hLL; have HP := Lib.hid hP; have HR0 := Lib.hid hR0; have HH := Lib.hid hH; have HW := Lib.hid hW; have HLn := Lib.hid hLn
  clear hLL hLn hLR hP hR0 hH hW hL
  go_enter Try.func4, Try.ntmps4
  go_wp2_with (refine wpList_loadS rfl rfl rfl (StAt.new w op (.slice A n c) (.slice B m d)) ?_)
  have ST1 := StAt.new w op (.slice A n c) (.slice B m d)
  have g1 := Grow.alloc w (.cells #[.int .u64 op, .slice A n c, .slice B m d] 26)
  generalize w.alloc (.cells #[.int .u64 op, .slice A n c, .slice B m d] 26) = w1 at *
  have S1 := ST1.lt
  obtain ⟨g0, hg0⟩ : ∃ g, w.heap.size = g := ⟨_, rfl⟩
  rw [hg0] at ST1 S1 ⊢
  have HG0 := Lib.hid hg0
  refine (proper_any (HLL.out.below g1 (Nat.le_refl _)) (HP.out.grow g1) (fun k hk => Nat.lt_of_lt_of_le (HR0.out k hk) g1.size)).mono ?_
  rintro e w2 ⟨q, n', B', m', d', l', rfl, hq, hn', o2, hE2, hM2, g2⟩
  have ST2 := ST1.grow g2
  have O2 := Lib.hid o2; have E2 := Lib.hid hE2; have M2 := Lib.hid hM2; have HN' := Lib.hid hn'; have G2 := Lib.hid (g1.trans g2); have HQ := Lib.hid hq
  have G1 := Lib.hid g1
  have S2 := g2.size
  clear ST1 o2 hE2 hM2 hn' hq g1 g2 hg0
  have z0 : (g0 : Nat) < w2.heap.size := ST2.lt
  have HST2 := Lib.hid ST2
  clear ST2
  go_wp2_with (refine wpList_restoreS rfl rfl rfl rfl rfl HST2.out ?_; intro w3 gs3 ST3; have d3 := ST3.docs)
  have G3 := Lib.hid (gs3.over G2.out (fun k hk => by rw [hk, ← HG0.out]; exact Nat.le_refl _))
  have O3 := Lib.hid (gs3.own O2.out (fun k hk e => by have := (O2.out.lt k hk).1; omega))
  have E3 := Lib.hid (show ∀ x ∈ l', BytesAt w3 R0 x.2 x.1.bs from fun x hx => (E2.out x hx).keep gs3 (fun k hk e => by have := HR0.out k hk; have := HG0.out; omega))
  have HST3 := Lib.hid ST3
  have S3 := gs3.size
  obtain ⟨ps, hps⟩ : ∃ ps, properP (l.map (·.1)) = ps := ⟨_, rfl⟩
  have hnum : Numbered ps := by rw [← hps]; exact properP_numbered _
  have hp20 : ps.length ≤ 20 := by rw [← hps]; exact properP_len _
  have hpb : ∀ x ∈ ps, x.bs.length ≤ 300 ∧ PWf x := fun x hx => by
    rw [← hps] at hx
    obtain ⟨h1, y, hy, h2, h3, -⟩ := properP_mem hx
    obtain ⟨z, hz, rfl⟩ := List.mem_map.1 hy
    have := HW.out z hz
    obtain ⟨i, hi⟩ := List.getElem?_of_mem hx
    have := properP_numbered _ i x hi
    have := (List.getElem?_eq_some_iff.1 hi).1
    have := properP_len (l.map (·.1))
    exact ⟨h1, by omega, by omega, by omega, by omega⟩
  have hml : l'.map (·.1) = ps := M2.out.trans hps
  have hm' : l'.length = m' := Lies.flat_n pcell_len (by decide) (Lies.of_own O2.out)
  have hpm : ps.length = m' := by rw [← hml, List.length_map, hm']
  have hr300 : (rest.take n').length ≤ 300 := by rw [List.length_take]; have := HN'.out; omega
  have GP := Lib.hid (show GoodPs ps from ⟨hnum, hp20, fun x hx => (hpb x hx).1, fun x hx => (hpb x hx).2⟩)
  have HML := Lib.hid hml; have HM' := Lib.hid hm'; have HPM := Lib.hid hpm; have HR3 := Lib.hid hr300
  have hm20 : m' ≤ 20 := by omega
  obtain ⟨gf, hgf⟩ : ∃ gf : Nat → Bool, (fun i => hs.getD i false) = gf := ⟨_, rfl⟩
  have HGF := Lib.hid hgf
  have ehl : hs.length = hn := by have := HH.out.len; rw [List.length_map, Nat.mul_one] at this; exact this
  have EHL := Lib.hid ehl
  clear gs3 ST3 hps hnum hp20 hpb hml hm' hpm hr300 hgf ehl M2 E2
  go_loopw [5, 6, 29] (fun o v i wr => ∃ (j : Nat) (A1 : Option Addr) (e1 : Nat), j ≤ m' ∧ i = .int .i64 j ∧ v = .int .i64 (wantJ gf ps j) ∧ o = .slice A1 (ownJ gf l' j).length e1 ∧ Hid (wr.ownsRow w3.heap.size 31 4 (.slice A1 (ownJ gf l' j).length e1) (ownJ gf l' j).length ((ownJ gf l' j).flatMap pcell)) ∧ GrowS (fun k => w3.heap.size ≤ k) w3 wr) (fun _ _ i _ => m' - (intOf i).toNat)
  case atStart => exact ⟨0, none, 0, Nat.zero_le _, rfl, rfl, rfl, World.ownsRow_nil _ _ _ _, GrowS.refl _ _⟩
  case round =>
    obtain ⟨j, A1, e1, hj, rfl, rfl, rfl, hO, hg⟩ := hrel
    have GR := Lib.hid hg
    have GW := Lib.hid (hg.over G3.out (fun k hk => Nat.le_trans G3.out.size hk))
    have GW3 := Lib.hid (hg.grow (fun k hk h => by omega))
    clear hg
    by_cases hlt : j < m'
    · obtain ⟨⟨x, v⟩, hx⟩ : ∃ x, l'[j]? = some x := ⟨_, List.getElem?_eq_getElem (by have := HM'.out; omega)⟩
      obtain ⟨A7, k, c7, hv, L7, hR7⟩ := (E3.out _ (List.mem_of_getElem? hx)).lies
      simp only at hv L7
      subst hv
      have O3r := Lib.hid (GR.out.own O3.out (fun g hg => by have := (O3.out.lt g hg).2; omega))
      obtain ⟨gd, cd, hA4⟩ := own_pos O3r.out (by omega)
      injection hA4 with hA4 _ hc4
      subst hA4 hc4
      have x0 := Lies.flat_cell (j := 0) pcell_len (Lies.of_own O3r.out) hx rfl
      have x1 := Lies.flat_cell (j := 1) pcell_len (Lies.of_own O3r.out) hx rfl
      have x2 := Lies.flat_cell (j := 2) pcell_len (Lies.of_own O3r.out) hx rfl
      have x3 := Lies.flat_cell (j := 3) pcell_len (Lies.of_own O3r.out) hx rfl
      simp only [Nat.add_zero, Nat.zero_add] at x0 x1 x2 x3
      have hk3 : x.bs.length = k := L7.bytes_len
      have hpx : ps[j]? = some x := by rw [← HML.out, List.getElem?_map, hx]; rfl
      have hk300 : k ≤ 300 := by rw [← hk3]; exact GP.out.bs x (List.mem_of_getElem? hpx)
      have HX := Lib.hid hx; have HK3 := Lib.hid hk3; have HPX := Lib.hid hpx
      have hwl := wantJ_le (g := gf) GP.out.bs j
      have hol := ownJ_len (g := gf) (l := l') j
      have i0 : (0 : Int) ≤ (j : Int) := by omega
      clear hx L7 hR7 hk3 hpx d3
      go_upto_region 7 with fail
      have hbox := heap_alloc_new wr (.cells #[.int .u32 x.doc, .int .u64 x.rev, .int .u64 x.turn, .slice A7 k c7] 31)
      have ga := Grow.alloc wr (.cells #[.int .u32 x.doc, .int .u64 x.rev, .int .u64 x.turn, .slice A7 k c7] 31)
      generalize wr.alloc _ = wa at *
      have BX := Lib.hid hbox; have GA := Lib.hid ga
      clear hbox ga x0 x1 x2 x3
      go_cut [43] (fun s W => s = .bool (gf j) ∧ W = wa)
      case first =>
        by_cases hjn : j < hn
        · have j0 : (j : Int) < (hn : Int) := by omega
          obtain ⟨hb, ho, rfl, -, -⟩ := HH.out.pos (by omega) (by decide)
          have hv : hs[j]? = some (gf j) := by
            rw [← HGF.out]
            simp only [List.getD_eq_getElem?_getD]
            rw [List.getElem?_eq_getElem (by have := EHL.out; omega)]
            rfl
          have b0 := ((HH.out.below (GW.out.trans GA.out) (Nat.le_refl _)).cells _ rfl j (.bool (gf j)) (by rw [List.getElem?_map, hv]; rfl))
          rw [add_none] at b0
          go_wp2
          go_meet
          exact ⟨rfl, rfl⟩
        · have j0 : ¬ ((j : Int) < (hn : Int)) := by omega
          have hv : gf j = false := by
            rw [← HGF.out]
            simp only [List.getD_eq_getElem?_getD]
            rw [List.getElem?_eq_none (by have := EHL.out; omega)]
            rfl
          go_wp2
          go_meet
          exact ⟨by rw [hv], rfl⟩
      case rest =>
        obtain ⟨rfl, rfl⟩ := hcut
        have z0 : wc.cell? ⟨wr.heap.size, 0, none⟩ = some (.int .u32 x.doc) := cell_of_row wc _ 0 _ _ (0, 0) BX.out
        have z1 : wc.cell? ⟨wr.heap.size, 1, none⟩ = some (.int .u64 x.rev) := cell_of_row wc _ 1 _ _ (0, 0) BX.out
        have z2 : wc.cell? ⟨wr.heap.size, 2, none⟩ = some (.int .u64 x.turn) := cell_of_row wc _ 2 _ _ (0, 0) BX.out
        have z3 : wc.cell? ⟨wr.heap.size, 3, none⟩ = some (.slice A7 k c7) := cell_of_row wc _ 3 _ _ (0, 0) BX.out
        cases hb : gf j with
        | true =>
          have HB := Lib.hid hb
          clear hb
          go_wp2_with (
            at_builtin
            refine wpList_appPt rfl (.tmp 44) (.tmp 46) rfl w3.heap.size _ (ownJ gf l' j).length (ownJ gf l' j) rfl (own_grow (own_grow hO.out GA.out) (Grow.alloc _ _)) (some ⟨wc.heap.size, 0, none⟩) 1 1 [(x, .slice A7 k c7)] rfl (lies_pt (x := x) (heap_alloc_new wc (.cells #[.int .u32 x.doc, .int .u64 x.rev, .int .u64 x.turn, .slice A7 k c7] 31))) (by intro x hx; simp at hx; subst hx; rfl) (by omega) (by have := GA.out.size; have := GR.out.size; simp; omega) ?_
            intro B2 e2 w5 own5 gr5)
          have e : ownJ gf l' (j + 1) = ownJ gf l' j ++ [(x, .slice A7 k c7)] := ownJ_yes HX.out HB.out
          have el : (ownJ gf l' (j + 1)).length = (ownJ gf l' j).length + 1 := by rw [e]; simp
          have ew : wantJ gf ps (j + 1) = wantJ gf ps j := by simp [wantJ, HPX.out, want1, HB.out]
          have O5 := Lib.hid own5
          rw [← e, ← el] at O5
          have G5 := Lib.hid ((GR.out.trans ((GA.out.trans (Grow.alloc wc _)).wide _)).trans (gr5.wide (fun k hk => (hO.out.lt k hk).1)))
          rw [← el]
          have EW := Lib.hid ew
          clear own5 gr5 e el ew z0 z1 z2 z3
          go_wp2
          go_roundw
          case rel => exact ⟨j + 1, B2, e2, by omega, by go_num, by rw [EW.out], rfl, O5, G5.out⟩
          case measure => simp [intOf]; omega
        | false =>
          have e : ownJ gf l' (j + 1) = ownJ gf l' j := ownJ_no HX.out hb
          have ew : wantJ gf ps (j + 1) = wantJ gf ps j + max ((k + 63) / 64) 1 := by simp [wantJ, HPX.out, want1, hb, HK3.out]
          have O5 := Lib.hid (own_grow hO.out GA.out)
          rw [← e] at O5 ⊢
          have G5 := Lib.hid (GR.out.trans (GA.out.wide _))
          have EW := Lib.hid ew
          clear hb e ew
          go_wp2
          go_roundw
          case rel => exact ⟨j + 1, A1, e1, by omega, by go_num, by rw [EW.out]; congr 1; split <;> omega, rfl, O5, G5.out⟩
          case measure => simp [intOf]; omega
    · obtain rfl : j = m' := by omega
      clear d3
      go_wp2_with fail
      have hpj := HPM.out
      have EO := Lib.hid (show (ownJ gf l' j).map (·.1) = ownJ gf ps ps.length by rw [hpj, ← HML.out]; exact ownJ_map (fun x : Pt × Value => x.1) j)
      have PO := Lib.hid (show PsAt wr (fun k => k < wr.heap.size) A1 (ownJ gf l' j).length e1 (ownJ gf l' j) from ⟨Lies.of_own hO.out, fun a ha _ => (hO.out.lt _ (own_addr hO.out a ha)).2, fun x hx => by
        obtain ⟨i, -, hi, -⟩ := ownJ_mem hx
        exact ((E3.out x (List.mem_of_getElem? hi)).grow GW3.out).mono (fun k hk => by have := HR0.out k hk; have := GW.out.size; omega)⟩)
      have SV := Lib.hid (show Srv wr (fun k => k < wr.heap.size) (.slice A n' c) (.slice B' j d') (rest.take n') ps from by
        have hle : n' ≤ n := by have := HN'.out; omega
        refine ⟨⟨A, n', c, rfl, (HLL.out.below GW.out (Nat.le_refl _)).takeb n' hle, fun a ha h0 => ?_⟩, HR3.out, ⟨B', j, d', l', rfl, ⟨Lies.of_own (own_grow O3.out GW3.out), fun a ha _ => ?_, fun x hx => ?_⟩, HML.out⟩, GP.out⟩
        · have := HR0.out _ (HLr.out a ha (by omega)); have := GW.out.size; omega
        · have := (O3.out.lt _ (own_addr O3.out a ha)).2; have := GW3.out.size; omega
        · exact ((E3.out x hx).grow GW3.out).mono (fun k hk => by have := HR0.out k hk; have := GW.out.size; omega))
      have STr := Lib.hid (HST3.out.grow GW3.out)
      have hgN : g0 < wr.heap.size := by have := GW3.out.size; omega
      refine (fnew_ok (me := 0) (least := 0) (by decide) (by decide) PO.out (fun k hk => hk) (by rw [EO.out]; exact ownJ_rises GP.out.num _) (fun x hx => by
        have : x.1 ∈ (ownJ gf l' j).map (·.1) := List.mem_map_of_mem hx
        rw [EO.out] at this
        obtain ⟨i, -, hi, -⟩ := ownJ_mem this
        exact GP.out.wf _ (List.mem_of_getElem? hi)) (by have := ownJ_len (g := gf) (l := l') j; omega)).mono ?_
      rw [EO.out]
      rintro e w5 ⟨p, T0, R1, rfl, f5, hT5, -, g5⟩
      have F5 := Lib.hid f5; have T5 := Lib.hid hT5; have G5 := Lib.hid g5
      clear f5 hT5 g5
      go_wp2_with fail
      refine awake_ok.mono ?_
      rintro e w6 ⟨rfl, g6⟩
      have F6 := Lib.hid (F5.out.grow g6); have G6 := Lib.hid (G5.out.trans g6)
      clear g6
      go_wp2_with fail
      have STr6 := STr.out
      obtain ⟨W0, rfl⟩ : ∃ W0, W0 = wr := ⟨_, rfl⟩
      go_loopw [11] (fun a W => ∃ (asks : Nat) (f : F) (T R : Nat → Prop), a = .int .i64 asks ∧ Hid (FewInv gf ps q (rest.take n') asks f) ∧ Hid (FIs W T R p f) ∧ Hid (∀ k, T k → W0.heap.size ≤ k) ∧ Grow W0 W) (fun a _ => 102 - (intOf a).toNat)
      case atStart => exact ⟨0, _, T0, R1, rfl, FewInv.start, F6, T5, G6.out⟩
      case round =>
        obtain ⟨asks, f, T, R, rfl, hI, hF, hT, hg⟩ := hrel
        have GA := Lib.hid hg
        clear hg STr6
        have hal : asks ≤ 101 := hI.out.le GP.out
        go_wp2_with fail
        refine (fdone_any hF.out).mono ?_
        cases hd : doneF f with
        | true =>
          rintro e w7 ⟨rfl, g7⟩
          have HD := Lib.hid hd; have G7 := Lib.hid (GA.out.trans g7); have F7 := Lib.hid (hF.out.grow g7)
          clear hd g7
          have hw := hI.out.done HD.out
          have hwj := HPM.out
          have hj1 : ((asks : Int) == (wantJ gf ps j : Int)) = true := by rw [hw, hwj]; simp
          clear hw hwj
          go_wp2_with fail
          refine (ask_done (now := 100) F7.out HD.out).mono ?_
          rintro e w8 ⟨rfl, g8⟩
          go_wp2_with (refine wpList_storeM rfl rfl rfl rfl rfl rfl ?_; intro w9 g9 M9)
          refine (fdone_any (F7.out.grow (g8.trans g9))).mono ?_
          rw [HD.out]
          rintro e w10 ⟨rfl, g10⟩
          go_wp2
          go_ret
          exact ⟨rfl, GW.out.trans (G7.out.trans (g8.trans (g9.trans g10)))⟩
        | false =>
          rintro e w7 ⟨rfl, g7⟩
          have HD := Lib.hid hd; have G7 := Lib.hid (GA.out.trans g7); have F7 := Lib.hid (hF.out.grow g7)
          clear hd g7
          have ha3 : (asks : Int) < 1000 := by omega
          go_wp2_with fail
          refine (ask_go (now := 0) F7.out HD.out (by unfold dueF; rw [hI.out.fresh]; rfl) (by rw [hI.out.asked]; exact Nat.zero_le _) (by rw [hI.out.now]; decide) (by decide) (by rw [hI.out.vain]; decide)).mono ?_
          rintro e w8 ⟨f8, g8, hbr⟩
          have G8 := Lib.hid (g8.over G7.out (fun k hk => hT.out k hk))
          have F8 := Lib.hid f8
          have U8 := Lib.hid f8.ltT
          have hfr : (askF f 0).frm = f.frm := by rw [hI.out.ask]
          have hfo : (askF f 0).op = f.op := by rw [hI.out.ask]
          clear f8 g8
          rcases hbr with ⟨hneg, rfl⟩ | ⟨hpos, i, dd, hi, hd8, rfl⟩
          · have HN := Lib.hid hneg; have HFR := Lib.hid hfr
            clear hneg hfr hfo
            have hfn : f.frm < 0 := by rw [← HFR.out]; exact HN.out
            have HFN := Lib.hid hfn
            clear hfn
            have s8 := G8.out.size
            go_wp2_with (first | (refine wpList_storeM rfl rfl rfl rfl rfl rfl ?_; intro w9 g9 M9; have k9 := M9.kind; have G9 := Lib.hid (G8.out.trans g9); have ST9 := Lib.hid (STr.out.grow G9.out)) | refine wpList_loadS rfl rfl rfl ST9.out ?_)
            have s9 := g9.size
            have F9 := Lib.hid (F8.out.grow g9)
            clear g9 k9 M9
            refine (srv_plan (me := 1) (SV.out.grow G9.out) (by decide) (by decide)).mono ?_
            rintro e w10 ⟨A2, n2, c2, B2, m2, d2, rfl, P10, g10⟩
            have s10 := g10.size
            have F10 := Lib.hid (F9.out.grow g10); have G10 := Lib.hid (G9.out.trans g10); have PL10 := Lib.hid P10
            clear P10 g10
            go_wp2_with (first | (refine wpList_storeM rfl rfl rfl rfl rfl rfl ?_; intro w11 g11 M11) | (refine wpList_unguard (by rfl) ?_; refine wpList_loadM rfl rfl rfl M11 ?_))
            have s11 := g11.size
            refine (f_plan (op := q) (F10.out.grow g11) HN.out (by rw [hI.out.ask]; show f.least ≤ q; rw [hI.out.least]; exact Nat.zero_le _) (by show (1 : Int) ≠ (askF f 0).me; rw [hI.out.ask]; show (1 : Int) ≠ f.me; rw [hI.out.me]; decide) (by decide) (by decide) (PL10.out.grow g11) (fun k hk ht => by have := U8.out k ht; omega) GP.out HR3.out (fun x hx => by
              have hx : x ∈ (askF f 0).hand := hx
              rw [hI.out.ask] at hx
              have hx : x ∈ f.hand := hx
              rw [hI.out.hand] at hx
              obtain ⟨i, -, hi, -⟩ := ownJ_mem hx
              have := GP.out.bs x (List.mem_of_getElem? hi)
              omega)).mono ?_
            rintro e w12 ⟨rfl, g12, T', R', f12, hT12, -⟩
            have F12 := Lib.hid f12
            have G12 := Lib.hid (g12.over (G10.out.trans g11) (fun k hk => hT.out k hk))
            have HT12 := Lib.hid (show ∀ k, T' k → W0.heap.size ≤ k from fun k hk => by
              rcases hT12 k hk with h | h
              · exact hT.out k h
              · omega)
            have I12 := Lib.hid (hI.out.plan GP.out HFN.out)
            clear f12 g12 hT12 g11 M11
            go_wp2
            go_roundw
            case rel => exact ⟨asks + 1, _, T', R', by go_num, I12, F12, HT12, G12.out⟩
            case measure => simp [intOf]; omega
          · have HN := Lib.hid hpos; have HFR := Lib.hid hfr
            have hfn : 0 ≤ f.frm := by rw [← hfr]; exact hpos
            obtain ⟨h1, zs, hgo, hno, hne⟩ := hI.out.zs hfn
            obtain ⟨y, hy1, hy2⟩ := idxI_inv hi
            rw [hd8] at hy1
            injection hy1 with hy1
            subst hy1
            have hall : dd.all = false := by simpa using hy2
            obtain ⟨x, hx1, hx2, hfit⟩ := hgo.at hd8
            have hdoc : dd.doc = x.doc := hfit.doc
            have hoff : dd.bs.length ≤ x.bs.length := fit_len hfit
            have hfq : f.op = q := by rw [← hfo]; exact hgo.op
            have hf1 : (askF f 0).frm = 1 := hgo.frm
            rw [hdoc, hfq, hf1, hI.out.me]
            have I12 := Lib.hid (hI.out.take h1 hgo hno hne hx2 hall)
            have HGO := Lib.hid hgo; have HX1 := Lib.hid hx1; have HD8 := Lib.hid hd8; have HALL := Lib.hid hall; have HOFF := Lib.hid hoff
            have HNO := Lib.hid (show ∀ y ∈ ownJ gf ps ps.length, y.doc ≠ x.doc from hno _ (List.mem_of_getElem? hx2) hall)
            clear hpos hfr hfn h1 hgo hno hne hy2 hi hd8 hall hx1 hx2 hfit hdoc hoff hfq hf1 hfo
            have s8 := G8.out.size
            go_wp2_with (refine wpList_storeM rfl rfl rfl rfl rfl rfl ?_; intro w9 g9 M9; have k9 := M9.kind; have c9 := M9.docC)
            have s9 := g9.size
            have F9 := Lib.hid (F8.out.grow g9)
            have G9 := Lib.hid (G8.out.trans g9)
            have M9 := Lib.hid M9
            clear g9 k9 c9
            go_loopw [104] (fun i W => ∃ k : Nat, k ≤ (ownJ gf l' j).length ∧ i = .int .i64 k ∧ Grow w9 W) (fun i _ => (ownJ gf l' j).length - (intOf i).toNat)
            case atStart => exact ⟨0, Nat.zero_le _, rfl, Grow.refl _⟩
            case round =>
              have hol := ownJ_len (g := gf) (l := l') j
              obtain ⟨k, hk, rfl, hg⟩ := hrel
              have GI := Lib.hid hg
              clear hg
              by_cases hlt : k < (ownJ gf l' j).length
              · obtain ⟨⟨z, v⟩, hz⟩ : ∃ z, (ownJ gf l' j)[k]? = some z := ⟨_, List.getElem?_eq_getElem hlt⟩
                have hnz : z.doc ≠ x.doc := by
                  refine HNO.out z ?_
                  rw [← EO.out]
                  exact List.mem_map_of_mem (f := fun x : Pt × Value => x.1) (List.mem_of_getElem? hz)
                obtain ⟨A7, n7, c7, hv, -, -⟩ := (PO.out.each _ (List.mem_of_getElem? hz)).lies
                simp only at hv
                subst hv
                obtain ⟨gd, cd, hA⟩ := own_pos hO.out (by omega)
                injection hA with hA _ hc
                subst hA hc
                have LL := PO.out.row.below (G9.out.trans GI.out) (Nat.le_refl _)
                have x0 := Lies.flat_cell (j := 0) pcell_len LL hz rfl
                have x1 := Lies.flat_cell (j := 1) pcell_len LL hz rfl
                have x2 := Lies.flat_cell (j := 2) pcell_len LL hz rfl
                have x3 := Lies.flat_cell (j := 3) pcell_len LL hz rfl
                simp only [Nat.add_zero, Nat.zero_add] at x0 x1 x2 x3
                have hzi : ((z.doc : Int) == (x.doc : Int)) = false := by simp; omega
                have i0 : (0 : Int) ≤ (k : Int) := by omega
                have M9r := (M9.out.grow GI.out)
                clear hnz LL hz
                go_upto_region 27 with fail
                have hbox := heap_alloc_new wr (.cells #[.int .u32 z.doc, .int .u64 z.rev, .int .u64 z.turn, .slice A7 n7 c7] 31)
                have ga := Grow.alloc wr (.cells #[.int .u32 z.doc, .int .u64 z.rev, .int .u64 z.turn, .slice A7 n7 c7] 31)
                generalize wr.alloc _ = wa at *
                have z0 : wa.cell? ⟨wr.heap.size, 0, none⟩ = some (.int .u32 z.doc) := cell_of_row wa _ 0 _ _ (0, 0) hbox
                have c9 := (M9r.grow ga).docC
                have GJ := Lib.hid (GI.out.trans ga)
                clear hbox ga x0 x1 x2 x3 M9r
                go_wp2
                go_roundw
                case rel => exact ⟨k + 1, by omega, by go_num, GJ.out⟩
                case measure => simp [intOf]; omega
              · obtain rfl : k = (ownJ gf l' j).length := by omega
                clear hol
                have GX := Lib.hid (G9.out.trans GI.out)
                have MX := Lib.hid (M9.out.grow GI.out)
                have SX := Lib.hid (STr.out.grow GX.out)
                have sx := GI.out.size
                go_wp2_with (first | refine wpList_loadS rfl rfl rfl SX.out ?_ | refine wpList_loadM rfl rfl rfl MX.out ?_)
                refine (srv_piece (me := 1) (frm := 0) (tot := 0) (SV.out.grow GX.out) (by decide) (by decide) HX1.out HOFF.out).mono ?_
                rintro e w10 ⟨A2, k2, c2, rfl, b10, g10⟩
                have s10 := g10.size
                have B10 := Lib.hid b10; have G10 := Lib.hid (GX.out.trans g10)
                have F10 := Lib.hid (F9.out.grow (GI.out.trans g10))
                clear b10 g10
                go_wp2_with (first | (refine wpList_storeM rfl rfl rfl rfl rfl rfl ?_; intro w11 g11 M11) | (refine wpList_unguard (by rfl) ?_; refine wpList_loadM rfl rfl rfl M11 ?_))
                have s11 := g11.size
                refine (f_take (zs := zs) (ps := ps) (rest := rest.take n') (F10.out.grow g11) HGO.out (by decide) GP.out HX1.out (B10.out.grow g11) (fun k hk ht => by have := U8.out k ht; omega)).mono ?_
                rintro e w12 hpost
                obtain ⟨rfl, g12, R', f12⟩ : e = .returned (.int .i64 0) ∧ GrowS T w11 w12 ∧ ∃ R' : Nat → Prop, FIs w12 T R' p (takeF (askF f 0) i dd (pieceB x dd.bs.length) x.bs.length) := by
                  rcases hpost with ⟨c, -, -, h⟩ | ⟨d, h1, -, -, -, h2, h3, R', h4, -⟩
                  · exact absurd ⟨HALL.out, rfl⟩ (h _ HD8.out)
                  · have h0 := HD8.out
                    rw [h0] at h1
                    injection h1 with h1
                    subst h1
                    exact ⟨h2, h3, R', h4⟩
                have F12 := Lib.hid f12
                have G12 := Lib.hid (g12.over (G10.out.trans g11) (fun k hk => hT.out k hk))
                clear f12 g12 g11 M11 hpost
                go_wp2
                go_roundw
                case rel => exact ⟨asks + 1, _, T, R', by go_num, I12, F12, hT, G12.out⟩
                case measure => simp [intOf]; omega
end Go.Proofs.Ytlnokohmmhmoaaa

