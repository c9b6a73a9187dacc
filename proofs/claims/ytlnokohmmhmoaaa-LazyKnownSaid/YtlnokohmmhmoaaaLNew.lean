/-
  lazy: the contract of New.
-/
import Derived.Test.YtlnokohmmhmoaaaLDone
namespace Go.Proofs.Ytlnokohmmhmoaaa
open Go.RowKit
set_option linter.unusedSimpArgs false

/-- What a document's numbers are. -/
structure PWf (x : Pt) : Prop where
  doc : x.doc < 4294967296
  rev : x.rev < 18446744073709551616
  turn : x.turn < 18446744073709551616
  bs : x.bs.length ≤ 1000
/-- Documents of a state in memory. -/
structure PsAt (w : World) (R : Nat → Prop) (A : Option Addr) (n c : Nat) (l : List (Pt × Value)) : Prop where
  row : Lies w 4 A n c (l.flatMap pcell)
  rowR : ∀ a, A = some a → 0 < n → R a.block
  each : ∀ x ∈ l, BytesAt w R x.2 x.1.bs
theorem PsAt.keep {w w' : World} {R T : Nat → Prop} {A : Option Addr} {n c : Nat} {l : List (Pt × Value)} (h : PsAt w R A n c l) (g : GrowS T w w') (hT : ∀ k, R k → ¬ T k) : PsAt w' R A n c l :=
  ⟨g.liesZ h.row (fun a ha h0 => hT _ (h.rowR a ha h0)), h.rowR, fun x hx => (h.each x hx).keep g hT⟩
theorem PsAt.grow {w w' : World} {R : Nat → Prop} {A : Option Addr} {n c : Nat} {l : List (Pt × Value)} (h : PsAt w R A n c l) (g : Grow w w') : PsAt w' R A n c l := h.keep (g.wide NoRow) (fun _ _ k => k)
theorem PsAt.sl {w : World} {R : Nat → Prop} {A : Option Addr} {n c : Nat} {l : List (Pt × Value)} (h : PsAt w R A n c l) : ∀ x ∈ l, ∃ A n c, x.2 = .slice A n c := fun x hx => by
  obtain ⟨A, n, c, e, -⟩ := (h.each x hx).lies
  exact ⟨A, n, c, e⟩
/-- What lies is below the heap's end. -/
theorem lies_lt {w : World} {n c : Nat} {A : Option Addr} {bs : List Nat} (h : Lies w 1 A n c (byt bs)) : ∀ a, A = some a → 0 < n → a.block < w.heap.size := fun a ha h0 => by
  obtain ⟨b, off, e, hlt, -⟩ := h.pos h0 (by decide)
  rw [e] at ha
  injection ha with ha
  subst ha
  exact hlt
theorem HandAt.within {w : World} {S S' : Nat → Prop} {b : Nat} {h : List Pt} (H : HandAt w S b h) (hS : ∀ k, S k → k < w.heap.size → S' k := by intro k h1 h2; exact ⟨.inl h1, h2⟩) : HandAt w S' b h := by
  obtain ⟨n, D, hn, hm, hk⟩ := H.map
  refine ⟨n, D, hn, hm, fun doc turn kl hkl => ?_⟩
  have := hk doc turn kl hkl
  cases hh : handOf h doc turn with
  | none => rw [hh] at this; exact this
  | some bs =>
    rw [hh] at this
    obtain ⟨A, m, c, h1, h2, h3, h4⟩ := this
    exact ⟨A, m, c, h1, h2, h3, fun a ha h0 => hS _ (h4 a ha h0) (lies_lt h3 a ha h0)⟩
def Rises (ps : List Pt) : Prop := ∀ (i : Nat) (y x : Pt), ps[i]? = some y → ps[i + 1]? = some x → y.doc < x.doc
theorem BytesAt.grow {w w' : World} {R : Nat → Prop} {v : Value} {bs : List Nat} (h : BytesAt w R v bs) (g : Grow w w') : BytesAt w' R v bs := h.keep (g.wide NoRow) (fun _ _ k => k)
theorem HandAt.grow {w w' : World} {S : Nat → Prop} {b : Nat} {h : List Pt} (H : HandAt w S b h) (g : Grow w w') : HandAt w' S b h := H.keep (g.wide NoRow) (fun _ _ k => k) (fun k => k)
theorem rise_ps {A : Option Addr} {n c : Nat} {R : Nat → Prop} {l : List (Pt × Value)} {w : World} (h : PsAt w R A n c l) (hr : Rises (l.map (·.1))) :
    Calls Try.prog 25 #[.slice A n c, .func (.func 26) #[] #[]] w fun e w' => e = .returned (.bool true) ∧ Grow w w' :=
  rise_parts h.row h.sl fun i y x hy hx => hr i y.1 x.1 (by rw [List.getElem?_map, hy]; rfl) (by rw [List.getElem?_map, hx]; rfl)
/-- What New makes. -/
def newF (me : Int) (least : Nat) (ps : List Pt) : F := ⟨me, least, ps, -1, 0, [], [], 0, 0, 0, true⟩
set_option maxRecDepth 100000 in
set_option maxHeartbeats 2000000 in
theorem fnew_ok {me : Int} {least n c : Nat} {A : Option Addr} {l : List (Pt × Value)} {R0 : Nat → Prop} {w : World} (h0 : 0 ≤ me) (h1 : me < 7) (hP : PsAt w R0 A n c l) (hR0 : ∀ k, R0 k → k < w.heap.size) (hr : Rises (l.map (·.1))) (hw : ∀ x ∈ l, PWf x.1) (hn : n ≤ 1000) :
    Calls Try.prog 8 #[.int .i64 me, .int .u64 least, .slice A n c] w fun e w' => ∃ (p : Nat) (T R : Nat → Prop), e = .returned (.tuple #[.pointer (some ⟨p, 0, none⟩), .int .i64 0]) ∧ FIs w' T R p (newF me least (l.map (·.1))) ∧ (∀ k, T k → w.heap.size ≤ k) ∧ (∀ k, R k → w.heap.size ≤ k) ∧ Grow w w' := by
  have hln := Lies.flat_n pcell_len (by decide) hP.row
  have hle := hP.row.le
  have HP := Lib.hid hP; have HR := Lib.hid hr; have HW := Lib.hid hw; have HLN := Lib.hid hln; have HR0 := Lib.hid hR0
  clear hP hr hw hln hR0
  go_enter Try.func8, Try.ntmps8
  go_wp2_with fail
  refine (node_ok h0 h1).mono ?_
  rintro e w1 ⟨rfl, rfl⟩
  go_wp2_with fail
  refine (rise_ps HP.out HR.out).mono ?_
  rintro e w1 ⟨rfl, g1⟩
  have G1 := Lib.hid g1; have P1 := Lib.hid (HP.out.grow g1)
  have SZ1 := Lib.hid g1.size
  have mk : (Instr.makeMap 63 none).run Try.prog w1 = .ok (.map (some w1.heap.size)) (w1.alloc (.map #[] 0)) := run_makeMap _ _
  clear g1
  go_wp2
  obtain ⟨w2, hw2⟩ : ∃ w2, (w1.alloc (.map #[] 0)).alloc (.cells #[.int .i64 me, .int .u64 least, .map (some w1.heap.size), .int .i64 (-1), .int .u64 0, .slice none 0 0, .slice none 0 0, .int .u64 0, .int .u64 0, .int .i64 0, .bool true, .bool true] 66) = w2 := ⟨_, rfl⟩
  have g2 : Grow w1 w2 := hw2 ▸ (Grow.alloc _ _).trans (Grow.alloc _ _)
  have st : w2.heap[w1.heap.size + 1]? = some (.cells #[.int .i64 me, .int .u64 least, .map (some w1.heap.size), .int .i64 (-1), .int .u64 0, .slice none 0 0, .slice none 0 0, .int .u64 0, .int .u64 0, .int .i64 0, .bool true, .bool true] 66 (0, 0)) := hw2 ▸ heap_alloc2_new w1 _ _
  have ha : HandAt w2 (fun k => w1.heap.size + 2 ≤ k) w1.heap.size [] := hw2 ▸ (HandAt.made w1 _).grow (Grow.alloc _ _)
  have sz2 : w1.heap.size + 2 ≤ w2.heap.size := by have := (Array.getElem?_eq_some_iff.1 st).1; omega
  have G2 := Lib.hid g2; have ST := Lib.hid st; have HA := Lib.hid ha; have SZ2 := Lib.hid sz2
  try rw [hw2]
  clear hw2 g2 st ha sz2 mk
  go_loopw [26] (fun i wr => ∃ j : Nat, j ≤ n ∧ i = .int .i64 j ∧ Hid (HandAt wr (fun k => w1.heap.size + 2 ≤ k) w1.heap.size ((l.map (·.1)).take j)) ∧ GrowS (fun k => k = w1.heap.size) w2 wr) (fun i _ => n - (intOf i).toNat)
  case atStart => exact ⟨0, Nat.zero_le _, rfl, HA, GrowS.refl _ _⟩
  case round =>
    obtain ⟨j, hj, rfl, hH, hg⟩ := hrel
    have GR := Lib.hid hg
    have GW := Lib.hid (hg.over (G1.out.trans G2.out) (fun k hk => by subst hk; exact SZ1.out))
    have SZR := Lib.hid (Nat.le_trans SZ2.out hg.size)
    clear hg
    by_cases hlt : j < n
    · obtain ⟨⟨x, v⟩, hx⟩ : ∃ x, l[j]? = some x := ⟨_, List.getElem?_eq_getElem (by have := HLN.out; omega)⟩
      obtain ⟨A1, m, c1, hv, hL1, -⟩ := (HP.out.each _ (List.mem_of_getElem? hx)).lies
      simp only at hv hL1
      subst hv
      obtain ⟨bb, off, rfl, -, -⟩ := HP.out.row.pos (by omega) (by decide)
      have PR := HP.out.grow GW.out
      have x0 := Lies.flat_cell (j := 0) pcell_len PR.row hx rfl
      have x1 := Lies.flat_cell (j := 1) pcell_len PR.row hx rfl
      have x2 := Lies.flat_cell (j := 2) pcell_len PR.row hx rfl
      have x3 := Lies.flat_cell (j := 3) pcell_len PR.row hx rfl
      simp only [Nat.add_zero] at x0
      have HWX := Lib.hid (show PWf x from HW.out _ (List.mem_of_getElem? hx))
      have HTK := Lib.hid (show ((l.map (·.1)).take j) ++ [x] = (l.map (·.1)).take (j + 1) by rw [List.take_add_one, List.getElem?_map, hx]; rfl)
      have HL1 := Lib.hid (hL1.below (w' := wr) GW.out (Nat.le_refl _))
      have hlm : x.bs.length = m := by have := hL1.len; rw [byt_len] at this; omega
      have hm1 : m ≤ 1000 := by have := HWX.out.bs; omega
      obtain ⟨w3, hw3⟩ : ∃ w3, wr.alloc (.cells #[.int .u32 x.doc, .int .u64 x.rev, .int .u64 x.turn, .slice A1 m c1] 31) = w3 := ⟨_, rfl⟩
      have g3 : Grow wr w3 := hw3 ▸ Grow.alloc _ _
      have bx : w3.heap[wr.heap.size]? = some (.cells #[.int .u32 x.doc, .int .u64 x.rev, .int .u64 x.turn, .slice A1 m c1] 31 (0, 0)) := hw3 ▸ heap_alloc_new _ _
      have G3 := Lib.hid g3; have BX := Lib.hid bx; have HLM := Lib.hid hlm
      have ST3 := Lib.hid (row_grow (GR.out.kept ST.out (by omega)) g3)
      have H3 := Lib.hid (hH.out.grow g3)
      have HW3 := Lib.hid hw3
      clear hx hL1 hlm bx g3 PR hw3
      go_wp2_with fail
      rw [HW3.out]
      have y2 : ∀ W, Grow w3 W → W.cell? ⟨w1.heap.size + 1, 2, none⟩ = some (.map (some w1.heap.size)) := fun W g => cell_of_row W _ 2 _ _ (0, 0) (row_grow ST3.out g)
      have z0 : ∀ W, Grow w3 W → W.cell? ⟨wr.heap.size, 0, none⟩ = some (.int .u32 x.doc) := fun W g => cell_of_row W _ 0 _ _ (0, 0) (row_grow BX.out g)
      have z2 : ∀ W, Grow w3 W → W.cell? ⟨wr.heap.size, 2, none⟩ = some (.int .u64 x.turn) := fun W g => cell_of_row W _ 2 _ _ (0, 0) (row_grow BX.out g)
      have z3 : ∀ W, Grow w3 W → W.cell? ⟨wr.heap.size, 3, none⟩ = some (.slice A1 m c1) := fun W g => cell_of_row W _ 3 _ _ (0, 0) (row_grow BX.out g)
      refine Chain.start (Option Addr × Nat) (by kernel_rfl) (by kernel_rfl) (fun hg => ?_)
      repeat (first | (refine Chain.skip hg (fun t => by rfl) ?_; simp only [Act.put, List.setIfInBounds_toArray, List.set_cons_zero, List.set_cons_succ]) | (refine Chain.pure hg (X := ?_) (fun t W hw hN => ⟨by rfl, ?_⟩) ?_; rotate_left; (focus (go_simp <;> with_reducible rfl)); simp only [Act.put, List.setIfInBounds_toArray, List.set_cons_zero, List.set_cons_succ]))
      refine Chain.grow hg (fun s => .slice s.1 m s.2) (fun s W => W.ownsRow w3.heap.size 5 1 (.slice s.1 m s.2) m (byt x.bs)) (fun _ _ _ h g => own_grow h g) (fun _ => by rfl) (fun t W hw hN K hK => ?_) ?_
      · go_simp
        refine (bclone_any (HL1.out.below (G3.out.trans hw) (Nat.le_refl _)) (by omega)).mono ?_
        rintro e w9 ⟨A', c', rfl, own9, g9⟩
        exact hK.out (A', c') _ g9 (own9.mono hw.size)
      simp only [Act.put, List.setIfInBounds_toArray, List.set_cons_zero, List.set_cons_succ]
      refine Chain.tail (tail_of (by kernel_rfl)) (fun t W hw hN => ?_)
      have h11 := hN.get 11 rfl (by kernel_rfl)
      generalize t 11 = s at *
      obtain ⟨A9, c9⟩ := s
      simp only at h11
      obtain ⟨nn, D, hnn, hm, hk⟩ := (H3.out.grow hw).map
      have hnl : nn ≤ 1000 := by rw [List.length_take, List.length_map] at hnn; have := HLN.out; omega
      obtain ⟨kl, hkl⟩ := key_some (d := (x.doc : Int)) (t := (x.turn : Int)) (by have := HWX.out.doc; omega) (by have := HWX.out.turn; omega)
      have HM := Lib.hid hm; have HK := Lib.hid hk; have HKL := Lib.hid hkl; have H11 := Lib.hid h11; have HWW := Lib.hid hw; have HNN := Lib.hid hnn
      clear hm hk hkl h11 hN hg y2 z0 z2 z3 x0 x1 x2 x3 hw hnn
      refine wpList_mapUpdate_own W rfl (.tmp 33) (.tmp 38) (.tmp 41) _ rfl 69 23 key_law Try.underlying63 readV _ nn D rfl HM.out (by simp only [maxLen]; omega) _ _ kl rfl rfl HKL.out (.held (.slice A9 m c9)) [] rfl ?_
      intro w5 hown5 hg5
      have szw := HWW.out.size
      have sz3 := G3.out.size
      have sz0 := SZR.out
      have g5 : GrowS (fun k => k = w1.heap.size) W w5 := hg5.wide (fun k hk => by injection hk with hk; exact hk.symm)
      have o5 : w5.ownsRow w3.heap.size 5 1 (.slice A9 m c9) m (byt x.bs) := g5.own H11.out (fun g hg e => by have := (H11.out.lt g hg).1; omega)
      have H5 := Lib.hid (HandAt.put (S := fun k => w1.heap.size + 2 ≤ k) (e := x) HNN.out (handOver HK.out g5 (fun k hk e => by omega)) (World.ownsMap.isMap HM.out) HKL.out hown5 (Lies.of_own o5) (fun a ha _ => by
        have h1 := own_addr o5 a ha
        have := (o5.lt _ h1).1
        show w1.heap.size + 2 ≤ a.block
        omega))
      rw [HTK.out] at H5
      have G5 := Lib.hid ((GR.out.trans ((G3.out.trans HWW.out).wide _)).trans g5)
      clear hown5 hg5 g5 o5
      go_wp2
      go_roundw
      case rel => exact ⟨j + 1, by omega, by go_num, H5, G5.out⟩
      case measure => simp [intOf]; omega
    · obtain rfl : j = n := by omega
      have e : (l.map (·.1)).take j = l.map (·.1) := List.take_of_length_le (by rw [List.length_map, HLN.out]; exact Nat.le_refl _)
      have H5 := Lib.hid (e ▸ hH.out)
      have ST5 := Lib.hid (GR.out.kept ST.out (by omega))
      clear e
      go_wp2
      go_ret2
      have sz1 := SZ1.out
      have szr := SZR.out
      refine ⟨w1.heap.size + 1, fun k => k = w1.heap.size + 1, fun k => (w1.heap.size + 2 ≤ k ∨ k = w1.heap.size) ∧ k < wr.heap.size, rfl, ⟨w1.heap.size, .slice none 0 0, .slice none 0 0, [], ST5.out, ?_, ⟨.inr rfl, by omega⟩, BytesAt.nil _ _, World.ownsRow_nil _ _ _ _, fun _ h => (by cases h), rfl, fun _ h => (by cases h), rfl, fun k hk h => by subst hk; omega, fun k hk => by subst hk; omega, fun k hk => hk.2⟩, fun k hk => by subst hk; omega, fun k hk => by have := hk.1; omega, GW.out⟩
      exact H5.out.within
end Go.Proofs.Ytlnokohmmhmoaaa

