/-
  lazy: the contract of Ask, where it is due.
-/
import Derived.Test.YtlnokohmmhmoaaaLAsk2
namespace Go.Proofs.Ytlnokohmmhmoaaa
open Go.RowKit
set_option linter.unusedSimpArgs false

/-- What Ask hands back, when it is due, and leaves. -/
def AskPost (T R : Nat → Prop) (p : Nat) (f : F) (now : Nat) (w : World) (e : Ending) (w' : World) : Prop :=
  FIs w' T R p (askF f now) ∧ GrowS T w w' ∧
    (((askF f now).frm < 0 ∧ e = .returned (.tuple #[.int .i64 (-1), .agg #[.int .i64 14, .int .u64 0, .int .i64 f.me, .int .u32 0, .int .u64 0, .int .u64 0, .int .u64 f.least, .int .u64 0, .int .u64 0, .int .u64 0, .int .u64 0, .int .u32 0, .int .u64 0, .slice none 0 0, .int .u32 0, .int .i64 0, .int .i64 0, .bool false, .slice none 0 0, .slice none 0 0], .bool true])) ∨
     (0 ≤ (askF f now).frm ∧ ∃ (i : Nat) (d : Dt), nextF (askF f now) = (i : Int) ∧ (askF f now).docs[i]? = some d ∧ e = .returned (.tuple #[.int .i64 (askF f now).frm, .agg #[.int .i64 16, .int .u64 0, .int .i64 f.me, .int .u32 0, .int .u64 0, .int .u64 0, .int .u64 f.op, .int .u64 0, .int .u64 0, .int .u64 0, .int .u64 0, .int .u32 0, .int .u64 0, .slice none 0 0, .int .u32 d.doc, .int .i64 d.bs.length, .int .i64 0, .bool false, .slice none 0 0, .slice none 0 0], .bool true])))
theorem idxI_some {α : Type} {f : α → Bool} {l : List α} (h : l.any f = true) : ∃ (i : Nat) (x : α), idxI f l = (i : Int) ∧ l[i]? = some x ∧ f x = true := by
  unfold idxI
  cases hx : l.findIdx? f with
  | none =>
    rw [List.findIdx?_eq_none_iff] at hx
    rw [List.any_eq_true] at h
    obtain ⟨x, hm, hf⟩ := h
    rw [hx x hm] at hf
    cases hf
  | some i =>
    rw [List.findIdx?_eq_some_iff_getElem] at hx
    obtain ⟨h1, h2, -⟩ := hx
    exact ⟨i, l[i], rfl, List.getElem?_eq_getElem h1, h2⟩
theorem ask_kept {f : F} {now : Nat} (h : 0 ≤ (askF f now).frm) : (askF f now).docs = f.docs ∧ (askF f now).frm = f.frm := by
  unfold askF at *
  split at h
  · simp at h
  · rename_i hr
    rw [if_neg hr]
    exact ⟨rfl, rfl⟩
theorem next_some {f : F} {now : Nat} (hd : doneF f = false) (h : 0 ≤ (askF f now).frm) : ∃ (i : Nat) (d : Dt), nextF (askF f now) = (i : Int) ∧ (askF f now).docs[i]? = some d ∧ d.all = false := by
  obtain ⟨e1, e2⟩ := ask_kept h
  have ha : f.docs.any (fun d => !d.all) = true := by
    unfold doneF at hd
    have : decide (0 ≤ f.frm) = true := by rw [e2] at h; simpa using h
    rw [this, Bool.true_and] at hd
    rw [List.any_eq_true]
    rw [List.all_eq_false] at hd
    obtain ⟨x, hx, hn⟩ := hd
    exact ⟨x, hx, by simpa using hn⟩
  obtain ⟨i, x, h1, h2, h3⟩ := idxI_some ha
  refine ⟨i, x, ?_, by rw [e1]; exact h2, by simpa using h3⟩
  unfold nextF
  rw [e1]
  exact h1
set_option maxRecDepth 100000 in
set_option maxHeartbeats 4000000 in
theorem ask_go {T R : Nat → Prop} {p : Nat} {f : F} {now : Nat} {w : World} (h : FIs w T R p f) (hd : doneF f = false) (hu : dueF f now = true) (ha : f.asked ≤ f.now) (hb : f.now ≤ 9223372036854775807) (hb2 : now ≤ 9223372036854775807) (hv : f.vain ≤ 1000) :
    Calls Try.prog 12 #[.pointer (some ⟨p, 0, none⟩), .int .u64 now] w (AskPost T R p f now w) := by
  obtain ⟨b, Rv, V, l, h⟩ := h
  obtain ⟨n, hn⟩ : ∃ n, max f.now now = n := ⟨_, rfl⟩
  have hdue : f.fresh = true ∨ 4 ≤ n - f.asked := by
    unfold dueF at hu
    rw [hn] at hu
    simpa using hu
  have hmx : (if f.now < now then (now : Int) else (f.now : Int)) = (n : Int) := by split <;> omega
  have hnb : n ≤ 9223372036854775807 := by omega
  have han : f.asked ≤ n := by omega
  have H := Lib.hid h; have HD := Lib.hid hd
  have hb0 := heap_alloc_new w (.cells #[.int .i64 0, .int .u64 0, .int .i64 0, .int .u32 0, .int .u64 0, .int .u64 0, .int .u64 0, .int .u64 0, .int .u64 0, .int .u64 0, .int .u64 0, .int .u32 0, .int .u64 0, .slice none 0 0, .int .u32 0, .int .i64 0, .int .i64 0, .bool false, .slice none 0 0, .slice none 0 0] 42)
  have HB := Lib.hid hb0
  have hgp : p < w.heap.size := h.ltT p h.pT
  have c11 : (w.alloc (.cells #[.int .i64 0, .int .u64 0, .int .i64 0, .int .u32 0, .int .u64 0, .int .u64 0, .int .u64 0, .int .u64 0, .int .u64 0, .int .u64 0, .int .u64 0, .int .u32 0, .int .u64 0, .slice none 0 0, .int .u32 0, .int .i64 0, .int .i64 0, .bool false, .slice none 0 0, .slice none 0 0] 42)).cell? ⟨p, 11, none⟩ = some (.bool true) := (h.grow (Grow.alloc w _)).c 11
  have HN := Lib.hid hn
  clear h hd hb0 hu hn
  go_enter Try.func12, Try.ntmps12
  go_wp2_with fail
  refine (fnone_made c11).mono ?_
  rintro e w1 ⟨rfl, rfl⟩
  go_wp2_with fail
  refine (fdone_any ⟨b, Rv, V, l, H.out.grow (Grow.alloc _ _)⟩).mono ?_
  rw [HD.out]
  rintro e w1 ⟨rfl, g1⟩
  have HB1 := Lib.hid (row_grow HB.out g1)
  have G1 := Lib.hid (Grow.trans (Grow.alloc w _) g1)
  have H1 := Lib.hid (H.out.grow G1.out)
  have c8 : w1.cell? ⟨p, 8, none⟩ = some (.int .u64 f.now) := H1.out.c 8
  have e8 := frozen_of_row w1 p 8 _ _ H1.out.st
  clear g1 c11
  go_upto_region 4 with fail
  have gs : GrowS (fun k => k = p) w1 (w1.setCell ⟨p, 8, none⟩ (.int .u64 n)) := GrowS.setCell (T := fun k => k = p) w1 (p := ⟨p, 8, none⟩) rfl _
  have H2 := Lib.hid (H1.out.turn (f' := { f with now := n }) gs (by have := heap_setCell_same w1 p 8 _ _ (.int .u64 n) H1.out.st; simpa [fcells] using this) rfl (.inl ⟨rfl, rfl⟩) (.inl ⟨rfl, rfl, rfl⟩))
  have GS := Lib.hid gs
  have HB2 := Lib.hid (gs.kept HB1.out (by omega))
  generalize w1.setCell ⟨p, 8, none⟩ (.int .u64 n) = w2 at *
  clear gs c8 e8
  have HDU := Lib.hid hdue
  clear hdue
  go_cut [40] (fun s W => s = .bool false ∧ Grow w2 W)
  case first =>
    have c10 : ∀ W, Grow w2 W → W.cell? ⟨p, 10, none⟩ = some (.bool f.fresh) := fun W g => (H2.out.grow g).c 10
    have c8 : ∀ W, Grow w2 W → W.cell? ⟨p, 8, none⟩ = some (.int .u64 n) := fun W g => (H2.out.grow g).c 8
    have c7 : ∀ W, Grow w2 W → W.cell? ⟨p, 7, none⟩ = some (.int .u64 f.asked) := fun W g => (H2.out.grow g).c 7
    have uw : IntKind.u64.wrap ((n : Int) - (f.asked : Int)) = (n : Int) - (f.asked : Int) := by rw [IntKind.wrap_u64]; omega
    by_cases hfr : f.fresh = true
    · rw [hfr] at c10
      clear hfr
      refine Chain.start Nat (by kernel_rfl) (by kernel_rfl) (fun hg => ?_)
      repeat (first | (refine Chain.skip hg (fun t => by rfl) ?_; simp only [Act.put, List.setIfInBounds_toArray, List.set_cons_zero, List.set_cons_succ]) | (refine Chain.pure hg (X := ?_) (fun t W hw hN => ⟨by rfl, ?_⟩) ?_; rotate_left; (focus (go_simp <;> with_reducible rfl)); simp only [Act.put, List.setIfInBounds_toArray, List.set_cons_zero, List.set_cons_succ]))
      refine Chain.done (fun t W hw hN => ?_)
      clear hN hg c10 c8 c7
      go_wp2
      go_meet
      exact ⟨rfl, hw⟩
    · have hfr : f.fresh = false := by simpa using hfr
      have dl : decide ((n : Int) - (f.asked : Int) < 4) = false := by
        have h4 : 4 ≤ n - f.asked := by
          rcases HDU.out with h | h
          · rw [hfr] at h; cases h
          · exact h
        simp; omega
      rw [hfr] at c10
      clear hfr
      refine Chain.start Nat (by kernel_rfl) (by kernel_rfl) (fun hg => ?_)
      repeat (first | (refine Chain.skip hg (fun t => by rfl) ?_; simp only [Act.put, List.setIfInBounds_toArray, List.set_cons_zero, List.set_cons_succ]) | (refine Chain.pure hg (X := ?_) (fun t W hw hN => ⟨by rfl, ?_⟩) ?_; rotate_left; (focus (go_simp <;> with_reducible rfl)); simp only [Act.put, List.setIfInBounds_toArray, List.set_cons_zero, List.set_cons_succ]))
      refine Chain.done (fun t W hw hN => ?_)
      clear hN hg c10 c8 c7
      go_wp2
      go_meet
      exact ⟨rfl, hw⟩
  case rest =>
    obtain ⟨rfl, hgc⟩ := hcut
    have H3 := Lib.hid (H2.out.grow hgc)
    have HB3 := Lib.hid (row_grow HB2.out hgc)
    have GC := Lib.hid hgc
    clear hgc
    have c10 : wc.cell? ⟨p, 10, none⟩ = some (.bool f.fresh) := H3.out.c 10
    go_upto_if 46 with fail
    obtain ⟨v, hv2⟩ : ∃ v, vainF f = v := ⟨_, rfl⟩
    have HV := Lib.hid hv2
    have hvb : v ≤ 1001 := by unfold vainF at hv2; split at hv2 <;> omega
    clear hv2
    go_cut [0] (fun s W => s = .pointer (some ⟨p, 0, none⟩) ∧ W.heap[p]? = some (.cells (fcells { f with now := n, vain := v } b Rv V) 66 (0, 0)) ∧ GrowS (fun k => k = p) wc W)
    case first =>
      by_cases hfr : f.fresh = true
      · have ev := HV.out
        unfold vainF at ev
        rw [if_pos hfr] at ev
        have EV := Lib.hid ev
        simp only [hfr, Bool.not_true]
        clear hfr ev c10
        go_wp2
        go_meet
        exact ⟨rfl, by rw [← EV.out]; exact H3.out.st, GrowS.refl _ _⟩
      · have hfr : f.fresh = false := by simpa using hfr
        have ev := HV.out
        unfold vainF at ev
        rw [if_neg (by rw [hfr]; decide)] at ev
        have EV := Lib.hid ev
        have c9 : wc.cell? ⟨p, 9, none⟩ = some (.int .i64 f.vain) := H3.out.c 9
        have e9 := frozen_of_row wc p 9 _ _ H3.out.st
        simp only [hfr, Bool.not_false]
        clear hfr ev c10
        go_wp2
        go_meet
        refine ⟨rfl, ?_, GrowS.setCell (T := fun k => k = p) wc (p := ⟨p, 9, none⟩) rfl _⟩
        have := heap_setCell_same wc p 9 _ _ (.int .i64 ((f.vain : Int) + 1)) H3.out.st
        rw [← EV.out]
        push_cast
        simpa [fcells] using this
    case rest =>
      obtain ⟨rfl, hst, hgc⟩ := hcut
      have H4 := Lib.hid (H3.out.turn (f' := { f with now := n, vain := v }) hgc hst rfl (.inl ⟨rfl, rfl⟩) (.inl ⟨rfl, rfl, rfl⟩))
      have HB4 := Lib.hid (hgc.kept HB3.out (by omega))
      have GD := Lib.hid hgc
      clear hst hgc c10
      go_upto_region 8 with fail
      have c9 : wc.cell? ⟨p, 9, none⟩ = some (.int .i64 v) := H4.out.c 9
      have c3 : wc.cell? ⟨p, 3, none⟩ = some (.int .i64 f.frm) := H4.out.c 3
      obtain ⟨r, hr⟩ : ∃ r, resetF f = r := ⟨_, rfl⟩
      have HRS := Lib.hid hr
      clear hr
      go_cut [65] (fun s W => s = .bool r ∧ W = wc)
      case first =>
        by_cases h3 : 3 ≤ v
        · have d1 : decide ((v : Int) ≥ 3) = true := by simp; omega
          have d2 : decide (3 ≤ v) = true := by simp; omega
          by_cases h4 : 0 ≤ f.frm
          · have d3 : decide (f.frm ≥ 0) = true := by simp; omega
            have er := Lib.hid (show r = true by rw [← HRS.out]; unfold resetF; rw [HV.out]; simp; omega)
            go_wp2
            go_meet
            exact ⟨by rw [er.out], rfl⟩
          · have d3 : decide (f.frm ≥ 0) = false := by simp; omega
            have er := Lib.hid (show r = false by rw [← HRS.out]; unfold resetF; rw [HV.out]; simp; omega)
            go_wp2
            go_meet
            exact ⟨by rw [er.out], rfl⟩
        · have d1 : decide ((v : Int) ≥ 3) = false := by simp; omega
          have d2 : decide (3 ≤ v) = false := by simp; omega
          have er := Lib.hid (show r = false by rw [← HRS.out]; unfold resetF; rw [HV.out]; simp; omega)
          go_wp2
          go_meet
          exact ⟨by rw [er.out], rfl⟩
      case rest =>
        obtain ⟨rfl, rfl⟩ := hcut
        go_upto_if 65 with fail
        obtain ⟨f3, hf3⟩ : ∃ f3, (if r then { f with frm := -1, docs := [], rest := [], vain := 0, now := n } else { f with now := n, vain := v } : F) = f3 := ⟨_, rfl⟩
        have HF3 := Lib.hid hf3
        clear hf3 c9 c3
        go_cut [0] (fun s W => s = .pointer (some ⟨p, 0, none⟩) ∧ ∃ Rv2 V2 l2, FAt W T R p f3 b Rv2 V2 l2 ∧ GrowS (fun k => k = p) wc W)
        case first =>
          cases r with
          | false =>
            go_wp2
            go_meet
            exact ⟨rfl, Rv, V, l, by rw [← HF3.out]; exact H4.out, GrowS.refl _ _⟩
          | true =>
            have st0 := H4.out.st
            have st1 := heap_setCell_same wc p 3 _ _ (.int .i64 (-1)) st0
            have st2 := heap_setCell_same _ p 6 _ _ (.slice none 0 0) st1
            have st3 := heap_setCell_same _ p 5 _ _ (.slice none 0 0) st2
            have st4 := heap_setCell_same _ p 9 _ _ (.int .i64 0) st3
            have a0 := cell_of_row _ p 3 _ _ (0, 0) st0
            have b0 := frozen_of_row _ p 3 _ _ st0
            have a1 := cell_of_row _ p 6 _ _ (0, 0) st1
            have b1 := frozen_of_row _ p 6 _ _ st1
            have a2 := cell_of_row _ p 5 _ _ (0, 0) st2
            have b2 := frozen_of_row _ p 5 _ _ st2
            have a3 := cell_of_row _ p 9 _ _ (0, 0) st3
            have b3 := frozen_of_row _ p 9 _ _ st3
            have ST4 := Lib.hid st4
            clear st0 st1 st2 st3 st4
            go_wp2
            go_meet
            have gs : GrowS (fun k => k = p) wc ((((wc.setCell ⟨p, 3, none⟩ (.int .i64 (-1))).setCell ⟨p, 6, none⟩ (.slice none 0 0)).setCell ⟨p, 5, none⟩ (.slice none 0 0)).setCell ⟨p, 9, none⟩ (.int .i64 0)) :=
              (((GrowS.setCell (T := fun k => k = p) wc (p := ⟨p, 3, none⟩) rfl _).trans (GrowS.setCell (T := fun k => k = p) _ (p := ⟨p, 6, none⟩) rfl _)).trans (GrowS.setCell (T := fun k => k = p) _ (p := ⟨p, 5, none⟩) rfl _)).trans (GrowS.setCell (T := fun k => k = p) _ (p := ⟨p, 9, none⟩) rfl _)
            exact ⟨rfl, .slice none 0 0, .slice none 0 0, [], by rw [← HF3.out]; exact H4.out.turn gs (by have := ST4.out; simpa [fcells] using this) rfl (.inr ⟨rfl, rfl⟩) (.inr ⟨rfl, rfl, rfl⟩), gs⟩
        case rest =>
          obtain ⟨rfl, Rv2, V2, l2, h5, hg5⟩ := hcut
          have H5 := Lib.hid h5
          have HB5 := Lib.hid (hg5.kept HB4.out (by omega))
          have GE := Lib.hid hg5
          clear h5 hg5
          have hnow : f3.now = n := by rw [← HF3.out]; split <;> rfl
          have c8 : wc.cell? ⟨p, 8, none⟩ = some (.int .u64 n) := by rw [← hnow]; exact H5.out.c 8
          have st0 := H5.out.st
          have st1 := heap_setCell_same wc p 10 _ _ (.bool false) st0
          have st2 := heap_setCell_same _ p 7 _ _ (.int .u64 n) st1
          have a0 := cell_of_row _ p 10 _ _ (0, 0) st0
          have b0 := frozen_of_row _ p 10 _ _ st0
          have a1 := cell_of_row _ p 7 _ _ (0, 0) st1
          have b1 := frozen_of_row _ p 7 _ _ st1
          have ST2 := Lib.hid st2
          clear st0 st1 st2
          go_upto_region 11 with fail
          have gs : GrowS (fun k => k = p) wc ((wc.setCell ⟨p, 10, none⟩ (.bool false)).setCell ⟨p, 7, none⟩ (.int .u64 n)) := (GrowS.setCell (T := fun k => k = p) wc (p := ⟨p, 10, none⟩) rfl _).trans (GrowS.setCell (T := fun k => k = p) _ (p := ⟨p, 7, none⟩) rfl _)
          have ef : askF f now = { f3 with fresh := false, asked := n } := by
            unfold askF
            rw [HRS.out, HV.out, HN.out, ← HF3.out]
            cases r <;> rfl
          have hh3 : f3.hand = f.hand ∧ f3.me = f.me ∧ f3.least = f.least ∧ f3.op = f.op := by rw [← HF3.out]; split <;> exact ⟨rfl, rfl, rfl, rfl⟩
          obtain ⟨f4, hf4⟩ : ∃ f4, askF f now = f4 := ⟨_, rfl⟩
          have h6 : FAt ((wc.setCell ⟨p, 10, none⟩ (.bool false)).setCell ⟨p, 7, none⟩ (.int .u64 n)) T R p f4 b Rv2 V2 l2 := by
            rw [← hf4, ef]
            exact H5.out.turn gs (by have := ST2.out; simpa [fcells] using this) rfl (.inl ⟨rfl, rfl⟩) (.inl ⟨rfl, rfl, rfl⟩)
          have hme : f4.me = f.me ∧ f4.least = f.least ∧ f4.op = f.op := by rw [← hf4, ef]; exact hh3.2
          have H6 := Lib.hid h6
          have HB6 := Lib.hid (gs.kept HB5.out (by omega))
          have GA : Hid (GrowS T w ((wc.setCell ⟨p, 10, none⟩ (.bool false)).setCell ⟨p, 7, none⟩ (.int .u64 n))) :=
            (((G1.out.wide T).trans ((GS.out.mono (fun k e => e ▸ H.out.pT)).trans (GC.out.wide T))).trans ((GD.out.mono (fun k e => e ▸ H.out.pT)).trans (GE.out.mono (fun k e => e ▸ H.out.pT)))).trans (gs.mono (fun k e => e ▸ H.out.pT))
          have HF4 := Lib.hid hf4; have HME := Lib.hid hme
          generalize (wc.setCell ⟨p, 10, none⟩ (.bool false)).setCell ⟨p, 7, none⟩ (.int .u64 n) = w6 at *
          clear gs ef hh3 hf4 h6 hme a0 b0 a1 b1 c8 hnow
          have c3 : w6.cell? ⟨p, 3, none⟩ = some (.int .i64 f4.frm) := H6.out.c 3
          by_cases hneg : f4.frm < 0
          · have d0 : decide (f4.frm < 0) = true := by simp; omega
            go_upto_region 12 with fail
            have c0 : ∀ W, GrowS NoRow w6 W → W.cell? ⟨p, 0, none⟩ = some (.int .i64 f.me) := fun W g => by rw [← HME.out.1]; exact (H6.out.grow g.no).c 0
            have c1 : ∀ W, GrowS NoRow w6 W → W.cell? ⟨p, 1, none⟩ = some (.int .u64 f.least) := fun W g => by rw [← HME.out.2.1]; exact (H6.out.grow g.no).c 1
            refine wp_region_any (by kernel_rfl) ?_
            refine wpAny_take (i := 0) (v := ?_) rfl (by kernel_rfl) (by kernel_rfl) (by kernel_rfl) (fun _ _ _ h => h) (Or.inl ⟨by rfl, fun W => ?_⟩) ?_
            rotate_left
            focus (go_simp <;> with_reducible rfl)
            simp only [Act.put, List.getElem_toArray, List.getElem_cons_succ, List.getElem_cons_zero, List.setIfInBounds_toArray, List.set_cons_zero, List.set_cons_succ]
            refine wpAny_take (i := 1) (v := ?_) rfl (by kernel_rfl) (by kernel_rfl) (by kernel_rfl) (fun _ _ _ h => h) (Or.inl ⟨by rfl, fun W => ?_⟩) ?_
            rotate_left
            focus (go_simp <;> with_reducible rfl)
            simp only [Act.put, List.getElem_toArray, List.getElem_cons_succ, List.getElem_cons_zero, List.setIfInBounds_toArray, List.set_cons_zero, List.set_cons_succ]
            refine wpAny_take (i := 2) (v := ?_) rfl (by kernel_rfl) (by kernel_rfl) (by kernel_rfl) (fun _ _ _ h => h) (Or.inl ⟨by rfl, fun W => ?_⟩) ?_
            rotate_left
            focus (go_simp <;> with_reducible rfl)
            simp only [Act.put, List.getElem_toArray, List.getElem_cons_succ, List.getElem_cons_zero, List.setIfInBounds_toArray, List.set_cons_zero, List.set_cons_succ]
            refine wpAny_take (i := 4) (v := ?_) rfl (by kernel_rfl) (by kernel_rfl) (by kernel_rfl) (fun _ _ _ h => h) (Or.inl ⟨by rfl, fun W => ?_⟩) ?_
            rotate_left
            focus (go_simp <;> with_reducible rfl)
            simp only [Act.put, List.getElem_toArray, List.getElem_cons_succ, List.getElem_cons_zero, List.setIfInBounds_toArray, List.set_cons_zero, List.set_cons_succ]
            refine wpAny_take (i := 5) (v := ?_) rfl (by kernel_rfl) (by kernel_rfl) (by kernel_rfl) (fun _ _ _ h => h) (Or.inl ⟨by rfl, fun W => ?_⟩) ?_
            rotate_left
            focus (go_simp <;> with_reducible rfl)
            simp only [Act.put, List.getElem_toArray, List.getElem_cons_succ, List.getElem_cons_zero, List.setIfInBounds_toArray, List.set_cons_zero, List.set_cons_succ]
            refine wpAny_take (i := 6) (v := ?_) rfl (by kernel_rfl) (by kernel_rfl) (by kernel_rfl) (fun _ _ _ h => h) (Or.inl ⟨by rfl, fun W => ?_⟩) ?_
            rotate_left
            focus (go_simp <;> with_reducible rfl)
            simp only [Act.put, List.getElem_toArray, List.getElem_cons_succ, List.getElem_cons_zero, List.setIfInBounds_toArray, List.set_cons_zero, List.set_cons_succ]
            refine WChain.from Nat NoRow 119 (by kernel_rfl) (by kernel_rfl) (by kernel_rfl) (by kernel_rfl) (Grow.drew _) (fun hg => ?_)
            repeat (first | (refine WChain.was (by rfl) ?_) | (refine WChain.skip hg (by rfl) (fun t => by rfl) ?_; simp only [Act.put, List.setIfInBounds_toArray, List.set_cons_zero, List.set_cons_succ]) | (refine WChain.pure hg (X := ?_) (by rfl) (fun t W hw hN => ⟨by rfl, ?_⟩) ?_; rotate_left; (focus (go_simp <;> with_reducible rfl)); simp only [Act.put, List.setIfInBounds_toArray, List.set_cons_zero, List.set_cons_succ]))
            refine WChain.last (wtail_of (by kernel_rfl)) (by kernel_rfl) (fun t W hw hN => ?_)
            have H7 := Lib.hid (H6.out.grow hw.no)
            have HB7 := Lib.hid (row_grow HB6.out hw.no)
            have GW := Lib.hid (GA.out.trans (hw.no.wide T))
            clear hN hg c0 c1 hw c3
            go_wp2_with (
              refine wpList_store_row rfl _ _ _ rfl w.heap.size #[.int .i64 14, .int .u64 0, .int .i64 f.me, .int .u32 0, .int .u64 0, .int .u64 0, .int .u64 f.least, .int .u64 0, .int .u64 0, .int .u64 0, .int .u64 0, .int .u32 0, .int .u64 0, .slice none 0 0, .int .u32 0, .int .i64 0, .int .i64 0, .bool false, .slice none 0 0, .slice none 0 0] rfl rfl _ _ HB7.out (by kernel_rfl) rfl msg_oc ?_)
            have hrw := setRow_heap W w.heap.size _ #[.int .i64 14, .int .u64 0, .int .i64 f.me, .int .u32 0, .int .u64 0, .int .u64 0, .int .u64 f.least, .int .u64 0, .int .u64 0, .int .u64 0, .int .u64 0, .int .u32 0, .int .u64 0, .slice none 0 0, .int .u32 0, .int .i64 0, .int .i64 0, .bool false, .slice none 0 0, .slice none 0 0] _ _ HB7.out
            have g3 := GrowS.setRow (T := fun i => i = w.heap.size) W rfl #[.int .i64 14, .int .u64 0, .int .i64 f.me, .int .u32 0, .int .u64 0, .int .u64 0, .int .u64 f.least, .int .u64 0, .int .u64 0, .int .u64 0, .int .u64 0, .int .u32 0, .int .u64 0, .slice none 0 0, .int .u32 0, .int .i64 0, .int .i64 0, .bool false, .slice none 0 0, .slice none 0 0]
            refine bodyPost_ret (v := .tuple #[.int .i64 (-1), .agg #[.int .i64 14, .int .u64 0, .int .i64 f.me, .int .u32 0, .int .u64 0, .int .u64 0, .int .u64 f.least, .int .u64 0, .int .u64 0, .int .u64 0, .int .u64 0, .int .u32 0, .int .u64 0, .slice none 0 0, .int .u32 0, .int .i64 0, .int .i64 0, .bool false, .slice none 0 0, .slice none 0 0], .bool true]) (results_tct (s := 4) (p := 5) (u := 6) (ty := 42) rfl _ _ w.heap.size _ rfl (run_loadVar_row _ _ _ _ _ _ _ hrw Try.underlying42 rfl (by kernel_rfl))) rfl ?_
            refine ⟨⟨b, Rv2, V2, l2, by rw [HF4.out]; exact H7.out.keep g3 (fun k hk e => by have := H.out.ltT k hk; omega) (fun k hk e => by have := H.out.ltR k hk; omega)⟩, GW.out.news g3 (fun i e => .inr (by omega)), .inl ⟨by rw [HF4.out]; exact hneg, rfl⟩⟩
          · have d0 : decide (f4.frm < 0) = false := by simp; omega
            obtain ⟨i, d, hi1, hi2, -⟩ := next_some HD.out (show 0 ≤ (askF f now).frm by rw [HF4.out]; omega)
            rw [HF4.out] at hi1 hi2
            obtain ⟨v2, hx⟩ : ∃ v2, l2[i]? = some (d, v2) := by
              rw [← H6.out.map, List.getElem?_map] at hi2
              cases hq : l2[i]? with
              | none => rw [hq] at hi2; cases hi2
              | some x =>
                rw [hq] at hi2
                simp at hi2
                exact ⟨x.2, by rw [← hi2]⟩
            obtain ⟨A8, m8, e8, hv8, hL8, -⟩ := (H6.out.each _ (List.mem_of_getElem? hx)).lies
            simp only at hv8 hL8
            subst hv8
            have hm8 : m8 = d.bs.length := by have := hL8.len; rw [byt_len] at this; omega
            obtain ⟨gd, cd, hV2⟩ := own_pos H6.out.docs (by have := (List.getElem?_eq_some_iff.1 hx).1; omega)
            subst hV2
            obtain ⟨k2, hk2⟩ : ∃ k2, l2.length = k2 := ⟨_, rfl⟩
            have hik : i < k2 := by rw [← hk2]; exact (List.getElem?_eq_some_iff.1 hx).1
            have HI1 := Lib.hid hi1; have HI2 := Lib.hid hi2; have HX := Lib.hid hx; have HM8 := Lib.hid hm8
            have i0 : (0 : Int) ≤ (i : Int) := by omega
            have i1 : (i : Int) < (k2 : Int) := by omega
            rw [hk2] at H6
            have HK2 := Lib.hid hk2
            clear hi1 hi2 hx hm8 hL8 hk2
            go_upto_region 13 with fail
            have c6 : ∀ W, Grow w6 W → W.cell? ⟨p, 6, none⟩ = some (.slice (some ⟨gd, 0, none⟩) k2 cd) := fun W g => (H6.out.grow g).c 6
            have RL : ∀ W, Grow w6 W → Lies W 6 (some ⟨gd, 0, none⟩) k2 cd (l2.flatMap dcell) := fun W g => Lies.of_own (by have := (H6.out.grow g).docs; rw [HK2.out] at this; exact this)
            have x0 := fun (W : World) (g : Grow w6 W) => Lies.flat_cell (j := 0) dcell_len (RL W g) HX.out rfl
            have x1 := fun (W : World) (g : Grow w6 W) => Lies.flat_cell (j := 1) dcell_len (RL W g) HX.out rfl
            have x2 := fun (W : World) (g : Grow w6 W) => Lies.flat_cell (j := 2) dcell_len (RL W g) HX.out rfl
            have x3 := fun (W : World) (g : Grow w6 W) => Lies.flat_cell (j := 3) dcell_len (RL W g) HX.out rfl
            have x4 := fun (W : World) (g : Grow w6 W) => Lies.flat_cell (j := 4) dcell_len (RL W g) HX.out rfl
            have x5 := fun (W : World) (g : Grow w6 W) => Lies.flat_cell (j := 5) dcell_len (RL W g) HX.out rfl
            simp only [Nat.zero_add, Nat.add_zero] at x0 x1 x2 x3 x4 x5
            clear RL c3
            refine Chain.start Nat (by kernel_rfl) (by kernel_rfl) (fun hg => ?_)
            repeat (first | (refine Chain.skip hg (fun t => by rfl) ?_; simp only [Act.put, List.setIfInBounds_toArray, List.set_cons_zero, List.set_cons_succ]) | (refine Chain.pure hg (X := ?_) (fun t W hw hN => ⟨by rfl, ?_⟩) ?_; rotate_left; (focus (go_simp <;> with_reducible rfl)); simp only [Act.put, List.setIfInBounds_toArray, List.set_cons_zero, List.set_cons_succ]))
            refine Chain.grow hg (fun _ => .int .i64 (i : Int)) (fun _ _ => True) (fun _ _ _ h _ => h) (fun _ => by rfl) (fun t W hw hN K hK => ?_) ?_
            · go_simp; refine (fnext_any (H6.out.grow hw)).mono ?_; rw [HI1.out]; rintro e w9 ⟨rfl, g9⟩; exact hK.out default _ g9 trivial
            simp only [Act.put, List.setIfInBounds_toArray, List.set_cons_zero, List.set_cons_succ]
            repeat (first | (refine Chain.skip hg (fun t => by rfl) ?_; simp only [Act.put, List.setIfInBounds_toArray, List.set_cons_zero, List.set_cons_succ]) | (refine Chain.pure hg (X := ?_) (fun t W hw hN => ⟨by rfl, ?_⟩) ?_; rotate_left; (focus (go_simp <;> with_reducible rfl)); simp only [Act.put, List.setIfInBounds_toArray, List.set_cons_zero, List.set_cons_succ]))
            refine Chain.grow hg (fun g => .pointer (some ⟨g, 0, none⟩)) (fun g W => W.heap[g]? = some (.cells #[.int .u32 0, .int .u64 0, .int .u64 0, .slice none 0 0, .int .i64 0, .bool false] 73 (0, 0)) ∧ w6.heap.size ≤ g) (fun _ _ _ h k => ⟨row_grow h.1 k, h.2⟩) (fun _ => by rfl) (fun t W hw hN K hK => ?_) ?_
            · go_simp; exact hK.out _ _ (Grow.alloc _ _) ⟨heap_alloc_new _ _, hw.size⟩
            simp only [Act.put, List.setIfInBounds_toArray, List.set_cons_zero, List.set_cons_succ]
            refine Chain.tail (tail_of (by kernel_rfl)) (fun t W hw hN => ?_)
            obtain ⟨hrow, hgl⟩ := hN.get 8 rfl (by kernel_rfl)
            generalize t 8 = g at *
            refine wpList_store_row rfl _ _ _ rfl g #[.int .u32 d.doc, .int .u64 d.rev, .int .u64 d.turn, .slice A8 m8 e8, .int .i64 d.total, .bool d.all] rfl rfl _ _ hrow (by kernel_rfl) rfl (by simp [Value.oneCell']) ?_
            have hrw := setRow_heap W g _ #[.int .u32 d.doc, .int .u64 d.rev, .int .u64 d.turn, .slice A8 m8 e8, .int .i64 d.total, .bool d.all] _ _ hrow
            have gg : Grow w6 (W.setRow g #[.int .u32 d.doc, .int .u64 d.rev, .int .u64 d.turn, .slice A8 m8 e8, .int .i64 d.total, .bool d.all]) := below_setRow hw hgl _
            generalize W.setRow g #[.int .u32 d.doc, .int .u64 d.rev, .int .u64 d.turn, .slice A8 m8 e8, .int .i64 d.total, .bool d.all] = w7 at *
            have HRW := Lib.hid hrw; have GG := Lib.hid gg
            clear hN hg c6 x0 x1 x2 x3 x4 x5 hw hrow hgl hrw gg
            go_upto_region 14 with fail
            have c0 : ∀ W, GrowS NoRow w7 W → W.cell? ⟨p, 0, none⟩ = some (.int .i64 f.me) := fun W g => by rw [← HME.out.1]; exact (H6.out.grow (GG.out.trans g.no)).c 0
            have c3 : ∀ W, GrowS NoRow w7 W → W.cell? ⟨p, 3, none⟩ = some (.int .i64 f4.frm) := fun W g => (H6.out.grow (GG.out.trans g.no)).c 3
            have c4 : ∀ W, GrowS NoRow w7 W → W.cell? ⟨p, 4, none⟩ = some (.int .u64 f.op) := fun W g => by rw [← HME.out.2.2]; exact (H6.out.grow (GG.out.trans g.no)).c 4
            have y0 : ∀ W, GrowS NoRow w7 W → W.cell? ⟨g, 0, none⟩ = some (.int .u32 d.doc) := fun W k => cell_of_row W g 0 _ _ (0, 0) (row_grow HRW.out k.no)
            have y3 : ∀ W, GrowS NoRow w7 W → W.cell? ⟨g, 3, none⟩ = some (.slice A8 m8 e8) := fun W k => cell_of_row W g 3 _ _ (0, 0) (row_grow HRW.out k.no)
            refine wp_region_any (by kernel_rfl) ?_
            refine wpAny_take (i := 0) (v := ?_) rfl (by kernel_rfl) (by kernel_rfl) (by kernel_rfl) (fun _ _ _ h => h) (Or.inl ⟨by rfl, fun W => ?_⟩) ?_
            rotate_left
            focus (go_simp <;> with_reducible rfl)
            simp only [Act.put, List.getElem_toArray, List.getElem_cons_succ, List.getElem_cons_zero, List.setIfInBounds_toArray, List.set_cons_zero, List.set_cons_succ]
            refine wpAny_take (i := 1) (v := ?_) rfl (by kernel_rfl) (by kernel_rfl) (by kernel_rfl) (fun _ _ _ h => h) (Or.inl ⟨by rfl, fun W => ?_⟩) ?_
            rotate_left
            focus (go_simp <;> with_reducible rfl)
            simp only [Act.put, List.getElem_toArray, List.getElem_cons_succ, List.getElem_cons_zero, List.setIfInBounds_toArray, List.set_cons_zero, List.set_cons_succ]
            refine wpAny_take (i := 2) (v := ?_) rfl (by kernel_rfl) (by kernel_rfl) (by kernel_rfl) (fun _ _ _ h => h) (Or.inl ⟨by rfl, fun W => ?_⟩) ?_
            rotate_left
            focus (go_simp <;> with_reducible rfl)
            simp only [Act.put, List.getElem_toArray, List.getElem_cons_succ, List.getElem_cons_zero, List.setIfInBounds_toArray, List.set_cons_zero, List.set_cons_succ]
            refine wpAny_take (i := 4) (v := ?_) rfl (by kernel_rfl) (by kernel_rfl) (by kernel_rfl) (fun _ _ _ h => h) (Or.inl ⟨by rfl, fun W => ?_⟩) ?_
            rotate_left
            focus (go_simp <;> with_reducible rfl)
            simp only [Act.put, List.getElem_toArray, List.getElem_cons_succ, List.getElem_cons_zero, List.setIfInBounds_toArray, List.set_cons_zero, List.set_cons_succ]
            refine wpAny_take (i := 5) (v := ?_) rfl (by kernel_rfl) (by kernel_rfl) (by kernel_rfl) (fun _ _ _ h => h) (Or.inl ⟨by rfl, fun W => ?_⟩) ?_
            rotate_left
            focus (go_simp <;> with_reducible rfl)
            simp only [Act.put, List.getElem_toArray, List.getElem_cons_succ, List.getElem_cons_zero, List.setIfInBounds_toArray, List.set_cons_zero, List.set_cons_succ]
            refine wpAny_take (i := 6) (v := ?_) rfl (by kernel_rfl) (by kernel_rfl) (by kernel_rfl) (fun _ _ _ h => h) (Or.inl ⟨by rfl, fun W => ?_⟩) ?_
            rotate_left
            focus (go_simp <;> with_reducible rfl)
            simp only [Act.put, List.getElem_toArray, List.getElem_cons_succ, List.getElem_cons_zero, List.setIfInBounds_toArray, List.set_cons_zero, List.set_cons_succ]
            refine wpAny_take (i := 8) (v := ?_) rfl (by kernel_rfl) (by kernel_rfl) (by kernel_rfl) (fun _ _ _ h => h) (Or.inl ⟨by rfl, fun W => ?_⟩) ?_
            rotate_left
            focus (go_simp <;> with_reducible rfl)
            simp only [Act.put, List.getElem_toArray, List.getElem_cons_succ, List.getElem_cons_zero, List.setIfInBounds_toArray, List.set_cons_zero, List.set_cons_succ]
            refine wpAny_take (i := 9) (v := ?_) rfl (by kernel_rfl) (by kernel_rfl) (by kernel_rfl) (fun _ _ _ h => h) (Or.inl ⟨by rfl, fun W => ?_⟩) ?_
            rotate_left
            focus (go_simp <;> with_reducible rfl)
            simp only [Act.put, List.getElem_toArray, List.getElem_cons_succ, List.getElem_cons_zero, List.setIfInBounds_toArray, List.set_cons_zero, List.set_cons_succ]
            refine wpAny_take (i := 10) (v := ?_) rfl (by kernel_rfl) (by kernel_rfl) (by kernel_rfl) (fun _ _ _ h => h) (Or.inl ⟨by rfl, fun W => ?_⟩) ?_
            rotate_left
            focus (go_simp <;> with_reducible rfl)
            simp only [Act.put, List.getElem_toArray, List.getElem_cons_succ, List.getElem_cons_zero, List.setIfInBounds_toArray, List.set_cons_zero, List.set_cons_succ]
            refine wpAny_take (i := 12) (v := ?_) rfl (by kernel_rfl) (by kernel_rfl) (by kernel_rfl) (fun _ _ _ h => h) (Or.inl ⟨by rfl, fun W => ?_⟩) ?_
            rotate_left
            focus (go_simp <;> with_reducible rfl)
            simp only [Act.put, List.getElem_toArray, List.getElem_cons_succ, List.getElem_cons_zero, List.setIfInBounds_toArray, List.set_cons_zero, List.set_cons_succ]
            refine wpAny_take (i := 13) (v := ?_) rfl (by kernel_rfl) (by kernel_rfl) (by kernel_rfl) (fun _ _ _ h => h) (Or.inl ⟨by rfl, fun W => ?_⟩) ?_
            rotate_left
            focus (go_simp <;> with_reducible rfl)
            simp only [Act.put, List.getElem_toArray, List.getElem_cons_succ, List.getElem_cons_zero, List.setIfInBounds_toArray, List.set_cons_zero, List.set_cons_succ]
            refine wpAny_take (i := 15) (v := ?_) rfl (by kernel_rfl) (by kernel_rfl) (by kernel_rfl) (fun _ _ _ h => h) (Or.inl ⟨by rfl, fun W => ?_⟩) ?_
            rotate_left
            focus (go_simp <;> with_reducible rfl)
            simp only [Act.put, List.getElem_toArray, List.getElem_cons_succ, List.getElem_cons_zero, List.setIfInBounds_toArray, List.set_cons_zero, List.set_cons_succ]
            refine wpAny_take (i := 16) (v := ?_) rfl (by kernel_rfl) (by kernel_rfl) (by kernel_rfl) (fun _ _ _ h => h) (Or.inl ⟨by rfl, fun W => ?_⟩) ?_
            rotate_left
            focus (go_simp <;> with_reducible rfl)
            simp only [Act.put, List.getElem_toArray, List.getElem_cons_succ, List.getElem_cons_zero, List.setIfInBounds_toArray, List.set_cons_zero, List.set_cons_succ]
            refine WChain.from Nat NoRow 112503 (by kernel_rfl) (by kernel_rfl) (by kernel_rfl) (by kernel_rfl) (Grow.drew _) (fun hg => ?_)
            repeat (first | (refine WChain.was (by rfl) ?_) | (refine WChain.skip hg (by rfl) (fun t => by rfl) ?_; simp only [Act.put, List.setIfInBounds_toArray, List.set_cons_zero, List.set_cons_succ]) | (refine WChain.pure hg (X := ?_) (by rfl) (fun t W hw hN => ⟨by rfl, ?_⟩) ?_; rotate_left; (focus (go_simp <;> with_reducible rfl)); simp only [Act.put, List.setIfInBounds_toArray, List.set_cons_zero, List.set_cons_succ]))
            refine WChain.last (wtail_of (by kernel_rfl)) (by kernel_rfl) (fun t W hw hN => ?_)
            have H7 := Lib.hid (H6.out.grow (GG.out.trans hw.no))
            have HB7 := Lib.hid (row_grow HB6.out (GG.out.trans hw.no))
            have GW := Lib.hid (GA.out.trans ((GG.out.trans hw.no).wide T))
            clear hN hg c0 c3 c4 y0 y3 hw
            go_wp2_with (
              refine wpList_store_row rfl _ _ _ rfl w.heap.size #[.int .i64 16, .int .u64 0, .int .i64 f.me, .int .u32 0, .int .u64 0, .int .u64 0, .int .u64 f.op, .int .u64 0, .int .u64 0, .int .u64 0, .int .u64 0, .int .u32 0, .int .u64 0, .slice none 0 0, .int .u32 d.doc, .int .i64 m8, .int .i64 0, .bool false, .slice none 0 0, .slice none 0 0] rfl rfl _ _ HB7.out (by kernel_rfl) rfl msg_oc ?_)
            have hrw := setRow_heap W w.heap.size _ #[.int .i64 16, .int .u64 0, .int .i64 f.me, .int .u32 0, .int .u64 0, .int .u64 0, .int .u64 f.op, .int .u64 0, .int .u64 0, .int .u64 0, .int .u64 0, .int .u32 0, .int .u64 0, .slice none 0 0, .int .u32 d.doc, .int .i64 m8, .int .i64 0, .bool false, .slice none 0 0, .slice none 0 0] _ _ HB7.out
            have g3 := GrowS.setRow (T := fun i => i = w.heap.size) W rfl #[.int .i64 16, .int .u64 0, .int .i64 f.me, .int .u32 0, .int .u64 0, .int .u64 0, .int .u64 f.op, .int .u64 0, .int .u64 0, .int .u64 0, .int .u64 0, .int .u32 0, .int .u64 0, .slice none 0 0, .int .u32 d.doc, .int .i64 m8, .int .i64 0, .bool false, .slice none 0 0, .slice none 0 0]
            refine bodyPost_ret (v := .tuple #[.int .i64 f4.frm, .agg #[.int .i64 16, .int .u64 0, .int .i64 f.me, .int .u32 0, .int .u64 0, .int .u64 0, .int .u64 f.op, .int .u64 0, .int .u64 0, .int .u64 0, .int .u64 0, .int .u32 0, .int .u64 0, .slice none 0 0, .int .u32 d.doc, .int .i64 m8, .int .i64 0, .bool false, .slice none 0 0, .slice none 0 0], .bool true]) (results_tct (s := 4) (p := 5) (u := 6) (ty := 42) rfl _ _ w.heap.size _ rfl (run_loadVar_row _ _ _ _ _ _ _ hrw Try.underlying42 rfl (by kernel_rfl))) rfl ?_
            refine ⟨⟨b, Rv2, _, l2, by rw [HF4.out]; exact H7.out.keep g3 (fun k hk e => by have := H.out.ltT k hk; omega) (fun k hk e => by have := H.out.ltR k hk; omega)⟩, GW.out.news g3 (fun i e => .inr (by omega)), .inr ⟨by rw [HF4.out]; omega, i, d, by rw [HF4.out]; exact HI1.out, by rw [HF4.out]; exact HI2.out, by rw [HF4.out, HM8.out]⟩⟩
end Go.Proofs.Ytlnokohmmhmoaaa

