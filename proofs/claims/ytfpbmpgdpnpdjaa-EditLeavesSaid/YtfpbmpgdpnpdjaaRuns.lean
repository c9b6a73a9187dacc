/-
  edit: the contract of Runs.
-/
import Derived.Test.YtfpbmpgdpnpdjaaRunsM
import Derived.Test.YtfpbmpgdpnpdjaaOpen
namespace Go.Proofs.Ytfpbmpgdpnpdjaa
open Go.RowKit
set_option linter.unusedSimpArgs false

theorem runsOf_chars (us : List U) : ∀ r ∈ runsOf us, r.cs.length ≤ us.length := by
  suffices h : ∀ (us : List U) (rs : List R) (k : Nat), (∀ r ∈ rs, r.cs.length ≤ k) → ∀ r ∈ us.foldl addU rs, r.cs.length ≤ k + us.length by
    have := h us [] 0 (fun r hr => by cases hr)
    simpa [runsOf] using this
  intro us
  induction us with
  | nil => intro rs k h; simpa using h
  | cons u us ih =>
    intro rs k h
    have h2 := ih (addU rs u) (k + 1) (by
      intro r hr
      cases hg : goes rs u with
      | false =>
        rw [addU_new hg, List.mem_append] at hr
        rcases hr with hr | hr
        · have := h r hr; omega
        · simp at hr; subst hr; simp
      | true =>
        rcases List.eq_nil_or_concat rs with rfl | ⟨q, x, rfl⟩
        · cases hg
        · rw [List.concat_eq_append] at hg h hr
          rw [addU_on hg, List.mem_append] at hr
          rcases hr with hr | hr
          · have := h r (List.mem_append_left _ hr); omega
          · simp at hr; subst hr
            have := h x (by simp)
            simp; omega)
    intro r hr
    have := h2 r hr
    simp only [List.length_cons]; omega

theorem foll_any {g0 base : Nat} {V : Value} {l : List (R × Value)} {u : U} {w : World} (hbox : w.cell? ⟨g0, 0, none⟩ = some V) (hR : RunsAt w base V l) :
    Calls Try.prog 47 #[.agg #[.int .i64 u.k, .int .i64 u.p, .int .i32 u.c, .int .u32 u.cl, .int .u64 u.rq], .pointer (some ⟨g0, 0, none⟩)] w fun e w' => e = .returned (.bool (goes (l.map (·.1)) u)) ∧ Grow w w' := by
  rcases List.eq_nil_or_concat l with rfl | ⟨l0, ⟨r, v⟩, rfl⟩
  · obtain ⟨A, c, rfl, -⟩ := own_form hR.row
    exact foll_nil hbox
  · rw [List.concat_eq_append] at hR ⊢
    obtain ⟨A, c, rfl, hL⟩ := own_form hR.row
    obtain ⟨A2, c2, hv, -⟩ := own_form (hR.each (r, v) (by simp))
    simp only at hv
    subst hv
    obtain ⟨b, off, rfl, -, -⟩ := hL.pos (by simp) (by decide)
    rw [List.map_append, show [(r, Value.slice A2 r.cs.length c2)].map (·.1) = [r] from rfl, goes_snoc]
    exact foll_snoc hbox hL

def RunsPost (us : List U) (w : World) (e : Ending) (w' : World) : Prop :=
  ∃ V l, e = .returned V ∧ l.map (·.1) = runsOf us ∧ RunsAt w' w.heap.size V l ∧ Grow w w'
set_option maxRecDepth 100000 in
set_option maxHeartbeats 4000000 in
set_option linter.unusedVariables false in
theorem runs_any {A : Option Addr} {n cap : Nat} {us : List U} {w : World} (hL : Lies w 5 A n cap (uns us)) (hn : n * 56 ≤ 140737488355328) :
    Calls Try.prog 15 #[.slice A n cap] w (RunsPost us w) := by
  have hle := hL.le
  have hbig := hL.big
  have hln := hL.uns_len
  have HL := Lib.hid hL; have HLN := Lib.hid hln
  clear hL hln
  go_enter Try.func15, Try.ntmps15
  go_wp2
  go_loopw [11] (fun i wr => ∃ (j : Nat) (V : Value) (l : List (R × Value)), j ≤ n ∧ i = .int .i64 j ∧ wr.heap[w.heap.size]? = some (.cells #[V] 32 (0, 0)) ∧ Hid (l.map (·.1) = runsOf (us.take j)) ∧ RunsAt wr (w.heap.size + 1) V l ∧ Grow w wr ∧ w.heap.size + 1 ≤ wr.heap.size) (fun i _ => n - (intOf i).toNat)
  case atStart => exact ⟨0, .slice none 0 0, [], Nat.zero_le _, rfl, heap_alloc_new _ _, by simp [Hid, runsOf], RunsAt.nil _ _, Grow.alloc _ _, by simp⟩
  case round =>
    obtain ⟨j, V, l, hj, rfl, hbox, hrs, hR, hg, hsz⟩ := hrel
    by_cases hlt : j < n
    · obtain ⟨u, hu⟩ : ∃ u, us[j]? = some u := ⟨_, List.getElem?_eq_getElem (by have := HLN.out; omega)⟩
      obtain ⟨b, off, rfl, hbs, hcell⟩ := HL.out.pos (by omega) (by decide)
      obtain ⟨x0, x1, x2, x3, x4⟩ := HL.out.unit_cells hu wr hg
      have HU := Lib.hid hu; have HR := Lib.hid hR; have G1 := Lib.hid hg
      clear hu hcell hR hg
      go_wp2_with fail
      refine (foll_any (u := u) (base := w.heap.size + 1) (grow_cell (cell_of_row wr w.heap.size 0 _ _ (0, 0) hbox) (Grow.alloc _ _)) (HR.out.grow (Grow.alloc _ _))).mono ?_
      obtain ⟨gb, hgb⟩ : ∃ gb, goes (l.map (·.1)) u = gb := ⟨_, rfl⟩
      rw [hgb]
      have HGB := Lib.hid hgb
      rintro e w1 ⟨rfl, g1⟩
      have g2 := (Grow.alloc wr _).trans g1
      have hu1 := row_grow (heap_alloc_new wr _) g1
      have HU1 := Lib.hid hu1
      have hb1 := row_grow hbox g2
      have box1 := cell_of_row w1 w.heap.size 0 _ _ (0, 0) hb1
      have HB1 := Lib.hid hb1
      have HAP : Hid (∀ g, V.ownBlock = some g → g < wr.heap.size) := fun g hg => (HR.out.row.lt g hg).2
      have q0 := cell_of_row w1 wr.heap.size 0 _ _ (0, 0) hu1
      have q1 := cell_of_row w1 wr.heap.size 1 _ _ (0, 0) hu1
      have q2 := cell_of_row w1 wr.heap.size 2 _ _ (0, 0) hu1
      have q3 := cell_of_row w1 wr.heap.size 3 _ _ (0, 0) hu1
      have q4 := cell_of_row w1 wr.heap.size 4 _ _ (0, 0) hu1
      have R1 := Lib.hid (HR.out.grow g2); have G2 := Lib.hid g2
      have S1 := Lib.hid g2.size
      clear hgb g1 g2 hu1 hbox hb1 x0 x1 x2 x3 x4
      obtain ⟨A1, c1, rfl, -⟩ := own_form R1.out.row
      have hlen : l.length ≤ j := by
        have h1 := congrArg List.length hrs.out
        have h2 := runsOf_len (us.take j)
        rw [List.length_map] at h1
        rw [List.length_take] at h2
        omega
      cases gb with
      | false =>
        go_wp2_with (at_builtin; refine wpList_appR rfl (.tmp 22) (.tmp 30) rfl (w.heap.size + 1) _ l (newR u) rfl rfl (R1.out.grow (Grow.alloc _ _)) (some ⟨w1.heap.size, 0, none⟩) rfl (lies_run (newR u) rfl) (by omega) (by have := S1.out; simp at this ⊢; omega) ?_; intro V3 w3 R3 gr3; obtain ⟨b3, c3, rfl⟩ := own_pos R3.row (by simp); have hb3 := app_kept gr3 (row_grow HB1.out (Grow.alloc _ _)) (fun e => by have := (R1.out.row.lt _ e).1; omega); have box3 := cell_of_row w3 w.heap.size 0 _ _ (0, 0) hb3; have fr3 := frozen_of_row w3 w.heap.size 0 _ _ hb3)
        have hb4 := heap_setCell_same w3 w.heap.size 0 _ _ (.slice (some ⟨b3, 0, none⟩) (l.length + 1) c3) hb3
        have hu4 := (heap_set w3 w.heap.size 0 wr.heap.size (.slice (some ⟨b3, 0, none⟩) (l.length + 1) c3) (by omega)).trans (app_kept gr3 (row_grow HU1.out (Grow.alloc _ _)) (fun e => by have := HAP.out _ e; omega))
        have R4 := R3.setBox (g := w.heap.size) (o := 0) (x := .slice (some ⟨b3, 0, none⟩) (l.length + 1) c3) (by omega)
        rw [List.length_append, List.length_singleton] at R4
        have g4 : Grow w (w3.setCell ⟨w.heap.size, 0, none⟩ (.slice (some ⟨b3, 0, none⟩) (l.length + 1) c3)) :=
          Below.setCell (below_own (G1.out.trans (G2.out.trans (Grow.alloc _ _))) (R1.out.grow (Grow.alloc _ _)).row gr3 (by omega) (by have := S1.out; simp at this ⊢; omega)) (Nat.le_refl _) _
        have sz4 : w.heap.size + 1 ≤ (w3.setCell ⟨w.heap.size, 0, none⟩ (.slice (some ⟨b3, 0, none⟩) (l.length + 1) c3)).heap.size := by
          have h1 := gr3.size; have h2 := S1.out
          simp [World.setCell] at h1 h2 ⊢; omega
        have fin : l.map (·.1) ++ [{ newR u with cs := (newR u).cs ++ [u.c] }] = runsOf (us.take (j + 1)) := by
          rw [runsOf_snoc HU.out, ← hrs.out, addU_new HGB.out]; rfl
        generalize w3.setCell ⟨w.heap.size, 0, none⟩ (.slice (some ⟨b3, 0, none⟩) (l.length + 1) c3) = w4 at *
        obtain ⟨l0, hl0⟩ : ∃ l0, l = l0 := ⟨_, rfl⟩
        obtain ⟨r, hr⟩ : ∃ r, newR u = r := ⟨_, rfl⟩
        rw [hr] at R4 fin
        rw [hl0] at R4 fin hb4 ⊢
        obtain ⟨A2, m2, c2, hv2⟩ : ∃ A2 m2 c2, (Value.slice none 0 0) = .slice A2 m2 c2 := ⟨_, _, _, rfl⟩
        rw [hv2] at R4
        have R4 := Lib.hid R4; have G4 := Lib.hid g4; have HU4 := Lib.hid hu4; have HB4 := Lib.hid hb4; have FIN := Lib.hid fin
        clear hv2 hr hl0 g4 hu4 hb4 fin gr3 R3 hb3 box3 fr3 q0 q1 q2 q3 q4 box1
        have row4 := R4.out.row
        have hv4 := R4.out.each _ (List.mem_append_right _ (List.mem_singleton.2 rfl))
        have hm0 := own_len hv4
        simp only at hm0
        subst hm0
        have hm2 : r.cs.length + 1 ≤ n := by
          have h1 := runsOf_chars (us.take (j + 1)) _ (FIN.out ▸ List.mem_append_right _ (List.mem_singleton.2 rfl))
          rw [List.length_take, List.length_append] at h1
          simp only [List.length_singleton] at h1
          omega
        rw [List.length_append, List.length_singleton] at row4
        have L4 := Lies.of_own row4
        have c41 : ∀ W, GrowS NoRow w4 W → W.cell? ⟨b3, l0.length * 5 + 4, none⟩ = some (.slice A2 r.cs.length c2) := fun W h => grow_cell (by have := L4.last_cells 4 _ rfl; rwa [Nat.zero_add, show l0.length + 1 - 1 = l0.length by omega] at this) h.no
        have c43 : ∀ W, GrowS NoRow w4 W → W.cell? ⟨wr.heap.size, 2, none⟩ = some (.int .i32 u.c) := fun W h => cell_of_row W wr.heap.size 2 _ _ (0, 0) (row_grow HU4.out h.no)
        clear hv4 row4 L4
        refine wp_region_any (by kernel_rfl) ?_
        refine wpAny_take (i := 0) (v := ?_) rfl (by kernel_rfl) (by kernel_rfl) (by kernel_rfl) (fun _ _ _ h => h) (Or.inl ⟨by rfl, fun W => ?_⟩) ?_
        rotate_left
        focus (go_simp <;> with_reducible rfl)
        simp only [Act.put, List.getElem_toArray, List.getElem_cons_succ, List.getElem_cons_zero, List.setIfInBounds_toArray, List.set_cons_zero, List.set_cons_succ]
        refine wpAny_take (i := 1) (v := ?_) rfl (by kernel_rfl) (by kernel_rfl) (by kernel_rfl) (fun _ _ _ h => h) (Or.inl ⟨by rfl, fun W => ?_⟩) ?_
        rotate_left
        focus (go_simp <;> with_reducible rfl)
        simp only [Act.put, List.getElem_toArray, List.getElem_cons_succ, List.getElem_cons_zero, List.setIfInBounds_toArray, List.set_cons_zero, List.set_cons_succ]
        refine wpAny_take (i := 2) (v := ?_) rfl (by kernel_rfl) (by kernel_rfl) (by kernel_rfl) (fun _ _ _ h => h) (Or.inl ⟨by rfl, fun W => ?_⟩) ?_
        rotate_left
        focus (go_simp <;> with_reducible rfl)
        simp only [Act.put, List.getElem_toArray, List.getElem_cons_succ, List.getElem_cons_zero, List.setIfInBounds_toArray, List.set_cons_zero, List.set_cons_succ]
        refine wpAny_take (i := 3) (v := ?_) rfl (by kernel_rfl) (by kernel_rfl) (by kernel_rfl) (fun _ _ _ h => h) (Or.inl ⟨by rfl, fun W => ?_⟩) ?_
        rotate_left
        focus (go_simp <;> with_reducible rfl)
        simp only [Act.put, List.getElem_toArray, List.getElem_cons_succ, List.getElem_cons_zero, List.setIfInBounds_toArray, List.set_cons_zero, List.set_cons_succ]
        refine wpAny_take (i := 5) (v := ?_) rfl (by kernel_rfl) (by kernel_rfl) (by kernel_rfl) (fun _ _ _ h => h) (Or.inl ⟨by rfl, fun W => ?_⟩) ?_
        rotate_left
        focus (go_simp <;> with_reducible rfl)
        simp only [Act.put, List.getElem_toArray, List.getElem_cons_succ, List.getElem_cons_zero, List.setIfInBounds_toArray, List.set_cons_zero, List.set_cons_succ]
        refine WChain.from Nat NoRow 47 (by kernel_rfl) (by kernel_rfl) (by kernel_rfl) (by kernel_rfl) (Grow.drew _) (fun hg => ?_)
        repeat (first | (refine WChain.was (by rfl) ?_) | (refine WChain.skip hg (by rfl) (fun t => by rfl) ?_; simp only [Act.put, List.setIfInBounds_toArray, List.set_cons_zero, List.set_cons_succ]) | (refine WChain.pure hg (X := ?_) (by rfl) (fun t W hw hN => ⟨by rfl, ?_⟩) ?_; rotate_left; (focus (go_simp <;> with_reducible rfl)); simp only [Act.put, List.setIfInBounds_toArray, List.set_cons_zero, List.set_cons_succ]))
        refine WChain.growN hg (fun g : Nat => .slice (some ⟨g, 0, none⟩) 1 1) (fun g W => W.cell? ⟨g, 0, none⟩ = some (.int .i32 u.c)) (by kernel_rfl) (fun _ _ _ h k => grow_cell h k) (fun _ => by rfl) (fun t W hw hN K hK => ?_) ?_
        · go_simp; exact hK.out _ _ (Grow.alloc _ _) (box_cell _ _ _)
        simp only [Act.put, List.setIfInBounds_toArray, List.set_cons_zero, List.set_cons_succ]
        refine WChain.last (wtail_of (by kernel_rfl)) (by kernel_rfl) (fun t W hw hN => ?_)
        have hbx := hN.get 7 rfl (by rfl) (by kernel_rfl)
        generalize t 7 = g7 at *
        have hWn := hw.no
        have R5 := Lib.hid (R4.out.grow hWn); have HB5 := Lib.hid (row_grow HB4.out hWn); have G5 := Lib.hid (G4.out.trans hWn)
        have SZ5 := Lib.hid (Nat.le_trans sz4 hWn.size)
        clear hN hg hWn c41 c43 hw
        go_wp2_with (at_builtin; refine wpList_appF rfl (.tmp 41) (.tmp 44) rfl (w.heap.size + 1) _ r.cs.length r.cs rfl (R5.out.each (r, .slice A2 r.cs.length c2) (List.mem_append_right _ (List.mem_singleton.2 rfl))) (some ⟨g7, 0, none⟩) 1 1 [u.c] rfl (lies_cell hbx) (by omega) SZ5.out ?_; intro A5 c5 w5 own5 gr5 fre5; have row5 := R5.out.row.kept gr5 (.inr fun e => R5.out.rapart _ (List.mem_append_right _ (List.mem_singleton.2 rfl)) b3 rfl e.symm); rw [List.length_append, List.length_singleton] at row5; have cell5 : w5.cell? ⟨b3, l0.length * 5 + 4, none⟩ = some (.slice A2 r.cs.length c2) := (by have := (Lies.of_own row5).last_cells 4 _ rfl; rwa [Nat.zero_add, show l0.length + 1 - 1 = l0.length by omega] at this); have froz5 := row5.frozenAt (l0.length * 5 + 4))
        have R6 := R5.out.push gr5 fre5 own5
        have hb5 := app_kept gr5 HB5.out (fun e => by have := ((R5.out.each _ (List.mem_append_right _ (List.mem_singleton.2 rfl))).lt _ e).1; omega)
        have hb6 := (heap_set w5 b3 (l0.length * 5 + 4) w.heap.size (.slice A5 (r.cs.length + 1) c5) (by have := (row5.lt b3 rfl).1; omega)).trans hb5
        have g6 := Below.setCell (below_own G5.out (R5.out.each _ (List.mem_append_right _ (List.mem_singleton.2 rfl))) gr5 (by omega) (by have := SZ5.out; omega)) (p := ⟨b3, l0.length * 5 + 4, none⟩) (by have := (row5.lt b3 rfl).1; simp; omega) (.slice A5 (r.cs.length + 1) c5)
        have sz6 : w.heap.size + 1 ≤ (w5.setCell ⟨b3, l0.length * 5 + 4, none⟩ (.slice A5 (r.cs.length + 1) c5)).heap.size := by
          have h1 := gr5.size; have h2 := SZ5.out
          simp [World.setCell] at h1 h2 ⊢; omega
        have FIN6 : Hid ((l0 ++ [({ r with cs := r.cs ++ [u.c] }, Value.slice A5 (r.cs.length + 1) c5)]).map (fun x : R × Value => x.1) = runsOf (us.take (j + 1))) := by rw [List.map_append]; exact FIN.out
        clear row5 cell5 froz5 gr5 fre5 own5 hb5 R5 HB5 G5 SZ5 hbx R4
        go_roundw
        case rel => exact ⟨j + 1, _, _, by omega, by go_num, hb6, FIN6, R6, g6, sz6⟩
        case measure => simp [intOf]; omega
      | true =>
        rcases List.eq_nil_or_concat l with rfl | ⟨l0, ⟨r, v2⟩, rfl⟩
        · have := HGB.out; rw [List.map_nil, goes_nil] at this; cases this
        rw [List.concat_eq_append] at *
        obtain ⟨A2, c2, hv2, -⟩ := own_form (R1.out.each (r, v2) (List.mem_append_right _ (List.mem_singleton.2 rfl)))
        simp only at hv2
        subst hv2
        obtain ⟨b3, c3, hb3⟩ := own_pos R1.out.row (by simp)
        injection hb3 with hA _ hc
        subst hA hc
        have R4 := R1.out
        rw [List.length_append, List.length_singleton] at R4
        have fin : l0.map (fun x : R × Value => x.1) ++ [{ r with cs := r.cs ++ [u.c] }] = runsOf (us.take (j + 1)) := by
          have h := HGB.out
          rw [List.map_append, show [(r, Value.slice A2 r.cs.length c2)].map (fun x : R × Value => x.1) = [r] from rfl] at h
          rw [runsOf_snoc HU.out, ← hrs.out, List.map_append, show [(r, Value.slice A2 r.cs.length c2)].map (fun x : R × Value => x.1) = [r] from rfl, addU_on h]
        obtain ⟨m2, hm2⟩ : ∃ m2, r.cs.length = m2 := ⟨_, rfl⟩
        rw [hm2] at R4
        rw [List.length_append, List.length_singleton] at hlen
        go_wp2_with fail
        have sz4 : w.heap.size + 1 ≤ w1.heap.size := by have := S1.out; omega
        have R4 := Lib.hid R4; have G4 := Lib.hid (G1.out.trans G2.out); have HU4 := HU1; have hb4 := HB1.out; have FIN := Lib.hid fin
        rw [List.length_append, List.length_singleton] at hb4
        have HB4 := Lib.hid hb4
        clear hb4
        obtain ⟨w4, hw4⟩ : ∃ w4, w4 = w1 := ⟨_, rfl⟩
        clear hm2 fin q0 q1 q2 q3 q4 box1
        subst hw4
        have row4 := R4.out.row
        have hv4 := R4.out.each _ (List.mem_append_right _ (List.mem_singleton.2 rfl))
        have hm0 := own_len hv4
        simp only at hm0
        subst hm0
        have hm2 : r.cs.length + 1 ≤ n := by
          have h1 := runsOf_chars (us.take (j + 1)) _ (FIN.out ▸ List.mem_append_right _ (List.mem_singleton.2 rfl))
          rw [List.length_take, List.length_append] at h1
          simp only [List.length_singleton] at h1
          omega
        rw [List.length_append, List.length_singleton] at row4
        have L4 := Lies.of_own row4
        have c41 : ∀ W, GrowS NoRow w4 W → W.cell? ⟨b3, l0.length * 5 + 4, none⟩ = some (.slice A2 r.cs.length c2) := fun W h => grow_cell (by have := L4.last_cells 4 _ rfl; rwa [Nat.zero_add, show l0.length + 1 - 1 = l0.length by omega] at this) h.no
        have c43 : ∀ W, GrowS NoRow w4 W → W.cell? ⟨wr.heap.size, 2, none⟩ = some (.int .i32 u.c) := fun W h => cell_of_row W wr.heap.size 2 _ _ (0, 0) (row_grow HU4.out h.no)
        clear hv4 row4 L4
        refine wp_region_any (by kernel_rfl) ?_
        refine wpAny_take (i := 0) (v := ?_) rfl (by kernel_rfl) (by kernel_rfl) (by kernel_rfl) (fun _ _ _ h => h) (Or.inl ⟨by rfl, fun W => ?_⟩) ?_
        rotate_left
        focus (go_simp <;> with_reducible rfl)
        simp only [Act.put, List.getElem_toArray, List.getElem_cons_succ, List.getElem_cons_zero, List.setIfInBounds_toArray, List.set_cons_zero, List.set_cons_succ]
        refine wpAny_take (i := 1) (v := ?_) rfl (by kernel_rfl) (by kernel_rfl) (by kernel_rfl) (fun _ _ _ h => h) (Or.inl ⟨by rfl, fun W => ?_⟩) ?_
        rotate_left
        focus (go_simp <;> with_reducible rfl)
        simp only [Act.put, List.getElem_toArray, List.getElem_cons_succ, List.getElem_cons_zero, List.setIfInBounds_toArray, List.set_cons_zero, List.set_cons_succ]
        refine wpAny_take (i := 2) (v := ?_) rfl (by kernel_rfl) (by kernel_rfl) (by kernel_rfl) (fun _ _ _ h => h) (Or.inl ⟨by rfl, fun W => ?_⟩) ?_
        rotate_left
        focus (go_simp <;> with_reducible rfl)
        simp only [Act.put, List.getElem_toArray, List.getElem_cons_succ, List.getElem_cons_zero, List.setIfInBounds_toArray, List.set_cons_zero, List.set_cons_succ]
        refine wpAny_take (i := 3) (v := ?_) rfl (by kernel_rfl) (by kernel_rfl) (by kernel_rfl) (fun _ _ _ h => h) (Or.inl ⟨by rfl, fun W => ?_⟩) ?_
        rotate_left
        focus (go_simp <;> with_reducible rfl)
        simp only [Act.put, List.getElem_toArray, List.getElem_cons_succ, List.getElem_cons_zero, List.setIfInBounds_toArray, List.set_cons_zero, List.set_cons_succ]
        refine wpAny_take (i := 5) (v := ?_) rfl (by kernel_rfl) (by kernel_rfl) (by kernel_rfl) (fun _ _ _ h => h) (Or.inl ⟨by rfl, fun W => ?_⟩) ?_
        rotate_left
        focus (go_simp <;> with_reducible rfl)
        simp only [Act.put, List.getElem_toArray, List.getElem_cons_succ, List.getElem_cons_zero, List.setIfInBounds_toArray, List.set_cons_zero, List.set_cons_succ]
        refine WChain.from Nat NoRow 47 (by kernel_rfl) (by kernel_rfl) (by kernel_rfl) (by kernel_rfl) (Grow.drew _) (fun hg => ?_)
        repeat (first | (refine WChain.was (by rfl) ?_) | (refine WChain.skip hg (by rfl) (fun t => by rfl) ?_; simp only [Act.put, List.setIfInBounds_toArray, List.set_cons_zero, List.set_cons_succ]) | (refine WChain.pure hg (X := ?_) (by rfl) (fun t W hw hN => ⟨by rfl, ?_⟩) ?_; rotate_left; (focus (go_simp <;> with_reducible rfl)); simp only [Act.put, List.setIfInBounds_toArray, List.set_cons_zero, List.set_cons_succ]))
        refine WChain.growN hg (fun g : Nat => .slice (some ⟨g, 0, none⟩) 1 1) (fun g W => W.cell? ⟨g, 0, none⟩ = some (.int .i32 u.c)) (by kernel_rfl) (fun _ _ _ h k => grow_cell h k) (fun _ => by rfl) (fun t W hw hN K hK => ?_) ?_
        · go_simp; exact hK.out _ _ (Grow.alloc _ _) (box_cell _ _ _)
        simp only [Act.put, List.setIfInBounds_toArray, List.set_cons_zero, List.set_cons_succ]
        refine WChain.last (wtail_of (by kernel_rfl)) (by kernel_rfl) (fun t W hw hN => ?_)
        have hbx := hN.get 7 rfl (by rfl) (by kernel_rfl)
        generalize t 7 = g7 at *
        have hWn := hw.no
        have R5 := Lib.hid (R4.out.grow hWn); have HB5 := Lib.hid (row_grow HB4.out hWn); have G5 := Lib.hid (G4.out.trans hWn)
        have SZ5 := Lib.hid (Nat.le_trans sz4 hWn.size)
        clear hN hg hWn c41 c43 hw
        go_wp2_with (at_builtin; refine wpList_appF rfl (.tmp 41) (.tmp 44) rfl (w.heap.size + 1) _ r.cs.length r.cs rfl (R5.out.each (r, .slice A2 r.cs.length c2) (List.mem_append_right _ (List.mem_singleton.2 rfl))) (some ⟨g7, 0, none⟩) 1 1 [u.c] rfl (lies_cell hbx) (by omega) SZ5.out ?_; intro A5 c5 w5 own5 gr5 fre5; have row5 := R5.out.row.kept gr5 (.inr fun e => R5.out.rapart _ (List.mem_append_right _ (List.mem_singleton.2 rfl)) b3 rfl e.symm); rw [List.length_append, List.length_singleton] at row5; have cell5 : w5.cell? ⟨b3, l0.length * 5 + 4, none⟩ = some (.slice A2 r.cs.length c2) := (by have := (Lies.of_own row5).last_cells 4 _ rfl; rwa [Nat.zero_add, show l0.length + 1 - 1 = l0.length by omega] at this); have froz5 := row5.frozenAt (l0.length * 5 + 4))
        have R6 := R5.out.push gr5 fre5 own5
        have hb5 := app_kept gr5 HB5.out (fun e => by have := ((R5.out.each _ (List.mem_append_right _ (List.mem_singleton.2 rfl))).lt _ e).1; omega)
        have hb6 := (heap_set w5 b3 (l0.length * 5 + 4) w.heap.size (.slice A5 (r.cs.length + 1) c5) (by have := (row5.lt b3 rfl).1; omega)).trans hb5
        have g6 := Below.setCell (below_own G5.out (R5.out.each _ (List.mem_append_right _ (List.mem_singleton.2 rfl))) gr5 (by omega) (by have := SZ5.out; omega)) (p := ⟨b3, l0.length * 5 + 4, none⟩) (by have := (row5.lt b3 rfl).1; simp; omega) (.slice A5 (r.cs.length + 1) c5)
        have sz6 : w.heap.size + 1 ≤ (w5.setCell ⟨b3, l0.length * 5 + 4, none⟩ (.slice A5 (r.cs.length + 1) c5)).heap.size := by
          have h1 := gr5.size; have h2 := SZ5.out
          simp [World.setCell] at h1 h2 ⊢; omega
        have FIN6 : Hid ((l0 ++ [({ r with cs := r.cs ++ [u.c] }, Value.slice A5 (r.cs.length + 1) c5)]).map (fun x : R × Value => x.1) = runsOf (us.take (j + 1))) := by rw [List.map_append]; exact FIN.out
        clear row5 cell5 froz5 gr5 fre5 own5 hb5 R5 HB5 G5 SZ5 hbx R4
        go_roundw
        case rel => exact ⟨j + 1, _, _, by omega, by go_num, hb6, FIN6, R6, g6, sz6⟩
        case measure => simp [intOf]; omega
    · obtain rfl : j = n := by omega
      have e : us.take j = us := List.take_of_length_le (by have := HLN.out; omega)
      rw [e] at hrs
      have HR := Lib.hid hR; have G1 := Lib.hid hg
      have bx := cell_of_row wr w.heap.size 0 _ _ (0, 0) hbox
      clear e hR hg hbox
      go_wp2
      go_ret
      have hR := HR.out
      exact ⟨V, l, rfl, hrs.out, ⟨hR.row.mono (by omega), fun x hx => (hR.each x hx).mono (by omega), hR.rapart, hR.apart⟩, G1.out⟩
end Go.Proofs.Ytfpbmpgdpnpdjaa

