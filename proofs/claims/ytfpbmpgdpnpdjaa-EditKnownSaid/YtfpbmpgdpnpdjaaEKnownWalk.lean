/-
  edit: the walk of EditKnown.
-/
import Derived.Test.YtfpbmpgdpnpdjaaReplaceB
import Derived.Test.YtfpbmpgdpnpdjaaClean
import Derived.Test.YtfpbmpgdpnpdjaaRow
namespace Go.Proofs.Ytfpbmpgdpnpdjaa
open Go.RowKit
set_option linter.unusedSimpArgs false

def uwfB (u : U) : Bool := decide (-9223372036854775808 ≤ u.k) && decide (u.k ≤ 9223372036854775807) && decide (-9223372036854775808 ≤ u.p) && decide (u.p ≤ 9223372036854775807) && decide (-2147483648 ≤ u.c) && decide (u.c < 2147483648) && decide (0 ≤ u.cl) && decide (u.cl < 4294967296) && decide (0 ≤ u.rq) && decide (u.rq < 18446744073709551616)
set_option maxRecDepth 100000 in
theorem uwf_of {us : List U} (h : us.all uwfB = true) : ∀ u ∈ us, UWf u := by
  intro u hu
  have := List.all_eq_true.1 h u hu
  simp only [uwfB, Bool.and_eq_true, decide_eq_true_eq] at this
  exact ⟨⟨by omega, by omega⟩, ⟨by omega, by omega⟩, ⟨by omega, by omega⟩, ⟨by omega, by omega⟩, ⟨by omega, by omega⟩⟩
set_option maxRecDepth 100000 in
set_option maxHeartbeats 4000000 in
set_option linter.unusedVariables false in
theorem editknown_any {w : World} : Calls Try.prog 8 #[] w fun e w' => e = .returned (.bool true) ∧ Below w.heap.size w w' := by
  go_enter Try.func8, Try.ntmps8
  have GI := Lib.hid (Grow.refl (w.alloc (.cells #[.int .u32 0, .int .u64 0] 28)))
  obtain ⟨i0, i1⟩ := id_cells GI.out
  go_wp2_with fail
  refine (ptype_any (cl := 0) (rq := 0) (cs := []) (Lies.nil _ _)).mono ?_
  rw [show errT (-1) [] = 1 by kernel_rfl]
  rintro e wa ⟨Aa, ma, ca, rfl, owna, ga⟩
  have la := (Lies.of_own owna).uns_len
  rw [show (resT (-1) 0 0 []).length = 0 by kernel_rfl] at la
  subst la
  have GI := Lib.hid (GI.out.trans ga); have GW := Lib.hid ga
  clear owna ga i0 i1
  go_upto_region 3 with fail
  have hEb : errT 0 (List.replicate 257 0) = 3 := by kernel_rfl
  have hMb : (resT 0 0 0 (List.replicate 257 0)).length = 0 := by kernel_rfl
  have HE := Lib.hid hEb; have HM := Lib.hid hMb
  clear hEb hMb
  have b0 := fun W (g : Grow wa W) => (id_cells (GI.out.trans g)).1
  have b1 := fun W (g : Grow wa W) => (id_cells (GI.out.trans g)).2
  refine Chain.start (Option Addr × Nat × Nat) (by kernel_rfl) (by kernel_rfl) (fun hg => ?_)
  refine Chain.grow hg (fun s => .slice s.1 257 s.2.2) (fun s V => Lies V 1 s.1 257 s.2.2 (chs (List.replicate 257 0))) (fun _ _ _ h k => h.below k (Nat.le_refl _)) (fun _ => by rfl) (fun t W hw hN K hK => ?_) ?_
  · have hmk := run_make_row' (P := Try.prog) 36 24 (.int .i32 0) 4 Try.underlying36 info_char rfl .i64 .i64 257 (by omega) (by omega) W
    rw [show ((257 : Nat) : Int) = 257 from rfl] at hmk
    go_simp; exact hK.out (some ⟨W.heap.size, 0, none⟩, 257, 257) _ (Grow.alloc _ _) (made_lies 257 (by omega) W)
  simp only [Act.put, List.setIfInBounds_toArray, List.set_cons_zero, List.set_cons_succ]
  repeat (first | (refine Chain.skip hg (fun t => by rfl) ?_; simp only [Act.put, List.setIfInBounds_toArray, List.set_cons_zero, List.set_cons_succ]) | (refine Chain.pure hg (X := ?_) (fun t W hw hN => ⟨by rfl, ?_⟩) ?_; rotate_left; (focus (go_simp <;> with_reducible rfl)); simp only [Act.put, List.setIfInBounds_toArray, List.set_cons_zero, List.set_cons_succ]))
  refine Chain.grow hg (fun s => .tuple #[.slice s.1 0 s.2.2, .int .i64 3]) (fun s V => Lies V 5 s.1 0 s.2.2 (uns (resT 0 0 0 (List.replicate 257 0)))) (fun _ _ _ h k => h.below k (Nat.le_refl _)) (fun _ => by rfl) (fun t W hw hN K hK => ?_) ?_
  · have hc := hN.get 0 rfl (by kernel_rfl)
    go_simp
    refine (ptype_any (cl := 0) (rq := 0) hc).mono ?_
    intro e w9 h9
    rw [HE.out] at h9
    obtain ⟨A9, m9, c9, rfl, own9, g9⟩ := h9
    have l9 := (Lies.of_own own9).uns_len
    rw [HM.out] at l9
    subst l9
    exact hK.out (A9, 0, c9) _ g9 (Lies.of_own own9)
  simp only [Act.put, List.setIfInBounds_toArray, List.set_cons_zero, List.set_cons_succ]
  repeat (first | (refine Chain.skip hg (fun t => by rfl) ?_; simp only [Act.put, List.setIfInBounds_toArray, List.set_cons_zero, List.set_cons_succ]) | (refine Chain.pure hg (X := ?_) (fun t W hw hN => ⟨by rfl, ?_⟩) ?_; rotate_left; (focus (go_simp <;> with_reducible rfl)); simp only [Act.put, List.setIfInBounds_toArray, List.set_cons_zero, List.set_cons_succ]))
  refine Chain.done (fun t W hw hN => ?_)
  have lr := hN.get 2 rfl (by kernel_rfl)
  generalize t 2 = sb at *
  obtain ⟨Ab, _, cb⟩ := sb
  simp only at lr ⊢
  have Lb := Lib.hid lr
  have GI := Lib.hid (GI.out.trans hw); have GW := Lib.hid hw
  clear hN hg lr hw b0 b1 HE HM
  obtain ⟨wb, hW⟩ : ∃ x, x = W := ⟨_, rfl⟩
  subst hW
  obtain ⟨i0, i1⟩ := id_cells (GI.out.trans (Grow.alloc wb (.cells #[.int .i32 55296] 24)))
  go_wp2_with fail
  refine (ptype_any (cl := 0) (rq := 0) (lies_char 55296 rfl)).mono ?_
  rw [show errT 0 [55296] = 21 by kernel_rfl]
  rintro e wc ⟨Ac, mc, cc, rfl, ownc, gc⟩
  have GI := Lib.hid ((GI.out.trans (Grow.alloc wb (.cells #[.int .i32 55296] 24))).trans gc)
  clear ownc gc i0 i1
  go_upto_region 5 with fail
  have hEd : errT 0 (List.replicate 256 0) = 0 := by kernel_rfl
  have hMd : (resT 0 0 0 (List.replicate 256 0)).length = 256 := by kernel_rfl
  have HE := Lib.hid hEd; have HM := Lib.hid hMd
  clear hEd hMd
  have b0 := fun W (g : Grow wc W) => (id_cells (GI.out.trans g)).1
  have b1 := fun W (g : Grow wc W) => (id_cells (GI.out.trans g)).2
  refine Chain.start (Option Addr × Nat × Nat) (by kernel_rfl) (by kernel_rfl) (fun hg => ?_)
  refine Chain.grow hg (fun s => .slice s.1 256 s.2.2) (fun s V => Lies V 1 s.1 256 s.2.2 (chs (List.replicate 256 0))) (fun _ _ _ h k => h.below k (Nat.le_refl _)) (fun _ => by rfl) (fun t W hw hN K hK => ?_) ?_
  · have hmk := run_make_row' (P := Try.prog) 36 24 (.int .i32 0) 4 Try.underlying36 info_char rfl .i64 .i64 256 (by omega) (by omega) W
    rw [show ((256 : Nat) : Int) = 256 from rfl] at hmk
    go_simp; exact hK.out (some ⟨W.heap.size, 0, none⟩, 256, 256) _ (Grow.alloc _ _) (made_lies 256 (by omega) W)
  simp only [Act.put, List.setIfInBounds_toArray, List.set_cons_zero, List.set_cons_succ]
  repeat (first | (refine Chain.skip hg (fun t => by rfl) ?_; simp only [Act.put, List.setIfInBounds_toArray, List.set_cons_zero, List.set_cons_succ]) | (refine Chain.pure hg (X := ?_) (fun t W hw hN => ⟨by rfl, ?_⟩) ?_; rotate_left; (focus (go_simp <;> with_reducible rfl)); simp only [Act.put, List.setIfInBounds_toArray, List.set_cons_zero, List.set_cons_succ]))
  refine Chain.grow hg (fun s => .tuple #[.slice s.1 256 s.2.2, .int .i64 0]) (fun s V => Lies V 5 s.1 256 s.2.2 (uns (resT 0 0 0 (List.replicate 256 0)))) (fun _ _ _ h k => h.below k (Nat.le_refl _)) (fun _ => by rfl) (fun t W hw hN K hK => ?_) ?_
  · have hc := hN.get 0 rfl (by kernel_rfl)
    go_simp
    refine (ptype_any (cl := 0) (rq := 0) hc).mono ?_
    intro e w9 h9
    rw [HE.out] at h9
    obtain ⟨A9, m9, c9, rfl, own9, g9⟩ := h9
    have l9 := (Lies.of_own own9).uns_len
    rw [HM.out] at l9
    subst l9
    exact hK.out (A9, 256, c9) _ g9 (Lies.of_own own9)
  simp only [Act.put, List.setIfInBounds_toArray, List.set_cons_zero, List.set_cons_succ]
  repeat (first | (refine Chain.skip hg (fun t => by rfl) ?_; simp only [Act.put, List.setIfInBounds_toArray, List.set_cons_zero, List.set_cons_succ]) | (refine Chain.pure hg (X := ?_) (fun t W hw hN => ⟨by rfl, ?_⟩) ?_; rotate_left; (focus (go_simp <;> with_reducible rfl)); simp only [Act.put, List.setIfInBounds_toArray, List.set_cons_zero, List.set_cons_succ]))
  refine Chain.done (fun t W hw hN => ?_)
  have lr := hN.get 2 rfl (by kernel_rfl)
  generalize t 2 = sd at *
  obtain ⟨Ad, _, cd⟩ := sd
  simp only at lr ⊢
  have Ld := Lib.hid lr
  have GI := Lib.hid (GI.out.trans hw); have GW := Lib.hid hw
  clear hN hg lr hw b0 b1 HE HM
  obtain ⟨wd, hW⟩ : ∃ x, x = W := ⟨_, rfl⟩
  subst hW
  obtain ⟨i0, i1⟩ := id_cells GI.out
  go_wp2_with fail
  refine (perase_any (cl := 0) (rq := 0)).mono ?_
  rw [show errE 0 (-1) = 1 by kernel_rfl]
  rintro e we ⟨Ae, me, ce, rfl, owne, ge⟩
  have le := (Lies.of_own owne).uns_len
  rw [show (resE 0 (-1) 0 0).length = 0 by kernel_rfl] at le
  subst le
  have GI := Lib.hid (GI.out.trans ge); have GW := Lib.hid ge
  clear owne ge i0 i1
  obtain ⟨i0, i1⟩ := id_cells GI.out
  go_wp2_with fail
  refine (perase_any (cl := 0) (rq := 0)).mono ?_
  rw [show errE (-1) 0 = 1 by kernel_rfl]
  rintro e wf ⟨Af, mf, cf, rfl, ownf, gf⟩
  have lf := (Lies.of_own ownf).uns_len
  rw [show (resE (-1) 0 0 0).length = 0 by kernel_rfl] at lf
  subst lf
  have GI := Lib.hid (GI.out.trans gf); have GW := Lib.hid gf
  clear ownf gf i0 i1
  obtain ⟨i0, i1⟩ := id_cells GI.out
  go_wp2_with fail
  refine (perase_any (cl := 0) (rq := 0)).mono ?_
  rw [show errE 0 257 = 3 by kernel_rfl]
  rintro e wg ⟨Ag, mg, cg, rfl, owng, gg⟩
  have lg := (Lies.of_own owng).uns_len
  rw [show (resE 0 257 0 0).length = 0 by kernel_rfl] at lg
  subst lg
  have GI := Lib.hid (GI.out.trans gg); have GW := Lib.hid gg
  clear owng gg i0 i1
  go_upto_region 9 with fail
  have hEh : errR 0 200 (List.replicate 57 0) = 3 := by kernel_rfl
  have hMh : (resR 0 200 0 0 (List.replicate 57 0)).length = 0 := by kernel_rfl
  have HE := Lib.hid hEh; have HM := Lib.hid hMh
  clear hEh hMh
  have b0 := fun W (g : Grow wg W) => (id_cells (GI.out.trans g)).1
  have b1 := fun W (g : Grow wg W) => (id_cells (GI.out.trans g)).2
  refine Chain.start (Option Addr × Nat × Nat) (by kernel_rfl) (by kernel_rfl) (fun hg => ?_)
  refine Chain.grow hg (fun s => .slice s.1 57 s.2.2) (fun s V => Lies V 1 s.1 57 s.2.2 (chs (List.replicate 57 0))) (fun _ _ _ h k => h.below k (Nat.le_refl _)) (fun _ => by rfl) (fun t W hw hN K hK => ?_) ?_
  · have hmk := run_make_row' (P := Try.prog) 36 24 (.int .i32 0) 4 Try.underlying36 info_char rfl .i64 .i64 57 (by omega) (by omega) W
    rw [show ((57 : Nat) : Int) = 57 from rfl] at hmk
    go_simp; exact hK.out (some ⟨W.heap.size, 0, none⟩, 57, 57) _ (Grow.alloc _ _) (made_lies 57 (by omega) W)
  simp only [Act.put, List.setIfInBounds_toArray, List.set_cons_zero, List.set_cons_succ]
  repeat (first | (refine Chain.skip hg (fun t => by rfl) ?_; simp only [Act.put, List.setIfInBounds_toArray, List.set_cons_zero, List.set_cons_succ]) | (refine Chain.pure hg (X := ?_) (fun t W hw hN => ⟨by rfl, ?_⟩) ?_; rotate_left; (focus (go_simp <;> with_reducible rfl)); simp only [Act.put, List.setIfInBounds_toArray, List.set_cons_zero, List.set_cons_succ]))
  refine Chain.grow hg (fun s => .tuple #[.slice s.1 0 s.2.2, .int .i64 3]) (fun s V => Lies V 5 s.1 0 s.2.2 (uns (resR 0 200 0 0 (List.replicate 57 0)))) (fun _ _ _ h k => h.below k (Nat.le_refl _)) (fun _ => by rfl) (fun t W hw hN K hK => ?_) ?_
  · have hc := hN.get 0 rfl (by kernel_rfl)
    go_simp
    refine (preplace_any (n := 200) (cl := 0) (rq := 0) hc (by omega)).mono ?_
    intro e w9 h9
    rw [HE.out] at h9
    obtain ⟨A9, m9, c9, rfl, own9, g9⟩ := h9
    have l9 := (Lies.of_own own9).uns_len
    rw [HM.out] at l9
    subst l9
    exact hK.out (A9, 0, c9) _ g9 (Lies.of_own own9)
  simp only [Act.put, List.setIfInBounds_toArray, List.set_cons_zero, List.set_cons_succ]
  repeat (first | (refine Chain.skip hg (fun t => by rfl) ?_; simp only [Act.put, List.setIfInBounds_toArray, List.set_cons_zero, List.set_cons_succ]) | (refine Chain.pure hg (X := ?_) (fun t W hw hN => ⟨by rfl, ?_⟩) ?_; rotate_left; (focus (go_simp <;> with_reducible rfl)); simp only [Act.put, List.setIfInBounds_toArray, List.set_cons_zero, List.set_cons_succ]))
  refine Chain.done (fun t W hw hN => ?_)
  have lr := hN.get 2 rfl (by kernel_rfl)
  generalize t 2 = sh at *
  obtain ⟨Ah, _, ch⟩ := sh
  simp only at lr ⊢
  have Lh := Lib.hid lr
  have GI := Lib.hid (GI.out.trans hw); have GW := Lib.hid hw
  clear hN hg lr hw b0 b1 HE HM
  obtain ⟨wh, hW⟩ : ∃ x, x = W := ⟨_, rfl⟩
  subst hW
  go_upto_region 10 with fail
  have hEi : errR 0 200 (List.replicate 56 0) = 0 := by kernel_rfl
  have hMi : (resR 0 200 0 0 (List.replicate 56 0)).length = 256 := by kernel_rfl
  have HE := Lib.hid hEi; have HM := Lib.hid hMi
  clear hEi hMi
  have b0 := fun W (g : Grow wh W) => (id_cells (GI.out.trans g)).1
  have b1 := fun W (g : Grow wh W) => (id_cells (GI.out.trans g)).2
  refine Chain.start (Option Addr × Nat × Nat) (by kernel_rfl) (by kernel_rfl) (fun hg => ?_)
  refine Chain.grow hg (fun s => .slice s.1 56 s.2.2) (fun s V => Lies V 1 s.1 56 s.2.2 (chs (List.replicate 56 0))) (fun _ _ _ h k => h.below k (Nat.le_refl _)) (fun _ => by rfl) (fun t W hw hN K hK => ?_) ?_
  · have hmk := run_make_row' (P := Try.prog) 36 24 (.int .i32 0) 4 Try.underlying36 info_char rfl .i64 .i64 56 (by omega) (by omega) W
    rw [show ((56 : Nat) : Int) = 56 from rfl] at hmk
    go_simp; exact hK.out (some ⟨W.heap.size, 0, none⟩, 56, 56) _ (Grow.alloc _ _) (made_lies 56 (by omega) W)
  simp only [Act.put, List.setIfInBounds_toArray, List.set_cons_zero, List.set_cons_succ]
  repeat (first | (refine Chain.skip hg (fun t => by rfl) ?_; simp only [Act.put, List.setIfInBounds_toArray, List.set_cons_zero, List.set_cons_succ]) | (refine Chain.pure hg (X := ?_) (fun t W hw hN => ⟨by rfl, ?_⟩) ?_; rotate_left; (focus (go_simp <;> with_reducible rfl)); simp only [Act.put, List.setIfInBounds_toArray, List.set_cons_zero, List.set_cons_succ]))
  refine Chain.grow hg (fun s => .tuple #[.slice s.1 256 s.2.2, .int .i64 0]) (fun s V => Lies V 5 s.1 256 s.2.2 (uns (resR 0 200 0 0 (List.replicate 56 0)))) (fun _ _ _ h k => h.below k (Nat.le_refl _)) (fun _ => by rfl) (fun t W hw hN K hK => ?_) ?_
  · have hc := hN.get 0 rfl (by kernel_rfl)
    go_simp
    refine (preplace_any (n := 200) (cl := 0) (rq := 0) hc (by omega)).mono ?_
    intro e w9 h9
    rw [HE.out] at h9
    obtain ⟨A9, m9, c9, rfl, own9, g9⟩ := h9
    have l9 := (Lies.of_own own9).uns_len
    rw [HM.out] at l9
    subst l9
    exact hK.out (A9, 256, c9) _ g9 (Lies.of_own own9)
  simp only [Act.put, List.setIfInBounds_toArray, List.set_cons_zero, List.set_cons_succ]
  repeat (first | (refine Chain.skip hg (fun t => by rfl) ?_; simp only [Act.put, List.setIfInBounds_toArray, List.set_cons_zero, List.set_cons_succ]) | (refine Chain.pure hg (X := ?_) (fun t W hw hN => ⟨by rfl, ?_⟩) ?_; rotate_left; (focus (go_simp <;> with_reducible rfl)); simp only [Act.put, List.setIfInBounds_toArray, List.set_cons_zero, List.set_cons_succ]))
  refine Chain.done (fun t W hw hN => ?_)
  have lr := hN.get 2 rfl (by kernel_rfl)
  generalize t 2 = si at *
  obtain ⟨Ai, _, ci⟩ := si
  simp only at lr ⊢
  have Li := Lib.hid lr
  have GI := Lib.hid (GI.out.trans hw); have GW := Lib.hid hw
  clear hN hg lr hw b0 b1 HE HM
  obtain ⟨wi, hW⟩ : ∃ x, x = W := ⟨_, rfl⟩
  subst hW
  obtain ⟨i0, i1⟩ := id_cells GI.out
  go_wp2_with fail
  refine (preplace_any (n := 0) (cl := 0) (rq := 0) (cs := []) (Lies.nil _ _) (by omega)).mono ?_
  rw [show errR 3 0 [] = 0 by kernel_rfl]
  rintro e wk ⟨Ak, mk, ck, rfl, ownk, gk⟩
  have lk := (Lies.of_own ownk).uns_len
  rw [show (resR 3 0 0 0 []).length = 0 by kernel_rfl] at lk
  subst lk
  have GI := Lib.hid (GI.out.trans gk); have GW := Lib.hid gk
  clear ownk gk i0 i1
  have LI := Lib.hid (Li.out.below GW.out (Nat.le_refl _))
  obtain ⟨i0, hi, hz0, hz1, hz2⟩ := info_parts info_unit
  obtain ⟨wn, rn, on, gn⟩ := run_make_full (P := Try.prog) wk wk.heap.size 22 30 i0 _ 5 Try.underlying22 hi hz0 hz1 .i64 .i64 3 (by rw [hz2]; decide) (by simp [maxLen]) (Nat.le_refl _)
  rw [show ((3 : Nat) : Int) = 3 from rfl] at rn
  rw [show (madeCells (Value.agg #[.int .i64 0, .int .i64 0, .int .i32 0, .int .u32 0, .int .u64 0]).cells (3 * 5)).toList = uns [⟨0, 0, 0, 0, 0⟩, ⟨0, 0, 0, 0, 0⟩, ⟨0, 0, 0, 0, 0⟩] by kernel_rfl] at on
  have GN := Lib.hid (show Grow wk wn from ⟨gn.os, gn.tape, gn.output, gn.size, fun k hk => gn.block k hk (fun e => by cases e)⟩)
  have LN := Lib.hid (Lies.of_own on)
  clear on gn hi hz0 hz1 hz2
  go_wp2_with fail
  refine (runs_any LN.out (by decide)).mono ?_
  rintro e wr ⟨V, l, rfl, hl, hR, gr⟩
  obtain ⟨Ar, cr, rfl, -⟩ := own_form hR.row
  have hl3 : l.length = 3 := by
    have h1 := congrArg List.length hl
    rw [List.length_map, show (runsOf [⟨0, 0, 0, 0, 0⟩, ⟨0, 0, 0, 0, 0⟩, ⟨0, 0, 0, 0, 0⟩]).length = 3 by kernel_rfl] at h1
    exact h1
  rw [hl3]
  have GR := Lib.hid (GN.out.trans gr)
  clear hR hl hl3 gr rn
  go_wp2_with fail
  refine (grows_any (LI.out.below GR.out (Nat.le_refl _)) (uwf_of (by kernel_rfl))).mono ?_
  rw [show growU (resR 0 200 0 0 (List.replicate 56 0)) = -144 by kernel_rfl]
  rintro e ws ⟨rfl, gs⟩
  have GS := Lib.hid (GR.out.trans gs)
  clear gs
  go_wp2_with fail
  refine (runs_any (us := []) (Lies.nil _ _) (by decide)).mono ?_
  rintro e wt ⟨V, l, rfl, hl, hR, gt⟩
  obtain rfl : l = [] := List.map_eq_nil_iff.1 hl
  obtain ⟨At, ct, rfl, -⟩ := own_form hR.row
  have GT := Lib.hid (GS.out.trans gt)
  clear hR hl gt
  go_wp2_with fail
  refine (row_any (l := []) (rs := []) rfl ⟨Lies.nil _ _, fun _ h => by cases h⟩ (by decide)).mono ?_
  rintro e wu ⟨Au, mu, cu, rfl, ownu, gu⟩
  have lu := (Lies.of_own ownu).uns_len
  obtain rfl : 0 = mu := lu
  have GU := Lib.hid (GT.out.trans gu)
  clear ownu gu
  go_wp2_with fail
  refine wakes8.mono ?_
  rintro e wv ⟨rfl, gv⟩
  have GF := Lib.hid ((Grow.alloc w _).trans (GI.out.trans (GU.out.trans gv)))
  clear gv
  go_wp2
  go_ret
  exact ⟨rfl, GF.out⟩
end Go.Proofs.Ytfpbmpgdpnpdjaa

