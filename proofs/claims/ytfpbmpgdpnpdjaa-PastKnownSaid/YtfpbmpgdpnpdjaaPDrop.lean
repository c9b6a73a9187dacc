/-
  past: the contract of Drop.
-/
import Derived.Test.YtfpbmpgdpnpdjaaPUndo
namespace Go.Proofs.Ytfpbmpgdpnpdjaa
open Go.RowKit
set_option linter.unusedSimpArgs false

set_option maxRecDepth 100000 in
theorem drop_none {p q : Nat} {keep : Int} {os : List O} {lens : List Int} {S : Nat → Prop} {w : World} (hP : PastIs w S p q os lens) (hk : os.length ≤ 256) (hd : (os.length : Int) ≤ keep ∨ os.length = 0) (hb : keep ≤ 9223372036854775807) :
    Calls Try.prog 35 #[.pointer (some ⟨p, 0, none⟩), .int .i64 keep] w fun e w' => e = .returned (.int .i64 0) ∧ w = w' := by
  obtain ⟨V, l, B, hos, hP⟩ := hP
  obtain ⟨A, c, rfl⟩ := hP.formV
  subst hos
  rw [List.length_map] at hk hd
  obtain ⟨k, hlk⟩ : ∃ k, l.length = k := ⟨_, rfl⟩
  rw [hlk] at hk hd hP
  have HP := Lib.hid hP
  clear hP
  obtain ⟨mx, hmx⟩ : ∃ mx : Int, (if keep < 0 then 0 else keep) = mx := ⟨_, rfl⟩
  have hm0 : 0 ≤ mx := by rw [← hmx]; split <;> omega
  have hm2 : mx ≤ 9223372036854775807 := by rw [← hmx]; split <;> omega
  have hm1 : (k : Int) - mx ≤ 0 := by rw [← hmx]; split <;> omega
  clear hd hlk
  go_enter Try.func35, Try.ntmps35
  go_wp2_with fail
  refine (plen_any HP.out.c1 HP.out.c3).mono ?_
  rintro e w1 ⟨rfl, rfl⟩
  go_wp2
  go_ret
  exact ⟨rfl, rfl⟩
set_option maxRecDepth 100000 in
set_option maxHeartbeats 4000000 in
set_option linter.unusedVariables false in
theorem drop_some {p q d : Nat} {keep : Int} {os : List O} {lens : List Int} {S : Nat → Prop} {w : World} (hP : PastIs w S p q os lens) (hk : os.length ≤ 256) (hq : q ≤ 2305843009213693952) (hd : (d : Int) = os.length - (if keep < 0 then 0 else keep)) (hd0 : 0 < d) :
    Calls Try.prog 35 #[.pointer (some ⟨p, 0, none⟩), .int .i64 keep] w fun e w' => e = .returned (.int .i64 d) ∧ PastIs w' (plus S w w') p (q + d) (os.drop d) (lens.drop d) ∧ GrowS S w w' := by
  obtain ⟨V, l, B, hos, hP⟩ := hP
  obtain ⟨A, c, rfl⟩ := hP.formV
  obtain ⟨gB, cB, rfl⟩ := hP.formB
  subst hos
  rw [List.length_map] at hk hd
  obtain ⟨k, hlk⟩ : ∃ k, l.length = k := ⟨_, rfl⟩
  have hn := hP.n
  have hl1 := hP.own.lie
  have hl2 := Lies.of_own (by have := hP.len; rw [hn] at this; exact this)
  rw [hlk] at hk hd hP hl1 hl2 hn
  have hle := hl1.row.le
  have hbig := hl1.row.big
  have hle2 := hl2.le
  have hbig2 := hl2.big
  obtain ⟨mx, hmx⟩ : ∃ mx : Int, (if keep < 0 then 0 else keep) = mx := ⟨_, rfl⟩
  have hm0 : 0 ≤ mx := by rw [← hmx]; split <;> omega
  rw [hmx] at hd
  have hdk : d ≤ k := by omega
  have hdk2 : d ≤ k + 1 := by omega
  have hdk3 : (d : Int) ≤ (k : Int) + 1 := by omega
  have d0 : decide ((d : Int) ≤ 0) = false := by simp; omega
  have d1 : decide (d = 0) = false := by simp; omega
  have e1 : (k : Int) - mx = d := by omega
  have L1 := Lib.hid (hl1.fromG d hdk); have L2 := Lib.hid (show Lies w 1 (some ⟨gB, d, none⟩) (k + 1 - d) (cB - d) (ins (lens.drop d)) by have := hl2.fromG d (by omega); rw [if_neg (by omega), Nat.mul_one, ins_drop, Option.map_some, add_none, Nat.zero_add] at this; exact this)
  have HP := Lib.hid hP; have HLK := Lib.hid hlk; have HN := Lib.hid hn
  clear hd hP hlk hl1 hl2 hn
  go_enter Try.func35, Try.ntmps35
  go_wp2_with fail
  refine (plen_any HP.out.c1 HP.out.c3).mono ?_
  rintro e w1 ⟨rfl, rfl⟩
  have c1 : ∀ W, GrowS NoRow w W → W.cell? ⟨p, 1, none⟩ = some (.slice A k c) := fun W g => (HP.out.grow g.no).c1
  have c2 : ∀ W, GrowS NoRow w W → W.cell? ⟨p, 2, none⟩ = some (.slice (some ⟨gB, 0, none⟩) (k + 1) cB) := fun W g => (HP.out.grow g.no).c2
  have nB : ¬ cB = d := by omega
  go_wp2_with fail
  refine wp_region_any (by kernel_rfl) ?_
  refine wpAny_take (i := 0) (v := ?_) rfl (by kernel_rfl) (by kernel_rfl) (by kernel_rfl) (fun _ _ _ h => h) (Or.inl ⟨by rfl, fun W => ?_⟩) ?_
  rotate_left
  focus (go_simp <;> with_reducible rfl)
  simp only [Act.put, List.getElem_toArray, List.getElem_cons_succ, List.getElem_cons_zero, List.setIfInBounds_toArray, List.set_cons_zero, List.set_cons_succ]
  refine wpAny_take (i := 1) (v := ?_) rfl (by kernel_rfl) (by kernel_rfl) (by kernel_rfl) (fun _ _ _ h => h) (Or.inl ⟨by rfl, fun W => ?_⟩) ?_
  rotate_left
  focus (go_simp <;> with_reducible rfl)
  simp only [Act.put, List.getElem_toArray, List.getElem_cons_succ, List.getElem_cons_zero, List.setIfInBounds_toArray, List.set_cons_zero, List.set_cons_succ]
  refine wpAny_take (i := 2) (v := ?_) rfl (by kernel_rfl) (by kernel_rfl) (by kernel_rfl) (fun _ _ _ h => h) (Or.inl ⟨by rfl, fun W => ?_⟩) ?_
  rotate_left
  focus (go_simp <;> with_reducible rfl)
  simp only [Act.put, List.getElem_toArray, List.getElem_cons_succ, List.getElem_cons_zero, List.setIfInBounds_toArray, List.set_cons_zero, List.set_cons_succ]
  refine wpAny_take (i := 3) (v := ?_) rfl (by kernel_rfl) (by kernel_rfl) (by kernel_rfl) (fun _ _ _ h => h) (Or.inl ⟨by rfl, fun W => ?_⟩) ?_
  rotate_left
  focus (go_simp <;> with_reducible rfl)
  simp only [Act.put, List.getElem_toArray, List.getElem_cons_succ, List.getElem_cons_zero, List.setIfInBounds_toArray, List.set_cons_zero, List.set_cons_succ]
  refine wpAny_take (i := 4) (v := ?_) rfl (by kernel_rfl) (by kernel_rfl) (by kernel_rfl) (fun _ _ _ h => h) (Or.inl ⟨by rfl, fun W => ?_⟩) ?_
  rotate_left
  focus (go_simp <;> with_reducible rfl)
  simp only [Act.put, List.getElem_toArray, List.getElem_cons_succ, List.getElem_cons_zero, List.setIfInBounds_toArray, List.set_cons_zero, List.set_cons_succ]
  refine wpAny_take (i := 6) (v := ?_) rfl (by kernel_rfl) (by kernel_rfl) (by kernel_rfl) (fun _ _ _ h => h) (Or.inl ⟨by rfl, fun W => ?_⟩) ?_
  rotate_left
  focus (go_simp <;> with_reducible rfl)
  simp only [Act.put, List.getElem_toArray, List.getElem_cons_succ, List.getElem_cons_zero, List.setIfInBounds_toArray, List.set_cons_zero, List.set_cons_succ]
  refine wpAny_take (i := 9) (v := ?_) rfl (by kernel_rfl) (by kernel_rfl) (by kernel_rfl) (fun _ _ _ h => h) (Or.inl ⟨by rfl, fun W => ?_⟩) ?_
  rotate_left
  focus (go_simp <;> with_reducible rfl)
  simp only [Act.put, List.getElem_toArray, List.getElem_cons_succ, List.getElem_cons_zero, List.setIfInBounds_toArray, List.set_cons_zero, List.set_cons_succ]
  refine wpAny_take (i := 10) (v := ?_) rfl (by kernel_rfl) (by kernel_rfl) (by kernel_rfl) (fun _ _ _ h => h) (Or.inl ⟨by rfl, fun W => ?_⟩) ?_
  rotate_left
  focus (go_simp <;> with_reducible rfl)
  simp only [Act.put, List.getElem_toArray, List.getElem_cons_succ, List.getElem_cons_zero, List.setIfInBounds_toArray, List.set_cons_zero, List.set_cons_succ]
  refine wpAny_take (i := 11) (v := ?_) rfl (by kernel_rfl) (by kernel_rfl) (by kernel_rfl) (fun _ _ _ h => h) (Or.inl ⟨by rfl, fun W => ?_⟩) ?_
  rotate_left
  focus (go_simp <;> with_reducible rfl)
  simp only [Act.put, List.getElem_toArray, List.getElem_cons_succ, List.getElem_cons_zero, List.setIfInBounds_toArray, List.set_cons_zero, List.set_cons_succ]
  refine wpAny_take (i := 13) (v := ?_) rfl (by kernel_rfl) (by kernel_rfl) (by kernel_rfl) (fun _ _ _ h => h) (Or.inl ⟨by rfl, fun W => ?_⟩) ?_
  rotate_left
  focus (go_simp <;> with_reducible rfl)
  simp only [Act.put, List.getElem_toArray, List.getElem_cons_succ, List.getElem_cons_zero, List.setIfInBounds_toArray, List.set_cons_zero, List.set_cons_succ]
  refine WChain.from Value NoRow 11871 (by kernel_rfl) (by kernel_rfl) (by kernel_rfl) (by kernel_rfl) (Grow.drew _) (fun hg => ?_)
  repeat (first | (refine WChain.was (by rfl) ?_) | (refine WChain.skip hg (by rfl) (fun t => by rfl) ?_; simp only [Act.put, List.setIfInBounds_toArray, List.set_cons_zero, List.set_cons_succ]) | (refine WChain.pure hg (X := ?_) (by rfl) (fun t W hw hN => ⟨by rfl, ?_⟩) ?_; rotate_left; (focus (go_simp <;> with_reducible rfl)); simp only [Act.put, List.setIfInBounds_toArray, List.set_cons_zero, List.set_cons_succ]))
  refine WChain.growN hg (fun s => s) (fun s W2 => W2.ownsRow w.heap.size 67 4 s (k - d) (ocs (l.drop d))) (by kernel_rfl) (fun _ _ _ h g => own_grow h g) (fun _ => by rfl) (fun t W hw hN K hK => ?_) ?_
  · go_simp
    refine (cloneO_any (L1.out.grow hw.no).row (fun x hx => HP.out.own.oc x (List.mem_of_mem_drop hx)) (by omega)).mono ?_
    rintro e w9 ⟨A', c', rfl, own9, g9⟩
    exact hK.out (.slice A' (k - d) c') _ g9 (own9.mono hw.size)
  simp only [Act.put, List.setIfInBounds_toArray, List.set_cons_zero, List.set_cons_succ]
  repeat (first | (refine WChain.was (by rfl) ?_) | (refine WChain.skip hg (by rfl) (fun t => by rfl) ?_; simp only [Act.put, List.setIfInBounds_toArray, List.set_cons_zero, List.set_cons_succ]) | (refine WChain.pure hg (X := ?_) (by rfl) (fun t W hw hN => ⟨by rfl, ?_⟩) ?_; rotate_left; (focus (go_simp <;> with_reducible rfl)); simp only [Act.put, List.setIfInBounds_toArray, List.set_cons_zero, List.set_cons_succ]))
  refine WChain.growN hg (fun s => s) (fun s W2 => W2.ownsRow w.heap.size 3 1 s (k + 1 - d) (ins (lens.drop d))) (by kernel_rfl) (fun _ _ _ h g => own_grow h g) (fun _ => by rfl) (fun t W hw hN K hK => ?_) ?_
  · go_simp
    refine (cloneI_any (L2.out.below hw.no (Nat.le_refl _)) (by omega)).mono ?_
    rintro e w9 ⟨A', c', rfl, own9, g9⟩
    exact hK.out (.slice A' (k + 1 - d) c') _ g9 (own9.mono hw.size)
  simp only [Act.put, List.setIfInBounds_toArray, List.set_cons_zero, List.set_cons_succ]
  refine WChain.last (wtail_of (by kernel_rfl)) (by kernel_rfl) (fun t W4 hw hN => ?_)
  have hw := hw.no
  have r8 := hN.get 8 rfl (by rfl) (by kernel_rfl)
  have r15 := hN.get 15 rfl (by rfl) (by kernel_rfl)
  generalize t 8 = V' at *
  generalize t 15 = B' at *
  obtain ⟨AV2, cV2, rfl, -⟩ := own_form r8
  obtain ⟨AB2, cB2, rfl, -⟩ := own_form r15
  clear L1 L2
  generalize (if c = d then A else Option.map (fun x => x.add (d * 4)) A) = A3 at *
  have st4 := row_grow HP.out.st hw
  have W4H := Lib.hid hw
  clear hN hg c1 c2 hw
  have d1 := cell_of_row W4 p 1 _ _ (0, 0) st4
  have d2 := cell_of_row W4 p 2 _ _ (0, 0) st4
  have e1 := frozen_of_row W4 p 1 _ _ st4
  have e2 := frozen_of_row W4 p 2 _ _ st4
  have st5 := heap_setCell_same W4 p 1 _ _ (.slice AV2 (k - d) cV2) st4
  have st6 := heap_setCell_same (W4.setCell ⟨p, 1, none⟩ (.slice AV2 (k - d) cV2)) p 2 _ _ (.slice AB2 (k + 1 - d) cB2) st5
  have d3 := cell_of_row _ p 2 _ _ (0, 0) st5
  have e3 := frozen_of_row _ p 2 _ _ st5
  have d4 := cell_of_row _ p 0 _ _ (0, 0) st6
  have e4 := frozen_of_row _ p 0 _ _ st6
  have st7 := heap_setCell_same _ p 0 _ _ (.int .u64 ((q : Int) + (d : Int))) st6
  have gsf : GrowS (fun i => i = p) W4 (((W4.setCell ⟨p, 1, none⟩ (.slice AV2 (k - d) cV2)).setCell ⟨p, 2, none⟩ (.slice AB2 (k + 1 - d) cB2)).setCell ⟨p, 0, none⟩ (.int .u64 ((q : Int) + (d : Int)))) :=
    ((GrowS.setCell (T := fun i => i = p) W4 (p := ⟨p, 1, none⟩) rfl _).trans (GrowS.setCell (T := fun i => i = p) _ (p := ⟨p, 2, none⟩) rfl _)).trans (GrowS.setCell (T := fun i => i = p) _ (p := ⟨p, 0, none⟩) rfl _)
  have szf : W4.heap.size = (((W4.setCell ⟨p, 1, none⟩ (.slice AV2 (k - d) cV2)).setCell ⟨p, 2, none⟩ (.slice AB2 (k + 1 - d) cB2)).setCell ⟨p, 0, none⟩ (.int .u64 ((q : Int) + (d : Int)))).heap.size := by simp [World.setCell]
  obtain ⟨Wf, hWf⟩ : ∃ Wf, (((W4.setCell ⟨p, 1, none⟩ (.slice AV2 (k - d) cV2)).setCell ⟨p, 2, none⟩ (.slice AB2 (k + 1 - d) cB2)).setCell ⟨p, 0, none⟩ (.int .u64 ((q : Int) + (d : Int)))) = Wf := ⟨_, rfl⟩
  rw [hWf] at gsf szf st7
  have keyP : ∀ {e sz x n xs}, W4.ownsRow 0 e sz x n xs → e ≠ 85 → Wf.ownsRow 0 e sz x n xs := fun {e sz x n xs} h hne => gsf.own h (fun g hg e2 => row_apart h st4 hne g hg e2)
  have PF : PastAt Wf (plus S w Wf) p (q + d) (.slice AV2 (k - d) cV2) (l.drop d) (.slice AB2 (k + 1 - d) cB2) (lens.drop d) := by
    have hll := HLK.out
    have hsz := W4H.out.size
    refine PastAt.make (by simpa using st7) (by rw [List.length_drop, hll]; exact keyP (r8.mono (Nat.zero_le _)) (by decide)) (fun g hg => .inr ?_) (fun x hx => keyP (own_grow (HP.out.own.each x (List.mem_of_mem_drop hx)) W4H.out) (by decide)) (fun x hx g hg => .inl (HP.out.own.eachIn x (List.mem_of_mem_drop hx) g hg)) (by rw [List.length_drop, HN.out]; exact keyP (r15.mono (Nat.zero_le _)) (by decide)) (by rw [List.length_drop, List.length_drop, HN.out, hll]; omega) (.inl HP.out.pIn) (fun g hg => .inr ?_) (fun k2 hk2 => ?_)
    · have := r8.lt g hg
      exact ⟨this.1, szf ▸ this.2⟩
    · have := r15.lt g hg
      exact ⟨this.1, szf ▸ this.2⟩
    · rcases hk2 with hk2 | hk2
      · have := HP.out.lt k2 hk2
        omega
      · exact hk2.2
  have PF := Lib.hid PF; have GSF := Lib.hid gsf; have HWF := Lib.hid hWf
  clear keyP gsf szf hWf r8 r15
  go_wp2
  all_goals
    go_ret
    rw [HWF.out]
    exact ⟨rfl, ⟨_, _, _, by rw [List.map_drop], PF.out⟩, (W4H.out.wide S).trans (GSF.out.mono (fun i e => e ▸ HP.out.pIn))⟩
end Go.Proofs.Ytfpbmpgdpnpdjaa

