/-
  edit: the contract of Runs' own closure.
-/
import Derived.Test.YtfpbmpgdpnpdjaaRunsP
namespace Go.Proofs.Ytfpbmpgdpnpdjaa
open Go.RowKit
set_option linter.unusedSimpArgs false

theorem ret_bool {a b : Bool} (h : a = b) : Ending.returned (.bool a) = .returned (.bool b) := by rw [h]
def rcell (r : R) (v : Value) : List Value := [.int .i64 r.k, .int .i64 r.p, .int .u32 r.cl, .int .u64 r.rq, v]
def rcs (l : List (R × Value)) : List Value := l.flatMap fun x => rcell x.1 x.2
theorem rcs_app (a b : List (R × Value)) : rcs (a ++ b) = rcs a ++ rcs b := by simp [rcs]
theorem rcs_len (l : List (R × Value)) : (rcs l).length = l.length * 5 := by
  induction l with
  | nil => rfl
  | cons x l ih =>
    have : rcs (x :: l) = rcell x.1 x.2 ++ rcs l := rfl
    rw [this, List.length_append, ih, List.length_cons]
    simp [rcell]; omega
theorem Lies.rcs_len {w : World} {A : Option Addr} {n c : Nat} {l : List (R × Value)} (h : Lies w 5 A n c (rcs l)) : l.length = n := by have := h.len; rw [Proofs.Ytfpbmpgdpnpdjaa.rcs_len] at this; omega
/-- The cells of the last run. -/
theorem Lies.last_cells {w : World} {b off n c : Nat} {l : List (R × Value)} {r : R} {v : Value} (h : Lies w 5 (some ⟨b, off, none⟩) n c (rcs (l ++ [(r, v)]))) : ∀ j u, (rcell r v)[j]? = some u → w.cell? ⟨b, off + (n - 1) * 5 + j, none⟩ = some u := by
  intro j u hu
  have hn := h.rcs_len
  rw [List.length_append, List.length_singleton] at hn
  have hj := (List.getElem?_eq_some_iff.1 hu).1
  have e : (rcs (l ++ [(r, v)]))[(n - 1) * 5 + j]? = some u := by
    rw [rcs_app, List.getElem?_append_right (by rw [Proofs.Ytfpbmpgdpnpdjaa.rcs_len]; omega), Proofs.Ytfpbmpgdpnpdjaa.rcs_len, show (n - 1) * 5 + j - l.length * 5 = j by omega]
    simpa [rcs] using hu
  have := h.cells _ rfl _ u e
  rwa [add_none, ← Nat.add_assoc] at this
set_option maxRecDepth 100000 in
theorem foll_nil {g0 c : Nat} {A : Option Addr} {u : U} {w : World} (hbox : w.cell? ⟨g0, 0, none⟩ = some (.slice A 0 c)) :
    Calls Try.prog 47 #[.agg #[.int .i64 u.k, .int .i64 u.p, .int .i32 u.c, .int .u32 u.cl, .int .u64 u.rq], .pointer (some ⟨g0, 0, none⟩)] w fun e w' => e = .returned (.bool false) ∧ Grow w w' := by
  have hb := grow_cell hbox (Grow.alloc w (.cells #[.int .i64 u.k, .int .i64 u.p, .int .i32 u.c, .int .u32 u.cl, .int .u64 u.rq] 30))
  go_enter Try.func47, Try.ntmps47
  go_wp2
  go_ret
  exact ⟨rfl, Grow.alloc _ _⟩
set_option maxRecDepth 100000 in
set_option maxHeartbeats 1000000 in
theorem foll_snoc {g0 b off n c c2 : Nat} {A2 : Option Addr} {l : List (R × Value)} {r : R} {u : U} {w : World} (hbox : w.cell? ⟨g0, 0, none⟩ = some (.slice (some ⟨b, off, none⟩) n c)) (hL : Lies w 5 (some ⟨b, off, none⟩) n c (rcs (l ++ [(r, .slice A2 r.cs.length c2)]))) :
    Calls Try.prog 47 #[.agg #[.int .i64 u.k, .int .i64 u.p, .int .i32 u.c, .int .u32 u.cl, .int .u64 u.rq], .pointer (some ⟨g0, 0, none⟩)] w fun e w' => e = .returned (.bool (!decide (u.k = 0) && follows r u)) ∧ Grow w w' := by
  have hle := hL.le
  have hbig := hL.big
  have hn := hL.rcs_len
  rw [List.length_append, List.length_singleton] at hn
  have hn0 : 0 < n := by omega
  have hl := hL.last_cells
  obtain ⟨uk, up, uc, ucl, urq⟩ := u
  obtain ⟨rk, rp, rcl, rrq, rcs0⟩ := r
  simp only [follows]
  obtain ⟨m, hm⟩ : ∃ m, rcs0.length = m := ⟨_, rfl⟩
  simp only [rcell, hm] at hl ⊢
  obtain ⟨k, hk⟩ : ∃ k, n - 1 = k := ⟨_, rfl⟩
  obtain rfl : n = k + 1 := by omega
  rw [hk] at hl
  have l0 := hl 0 _ rfl
  have l1 := hl 1 _ rfl
  have l2 := hl 2 _ rfl
  have l3 := hl 3 _ rfl
  have l4 := hl 4 _ rfl
  have g := Grow.alloc w (.cells #[.int .i64 uk, .int .i64 up, .int .i32 uc, .int .u32 ucl, .int .u64 urq] 30)
  have b0 := grow_cell hbox g
  rw [Nat.add_zero] at l0
  have m0 := grow_cell l0 g
  have m1 := grow_cell l1 g
  have m2 := grow_cell l2 g
  have m3 := grow_cell l3 g
  have m4 := grow_cell l4 g
  clear hbox hL hl hn hm hk l0 l1 l2 l3 l4 g
  by_cases h0 : uk = 0
  · subst h0
    go_enter Try.func47, Try.ntmps47
    go_wp2
    go_ret
    exact ⟨by simp, Grow.alloc _ _⟩
  · have e0 : (uk == 0) = false := by simp [h0]
    have ek : ((k : Int) + 1 == 0) = false := by simp; omega
    have e00 : decide (uk = 0) = false := by simp [h0]
    rw [e00]
    go_enter Try.func47, Try.ntmps47
    go_wp2_with fail
    have hU : ∀ (j : Nat) (v : Value), ([.int .i64 uk, .int .i64 up, .int .i32 uc, .int .u32 ucl, .int .u64 urq] : List Value)[j]? = some v → ((w.alloc (.cells #[.int .i64 uk, .int .i64 up, .int .i32 uc, .int .u32 ucl, .int .u64 urq] 30)).alloc (.cells #[.int .i64 rk, .int .i64 rp, .int .u32 rcl, .int .u64 rrq, .slice A2 m c2] 38)).cell? ⟨w.heap.size, j, none⟩ = some v := fun j v h => grow_cell (by rw [cell_of_row _ w.heap.size j _ _ (0, 0) (heap_alloc_new w _)]; simpa using h) (Grow.alloc _ _)
    have hR : ∀ (j : Nat) (v : Value), ([.int .i64 rk, .int .i64 rp, .int .u32 rcl, .int .u64 rrq, .slice A2 m c2] : List Value)[j]? = some v → ((w.alloc (.cells #[.int .i64 uk, .int .i64 up, .int .i32 uc, .int .u32 ucl, .int .u64 urq] 30)).alloc (.cells #[.int .i64 rk, .int .i64 rp, .int .u32 rcl, .int .u64 rrq, .slice A2 m c2] 38)).cell? ⟨w.heap.size + 1, j, none⟩ = some v := fun j v h => by
      have := cell_of_row ((w.alloc (.cells #[.int .i64 uk, .int .i64 up, .int .i32 uc, .int .u32 ucl, .int .u64 urq] 30)).alloc (.cells #[.int .i64 rk, .int .i64 rp, .int .u32 rcl, .int .u64 rrq, .slice A2 m c2] 38)) (w.alloc (.cells #[.int .i64 uk, .int .i64 up, .int .i32 uc, .int .u32 ucl, .int .u64 urq] 30)).heap.size j _ _ (0, 0) (heap_alloc_new _ _)
      rw [show (w.alloc (.cells #[.int .i64 uk, .int .i64 up, .int .i32 uc, .int .u32 ucl, .int .u64 urq] 30)).heap.size = w.heap.size + 1 by simp] at this
      rw [this]; simpa using h
    have hG : Grow w ((w.alloc (.cells #[.int .i64 uk, .int .i64 up, .int .i32 uc, .int .u32 ucl, .int .u64 urq] 30)).alloc (.cells #[.int .i64 rk, .int .i64 rp, .int .u32 rcl, .int .u64 rrq, .slice A2 m c2] 38)) := (Grow.alloc _ _).trans (Grow.alloc _ _)
    generalize (w.alloc (.cells #[.int .i64 uk, .int .i64 up, .int .i32 uc, .int .u32 ucl, .int .u64 urq] 30)).alloc (.cells #[.int .i64 rk, .int .i64 rp, .int .u32 rcl, .int .u64 rrq, .slice A2 m c2] 38) = w2 at *
    have HG := Lib.hid hG
    have u0 := fun (W : World) (g : Grow w2 W) => grow_cell (hU 0 _ rfl) g
    have u1 := fun (W : World) (g : Grow w2 W) => grow_cell (hU 1 _ rfl) g
    have u2 := fun (W : World) (g : Grow w2 W) => grow_cell (hU 2 _ rfl) g
    have u3 := fun (W : World) (g : Grow w2 W) => grow_cell (hU 3 _ rfl) g
    have u4 := fun (W : World) (g : Grow w2 W) => grow_cell (hU 4 _ rfl) g
    have r0 := fun (W : World) (g : Grow w2 W) => grow_cell (hR 0 _ rfl) g
    have r1 := fun (W : World) (g : Grow w2 W) => grow_cell (hR 1 _ rfl) g
    have r2 := fun (W : World) (g : Grow w2 W) => grow_cell (hR 2 _ rfl) g
    have r3 := fun (W : World) (g : Grow w2 W) => grow_cell (hR 3 _ rfl) g
    have r4 := fun (W : World) (g : Grow w2 W) => grow_cell (hR 4 _ rfl) g
    obtain ⟨s, hs⟩ : ∃ s, stepI uk = s := ⟨_, rfl⟩
    have HS := Lib.hid hs
    clear hU hR hG hs b0 m0 m1 m2 m3 m4
    by_cases hk : rk = uk
    · subst hk
      by_cases hid : rcl = ucl ∧ rrq = urq
      · obtain ⟨rfl, rfl⟩ := hid
        refine Chain.start Nat (by kernel_rfl) (by kernel_rfl) (fun hg => ?_)
        repeat (first | (refine Chain.skip hg (fun t => by rfl) ?_; simp only [Act.put, List.setIfInBounds_toArray, List.set_cons_zero, List.set_cons_succ]) | (refine Chain.pure hg (X := ?_) (fun t W hw hN => ⟨by rfl, ?_⟩) ?_; rotate_left; (focus (go_simp <;> with_reducible rfl)); simp only [Act.put, List.setIfInBounds_toArray, List.set_cons_zero, List.set_cons_succ]))
        refine Chain.grow hg (fun _ => .int .i64 s) (fun _ _ => True) (fun _ _ _ h _ => h) (fun _ => by rfl) (fun t W hw hN K hK => ?_) ?_
        · go_simp; refine step_any.mono ?_; rw [HS.out]; rintro e w9 ⟨rfl, rfl⟩; exact hK.out default _ (Grow.refl _) trivial
        simp only [Act.put, List.setIfInBounds_toArray, List.set_cons_zero, List.set_cons_succ]
        repeat (first | (refine Chain.skip hg (fun t => by rfl) ?_; simp only [Act.put, List.setIfInBounds_toArray, List.set_cons_zero, List.set_cons_succ]) | (refine Chain.pure hg (X := ?_) (fun t W hw hN => ⟨by rfl, ?_⟩) ?_; rotate_left; (focus (go_simp <;> with_reducible rfl)); simp only [Act.put, List.setIfInBounds_toArray, List.set_cons_zero, List.set_cons_succ]))
        refine Chain.done (fun t W hw hN => ?_)
        clear hN hg u0 u1 u2 u3 u4 r0 r1 r2 r3 r4
        have hgW := HG.out.trans hw
        go_wp2
        go_ret
        exact ⟨ret_bool (by rw [HS.out, ← IntWalk.i64_left, ← IntWalk.i64_left]; rfl), hgW⟩
      · have hid2 : rcl = ucl → ¬ rrq = urq := fun h1 h2 => hid ⟨h1, h2⟩
        have hd : (decide (rcl = ucl) && decide (rrq = urq)) = false := by simp; exact hid2
        refine Chain.start Nat (by kernel_rfl) (by kernel_rfl) (fun hg => ?_)
        repeat (first | (refine Chain.skip hg (fun t => by rfl) ?_; simp only [Act.put, List.setIfInBounds_toArray, List.set_cons_zero, List.set_cons_succ]) | (refine Chain.pure hg (X := ?_) (fun t W hw hN => ⟨by rfl, ?_⟩) ?_; rotate_left; (focus (go_simp <;> with_reducible rfl)); simp only [Act.put, List.setIfInBounds_toArray, List.set_cons_zero, List.set_cons_succ]))
        refine Chain.pure hg (X := fun _ => .bool false) (fun t W hw hN => ⟨by rfl, ?_⟩) ?_
        · go_simp; exact hid2
        simp only [Act.put, List.setIfInBounds_toArray, List.set_cons_zero, List.set_cons_succ]
        repeat (first | (refine Chain.skip hg (fun t => by rfl) ?_; simp only [Act.put, List.setIfInBounds_toArray, List.set_cons_zero, List.set_cons_succ]) | (refine Chain.pure hg (X := ?_) (fun t W hw hN => ⟨by rfl, ?_⟩) ?_; rotate_left; (focus (go_simp <;> with_reducible rfl)); simp only [Act.put, List.setIfInBounds_toArray, List.set_cons_zero, List.set_cons_succ]))
        refine Chain.done (fun t W hw hN => ?_)
        clear hN hg u0 u1 u2 u3 u4 r0 r1 r2 r3 r4
        have hgW := HG.out.trans hw
        go_wp2
        go_ret
        exact ⟨rfl, hgW⟩
    · have e1 : (rk == uk) = false := by simp [hk]
      have e2 : decide (rk = uk) = false := by simp [hk]
      refine Chain.start Nat (by kernel_rfl) (by kernel_rfl) (fun hg => ?_)
      repeat (first | (refine Chain.skip hg (fun t => by rfl) ?_; simp only [Act.put, List.setIfInBounds_toArray, List.set_cons_zero, List.set_cons_succ]) | (refine Chain.pure hg (X := ?_) (fun t W hw hN => ⟨by rfl, ?_⟩) ?_; rotate_left; (focus (go_simp <;> with_reducible rfl)); simp only [Act.put, List.setIfInBounds_toArray, List.set_cons_zero, List.set_cons_succ]))
      refine Chain.done (fun t W hw hN => ?_)
      clear hN hg u0 u1 u2 u3 u4 r0 r1 r2 r3 r4
      have hgW := HG.out.trans hw
      go_wp2
      go_ret
      exact ⟨by rw [e2]; rfl, hgW⟩
end Go.Proofs.Ytfpbmpgdpnpdjaa

