/-
  utf: the contracts of Decode, Whole, Same.
-/
import Derived.Test.YtbphdojjddnljaaDoorRead
namespace Go.Proofs.YtbphdojjddnljaaDoor
open Go.RowKit
set_option linter.unusedSimpArgs false

def decE (l : List Nat) : Nat := if readN l < l.length then 21 else 0
def decT (l : List Nat) : List Nat := if readN l < l.length then [] else readT l
def DecPost (l : List Nat) (w : World) (e : Ending) (w' : World) : Prop :=
  ∃ A m c, e = .returned (.tuple #[.slice A m c, .int .i64 (decE l : Nat)]) ∧ w'.ownsRow w.heap.size 24 1 (.slice A m c) m (chs (upN (decT l))) ∧ Grow w w'
theorem DecPost.grow {l : List Nat} {w w1 w2 : World} {e : Ending} (g : Grow w w1) (h : DecPost l w1 e w2) : DecPost l w e w2 := by
  obtain ⟨A, m, c, h1, h2, h3⟩ := h
  exact ⟨A, m, c, h1, h2.mono g.size, then_ g h3⟩
set_option maxRecDepth 100000 in
theorem decode_any {A : Option Addr} {n cap : Nat} {l : List Nat} {w : World} (hT : Tab w) (hL : Lies w 1 A n cap (byt l)) (hl : ∀ y ∈ l, y < 256) (hn : n * 4 ≤ 140737488355328) :
    Calls Tryd.prog 11 #[.slice A n cap] w (DecPost l w) := by
  have hle := hL.le
  have hbig := hL.big
  have hln := hL.bytes_len
  have hrl := read_le l
  rw [hln] at hrl
  obtain ⟨R, hR⟩ : ∃ R, readN l = R := ⟨_, rfl⟩
  rw [hR] at hrl
  have post : ∀ (w' : World) A m c, w'.ownsRow w.heap.size 24 1 (.slice A m c) m (chs (upN (readT l))) → Grow w w' → (R < n → DecPost l w (.returned (.tuple #[.slice none 0 0, .int .i64 21])) w') ∧ (¬ R < n → DecPost l w (.returned (.tuple #[.slice A m c, .int .i64 0])) w') := by
    intro w' A m c h g
    refine ⟨fun hlt => ⟨none, 0, 0, ?_, ?_, g⟩, fun hlt => ⟨A, m, c, ?_, ?_, g⟩⟩
    · unfold decE; rw [if_pos (by omega)]; rfl
    · unfold decT; rw [if_pos (by omega)]; exact own_nilC _ _
    · unfold decE; rw [if_neg (by omega)]; rfl
    · unfold decT; rw [if_neg (by omega)]; exact h
  have HP := Lib.hid post
  have rp : ∀ e w', ReadPost l w e w' → ∃ A m c, e = .returned (.tuple #[.slice A m c, .int .i64 (R : Int)]) ∧ w'.ownsRow w.heap.size 24 1 (.slice A m c) m (chs (upN (readT l))) ∧ Grow w w' := by
    intro e w' h
    unfold ReadPost at h
    rwa [hR] at h
  have RP := Lib.hid rp
  clear post hln hR rp
  go_enter Tryd.func11, Tryd.ntmps11
  go_wp2_with fail
  refine (read_any hT hL hl hn).mono ?_
  intro e w1 hrp
  obtain ⟨A1, m1, c1, rfl, own1, g1⟩ := RP.out e w1 hrp
  have HQ := Lib.hid (HP.out w1 A1 m1 c1 own1 g1)
  clear own1 g1 hrp
  by_cases hlt : R < n
  · go_wp2
    go_ret2
    exact HQ.out.1 hlt
  · go_wp2
    go_ret2
    exact HQ.out.2 hlt
set_option maxRecDepth 100000 in
theorem whole_any {A : Option Addr} {n cap : Nat} {l : List Nat} {w : World} (hT : Tab w) (hL : Lies w 1 A n cap (byt l)) (hl : ∀ y ∈ l, y < 256) (hn : n * 4 ≤ 140737488355328) :
    Calls Tryd.prog 14 #[.slice A n cap] w fun e w' => e = .returned (.int .i64 (readN l : Nat)) ∧ Grow w w' := by
  obtain ⟨R, hR⟩ : ∃ R, readN l = R := ⟨_, rfl⟩
  have rp : ∀ e w', ReadPost l w e w' → ∃ A m c, e = .returned (.tuple #[.slice A m c, .int .i64 (R : Int)]) ∧ Grow w w' := by
    intro e w' h
    obtain ⟨A, m, c, h1, _, h3⟩ := h
    rw [hR] at h1
    exact ⟨A, m, c, h1, h3⟩
  have RP := Lib.hid rp
  rw [hR]
  clear hR rp
  go_enter Tryd.func14, Tryd.ntmps14
  go_wp2_with fail
  refine (read_any hT hL hl hn).mono ?_
  intro e w1 hrp
  obtain ⟨A1, m1, c1, rfl, g1⟩ := RP.out e w1 hrp
  have HQ := Lib.hid g1
  clear g1 hrp
  go_wp2
  go_ret
  exact ⟨rfl, HQ.out⟩
theorem take_ne {a b : List Int} {k : Nat} {x y : Int} (ha : a[k]? = some x) (hb : b[k]? = some y) (h : x ≠ y) : a ≠ b := by
  intro e; subst e; rw [ha] at hb; injection hb with hb; exact h hb
set_option maxRecDepth 100000 in
theorem same_any {A B : Option Addr} {n c m d : Nat} {a b : List Int} {w : World} (ha : Lies w 1 A n c (chs a)) (hb : Lies w 1 B m d (chs b)) :
    Calls Tryd.prog 13 #[.slice A n c, .slice B m d] w fun e w' => e = .returned (.bool (decide (a = b))) ∧ Grow w w' := by
  have la := ha.chs_len
  have lb := hb.chs_len
  have hle := ha.le
  have hbig := ha.big
  have hle2 := hb.le
  have hbig2 := hb.big
  by_cases hnm : n = m
  · subst hnm
    have LA := Lib.hid la; have LB := Lib.hid lb
    clear la lb
    go_enter Tryd.func13, Tryd.ntmps13
    go_wp2
    go_loopw [5] (fun i wr => ∃ k : Nat, k ≤ n ∧ i = .int .i64 k ∧ Hid (a.take k = b.take k) ∧ Grow w wr) (fun i _ => n - (intOf i).toNat)
    case atStart => exact ⟨0, Nat.zero_le _, rfl, by simp [Hid], Grow.refl _⟩
    case round =>
      obtain ⟨k, hk, rfl, htk, hg⟩ := hrel
      by_cases hlt : k < n
      · obtain ⟨g1, o1, rfl, hgs1, hc1⟩ := ha.pos (by omega) (by decide)
        obtain ⟨g2, o2, rfl, hgs2, hc2⟩ := hb.pos (by omega) (by decide)
        obtain ⟨x, hx⟩ : ∃ x, a[k]? = some x := ⟨_, List.getElem?_eq_getElem (by have := LA.out; omega)⟩
        obtain ⟨y, hy⟩ : ∃ y, b[k]? = some y := ⟨_, List.getElem?_eq_getElem (by have := LB.out; omega)⟩
        have q1 := hc1 k (.int .i32 x) (by simp [chs, hx])
        have q2 := hc2 k (.int .i32 y) (by simp [chs, hy])
        have r1 : ∀ W : World, Grow wr W → W.cell? ⟨g1, o1 + k, none⟩ = some (.int .i32 x) := fun W h => grow_cell q1 (hg.trans h)
        have r2 : ∀ W : World, Grow wr W → W.cell? ⟨g2, o2 + k, none⟩ = some (.int .i32 y) := fun W h => grow_cell q2 (hg.trans h)
        have i0 : (0 : Int) ≤ (k : Int) := by omega
        have i1 : (k : Int) < (n : Int) := by omega
        by_cases hxy : x = y
        · have e1 : (x != y) = false := by simp [hxy]
          have ht : a.take (k + 1) = b.take (k + 1) := by rw [List.take_add_one, List.take_add_one, htk.out, hx, hy, hxy]
          have HT := Lib.hid ht
          clear hc1 hc2 q1 q2 hx hy hxy ht
          go_wp2_with fail
          refine Chain.start Nat (by kernel_rfl) (by kernel_rfl) (fun hg => ?_)
          repeat (first | (refine Chain.skip hg (fun t => by rfl) ?_; simp only [Act.put, List.setIfInBounds_toArray, List.set_cons_zero, List.set_cons_succ]) | (refine Chain.pure hg (X := ?_) (fun t W hw hN => ⟨by rfl, ?_⟩) ?_; rotate_left; (focus (go_simp <;> with_reducible rfl)); simp only [Act.put, List.setIfInBounds_toArray, List.set_cons_zero, List.set_cons_succ]))
          refine Chain.done (fun t W hw hN => ?_)
          clear hN hg r1 r2
          have hgW := hg.trans hw
          go_wp2
          go_roundw
          case rel => exact ⟨k + 1, by omega, by go_num, HT, hgW⟩
          case measure => simp [intOf]; omega
        · have e1 : (x != y) = true := by simp [hxy]
          have hne := take_ne hx hy hxy
          have HNE := Lib.hid (show decide (a = b) = false by simpa using hne)
          clear hc1 hc2 q1 q2 hx hy hxy hne
          go_wp2_with fail
          refine Chain.start Nat (by kernel_rfl) (by kernel_rfl) (fun hg => ?_)
          repeat (first | (refine Chain.skip hg (fun t => by rfl) ?_; simp only [Act.put, List.setIfInBounds_toArray, List.set_cons_zero, List.set_cons_succ]) | (refine Chain.pure hg (X := ?_) (fun t W hw hN => ⟨by rfl, ?_⟩) ?_; rotate_left; (focus (go_simp <;> with_reducible rfl)); simp only [Act.put, List.setIfInBounds_toArray, List.set_cons_zero, List.set_cons_succ]))
          refine Chain.done (fun t W hw hN => ?_)
          clear hN hg r1 r2
          have hgW := hg.trans hw
          go_wp2
          go_ret
          exact ⟨by rw [HNE.out]; rfl, hgW⟩
      · obtain rfl : k = n := by omega
        have e : decide (a = b) = true := by
          have := htk.out
          rw [List.take_of_length_le (by have := LA.out; omega), List.take_of_length_le (by have := LB.out; omega)] at this
          simpa using this
        have HE := Lib.hid e
        clear e
        go_wp2
        go_ret
        exact ⟨by rw [HE.out]; rfl, hg⟩
  · have e : decide (a = b) = false := by
      simp only [decide_eq_false_iff_not]
      intro h
      rw [h] at la
      omega
    have e1 : ((n : Int) != (m : Int)) = true := by simp; omega
    have HE := Lib.hid e
    clear e la lb hnm
    go_enter Tryd.func13, Tryd.ntmps13
    go_wp2
    go_ret
    exact ⟨by rw [HE.out]; rfl, Grow.refl _⟩
theorem same_at {A B : Option Addr} {n c m d : Nat} {a b : List Int} {w : World} (r : Bool) (hr : decide (a = b) = r) (ha : Lies w 1 A n c (chs a)) (hb : Lies w 1 B m d (chs b)) :
    Calls Tryd.prog 13 #[.slice A n c, .slice B m d] w fun e w' => e = .returned (.bool r) ∧ Grow w w' := by
  subst hr; exact same_any ha hb
end Go.Proofs.YtbphdojjddnljaaDoor

