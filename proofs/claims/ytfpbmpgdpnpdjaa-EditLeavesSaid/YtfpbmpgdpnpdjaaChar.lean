/-
  edit: chars in memory; the contracts of the reference's May, Same.
-/
import Derived.Test.YtfpbmpgdpnpdjaaRunsM
namespace Go.Proofs.Ytfpbmpgdpnpdjaa
open Go.RowKit
set_option linter.unusedSimpArgs false

theorem wpList_appC {w : World} {ops : Array Oper} {rest : List Oper} {o : Oper} {a : Act} {Q : Exit → Act → World → Prop} (hgd : o.guard = none) (s x : Operand)
    (ho : o.op = .call { callee := .builtin .append, args := #[s, x], argTypes := #[36, 36] }) (base : Nat)
    (v : Value) (n : Nat) (l : List Int) (hs : a.eval s = v) (hown : w.ownsRow base 24 1 v n (chs l))
    (A : Option Addr) (m c : Nat) (r : List Int) (hx : a.eval x = .slice A m c) (hr : Lies w 1 A m c (chs r)) (hsum : (n + m) * 4 ≤ 140737488355328) (hbase : base ≤ w.heap.size)
    (h : ∀ (A' : Option Addr) (c' : Nat) (w' : World), w'.ownsRow base 24 1 (.slice A' (n + m) c') (n + m) (chs (l ++ r)) → Lies w' 1 A' (n + m) c' (chs (l ++ r)) → (∀ (B : Nat) (w0 : World), Below B w0 w → B ≤ base → Below B w0 w') →
      wpList Try.prog ops Q rest (a.put o.dst (.slice A' (n + m) c')) w') : wpList Try.prog ops Q (o :: rest) a w := by
  obtain ⟨i0, hi, hz0, hz1, hz2⟩ := info_parts info_char
  refine wpList_append_lies w hgd s x _ ho base 24 i0 (.int .i32 0) 1 4 Try.underlying36 hi hz0 hz1 hz2 rfl (by decide) v n (chs l) hs hown A m c (chs r) hx hr (chs_one _) (by simp only [maxLen]; omega) hsum hbase ?_
  intro v' w' h1 _ h3
  rw [← chs_app] at h1
  obtain ⟨A', c', rfl, h4⟩ := own_form h1
  exact h A' c' w' h1 h4 h3
theorem own_nilC (w : World) (b : Nat) : w.ownsRow b 24 1 (.slice none 0 0) 0 (chs []) := World.ownsRow_nil _ _ _ _
theorem rmay_any {c : Int} {w : World} : Calls Try.prog 53 #[.int .i32 c] w fun e w' => e = .returned (.bool (mayI c)) ∧ w = w' := by
  have hm := mayI_iff c
  obtain ⟨r, hr⟩ : ∃ r, mayI c = r := ⟨_, rfl⟩
  rw [hr] at hm ⊢
  have key : (0 ≤ c ∧ c < 55296 ∧ r = true) ∨ (0 ≤ c ∧ 55296 ≤ c ∧ c ≤ 57343 ∧ r = false) ∨ (57343 < c ∧ c ≤ 1114111 ∧ r = true) ∨ (1114111 < c ∧ r = false) ∨ (c < 0 ∧ r = false) := by
    cases r with
    | true => have := hm.1 rfl; simp; omega
    | false =>
      have : ¬ (0 ≤ c ∧ c ≤ 1114111 ∧ (c < 55296 ∨ 57343 < c)) := fun h => by have := hm.2 h; cases this
      simp only [and_true, and_false, or_false, false_or]
      simp
      omega
  clear hm hr
  rcases key with ⟨h1, h2, rfl⟩ | ⟨h1, h2, h3, rfl⟩ | ⟨h1, h2, rfl⟩ | ⟨h1, rfl⟩ | ⟨h1, rfl⟩
  all_goals
    go_enter Try.func53, Try.ntmps53
    go_wp2
    go_ret
    exact ⟨by first | rfl | (congr; simp; omega), rfl⟩
theorem rmay_at {c : Int} {w : World} (r : Bool) (h : mayI c = r) : Calls Try.prog 53 #[.int .i32 c] w fun e w' => e = .returned (.bool r) ∧ w = w' := by
  subst h; exact rmay_any
theorem take_ne {a b : List Int} {k : Nat} {x y : Int} (ha : a[k]? = some x) (hb : b[k]? = some y) (h : x ≠ y) : a ≠ b := by
  intro e; subst e; rw [ha] at hb; injection hb with hb; exact h hb
set_option maxRecDepth 100000 in
theorem same_any {A B : Option Addr} {n c m d : Nat} {a b : List Int} {w : World} (ha : Lies w 1 A n c (chs a)) (hb : Lies w 1 B m d (chs b)) :
    Calls Try.prog 25 #[.slice A n c, .slice B m d] w fun e w' => e = .returned (.bool (decide (a = b))) ∧ Grow w w' := by
  have la := ha.chs_len
  have lb := hb.chs_len
  have hle := ha.le
  have hbig := ha.big
  have hle2 := hb.le
  have hbig2 := hb.big
  by_cases hnm : n = m
  · subst hnm
    have LA := Lib.hid la; have LB := Lib.hid lb
    clear la lb
    go_enter Try.func25, Try.ntmps25
    go_wp2
    go_loopw [5] (fun i wr => ∃ k : Nat, k ≤ n ∧ i = .int .i64 k ∧ Hid (a.take k = b.take k) ∧ Grow w wr) (fun i _ => n - (intOf i).toNat)
    case atStart => exact ⟨0, Nat.zero_le _, rfl, by simp [Hid], Grow.refl _⟩
    case round =>
      obtain ⟨k, hk, rfl, htk, hg⟩ := hrel
      by_cases hlt : k < n
      · obtain ⟨g1, o1, rfl, hgs1, hc1⟩ := ha.pos (by omega) (by decide)
        obtain ⟨g2, o2, rfl, hgs2, hc2⟩ := hb.pos (by omega) (by decide)
        obtain ⟨x, hx⟩ : ∃ x, a[k]? = some x := ⟨_, List.getElem?_eq_getElem (by have := LA.out; omega)⟩
        obtain ⟨y, hy⟩ : ∃ y, b[k]? = some y := ⟨_, List.getElem?_eq_getElem (by have := LB.out; omega)⟩
        have q1 := hc1 k (.int .i32 x) (by simp [chs, hx])
        have q2 := hc2 k (.int .i32 y) (by simp [chs, hy])
        have r1 : ∀ W : World, Grow wr W → W.cell? ⟨g1, o1 + k, none⟩ = some (.int .i32 x) := fun W h => grow_cell q1 (hg.trans h)
        have r2 : ∀ W : World, Grow wr W → W.cell? ⟨g2, o2 + k, none⟩ = some (.int .i32 y) := fun W h => grow_cell q2 (hg.trans h)
        have i0 : (0 : Int) ≤ (k : Int) := by omega
        have i1 : (k : Int) < (n : Int) := by omega
        by_cases hxy : x = y
        · have e1 : (x != y) = false := by simp [hxy]
          have ht : a.take (k + 1) = b.take (k + 1) := by rw [List.take_add_one, List.take_add_one, htk.out, hx, hy, hxy]
          have HT := Lib.hid ht
          clear hc1 hc2 q1 q2 hx hy hxy ht
          go_wp2_with fail
          refine Chain.start Nat (by kernel_rfl) (by kernel_rfl) (fun hg => ?_)
          repeat (first | (refine Chain.skip hg (fun t => by rfl) ?_; simp only [Act.put, List.setIfInBounds_toArray, List.set_cons_zero, List.set_cons_succ]) | (refine Chain.pure hg (X := ?_) (fun t W hw hN => ⟨by rfl, ?_⟩) ?_; rotate_left; (focus (go_simp <;> with_reducible rfl)); simp only [Act.put, List.setIfInBounds_toArray, List.set_cons_zero, List.set_cons_succ]))
          refine Chain.done (fun t W hw hN => ?_)
          clear hN hg r1 r2
          have hgW := hg.trans hw
          go_wp2
          go_roundw
          case rel => exact ⟨k + 1, by omega, by go_num, HT, hgW⟩
          case measure => simp [intOf]; omega
        · have e1 : (x != y) = true := by simp [hxy]
          have hne := take_ne hx hy hxy
          have HNE := Lib.hid (show decide (a = b) = false by simpa using hne)
          clear hc1 hc2 q1 q2 hx hy hxy hne
          go_wp2_with fail
          refine Chain.start Nat (by kernel_rfl) (by kernel_rfl) (fun hg => ?_)
          repeat (first | (refine Chain.skip hg (fun t => by rfl) ?_; simp only [Act.put, List.setIfInBounds_toArray, List.set_cons_zero, List.set_cons_succ]) | (refine Chain.pure hg (X := ?_) (fun t W hw hN => ⟨by rfl, ?_⟩) ?_; rotate_left; (focus (go_simp <;> with_reducible rfl)); simp only [Act.put, List.setIfInBounds_toArray, List.set_cons_zero, List.set_cons_succ]))
          refine Chain.done (fun t W hw hN => ?_)
          clear hN hg r1 r2
          have hgW := hg.trans hw
          go_wp2
          go_ret
          exact ⟨by rw [HNE.out]; rfl, hgW⟩
      · obtain rfl : k = n := by omega
        have e : decide (a = b) = true := by
          have := htk.out
          rw [List.take_of_length_le (by have := LA.out; omega), List.take_of_length_le (by have := LB.out; omega)] at this
          simpa using this
        have HE := Lib.hid e
        clear e
        go_wp2
        go_ret
        exact ⟨by rw [HE.out]; rfl, hg⟩
  · have e : decide (a = b) = false := by
      simp only [decide_eq_false_iff_not]
      intro h
      rw [h] at la
      omega
    have e1 : ((n : Int) != (m : Int)) = true := by simp; omega
    have HE := Lib.hid e
    clear e la lb hnm
    go_enter Try.func25, Try.ntmps25
    go_wp2
    go_ret
    exact ⟨by rw [HE.out]; rfl, Grow.refl _⟩
theorem same_at {A B : Option Addr} {n c m d : Nat} {a b : List Int} {w : World} (r : Bool) (hr : decide (a = b) = r) (ha : Lies w 1 A n c (chs a)) (hb : Lies w 1 B m d (chs b)) :
    Calls Try.prog 25 #[.slice A n c, .slice B m d] w fun e w' => e = .returned (.bool r) ∧ Grow w w' := by
  subst hr; exact same_any ha hb
end Go.Proofs.Ytfpbmpgdpnpdjaa

