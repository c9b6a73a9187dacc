/-
  num: the law's own awake, and the statement's frame.
-/
import Derived.Test.YtfojelnnjhmggaaFix
namespace Go.Proofs.Ytfojelnnjhmggaa
open Go.RowKit

theorem get_at {A : Option Addr} {n c : Nat} {w : World} (l : List Nat) (v s k : Int) (h : Lies w 1 A n c (byt l)) (hl : ∀ x ∈ l, x < 256) (hv : (gv l : Int) = v) (hs : (gs l : Int) = s) (hk : (ge l : Int) = k) :
    Calls Try.prog 14 #[.slice A n c] w fun e w' => e = .returned (.tuple #[.int .u64 v, .int .i64 s, .int .i64 k]) ∧ w = w' := by
  subst hv hs hk
  exact get_any h hl
theorem put_at {A : Option Addr} {n c : Nat} {l : List Nat} (xi : Int) {w : World} (x m : Nat) (l' : List Nat) (hxi : xi = (x : Int)) (hl' : l ++ bts x = l') (hm : n + (bts x).length = m) (h : Lies w 1 A n c (byt l)) (hx : x < 18446744073709551616) (hn : n ≤ 140737488355300) :
    Calls Try.prog 13 #[.slice A n c, .int .u64 xi] w fun e w' => ∃ A' c', e = .returned (.slice A' m c') ∧ w'.ownsRow w.heap.size 5 1 (.slice A' m c') m (byt l') ∧ Lies w' 1 A' m c' (byt l') ∧ Below w.heap.size w w' := by
  subst hxi hl' hm
  refine (put_any h hx hn).mono ?_
  rintro e w' ⟨v, rfl, hown, hb⟩
  obtain ⟨A', c', rfl, h'⟩ := own_form hown
  exact ⟨A', c', rfl, hown, h', hb⟩
theorem put4_at {A : Option Addr} {n c : Nat} {l : List Nat} (xi : Int) {w : World} (x m : Nat) (l' : List Nat) (hxi : xi = (x : Int)) (hl' : l ++ le 4 x = l') (hm : n + 4 = m) (h : Lies w 1 A n c (byt l)) (hx : x < 4294967296) (hn : n ≤ 140737488355300) :
    Calls Try.prog 21 #[.slice A n c, .int .u32 xi] w fun e w' => ∃ A' c', e = .returned (.slice A' m c') ∧ w'.ownsRow w.heap.size 5 1 (.slice A' m c') m (byt l') ∧ Lies w' 1 A' m c' (byt l') ∧ Below w.heap.size w w' := by
  subst hxi hl' hm
  refine (put4_any h hx hn).mono ?_
  rintro e w' ⟨v, rfl, hown, hb⟩
  obtain ⟨A', c', rfl, h'⟩ := own_form hown
  exact ⟨A', c', rfl, hown, h', hb⟩
theorem equal_at {A B : Option Addr} {n c m d : Nat} {w : World} (a b : List Nat) (r : Bool) (ha : Lies w 1 A n c (byt a)) (hb : Lies w 1 B m d (byt b)) (h1 : ∀ x ∈ a, x < 256) (h2 : ∀ x ∈ b, x < 256) (hr : decide (a = b) = r) :
    Calls Try.prog 18 #[.slice A n c, .slice B m d] w fun e w' => e = .returned (.bool r) ∧ w = w' := by
  subst hr
  exact equal_any ha hb h1 h2
theorem fold_at (n : Int) (r : Int) (w : World) (hr : foldI n = r) (h0 : -9223372036854775808 ≤ n) (h1 : n ≤ 9223372036854775807) :
    Calls Try.prog 10 #[.int .i64 n] w fun e w' => e = .returned (.int .u64 r) ∧ w = w' := by
  subst hr
  exact fold_any n w h0 h1
theorem unfold_at (n : Int) (r : Int) (w : World) (hr : unfoldI n = r) (h0 : 0 ≤ n) (h1 : n < 18446744073709551616) :
    Calls Try.prog 12 #[.int .u64 n] w fun e w' => e = .returned (.int .i64 r) ∧ w = w' := by
  subst hr
  exact unfold_any n w h0 h1

set_option maxRecDepth 100000 in
set_option maxHeartbeats 1000000 in
theorem awake_any {w : World} :
    Calls Try.prog 11 #[] w fun e w' => e = .returned (.bool true) ∧ Below w.heap.size w w' := by
  go_enter Try.func11, Try.ntmps11
  go_wp2_with fail
  refine (get_at [172, 2, 9] 300 2 0 (lies_lit [172, 2, 9] 3 (by simp) rfl rfl (by decide)) (by decide) (by decide) (by decide) (by decide)).mono ?_
  rintro e w1 ⟨rfl, rfl⟩
  go_wp2_with fail
  refine (get_at [128] 0 0 4 (lies_lit [128] 1 (by simp) rfl rfl (by decide)) (by decide) (by decide) (by decide) (by decide)).mono ?_
  rintro e w1 ⟨rfl, rfl⟩
  go_wp2_with fail
  refine (get_at [128, 0] 0 0 5 (lies_lit [128, 0] 2 (by simp) rfl rfl (by decide)) (by decide) (by decide) (by decide) (by decide)).mono ?_
  rintro e w1 ⟨rfl, rfl⟩
  go_wp2_with fail
  refine (put_at (l := []) 300 300 2 [172, 2] rfl (by decide) (by decide) (Lies.nil _ _) (by decide) (by decide)).mono ?_
  rintro e w1 ⟨A1, c1, rfl, -, h1, hb1⟩
  have hb : Below w.heap.size w w1 := (((Below.refl _ _).alloc (Nat.le_refl _) _).alloc (by simp) _).alloc (by simp; omega) _ |>.trans (hb1.mono (by simp; omega))
  go_wp2_with fail
  refine (equal_at [172, 2] [172, 2] true (h1.alloc _) (lies_lit [172, 2] 2 rfl rfl rfl (by decide)) (by decide) (by decide) (by decide)).mono ?_
  rintro e w2 ⟨rfl, rfl⟩
  go_wp2_with fail
  refine (fold_at (-2) 3 _ (by decide) (by decide) (by decide)).mono ?_
  rintro e w2 ⟨rfl, rfl⟩
  go_wp2_with fail
  refine (unfold_at 3 (-2) _ (by decide) (by decide) (by decide)).mono ?_
  rintro e w2 ⟨rfl, rfl⟩
  go_wp2_with fail
  refine (put4_at (l := []) 16909060 16909060 4 [4, 3, 2, 1] rfl (by decide) (by decide) (Lies.nil _ _) (by decide) (by decide)).mono ?_
  rintro e w2 ⟨A2, c2, rfl, -, h2, hb2⟩
  have hB : Below w.heap.size w w2 := (hb.alloc hb.size _).trans (hb2.mono (by have := hb.size; simp; omega))
  go_wp2_with fail
  refine (equal_at [4, 3, 2, 1] [4, 3, 2, 1] true (h2.alloc _) (lies_lit [4, 3, 2, 1] 4 rfl rfl rfl (by decide)) (by decide) (by decide) (by decide)).mono ?_
  rintro e w3 ⟨rfl, rfl⟩
  go_wp2
  go_ret
  exact ⟨rfl, hB.alloc hB.size _⟩
end Go.Proofs.Ytfojelnnjhmggaa
