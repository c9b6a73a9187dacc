/-
  num: an append of bytes, its law at this program.
-/
import Derived.Test.YtfojelnnjhmggaaAwake
import Derived.Deep.RegionHeld3
namespace Go.Proofs.Ytfojelnnjhmggaa
open Go.RowKit

theorem wpList_app8 {w : World} {ops : Array Oper} {rest : List Oper} {o : Oper} {a : Act} {Q : Exit → Act → World → Prop} (hgd : o.guard = none) (s x : Operand)
    (ho : o.op = .call { callee := .builtin .append, args := #[s, x], argTypes := #[28, 28] }) (base : Nat)
    (v : Value) (n : Nat) (l : List Nat) (hs : a.eval s = v) (hown : w.ownsRow base 5 1 v n (byt l))
    (A : Option Addr) (m c : Nat) (r : List Nat) (hx : a.eval x = .slice A m c) (hr : Lies w 1 A m c (byt r)) (hsum : n + m ≤ 140737488355328) (hbase : base ≤ w.heap.size)
    (h : ∀ (A' : Option Addr) (c' : Nat) (w' : World), w'.ownsRow base 5 1 (.slice A' (n + m) c') (n + m) (byt (l ++ r)) → Lies w' 1 A' (n + m) c' (byt (l ++ r)) → (∀ (B : Nat) (w0 : World), Below B w0 w → B ≤ base → Below B w0 w') →
      wpList Try.prog ops Q rest (a.put o.dst (.slice A' (n + m) c')) w') : wpList Try.prog ops Q (o :: rest) a w := by
  obtain ⟨i0, hi, hz0, hz1, hz2⟩ := info_parts info_u8
  refine wpList_append_lies w hgd s x _ ho base 5 i0 (.int .u8 0) 1 1 Try.underlying28 hi hz0 hz1 hz2 rfl (by decide) v n (byt l) hs hown A m c (byt r) hx hr (byt_one _) (by simp only [maxLen]; omega) (by omega) hbase ?_
  intro v' w' h1 _ h3
  rw [← byt_app] at h1
  obtain ⟨A', c', rfl, h4⟩ := own_form h1
  exact h A' c' w' h1 h4 h3
theorem own_empty8 (w : World) {base g : Nat} (hb : base ≤ w.heap.size) (hg : g = w.heap.size) : (w.alloc (.cells #[] 5)).ownsRow base 5 1 (.slice (some ⟨g, 0, none⟩) 0 0) 0 (byt []) := by
  subst hg
  exact World.ownsRow_made w #[] 0 hb (by simp [maxLen]) rfl
theorem putint_at {A : Option Addr} {n c : Nat} {l : List Nat} (x : Int) {w : World} (f m : Nat) (l' : List Nat) (hf : foldI x = (f : Int)) (hl' : l ++ bts f = l') (hm : n + (bts f).length = m) (h : Lies w 1 A n c (byt l)) (h0 : -9223372036854775808 ≤ x) (h1 : x ≤ 9223372036854775807) (hn : n ≤ 140737488355300) :
    Calls Try.prog 20 #[.slice A n c, .int .i64 x] w fun e w' => ∃ A' c', e = .returned (.slice A' m c') ∧ w'.ownsRow w.heap.size 5 1 (.slice A' m c') m (byt l') ∧ Lies w' 1 A' m c' (byt l') ∧ Below w.heap.size w w' := by
  subst hl' hm
  refine (putint_any h h0 h1 hn).mono ?_
  rw [hf, Int.toNat_natCast]
  rintro e w' ⟨v, rfl, hown, hb⟩
  obtain ⟨A', c', rfl, h'⟩ := own_form hown
  exact ⟨A', c', rfl, hown, h', hb⟩
theorem put8_at {A : Option Addr} {n c : Nat} {l : List Nat} (xi : Int) {w : World} (x m : Nat) (l' : List Nat) (hxi : xi = (x : Int)) (hl' : l ++ le 8 x = l') (hm : n + 8 = m) (h : Lies w 1 A n c (byt l)) (hx : x < 18446744073709551616) (hn : n ≤ 140737488355300) :
    Calls Try.prog 22 #[.slice A n c, .int .u64 xi] w fun e w' => ∃ A' c', e = .returned (.slice A' m c') ∧ w'.ownsRow w.heap.size 5 1 (.slice A' m c') m (byt l') ∧ Lies w' 1 A' m c' (byt l') ∧ Below w.heap.size w w' := by
  subst hxi hl' hm
  refine (put8_any h hx hn).mono ?_
  rintro e w' ⟨v, rfl, hown, hb⟩
  obtain ⟨A', c', rfl, h'⟩ := own_form hown
  exact ⟨A', c', rfl, hown, h', hb⟩
theorem getint_at {A : Option Addr} {n c : Nat} {w : World} (l : List Nat) (v s k : Int) (h : Lies w 1 A n c (byt l)) (hl : ∀ x ∈ l, x < 256) (hv : unfoldI (gv l) = v) (hs : (gs l : Int) = s) (hk : (ge l : Int) = k) :
    Calls Try.prog 30 #[.slice A n c] w fun e w' => e = .returned (.tuple #[.int .i64 v, .int .i64 s, .int .i64 k]) ∧ w = w' := by
  subst hv hs hk
  exact getint_any h hl
theorem get4_at {A : Option Addr} {n c : Nat} {w : World} (l : List Nat) (v k : Int) (h : Lies w 1 A n c (byt l)) (hl : ∀ x ∈ l, x < 256) (hv : (fv 4 l : Int) = v) (hk : (fe 4 l : Int) = k) :
    Calls Try.prog 16 #[.slice A n c] w fun e w' => e = .returned (.tuple #[.int .u32 v, .int .i64 k]) ∧ w = w' := by
  subst hv hk
  exact get4_any h hl
theorem get8_at {A : Option Addr} {n c : Nat} {w : World} (l : List Nat) (v k : Int) (h : Lies w 1 A n c (byt l)) (hl : ∀ x ∈ l, x < 256) (hv : (fv 8 l : Int) = v) (hk : (fe 8 l : Int) = k) :
    Calls Try.prog 17 #[.slice A n c] w fun e w' => e = .returned (.tuple #[.int .u64 v, .int .i64 k]) ∧ w = w' := by
  subst hv hk
  exact get8_any h hl
theorem size_at (n : Int) (r : Int) (w : World) (h0 : 0 ≤ n) (h1 : n < 18446744073709551616) (hr : ((bts n.toNat).length : Int) = r) :
    Calls Try.prog 26 #[.int .u64 n] w fun e w' => e = .returned (.int .i64 r) ∧ w = w' := by
  subst hr
  exact size_any n w h0 h1
theorem fix_back (s x : Nat) (b : List Nat) (hx : x < 256 ^ s) : fv s (le s x ++ b) = x ∧ fe s (le s x ++ b) = 0 := by
  have hl : ¬ (le s x ++ b).length < s := by simp [le_len]
  exact ⟨by rw [fv, if_neg hl, lev_le s x b hx], by rw [fe, if_neg hl]⟩
end Go.Proofs.Ytfojelnnjhmggaa
