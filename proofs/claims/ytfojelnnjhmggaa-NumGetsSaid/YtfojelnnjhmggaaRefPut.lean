/-
  num: the contracts of the references' Put, Size, Lay.
-/
import Derived.Test.YtfojelnnjhmggaaApp
namespace Go.Proofs.Ytfojelnnjhmggaa
open Go.RowKit

set_option maxRecDepth 100000 in
theorem rput_any {A : Option Addr} {n c : Nat} {l : List Nat} {w : World} (xi : Int) (x m0 : Nat) (l' : List Nat) (hxi : xi = (x : Int)) (hl' : l ++ bts x = l') (hm0 : n + (bts x).length = m0) (h : Lies w 1 A n c (byt l)) (hx : x < 18446744073709551616) (hn : n ≤ 140737488355300) :
    Calls Try.prog 23 #[.slice A n c, .int .u64 xi] w fun e w' => ∃ A' c', e = .returned (.slice A' m0 c') ∧ w'.ownsRow w.heap.size 5 1 (.slice A' m0 c') m0 (byt l') ∧ Lies w' 1 A' m0 c' (byt l') ∧ Below w.heap.size w w' := by
  subst hxi
  have hten := bts_ten hx
  have HX := Lib.hid hx
  have HL := Lib.hid hl'; have HM := Lib.hid hm0
  clear hx hl' hm0
  go_enter Try.func23, Try.ntmps23
  go_wp2_with (go_at_call 19; refine (own_any h (byt_one _) (by omega)).mono ?_; rintro e w1 ⟨v1, rfl, hown1, hb1⟩)
  go_loopw [5, 1] (fun v i wr => ∃ (done : List Nat) (m : Nat), i = .int .u64 m ∧ wr.ownsRow w.heap.size 5 1 v (n + done.length) (byt (l ++ done)) ∧ Below w.heap.size w wr ∧ Hid (done ++ bts m = bts x ∧ m < 18446744073709551616)) (fun _ i _ => (intOf i).toNat)
  case atStart => exact ⟨[], x, rfl, by simpa using hown1, hb1, ⟨rfl, HX.out⟩⟩
  case round =>
    obtain ⟨done, m, rfl, hown, hb, hd⟩ := hrel
    have hl : done.length ≤ 10 := by have := congrArg List.length hd.out.1; rw [List.length_append] at this; omega
    have hw : IntKind.u64.wrap ((m : Int) / 128) = (m : Int) / 128 := by have := hd.out.2; rw [IntKind.wrap_u64]; omega
    by_cases hlt : 128 ≤ m
    · go_wp2_with (at_builtin; refine wpList_app8 rfl (.tmp 10) (.tmp 15) rfl w.heap.size _ _ _ rfl (hown.alloc _) _ 1 1 [m % 128 + 128] rfl (lies_lit _ 1 rfl (by simp [byt]; omega) rfl (by decide)) (by omega) (by have := hb.size; simp; omega) ?_; intro A2 c2 w2 own2 L2 bel2)
      have hb2 := bel2 _ _ (hb.alloc hb.size _) (Nat.le_refl _)
      clear bel2 hown hb L2
      go_wp2
      go_roundw
      case rel => exact ⟨done ++ [m % 128 + 128], m / 128, by go_num, by simpa [Nat.add_assoc] using own2, hb2, ⟨by have := hd.out; rw [bts_big hlt (by have := pow64; omega)] at this; simpa using this.1, by have := hd.out.2; omega⟩⟩
      case measure => simp [intOf]; omega
    · go_wp2_with (at_builtin; refine wpList_app8 rfl (.tmp 19) (.tmp 22) rfl w.heap.size _ _ _ rfl (hown.alloc _) _ 1 1 [m] rfl (lies_lit _ 1 rfl (by simp [byt]; try omega) rfl (by decide)) (by omega) (by have := hb.size; simp; omega) ?_; intro A2 c2 w2 own2 L2 bel2)
      have hb2 := bel2 _ _ (hb.alloc hb.size _) (Nat.le_refl _)
      have e := hd.out.1
      rw [bts_small (by omega)] at e
      have el : n + done.length + 1 = m0 := by rw [← HM.out, ← e]; simp; omega
      rw [el, List.append_assoc, e, HL.out] at L2 own2
      go_ret
      refine ⟨A2, c2, by rw [← el]; rfl, own2, L2, hb2⟩
theorem rsize_any (n : Int) (r : Int) (w : World) (h0 : 0 ≤ n) (h1 : n < 18446744073709551616) (hr : ((bts n.toNat).length : Int) = r) :
    Calls Try.prog 27 #[.int .u64 n] w fun e w' => e = .returned (.int .i64 r) ∧ Below w.heap.size w w' := by
  obtain ⟨x, rfl⟩ := Int.eq_ofNat_of_zero_le h0
  rw [Int.toNat_natCast] at hr
  subst hr
  have hten := bts_ten (n := x) (by omega)
  have HX : Hid (x < 18446744073709551616) := by show _ < _; omega
  obtain ⟨X, hX⟩ : ∃ X, X = (bts x).length := ⟨_, rfl⟩
  rw [← hX] at hten ⊢
  have H := Lib.hid hX
  clear hX h0 h1
  go_enter Try.func27, Try.ntmps27
  go_wp2_with fail
  refine (rput_any (l := []) x x X (bts x) rfl rfl (by rw [H.out]; omega) (Lies.nil _ _) HX.out (by decide)).mono ?_
  rintro e w1 ⟨A', c', rfl, -, L1, hb⟩
  go_wp2
  go_ret
  exact ⟨rfl, hb⟩
set_option maxRecDepth 100000 in
theorem rlay_any {A : Option Addr} {n c : Nat} {l : List Nat} {w : World} (xi si : Int) (x s m0 : Nat) (l' : List Nat) (hxi : xi = (x : Int)) (hsi : si = (s : Int)) (hs : s ≤ 8) (hl' : l ++ le s x = l') (hm0 : n + s = m0) (h : Lies w 1 A n c (byt l)) (hx : x < 18446744073709551616) (hn : n ≤ 140737488355300) :
    Calls Try.prog 25 #[.slice A n c, .int .u64 xi, .int .i64 si] w fun e w' => ∃ A' c', e = .returned (.slice A' m0 c') ∧ w'.ownsRow w.heap.size 5 1 (.slice A' m0 c') m0 (byt l') ∧ Lies w' 1 A' m0 c' (byt l') ∧ Below w.heap.size w w' := by
  subst hxi hsi hm0
  have HX := Lib.hid hx
  have HL := Lib.hid hl'
  clear hx hl'
  go_enter Try.func25, Try.ntmps25
  go_wp2_with (go_at_call 19; refine (own_any h (byt_one _) (by omega)).mono ?_; rintro e w1 ⟨v1, rfl, hown1, hb1⟩)
  go_loopw [7, 1, 8] (fun v y i wr => ∃ (k m : Nat), k ≤ s ∧ i = .int .i64 k ∧ y = .int .u64 m ∧ wr.ownsRow w.heap.size 5 1 v (n + k) (byt (l ++ le k x)) ∧ Below w.heap.size w wr ∧ Hid (m = x / 256 ^ k)) (fun _ _ i _ => s - (intOf i).toNat)
  case atStart => exact ⟨0, x, Nat.zero_le _, rfl, rfl, by simpa [le] using hown1, hb1, by simp [Hid]⟩
  case round =>
    obtain ⟨k, m, hk, rfl, rfl, hown, hb, hm⟩ := hrel
    have hw : IntKind.u64.wrap ((m : Int) / 256) = (m : Int) / 256 := by have := HX.out; have h2 := Nat.div_le_self x (256 ^ k); rw [← hm.out] at h2; rw [IntKind.wrap_u64]; omega
    by_cases hlt : k < s
    · go_wp2_with (at_builtin; refine wpList_app8 rfl (.tmp 16) (.tmp 20) rfl w.heap.size _ _ _ rfl (hown.alloc _) _ 1 1 [m % 256] rfl (lies_lit _ 1 rfl (by simp [byt]; try omega) rfl (by decide)) (by omega) (by have := hb.size; simp; omega) ?_; intro A2 c2 w2 own2 L2 bel2)
      have hb2 := bel2 _ _ (hb.alloc hb.size _) (Nat.le_refl _)
      have e : l ++ le k x ++ [m % 256] = l ++ le (k + 1) x := by rw [le_snoc, hm.out, List.append_assoc]
      rw [e] at own2
      clear bel2 hown hb L2 e
      go_wp2
      go_roundw
      case rel => exact ⟨k + 1, m / 256, by omega, by go_num, by go_num, own2, hb2, by show _ = _; rw [hm.out, Nat.div_div_eq_div_mul, Nat.pow_succ]⟩
      case measure => simp [intOf]; omega
    · obtain rfl : k = s := by omega
      rw [HL.out] at hown
      obtain ⟨A', c', rfl, L'⟩ := own_form hown
      go_wp2
      go_ret
      exact ⟨A', c', rfl, hown, L', hb⟩
end Go.Proofs.Ytfojelnnjhmggaa
