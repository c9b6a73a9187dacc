/-
  num: the contracts of the functions that make bytes: Equal, Clone, joined, Own, Put, laid, Put4, Put8, PutInt, the references'.
-/
import Derived.Test.YtfojelnnjhmggaaLeaf
namespace Go.Proofs.Ytfojelnnjhmggaa
open Go.RowKit

theorem info_u8 : (Try.prog.info? 5).map (fun i => (i.zero, i.size, i.bytes)) = some (some (.int .u8 0), 1, 1) := by kernel_rfl

theorem equal_any {A B : Option Addr} {n c m d : Nat} {a b : List Nat} {w : World} (ha : Lies w 1 A n c (byt a)) (hb : Lies w 1 B m d (byt b)) (h1 : ∀ x ∈ a, x < 256) (h2 : ∀ x ∈ b, x < 256) :
    Calls Try.prog 18 #[.slice A n c, .slice B m d] w fun e w' => e = .returned (.bool (decide (a = b))) ∧ w = w' := by
  have e1 := run_convert_lies (P := Try.prog) ha 28 5 9 Try.underlying28 Try.underlying5 Try.underlying9
  have e2 := run_convert_lies (P := Try.prog) hb 28 5 9 Try.underlying28 Try.underlying5 Try.underlying9
  have e3 := str_eq h1 h2
  go_enter Try.func18, Try.ntmps18
  go_wp2
  go_ret
  exact ⟨by rw [← e3]; rfl, rfl⟩

theorem clone_any {A : Option Addr} {n c : Nat} {l : List Value} {w : World} (h : Lies w 1 A n c l) (h1 : ∀ u ∈ l, u.oneCell' = true) (hn : n ≤ 140737488355328) :
    Calls Try.prog 36 #[.slice A n c] w fun e w' => ∃ v, e = .returned v ∧ w'.ownsRow w.heap.size 5 1 v n l ∧ Below w.heap.size w w' := by
  have q : ∀ (w : World) (a : Option Addr) (n c n' c' : Nat), (binOp .eql 28 (.slice a n c) (.slice none n' c')).run Try.prog w = .ok (.bool a.isNone) w := fun w a n c n' c' => Lib.run_eql_slice_nil w _ _ a n c n' c' Try.underlying28
  obtain ⟨i0, hi, hz0, hz1, hz2⟩ := info_parts info_u8
  rcases A with _ | ad
  · obtain rfl := h.none_ rfl
    obtain rfl := h.nilc rfl
    have hl : l = [] := List.eq_nil_of_length_eq_zero (by simpa using h.len)
    subst hl
    go_enter Try.func36, Try.ntmps36
    go_wp2
    go_ret
    exact ⟨_, rfl, World.ownsRow_nil _ _ _ _, Below.refl _ _⟩
  · go_enter Try.func36, Try.ntmps36
    go_wp2_with (at_builtin; refine wpList_append_lies _ rfl (.tmp 5) (.tmp 6) _ rfl w.heap.size 5 i0 (.int .u8 0) 1 1 Try.underlying28 hi hz0 hz1 hz2 rfl (by decide) _ 0 [] rfl (World.ownsRow_made w #[] 0 (Nat.le_refl _) (by simp [maxLen]) rfl) (some ad) n c l rfl (h.alloc _) h1 (by simp only [maxLen]; omega) (by omega) (by simp) ?_; intro v' w1 hown' _ hbel)
    go_ret
    exact ⟨_, rfl, by simpa using hown', hbel _ _ ((Below.refl _ _).alloc (Nat.le_refl _) _) (Nat.le_refl _)⟩

theorem joined_any {A B : Option Addr} {n c m d : Nat} {l r : List Value} {w : World} (h : Lies w 1 A n c l) (k : Lies w 1 B m d r) (h1 : ∀ u ∈ l, u.oneCell' = true) (h2 : ∀ u ∈ r, u.oneCell' = true) (hn : n + m ≤ 140737488355328) :
    Calls Try.prog 32 #[.slice A n c, .slice B m d] w fun e w' => ∃ v, e = .returned v ∧ w'.ownsRow w.heap.size 5 1 v (n + m) (l ++ r) ∧ Below w.heap.size w w' := by
  obtain ⟨i0, hi, hz0, hz1, hz2⟩ := info_parts info_u8
  go_enter Try.func32, Try.ntmps32
  go_wp2_with (first
    | (go_at_call 36; refine (clone_any h h1 (by omega)).mono ?_; rintro e w1 ⟨v1, rfl, hown, hb⟩)
    | (at_builtin; refine wpList_append_lies _ rfl (.tmp 6) (.tmp 7) _ rfl w.heap.size 5 i0 (.int .u8 0) 1 1 Try.underlying28 hi hz0 hz1 hz2 rfl (by decide) _ n l rfl hown B m d r rfl (k.below hb (Nat.le_refl _)) h2 (by simp only [maxLen]; omega) (by omega) hb.size ?_; intro v2 w2 hown2 _ hbel))
  go_ret
  exact ⟨_, rfl, hown2, hbel _ _ hb (Nat.le_refl _)⟩

theorem own_any {A : Option Addr} {n c : Nat} {l : List Value} {w : World} (h : Lies w 1 A n c l) (h1 : ∀ u ∈ l, u.oneCell' = true) (hn : n ≤ 140737488355328) :
    Calls Try.prog 19 #[.slice A n c] w fun e w' => ∃ v, e = .returned v ∧ w'.ownsRow w.heap.size 5 1 v n l ∧ Below w.heap.size w w' := by
  obtain ⟨i0, hi, hz0, hz1, hz2⟩ := info_parts info_u8
  go_enter Try.func19, Try.ntmps19
  go_wp2_with (at_builtin; refine wpList_append_lies _ rfl (.tmp 4) (.tmp 5) _ rfl w.heap.size 5 i0 (.int .u8 0) 1 1 Try.underlying28 hi hz0 hz1 hz2 rfl (by decide) _ 0 [] rfl (World.ownsRow_nil _ _ _ _) A n c l rfl h h1 (by simp only [maxLen]; omega) (by omega) (Nat.le_refl _) ?_; intro v2 w2 hown2 _ hbel)
  go_ret
  exact ⟨_, rfl, by simpa using hown2, hbel _ _ (Below.refl _ _) (Nat.le_refl _)⟩

set_option maxRecDepth 100000 in
theorem put_any {A : Option Addr} {n c : Nat} {l : List Nat} {x : Nat} {w : World} (h : Lies w 1 A n c (byt l)) (hx : x < 18446744073709551616) (hn : n ≤ 140737488355300) :
    Calls Try.prog 13 #[.slice A n c, .int .u64 x] w fun e w' => ∃ v, e = .returned v ∧ w'.ownsRow w.heap.size 5 1 v (n + (bts x).length) (byt (l ++ bts x)) ∧ Below w.heap.size w w' := by
  obtain ⟨i0, hi, hz0, hz1, hz2⟩ := info_parts info_u8
  have hten := bts_ten hx
  have HX := Lib.hid hx
  clear hx
  go_enter Try.func13, Try.ntmps13
  go_wp2_with (go_at_call 32; refine (joined_any h (Lies.nil _ _) (byt_one _) (fun _ h => by cases h) (by omega)).mono ?_; rintro e w1 ⟨v1, rfl, hown1, hb1⟩)
  go_loopw [0, 1] (fun v i wr => ∃ (done : List Nat) (m : Nat), i = .int .u64 m ∧ wr.ownsRow w.heap.size 5 1 v (n + done.length) (byt (l ++ done)) ∧ Below w.heap.size w wr ∧ Hid (done ++ bts m = bts x ∧ m < 18446744073709551616)) (fun _ i _ => (intOf i).toNat)
  case atStart => exact ⟨[], x, rfl, by simpa using hown1, hb1, ⟨rfl, HX.out⟩⟩
  case round =>
    obtain ⟨done, m, rfl, hown, hb, hd⟩ := hrel
    have hl : done.length ≤ 10 := by have := congrArg List.length hd.out.1; rw [List.length_append] at this; omega
    by_cases hlt : 128 ≤ m
    · have ho : Hid (bits .or .u8 ((m : Int) % 256) 128 = ((m % 128 + 128 : Nat) : Int)) := by
        show _ = _
        rw [Lib.u8_or128_any _ (by omega) (by omega)]; omega
      go_wp2_with (at_builtin; refine wpList_append_lies _ rfl (.tmp 11) (.tmp 15) _ rfl w.heap.size 5 i0 (.int .u8 0) 1 1 Try.underlying28 hi hz0 hz1 hz2 rfl (by decide) _ _ _ rfl (hown.alloc _) _ 1 1 _ rfl (Lies.new _ _ _ 1 1 (by decide) (by decide) rfl) (by intro u hu; simp at hu; subst hu; rfl) (by simp only [maxLen]; omega) (by omega) (by have := hb.size; simp; omega) ?_; intro v2 w2 hown2 _ hbel)
      have hb2 := hbel _ _ (hb.alloc hb.size _) (Nat.le_refl _)
      have hown3 := own_snoc _ hown2 ho.out
      clear hown2 hown hbel hb ho
      go_wp2
      go_roundw
      case rel => exact ⟨done ++ [m % 128 + 128], m / 128, by go_num, by simpa [Nat.add_assoc] using hown3, hb2, ⟨by have := hd.out; rw [bts_big hlt (by have := pow64; omega)] at this; simpa using this.1, by have := hd.out.2; omega⟩⟩
      case measure => simp [intOf]; omega
    · go_wp2_with (at_builtin; refine wpList_append_lies _ rfl (.tmp 17) (.tmp 20) _ rfl w.heap.size 5 i0 (.int .u8 0) 1 1 Try.underlying28 hi hz0 hz1 hz2 rfl (by decide) _ _ _ rfl (hown.alloc _) _ 1 1 _ rfl (Lies.new _ _ _ 1 1 (by decide) (by decide) rfl) (by intro u hu; simp at hu; subst hu; rfl) (by simp only [maxLen]; omega) (by omega) (by have := hb.size; simp; omega) ?_; intro v2 w2 hown2 _ hbel)
      have hb2 := hbel _ _ (hb.alloc hb.size _) (Nat.le_refl _)
      have hown3 := own_snoc m hown2 (by omega)
      have e := hd.out.1
      rw [bts_small (by omega)] at e
      have el : done.length + 1 = (bts x).length := by rw [← e]; simp
      go_ret
      refine ⟨_, rfl, ?_, hb2⟩
      rw [← el, ← e, ← List.append_assoc, ← Nat.add_assoc]
      exact hown3
end Go.Proofs.Ytfojelnnjhmggaa
