/-
  utf: the law's own wakes.
-/
import Derived.Test.YtbphdojjddnljaaDoorDec
namespace Go.Proofs.YtbphdojjddnljaaDoor
open Go.RowKit
set_option linter.unusedSimpArgs false

theorem lies_chars {w : World} {e : TypeId} {cs : Array Value} {g : Nat} (l : List Int) (n : Nat) (hg : g = w.heap.size) (h : cs.toList = chs l) (hn : l.length = n) (hb : n ≤ 9223372036854775807) :
    Lies (w.alloc (.cells cs e)) 1 (some ⟨g, 0, none⟩) n n (chs l) := by
  subst hg
  rw [← h]
  exact Lies.new w e cs n n (Nat.le_refl _) hb (by rw [h, chs_len]; omega)
theorem enc_yes {A : Option Addr} {n cap : Nat} (zs : List Int) (t : List Nat) {w : World} (hT : Tab w) (hL : Lies w 1 A n cap (chs zs)) (ht : valid t) (hzs : zs = upN t) (hn : n * 4 ≤ 140737488355324) :
    Calls Tryd.prog 9 #[.slice A n cap] w fun e w' => ∃ A' n' c', e = .returned (.tuple #[.slice A' n' c', .int .i64 0]) ∧ w'.ownsRow w.heap.size 5 1 (.slice A' n' c') n' (byt (encL t)) ∧ Grow w w' := by
  refine (enc_any hT hL ht (.inl hzs) hn).mono ?_
  rintro e w' ⟨A', n', c', h1, h2, h3⟩
  rcases h1 with ⟨_, h1⟩ | ⟨h1, _⟩
  · exact ⟨A', n', c', h1, h2 hzs, h3⟩
  · exact absurd hzs h1
theorem enc_no {A : Option Addr} {n cap : Nat} (zs : List Int) (t : List Nat) (x : Int) (r : List Int) {w : World} (hT : Tab w) (hL : Lies w 1 A n cap (chs zs)) (ht : valid t) (hzs : zs = upN t ++ x :: r) (hx : mayI x = false) (hn : n * 4 ≤ 140737488355324) :
    Calls Tryd.prog 9 #[.slice A n cap] w fun e w' => e = .returned (.tuple #[.slice none 0 0, .int .i64 21]) ∧ Grow w w' := by
  refine (enc_any hT hL ht (.inr ⟨x, r, hzs, hx⟩) hn).mono ?_
  rintro e w' ⟨A', n', c', h1, h2, h3⟩
  rcases h1 with ⟨h1, _⟩ | ⟨_, _, _, _, h1⟩
  · rw [hzs] at h1
    have := congrArg List.length h1
    simp at this
  · exact ⟨h1, h3⟩
theorem whole_at {A : Option Addr} {n cap : Nat} (l : List Nat) (R : Int) {w : World} (hR : (readN l : Int) = R) (hT : Tab w) (hL : Lies w 1 A n cap (byt l)) (hl : ∀ y ∈ l, y < 256) (hn : n * 4 ≤ 140737488355328) :
    Calls Tryd.prog 14 #[.slice A n cap] w fun e w' => e = .returned (.int .i64 R) ∧ Grow w w' := by
  subst hR; exact whole_any hT hL hl hn
theorem decode_at {A : Option Addr} {n cap : Nat} (l : List Nat) (R : Int) (t : List Nat) {w : World} (hR : (decE l : Int) = R) (ht : decT l = t) (hT : Tab w) (hL : Lies w 1 A n cap (byt l)) (hl : ∀ y ∈ l, y < 256) (hn : n * 4 ≤ 140737488355328) :
    Calls Tryd.prog 11 #[.slice A n cap] w fun e w' => ∃ A' m c, e = .returned (.tuple #[.slice A' m c, .int .i64 R]) ∧ w'.ownsRow w.heap.size 24 1 (.slice A' m c) m (chs (upN t)) ∧ Grow w w' := by
  subst hR ht; exact decode_any hT hL hl hn
set_option maxRecDepth 100000 in
set_option maxHeartbeats 2000000 in
theorem wakes_any {w : World} (hT : Tab w) : Calls Tryd.prog 20 #[] w fun e w' => e = .returned (.bool true) ∧ Grow w w' := by
  have kc := conv_const
  have i0 : ∀ w : World, (Instr.index 55 (.agg #[.string ⟨#[192, 128]⟩, .string ⟨#[237, 160, 128]⟩, .string ⟨#[244, 144, 128, 128]⟩, .string ⟨#[226, 130]⟩]) (.int .i64 0)).run Tryd.prog w = .ok (.string ⟨#[192, 128]⟩) w := fun _ => by kernel_rfl
  have i1 : ∀ w : World, (Instr.index 55 (.agg #[.string ⟨#[192, 128]⟩, .string ⟨#[237, 160, 128]⟩, .string ⟨#[244, 144, 128, 128]⟩, .string ⟨#[226, 130]⟩]) (.int .i64 1)).run Tryd.prog w = .ok (.string ⟨#[237, 160, 128]⟩) w := fun _ => by kernel_rfl
  have i2 : ∀ w : World, (Instr.index 55 (.agg #[.string ⟨#[192, 128]⟩, .string ⟨#[237, 160, 128]⟩, .string ⟨#[244, 144, 128, 128]⟩, .string ⟨#[226, 130]⟩]) (.int .i64 2)).run Tryd.prog w = .ok (.string ⟨#[244, 144, 128, 128]⟩) w := fun _ => by kernel_rfl
  have i3 : ∀ w : World, (Instr.index 55 (.agg #[.string ⟨#[192, 128]⟩, .string ⟨#[237, 160, 128]⟩, .string ⟨#[244, 144, 128, 128]⟩, .string ⟨#[226, 130]⟩]) (.int .i64 3)).run Tryd.prog w = .ok (.string ⟨#[226, 130]⟩) w := fun _ => by kernel_rfl
  have HT := Lib.hid hT
  clear hT
  go_enter Tryd.func20, Tryd.ntmps20
  go_wp2_with fail
  refine (enc_yes [65, 2047, 8364, 66376] [65, 2047, 8364, 66376] (HT.out.alloc _) (lies_chars _ 4 rfl rfl rfl (by decide)) (by unfold valid; decide) rfl (by decide)).mono ?_
  have he : encL [65, 2047, 8364, 66376] = [65, 223, 191, 226, 130, 172, 240, 144, 141, 136] := by decide
  rw [he]
  rintro e w1 ⟨A1, n1, c1, rfl, own1, g1⟩
  have g01 := (Grow.alloc w (.cells #[.int .i32 65, .int .i32 2047, .int .i32 8364, .int .i32 66376] 24)).trans g1
  have L1 := Lies.of_own own1
  have HG := Lib.hid g01
  clear own1 g1 g01 he
  have v1 := conv_bytes L1
  have e3 : ((str [65, 223, 191, 226, 130, 172, 240, 144, 141, 136]).toList == [65, 223, 191, 226, 130, 172, 240, 144, 141, 136]) = true := by rw [ByteArray.toList_eq, str_list]; decide
  go_wp2_with fail
  refine (whole_at [65, 226, 130] 1 (by decide) ((HT.out.same HG.out).alloc _) (lies_mark _ 3 rfl rfl rfl (by decide) (by decide)) (by decide) (by decide)).mono ?_
  rintro e w2 ⟨rfl, g2⟩
  have HG2 := Lib.hid ((HG.out.trans (Grow.alloc _ _)).trans g2)
  clear g2 v1 L1 e3
  go_wp2
  go_loopw [26] (fun i wr => ∃ k : Nat, k ≤ 4 ∧ i = .int .i64 k ∧ Grow w wr) (fun i _ => 4 - (intOf i).toNat)
  case atStart => exact ⟨0, by omega, rfl, HG2.out⟩
  case round =>
    obtain ⟨k, hk, rfl, hg⟩ := hrel
    match k, hk with
    | 0, _ =>
      rw [show ((0 : Nat) : Int) = 0 from rfl]
      obtain ⟨c9, w9, q1, L9, g9⟩ := conv_string wr ⟨#[192, 128]⟩ [192, 128] 2 rfl (by decide) rfl (by decide)
      have H9 := Lib.hid L9; have G9 := Lib.hid (hg.trans g9)
      clear L9 g9
      go_wp2_with fail
      refine (decode_at [192, 128] 21 [] (by decide) (by decide) (HT.out.same G9.out) H9.out (by decide) (by decide)).mono ?_
      rintro e w10 ⟨A10, m10, c10, rfl, -, g10⟩
      have G10 := Lib.hid (G9.out.trans g10)
      clear g10 q1
      go_wp2
      go_roundw
      case rel => exact ⟨1, by omega, rfl, G10.out⟩
      case measure => simp [intOf]
    | 1, _ =>
      rw [show ((1 : Nat) : Int) = 1 from rfl]
      obtain ⟨c9, w9, q1, L9, g9⟩ := conv_string wr ⟨#[237, 160, 128]⟩ [237, 160, 128] 3 rfl (by decide) rfl (by decide)
      have H9 := Lib.hid L9; have G9 := Lib.hid (hg.trans g9)
      clear L9 g9
      go_wp2_with fail
      refine (decode_at [237, 160, 128] 21 [] (by decide) (by decide) (HT.out.same G9.out) H9.out (by decide) (by decide)).mono ?_
      rintro e w10 ⟨A10, m10, c10, rfl, -, g10⟩
      have G10 := Lib.hid (G9.out.trans g10)
      clear g10 q1
      go_wp2
      go_roundw
      case rel => exact ⟨2, by omega, rfl, G10.out⟩
      case measure => simp [intOf]
    | 2, _ =>
      rw [show ((2 : Nat) : Int) = 2 from rfl]
      obtain ⟨c9, w9, q1, L9, g9⟩ := conv_string wr ⟨#[244, 144, 128, 128]⟩ [244, 144, 128, 128] 4 rfl (by decide) rfl (by decide)
      have H9 := Lib.hid L9; have G9 := Lib.hid (hg.trans g9)
      clear L9 g9
      go_wp2_with fail
      refine (decode_at [244, 144, 128, 128] 21 [] (by decide) (by decide) (HT.out.same G9.out) H9.out (by decide) (by decide)).mono ?_
      rintro e w10 ⟨A10, m10, c10, rfl, -, g10⟩
      have G10 := Lib.hid (G9.out.trans g10)
      clear g10 q1
      go_wp2
      go_roundw
      case rel => exact ⟨3, by omega, rfl, G10.out⟩
      case measure => simp [intOf]
    | 3, _ =>
      rw [show ((3 : Nat) : Int) = 3 from rfl]
      obtain ⟨c9, w9, q1, L9, g9⟩ := conv_string wr ⟨#[226, 130]⟩ [226, 130] 2 rfl (by decide) rfl (by decide)
      have H9 := Lib.hid L9; have G9 := Lib.hid (hg.trans g9)
      clear L9 g9
      go_wp2_with fail
      refine (decode_at [226, 130] 21 [] (by decide) (by decide) (HT.out.same G9.out) H9.out (by decide) (by decide)).mono ?_
      rintro e w10 ⟨A10, m10, c10, rfl, -, g10⟩
      have G10 := Lib.hid (G9.out.trans g10)
      clear g10 q1
      go_wp2
      go_roundw
      case rel => exact ⟨4, by omega, rfl, G10.out⟩
      case measure => simp [intOf]
    | 4, _ =>
      go_wp2
      go_ret
      exact ⟨rfl, hg⟩
end Go.Proofs.YtbphdojjddnljaaDoor

