/-
  utf: the reference's May, one, Size.
-/
import Derived.Test.YtbphdojjddnljaaDoorPartsWalk
namespace Go.Proofs.YtbphdojjddnljaaDoor
open Go.RowKit
set_option linter.unusedSimpArgs false

theorem rmay_any {c : Int} {w : World} : Calls Tryd.prog 17 #[.int .i32 c] w fun e w' => e = .returned (.bool (mayI c)) ∧ w = w' := by
  have hm := mayI_iff c
  obtain ⟨r, hr⟩ : ∃ r, mayI c = r := ⟨_, rfl⟩
  rw [hr] at hm ⊢
  have key : (0 ≤ c ∧ c < 55296 ∧ r = true) ∨ (0 ≤ c ∧ 55296 ≤ c ∧ c ≤ 57343 ∧ r = false) ∨ (57343 < c ∧ c ≤ 1114111 ∧ r = true) ∨ (1114111 < c ∧ r = false) ∨ (c < 0 ∧ r = false) := by
    cases r with
    | true => have := hm.1 rfl; simp; omega
    | false =>
      have : ¬ (0 ≤ c ∧ c ≤ 1114111 ∧ (c < 55296 ∨ 57343 < c)) := fun h => by have := hm.2 h; cases this
      simp only [and_true, and_false, or_false, false_or]
      simp
      omega
  clear hm hr
  rcases key with ⟨h1, h2, rfl⟩ | ⟨h1, h2, h3, rfl⟩ | ⟨h1, h2, rfl⟩ | ⟨h1, rfl⟩ | ⟨h1, rfl⟩
  all_goals
    go_enter Tryd.func17, Tryd.ntmps17
    go_wp2
    go_ret
    exact ⟨by first | rfl | (congr; simp; omega), rfl⟩
theorem rmay_at {c : Int} {w : World} (r : Bool) (h : mayI c = r) : Calls Tryd.prog 17 #[.int .i32 c] w fun e w' => e = .returned (.bool r) ∧ w = w' := by
  subst h; exact rmay_any

theorem one_1 {c : Nat} (h : szN c = 1) : c < 128 ∧ one c = [c] := by
  unfold szN at h; unfold one
  split at h
  · rename_i h1; rw [if_pos h1]; exact ⟨h1, rfl⟩
  · split at h <;> (try split at h) <;> omega
theorem one_2 {c : Nat} (h : szN c = 2) : 128 ≤ c ∧ c < 2048 ∧ one c = [192 + c / 64, 128 + c % 64] := by
  unfold szN at h; unfold one
  split at h
  · omega
  · rename_i h1
    split at h
    · rename_i h2; rw [if_neg h1, if_pos h2]; exact ⟨by omega, h2, rfl⟩
    · split at h <;> omega
theorem one_3 {c : Nat} (h : szN c = 3) : 2048 ≤ c ∧ c < 65536 ∧ one c = [224 + c / 4096, 128 + c / 64 % 64, 128 + c % 64] := by
  unfold szN at h; unfold one
  split at h
  · omega
  · rename_i h1
    split at h
    · omega
    · rename_i h2
      split at h
      · rename_i h3; rw [if_neg h1, if_neg h2, if_pos h3]; exact ⟨by omega, h3, rfl⟩
      · omega
theorem one_4 {c : Nat} (h : szN c = 4) : 65536 ≤ c ∧ one c = [240 + c / 262144, 128 + c / 4096 % 64, 128 + c / 64 % 64, 128 + c % 64] := by
  unfold szN at h; unfold one
  split at h
  · omega
  · rename_i h1
    split at h
    · omega
    · rename_i h2
      split at h
      · omega
      · rename_i h3; rw [if_neg h1, if_neg h2, if_neg h3]; exact ⟨by omega, rfl⟩

def OnePost (c q : Nat) (w : World) (e : Ending) (w' : World) : Prop := ∃ g, e = .returned (.slice (some ⟨g, 0, none⟩) q q) ∧ Lies w' 1 (some ⟨g, 0, none⟩) q q (byt (one c)) ∧ Grow w w'
set_option maxRecDepth 100000 in
set_option maxHeartbeats 1000000 in
theorem rone_int {z : Int} {c q : Nat} {w : World} (hz : z = (c : Int)) (hm : mayI (c : Int) = true) (hq : szN c = q) : Calls Tryd.prog 23 #[.int .i32 z] w (OnePost c q w) := by
  have hc := may_le hm
  have hc1 : z ≤ 1114111 := by omega
  have hc0 : (0 : Int) ≤ z := by omega
  have hb := szN_bd c
  rw [hq] at hb
  have hq4 : q = 1 ∨ q = 2 ∨ q = 3 ∨ q = 4 := by omega
  clear hm hb
  rcases hq4 with rfl | rfl | rfl | rfl
  · obtain ⟨h1, ho⟩ := one_1 hq
    have HO := Lib.hid ho
    obtain ⟨x, hx⟩ : ∃ x, c = x := ⟨_, rfl⟩
    have ex : z = (x : Int) := by omega
    have HO2 := Lib.hid (show one c = [x] by rw [← hx]; exact ho)
    have wx : IntKind.u8.wrap (x : Int) = (x : Int) := by rw [IntKind.wrap_u8]; omega
    have j2 : z < 128 := by omega
    have HZ := Lib.hid hz
    clear ho hq hz h1 hc  
    go_enter Tryd.func23, Tryd.ntmps23
    go_wp2
    go_ret
    exact ⟨_, rfl, by rw [HO2.out]; exact lies_lit [x] 1 rfl rfl rfl (by decide), Grow.alloc _ _⟩
  · obtain ⟨h1, h2, ho⟩ := one_2 hq
    obtain ⟨x, hx⟩ : ∃ x, 192 + c / 64 = x := ⟨_, rfl⟩
    obtain ⟨y, hy⟩ : ∃ y, 128 + c % 64 = y := ⟨_, rfl⟩
    rw [hx, hy] at ho
    have HO := Lib.hid ho
    have ex : (192 : Int) + z / 64 = (x : Int) := by omega
    have ey : (128 : Int) + z % 64 = (y : Int) := by omega
    have wx : IntKind.u8.wrap (x : Int) = (x : Int) := by rw [IntKind.wrap_u8]; omega
    have wy : IntKind.u8.wrap (y : Int) = (y : Int) := by rw [IntKind.wrap_u8]; omega
    have j1 : (128 : Int) ≤ z := by omega
    have j2 : z < 2048 := by omega
    have HZ := Lib.hid hz
    clear ho hq hz h1 hc h2 hx hy
    go_enter Tryd.func23, Tryd.ntmps23
    go_wp2
    go_ret
    exact ⟨_, rfl, by rw [HO.out]; exact lies_lit [x, y] 2 rfl rfl rfl (by decide), Grow.alloc _ _⟩
  · obtain ⟨h1, h2, ho⟩ := one_3 hq
    obtain ⟨x, hx⟩ : ∃ x, 224 + c / 4096 = x := ⟨_, rfl⟩
    obtain ⟨y, hy⟩ : ∃ y, 128 + c / 64 % 64 = y := ⟨_, rfl⟩
    obtain ⟨t, ht⟩ : ∃ t, 128 + c % 64 = t := ⟨_, rfl⟩
    rw [hx, hy, ht] at ho
    have HO := Lib.hid ho
    have ex : (224 : Int) + z / 4096 = (x : Int) := by omega
    have ey : (128 : Int) + z / 64 % 64 = (y : Int) := by omega
    have et : (128 : Int) + z % 64 = (t : Int) := by omega
    have wx : IntKind.u8.wrap (x : Int) = (x : Int) := by rw [IntKind.wrap_u8]; omega
    have wy : IntKind.u8.wrap (y : Int) = (y : Int) := by rw [IntKind.wrap_u8]; omega
    have wt : IntKind.u8.wrap (t : Int) = (t : Int) := by rw [IntKind.wrap_u8]; omega
    have j1 : (2048 : Int) ≤ z := by omega
    have j2 : z < 65536 := by omega
    have HZ := Lib.hid hz
    clear ho hq hz h1 hc h2 hx hy ht
    go_enter Tryd.func23, Tryd.ntmps23
    go_wp2
    go_ret
    exact ⟨_, rfl, by rw [HO.out]; exact lies_lit [x, y, t] 3 rfl rfl rfl (by decide), Grow.alloc _ _⟩
  · obtain ⟨h1, ho⟩ := one_4 hq
    obtain ⟨x, hx⟩ : ∃ x, 240 + c / 262144 = x := ⟨_, rfl⟩
    obtain ⟨y, hy⟩ : ∃ y, 128 + c / 4096 % 64 = y := ⟨_, rfl⟩
    obtain ⟨t, ht⟩ : ∃ t, 128 + c / 64 % 64 = t := ⟨_, rfl⟩
    obtain ⟨u, hu⟩ : ∃ u, 128 + c % 64 = u := ⟨_, rfl⟩
    rw [hx, hy, ht, hu] at ho
    have HO := Lib.hid ho
    have ex : (240 : Int) + z / 262144 = (x : Int) := by omega
    have ey : (128 : Int) + z / 4096 % 64 = (y : Int) := by omega
    have et : (128 : Int) + z / 64 % 64 = (t : Int) := by omega
    have eu : (128 : Int) + z % 64 = (u : Int) := by omega
    have wx : IntKind.u8.wrap (x : Int) = (x : Int) := by rw [IntKind.wrap_u8]; omega
    have wy : IntKind.u8.wrap (y : Int) = (y : Int) := by rw [IntKind.wrap_u8]; omega
    have wt : IntKind.u8.wrap (t : Int) = (t : Int) := by rw [IntKind.wrap_u8]; omega
    have wu : IntKind.u8.wrap (u : Int) = (u : Int) := by rw [IntKind.wrap_u8]; omega
    have j1 : (65536 : Int) ≤ z := by omega
    have HZ := Lib.hid hz
    clear ho hq hz h1 hc  hx hy ht hu
    go_enter Tryd.func23, Tryd.ntmps23
    go_wp2
    go_ret
    exact ⟨_, rfl, by rw [HO.out]; exact lies_lit [x, y, t, u] 4 rfl rfl rfl (by decide), Grow.alloc _ _⟩
theorem rone_any {c q : Nat} {w : World} (hm : mayI (c : Int) = true) (hq : szN c = q) : Calls Tryd.prog 23 #[.int .i32 (c : Int)] w (OnePost c q w) := rone_int rfl hm hq
theorem rsize_any {c : Int} {w : World} : Calls Tryd.prog 19 #[.int .i32 c] w fun e w' => e = .returned (.int .i64 (sizeI c)) ∧ Grow w w' := by
  cases h : mayI c with
  | true =>
    have h0 := (mayI_iff c).1 h
    obtain ⟨n, rfl⟩ := Int.eq_ofNat_of_zero_le h0.1
    have e : sizeI (n : Int) = szN n := by unfold sizeI; rw [if_pos h]; simp
    rw [e]
    obtain ⟨q, hq⟩ : ∃ q, szN n = q := ⟨_, rfl⟩
    rw [hq]
    have HM := Lib.hid h; have HQ := Lib.hid hq
    clear h h0 e hq
    go_enter Tryd.func19, Tryd.ntmps19
    go_wp2_with fail
    refine (rmay_at true HM.out).mono ?_
    rintro e w1 ⟨rfl, rfl⟩
    go_wp2_with fail
    refine (rone_any HM.out HQ.out).mono ?_
    rintro e w1 ⟨g, rfl, L, g1⟩
    have G1 := Lib.hid g1
    clear L g1
    go_wp2
    go_ret
    exact ⟨rfl, G1.out⟩
  | false =>
    have e : sizeI c = 0 := by unfold sizeI; rw [if_neg (by rw [h]; decide)]
    rw [e]
    have HM := Lib.hid h
    clear h e
    go_enter Tryd.func19, Tryd.ntmps19
    go_wp2_with fail
    refine (rmay_at false HM.out).mono ?_
    rintro e w1 ⟨rfl, rfl⟩
    go_wp2
    go_ret
    exact ⟨rfl, Grow.refl _⟩
end Go.Proofs.YtbphdojjddnljaaDoor

