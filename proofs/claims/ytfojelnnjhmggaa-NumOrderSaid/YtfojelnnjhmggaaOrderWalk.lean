/-
  num: the walk of NumOrder.
-/
import Derived.Test.YtfojelnnjhmggaaAwake
namespace Go.Proofs.Ytfojelnnjhmggaa
open Go.RowKit

def hasp (l p : List Nat) : Bool := decide (p.length ≤ l.length) && decide (l.take p.length = p)
theorem hasprefix_any {A B : Option Addr} {n c m d : Nat} {l p : List Nat} {w : World} (r : Bool) (hr : hasp l p = r) (h : Lies w 1 A n c (byt l)) (k : Lies w 1 B m d (byt p)) (h1 : ∀ x ∈ l, x < 256) (h2 : ∀ x ∈ p, x < 256) :
    Calls Try.prog 15 #[.slice A n c, .slice B m d] w fun e w' => e = .returned (.bool r) ∧ w = w' := by
  have hl := h.bytes_len
  have hp := k.bytes_len
  have b1 := h.le; have b2 := k.le; have b3 := h.big; have b4 := k.big
  by_cases hmn : m ≤ n
  · have e : hasp l p = decide (l.take m = p) := by simp [hasp, hl, hp, hmn]
    rw [e] at hr
    have ht := h.takeb m hmn
    have HR := Lib.hid hr; have HL := Lib.hid hl; have HP := Lib.hid hp
    clear hr hl hp e
    go_enter Try.func15, Try.ntmps15
    go_wp2_with fail
    refine (equal_at (l.take m) p r ht k (fun x hx => h1 x (List.mem_of_mem_take hx)) h2 HR.out).mono ?_
    rintro e w1 ⟨rfl, rfl⟩
    go_wp2
    go_ret
    exact ⟨rfl, rfl⟩
  · have e : hasp l p = false := by simp [hasp, hl, hp, hmn]
    rw [e] at hr
    subst hr
    clear e hl hp
    go_enter Try.func15, Try.ntmps15
    go_wp2_with fail
    go_ret
    exact ⟨rfl, rfl⟩
theorem hasp_bts {a b : Nat} (ha : a < 18446744073709551616) (hb : b < 18446744073709551616) (h : a ≠ b) : hasp (bts a) (bts b) = false := by
  cases e : hasp (bts a) (bts b) with
  | false => rfl
  | true =>
    exfalso
    unfold hasp at e
    rw [Bool.and_eq_true, decide_eq_true_eq, decide_eq_true_eq] at e
    have := bts_prefix (r := (bts a).drop (bts b).length) hb ha (by conv => lhs; rw [← List.take_append_drop (bts b).length (bts a), e.2])
    exact h this.symm

set_option maxRecDepth 100000 in
set_option maxHeartbeats 2000000 in
theorem order_any {a b : Nat} {w : World} (ha : a < 18446744073709551616) (hb : b < 18446744073709551616) :
    Calls Try.prog 5 #[.int .u64 a, .int .u64 b] w fun e w' => e = .returned (.bool true) ∧ Below w.heap.size w w' := by
  have hx := bts_ten ha
  have hxp := bts_pos a (by have := pow64; omega)
  have hm : a ≤ b → (bts a).length ≤ (bts b).length := fun h => bts_mono h (by have := pow64; omega)
  have hab := hasp_bts ha hb
  have hba := hasp_bts hb ha
  have b1 := bts_bytes a (by have := pow64; omega)
  have b2 := bts_bytes b (by have := pow64; omega)
  have hshort := short_bts a ha
  obtain ⟨X, hX⟩ : ∃ X, X = (bts a).length := ⟨_, rfl⟩
  obtain ⟨Y, hY⟩ : ∃ Y, Y = (bts b).length := ⟨_, rfl⟩
  rw [← hX] at hx hxp
  rw [← hX, ← hY] at hm
  rw [← hX] at hshort
  have HX := Lib.hid hX; have HY := Lib.hid hY; have HA := Lib.hid ha; have HB := Lib.hid hb; have HM := Lib.hid hm; have HAB := Lib.hid hab; have HBA := Lib.hid hba; have B1 := Lib.hid b1; have B2 := Lib.hid b2; have HS := Lib.hid hshort
  clear hX hY ha hb hm hab hba b1 b2 hshort
  go_enter Try.func5, Try.ntmps5
  go_wp2_with fail
  refine (put_at (l := []) a a X (bts a) rfl rfl (by rw [HX.out]; omega) (Lies.nil _ _) HA.out (by decide)).mono ?_
  rintro e w1 ⟨A1, c1, rfl, -, L1, hb1⟩
  go_wp2_with fail
  refine (put_at (l := []) b b Y (bts b) rfl rfl (by rw [HY.out]; omega) (Lies.nil _ _) HB.out (by decide)).mono ?_
  rintro e w2 ⟨A2, c2, rfl, -, L2, hb2⟩
  have L1 := L1.below hb2 (Nat.le_refl _)
  have hbel : Below w.heap.size w w2 := hb1.trans (hb2.mono hb1.size)
  clear hb1 hb2
  have hx0 : ((X : Int) == 0) = false := by simp; omega
  have hx10 : decide ((10 : Int) < X) = false := by simp; omega
  rcases Nat.lt_trichotomy a b with hlt | heq | hgt
  · have hXY := HM.out (by omega)
    have hd : decide (Y < X) = false := by simp; omega
    have hne : ((a : Int) == b) = false := by simp; omega
    have hne2 : ((a : Int) != b) = true := by simp; omega
    go_wp2_with fail
    refine (hasprefix_any false (HAB.out (by omega)) L1 L2 B1.out B2.out).mono ?_
    rintro e w3 ⟨rfl, rfl⟩
    go_wp2_with fail
    refine (hasprefix_any false (HBA.out (by omega)) L2 L1 B2.out B1.out).mono ?_
    rintro e w3 ⟨rfl, rfl⟩
    go_wp2_with fail
    go_loop [52] (fun i => ∃ k : Nat, k ≤ X ∧ i = .int .i64 k) (fun i => X - (intOf i).toNat)
    case atStart => exact ⟨0, Nat.zero_le _, rfl⟩
    case round =>
      obtain ⟨k, hk, rfl⟩ := hrel
      by_cases hkl : k < X
      · have hc2 := L1.takeb k (by omega)
        have hb2 : ∀ c ∈ (bts a).take k, c < 256 := fun c hc => B1.out c (List.mem_of_mem_take hc)
        have hs := HS.out k hkl
        have hz := get_err (l := (bts a).take k) (by rw [hs]; decide)
        have HS1 := Lib.hid hs; have HZ := Lib.hid hz; have HB2 := Lib.hid hb2
        have hle1 := L1.le
        clear hs hz hb2
        go_wp2_with fail
        refine (get_at _ 0 0 4 hc2 HB2.out (by rw [HZ.out.1]; rfl) (by rw [HZ.out.2]; rfl) (by rw [HS1.out]; rfl)).mono ?_
        rintro e w1 ⟨rfl, rfl⟩
        go_wp2
        go_round
        case rel => exact ⟨k + 1, by omega, by go_num⟩
        case measure => simp [intOf]; omega
      · obtain rfl : k = X := by omega
        go_wp2_with fail
        refine awake_any.mono ?_
        rintro e w4 ⟨rfl, hb1⟩
        go_wp2
        go_ret
        exact ⟨rfl, hbel.trans (hb1.mono hbel.size)⟩
  · have hXY := HM.out (by omega)
    have hXY2 : X = Y := by rw [HX.out, HY.out, heq]
    subst hXY2
    subst heq
    go_wp2_with fail
    go_loop [52] (fun i => ∃ k : Nat, k ≤ X ∧ i = .int .i64 k) (fun i => X - (intOf i).toNat)
    case atStart => exact ⟨0, Nat.zero_le _, rfl⟩
    case round =>
      obtain ⟨k, hk, rfl⟩ := hrel
      by_cases hkl : k < X
      · have hc2 := L1.takeb k (by omega)
        have hb2 : ∀ c ∈ (bts a).take k, c < 256 := fun c hc => B1.out c (List.mem_of_mem_take hc)
        have hs := HS.out k hkl
        have hz := get_err (l := (bts a).take k) (by rw [hs]; decide)
        have HS1 := Lib.hid hs; have HZ := Lib.hid hz; have HB2 := Lib.hid hb2
        have hle1 := L1.le
        clear hs hz hb2
        go_wp2_with fail
        refine (get_at _ 0 0 4 hc2 HB2.out (by rw [HZ.out.1]; rfl) (by rw [HZ.out.2]; rfl) (by rw [HS1.out]; rfl)).mono ?_
        rintro e w1 ⟨rfl, rfl⟩
        go_wp2
        go_round
        case rel => exact ⟨k + 1, by omega, by go_num⟩
        case measure => simp [intOf]; omega
      · obtain rfl : k = X := by omega
        go_wp2_with fail
        refine awake_any.mono ?_
        rintro e w4 ⟨rfl, hb1⟩
        go_wp2
        go_ret
        exact ⟨rfl, hbel.trans (hb1.mono hbel.size)⟩
  · have hne : ((a : Int) == b) = false := by simp; omega
    go_wp2_with fail
    refine (hasprefix_any false (HAB.out (by omega)) L1 L2 B1.out B2.out).mono ?_
    rintro e w3 ⟨rfl, rfl⟩
    go_wp2_with fail
    refine (hasprefix_any false (HBA.out (by omega)) L2 L1 B2.out B1.out).mono ?_
    rintro e w3 ⟨rfl, rfl⟩
    go_wp2_with fail
    go_loop [52] (fun i => ∃ k : Nat, k ≤ X ∧ i = .int .i64 k) (fun i => X - (intOf i).toNat)
    case atStart => exact ⟨0, Nat.zero_le _, rfl⟩
    case round =>
      obtain ⟨k, hk, rfl⟩ := hrel
      by_cases hkl : k < X
      · have hc2 := L1.takeb k (by omega)
        have hb2 : ∀ c ∈ (bts a).take k, c < 256 := fun c hc => B1.out c (List.mem_of_mem_take hc)
        have hs := HS.out k hkl
        have hz := get_err (l := (bts a).take k) (by rw [hs]; decide)
        have HS1 := Lib.hid hs; have HZ := Lib.hid hz; have HB2 := Lib.hid hb2
        have hle1 := L1.le
        clear hs hz hb2
        go_wp2_with fail
        refine (get_at _ 0 0 4 hc2 HB2.out (by rw [HZ.out.1]; rfl) (by rw [HZ.out.2]; rfl) (by rw [HS1.out]; rfl)).mono ?_
        rintro e w1 ⟨rfl, rfl⟩
        go_wp2
        go_round
        case rel => exact ⟨k + 1, by omega, by go_num⟩
        case measure => simp [intOf]; omega
      · obtain rfl : k = X := by omega
        go_wp2_with fail
        refine awake_any.mono ?_
        rintro e w4 ⟨rfl, hb1⟩
        go_wp2
        go_ret
        exact ⟨rfl, hbel.trans (hb1.mono hbel.size)⟩
end Go.Proofs.Ytfojelnnjhmggaa
