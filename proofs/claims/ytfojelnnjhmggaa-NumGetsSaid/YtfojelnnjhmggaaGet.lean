/-
  num: the contracts of Get, GetInt, fixed, Get4, Get8.
-/
import Derived.Test.YtfojelnnjhmggaaLay
namespace Go.Proofs.Ytfojelnnjhmggaa
open Go.RowKit

theorem part_bits (ch : Nat) (h : ch < 256) : bits .andNot .u8 (ch : Int) 128 = ((ch % 128 : Nat) : Int) := by
  have e := u8_andNot_nat ch 128 h (by decide)
  rw [nat_mask7 ch] at e
  exact e
/-- A byte's seven bits go above those that are there. -/
theorem or_bits (N ch k : Nat) (hN : N < 18446744073709551616) (h : ch < 256) :
    ∃ M : Nat, bits .or .u64 (N : Int) (IntKind.u64.wrap (IntKind.u64.wrap (bits .andNot .u8 (ch : Int) 128) * 2 ^ (7 * k))) = (M : Int) ∧ M < 18446744073709551616 ∧
      (N < 128 ^ k → ch % 128 * 128 ^ k < 18446744073709551616 → M = N + 128 ^ k * (ch % 128)) := by
  rw [part_bits ch h, IntKind.wrap_u64, IntKind.wrap_u64]
  have e1 : (((ch % 128 : Nat) : Int) % 18446744073709551616) = ((ch % 128 : Nat) : Int) := by omega
  have e2 : ((ch % 128 : Nat) : Int) * 2 ^ (7 * k) % 18446744073709551616 = ((ch % 128 * 128 ^ k % 18446744073709551616 : Nat) : Int) := by rw [pow7]; simp
  rw [e1, e2, u64_or_nat _ _ hN (Nat.mod_lt _ (by decide))]
  refine ⟨_, rfl, ?_, fun h1 h2 => ?_⟩
  · exact Nat.or_lt_two_pow (n := 64) hN (Nat.mod_lt _ (by decide))
  · rw [Nat.mod_eq_of_lt h2, Nat.or_comm, nat_join (7 * k) _ _ (by rw [← pow7, Nat.mul_mod_left]) (by rw [← pow7]; exact h1), Nat.mul_comm]
    omega
theorem ret3 {a b c : Nat} {x y z : Nat} (h1 : a = x) (h2 : b = y) (h3 : c = z) : Ending.returned (.tuple #[.int .u64 (a : Int), .int .i64 (b : Int), .int .i64 (c : Int)]) = .returned (.tuple #[.int .u64 (x : Int), .int .i64 (y : Int), .int .i64 (z : Int)]) := by rw [h1, h2, h3]
theorem ret3' {a b c : Int} {x y z : Nat} (h1 : a = x) (h2 : b = y) (h3 : c = z) : Ending.returned (.tuple #[.int .u64 a, .int .i64 b, .int .i64 c]) = .returned (.tuple #[.int .u64 (x : Int), .int .i64 (y : Int), .int .i64 (z : Int)]) := by rw [h1, h2, h3]

set_option maxRecDepth 100000 in
theorem get_any {A : Option Addr} {n c : Nat} {l : List Nat} {w : World} (h : Lies w 1 A n c (byt l)) (hl : ∀ x ∈ l, x < 256) :
    Calls Try.prog 14 #[.slice A n c] w fun e w' => e = .returned (.tuple #[.int .u64 (gv l), .int .i64 (gs l), .int .i64 (ge l)]) ∧ w = w' := by
  have hln : l.length = n := by have := h.len; rw [byt_len] at this; omega
  have hle := h.le
  have hbig := h.big
  have HL := Lib.hid hln; clear hln
  have HB := Lib.hid hl; clear hl
  obtain ⟨m, hm, hm1, hm2⟩ : ∃ m : Nat, min (n : Int) 10 = (m : Int) ∧ m ≤ n ∧ m ≤ 10 := ⟨min n 10, by omega, by omega, by omega⟩
  have hm3 : max (m : Int) 0 = (m : Int) := by omega
  go_enter Try.func14, Try.ntmps14
  go_wp2
  have HM := Lib.hid hm; clear hm hm3
  go_loop [5, 14] (fun acc i => ∃ k N : Nat, k ≤ m ∧ i = .int .i64 k ∧ acc = .int .u64 N ∧ Hid ((∀ j, j < k → 128 ≤ l.getD j 0) ∧ (k ≤ 9 → N = val (l.take k)) ∧ N < 18446744073709551616)) (fun _ i => m - (intOf i).toNat)
  case atStart => exact ⟨0, 0, Nat.zero_le _, rfl, rfl, ⟨fun j hj => by omega, fun _ => rfl, by decide⟩⟩
  case round =>
    obtain ⟨k, N, hk, rfl, rfl, hr⟩ := hrel
    by_cases hlt : k < m
    · obtain ⟨b, off, rfl, hbs, hcell⟩ := h.pos (by omega) (by decide)
      obtain ⟨ch, hch⟩ : ∃ ch, l[k]? = some ch := ⟨_, List.getElem?_eq_getElem (by have := HL.out; omega)⟩
      have hc := hcell k (.int .u8 ch) (by simp [byt, hch])
      have hch2 : ch < 256 := HB.out ch (List.mem_of_getElem? hch)
      have HC := Lib.hid hch; clear hch
      clear hcell
      have hgd : l.getD k 0 = ch := by simp [List.getD, HC.out]
      have GD := Lib.hid hgd; clear hgd
      obtain ⟨M, hM, hM2, hM3⟩ := or_bits N ch k hr.out.2.2 hch2
      have HM1 := Lib.hid hM; have HM2 := Lib.hid hM2; have HM3 := Lib.hid hM3
      clear hM hM2 hM3
      have hkl : k < l.length := by have := HL.out; omega
      have hp9 : ch % 128 * 128 ^ k < 18446744073709551616 ∨ (k = 9 ∧ 1 < ch % 128) := by
        by_cases h8 : k ≤ 8
        · left
          have : 128 ^ k ≤ 128 ^ 8 := Nat.pow_le_pow_right (by decide) h8
          calc ch % 128 * 128 ^ k ≤ 128 * 128 ^ 8 := Nat.mul_le_mul (by omega) this
            _ < _ := by decide
        · obtain rfl : k = 9 := by omega
          omega
      have HP := Lib.hid hp9; clear hp9
      have HK := Lib.hid hkl; clear hkl
      by_cases h128 : 128 ≤ ch
      · go_wp2
        go_round
        case rel =>
          refine ⟨k + 1, M, by omega, by go_num, by rw [HM1.out], ⟨fun j hj => ?_, fun h9 => ?_, HM2.out⟩⟩
          · by_cases hjk : j = k
            · subst hjk; rw [GD.out]; exact h128
            · exact hr.out.1 j (by omega)
          · rw [val_step HK.out, GD.out, ← hr.out.2.1 (by omega)]
            refine HM3.out ?_ ?_
            · rw [hr.out.2.1 (by omega)]; exact val_take_lt l k
            · rcases HP.out with h | h
              · exact h
              · omega
        case measure => simp [intOf]; omega
      · have hlo : l.getD k 0 < 128 := by rw [GD.out]; omega
        have hgood : bad ch k = false → M = gv l ∧ k + 1 = gs l ∧ 0 = ge l := fun hb => by
          have hg := get_good hr.out.1 HK.out (by omega) hlo (by rw [GD.out]; exact hb)
          rw [GD.out] at hg
          refine ⟨?_, hg.2.1.symm, hg.2.2.symm⟩
          rw [hg.1, ← hr.out.2.1 (by omega)]
          have := HM3.out (by rw [hr.out.2.1 (by omega)]; exact val_take_lt l k) (by
            rcases HP.out with h | h
            · exact h
            · obtain ⟨rfl, h⟩ := h
              simp [bad] at hb
              omega)
          rw [this, Nat.mod_eq_of_lt (show ch < 128 by omega)]
        have hbad : bad ch k = true → 0 = gv l ∧ 0 = gs l ∧ 5 = ge l := fun hb => by
          have hg := get_bad hr.out.1 HK.out (by omega) hlo (by rw [GD.out]; exact hb)
          omega
        have G := Lib.hid hgood; have B := Lib.hid hbad; clear hgood hbad hlo
        go_wp2
        all_goals go_ret3
        · have e1 : ch = 0 := by assumption
          have e2 : k = 0 := by assumption
          subst e1 e2
          obtain ⟨g1, g2, g3⟩ := G.out (by simp [bad])
          exact ⟨ret3' (by rw [← g1]; exact HM1.out) (by rw [← g2]; rfl) (by rw [← g3]; rfl), rfl⟩
        · have e1 : ch = 0 := by assumption
          have e2 : ¬ k = 0 := by assumption
          obtain ⟨g1, g2, g3⟩ := B.out (by simp [bad, e1]; omega)
          exact ⟨ret3' (by rw [← g1]; rfl) (by rw [← g2]; rfl) (by rw [← g3]; rfl), rfl⟩
        · have e1 : (k : Int) = 9 := by assumption
          have e2 : (1 : Int) < ch := by assumption
          obtain ⟨g1, g2, g3⟩ := B.out (by simp [bad]; omega)
          exact ⟨ret3' (by rw [← g1]; rfl) (by rw [← g2]; rfl) (by rw [← g3]; rfl), rfl⟩
        · have e1 : (k : Int) = 9 := by assumption
          have e2 : (ch : Int) ≤ 1 := by assumption
          have e3 : ¬ ch = 0 := by assumption
          obtain ⟨g1, g2, g3⟩ := G.out (by simp [bad]; omega)
          exact ⟨ret3' (by rw [← g1]; exact HM1.out) (by rw [← g2]; omega) (by rw [← g3]; rfl), rfl⟩
        · have e1 : ¬ (k : Int) = 9 := by assumption
          have e3 : ¬ ch = 0 := by assumption
          obtain ⟨g1, g2, g3⟩ := G.out (by simp [bad]; omega)
          exact ⟨ret3' (by rw [← g1]; exact HM1.out) (by rw [← g2]; omega) (by rw [← g3]; rfl), rfl⟩
    · have hln := HL.out
      have hmn := HM.out
      have hg := get_more hr.out.1 (by omega) (by omega)
      have G := Lib.hid hg; clear hg
      clear hln hmn
      go_wp2
      all_goals go_ret3
      · have e : (n : Int) < 10 := by assumption
        have hln := HL.out
        obtain ⟨g1, g2, g3⟩ := G.out
        rw [if_pos (by omega)] at g3
        exact ⟨ret3' (by rw [g1]; rfl) (by rw [g2]; rfl) (by rw [g3]; rfl), rfl⟩
      · have e : (10 : Int) ≤ n := by assumption
        have hln := HL.out
        obtain ⟨g1, g2, g3⟩ := G.out
        rw [if_neg (by omega)] at g3
        exact ⟨ret3' (by rw [g1]; rfl) (by rw [g2]; rfl) (by rw [g3]; rfl), rfl⟩
end Go.Proofs.Ytfojelnnjhmggaa
