/-
  num: the contracts of GetInt, fixed, Get4, Get8.
-/
import Derived.Test.YtfojelnnjhmggaaGet
namespace Go.Proofs.Ytfojelnnjhmggaa
open Go.RowKit

def fv (s : Nat) (l : List Nat) : Nat := if l.length < s then 0 else lev s l
def fe (s : Nat) (l : List Nat) : Nat := if l.length < s then 4 else 0
theorem lev_step : ∀ (k : Nat) (l : List Nat), k < l.length → lev (k + 1) l = lev k l + 256 ^ k * l.getD k 0
  | 0, [], h => by simp at h
  | 0, c :: r, _ => by simp [lev]
  | k + 1, [], h => by simp at h
  | k + 1, c :: r, h => by
    rw [lev, lev_step k r (by simpa using h), lev, Nat.pow_succ]
    simp only [List.getD_cons_succ]
    have : 256 ^ k * 256 * r.getD k 0 = 256 * (256 ^ k * r.getD k 0) := by rw [Nat.mul_comm (256 ^ k) 256, Nat.mul_assoc]
    omega
theorem pow8 (m : Nat) : 256 ^ m = 2 ^ (8 * m) := by rw [Nat.pow_mul]
theorem or8_bits (N ch k : Nat) (hN : N < 256 ^ k) (h : ch < 256) (hk : k ≤ 7) :
    bits .or .u64 (N : Int) (IntKind.u64.wrap ((ch : Int) * 2 ^ (8 * k))) = ((N + 256 ^ k * ch : Nat) : Int) := by
  have hp : 256 ^ k ≤ 256 ^ 7 := Nat.pow_le_pow_right (by decide) hk
  have h1 : ch * 256 ^ k < 18446744073709551616 := by
    calc ch * 256 ^ k ≤ 255 * 256 ^ 7 := Nat.mul_le_mul (by omega) hp
      _ < _ := by decide
  have e2 : (ch : Int) * 2 ^ (8 * k) % 18446744073709551616 = ((ch * 256 ^ k % 18446744073709551616 : Nat) : Int) := by rw [pow8]; simp
  have hN2 : N < 18446744073709551616 := Nat.lt_of_lt_of_le hN (Nat.le_trans hp (by decide))
  rw [IntKind.wrap_u64, e2, Nat.mod_eq_of_lt h1, u64_or_nat _ _ hN2 h1, Nat.or_comm, nat_join (8 * k) _ _ (by rw [← pow8, Nat.mul_mod_left]) (by rw [← pow8]; exact hN), Nat.mul_comm]
  congr 1
  omega

set_option maxRecDepth 100000 in
theorem fixed_any {A : Option Addr} {n c s : Nat} {l : List Nat} {w : World} (si : Int) (hsi : si = (s : Int)) (hs : s ≤ 8) (h : Lies w 1 A n c (byt l)) (hl : ∀ x ∈ l, x < 256) :
    Calls Try.prog 33 #[.slice A n c, .int .i64 si] w fun e w' => e = .returned (.tuple #[.int .u64 (fv s l), .int .i64 (fe s l)]) ∧ w = w' := by
  subst hsi
  have hln : l.length = n := by have := h.len; rw [byt_len] at this; omega
  have hle := h.le
  have hbig := h.big
  have HL := Lib.hid hln; clear hln
  have HB := Lib.hid hl; clear hl
  by_cases hsn : n < s
  · go_enter Try.func33, Try.ntmps33
    go_wp2
    go_ret2
    have := HL.out
    exact ⟨by rw [fv, fe, if_pos (by omega), if_pos (by omega)]; rfl, rfl⟩
  · go_enter Try.func33, Try.ntmps33
    go_wp2
    go_loop [6, 13] (fun acc i => ∃ k : Nat, k ≤ s ∧ i = .int .i64 k ∧ acc = .int .u64 (lev k l)) (fun _ i => s - (intOf i).toNat)
    case atStart => exact ⟨0, Nat.zero_le _, rfl, rfl⟩
    case round =>
      obtain ⟨k, hk, rfl, rfl⟩ := hrel
      by_cases hlt : k < s
      · obtain ⟨b, off, rfl, hbs, hcell⟩ := h.pos (by omega) (by decide)
        obtain ⟨ch, hch⟩ : ∃ ch, l[k]? = some ch := ⟨_, List.getElem?_eq_getElem (by have := HL.out; omega)⟩
        have hc := hcell k (.int .u8 ch) (by simp [byt, hch])
        have hch2 : ch < 256 := HB.out ch (List.mem_of_getElem? hch)
        have hgd : l.getD k 0 = ch := by simp [List.getD, hch]
        have e := or8_bits (lev k l) ch k (lev_lt k l HB.out) hch2 (by omega)
        rw [← hgd, ← lev_step k l (by have := HL.out; omega), hgd] at e
        have HE := Lib.hid e
        clear e hcell hgd hch
        go_wp2
        go_round
        case rel => exact ⟨k + 1, by omega, by go_num, by rw [HE.out]⟩
        case measure => simp [intOf]; omega
      · have e : k = s := by omega
        subst e
        go_wp2
        go_ret2
        have := HL.out
        exact ⟨by rw [fv, fe, if_neg (by omega), if_neg (by omega)]; rfl, rfl⟩

theorem get4_any {A : Option Addr} {n c : Nat} {l : List Nat} {w : World} (h : Lies w 1 A n c (byt l)) (hl : ∀ x ∈ l, x < 256) :
    Calls Try.prog 16 #[.slice A n c] w fun e w' => e = .returned (.tuple #[.int .u32 (fv 4 l), .int .i64 (fe 4 l)]) ∧ w = w' := by
  have hv : fv 4 l < 4294967296 := by
    unfold fv
    split
    · decide
    · exact lev_lt 4 l hl
  go_enter Try.func16, Try.ntmps16
  go_wp2_with (go_at_call 33; refine (fixed_any (s := 4) 4 rfl (by decide) h hl).mono ?_; rintro e w1 ⟨rfl, rfl⟩)
  go_ret2
  exact ⟨rfl, rfl⟩
theorem get8_any {A : Option Addr} {n c : Nat} {l : List Nat} {w : World} (h : Lies w 1 A n c (byt l)) (hl : ∀ x ∈ l, x < 256) :
    Calls Try.prog 17 #[.slice A n c] w fun e w' => e = .returned (.tuple #[.int .u64 (fv 8 l), .int .i64 (fe 8 l)]) ∧ w = w' := by
  go_enter Try.func17, Try.ntmps17
  go_wp2_with (go_at_call 33; refine (fixed_any (s := 8) 8 rfl (by decide) h hl).mono ?_; rintro e w1 ⟨rfl, rfl⟩)
  go_ret2
  exact ⟨rfl, rfl⟩
theorem gv_64 (l : List Nat) (hl : ∀ x ∈ l, x < 256) : gv l < 18446744073709551616 := by
  by_cases h : ge l = 0
  · have hb := get_back hl h
    by_cases h2 : gv l < 18446744073709551616
    · exact h2
    · exfalso
      unfold gv at h2
      split at h2
      · rename_i hc
        have hv := val_step hc.1
        have hlt := val_take_lt l (stop l)
        by_cases h9 : stop l = 9
        · have hbad := hc.2.2
          rw [h9] at hbad hv hlt
          rw [h9] at h2
          generalize l.getD 9 0 = x at *
          simp [bad] at hbad
          omega
        · have h8 : stop l + 1 ≤ 9 := by omega
          have := Nat.lt_of_lt_of_le (val_take_lt l (stop l + 1)) (Nat.pow_le_pow_right (show 0 < 128 by decide) h8)
          have : (128 : Nat) ^ 9 < 18446744073709551616 := by decide
          omega
      · omega
  · rw [(get_err h).1]; decide
theorem getint_any {A : Option Addr} {n c : Nat} {l : List Nat} {w : World} (h : Lies w 1 A n c (byt l)) (hl : ∀ x ∈ l, x < 256) :
    Calls Try.prog 30 #[.slice A n c] w fun e w' => e = .returned (.tuple #[.int .i64 (unfoldI (gv l)), .int .i64 (gs l), .int .i64 (ge l)]) ∧ w = w' := by
  have H64 := Lib.hid (gv_64 l hl)
  go_enter Try.func30, Try.ntmps30
  go_wp2_with (first
    | (go_at_call 14; refine (get_any h hl).mono ?_; rintro e w1 ⟨rfl, rfl⟩)
    | (go_at_call 12; refine (unfold_any _ _ (by omega) (by have := H64.out; omega)).mono ?_; rintro e w1 ⟨rfl, rfl⟩))
  go_ret3
  exact ⟨rfl, rfl⟩
end Go.Proofs.Ytfojelnnjhmggaa
