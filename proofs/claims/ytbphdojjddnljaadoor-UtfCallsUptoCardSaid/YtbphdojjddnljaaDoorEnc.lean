/-
  utf: the contract of Encode; texts in memory.
-/
import Derived.Test.YtbphdojjddnljaaDoorLaid
namespace Go.Proofs.YtbphdojjddnljaaDoor
open Go.RowKit

/-- A text as cells. -/
def chs (zs : List Int) : List Value := zs.map (Value.int .i32)
theorem chs_len (zs : List Int) : (chs zs).length = zs.length := by simp [chs]
theorem Lies.chs_len {w : World} {A : Option Addr} {n c : Nat} {zs : List Int} (h : Lies w 1 A n c (chs zs)) : zs.length = n := by have := h.len; rw [Proofs.YtbphdojjddnljaaDoor.chs_len] at this; omega
def upN (t : List Nat) : List Int := t.map fun c : Nat => (c : Int)
theorem upN_len (t : List Nat) : (upN t).length = t.length := by simp [upN]
/-- Each text has a part ahead whose code points may be, and ends there, or a code point follows that may not be. -/
theorem text_split (zs : List Int) : ∃ t : List Nat, valid t ∧ (zs = upN t ∨ ∃ x r, zs = upN t ++ x :: r ∧ mayI x = false) := by
  induction zs with
  | nil => exact ⟨[], fun c hc => (by cases hc), .inl rfl⟩
  | cons z zs ih =>
    cases hz : mayI z with
    | false => exact ⟨[], fun c hc => (by cases hc), .inr ⟨z, zs, rfl, hz⟩⟩
    | true =>
      have h0 := (mayI_iff z).1 hz
      obtain ⟨c, rfl⟩ := Int.eq_ofNat_of_zero_le h0.1
      obtain ⟨t, ht, h⟩ := ih
      refine ⟨c :: t, fun x hx => ?_, ?_⟩
      · rcases List.mem_cons.1 hx with rfl | hx
        · exact hz
        · exact ht x hx
      · rcases h with rfl | ⟨x, r, rfl, hx⟩
        · exact .inl rfl
        · exact .inr ⟨x, r, rfl, hx⟩
theorem encL_snoc {t : List Nat} {k c : Nat} (h : t[k]? = some c) : encL (t.take (k + 1)) = encL (t.take k) ++ one c := by
  rw [List.take_add_one, h, encL_app]
  simp [encL]
def EncPost (zs : List Int) (t : List Nat) (w : World) (e : Ending) (w' : World) : Prop :=
  ∃ A n c, ((zs = upN t ∧ e = .returned (.tuple #[.slice A n c, .int .i64 0])) ∨ (zs ≠ upN t ∧ A = none ∧ n = 0 ∧ c = 0 ∧ e = .returned (.tuple #[.slice none 0 0, .int .i64 21]))) ∧ (zs = upN t → w'.ownsRow w.heap.size 5 1 (.slice A n c) n (byt (encL t))) ∧ Grow w w'
set_option maxRecDepth 100000 in
set_option maxHeartbeats 1000000 in
theorem enc_any {A : Option Addr} {n cap : Nat} {zs : List Int} {t : List Nat} {w : World} (hT : Tab w) (hL : Lies w 1 A n cap (chs zs)) (ht : valid t) (hzs : zs = upN t ∨ ∃ x r, zs = upN t ++ x :: r ∧ mayI x = false) (hn : n * 4 ≤ 140737488355324) :
    Calls Tryd.prog 9 #[.slice A n cap] w (EncPost zs t w) := by
  have hle := hL.le
  have hbig := hL.big
  have hln := hL.chs_len
  have hp : t.length ≤ n := by
    rcases hzs with rfl | ⟨x, r, rfl, _⟩
    · rw [upN_len] at hln; omega
    · rw [List.length_append, upN_len] at hln; omega
  have hat : ∀ (k c : Nat), t[k]? = some c → (chs zs)[k]? = some (Value.int .i32 (c : Int)) := by
    intro k c hc
    have hk := (List.getElem?_eq_some_iff.1 hc).1
    have e : zs[k]? = some (c : Int) := by
      rcases hzs with rfl | ⟨x, r, rfl, _⟩
      · simp [upN, hc]
      · rw [List.getElem?_append_left (by rw [upN_len]; exact hk)]; simp [upN, hc]
    simp [chs, e]
  have hbad : t.length < n → ∃ x, (chs zs)[t.length]? = some (Value.int .i32 x) ∧ mayI x = false ∧ zs ≠ upN t := by
    intro h
    rcases hzs with rfl | ⟨x, r, rfl, hx⟩
    · rw [upN_len] at hln; omega
    · refine ⟨x, ?_, hx, fun e => ?_⟩
      · have : (upN t ++ x :: r)[t.length]? = some x := by rw [List.getElem?_append_right (by rw [upN_len]; exact Nat.le_refl _), upN_len]; simp
        unfold chs
        rw [List.getElem?_map, this]
        rfl
      · have := congrArg List.length e; simp at this
  have hgood : ¬ t.length < n → zs = upN t := by
    intro h
    rcases hzs with rfl | ⟨x, r, rfl, hx⟩
    · rfl
    · rw [List.length_append, upN_len, List.length_cons] at hln; omega
  have HT := Lib.hid hT; have HV := Lib.hid ht; have HA := Lib.hid hat; have HB := Lib.hid hbad; have HG := Lib.hid hgood
  clear hT hat hbad hgood hzs hln ht
  go_enter Tryd.func9, Tryd.ntmps9
  go_wp2
  go_loopw [4, 9] (fun v i wr => ∃ (k m : Nat) (A1 : Option Addr) (c1 : Nat), k ≤ t.length ∧ i = .int .i64 k ∧ v = .slice A1 m c1 ∧ wr.ownsRow w.heap.size 5 1 (.slice A1 m c1) m (byt (encL (t.take k))) ∧ Below w.heap.size w wr) (fun _ i _ => n - (intOf i).toNat)
  case atStart => exact ⟨0, 0, none, 0, Nat.zero_le _, rfl, rfl, own_nil8 _ _, Below.refl _ _⟩
  case round =>
    obtain ⟨k, m, A1, c1, hk, rfl, rfl, own1, hb⟩ := hrel
    have hm : m = (encL (t.take k)).length := by have := (Lies.of_own own1).bytes_len; omega
    have hm4 : m ≤ 4 * k := by
      have := (encL_len (t.take k)).2
      rw [List.length_take] at this
      omega
    clear hm
    by_cases hlt : k < n
    · obtain ⟨g, off, rfl, hgs, hcell⟩ := hL.pos (by omega) (by decide)
      by_cases hk2 : k < t.length
      · obtain ⟨c, hc⟩ : ∃ c, t[k]? = some c := ⟨_, List.getElem?_eq_getElem hk2⟩
        have hmc : mayI (c : Int) = true := HV.out c (List.mem_of_getElem? hc)
        have h1 := hcell k _ (HA.out k c hc)
        have h2 := (hb.cell (p := ⟨g, off + k, none⟩) hgs).trans h1
        have HC := Lib.hid hc; have HMC := Lib.hid hmc
        clear hc hmc h1 hcell
        go_wp2_with fail
        refine (may_at true HMC.out).mono ?_
        rintro e w1 ⟨rfl, rfl⟩
        go_wp2_with fail
        refine (laid_any (HT.out.same hb) HMC.out own1 hb.size (by omega)).mono ?_
        rintro e w2 ⟨A2, m2, c2, rfl, own2, bel2⟩
        have hb2 := bel2 _ _ hb (Nat.le_refl _)
        rw [← encL_snoc HC.out] at own2
        clear bel2 own1 h2
        go_wp2
        go_roundw
        case rel => exact ⟨k + 1, m2, A2, c2, by omega, by go_num, rfl, own2, hb2⟩
        case measure => simp [intOf]; omega
      · obtain rfl : k = t.length := by omega
        obtain ⟨x, hx, hmx, hne⟩ := HB.out hlt
        have h1 := hcell t.length _ hx
        have h2 := (hb.cell (p := ⟨g, off + t.length, none⟩) hgs).trans h1
        have HM := Lib.hid hmx; have HNE := Lib.hid hne
        clear hx h1 hcell hmx hne
        go_wp2_with fail
        refine (may_at false HM.out).mono ?_
        rintro e w1 ⟨rfl, rfl⟩
        go_wp2
        go_ret2
        exact ⟨none, 0, 0, .inr ⟨HNE.out, rfl, rfl, rfl, rfl⟩, fun h => absurd h HNE.out, hb⟩
    · have hz := HG.out (by omega)
      obtain rfl : k = n := by omega
      have e : t.take k = t := List.take_of_length_le (by omega)
      rw [e] at own1
      have HZ := Lib.hid hz
      clear e hz
      go_wp2
      go_ret2
      exact ⟨A1, m, c1, .inl ⟨HZ.out, rfl⟩, fun _ => own1, hb⟩
end Go.Proofs.YtbphdojjddnljaaDoor

