/-
  utf: the contract of the reference's Encode.
-/
import Derived.Test.YtbphdojjddnljaaDoorRefOne
namespace Go.Proofs.YtbphdojjddnljaaDoor
open Go.RowKit
set_option linter.unusedSimpArgs false

set_option maxRecDepth 100000 in
set_option maxHeartbeats 1000000 in
theorem renc_any {A : Option Addr} {n cap : Nat} {zs : List Int} {t : List Nat} {w : World} (hT : Tab w) (hL : Lies w 1 A n cap (chs zs)) (ht : valid t) (hzs : zs = upN t ∨ ∃ x r, zs = upN t ++ x :: r ∧ mayI x = false) (hn : n * 4 ≤ 140737488355324) :
    Calls Tryd.prog 10 #[.slice A n cap] w (EncPost zs t w) := by
  have hle := hL.le
  have hbig := hL.big
  have hln := hL.chs_len
  have hp : t.length ≤ n := by
    rcases hzs with rfl | ⟨x, r, rfl, _⟩
    · rw [upN_len] at hln; omega
    · rw [List.length_append, upN_len] at hln; omega
  have hat : ∀ (k c : Nat), t[k]? = some c → (chs zs)[k]? = some (Value.int .i32 (c : Int)) := by
    intro k c hc
    have hk := (List.getElem?_eq_some_iff.1 hc).1
    have e : zs[k]? = some (c : Int) := by
      rcases hzs with rfl | ⟨x, r, rfl, _⟩
      · simp [upN, hc]
      · rw [List.getElem?_append_left (by rw [upN_len]; exact hk)]; simp [upN, hc]
    simp [chs, e]
  have hbad : t.length < n → ∃ x, (chs zs)[t.length]? = some (Value.int .i32 x) ∧ mayI x = false ∧ zs ≠ upN t := by
    intro h
    rcases hzs with rfl | ⟨x, r, rfl, hx⟩
    · rw [upN_len] at hln; omega
    · refine ⟨x, ?_, hx, fun e => ?_⟩
      · have : (upN t ++ x :: r)[t.length]? = some x := by rw [List.getElem?_append_right (by rw [upN_len]; exact Nat.le_refl _), upN_len]; simp
        unfold chs
        rw [List.getElem?_map, this]
        rfl
      · have := congrArg List.length e; simp at this
  have hgood : ¬ t.length < n → zs = upN t := by
    intro h
    rcases hzs with rfl | ⟨x, r, rfl, hx⟩
    · rfl
    · rw [List.length_append, upN_len, List.length_cons] at hln; omega
  have HT := Lib.hid hT; have HV := Lib.hid ht; have HA := Lib.hid hat; have HB := Lib.hid hbad; have HG := Lib.hid hgood
  clear hT hat hbad hgood hzs hln ht
  go_enter Tryd.func10, Tryd.ntmps10
  go_wp2
  go_loopw [4, 5] (fun v i wr => ∃ (k m : Nat) (A1 : Option Addr) (c1 : Nat), k ≤ t.length ∧ i = .int .i64 k ∧ v = .slice A1 m c1 ∧ wr.ownsRow w.heap.size 5 1 (.slice A1 m c1) m (byt (encL (t.take k))) ∧ Below w.heap.size w wr) (fun _ i _ => n - (intOf i).toNat)
  case atStart => exact ⟨0, 0, none, 0, Nat.zero_le _, rfl, rfl, own_nil8 _ _, Below.refl _ _⟩
  case round =>
    obtain ⟨k, m, A1, c1, hk, rfl, rfl, own1, hb⟩ := hrel
    have hm : m = (encL (t.take k)).length := by have := (Lies.of_own own1).bytes_len; omega
    have hm4 : m ≤ 4 * k := by
      have := (encL_len (t.take k)).2
      rw [List.length_take] at this
      omega
    clear hm
    by_cases hlt : k < n
    · obtain ⟨g, off, rfl, hgs, hcell⟩ := hL.pos (by omega) (by decide)
      by_cases hk2 : k < t.length
      · obtain ⟨c, hc⟩ : ∃ c, t[k]? = some c := ⟨_, List.getElem?_eq_getElem hk2⟩
        have hmc : mayI (c : Int) = true := HV.out c (List.mem_of_getElem? hc)
        have h1 := hcell k _ (HA.out k c hc)
        have h2 := (hb.cell (p := ⟨g, off + k, none⟩) hgs).trans h1
        have HC := Lib.hid hc; have HMC := Lib.hid hmc
        clear hc hmc h1 hcell
        go_wp2_with fail
        refine (rmay_at true HMC.out).mono ?_
        rintro e w1 ⟨rfl, rfl⟩
        go_wp2_with fail
        obtain ⟨q, hq⟩ : ∃ q, szN c = q := ⟨_, rfl⟩
        have hq4 := (szN_bd c).2
        rw [hq] at hq4
        refine (rone_any HMC.out hq).mono ?_
        rintro e w2 ⟨g2, rfl, L2, gr2⟩
        have O2 := Lib.hid (own_grow own1 gr2); have L2 := Lib.hid L2
        have hb1 := then_ hb gr2
        have HB1 := Lib.hid hb1
        clear own1 h2 hq gr2 hb hb1
        go_wp2_with (at_builtin; refine wpList_app8 rfl (.tmp 18) (.tmp 23) rfl w.heap.size _ m _ rfl O2.out (some ⟨g2, 0, none⟩) q q (one c) rfl L2.out (by omega) HB1.out.size ?_; intro A3 c3 w3 own3 L3 bel3)
        rw [← encL_snoc HC.out] at own3
        have hb3 := bel3 _ _ HB1.out (Nat.le_refl _)
        clear bel3 L3
        go_wp2
        go_roundw
        case rel => exact ⟨k + 1, m + q, A3, c3, by omega, by go_num, rfl, own3, hb3⟩
        case measure => simp [intOf]; omega
      · obtain rfl : k = t.length := by omega
        obtain ⟨x, hx, hmx, hne⟩ := HB.out hlt
        have h1 := hcell t.length _ hx
        have h2 := (hb.cell (p := ⟨g, off + t.length, none⟩) hgs).trans h1
        have HM := Lib.hid hmx; have HNE := Lib.hid hne
        clear hx h1 hcell hmx hne
        go_wp2_with fail
        refine (rmay_at false HM.out).mono ?_
        rintro e w1 ⟨rfl, rfl⟩
        go_wp2
        go_ret2
        exact ⟨none, 0, 0, .inr ⟨HNE.out, rfl, rfl, rfl, rfl⟩, fun h => absurd h HNE.out, hb⟩
    · have hz := HG.out (by omega)
      obtain rfl : k = n := by omega
      have e : t.take k = t := List.take_of_length_le (by omega)
      rw [e] at own1
      have HZ := Lib.hid hz
      clear e hz
      go_wp2
      go_ret2
      exact ⟨A1, m, c1, .inl ⟨HZ.out, rfl⟩, fun _ => own1, hb⟩
end Go.Proofs.YtbphdojjddnljaaDoor

