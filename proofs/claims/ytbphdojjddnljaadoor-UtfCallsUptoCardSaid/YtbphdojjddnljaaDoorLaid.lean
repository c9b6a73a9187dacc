/-
  utf: the contract of laid: a code point's bytes behind others.
-/
import Derived.Test.YtbphdojjddnljaaDoorBase
import Derived.Test.YtbphdojjddnljaaDoorBytes
import Derived.Deep.DeepCutAuto
namespace Go.Proofs.YtbphdojjddnljaaDoor
open Go.RowKit

def LaidPost (base : Nat) (l : List Nat) (c : Nat) (w : World) (e : Ending) (w' : World) : Prop :=
  ∃ A n cap, e = .returned (.slice A n cap) ∧ w'.ownsRow base 5 1 (.slice A n cap) n (byt (l ++ one c)) ∧ ∀ (B : Nat) (w0 : World), Below B w0 w → B ≤ base → Below B w0 w'
theorem one_f (c : Nat) : (szN c = 1 → (one c).take 1 = [c] ∧ c < 128) ∧ (szN c = 2 → (one c).take 1 = [192 + c / 64] ∧ c < 2048) ∧ (szN c = 3 → (one c).take 1 = [224 + c / 4096] ∧ c < 65536) ∧ (szN c = 4 → (one c).take 1 = [240 + c / 262144]) := by
  unfold one szN
  split
  · exact ⟨fun _ => ⟨rfl, by assumption⟩, fun h => by omega, fun h => by omega, fun h => by omega⟩
  · split
    · exact ⟨fun h => by omega, fun _ => ⟨rfl, by assumption⟩, fun h => by omega, fun h => by omega⟩
    · split
      · exact ⟨fun h => by omega, fun h => by omega, fun _ => ⟨rfl, by assumption⟩, fun h => by omega⟩
      · exact ⟨fun h => by omega, fun h => by omega, fun h => by omega, fun _ => rfl⟩
theorem one_next (c m : Nat) (hm : m + 1 < szN c) : (one c).take (szN c - m) = (one c).take (szN c - (m + 1)) ++ [128 + c / 64 ^ m % 64] := by
  have hb := szN_bd c
  unfold one
  have hs : ∀ S, szN c = S → S ≤ 4 := fun S h => by omega
  unfold szN at hm ⊢
  split
  · rename_i h; rw [if_pos h] at hm; omega
  · rename_i h
    rw [if_neg h] at hm
    split
    · rename_i h2
      rw [if_pos h2] at hm
      match m, hm with
      | 0, _ => simp
    · rename_i h2
      rw [if_neg h2] at hm
      split
      · rename_i h3
        rw [if_pos h3] at hm
        match m, hm with
        | 0, _ => simp
        | 1, _ => simp
      · rename_i h3
        rw [if_neg h3] at hm
        match m, hm with
        | 0, _ => simp
        | 1, _ => simp
        | 2, _ => simp
set_option maxRecDepth 100000 in
set_option maxHeartbeats 1000000 in
theorem laid_any {A : Option Addr} {n cap base c : Nat} {l : List Nat} {w : World} (hT : Tab w) (hm : mayI (c : Int) = true) (hown : w.ownsRow base 5 1 (.slice A n cap) n (byt l)) (hbase : base ≤ w.heap.size) (hn : n + 4 ≤ 140737488355328) :
    Calls Tryd.prog 22 #[.slice A n cap, .int .i32 (c : Int)] w (LaidPost base l c w) := by
  obtain ⟨S, hS⟩ : ∃ S, szN c = S := ⟨_, rfl⟩
  have hb1 : 1 ≤ S := by rw [← hS]; exact (szN_bd c).1
  have hb4 : S ≤ 4 := by rw [← hS]; exact (szN_bd c).2
  have HM := Lib.hid hm; have HO := Lib.hid hown; have HT := Lib.hid hT; have HS := Lib.hid hS
  have hc := may_le hm
  clear hm hown hT hS
  go_enter Tryd.func22, Tryd.ntmps22
  go_wp2_with fail
  refine (size_yes HT.out HM.out).mono ?_
  rw [HS.out]
  rintro e w1 ⟨rfl, g1⟩
  have T1 := HT.out.same g1
  have c1 := T1.cell 10 (v := .int .u8 240) rfl
  have c2 := T1.cell 7 (v := .int .u8 224) rfl
  have c3 := T1.cell 4 (v := .int .u8 192) rfl
  have c4 := T1.cell 1 (v := .int .u8 0) rfl
  have O1 := Lib.hid (own_grow HO.out g1)
  have hb1' : base ≤ w1.heap.size := Nat.le_trans hbase g1.size
  have hbel : Hid (∀ (B : Nat) (w0 : World), Below B w0 w → B ≤ base → Below B w0 w1) := fun B w0 hb hB => Below.trans hb (Below.mono g1 (by omega))
  clear T1 g1
  go_upto_region 3 with fail
  go_cut [0, 6] (fun v s wx => ∃ (A1 : Option Addr) (c1 : Nat), v = .slice A1 (n + 1) c1 ∧ s = .int .u64 ((6 * (S - 1) : Nat) : Int) ∧ wx.ownsRow base 5 1 (.slice A1 (n + 1) c1) (n + 1) (byt (l ++ (one c).take 1)) ∧ base ≤ wx.heap.size ∧ Hid (∀ (B : Nat) (w0 : World), Below B w0 w → B ≤ base → Below B w0 wx))
  case first =>
    have q : S = 1 ∨ S = 2 ∨ S = 3 ∨ S = 4 := by omega
    rcases q with rfl | rfl | rfl | rfl
    · obtain ⟨x, hx⟩ : ∃ x : Nat, x = c := ⟨_, rfl⟩
      have hof := (one_f c).1 HS.out
      have hf1 := hof.1
      have hlt := hof.2
      have xe : bits .or .u8 0 (c : Int) = (x : Int) := by have := u8_or_nat 0 c (by decide) (by omega); rw [Nat.zero_or] at this; rw [hx]; exact this
      have hf2 : (one c).take 1 = [x] := by rw [hf1, hx]
      have HX := Lib.hid hf2
      clear hof hf1 hf2 hx
      go_wp2_with (at_builtin; refine wpList_app8 rfl (.tmp 13) (.tmp 25) rfl base _ n _ rfl (O1.out.alloc _) (some ⟨w1.heap.size, 0, none⟩) 1 1 [x] rfl (lies_one x rfl) (by omega) (by simp; omega) ?_; intro A3 c3 w3 own3 L3 bel3)
      go_meet
      refine ⟨A3, c3, rfl, rfl, by rw [HX.out]; exact own3, ?_, fun B w0 hb hB => bel3 _ _ ((hbel _ _ hb hB).alloc ?_ _) hB⟩
      · exact Nat.le_trans hb1' (bel3 base w1 (Below.refl _ _ |>.alloc hb1' _) (Nat.le_refl _)).size
      · omega
    · obtain ⟨x, hx⟩ : ∃ x : Nat, x = 192 + c / 64 := ⟨_, rfl⟩
      have hof := (one_f c).2.1 HS.out
      have hf1 := hof.1
      have hlt := hof.2
      have xe : (192 : Int) + (c : Int) / 64 = (x : Int) := by omega
      have hf2 : (one c).take 1 = [x] := by rw [hf1, hx]
      have HX := Lib.hid hf2
      clear hof hf1 hf2 hx
      go_wp2_with (at_builtin; refine wpList_app8 rfl (.tmp 13) (.tmp 25) rfl base _ n _ rfl (O1.out.alloc _) (some ⟨w1.heap.size, 0, none⟩) 1 1 [x] rfl (lies_one x rfl) (by omega) (by simp; omega) ?_; intro A3 c3 w3 own3 L3 bel3)
      go_meet
      refine ⟨A3, c3, rfl, rfl, by rw [HX.out]; exact own3, ?_, fun B w0 hb hB => bel3 _ _ ((hbel _ _ hb hB).alloc ?_ _) hB⟩
      · exact Nat.le_trans hb1' (bel3 base w1 (Below.refl _ _ |>.alloc hb1' _) (Nat.le_refl _)).size
      · omega
    · obtain ⟨x, hx⟩ : ∃ x : Nat, x = 224 + c / 4096 := ⟨_, rfl⟩
      have hof := (one_f c).2.2.1 HS.out
      have hf1 := hof.1
      have hlt := hof.2
      have xe : (224 : Int) + (c : Int) / 4096 = (x : Int) := by omega
      have hf2 : (one c).take 1 = [x] := by rw [hf1, hx]
      have HX := Lib.hid hf2
      clear hof hf1 hf2 hx
      go_wp2_with (at_builtin; refine wpList_app8 rfl (.tmp 13) (.tmp 25) rfl base _ n _ rfl (O1.out.alloc _) (some ⟨w1.heap.size, 0, none⟩) 1 1 [x] rfl (lies_one x rfl) (by omega) (by simp; omega) ?_; intro A3 c3 w3 own3 L3 bel3)
      go_meet
      refine ⟨A3, c3, rfl, rfl, by rw [HX.out]; exact own3, ?_, fun B w0 hb hB => bel3 _ _ ((hbel _ _ hb hB).alloc ?_ _) hB⟩
      · exact Nat.le_trans hb1' (bel3 base w1 (Below.refl _ _ |>.alloc hb1' _) (Nat.le_refl _)).size
      · omega
    · obtain ⟨x, hx⟩ : ∃ x : Nat, x = 240 + c / 262144 := ⟨_, rfl⟩
      have hof := (one_f c).2.2.2 HS.out
      have hf1 := hof
      have xe : (240 : Int) + (c : Int) / 262144 = (x : Int) := by omega
      have hf2 : (one c).take 1 = [x] := by rw [hf1, hx]
      have HX := Lib.hid hf2
      clear hof hf1 hf2 hx
      go_wp2_with (at_builtin; refine wpList_app8 rfl (.tmp 13) (.tmp 25) rfl base _ n _ rfl (O1.out.alloc _) (some ⟨w1.heap.size, 0, none⟩) 1 1 [x] rfl (lies_one x rfl) (by omega) (by simp; omega) ?_; intro A3 c3 w3 own3 L3 bel3)
      go_meet
      refine ⟨A3, c3, rfl, rfl, by rw [HX.out]; exact own3, ?_, fun B w0 hb hB => bel3 _ _ ((hbel _ _ hb hB).alloc ?_ _) hB⟩
      · exact Nat.le_trans hb1' (bel3 base w1 (Below.refl _ _ |>.alloc hb1' _) (Nat.le_refl _)).size
      · omega
  case rest =>
    obtain ⟨A1, c1, rfl, rfl, own1, hbs, hbel⟩ := hcut
    go_wp2
    go_loopw [0, 6] (fun v s wr => ∃ (m n1 : Nat) (A1 : Option Addr) (c1 : Nat), m < S ∧ s = .int .u64 ((6 * m : Nat) : Int) ∧ v = .slice A1 n1 c1 ∧ wr.ownsRow base 5 1 (.slice A1 n1 c1) n1 (byt (l ++ (one c).take (S - m))) ∧ base ≤ wr.heap.size ∧ Hid (∀ (B : Nat) (w0 : World), Below B w0 w → B ≤ base → Below B w0 wr) ∧ Hid (n1 + m = n + S)) (fun _ s _ => (intOf s).toNat)
    case atStart => exact ⟨S - 1, n + 1, A1, c1, by omega, rfl, rfl, by rw [show S - (S - 1) = 1 by omega]; exact own1, hbs, hbel, by show n + 1 + (S - 1) = n + S; omega⟩
    case round =>
      obtain ⟨m, n1, A1, c1, hm, rfl, rfl, own1, hbs, hbel, hn1⟩ := hrel
      have hn2 : n1 ≤ n + 4 := by have := hn1.out; omega
      match m, hm with
      | 0, hm =>
        have e : (one c).take (S - 0) = one c := by rw [List.take_of_length_le]; rw [one_len, HS.out]; omega
        rw [e] at own1
        clear e
        go_wp2
        go_ret
        exact ⟨A1, n1, c1, rfl, own1, hbel.out⟩
      | 1, hm =>
        have hn3 : n1 + 1 ≤ n + 4 := by have := hn1.out; omega
        obtain ⟨x, hx⟩ : ∃ x : Nat, x = 128 + c / 64 ^ 0 % 64 := ⟨_, rfl⟩
        have ht := one_next c 0 (by rw [HS.out]; omega)
        rw [HS.out, ← hx] at ht
        have xe : (128 : Int) + (c : Int) % 64 = (x : Int) := by omega
        have H1 := Lib.hid hn1.out
        have HX := Lib.hid ht
        clear ht hx
        go_wp2_with (at_builtin; refine wpList_app8 rfl (.tmp 31) (.tmp 39) rfl base _ n1 _ rfl (own1.alloc _) (some ⟨wr.heap.size, 0, none⟩) 1 1 [x] rfl (lies_one x rfl) (by omega) (by simp; omega) ?_; intro A3 c3 w3 own3 L3 bel3)
        rw [List.append_assoc, ← HX.out] at own3
        have hbs3 := Nat.le_trans hbs (bel3 base wr (Below.refl _ _ |>.alloc hbs _) (Nat.le_refl _)).size
        have hbel3 : Hid (∀ (B : Nat) (w0 : World), Below B w0 w → B ≤ base → Below B w0 w3) := fun B w0 hb hB => bel3 _ _ ((hbel _ _ hb hB).alloc (by omega) _) hB
        clear bel3 own1 L3 hbel
        go_wp2
        go_roundw
        case rel => exact ⟨0, n1 + 1, A3, c3, by omega, rfl, rfl, own3, hbs3, hbel3, by have := H1.out; show n1 + 1 + 0 = n + S; omega⟩
        case measure => simp [intOf]
      | 2, hm =>
        have hn3 : n1 + 1 ≤ n + 4 := by have := hn1.out; omega
        obtain ⟨x, hx⟩ : ∃ x : Nat, x = 128 + c / 64 ^ 1 % 64 := ⟨_, rfl⟩
        have ht := one_next c 1 (by rw [HS.out]; omega)
        rw [HS.out, ← hx] at ht
        have xe : (128 : Int) + (c : Int) / 64 % 64 = (x : Int) := by omega
        have H1 := Lib.hid hn1.out
        have HX := Lib.hid ht
        clear ht hx
        go_wp2_with (at_builtin; refine wpList_app8 rfl (.tmp 31) (.tmp 39) rfl base _ n1 _ rfl (own1.alloc _) (some ⟨wr.heap.size, 0, none⟩) 1 1 [x] rfl (lies_one x rfl) (by omega) (by simp; omega) ?_; intro A3 c3 w3 own3 L3 bel3)
        rw [List.append_assoc, ← HX.out] at own3
        have hbs3 := Nat.le_trans hbs (bel3 base wr (Below.refl _ _ |>.alloc hbs _) (Nat.le_refl _)).size
        have hbel3 : Hid (∀ (B : Nat) (w0 : World), Below B w0 w → B ≤ base → Below B w0 w3) := fun B w0 hb hB => bel3 _ _ ((hbel _ _ hb hB).alloc (by omega) _) hB
        clear bel3 own1 L3 hbel
        go_wp2
        go_roundw
        case rel => exact ⟨1, n1 + 1, A3, c3, by omega, rfl, rfl, own3, hbs3, hbel3, by have := H1.out; show n1 + 1 + 1 = n + S; omega⟩
        case measure => simp [intOf]
      | 3, hm =>
        have hn3 : n1 + 1 ≤ n + 4 := by have := hn1.out; omega
        obtain ⟨x, hx⟩ : ∃ x : Nat, x = 128 + c / 64 ^ 2 % 64 := ⟨_, rfl⟩
        have ht := one_next c 2 (by rw [HS.out]; omega)
        rw [HS.out, ← hx] at ht
        have xe : (128 : Int) + (c : Int) / 4096 % 64 = (x : Int) := by omega
        have H1 := Lib.hid hn1.out
        have HX := Lib.hid ht
        clear ht hx
        go_wp2_with (at_builtin; refine wpList_app8 rfl (.tmp 31) (.tmp 39) rfl base _ n1 _ rfl (own1.alloc _) (some ⟨wr.heap.size, 0, none⟩) 1 1 [x] rfl (lies_one x rfl) (by omega) (by simp; omega) ?_; intro A3 c3 w3 own3 L3 bel3)
        rw [List.append_assoc, ← HX.out] at own3
        have hbs3 := Nat.le_trans hbs (bel3 base wr (Below.refl _ _ |>.alloc hbs _) (Nat.le_refl _)).size
        have hbel3 : Hid (∀ (B : Nat) (w0 : World), Below B w0 w → B ≤ base → Below B w0 w3) := fun B w0 hb hB => bel3 _ _ ((hbel _ _ hb hB).alloc (by omega) _) hB
        clear bel3 own1 L3 hbel
        go_wp2
        go_roundw
        case rel => exact ⟨2, n1 + 1, A3, c3, by omega, rfl, rfl, own3, hbs3, hbel3, by have := H1.out; show n1 + 1 + 2 = n + S; omega⟩
        case measure => simp [intOf]
      | m + 4, hm => omega
end Go.Proofs.YtbphdojjddnljaaDoor

