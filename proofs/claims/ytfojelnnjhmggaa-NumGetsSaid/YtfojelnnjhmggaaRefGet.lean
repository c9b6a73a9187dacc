/-
  num: the contracts of the references' Get and Fixed.
-/
import Derived.Test.YtfojelnnjhmggaaRefPut
import Derived.Deep.QuietTactic
import Derived.BigQuiet
namespace Go.Proofs.Ytfojelnnjhmggaa
open Go.RowKit

theorem val_drop {l : List Nat} {s j : Nat} (hj : j < s) (hs : s ≤ l.length) : val ((l.take s).drop j) = l.getD j 0 % 128 + 128 * val ((l.take s).drop (j + 1)) := by
  have e : (l.take s).drop j = l.getD j 0 :: (l.take s).drop (j + 1) := by
    rw [List.drop_eq_getElem_cons (by simp; omega)]
    congr 1
    simp [List.getD, show j < l.length by omega]
  rw [e, val]
theorem val_drop_le (l : List Nat) (s : Nat) : ∀ j, val ((l.take s).drop j) ≤ val (l.take s)
  | 0 => by simp
  | j + 1 => by
    have ih := val_drop_le l s j
    by_cases hj : j < (l.take s).length
    · have : val ((l.take s).drop j) = (l.take s)[j] % 128 + 128 * val ((l.take s).drop (j + 1)) := by rw [List.drop_eq_getElem_cons hj, val]
      omega
    · rw [List.drop_eq_nil_of_le (by omega)]; simp [val]

set_option maxRecDepth 100000 in
set_option maxHeartbeats 2000000 in
theorem rget_any {A : Option Addr} {n c : Nat} {l : List Nat} {w : World} (vi si ki : Int) (hvi : (gv l : Int) = vi) (hsi : (gs l : Int) = si) (hki : (ge l : Int) = ki) (h : Lies w 1 A n c (byt l)) (hl : ∀ x ∈ l, x < 256) :
    Calls Try.prog 29 #[.slice A n c] w fun e w' => e = .returned (.tuple #[.int .u64 vi, .int .i64 si, .int .i64 ki]) ∧ w = w' := by
  subst hvi hsi hki
  have hln := h.bytes_len
  have hle := h.le
  have hbig := h.big
  have HL := Lib.hid hln; have HB := Lib.hid hl
  clear hln hl
  go_enter Try.func29, Try.ntmps29
  go_wp2
  go_loop [5, 6] (fun s i => ∃ k sz : Nat, k ≤ n ∧ k ≤ 10 ∧ i = .int .i64 k ∧ s = .int .i64 sz ∧ Hid ((sz = 0 ∧ ∀ j, j < k → 128 ≤ l.getD j 0) ∨ (sz = k ∧ 1 ≤ k ∧ (∀ j, j < k - 1 → 128 ≤ l.getD j 0) ∧ l.getD (k - 1) 0 < 128))) (fun _ i => 10 - (intOf i).toNat)
  case atStart => exact ⟨0, 0, by omega, by omega, rfl, rfl, .inl ⟨rfl, fun j hj => by omega⟩⟩
  case round =>
    obtain ⟨k, sz, hk, hk10, rfl, rfl, hr⟩ := hrel
    by_cases hgo : k < n ∧ k < 10 ∧ sz = 0
    · obtain ⟨hkn, hk9, rfl⟩ := hgo
      obtain ⟨b, off, rfl, hbs, hcell⟩ := h.pos (by omega) (by decide)
      obtain ⟨ch, hch⟩ : ∃ ch, l[k]? = some ch := ⟨_, List.getElem?_eq_getElem (by have := HL.out; omega)⟩
      have hc := hcell k (.int .u8 ch) (by simp [byt, hch])
      have hgd : l.getD k 0 = ch := by simp [List.getD, hch]
      have hall : ∀ j, j < k → 128 ≤ l.getD j 0 := by
        rcases hr.out with h | h
        · exact h.2
        · omega
      have GD := Lib.hid hgd; have HA := Lib.hid hall
      clear hcell hch hgd hall
      by_cases h128 : ch < 128
      · go_wp2
        go_round
        case rel => exact ⟨k + 1, k + 1, by omega, by omega, by go_num, by go_num, .inr ⟨rfl, by omega, HA.out, by rw [Nat.add_sub_cancel, GD.out]; exact h128⟩⟩
        case measure => simp [intOf]; omega
      · go_wp2
        go_round
        case rel => exact ⟨k + 1, 0, by omega, by omega, by go_num, rfl, .inl ⟨rfl, fun j hj => by
          by_cases hjk : j = k
          · subst hjk; rw [GD.out]; omega
          · exact HA.out j (by omega)⟩⟩
        case measure => simp [intOf]; omega
    · by_cases hsz : sz = 0
      · subst hsz
        have hall : ∀ j, j < k → 128 ≤ l.getD j 0 := by
          rcases hr.out with h | h
          · exact h.2
          · omega
        have hg := get_more hall (by have := HL.out; omega) (by have := HL.out; omega)
        have G := Lib.hid hg
        have HA := Lib.hid hall
        clear hg hall
        have hk2 : k = n ∨ k = 10 := by omega
        have hln2 := HL.out
        have g1 := G.out.1; have g2 := G.out.2.1; have g3 := G.out.2.2
        by_cases hn10 : n < 10
        · rw [if_pos (by omega)] at g3
          have G2 := Lib.hid (And.intro g1 (And.intro g2 g3))
          clear g1 g2 g3 hln2
          by_cases hkn : k < n
          · omega
          · go_wp2
            go_ret3
            obtain ⟨g1, g2, g3⟩ := G2.out
            exact ⟨ret3' (by rw [g1]; rfl) (by rw [g2]; rfl) (by rw [g3]; rfl), rfl⟩
        · rw [if_neg (by omega)] at g3
          have G2 := Lib.hid (And.intro g1 (And.intro g2 g3))
          clear g1 g2 g3 hln2
          by_cases hkn : k < n
          all_goals
            go_wp2
            go_ret3
            obtain ⟨g1, g2, g3⟩ := G2.out
            exact ⟨ret3' (by rw [g1]; rfl) (by rw [g2]; rfl) (by rw [g3]; rfl), rfl⟩
      · obtain ⟨rfl, hk1, hall, hlo⟩ : sz = k ∧ 1 ≤ k ∧ (∀ j, j < k - 1 → 128 ≤ l.getD j 0) ∧ l.getD (k - 1) 0 < 128 := by
          rcases hr.out with h | h
          · omega
          · exact h
        obtain ⟨s, rfl⟩ : ∃ s, sz = s + 1 := ⟨sz - 1, by omega⟩
        rw [Nat.add_sub_cancel] at hall hlo
        obtain ⟨b, off, rfl, hbs, hcell⟩ := h.pos (by omega) (by decide)
        obtain ⟨ch, hch⟩ : ∃ ch, l[s]? = some ch := ⟨_, List.getElem?_eq_getElem (by have := HL.out; omega)⟩
        have hc := hcell s (.int .u8 ch) (by simp [byt, hch])
        have hgd : l.getD s 0 = ch := by simp [List.getD, hch]
        have hgood : bad ch s = false → gv l = val ((l.take (s + 1)).drop 0) ∧ gs l = s + 1 ∧ ge l = 0 := fun hb => by
          have hg := get_good hall (by have := HL.out; omega) (by omega) hlo (by rw [hgd]; exact hb)
          refine ⟨?_, hg.2.1, hg.2.2⟩
          rw [hg.1, List.drop_zero, val_step (by have := HL.out; omega), Nat.mod_eq_of_lt hlo]
        have hbad : bad ch s = true → 0 = gv l ∧ 0 = gs l ∧ 5 = ge l := fun hb => by
          have hg := get_bad hall (by have := HL.out; omega) (by omega) hlo (by rw [hgd]; exact hb)
          omega
        rw [hgd] at hlo
        have G0 := Lib.hid hgood; have B0 := Lib.hid hbad; have hcell := Lib.hid hcell
        clear hgood hbad hall hch hgd hsz hgo hr
        have hbd : bad ch s = true ∨ bad ch s = false := by cases bad ch s <;> simp
        by_cases hkn : s + 1 < n
        all_goals
          rcases hbd with hbb | hbb
          · have B := Lib.hid (B0.out hbb)
            have hq : (ch = 0 ∧ 0 < s) ∨ (s = 9 ∧ 1 < ch) := by
              unfold bad at hbb
              simpa using hbb
            clear hbb G0 B0
            have hcase : (s = 9 ∧ 1 < ch) ∨ (s = 9 ∧ ch = 0) ∨ (¬ s = 9 ∧ 0 < s ∧ ch = 0) := by omega
            clear hq
            rcases hcase with ⟨rfl, h1⟩ | ⟨rfl, rfl⟩ | ⟨h9, h0, rfl⟩
            all_goals
              go_wp2
              go_ret3
              obtain ⟨g1, g2, g3⟩ := B.out
              exact ⟨ret3' (by rw [← g1]; rfl) (by rw [← g2]; rfl) (by rw [← g3]; rfl), rfl⟩
          · have G := Lib.hid (G0.out hbb)
            have hq : ¬ ((ch = 0 ∧ 0 < s) ∨ (s = 9 ∧ 1 < ch)) := by
              unfold bad at hbb
              simp at hbb
              omega
            clear hbb G0 B0
            have hcase : (s = 9 ∧ ch = 1) ∨ (¬ s = 9 ∧ 0 < s ∧ ¬ ch = 0) ∨ s = 0 := by omega
            clear hq
            rcases hcase with ⟨rfl, rfl⟩ | ⟨h9, h0, h1⟩ | rfl
            · have G := Lib.hid (show gv l = val ((l.take 10).drop 0) ∧ gs l = 10 ∧ ge l = 0 from G.out)
              go_wp2
              go_loop [7, 8] (fun a i => ∃ j N : Nat, j ≤ 10 ∧ i = .int .i64 ((j : Int) - 1) ∧ a = .int .u64 N ∧ Hid (N = val ((l.take (10)).drop j))) (fun _ i => (intOf i + 1).toNat)
              case atStart => exact ⟨10, 0, Nat.le_refl _, by first | rfl | (congr 1; omega), rfl, by show _ = _; exact (congrArg val (List.drop_eq_nil_of_le (by rw [List.length_take]; omega))).symm⟩
              case round =>
                obtain ⟨j, N, hj, rfl, rfl, hN⟩ := hrel
                rcases j with _ | j
                · go_wp2
                  go_ret3
                  obtain ⟨g1, g2, g3⟩ := G.out
                  exact ⟨ret3' (by rw [g1, hN.out]) (by rw [g2]; rfl) (by rw [g3]; rfl), rfl⟩
                · obtain ⟨ch2, hch2⟩ : ∃ ch2, l[j]? = some ch2 := ⟨_, List.getElem?_eq_getElem (by have := HL.out; omega)⟩
                  have hc2 := hcell.out j (.int .u8 ch2) (by simp [byt, hch2])
                  have hgd2 : l.getD j 0 = ch2 := by simp [List.getD, hch2]
                  have hvd := val_drop (l := l) (s := 10) (j := j) (by omega) (by have := HL.out; omega)
                  have hle2 := val_drop_le l (10) j
                  have hg64 := gv_64 l HB.out
                  rw [G.out.1, List.drop_zero] at hg64
                  rw [hgd2, ← hN.out] at hvd
                  have hb2 : ch2 < 256 := HB.out ch2 (List.mem_of_getElem? hch2)
                  have hw1 : IntKind.u64.wrap ((N : Int) * 128) = (N : Int) * 128 := by rw [IntKind.wrap_u64]; omega
                  have hw2 : IntKind.u64.wrap ((N : Int) * 128 + (ch2 : Int) % 128) = (N : Int) * 128 + (ch2 : Int) % 128 := by rw [IntKind.wrap_u64]; omega
                  have HV := Lib.hid hvd
                  clear hch2 hgd2 hvd hle2 hg64
                  go_wp2
                  go_round
                  case rel => exact ⟨j, N * 128 + ch2 % 128, by omega, by go_num, by go_num, by show _ = _; rw [HV.out]; omega⟩
                  case measure => first | (simp [intOf]; done) | (simp [intOf]; omega)
            · go_wp2
              go_loop [7, 8] (fun a i => ∃ j N : Nat, j ≤ s + 1 ∧ i = .int .i64 ((j : Int) - 1) ∧ a = .int .u64 N ∧ Hid (N = val ((l.take (s + 1)).drop j))) (fun _ i => (intOf i + 1).toNat)
              case atStart => exact ⟨s + 1, 0, Nat.le_refl _, by first | rfl | (congr 1; omega), rfl, by show _ = _; exact (congrArg val (List.drop_eq_nil_of_le (by rw [List.length_take]; omega))).symm⟩
              case round =>
                obtain ⟨j, N, hj, rfl, rfl, hN⟩ := hrel
                rcases j with _ | j
                · go_wp2
                  go_ret3
                  obtain ⟨g1, g2, g3⟩ := G.out
                  exact ⟨ret3' (by rw [g1, hN.out]) (by rw [g2]; rfl) (by rw [g3]; rfl), rfl⟩
                · obtain ⟨ch2, hch2⟩ : ∃ ch2, l[j]? = some ch2 := ⟨_, List.getElem?_eq_getElem (by have := HL.out; omega)⟩
                  have hc2 := hcell.out j (.int .u8 ch2) (by simp [byt, hch2])
                  have hgd2 : l.getD j 0 = ch2 := by simp [List.getD, hch2]
                  have hvd := val_drop (l := l) (s := s + 1) (j := j) (by omega) (by have := HL.out; omega)
                  have hle2 := val_drop_le l (s + 1) j
                  have hg64 := gv_64 l HB.out
                  rw [G.out.1, List.drop_zero] at hg64
                  rw [hgd2, ← hN.out] at hvd
                  have hb2 : ch2 < 256 := HB.out ch2 (List.mem_of_getElem? hch2)
                  have hw1 : IntKind.u64.wrap ((N : Int) * 128) = (N : Int) * 128 := by rw [IntKind.wrap_u64]; omega
                  have hw2 : IntKind.u64.wrap ((N : Int) * 128 + (ch2 : Int) % 128) = (N : Int) * 128 + (ch2 : Int) % 128 := by rw [IntKind.wrap_u64]; omega
                  have HV := Lib.hid hvd
                  clear hch2 hgd2 hvd hle2 hg64
                  go_wp2
                  go_round
                  case rel => exact ⟨j, N * 128 + ch2 % 128, by omega, by go_num, by go_num, by show _ = _; rw [HV.out]; omega⟩
                  case measure => first | (simp [intOf]; done) | (simp [intOf]; omega)
            · have G := Lib.hid (show gv l = val ((l.take 1).drop 0) ∧ gs l = 1 ∧ ge l = 0 from G.out)
              go_wp2
              go_loop [7, 8] (fun a i => ∃ j N : Nat, j ≤ 1 ∧ i = .int .i64 ((j : Int) - 1) ∧ a = .int .u64 N ∧ Hid (N = val ((l.take (1)).drop j))) (fun _ i => (intOf i + 1).toNat)
              case atStart => exact ⟨1, 0, Nat.le_refl _, by first | rfl | (congr 1; omega), rfl, by show _ = _; exact (congrArg val (List.drop_eq_nil_of_le (by rw [List.length_take]; omega))).symm⟩
              case round =>
                obtain ⟨j, N, hj, rfl, rfl, hN⟩ := hrel
                rcases j with _ | j
                · go_wp2
                  go_ret3
                  obtain ⟨g1, g2, g3⟩ := G.out
                  exact ⟨ret3' (by rw [g1, hN.out]) (by rw [g2]; rfl) (by rw [g3]; rfl), rfl⟩
                · obtain ⟨ch2, hch2⟩ : ∃ ch2, l[j]? = some ch2 := ⟨_, List.getElem?_eq_getElem (by have := HL.out; omega)⟩
                  have hc2 := hcell.out j (.int .u8 ch2) (by simp [byt, hch2])
                  have hgd2 : l.getD j 0 = ch2 := by simp [List.getD, hch2]
                  have hvd := val_drop (l := l) (s := 1) (j := j) (by omega) (by have := HL.out; omega)
                  have hle2 := val_drop_le l (1) j
                  have hg64 := gv_64 l HB.out
                  rw [G.out.1, List.drop_zero] at hg64
                  rw [hgd2, ← hN.out] at hvd
                  have hb2 : ch2 < 256 := HB.out ch2 (List.mem_of_getElem? hch2)
                  have hw1 : IntKind.u64.wrap ((N : Int) * 128) = (N : Int) * 128 := by rw [IntKind.wrap_u64]; omega
                  have hw2 : IntKind.u64.wrap ((N : Int) * 128 + (ch2 : Int) % 128) = (N : Int) * 128 + (ch2 : Int) % 128 := by rw [IntKind.wrap_u64]; omega
                  have HV := Lib.hid hvd
                  clear hch2 hgd2 hvd hle2 hg64
                  go_wp2
                  go_round
                  case rel => exact ⟨j, N * 128 + ch2 % 128, by omega, by go_num, by go_num, by show _ = _; rw [HV.out]; omega⟩
                  case measure => first | (simp [intOf]; done) | (simp [intOf]; omega)
theorem lev_drop {l : List Nat} {s j : Nat} (hj : j < s) (hs : s ≤ l.length) : lev (s - j) (l.drop j) = l.getD j 0 + 256 * lev (s - (j + 1)) (l.drop (j + 1)) := by
  have e : l.drop j = l.getD j 0 :: l.drop (j + 1) := by
    rw [List.drop_eq_getElem_cons (by omega)]
    congr 1
    simp [List.getD, show j < l.length by omega]
  rw [e, show s - j = (s - (j + 1)) + 1 by omega, lev]
theorem lev_lt64 (l : List Nat) (hl : ∀ c ∈ l, c < 256) (k : Nat) (hk : k ≤ 8) : lev k l < 18446744073709551616 :=
  Nat.lt_of_lt_of_le (lev_lt k l hl) (by
    have : 256 ^ k ≤ 256 ^ 8 := Nat.pow_le_pow_right (by decide) hk
    exact this)
set_option maxRecDepth 100000 in
theorem rfixed_any {A : Option Addr} {n c s : Nat} {l : List Nat} {w : World} (si vi ki : Int) (hsi : si = (s : Int)) (hs : s ≤ 8) (hvi : (fv s l : Int) = vi) (hki : (fe s l : Int) = ki) (h : Lies w 1 A n c (byt l)) (hl : ∀ x ∈ l, x < 256) :
    Calls Try.prog 31 #[.slice A n c, .int .i64 si] w fun e w' => e = .returned (.tuple #[.int .u64 vi, .int .i64 ki]) ∧ w = w' := by
  subst hsi hvi hki
  have hln := h.bytes_len
  have hle := h.le
  have hbig := h.big
  have HL := Lib.hid hln; have HB := Lib.hid hl
  clear hln hl
  by_cases hsn : n < s
  · go_enter Try.func31, Try.ntmps31
    go_wp2
    go_ret2
    have := HL.out
    exact ⟨by rw [fv, fe, if_pos (by omega), if_pos (by omega)]; rfl, rfl⟩
  · go_enter Try.func31, Try.ntmps31
    go_wp2
    go_loop [6, 7] (fun a i => ∃ j N : Nat, j ≤ s ∧ i = .int .i64 ((j : Int) - 1) ∧ a = .int .u64 N ∧ Hid (N = lev (s - j) (l.drop j))) (fun _ i => (intOf i + 1).toNat)
    case atStart => exact ⟨s, 0, Nat.le_refl _, by first | rfl | go_num, rfl, by show _ = _; rw [Nat.sub_self]; rfl⟩
    case round =>
      obtain ⟨j, N, hj, rfl, rfl, hN⟩ := hrel
      rcases j with _ | j
      · go_wp2
        go_ret2
        have := HL.out
        have hN := hN.out
        rw [Nat.sub_zero, List.drop_zero] at hN
        exact ⟨by rw [fv, fe, if_neg (by omega), if_neg (by omega), ← hN]; rfl, rfl⟩
      · obtain ⟨b, off, rfl, hbs, hcell⟩ := h.pos (by omega) (by decide)
        obtain ⟨ch, hch⟩ : ∃ ch, l[j]? = some ch := ⟨_, List.getElem?_eq_getElem (by have := HL.out; omega)⟩
        have hc := hcell j (.int .u8 ch) (by simp [byt, hch])
        have hgd : l.getD j 0 = ch := by simp [List.getD, hch]
        have hb2 : ch < 256 := HB.out ch (List.mem_of_getElem? hch)
        have hd := lev_drop (l := l) (s := s) (j := j) (by omega) (by have := HL.out; omega)
        rw [hgd, ← hN.out] at hd
        have h64 := lev_lt64 (l.drop j) (fun c hc => HB.out c (List.mem_of_mem_drop hc)) (s - j) (by omega)
        rw [hd] at h64
        have hw1 : IntKind.u64.wrap ((N : Int) * 256) = (N : Int) * 256 := by rw [IntKind.wrap_u64]; omega
        have hw2 : IntKind.u64.wrap ((N : Int) * 256 + (ch : Int)) = (N : Int) * 256 + (ch : Int) := by rw [IntKind.wrap_u64]; omega
        have HV := Lib.hid hd
        clear hch hgd hd h64 hcell
        go_wp2
        go_round
        case rel => exact ⟨j, N * 256 + ch, by omega, by go_num, by go_num, by show _ = _; rw [HV.out]; omega⟩
        case measure => first | (simp [intOf]; done) | (simp [intOf]; omega)
end Go.Proofs.Ytfojelnnjhmggaa
