/-
  crc: the contracts of Concat (two parts), Mark, Strip.
-/
import Derived.Test.YthoaagkllkcacaaDoorParts
namespace Go.Proofs.YthoaagkllkcacaaDoor
open Go.RowKit

theorem then_ {a b c : World} (h : Below a.heap.size a b) (k : Below b.heap.size b c) : Below a.heap.size a c := h.trans (k.mono h.size)
theorem below_drawn {B : Nat} {a w : World} (h : Below B a w) (n : Nat) : Below B a (w.drewN n) := ⟨h.os, h.tape, h.output, h.size, h.block⟩
set_option maxRecDepth 100000 in
set_option maxHeartbeats 1000000 in
theorem concat_any {A : Option Addr} {k c : Nat} {vs : List (Option Addr × Nat × Nat)} {ls : List (List Nat)} {w : World} (N : Nat) (hN : N = ls.flatten.length) (h0 : 0 < N) (hm : N ≤ 140737488355328) (hP : Parts w A k c vs ls) :
    Calls Tryd.prog 18 #[.slice A k c] w fun e w' => ∃ A' c', e = .returned (.slice A' N c') ∧ w'.ownsRow w.heap.size 5 1 (.slice A' N c') N (byt ls.flatten) ∧ Lies w' 1 A' N c' (byt ls.flatten) ∧ Below w.heap.size w w' := by
  have hle := hP.lies.le
  have hbig := hP.lies.big
  have HN := Lib.hid hN
  clear hN
  go_enter Tryd.func18, Tryd.ntmps18
  go_wp2
  go_loop [3, 11] (fun x i => ∃ q M : Nat, q ≤ k ∧ i = .int .i64 q ∧ x = .int .i64 M ∧ Hid (M = (ls.take q).flatten.length)) (fun _ i => k - (intOf i).toNat)
  case atStart => exact ⟨0, 0, Nat.zero_le _, rfl, rfl, by simp [Hid]⟩
  case round =>
    obtain ⟨q, M, hq, rfl, rfl, hr⟩ := hrel
    by_cases hlt : q < k
    · obtain ⟨b, off, rfl, hbs, -⟩ := hP.lies.pos (by omega) (by decide)
      obtain ⟨B, n, d, l, hc, hls, hL, hb⟩ := hP.at_ hlt
      simp only [Option.getD_some, add_none] at hc
      have hs : (ls.take (q + 1)).flatten.length = M + n := by
        rw [List.take_add_one, hls, hr.out, List.flatten_append, List.length_append]
        simp [hL.bytes_len]
      have hcap : M + n ≤ N := by
        rw [← hs, HN.out]
        conv => rhs; rw [← List.take_append_drop (q + 1) ls, List.flatten_append, List.length_append]
        omega
      have HS := Lib.hid hs
      clear hs hls
      go_wp2
      go_round
      case rel => exact ⟨q + 1, M + n, by omega, by go_num, by go_num, HS.out.symm⟩
      case measure => simp [intOf]; omega
    · obtain rfl : q = k := by omega
      have hfin : M = N := by rw [hr.out, HN.out, ← hP.len, List.take_length]
      subst hfin
      go_wp2_with fail
      refine (grow_any h0 hm).mono ?_
      rintro e w1 ⟨G, d, rfl, own1, hb1⟩
      have h1 : 1 ≤ w1.heap.size := by
        have := hb1.size
        by_cases hk : 0 < q
        · obtain ⟨b, off, rfl, hbs, -⟩ := hP.lies.pos hk (by decide)
          omega
        · have : ls = [] := List.eq_nil_of_length_eq_zero (by have := hP.len; omega)
          subst this
          have := HN.out
          simp at this
          omega
      go_wp2
      go_loopw [6, 27] (fun v i wr => ∃ (p M2 : Nat) (A2 : Option Addr) (c2 : Nat), p ≤ q ∧ i = .int .i64 p ∧ v = .slice A2 M2 c2 ∧ wr.ownsRow w.heap.size 5 1 (.slice A2 M2 c2) M2 (byt (ls.take p).flatten) ∧ Below w.heap.size w wr ∧ Hid (M2 = (ls.take p).flatten.length)) (fun _ i _ => q - (intOf i).toNat)
      case atStart => exact ⟨0, 0, G, d, Nat.zero_le _, rfl, rfl, by simpa using own1, hb1, by simp [Hid]⟩
      case round =>
        obtain ⟨p, M2, A2, c2, hp, rfl, rfl, own2, hb2, hr2⟩ := hrel
        by_cases hlt2 : p < q
        · obtain ⟨b, off, rfl, hbs, -⟩ := hP.lies.pos (by omega) (by decide)
          obtain ⟨B, n, d', l, hc, hls, hL, hb⟩ := hP.at_ hlt2
          simp only [Option.getD_some, add_none] at hc
          have hc2 := (hb2.cell (p := ⟨b, off + p, none⟩) hbs).trans hc
          have hs : (ls.take (p + 1)).flatten = (ls.take p).flatten ++ l := by
            rw [List.take_add_one, hls, List.flatten_append]; simp
          have hs2 : (ls.take (p + 1)).flatten.length = M2 + n := by rw [hs, List.length_append, ← hr2.out, hL.bytes_len]
          have hcap : M2 + n ≤ M := by
            rw [← hs2, HN.out]
            conv => rhs; rw [← List.take_append_drop (p + 1) ls, List.flatten_append, List.length_append]
            omega
          have HS := Lib.hid hs; have HS2 := Lib.hid hs2
          clear hs hs2 hls hc
          go_wp2_with (at_builtin; refine wpList_app8 rfl (.tmp 31) (.tmp 32) rfl w.heap.size _ M2 _ rfl own2 B n d' l rfl (hL.below hb2 (Nat.le_refl _)) (by omega) hb2.size ?_; intro A3 c3 w3 own3 L3 bel3)
          have hb3 := bel3 _ _ hb2 (Nat.le_refl _)
          rw [← HS.out] at own3
          clear bel3 own2 L3 hb2
          go_wp2
          go_roundw
          case rel => exact ⟨p + 1, M2 + n, A3, c3, by omega, by go_num, rfl, own3, hb3, HS2.out.symm⟩
          case measure => simp [intOf]; omega
        · obtain rfl : p = q := by omega
          have e : ls.take p = ls := by rw [← hP.len, List.take_length]
          have hM2 : M2 = M := by rw [hr2.out, e, HN.out]
          rw [e] at own2
          subst hM2
          have L2 := Lies.of_own own2
          clear e
          go_wp2
          go_ret
          exact ⟨A2, c2, rfl, own2, L2, hb2⟩
set_option maxRecDepth 100000 in
theorem mark_any {A : Option Addr} {n c : Nat} {l : List Nat} {w : World} (hT : Tab w) (hL : Lies w 1 A n c (byt l)) (hl : ∀ x ∈ l, x < 256) (hn : n ≤ 140737488355320) :
    Calls Tryd.prog 10 #[.slice A n c] w fun e w' => ∃ A' c', e = .returned (.slice A' (n + 4) c') ∧ w'.ownsRow w.heap.size 5 1 (.slice A' (n + 4) c') (n + 4) (byt (l ++ le4 (sum l))) ∧ Lies w' 1 A' (n + 4) c' (byt (l ++ le4 (sum l))) ∧ Below w.heap.size w w' := by
  have hs := sum_lt hl
  have hln := hL.bytes_len
  have HS := Lib.hid hs; have HLN := Lib.hid hln
  clear hs hln
  go_enter Tryd.func10, Tryd.ntmps10
  go_wp2_with fail
  refine (sum1_any hT rfl hL hl).mono ?_
  rintro e w1 ⟨rfl, rfl⟩
  go_wp2_with fail
  refine (laid_any HS.out).mono ?_
  rintro e w2 ⟨A2, c2, rfl, L2, hb2⟩
  have hb02 : Below w.heap.size w w2 := ((Below.refl _ _).alloc (Nat.le_refl _) _).trans (hb2.mono (by simp))
  go_wp2_with fail
  have hP := parts_lit (w := w2) (g := w2.heap.size) (e := 23) (cs := #[.slice A n c, .slice A2 4 c2]) [(A, n, c), (A2, 4, c2)] [l, le4 (sum l)] 2 rfl rfl rfl rfl (by decide) (by
    intro j v l' hv hl'
    match j with
    | 0 => simp at hv hl'; subst hv hl'; exact ⟨hL.below hb02 (Nat.le_refl _), hl⟩
    | 1 => simp at hv hl'; subst hv hl'; exact ⟨L2, le4_bytes _⟩
    | j + 2 => simp at hv)
  have hfl : [l, le4 (sum l)].flatten = l ++ le4 (sum l) := by simp
  refine (concat_any (n + 4) (by rw [hfl, List.length_append, HLN.out]; rfl) (by omega) (by omega) hP).mono ?_
  rw [hfl]
  rintro e w3 ⟨A3, c3, rfl, own3, L3, hb3⟩
  have hsz := hb02.size
  go_wp2
  go_ret
  exact ⟨A3, c3, rfl, own3.mono (by simp; omega), L3, (hb02.alloc hb02.size _).trans (hb3.mono (by simp; omega))⟩
end Go.Proofs.YthoaagkllkcacaaDoor
