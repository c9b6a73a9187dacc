/-
  crc: the walk of CrcMore.
-/
import Derived.Test.YthoaagkllkcacaaDoorWakes
namespace Go.Proofs.YthoaagkllkcacaaDoor
open Go.RowKit

theorem more_of {s : Nat} {A : Option Addr} {n c : Nat} {l : List Nat} {w : World} (r : Int) (hr : (more s l : Int) = r) (hT : Tab w) (hs : s < 4294967296) (h : Lies w 1 A n c (byt l)) (hl : ∀ x ∈ l, x < 256) :
    Calls Tryd.prog 17 #[.int .u32 s, .slice A n c] w fun e w' => e = .returned (.int .u32 r) ∧ w = w' := by
  subst hr
  exact more_any hT hs h hl
theorem sum_of {A : Option Addr} {k c : Nat} {vs : List (Option Addr × Nat × Nat)} {ls : List (List Nat)} {w : World} (r : Int) (hr : (sum ls.flatten : Int) = r) (hT : Tab w) (hP : Parts w A k c vs ls) :
    Calls Tryd.prog 13 #[.slice A k c] w fun e w' => e = .returned (.int .u32 r) ∧ w = w' := by
  subst hr
  exact sum_any hT hP
theorem parts_heap {w W : World} (hW : W.heap = w.heap) {A : Option Addr} {k c : Nat} {vs : List (Option Addr × Nat × Nat)} {ls : List (List Nat)} (h : Parts w A k c vs ls) : Parts W A k c vs ls :=
  ⟨lies_heap hW h.lies, h.len, fun j v l hv hl => ⟨lies_heap hW (h.each j v l hv hl).1, (h.each j v l hv hl).2⟩⟩
theorem tab_heap {w W : World} (hW : W.heap = w.heap) (h : Tab w) : Tab W := fun j hj => by rw [cell_heap hW]; exact h j hj
theorem rsum_of {A : Option Addr} {n c : Nat} {l : List Nat} {w : World} (r : Int) (hr : (sum l : Int) = r) (hA : Lies w 1 A n c (byt l)) (hl : ∀ x ∈ l, x < 256) :
    Calls Tryd.prog 14 #[.slice A n c] w fun e w' => e = .returned (.int .u32 r) ∧ w = w' := by
  subst hr
  exact rsum_any hA hl
theorem sum1_heap_of {A : Option Addr} {n c g : Nat} {l : List Nat} {w W : World} {t : TypeId} (r : Int) (hr : (sum l : Int) = r) (hW : W.heap = (w.alloc (.cells #[.slice A n c] t)).heap) (hT : Tab w) (hg : g = w.heap.size) (hL : Lies w 1 A n c (byt l)) (hb : ∀ x ∈ l, x < 256) :
    Calls Tryd.prog 13 #[.slice (some ⟨g, 0, none⟩) 1 1] W fun e w' => e = .returned (.int .u32 r) ∧ W = w' := by
  subst hr
  exact sum1_heap hW hT hg hL hb

set_option maxRecDepth 100000 in
set_option maxHeartbeats 3000000 in
set_option linter.unusedVariables false in
theorem crcmore_full {A : Option Addr} {k : Nat} {S S1 : Nat} {l : List Nat} {w : World} (hT : Tab w) (hL : Lies w 1 A k k (byt l)) (hc1 : Lies w 1 A k k (byt (l.take k))) (hc2 : Lies w 1 A (0) (0) (byt (l.drop k)))
   (a : Nat) (i4 : (a : Int) < 65536) (hki : ((a : Int) % (((k : Nat) : Int) + 1)) = ((k : Nat) : Int))
   (hle : k ≤ k) (hbig : k ≤ 9223372036854775807) (hr : k * 1 ≤ 140737488351232) 
   (HB : Hid (∀ x ∈ l, x < 256)) (HB1 : Hid (∀ x ∈ l.take k, x < 256)) (HB2 : Hid (∀ x ∈ l.drop k, x < 256)) (HS : Hid (S = sum l)) (HS1 : Hid (S1 = sum (l.take k))) (S1l : Hid (S1 < 4294967296)) (Sl : Hid (S < 4294967296)) (M1 : Hid (more S1 (l.drop k) = S)) (M3 : Hid (more S [] = S)) (M2 : Hid (sum [l.take k, [], l.drop k].flatten = S)) :
    Calls Tryd.prog 4 #[.slice A k k, .int .u16 a] w fun e w' => e = .returned (.bool true) ∧ Below w.heap.size w w' := by
  go_enter Tryd.func4, Tryd.ntmps4
  go_wp2_with fail
  refine (rsum_of S (by rw [HS.out]) hL HB.out).mono ?_
  rintro e w1 ⟨rfl, rfl⟩
  go_wp2_with fail
  have hP3 : Parts ((w.alloc (.cells #[.slice A k k] 23)).alloc (.cells #[.slice A k k, .slice none 0 0, .slice A 0 0] 23)) (some ⟨w.heap.size + 1, 0, none⟩) 3 3 [(A, k, k), (none, 0, 0), (A, 0, 0)] [l.take k, [], l.drop k] := by
    refine parts_lit _ _ 3 (by simp) rfl rfl rfl (by decide) ?_
    intro j v l' hv hl'
    match j with
    | 0 => simp at hv hl'; subst hv hl'; exact ⟨hc1.alloc _, HB1.out⟩
    | 1 => simp at hv hl'; subst hv hl'; exact ⟨Lies.nil _ _, by simp⟩
    | 2 => simp at hv hl'; subst hv hl'; exact ⟨hc2.alloc _, HB2.out⟩
    | j + 3 => simp at hv
  have HP3 := Lib.hid hP3; clear hP3
  have T1 := Lib.hid (hT.alloc (.cells #[.slice A k k] 23))
  have T2 := Lib.hid (T1.out.alloc (.cells #[.slice A k k, .slice none 0 0, .slice A 0 0] 23))
  have C1 := Lib.hid hc1
  have C2 := Lib.hid (hc2.alloc (.cells #[.slice A k k] 23))
  have HT := Lib.hid hT
  clear hT hc1 hc2 hL
  go_region_held3 (fun _ => True) (trivial) (first
    | (go_at_call 13; (with_reducible show Calls _ _ #[.slice _ 1 1] _ _); refine (sum1_heap_of S1 (by rw [HS1.out]) (by rfl) HT.out rfl C1.out HB1.out).mono ?_; rintro e w1 ⟨rfl, rfl⟩)
    | (go_at_call 13; (with_reducible show Calls _ _ #[.slice _ 3 3] _ _); refine (sum_of S (by rw [M2.out]) (tab_heap (by rfl) T2.out) (parts_heap (by rfl) HP3.out)).mono ?_; rintro e w1 ⟨rfl, rfl⟩)
    | (go_at_call 17; (with_reducible show Calls _ _ #[.int .u32 (S1 : Int), _] _ _); refine (more_of S (by rw [M1.out]) (tab_heap (by rfl) T1.out) S1l.out (lies_heap (by rfl) C2.out) HB2.out).mono ?_; rintro e w3 ⟨rfl, rfl⟩)
    | (go_at_call 17; (with_reducible show Calls _ _ #[.int .u32 (S : Int), _] _ _); refine (more_of S (by rw [M3.out]) (tab_heap (by rfl) T2.out) Sl.out (Lies.nil _ _) (by simp)).mono ?_; rintro e w3 ⟨rfl, rfl⟩)
    | (go_at_call 16; refine (wakes_any (tab_heap (by rfl) T2.out)).mono ?_; rintro e w5 ⟨rfl, hb5⟩; have hbw : Below w.heap.size w w5 := Below.trans (show Below w.heap.size w _ from below_drawn (((Below.refl _ w).alloc (Nat.le_refl _) (.cells #[.slice A k k] 23)).alloc (by simp) (.cells #[.slice A k k, .slice none 0 0, .slice A 0 0] 23)) _) (hb5.mono (by simp; omega))))
  go_wp2
  go_ret
  exact ⟨rfl, hbw⟩

set_option maxRecDepth 100000 in
set_option maxHeartbeats 3000000 in
set_option linter.unusedVariables false in
theorem crcmore_none {ad : Addr} {c : Nat} {S S1 : Nat} {l : List Nat} {w : World} (hT : Tab w) (hL : Lies w 1 (some ad) 0 c (byt l)) (hc1 : Lies w 1 (some ad) 0 c (byt (l.take 0))) (hc2 : Lies w 1 (some ad) (0) (c) (byt (l.drop 0)))
   (a : Nat) (i4 : (a : Int) < 65536) (hki : ((a : Int) % (((0 : Nat) : Int) + 1)) = ((0 : Nat) : Int))
   (hle : 0 ≤ c) (hbig : c ≤ 9223372036854775807) (hr : c * 1 ≤ 140737488351232) (hck : ¬ c = 0)
   (HB : Hid (∀ x ∈ l, x < 256)) (HB1 : Hid (∀ x ∈ l.take 0, x < 256)) (HB2 : Hid (∀ x ∈ l.drop 0, x < 256)) (HS : Hid (S = sum l)) (HS1 : Hid (S1 = sum (l.take 0))) (S1l : Hid (S1 < 4294967296)) (Sl : Hid (S < 4294967296)) (M1 : Hid (more S1 (l.drop 0) = S)) (M3 : Hid (more S [] = S)) (M2 : Hid (sum [l.take 0, [], l.drop 0].flatten = S)) :
    Calls Tryd.prog 4 #[.slice (some ad) 0 c, .int .u16 a] w fun e w' => e = .returned (.bool true) ∧ Below w.heap.size w w' := by
  go_enter Tryd.func4, Tryd.ntmps4
  go_wp2_with fail
  refine (rsum_of S (by rw [HS.out]) hL HB.out).mono ?_
  rintro e w1 ⟨rfl, rfl⟩
  go_wp2_with fail
  have hP3 : Parts ((w.alloc (.cells #[.slice (some ad) 0 c] 23)).alloc (.cells #[.slice (some ad) 0 c, .slice none 0 0, .slice (some ad) 0 c] 23)) (some ⟨w.heap.size + 1, 0, none⟩) 3 3 [((some ad), 0, c), (none, 0, 0), ((some ad), 0, c)] [l.take 0, [], l.drop 0] := by
    refine parts_lit _ _ 3 (by simp) rfl rfl rfl (by decide) ?_
    intro j v l' hv hl'
    match j with
    | 0 => simp at hv hl'; subst hv hl'; exact ⟨hc1.alloc _, HB1.out⟩
    | 1 => simp at hv hl'; subst hv hl'; exact ⟨Lies.nil _ _, by simp⟩
    | 2 => simp at hv hl'; subst hv hl'; exact ⟨hc2.alloc _, HB2.out⟩
    | j + 3 => simp at hv
  have HP3 := Lib.hid hP3; clear hP3
  have T1 := Lib.hid (hT.alloc (.cells #[.slice (some ad) 0 c] 23))
  have T2 := Lib.hid (T1.out.alloc (.cells #[.slice (some ad) 0 c, .slice none 0 0, .slice (some ad) 0 c] 23))
  have C1 := Lib.hid hc1
  have C2 := Lib.hid (hc2.alloc (.cells #[.slice (some ad) 0 c] 23))
  have HT := Lib.hid hT
  clear hT hc1 hc2 hL
  go_region_held3 (fun _ => True) (trivial) (first
    | (go_at_call 13; (with_reducible show Calls _ _ #[.slice _ 1 1] _ _); refine (sum1_heap_of S1 (by rw [HS1.out]) (by rfl) HT.out rfl C1.out HB1.out).mono ?_; rintro e w1 ⟨rfl, rfl⟩)
    | (go_at_call 13; (with_reducible show Calls _ _ #[.slice _ 3 3] _ _); refine (sum_of S (by rw [M2.out]) (tab_heap (by rfl) T2.out) (parts_heap (by rfl) HP3.out)).mono ?_; rintro e w1 ⟨rfl, rfl⟩)
    | (go_at_call 17; (with_reducible show Calls _ _ #[.int .u32 (S1 : Int), _] _ _); refine (more_of S (by rw [M1.out]) (tab_heap (by rfl) T1.out) S1l.out (lies_heap (by rfl) C2.out) HB2.out).mono ?_; rintro e w3 ⟨rfl, rfl⟩)
    | (go_at_call 17; (with_reducible show Calls _ _ #[.int .u32 (S : Int), _] _ _); refine (more_of S (by rw [M3.out]) (tab_heap (by rfl) T2.out) Sl.out (Lies.nil _ _) (by simp)).mono ?_; rintro e w3 ⟨rfl, rfl⟩)
    | (go_at_call 16; refine (wakes_any (tab_heap (by rfl) T2.out)).mono ?_; rintro e w5 ⟨rfl, hb5⟩; have hbw : Below w.heap.size w w5 := Below.trans (show Below w.heap.size w _ from below_drawn (((Below.refl _ w).alloc (Nat.le_refl _) (.cells #[.slice (some ad) 0 c] 23)).alloc (by simp) (.cells #[.slice (some ad) 0 c, .slice none 0 0, .slice (some ad) 0 c] 23)) _) (hb5.mono (by simp; omega))))
  go_wp2
  go_ret
  exact ⟨rfl, hbw⟩

set_option maxRecDepth 100000 in
set_option maxHeartbeats 3000000 in
set_option linter.unusedVariables false in
theorem crcmore_mid {g off n c k : Nat} {S S1 : Nat} {l : List Nat} {w : World} (hT : Tab w) (hL : Lies w 1 (some ⟨g, off, none⟩) n c (byt l)) (hc1 : Lies w 1 (some ⟨g, off, none⟩) k c (byt (l.take k))) (hc2 : Lies w 1 (some ⟨g, off + k, none⟩) ((n - k)) ((c - k)) (byt (l.drop k)))
   (a : Nat) (i4 : (a : Int) < 65536) (hki : ((a : Int) % (((n : Nat) : Int) + 1)) = ((k : Nat) : Int))
   (hle : n ≤ c) (hbig : c ≤ 9223372036854775807) (hr : c * 1 ≤ 140737488351232) (i1 : (0 : Int) ≤ (k : Int)) (i2 : (k : Int) ≤ (n : Int)) (i3 : (k : Int) ≤ (c : Int)) (hck : ¬ c = k) (h0 : 0 < n)
   (HB : Hid (∀ x ∈ l, x < 256)) (HB1 : Hid (∀ x ∈ l.take k, x < 256)) (HB2 : Hid (∀ x ∈ l.drop k, x < 256)) (HS : Hid (S = sum l)) (HS1 : Hid (S1 = sum (l.take k))) (S1l : Hid (S1 < 4294967296)) (Sl : Hid (S < 4294967296)) (M1 : Hid (more S1 (l.drop k) = S)) (M3 : Hid (more S [] = S)) (M2 : Hid (sum [l.take k, [], l.drop k].flatten = S)) :
    Calls Tryd.prog 4 #[.slice (some ⟨g, off, none⟩) n c, .int .u16 a] w fun e w' => e = .returned (.bool true) ∧ Below w.heap.size w w' := by
  go_enter Tryd.func4, Tryd.ntmps4
  go_wp2_with fail
  refine (rsum_of S (by rw [HS.out]) hL HB.out).mono ?_
  rintro e w1 ⟨rfl, rfl⟩
  go_wp2_with fail
  have hP3 : Parts ((w.alloc (.cells #[.slice (some ⟨g, off, none⟩) k c] 23)).alloc (.cells #[.slice (some ⟨g, off, none⟩) k c, .slice none 0 0, .slice (some ⟨g, off + k, none⟩) (n - k) (c - k)] 23)) (some ⟨w.heap.size + 1, 0, none⟩) 3 3 [((some ⟨g, off, none⟩), k, c), (none, 0, 0), ((some ⟨g, off + k, none⟩), (n - k), (c - k))] [l.take k, [], l.drop k] := by
    refine parts_lit _ _ 3 (by simp) rfl rfl rfl (by decide) ?_
    intro j v l' hv hl'
    match j with
    | 0 => simp at hv hl'; subst hv hl'; exact ⟨hc1.alloc _, HB1.out⟩
    | 1 => simp at hv hl'; subst hv hl'; exact ⟨Lies.nil _ _, by simp⟩
    | 2 => simp at hv hl'; subst hv hl'; exact ⟨hc2.alloc _, HB2.out⟩
    | j + 3 => simp at hv
  have HP3 := Lib.hid hP3; clear hP3
  have T1 := Lib.hid (hT.alloc (.cells #[.slice (some ⟨g, off, none⟩) k c] 23))
  have T2 := Lib.hid (T1.out.alloc (.cells #[.slice (some ⟨g, off, none⟩) k c, .slice none 0 0, .slice (some ⟨g, off + k, none⟩) (n - k) (c - k)] 23))
  have C1 := Lib.hid hc1
  have C2 := Lib.hid (hc2.alloc (.cells #[.slice (some ⟨g, off, none⟩) k c] 23))
  have HT := Lib.hid hT
  clear hT hc1 hc2 hL
  go_region_held3 (fun _ => True) (trivial) (first
    | (go_at_call 13; (with_reducible show Calls _ _ #[.slice _ 1 1] _ _); refine (sum1_heap_of S1 (by rw [HS1.out]) (by rfl) HT.out rfl C1.out HB1.out).mono ?_; rintro e w1 ⟨rfl, rfl⟩)
    | (go_at_call 13; (with_reducible show Calls _ _ #[.slice _ 3 3] _ _); refine (sum_of S (by rw [M2.out]) (tab_heap (by rfl) T2.out) (parts_heap (by rfl) HP3.out)).mono ?_; rintro e w1 ⟨rfl, rfl⟩)
    | (go_at_call 17; (with_reducible show Calls _ _ #[.int .u32 (S1 : Int), _] _ _); refine (more_of S (by rw [M1.out]) (tab_heap (by rfl) T1.out) S1l.out (lies_heap (by rfl) C2.out) HB2.out).mono ?_; rintro e w3 ⟨rfl, rfl⟩)
    | (go_at_call 17; (with_reducible show Calls _ _ #[.int .u32 (S : Int), _] _ _); refine (more_of S (by rw [M3.out]) (tab_heap (by rfl) T2.out) Sl.out (Lies.nil _ _) (by simp)).mono ?_; rintro e w3 ⟨rfl, rfl⟩)
    | (go_at_call 16; refine (wakes_any (tab_heap (by rfl) T2.out)).mono ?_; rintro e w5 ⟨rfl, hb5⟩; have hbw : Below w.heap.size w w5 := Below.trans (show Below w.heap.size w _ from below_drawn (((Below.refl _ w).alloc (Nat.le_refl _) (.cells #[.slice (some ⟨g, off, none⟩) k c] 23)).alloc (by simp) (.cells #[.slice (some ⟨g, off, none⟩) k c, .slice none 0 0, .slice (some ⟨g, off + k, none⟩) (n - k) (c - k)] 23)) _) (hb5.mono (by simp; omega))))
  go_wp2
  go_ret
  exact ⟨rfl, hbw⟩

theorem crcmore_any {A : Option Addr} {n c a : Nat} {l : List Nat} {w : World} (hT : Tab w) (hL : Lies w 1 A n c (byt l)) (hl : ∀ x ∈ l, x < 256) (ha : a < 65536) (hr : c * 1 ≤ 140737488351232) :
    Calls Tryd.prog 4 #[.slice A n c, .int .u16 a] w fun e w' => e = .returned (.bool true) ∧ Below w.heap.size w w' := by
  have hln := hL.bytes_len
  have hle := hL.le
  have hbig := hL.big
  obtain ⟨k, hk⟩ : ∃ k, k = a % (n + 1) := ⟨_, rfl⟩
  have hkn : k ≤ n := by have := Nat.mod_lt a (show 0 < n + 1 by omega); omega
  have hki : ((a : Int) % ((n : Int) + 1)) = (k : Int) := by rw [hk]; simp
  have hb1 : ∀ x ∈ l.take k, x < 256 := fun x hx => hl x (List.mem_of_mem_take hx)
  have hb2 : ∀ x ∈ l.drop k, x < 256 := fun x hx => hl x (List.mem_of_mem_drop hx)
  have hm1 : more (sum (l.take k)) (l.drop k) = sum l := by unfold sum; rw [more_app, List.take_append_drop]
  have hm2 : sum [l.take k, [], l.drop k].flatten = sum l := by simp
  have hm3 : more (sum l) [] = sum l := more_nil _
  have hc1 := hL.takeb k hkn
  by_cases hck : c = k
  · obtain rfl : n = k := by omega
    subst hck
    have hc2 : Lies w 1 A 0 0 (byt (l.drop c)) := by
      have : l.drop c = [] := List.drop_eq_nil_of_le (by have := hL.bytes_len; omega)
      rw [this]
      exact ⟨rfl, fun _ => rfl, Nat.le_refl _, by omega, fun a ha j u hu => by simp [byt] at hu⟩
    exact crcmore_full hT hL hc1 hc2 a (by omega) hki hle hbig hr (Lib.hid hl) (Lib.hid hb1) (Lib.hid hb2) (Lib.hid rfl) (Lib.hid rfl) (Lib.hid (sum_lt hb1)) (Lib.hid (sum_lt hl)) (Lib.hid hm1) (Lib.hid hm3) (Lib.hid hm2)
  · rcases Nat.eq_zero_or_pos n with h0 | h0
    · subst h0
      obtain rfl : k = 0 := by omega
      have hl0 : l = [] := List.eq_nil_of_length_eq_zero hL.bytes_len
      subst hl0
      rcases A with _ | ad
      · exact absurd (hL.nilc rfl) hck
      exact crcmore_none hT hL hc1 hL a (by omega) hki hle hbig hr hck (Lib.hid hl) (Lib.hid hb1) (Lib.hid hb2) (Lib.hid rfl) (Lib.hid rfl) (Lib.hid (sum_lt hb1)) (Lib.hid (sum_lt hl)) (Lib.hid hm1) (Lib.hid hm3) (Lib.hid hm2)
    · obtain ⟨g, off, rfl, hgs, -⟩ := hL.pos h0 (by decide)
      have hc2 := hL.cut1 k n hkn (Nat.le_refl _)
      have e2 : (l.drop k).take (n - k) = l.drop k := by rw [List.take_of_length_le (by have := hL.bytes_len; simp; omega)]
      rw [e2] at hc2
      exact crcmore_mid hT hL hc1 hc2 a (by omega) hki hle hbig hr (by omega) (by omega) (by omega) hck h0 (Lib.hid hl) (Lib.hid hb1) (Lib.hid hb2) (Lib.hid rfl) (Lib.hid rfl) (Lib.hid (sum_lt hb1)) (Lib.hid (sum_lt hl)) (Lib.hid hm1) (Lib.hid hm3) (Lib.hid hm2)
end Go.Proofs.YthoaagkllkcacaaDoor
