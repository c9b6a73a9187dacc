/-
  crc: the contracts of Strip: too short; a wrong sum; a frame.
-/
import Derived.Test.YthoaagkllkcacaaDoorMark
namespace Go.Proofs.YthoaagkllkcacaaDoor
open Go.RowKit

def framed (l : List Nat) : Bool := decide (l.drop (l.length - 4) = le4 (sum (l.take (l.length - 4))))
/-- What Strip tells: an error's number. -/
def stripE (l : List Nat) : Nat := if l.length < 4 then 4 else if framed l then 0 else 20
theorem cell_heap {w W : World} (h : W.heap = w.heap) (p : Addr) : W.cell? p = w.cell? p := World.cell?_of_block (by rw [h])
theorem sum1_heap {A : Option Addr} {n c g : Nat} {l : List Nat} {w W : World} {t : TypeId} (hW : W.heap = (w.alloc (.cells #[.slice A n c] t)).heap) (hT : Tab w) (hg : g = w.heap.size) (hL : Lies w 1 A n c (byt l)) (hb : ∀ x ∈ l, x < 256) :
    Calls Tryd.prog 13 #[.slice (some ⟨g, 0, none⟩) 1 1] W fun e w' => e = .returned (.int .u32 (sum l)) ∧ W = w' := by
  have hP := parts_lit (w := w) (e := t) (cs := #[.slice A n c]) [(A, n, c)] [l] 1 hg rfl rfl rfl (by decide) (by
    intro j v l' hv hl'
    match j with
    | 0 => simp at hv hl'; subst hv hl'; exact ⟨hL, hb⟩
    | j + 1 => simp at hv)
  have hP' : Parts W (some ⟨g, 0, none⟩) 1 1 [(A, n, c)] [l] := ⟨⟨hP.lies.len, hP.lies.nilc, hP.lies.le, hP.lies.big, fun a ha j u hu => by rw [cell_heap hW]; exact hP.lies.cells a ha j u hu⟩, hP.len, fun j v l' hv hl' => by
    have h := hP.each j v l' hv hl'
    exact ⟨⟨h.1.len, h.1.nilc, h.1.le, h.1.big, fun a ha j u hu => by rw [cell_heap hW]; exact h.1.cells a ha j u hu⟩, h.2⟩⟩
  have := sum_any (w := W) (fun j hj => by rw [cell_heap hW]; exact hT.alloc _ j hj) hP'
  simpa using this
theorem lies_heap {w W : World} (hW : W.heap = w.heap) {sz : Nat} {A : Option Addr} {n c : Nat} {xs : List Value} (h : Lies w sz A n c xs) : Lies W sz A n c xs :=
  ⟨h.len, h.nilc, h.le, h.big, fun a ha j u hu => by rw [cell_heap hW]; exact h.cells a ha j u hu⟩
theorem strip_short {A : Option Addr} {n c : Nat} {l : List Nat} {w : World} (hL : Lies w 1 A n c (byt l)) (h4 : n < 4) :
    Calls Tryd.prog 11 #[.slice A n c] w fun e w' => e = .returned (.tuple #[.slice none 0 0, .int .i64 4]) ∧ Below w.heap.size w w' := by
  have hle := hL.le
  go_enter Tryd.func11, Tryd.ntmps11
  go_wp2_with fail
  go_ret2
  exact ⟨rfl, Below.refl _ _⟩
def StripLong (n : Nat) (l : List Nat) (w : World) (e : Ending) (w' : World) : Prop :=
  (framed l = false ∧ e = .returned (.tuple #[.slice none 0 0, .int .i64 20]) ∨ framed l = true ∧ ∃ A' c', e = .returned (.tuple #[.slice A' (n - 4) c', .int .i64 0]) ∧ w'.ownsRow w.heap.size 5 1 (.slice A' (n - 4) c') (n - 4) (byt (l.take (n - 4))) ∧ Lies w' 1 A' (n - 4) c' (byt (l.take (n - 4)))) ∧ Below w.heap.size w w'
set_option maxRecDepth 100000 in
set_option maxHeartbeats 1000000 in
theorem strip_long {A : Option Addr} {n c : Nat} {l : List Nat} {w : World} (hT : Tab w) (hL : Lies w 1 A n c (byt l)) (hl : ∀ x ∈ l, x < 256) (h4 : 4 ≤ n) (hn : n ≤ 140737488355328) :
    Calls Tryd.prog 11 #[.slice A n c] w (StripLong n l w) := by
  have hln := hL.bytes_len
  have hle := hL.le
  have hbig := hL.big
  obtain ⟨k, hk⟩ : ∃ k, n = k + 4 := ⟨n - 4, by omega⟩
  subst hk
  obtain ⟨g, off, rfl, hgs, -⟩ := hL.pos (by omega) (by decide)
  have hc1 := hL.takeb k (by omega)
  have hc2 := hL.cut1 k (k + 4) (by omega) (Nat.le_refl _)
  have e2 : (l.drop k).take (k + 4 - k) = l.drop k := by rw [List.take_of_length_le (by simp; omega)]
  rw [e2] at hc2
  have hb1 : ∀ x ∈ l.take k, x < 256 := fun x hx => hl x (List.mem_of_mem_take hx)
  have hb2 : ∀ x ∈ l.drop k, x < 256 := fun x hx => hl x (List.mem_of_mem_drop hx)
  have hfr : framed l = decide (l.drop k = le4 (sum (l.take k))) := by unfold framed; rw [hln, Nat.add_sub_cancel]
  have i1 : (0 : Int) ≤ (k : Int) := by omega
  have i2 : (k : Int) ≤ (k : Int) + 4 := by omega
  have i3 : (k : Int) ≤ (c : Int) := by omega
  have i4 : ¬ c = k := by omega
  have i5 : k + 4 - k = 4 := by omega
  rw [i5] at hc2
  have HF := Lib.hid hfr; have HS := Lib.hid (sum_lt hb1); have HB1 := Lib.hid hb1; have HB2 := Lib.hid hb2
  clear hfr hb1 hb2 e2 hln i5
  cases hfc : framed l with
  | false =>
    have hd : decide (l.drop k = le4 (sum (l.take k))) = false := by rw [← HF.out]; exact hfc
    have HD := Lib.hid hd; have HFC := Lib.hid hfc
    clear hd hfc
    go_enter Tryd.func11, Tryd.ntmps11
    go_wp2_with fail
    go_region_held3 (fun _ => True) (trivial) (first
      | (go_at_call 13; refine (sum1_heap (w := w) (t := 23) (by rfl) hT rfl hc1 HB1.out).mono ?_; rintro e w1 ⟨rfl, rfl⟩)
      | (go_at_call 19; refine (laid_any HS.out).mono ?_; rintro e w2 ⟨A2, c2, rfl, L2, hb⟩; have hbw : Below w.heap.size w w2 := Below.trans (show Below w.heap.size w _ from (below_drawn ((Below.refl _ w).alloc (Nat.le_refl _) (Obj.cells #[.slice (some ⟨g, off, none⟩) k c] 23)) _)) (hb.mono (by simp)))
      | (go_at_call 20; refine (equal_at (l.drop k) (le4 (sum (l.take k))) false (hc2.below hbw (Nat.le_refl _)) L2 HB2.out (le4_bytes _) HD.out).mono ?_; rintro e w3 ⟨rfl, rfl⟩))
    go_wp2
    go_ret2
    exact ⟨.inl ⟨HFC.out, rfl⟩, hbw⟩
  | true =>
    have hd : decide (l.drop k = le4 (sum (l.take k))) = true := by rw [← HF.out]; exact hfc
    have HD := Lib.hid hd; have HFC := Lib.hid hfc
    clear hd hfc
    go_enter Tryd.func11, Tryd.ntmps11
    go_wp2_with fail
    go_region_held3 (fun _ => True) (trivial) (first
      | (go_at_call 13; refine (sum1_heap (w := w) (t := 23) (by rfl) hT rfl hc1 HB1.out).mono ?_; rintro e w1 ⟨rfl, rfl⟩)
      | (go_at_call 19; refine (laid_any HS.out).mono ?_; rintro e w2 ⟨A2, c2, rfl, L2, hb⟩; have hbw : Below w.heap.size w w2 := Below.trans (show Below w.heap.size w _ from (below_drawn ((Below.refl _ w).alloc (Nat.le_refl _) (Obj.cells #[.slice (some ⟨g, off, none⟩) k c] 23)) _)) (hb.mono (by simp)))
      | (go_at_call 20; refine (equal_at (l.drop k) (le4 (sum (l.take k))) true (hc2.below hbw (Nat.le_refl _)) L2 HB2.out (le4_bytes _) HD.out).mono ?_; rintro e w3 ⟨rfl, rfl⟩))
    go_wp2_with fail
    refine (clone_any (hc1.below hbw (Nat.le_refl _)) (by omega)).mono ?_
    rintro e w4 ⟨A4, c4, rfl, own4, L4, hb4⟩
    go_wp2
    go_ret2
    have hsz := hbw.size
    exact ⟨.inr ⟨HFC.out, A4, c4, by rw [Nat.add_sub_cancel]; rfl, by rw [Nat.add_sub_cancel]; exact own4.mono hsz, by rw [Nat.add_sub_cancel]; exact L4⟩, hbw.trans (hb4.mono hsz)⟩
end Go.Proofs.YthoaagkllkcacaaDoor
