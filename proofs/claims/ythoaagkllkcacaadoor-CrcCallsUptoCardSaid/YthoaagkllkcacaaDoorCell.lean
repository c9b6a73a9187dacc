/-
  crc: Sum at a world with further blocks: cells, Below; the contracts by cells.
-/
import Derived.Test.YthoaagkllkcacaaDoorWakes
namespace Go.Proofs.YthoaagkllkcacaaDoor
open Go.RowKit

theorem cell_drew (W : World) (p : Addr) : W.drew.cell? p = W.cell? p := rfl
theorem cell_top {W : World} {g : Nat} {v : Value} {t : TypeId} (hg : g = W.heap.size) : (W.alloc (.cells #[v] t)).cell? ⟨g, 0, none⟩ = some v := by
  subst hg
  exact cell_of_row _ W.heap.size 0 #[v] t (0, 0) (heap_alloc_new W _)
theorem cell_under {W : World} {o : Obj} {g j : Nat} (hg : g < W.heap.size) : (W.alloc o).cell? ⟨g, j, none⟩ = W.cell? ⟨g, j, none⟩ := World.cell?_alloc_lt _ _ _ hg
theorem below_drew {B : Nat} {a w : World} (h : Below B a w) : Below B a w.drew := ⟨h.os, h.tape, h.output, h.size, h.block⟩
theorem below_up {a w : World} {o : Obj} (h : Below a.heap.size a w) : Below a.heap.size a (w.alloc o) := h.alloc h.size o
theorem sum1_cell {w W : World} {A : Option Addr} {n c g : Nat} {l : List Nat} (r : Int) (hr : (sum l : Int) = r) (hc : W.cell? ⟨g, 0, none⟩ = some (.slice A n c)) (hb : Below w.heap.size w W) (hT : Tab w) (hL : Lies w 1 A n c (byt l)) (hl : ∀ x ∈ l, x < 256) :
    Calls Tryd.prog 13 #[.slice (some ⟨g, 0, none⟩) 1 1] W fun e w' => e = .returned (.int .u32 r) ∧ W = w' := by
  subst hr
  have hP : Parts W (some ⟨g, 0, none⟩) 1 1 [(A, n, c)] [l] := by
    refine ⟨⟨rfl, fun h => by (cases h), Nat.le_refl _, by decide, fun a ha j u hu => ?_⟩, rfl, fun j v l' hv hl' => ?_⟩
    · injection ha with ha
      subst ha
      match j with
      | 0 => simp at hu; subst hu; rw [add_none]; exact hc
      | j + 1 => simp at hu
    · match j with
      | 0 => simp at hv hl'; subst hv hl'; exact ⟨hL.below hb (Nat.le_refl _), hl⟩
      | j + 1 => simp at hv
  have := sum_any (hT.same hb) hP
  simpa using this
theorem wakes_below {w W : World} (hT : Tab w) (hb : Below w.heap.size w W) : Calls Tryd.prog 16 #[] W fun e w' => e = .returned (.bool true) ∧ Below w.heap.size w w' :=
  (wakes_any (hT.same hb)).mono fun _ _ h => ⟨h.1, then_ hb h.2⟩
theorem sum2_cell {w W : World} {A B : Option Addr} {n c m d g : Nat} {l k : List Nat} (r : Int) (hr : (sum (l ++ k) : Int) = r) (hc : W.cell? ⟨g, 0, none⟩ = some (.slice A n c)) (hd : W.cell? ⟨g, 1, none⟩ = some (.slice B m d)) (hb : Below w.heap.size w W) (hT : Tab w) (hL : Lies w 1 A n c (byt l)) (hl : ∀ x ∈ l, x < 256) (hK : Lies w 1 B m d (byt k)) (hk : ∀ x ∈ k, x < 256) :
    Calls Tryd.prog 13 #[.slice (some ⟨g, 0, none⟩) 2 2] W fun e w' => e = .returned (.int .u32 r) ∧ W = w' := by
  subst hr
  have hP : Parts W (some ⟨g, 0, none⟩) 2 2 [(A, n, c), (B, m, d)] [l, k] := by
    refine ⟨⟨rfl, fun h => by (cases h), Nat.le_refl _, by decide, fun a ha j u hu => ?_⟩, rfl, fun j v l' hv hl' => ?_⟩
    · injection ha with ha
      subst ha
      match j with
      | 0 => simp at hu; subst hu; rw [add_none]; exact hc
      | 1 => simp at hu; subst hu; rw [add_none]; exact hd
      | j + 2 => simp at hu
    · match j with
      | 0 => simp at hv hl'; subst hv hl'; exact ⟨hL.below hb (Nat.le_refl _), hl⟩
      | 1 => simp at hv hl'; subst hv hl'; exact ⟨hK.below hb (Nat.le_refl _), hk⟩
      | j + 2 => simp at hv
  have := sum_any (hT.same hb) hP
  simpa using this
theorem more_below {s : Nat} {A : Option Addr} {n c : Nat} {l : List Nat} {w W : World} (r : Int) (hr : (more s l : Int) = r) (hb : Below w.heap.size w W) (hT : Tab w) (hs : s < 4294967296) (h : Lies w 1 A n c (byt l)) (hl : ∀ x ∈ l, x < 256) :
    Calls Tryd.prog 17 #[.int .u32 s, .slice A n c] W fun e w' => e = .returned (.int .u32 r) ∧ W = w' := by
  subst hr
  exact more_any (hT.same hb) hs (h.below hb (Nat.le_refl _)) hl
theorem cell_top1 {W : World} {g : Nat} {u v : Value} {t : TypeId} (hg : g = W.heap.size) : (W.alloc (.cells #[u, v] t)).cell? ⟨g, 1, none⟩ = some v := by
  subst hg
  exact cell_of_row _ W.heap.size 1 #[u, v] t (0, 0) (heap_alloc_new W _)
theorem cell_top0 {W : World} {g : Nat} {u v : Value} {t : TypeId} (hg : g = W.heap.size) : (W.alloc (.cells #[u, v] t)).cell? ⟨g, 0, none⟩ = some u := by
  subst hg
  exact cell_of_row _ W.heap.size 0 #[u, v] t (0, 0) (heap_alloc_new W _)
theorem ret_val {k : IntKind} {a b : Int} (h : a = b) : Value.int k a = .int k b := by rw [h]
end Go.Proofs.YthoaagkllkcacaaDoor
