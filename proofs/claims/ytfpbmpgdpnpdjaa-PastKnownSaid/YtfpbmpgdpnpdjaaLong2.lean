/-
  past: the contract of weave.Long.
-/
import Derived.Test.YtfpbmpgdpnpdjaaLong1
namespace Go.Proofs.Ytfpbmpgdpnpdjaa
open Go.RowKit
set_option linter.unusedSimpArgs false

def fitsI (k p n : Int) : Bool := if k = 0 then true else if k = 1 then decide (p ≤ n) else decide (p < n)
def longU : List U → Int → Option Int
  | [], n => some n
  | u :: r, n => if fitsI u.k u.p n = true then longU r (n + growI u.k) else none
theorem mayU_k {u : U} (h : mayU u = true) : u.k = 0 ∨ u.k = 1 ∨ u.k = 2 := by
  unfold mayU at h
  split at h
  · exact .inl ‹_›
  · split at h
    · rename_i h2; rcases h2 with h2 | h2 <;> omega
    · cases h
theorem mayU_p {u : U} (h : mayU u = true) : 0 ≤ u.p := by
  unfold mayU at h
  split at h
  · simp at h; omega
  · split at h
    · simp at h; omega
    · cases h
set_option maxRecDepth 100000 in
theorem fits_at {k p c cl rq n : Int} {w : World} (hm : mayU ⟨k, p, c, cl, rq⟩ = true) (hn : 0 ≤ n) : Calls Try.prog 78 #[.agg #[.int .i64 k, .int .i64 p, .int .i32 c, .int .u32 cl, .int .u64 rq], .int .i64 n] w fun e w' => e = .returned (.bool (fitsI k p n)) ∧ Grow w w' := by
  have hk := mayU_k hm
  simp only at hk
  have n0 : decide (n < 0) = false := by simp; omega
  rcases hk with rfl | rfl | rfl
  · skip
    have HM := Lib.hid hm
    clear hm
    go_enter Try.func78, Try.ntmps78
    go_wp2_with fail
    refine (umay_at true HM.out).mono ?_
    rintro e w1 ⟨rfl, g1⟩
    have y0 := grow_cell (cell_of_row _ w.heap.size 0 _ _ (0, 0) (heap_alloc_new w _)) g1
    have y1 := grow_cell (cell_of_row _ w.heap.size 1 _ _ (0, 0) (heap_alloc_new w _)) g1
    have G1 := Lib.hid ((Grow.alloc w _).trans g1)
    clear g1
    go_wp2
    go_ret
    exact ⟨ret_bool (by simp [fitsI, *]), G1.out⟩
  · by_cases hp : p ≤ n
    · have e1 : decide (p ≤ n) = true := by simp [hp]
      have HM := Lib.hid hm
      clear hm
      go_enter Try.func78, Try.ntmps78
      go_wp2_with fail
      refine (umay_at true HM.out).mono ?_
      rintro e w1 ⟨rfl, g1⟩
      have y0 := grow_cell (cell_of_row _ w.heap.size 0 _ _ (0, 0) (heap_alloc_new w _)) g1
      have y1 := grow_cell (cell_of_row _ w.heap.size 1 _ _ (0, 0) (heap_alloc_new w _)) g1
      have G1 := Lib.hid ((Grow.alloc w _).trans g1)
      clear g1
      go_wp2
      go_ret
      exact ⟨ret_bool (by simp [fitsI, *]), G1.out⟩
    · have e1 : decide (p ≤ n) = false := by simp [hp]
      have HM := Lib.hid hm
      clear hm
      go_enter Try.func78, Try.ntmps78
      go_wp2_with fail
      refine (umay_at true HM.out).mono ?_
      rintro e w1 ⟨rfl, g1⟩
      have y0 := grow_cell (cell_of_row _ w.heap.size 0 _ _ (0, 0) (heap_alloc_new w _)) g1
      have y1 := grow_cell (cell_of_row _ w.heap.size 1 _ _ (0, 0) (heap_alloc_new w _)) g1
      have G1 := Lib.hid ((Grow.alloc w _).trans g1)
      clear g1
      go_wp2
      go_ret
      exact ⟨ret_bool (by simp [fitsI, *]), G1.out⟩
  · by_cases hp : p < n
    · have e1 : decide (p < n) = true := by simp [hp]
      have HM := Lib.hid hm
      clear hm
      go_enter Try.func78, Try.ntmps78
      go_wp2_with fail
      refine (umay_at true HM.out).mono ?_
      rintro e w1 ⟨rfl, g1⟩
      have y0 := grow_cell (cell_of_row _ w.heap.size 0 _ _ (0, 0) (heap_alloc_new w _)) g1
      have y1 := grow_cell (cell_of_row _ w.heap.size 1 _ _ (0, 0) (heap_alloc_new w _)) g1
      have G1 := Lib.hid ((Grow.alloc w _).trans g1)
      clear g1
      go_wp2
      go_ret
      exact ⟨ret_bool (by simp [fitsI, *]), G1.out⟩
    · have e1 : decide (p < n) = false := by simp [hp]
      have HM := Lib.hid hm
      clear hm
      go_enter Try.func78, Try.ntmps78
      go_wp2_with fail
      refine (umay_at true HM.out).mono ?_
      rintro e w1 ⟨rfl, g1⟩
      have y0 := grow_cell (cell_of_row _ w.heap.size 0 _ _ (0, 0) (heap_alloc_new w _)) g1
      have y1 := grow_cell (cell_of_row _ w.heap.size 1 _ _ (0, 0) (heap_alloc_new w _)) g1
      have G1 := Lib.hid ((Grow.alloc w _).trans g1)
      clear g1
      go_wp2
      go_ret
      exact ⟨ret_bool (by simp [fitsI, *]), G1.out⟩
end Go.Proofs.Ytfpbmpgdpnpdjaa

