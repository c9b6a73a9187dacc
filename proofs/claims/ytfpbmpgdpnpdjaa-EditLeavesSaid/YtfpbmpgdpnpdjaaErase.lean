/-
  edit: the contract of Erase.
-/
import Derived.Test.YtfpbmpgdpnpdjaaType
import Derived.Deep.OwnRows
namespace Go.Proofs.Ytfpbmpgdpnpdjaa
open Go.RowKit
set_option linter.unusedSimpArgs false

theorem made_lies (m : Nat) (hm : m ≤ 9223372036854775807) (w : World) {e : TypeId} : Lies (w.alloc (.cells (madeCells #[.int .i32 0] m) e)) 1 (some ⟨w.heap.size, 0, none⟩) m m (chs (List.replicate m 0)) := by
  have h : (madeCells #[Value.int .i32 0] m).toList = chs (List.replicate m 0) := by
    rw [toList_madeCells_one]; simp [chs]
  rw [← h]
  exact Lies.new w e _ m m (Nat.le_refl _) hm (by rw [h, chs_len]; simp)
def ErasePost (pos n cl rq : Int) (w : World) (e : Ending) (w' : World) : Prop :=
  ∃ A m c E, e = .returned (.tuple #[.slice A m c, .int .i64 E]) ∧ Grow w w' ∧
    (((pos < 0 ∨ n < 0) ∧ E = 1 ∧ A = none ∧ m = 0 ∧ c = 0) ∨ (0 ≤ pos ∧ 256 < n ∧ E = 3 ∧ A = none ∧ m = 0 ∧ c = 0) ∨
      (0 ≤ pos ∧ 0 ≤ n ∧ n ≤ 256 ∧ E = 0 ∧ (m : Int) = n ∧ w'.ownsRow w.heap.size 30 5 (.slice A m c) m (uns (unitsOf 2 pos cl rq (List.replicate m 0)))))
set_option maxRecDepth 100000 in
theorem erase_any {pos n cl rq : Int} {w : World} :
    Calls Try.prog 21 #[.int .i64 pos, .int .i64 n, .agg #[.int .u32 cl, .int .u64 rq]] w (ErasePost pos n cl rq w) := by
  by_cases h0 : pos < 0 ∨ n < 0
  · have g : ∀ w', Grow w w' → ErasePost pos n cl rq w (.returned (.tuple #[.slice none 0 0, .int .i64 1])) w' := fun w' g => ⟨none, 0, 0, 1, rfl, g, .inl ⟨h0, rfl, rfl, rfl, rfl⟩⟩
    have HG := Lib.hid g
    clear g
    by_cases hp : pos < 0
    · have d0 : decide (pos < 0) = true := by simp; omega
      clear h0
      go_enter Try.func21, Try.ntmps21
      go_wp2
      go_ret2
      exact HG.out _ (Grow.alloc _ _)
    · have d0 : decide (pos < 0) = false := by simp; omega
      have d1 : decide (n < 0) = true := by simp; omega
      have hn : n < 0 := by omega
      clear h0
      go_enter Try.func21, Try.ntmps21
      go_wp2
      go_ret2
      exact HG.out _ (Grow.alloc _ _)
  · by_cases h1 : 256 < n
    · have g : ∀ w', Grow w w' → ErasePost pos n cl rq w (.returned (.tuple #[.slice none 0 0, .int .i64 3])) w' := fun w' g => ⟨none, 0, 0, 3, rfl, g, .inr (.inl ⟨by omega, h1, rfl, rfl, rfl, rfl⟩)⟩
      have HG := Lib.hid g
      have hp : ¬ pos < 0 := by omega
      have hn : ¬ n < 0 := by omega
      have d0 : decide (pos < 0) = false := by simp; omega
      have d1 : decide (n < 0) = false := by simp; omega
      clear g h0
      go_enter Try.func21, Try.ntmps21
      go_wp2
      go_ret2
      exact HG.out _ (Grow.alloc _ _)
    · obtain ⟨m, rfl⟩ := Int.eq_ofNat_of_zero_le (show 0 ≤ n by omega)
      have hm : m ≤ 256 := by omega
      have hp : 0 ≤ pos := by omega
      have n1 : (0 : Int) ≤ (m : Int) := by omega
      have n2 : (m : Int) ≤ 256 := by omega
      have d0 : decide (pos < 0) = false := by simp; omega
      have d1 : decide ((m : Int) < 0) = false := by simp
      have d2 : decide ((256 : Int) < (m : Int)) = false := by simp; omega
      have d3 : decide (256 < m) = false := by simp; omega
      clear h0 h1
      go_enter Try.func21, Try.ntmps21
      go_wp2_with fail
      have b0 : ∀ W : World, Grow (w.alloc (.cells #[.int .u32 cl, .int .u64 rq] 28)) W → W.cell? ⟨w.heap.size, 0, none⟩ = some (.int .u32 cl) := fun W h => grow_cell (cell_of_row _ w.heap.size 0 _ _ (0, 0) (heap_alloc_new w _)) h
      have b1 : ∀ W : World, Grow (w.alloc (.cells #[.int .u32 cl, .int .u64 rq] 28)) W → W.cell? ⟨w.heap.size, 1, none⟩ = some (.int .u64 rq) := fun W h => grow_cell (cell_of_row _ w.heap.size 1 _ _ (0, 0) (heap_alloc_new w _)) h
      refine Chain.start (Option Addr × Nat × Nat) (by kernel_rfl) (by kernel_rfl) (fun hg => ?_)
      repeat (first | (refine Chain.skip hg (fun t => by rfl) ?_; simp only [Act.put, List.setIfInBounds_toArray, List.set_cons_zero, List.set_cons_succ]) | (refine Chain.pure hg (X := ?_) (fun t W hw hN => ⟨by rfl, ?_⟩) ?_; rotate_left; (focus (go_simp <;> with_reducible rfl)); simp only [Act.put, List.setIfInBounds_toArray, List.set_cons_zero, List.set_cons_succ]))
      refine Chain.grow hg (fun s => .slice s.1 m s.2.2) (fun s V => Lies V 1 s.1 m s.2.2 (chs (List.replicate m 0))) (fun _ _ _ h k => h.below k (Nat.le_refl _)) (fun _ => by rfl) (fun t W hw hN K hK => ?_) ?_
      · have hmk := run_make_row' (P := Try.prog) 36 24 (.int .i32 0) 4 Try.underlying36 info_char rfl .i64 .i64 m (by omega) (by omega) W
        go_simp; exact hK.out (some ⟨W.heap.size, 0, none⟩, m, m) _ (Grow.alloc _ _) (made_lies m (by omega) W)
      simp only [Act.put, List.setIfInBounds_toArray, List.set_cons_zero, List.set_cons_succ]
      repeat (first | (refine Chain.skip hg (fun t => by rfl) ?_; simp only [Act.put, List.setIfInBounds_toArray, List.set_cons_zero, List.set_cons_succ]) | (refine Chain.pure hg (X := ?_) (fun t W hw hN => ⟨by rfl, ?_⟩) ?_; rotate_left; (focus (go_simp <;> with_reducible rfl)); simp only [Act.put, List.setIfInBounds_toArray, List.set_cons_zero, List.set_cons_succ]))
      refine Chain.grow hg (fun s => .slice s.1 m s.2.2) (fun s V => V.ownsRow w.heap.size 30 5 (.slice s.1 m s.2.2) m (uns (unitsOf 2 pos cl rq (List.replicate m 0)))) (fun _ _ _ h k => own_grow h k) (fun _ => by rfl) (fun t W hw hN K hK => ?_) ?_
      · have hc := hN.get 3 rfl (by kernel_rfl)
        have hwg := Grow.trans (Grow.alloc w (.cells #[.int .u32 cl, .int .u64 rq] 28)) hw
        go_simp; refine (units_any hc (by omega)).mono ?_; rintro e w9 ⟨A9, c9, rfl, own9, g9⟩; exact hK.out (A9, m, c9) _ g9 (own9.mono hwg.size)
      simp only [Act.put, List.setIfInBounds_toArray, List.set_cons_zero, List.set_cons_succ]
      repeat (first | (refine Chain.skip hg (fun t => by rfl) ?_; simp only [Act.put, List.setIfInBounds_toArray, List.set_cons_zero, List.set_cons_succ]) | (refine Chain.pure hg (X := ?_) (fun t W hw hN => ⟨by rfl, ?_⟩) ?_; rotate_left; (focus (go_simp <;> with_reducible rfl)); simp only [Act.put, List.setIfInBounds_toArray, List.set_cons_zero, List.set_cons_succ]))
      refine Chain.done (fun t W hw hN => ?_)
      have ho := hN.get 5 rfl (by kernel_rfl)
      clear hN hg b0 b1
      have hgW := Grow.trans (Grow.alloc w (.cells #[.int .u32 cl, .int .u64 rq] 28)) hw
      go_wp2
      go_ret2
      exact ⟨(t 5).1, m, (t 5).2.2, 0, rfl, hgW, .inr (.inr ⟨hp, n1, n2, rfl, rfl, ho⟩)⟩
end Go.Proofs.Ytfpbmpgdpnpdjaa

