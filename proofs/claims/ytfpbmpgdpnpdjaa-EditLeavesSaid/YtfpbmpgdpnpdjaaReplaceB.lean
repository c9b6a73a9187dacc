/-
  edit: the contracts of both packages' Replace.
-/
import Derived.Test.YtfpbmpgdpnpdjaaReplace
namespace Go.Proofs.Ytfpbmpgdpnpdjaa
open Go.RowKit
set_option linter.unusedSimpArgs false

theorem errR_e {pos n : Int} {cs : List Int} (cl rq : Int) (h : errE pos n ≠ 0) : errR pos n cs = errE pos n ∧ resR pos n cl rq cs = [] := by
  have e : errR pos n cs = errE pos n := by simp only [errR, ne_eq, h, not_false_eq_true, if_true]
  exact ⟨e, by simp only [resR, e, if_neg h]⟩
theorem errR_t {pos n : Int} {cs : List Int} (cl rq : Int) (h : errE pos n = 0) (h2 : errT pos cs ≠ 0) : errR pos n cs = errT pos cs ∧ resR pos n cl rq cs = [] := by
  have e : errR pos n cs = errT pos cs := by simp only [errR, ne_eq, h, not_true_eq_false, if_false, h2, not_false_eq_true, if_true]
  exact ⟨e, by simp only [resR, e, if_neg h2]⟩
theorem errR_0 {pos n : Int} {cs : List Int} (cl rq : Int) (h : errE pos n = 0) (h2 : errT pos cs = 0) :
    (resE pos n cl rq).length = n.toNat ∧ (resT pos cl rq cs).length = cs.length ∧ (256 < n.toNat + cs.length → errR pos n cs = 3 ∧ resR pos n cl rq cs = []) ∧ (n.toNat + cs.length ≤ 256 → errR pos n cs = 0 ∧ resR pos n cl rq cs = resE pos n cl rq ++ resT pos cl rq cs) := by
  refine ⟨by simp [resE, h, unitsOf_len], by simp [resT, h2, unitsOf_len], fun h3 => ?_, fun h3 => ?_⟩
  · have e : errR pos n cs = 3 := by simp only [errR, ne_eq, h, h2, not_true_eq_false, if_false, if_pos h3]
    exact ⟨e, by simp [resR, e]⟩
  · have e : errR pos n cs = 0 := by simp only [errR, ne_eq, h, h2, not_true_eq_false, if_false, if_neg (show ¬ 256 < n.toNat + cs.length by omega)]
    exact ⟨e, by simp [resR, e]⟩
theorem id_cells {w W : World} {cl rq : Int} {e : TypeId} (g : Grow (w.alloc (.cells #[.int .u32 cl, .int .u64 rq] e)) W) : W.cell? ⟨w.heap.size, 0, none⟩ = some (.int .u32 cl) ∧ W.cell? ⟨w.heap.size, 1, none⟩ = some (.int .u64 rq) :=
  ⟨grow_cell (cell_of_row _ w.heap.size 0 _ _ (0, 0) (heap_alloc_new w _)) g, grow_cell (cell_of_row _ w.heap.size 1 _ _ (0, 0) (heap_alloc_new w _)) g⟩
set_option maxRecDepth 100000 in
set_option maxHeartbeats 2000000 in
theorem preplace_any {pos n cl rq : Int} {A : Option Addr} {na cap : Nat} {cs : List Int} {w : World} (hL : Lies w 1 A na cap (chs cs)) (hp : -9223372036854775808 ≤ pos ∧ pos ≤ 9223372036854775807) :
    Calls Try.prog 23 #[.int .i64 pos, .int .i64 n, .slice A na cap, .agg #[.int .u32 cl, .int .u64 rq]] w (Gives (resR pos n cl rq cs) (errR pos n cs) w) := by
  have HL := Lib.hid hL; have HP := Lib.hid hp
  clear hL hp
  go_enter Try.func23, Try.ntmps23
  go_wp2_with fail
  refine (perase_any).mono ?_
  rintro e w1 ⟨A1, m1, c1, rfl, own1, g1⟩
  obtain ⟨E1, hE1⟩ : ∃ E, errE pos n = E := ⟨_, rfl⟩
  obtain ⟨i0, i1⟩ := id_cells g1
  have O1 := Lib.hid own1; have G1 := Lib.hid ((Grow.alloc w _).trans g1); have GI := Lib.hid g1
  rw [hE1]
  clear own1 g1
  by_cases h1 : E1 = 0
  · subst h1
    have HE1 := Lib.hid hE1
    clear hE1
    go_wp2_with fail
    refine (ptype_any (HL.out.below G1.out (Nat.le_refl _))).mono ?_
    rintro e w2 ⟨A2, m2, c2, rfl, own2, g2⟩
    obtain ⟨E2, hE2⟩ : ∃ E, errT pos cs = E := ⟨_, rfl⟩
    have O2 := Lib.hid own2; have G2 := Lib.hid (G1.out.trans g2); have G12 := Lib.hid g2
    rw [hE2]
    clear own2 g2 i0 i1
    by_cases h2 : E2 = 0
    · subst h2
      obtain ⟨l1, l2, r3, r0⟩ := errR_0 cl rq HE1.out hE2
      have lm1 := (Lies.of_own O1.out).uns_len
      have lm2 := (Lies.of_own O2.out).uns_len
      have b1 : m1 ≤ 256 := by
        have := HE1.out
        unfold errE at this
        split at this
        · cases this
        · split at this
          · cases this
          · omega
      have b2 : m2 ≤ 256 := by
        have := hE2
        unfold errT at this
        split at this
        · cases this
        · split at this
          · cases this
          · omega
      by_cases h3 : 256 < m1 + m2
      · obtain ⟨e1, e2⟩ := r3 (by omega)
        have HF := Lib.hid (gives_nil (w := w) (w' := w2) G2.out e1.symm e2)
        have d1 : decide ((256 : Int) < (m1 : Int) + (m2 : Int)) = true := by simp; omega
        have d2 : decide (256 < m1 + m2) = true := by simp; omega
        have w3 : wrap64 ((m1 : Int) + (m2 : Int)) = (m1 : Int) + (m2 : Int) := wrap_in (by omega) (by omega)
        clear e1 e2 r3 r0 l1 l2 lm1 lm2 hE2
        go_wp2
        go_ret2
        exact HF.out
      · obtain ⟨e1, e2⟩ := r0 (by omega)
        have E1 := Lib.hid e1; have E2 := Lib.hid e2
        have d1 : decide ((256 : Int) < (m1 : Int) + (m2 : Int)) = false := by simp; omega
        have d2 : decide (256 < m1 + m2) = false := by simp; omega
        have w3 : wrap64 ((m1 : Int) + (m2 : Int)) = (m1 : Int) + (m2 : Int) := wrap_in (by omega) (by omega)
        clear e1 e2 r3 r0 l1 l2 lm1 lm2 hE2
        have GA := Lib.hid (G12.out.trans (Grow.alloc w2 (.cells #[.slice A1 m1 c1, .slice A2 m2 c2] 22)))
        go_wp2_with fail
        refine (concat_any (n1 := m1) (c1 := c1) (n2 := m2) (c2 := c2) (A1 := A1) (A2 := A2) (cell_of_row _ w2.heap.size 0 _ _ (0, 0) (heap_alloc_new w2 _)) (cell_of_row _ w2.heap.size 1 _ _ (0, 0) (heap_alloc_new w2 _)) ((Lies.of_own O1.out).below GA.out (Nat.le_refl _)) ((Lies.of_own O2.out).alloc _) (by omega)).mono ?_
        rintro e w3 ⟨A3, m3, c3, rfl, own3, g3⟩
        have HF := Lib.hid (gives_one (w := w) E1.out.symm E2.out.symm (own3.mono (by have h1 := G2.out.size; simp; omega)) (G2.out.trans ((Grow.alloc _ _).trans g3)))
        clear own3 g3
        go_wp2
        go_ret2
        exact HF.out
    · obtain ⟨e1, e2⟩ := errR_t cl rq HE1.out (by rw [hE2]; exact h2)
      have HF := Lib.hid (gives_nil (w := w) (w' := w2) G2.out (e1.symm.trans rfl) e2)
      rw [hE2] at HF
      have f1 : (E2 != 0) = true := by simp [h2]
      clear e1 e2 hE2
      go_wp2
      go_ret2
      exact HF.out
  · obtain ⟨e1, e2⟩ := errR_e (cs := cs) cl rq (by rw [hE1]; exact h1)
    have HF := Lib.hid (gives_nil (w := w) (w' := w1) G1.out e1.symm e2)
    rw [hE1] at HF
    have f1 : (E1 != 0) = true := by simp [h1]
    clear e1 e2 hE1
    go_wp2
    go_ret2
    exact HF.out
set_option maxRecDepth 100000 in
set_option maxHeartbeats 2000000 in
theorem rreplace_any {pos n cl rq : Int} {A : Option Addr} {na cap : Nat} {cs : List Int} {w : World} (hL : Lies w 1 A na cap (chs cs)) (hp : -9223372036854775808 ≤ pos ∧ pos ≤ 9223372036854775807) :
    Calls Try.prog 24 #[.int .i64 pos, .int .i64 n, .slice A na cap, .agg #[.int .u32 cl, .int .u64 rq]] w (Gives (resR pos n cl rq cs) (errR pos n cs) w) := by
  have HL := Lib.hid hL; have HP := Lib.hid hp
  clear hL hp
  go_enter Try.func24, Try.ntmps24
  go_wp2_with fail
  refine (rerase_any HP.out).mono ?_
  rintro e w1 ⟨A1, m1, c1, rfl, own1, g1⟩
  obtain ⟨E1, hE1⟩ : ∃ E, errE pos n = E := ⟨_, rfl⟩
  obtain ⟨i0, i1⟩ := id_cells g1
  have O1 := Lib.hid own1; have G1 := Lib.hid ((Grow.alloc w _).trans g1); have GI := Lib.hid g1
  rw [hE1]
  clear own1 g1
  by_cases h1 : E1 = 0
  · subst h1
    have HE1 := Lib.hid hE1
    clear hE1
    go_wp2_with fail
    refine (rtype_any (HL.out.below G1.out (Nat.le_refl _))).mono ?_
    rintro e w2 ⟨A2, m2, c2, rfl, own2, g2⟩
    obtain ⟨E2, hE2⟩ : ∃ E, errT pos cs = E := ⟨_, rfl⟩
    have O2 := Lib.hid own2; have G2 := Lib.hid (G1.out.trans g2); have G12 := Lib.hid g2
    rw [hE2]
    clear own2 g2 i0 i1
    by_cases h2 : E2 = 0
    · subst h2
      obtain ⟨l1, l2, r3, r0⟩ := errR_0 cl rq HE1.out hE2
      have lm1 := (Lies.of_own O1.out).uns_len
      have lm2 := (Lies.of_own O2.out).uns_len
      have b1 : m1 ≤ 256 := by
        have := HE1.out
        unfold errE at this
        split at this
        · cases this
        · split at this
          · cases this
          · omega
      have b2 : m2 ≤ 256 := by
        have := hE2
        unfold errT at this
        split at this
        · cases this
        · split at this
          · cases this
          · omega
      by_cases h3 : 256 < m1 + m2
      · obtain ⟨e1, e2⟩ := r3 (by omega)
        have HF := Lib.hid (gives_nil (w := w) (w' := w2) G2.out e1.symm e2)
        have d1 : decide ((256 : Int) < (m1 : Int) + (m2 : Int)) = true := by simp; omega
        have d2 : decide (256 < m1 + m2) = true := by simp; omega
        have w3 : wrap64 ((m1 : Int) + (m2 : Int)) = (m1 : Int) + (m2 : Int) := wrap_in (by omega) (by omega)
        clear e1 e2 r3 r0 l1 l2 lm1 lm2 hE2
        go_wp2
        go_ret2
        exact HF.out
      · obtain ⟨e1, e2⟩ := r0 (by omega)
        have E1 := Lib.hid e1; have E2 := Lib.hid e2
        have d1 : decide ((256 : Int) < (m1 : Int) + (m2 : Int)) = false := by simp; omega
        have d2 : decide (256 < m1 + m2) = false := by simp; omega
        have w3 : wrap64 ((m1 : Int) + (m2 : Int)) = (m1 : Int) + (m2 : Int) := wrap_in (by omega) (by omega)
        clear e1 e2 r3 r0 l1 l2 lm1 lm2 hE2
        have h1 := own_grow O1.out G12.out
        have O3 := Lib.hid h1; have L2 := Lib.hid (Lies.of_own O2.out)
        clear h1
        go_wp2_with (at_builtin; refine wpList_appU rfl (.tmp 40) (.tmp 41) rfl w.heap.size _ m1 _ rfl (O3.out.mono (by simp)) A2 m2 c2 _ rfl L2.out (by omega) G2.out.size ?_; intro A3 c3 w3 own3 L3 bel3)
        have HF := Lib.hid (gives_one (w := w) E1.out.symm E2.out.symm own3 (bel3 _ _ G2.out (Nat.le_refl _)))
        clear own3 bel3 L3
        go_ret2
        exact HF.out
    · obtain ⟨e1, e2⟩ := errR_t cl rq HE1.out (by rw [hE2]; exact h2)
      have HF := Lib.hid (gives_nil (w := w) (w' := w2) G2.out (e1.symm.trans rfl) e2)
      rw [hE2] at HF
      have f1 : (E2 != 0) = true := by simp [h2]
      clear e1 e2 hE2
      go_wp2
      go_ret2
      exact HF.out
  · obtain ⟨e1, e2⟩ := errR_e (cs := cs) cl rq (by rw [hE1]; exact h1)
    have HF := Lib.hid (gives_nil (w := w) (w' := w1) G1.out e1.symm e2)
    rw [hE1] at HF
    have f1 : (E1 != 0) = true := by simp [h1]
    clear e1 e2 hE1
    go_wp2
    go_ret2
    exact HF.out
end Go.Proofs.Ytfpbmpgdpnpdjaa

