/-
  edit: the contracts of Grows.
-/
import Derived.Test.YtfpbmpgdpnpdjaaOpenU
import Derived.Maps.OwnOps
namespace Go.Proofs.Ytfpbmpgdpnpdjaa
open Go.RowKit Go.Maps
set_option linter.unusedSimpArgs false

def growI (k : Int) : Int := if k = 1 then 1 else if k = 2 then -1 else 0
theorem wf64 {x : Int} (h : -9223372036854775808 ≤ x ∧ x ≤ 9223372036854775807) : (Lit.int .i64 x).wf = true := by
  have h1 : IntKind.i64.min = -9223372036854775808 := rfl
  have h2 : IntKind.i64.max = 9223372036854775807 := rfl
  simp only [Lit.wf, Bool.and_eq_true, decide_eq_true_eq]
  omega
theorem zero64 (w : World) : (zeroValue 3).run Try.prog w = .ok (.int .i64 0) w := by kernel_rfl
theorem at_grow {H : Type} {k c : Int} (h : ((((DataW.map [] : DataW H).put (.int .i64 1) (.lit (.int .i64 1))).put (.int .i64 2) (.lit (.int .i64 (-1)))).atKey (.int .i64 k) (.lit (.int .i64 0))) = .lit (.int .i64 c)) : c = growI k := by
  have e : (((DataW.map [] : DataW H).put (.int .i64 1) (.lit (.int .i64 1))).put (.int .i64 2) (.lit (.int .i64 (-1)))) = .map [(.int .i64 1, .lit (.int .i64 1)), (.int .i64 2, .lit (.int .i64 (-1)))] := by
    simp [DataW.put, DataW.insert, Lit.sameKey, Lit.before]
  rw [e] at h
  unfold growI
  by_cases h1 : k = 1
  · subst h1
    simp [DataW.atKey, Lit.sameKey] at h
    simp [h]
  · by_cases h2 : k = 2
    · subst h2
      simp [DataW.atKey, Lit.sameKey] at h
      simp [h]
    · have f1 : ((1 : Int) == k) = false := by simp; omega
      have f2 : ((2 : Int) == k) = false := by simp; omega
      simp [DataW.atKey, Lit.sameKey, f1, f2, h1, h2, Ne.symm h1, Ne.symm h2] at h ⊢
      omega
set_option maxRecDepth 100000 in
theorem ugrows_any {u : U} {w : World} (hk : -9223372036854775808 ≤ u.k ∧ u.k ≤ 9223372036854775807) : Calls Try.prog 58 #[.agg #[.int .i64 u.k, .int .i64 u.p, .int .i32 u.c, .int .u32 u.cl, .int .u64 u.rq]] w fun e w' => e = .returned (.int .i64 (growI u.k)) ∧ Grow w w' := by
  obtain ⟨k, p, c, cl, rq⟩ := u
  simp only at hk ⊢
  have hmm := @run_makeMap Try.prog
  have o0 := World.ownsMap_made (H := Unit) (w.alloc (.cells #[.int .i64 k, .int .i64 p, .int .i32 c, .int .u32 cl, .int .u64 rq] 30)) Try.prog 3 (plainElem Try.prog 3)
  obtain ⟨w1, r1, o1, g1⟩ := o0.update (int_keyed Try.underlying3) Try.underlying106 (by simp [maxLen]) (keyOf_int_mk Try.underlying3 (a := 1) (by decide)) (plainElem_int Try.underlying3 (a := 1) (by decide))
  obtain ⟨w2, r2, o2, g2⟩ := o1.update (int_keyed Try.underlying3) Try.underlying106 (by simp [maxLen]) (keyOf_int_mk Try.underlying3 (a := 2) (by decide)) (plainElem_int Try.underlying3 (a := -1) (by decide))
  obtain ⟨z, r3, hz, -⟩ := o2.lookup_int (int_keyed Try.underlying3) Try.underlying106 Try.underlying3 (zero64 _) (keyOf_int_mk Try.underlying3 (wf64 hk))
  obtain rfl := at_grow hz
  have sz : (w.alloc (.cells #[.int .i64 k, .int .i64 p, .int .i32 c, .int .u32 cl, .int .u64 rq] 30)).heap.size = w.heap.size + 1 := by simp
  rw [sz] at r1 r2 r3 g1 g2
  have gA : Grow (w.alloc (.cells #[.int .i64 k, .int .i64 p, .int .i32 c, .int .u32 cl, .int .u64 rq] 30)) w2 := by
    have ga := Below.alloc (Below.refl (w.heap.size + 1) (w.alloc (.cells #[.int .i64 k, .int .i64 p, .int .i32 c, .int .u32 cl, .int .u64 rq] 30))) (by simp) (.map #[] 0)
    have gb := ga.grown g1 (by simp) (fun j hj => by injection hj with hj; omega)
    have gc := gb.grown g2 (by have := g1.size; simp at this; omega) (fun j hj => by injection hj with hj; omega)
    unfold Grow
    rw [sz]
    exact gc
  have q0 : w2.cell? ⟨w.heap.size, 0, none⟩ = some (.int .i64 k) := grow_cell (cell_of_row _ w.heap.size 0 _ _ (0, 0) (heap_alloc_new w _)) gA
  have GA := Lib.hid ((Grow.alloc w _).trans gA)
  obtain ⟨q, hq⟩ : ∃ q, growI k = q := ⟨_, rfl⟩
  rw [hq] at r3 ⊢
  clear o0 o1 o2 g1 g2 sz gA hz hk hq
  go_enter Try.func58, Try.ntmps58
  go_wp2
  go_ret
  exact ⟨rfl, GA.out⟩

/-- How much a row grows. -/
def growU (us : List U) : Int := (us.map fun u => growI u.k).sum
theorem growI_bd (k : Int) : -1 ≤ growI k ∧ growI k ≤ 1 := by
  unfold growI
  split
  · omega
  · split <;> omega
theorem growU_app (a b : List U) : growU (a ++ b) = growU a + growU b := by simp [growU]
theorem growU_bd (us : List U) : -(us.length : Int) ≤ growU us ∧ growU us ≤ us.length := by
  induction us with
  | nil => simp [growU]
  | cons u us ih =>
    have h := growI_bd u.k
    have e : growU (u :: us) = growI u.k + growU us := by simp [growU]
    rw [e, List.length_cons]
    omega
theorem growU_snoc {us : List U} {i : Nat} {u : U} (h : us[i]? = some u) : growU (us.take (i + 1)) = growU (us.take i) + growI u.k := by
  rw [List.take_add_one, h, Option.toList_some, growU_app]
  simp [growU]
set_option maxRecDepth 100000 in
set_option maxHeartbeats 1000000 in
theorem grows_k {A : Option Addr} {n c : Nat} {us : List U} {w : World} (hL : Lies w 5 A n c (uns us)) (hw : ∀ u ∈ us, -9223372036854775808 ≤ u.k ∧ u.k ≤ 9223372036854775807) :
    Calls Try.prog 27 #[.slice A n c] w fun e w' => e = .returned (.int .i64 (growU us)) ∧ Grow w w' := by
  have hle := hL.le
  have hbig := hL.big
  have hln := hL.uns_len
  have HL := Lib.hid hL; have HLN := Lib.hid hln; have HW := Lib.hid hw
  clear hL hln hw
  go_enter Try.func27, Try.ntmps27
  go_wp2
  go_loopw [3, 8] (fun s i wr => ∃ j : Nat, j ≤ n ∧ i = .int .i64 j ∧ s = .int .i64 (growU (us.take j)) ∧ Grow w wr) (fun _ i _ => n - (intOf i).toNat)
  case atStart => exact ⟨0, Nat.zero_le _, rfl, rfl, Grow.refl _⟩
  case round =>
    obtain ⟨j, hj, rfl, rfl, hg⟩ := hrel
    by_cases hlt : j < n
    · obtain ⟨u, hu⟩ : ∃ u, us[j]? = some u := ⟨_, List.getElem?_eq_getElem (by have := HLN.out; omega)⟩
      obtain ⟨b, off, rfl, hbs, hcell⟩ := HL.out.pos (by omega) (by decide)
      obtain ⟨x0, x1, x2, x3, x4⟩ := HL.out.unit_cells hu wr hg
      have hs := growU_snoc hu
      have hbd := growU_bd (us.take j)
      have hbu := growI_bd u.k
      have hl : ((us.take j).length : Int) ≤ 9223372036854775806 := by rw [List.length_take]; omega
      have hk := HW.out u (List.mem_of_getElem? hu)
      have G1 := Lib.hid hg; have HS := Lib.hid hs; have HK := Lib.hid hk
      obtain ⟨s0, hs0⟩ : ∃ s, growU (us.take j) = s := ⟨_, rfl⟩
      obtain ⟨s1, hs1⟩ : ∃ s, growI u.k = s := ⟨_, rfl⟩
      have hsum : wrap64 (s0 + s1) = s0 + s1 := wrap_in (by omega) (by omega)
      rw [hs0]
      have H0 := Lib.hid hs0; have H1 := Lib.hid hs1; have HSUM := Lib.hid hsum
      clear hu hcell hg hs hbd hbu hl hk hs0 hs1 hsum
      go_wp2_with fail
      refine (ugrows_any (u := u) HK.out).mono ?_
      rw [H1.out]
      rintro e w1 ⟨rfl, g1⟩
      have G2 := Lib.hid (G1.out.trans ((Grow.alloc _ _).trans g1))
      have hsum := HSUM.out
      clear g1 x0 x1 x2 x3 x4
      go_wp2
      have E := HS.out
      rw [H0.out, H1.out] at E
      go_roundw
      case rel => exact ⟨j + 1, by omega, by go_num, by rw [E, hsum], G2.out⟩
      case measure => simp [intOf]; omega
    · obtain rfl : j = n := by omega
      have e : us.take j = us := List.take_of_length_le (by have := HLN.out; omega)
      rw [e]
      have G1 := Lib.hid hg
      obtain ⟨s0, hs0⟩ : ∃ s, growU us = s := ⟨_, rfl⟩
      rw [hs0]
      have HS0 := Lib.hid hs0
      clear e hg hs0
      go_wp2
      go_ret
      exact ⟨ret_int HS0.out.symm, G1.out⟩
theorem grows_any {A : Option Addr} {n c : Nat} {us : List U} {w : World} (hL : Lies w 5 A n c (uns us)) (hw : ∀ u ∈ us, UWf u) :
    Calls Try.prog 27 #[.slice A n c] w fun e w' => e = .returned (.int .i64 (growU us)) ∧ Grow w w' := grows_k hL fun u hu => (hw u hu).k
end Go.Proofs.Ytfpbmpgdpnpdjaa

