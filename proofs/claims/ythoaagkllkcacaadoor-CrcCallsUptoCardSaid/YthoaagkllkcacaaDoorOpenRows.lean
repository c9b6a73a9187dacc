/-
  An argument that is a slice of slices of bytes, opened; what it holds in all is no more than its bulk.
-/
import Derived.Test.YthoaagkllkcacaaDoorOpen
import Derived.Test.YthoaagkllkcacaaDoorParts
import Derived.Deep.Matrix
namespace Go.Proofs.YthoaagkllkcacaaDoor
open Go.ChangeShapes Go.WideShapes Go.ChangeAt Go.RowKit Go.Deep

theorem bulk_lits {H : Type} (k : IntKind) (zs : List Int) : Rows.uptoBulkAll (lits k zs : List (DataW H)) = zs.length := by
  induction zs with
  | nil => simp [lits, Rows.uptoBulkAll]
  | cons z zs ih =>
    have : (lits k (z :: zs) : List (DataW H)) = .lit (.int k z) :: lits k zs := rfl
    rw [this, Rows.uptoBulkAll, ih, Rows.uptoBulk, List.length_cons]
    · omega
    · intro b h; cases h
def rowOf (Z : Nat → List Int) (L : Nat → Nat) (r : Nat) : List Nat := ((Z r).take (L r)).map Int.toNat
theorem bulk_rows {H : Type} (k : IntKind) (A : Nat → Option Addr) (L C : Nat → Nat) (Z : Nat → List Int) (R : List Nat) (h : ∀ r ∈ R, (Z r).length = C r ∧ (A r = none → C r = 0)) :
    ((R.map (rowOf Z L)).flatten).length ≤ Rows.uptoBulkAll (R.map fun r => (intRow k (A r) (L r) (Z r) : DataW H)) := by
  induction R with
  | nil => simp [Rows.uptoBulkAll]
  | cons r R ih =>
    rw [List.map_cons, List.map_cons, List.flatten_cons, List.length_append, Rows.uptoBulkAll]
    have h1 := ih fun x hx => h x (by simp [hx])
    have h2 : (rowOf Z L r).length ≤ Rows.uptoBulk (intRow k (A r) (L r) (Z r) : DataW H) := by
      obtain ⟨hz, hn⟩ := h r (by simp)
      unfold intRow rowOf
      rw [List.length_map]
      cases hA : A r with
      | none =>
        have := hn hA
        rw [List.length_take]
        omega
      | some a =>
        simp only
        rw [Rows.uptoBulk, bulk_lits]
        omega
    omega
theorem open_byt_rows {H : Type} {enc : TypeId × Value → H} {P : Program} {t e q : TypeId} (ht : P.underlying t = some (.slice e)) (he : P.underlying e = some (.slice q)) (hq : P.underlying q = some (.int .u8)) (ce : P.cellsOf e = 1) (cq : P.cellsOf q = 1) {W : World} {a0 : Option Addr} {len cap : Nat} {d0 : DataW H} {p : List MemPlace}
    (h0 : DataW.Trod enc P W 0 (fun _ => true) true t (.slice a0 len cap) d0 p) :
    ∃ (vs : List (Option Addr × Nat × Nat)) (ls : List (List Nat)), Parts W a0 len cap vs ls ∧ ls.flatten.length ≤ Rows.uptoBulk d0 := by
  obtain ⟨fuel, hf⟩ := h0
  rcases open_int_rows ht he hq ce cq hf with ⟨hcs, hx⟩ | ⟨a, len', cap', A, L, C, Z, hcs, _, hl, hm, hx, hr⟩
  · simp [Value.cells] at hcs
    obtain ⟨rfl, rfl, rfl⟩ := hcs
    exact ⟨[], [], ⟨Lies.nil _ _, rfl, fun j v l hv => by simp at hv⟩, by simp⟩
  · simp [Value.cells] at hcs
    obtain ⟨rfl, rfl, rfl⟩ := hcs
    simp only [Prod.mk.injEq] at hx
    obtain ⟨rfl, rfl⟩ := hx
    refine ⟨(List.range len).map fun r => (A r, L r, C r), (List.range len).map (rowOf Z L), ⟨⟨by simp, fun h => by (cases h), hl, by unfold maxLen at hm; omega, fun x hx j u hu => ?_⟩, by simp, fun j v l hv hl' => ?_⟩, ?_⟩
    · injection hx with hx
      subst hx
      rw [List.map_map, List.getElem?_map] at hu
      have hj : j < len := by
        rcases Nat.lt_or_ge j len with h | h
        · exact h
        · rw [List.getElem?_eq_none (by simpa using h)] at hu; simp at hu
      rw [List.getElem?_range hj] at hu
      simp at hu
      rw [← hu]
      exact (hr j (by omega)).1
    · rw [List.getElem?_map] at hv hl'
      have hj : j < len := by
        rcases Nat.lt_or_ge j len with h | h
        · exact h
        · rw [List.getElem?_eq_none (by simpa using h)] at hv; simp at hv
      rw [List.getElem?_range hj] at hv hl'
      simp at hv hl'
      subst hv hl'
      obtain ⟨_, r1, r2, r3, r4, r5, r6⟩ := hr j (by omega)
      have hb : ∀ x ∈ Z j, 0 ≤ x ∧ x < 256 := fun x hx => bd_u8 (r4 x hx)
      have hby : byt (rowOf Z L j) = ((Z j).take (L j)).map (Value.int .u8) := by
        unfold byt rowOf
        rw [List.map_map]
        exact List.map_congr_left fun x hx => by
          have := hb x (List.mem_of_mem_take hx)
          simp only [Function.comp_def]
          rw [Int.toNat_of_nonneg this.1]
      refine ⟨⟨by rw [hby]; simp; omega, r5, r1, by unfold maxLen at r2; omega, fun x hx i u hu => ?_⟩, fun x hx => ?_⟩
      · rw [hby, List.getElem?_map] at hu
        have hi : i < L j := by
          rcases Nat.lt_or_ge i (L j) with h | h
          · exact h
          · rw [List.getElem?_eq_none (by rw [List.length_take]; omega)] at hu; simp at hu
        rw [List.getElem?_take, if_pos hi] at hu
        rw [(r6 x hx).2 i (by omega)]
        have hz : (Z j)[i]? = some ((Z j)[i]'(by omega)) := List.getElem?_eq_getElem (by omega)
        rw [hz] at hu
        simp at hu
        rw [← hu]
        simp [List.getD, hz]
      · obtain ⟨y, hy, rfl⟩ := List.mem_map.1 hx
        have := hb y (List.mem_of_mem_take hy)
        omega
    · rw [Rows.uptoBulk]
      have := bulk_rows (H := H) .u8 A L C Z (List.range len) (fun r hr' => ⟨(hr r (by have := List.mem_range.1 hr'; omega)).2.2.2.1, (hr r (by have := List.mem_range.1 hr'; omega)).2.2.2.2.2.1⟩)
      omega
end Go.Proofs.YthoaagkllkcacaaDoor

