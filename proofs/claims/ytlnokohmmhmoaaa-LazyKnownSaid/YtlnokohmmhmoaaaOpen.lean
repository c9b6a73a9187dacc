/-
  Own lemmas for the frame of a statement: an argument that is a slice of integers, opened, nil or not; the bounds of integers.
-/
import Derived.Test.YtlnokohmmhmoaaaMem
import Derived.ProofKit
import Derived.SizedLaws
namespace Go.Proofs.Ytlnokohmmhmoaaa
open Go.ChangeShapes Go.WideShapes Go.ChangeAt Go.RowKit

theorem bd_u8 {x : Int} (h : (Lit.int .u8 x).wf = true) : 0 ≤ x ∧ x < 256 := by
  have h1 : IntKind.u8.min = 0 := rfl
  have h2 : IntKind.u8.max = 255 := rfl
  simp only [Lit.wf, Bool.and_eq_true, decide_eq_true_eq] at h
  omega
theorem bd_u16 {x : Int} (h : (Lit.int .u16 x).wf = true) : 0 ≤ x ∧ x < 65536 := by
  have h1 : IntKind.u16.min = 0 := rfl
  have h2 : IntKind.u16.max = 65535 := rfl
  simp only [Lit.wf, Bool.and_eq_true, decide_eq_true_eq] at h
  omega
theorem bd_i16 {x : Int} (h : (Lit.int .i16 x).wf = true) : -32768 ≤ x ∧ x < 32768 := by
  have h1 : IntKind.i16.min = -32768 := rfl
  have h2 : IntKind.i16.max = 32767 := rfl
  simp only [Lit.wf, Bool.and_eq_true, decide_eq_true_eq] at h
  omega
theorem bd_i32 {x : Int} (h : (Lit.int .i32 x).wf = true) : -2147483648 ≤ x ∧ x < 2147483648 := by
  have h1 : IntKind.i32.min = -2147483648 := rfl
  have h2 : IntKind.i32.max = 2147483647 := rfl
  simp only [Lit.wf, Bool.and_eq_true, decide_eq_true_eq] at h
  omega
theorem bd_u32 {x : Int} (h : (Lit.int .u32 x).wf = true) : 0 ≤ x ∧ x < 4294967296 := by
  have h1 : IntKind.u32.min = 0 := rfl
  have h2 : IntKind.u32.max = 4294967295 := rfl
  simp only [Lit.wf, Bool.and_eq_true, decide_eq_true_eq] at h
  omega
theorem bd_u64 {x : Int} (h : (Lit.int .u64 x).wf = true) : 0 ≤ x ∧ x < 18446744073709551616 := by
  have h1 : IntKind.u64.min = 0 := rfl
  have h2 : IntKind.u64.max = 18446744073709551615 := rfl
  simp only [Lit.wf, Bool.and_eq_true, decide_eq_true_eq] at h
  omega
theorem bd_i64 {x : Int} (h : (Lit.int .i64 x).wf = true) : -9223372036854775808 ≤ x ∧ x ≤ 9223372036854775807 := by
  have h1 : IntKind.i64.min = -9223372036854775808 := rfl
  have h2 : IntKind.i64.max = 9223372036854775807 := rfl
  simp only [Lit.wf, Bool.and_eq_true, decide_eq_true_eq] at h
  omega

/-- An argument that is a slice of integers. -/
theorem open_nums {H : Type} {enc : TypeId × Value → H} {P : Program} {t e : TypeId} {k : IntKind} (ht : P.underlying t = some (.slice e)) (he : P.underlying e = some (.int k)) (hc : P.cellsOf e = 1) {W : World} {a0 : Option Addr} {len cap : Nat} {d0 : DataW H} {p : List MemPlace}
    (h0 : DataW.Trod enc P W 0 (fun _ => true) true t (.slice a0 len cap) d0 p) :
    ∃ zs : List Int, zs.length = len ∧ Lies W 1 a0 len cap (zs.map (Value.int k)) ∧ (∀ x ∈ zs, (Lit.int k x).wf = true) ∧ (cap = 0 ∨ ∃ el sp, d0 = .slice el sp ∧ el.length + sp.length = cap) := by
  obtain ⟨fuel, hf⟩ := h0
  rcases open_ints ht he hc hf with ⟨hcs, hx⟩ | ⟨a, len', cap', zs, hcs, _, hl, hm, hz, hx, hcell, hwz⟩
  · simp [Value.cells] at hcs
    obtain ⟨rfl, rfl, rfl⟩ := hcs
    exact ⟨[], rfl, Lies.nil _ _, (fun _ h => by cases h), .inl rfl⟩
  · simp [Value.cells] at hcs
    obtain ⟨rfl, rfl, rfl⟩ := hcs
    simp only [Prod.mk.injEq] at hx
    obtain ⟨rfl, rfl⟩ := hx
    simp only [if_true] at hz
    refine ⟨zs.take len, by simp; omega, ⟨by simp; omega, (fun h => by cases h), hl, by unfold maxLen at hm; omega, fun x hx j u hu => ?_⟩, fun x hx' => hwz x (List.mem_of_mem_take hx'), .inr ⟨_, _, rfl, ?_⟩⟩
    · injection hx with hx
      subst hx
      have hj : j < len := by
        have := (List.getElem?_eq_some_iff.1 hu).1
        simp at this; omega
      rw [hcell j (by omega)]
      simp only [List.map_take, List.getElem?_take, hj, if_true, List.getElem?_map] at hu
      rw [← hu]
      simp [List.getD, show j < zs.length by omega]
    · simp [lits]; omega
/-- .. of bytes. -/
theorem open_byt {H : Type} {enc : TypeId × Value → H} {P : Program} {t e : TypeId} (ht : P.underlying t = some (.slice e)) (he : P.underlying e = some (.int .u8)) (hc : P.cellsOf e = 1) {W : World} {a0 : Option Addr} {len cap : Nat} {d0 : DataW H} {p : List MemPlace}
    (h0 : DataW.Trod enc P W 0 (fun _ => true) true t (.slice a0 len cap) d0 p) :
    ∃ l : List Nat, l.length = len ∧ Lies W 1 a0 len cap (byt l) ∧ (∀ x ∈ l, x < 256) ∧ (cap = 0 ∨ ∃ el sp, d0 = .slice el sp ∧ el.length + sp.length = cap) := by
  obtain ⟨zs, hz, hl, hw, hc⟩ := open_nums ht he hc h0
  have hb : ∀ x ∈ zs, 0 ≤ x ∧ x < 256 := fun x hx => bd_u8 (hw x hx)
  refine ⟨zs.map Int.toNat, by simpa using hz, ?_, ?_, hc⟩
  · have e : byt (zs.map Int.toNat) = zs.map (Value.int .u8) := by
      unfold byt
      rw [List.map_map]
      exact List.map_congr_left fun x hx => by
        have := hb x hx
        simp only [Function.comp_def]
        rw [Int.toNat_of_nonneg this.1]
    rw [e]; exact hl
  · intro x hx
    obtain ⟨y, hy, rfl⟩ := List.mem_map.1 hx
    have := hb y hy
    omega
/-- .. of numbers without a sign, as such. -/
def nums (k : IntKind) (l : List Nat) : List Value := l.map fun c : Nat => Value.int k (c : Int)
theorem open_u64 {H : Type} {enc : TypeId × Value → H} {P : Program} {t e : TypeId} (ht : P.underlying t = some (.slice e)) (he : P.underlying e = some (.int .u64)) (hc : P.cellsOf e = 1) {W : World} {a0 : Option Addr} {len cap : Nat} {d0 : DataW H} {p : List MemPlace}
    (h0 : DataW.Trod enc P W 0 (fun _ => true) true t (.slice a0 len cap) d0 p) :
    ∃ l : List Nat, l.length = len ∧ Lies W 1 a0 len cap (nums .u64 l) ∧ (∀ x ∈ l, x < 18446744073709551616) ∧ (cap = 0 ∨ ∃ el sp, d0 = .slice el sp ∧ el.length + sp.length = cap) := by
  obtain ⟨zs, hz, hl, hw, hc⟩ := open_nums ht he hc h0
  have hb : ∀ x ∈ zs, 0 ≤ x ∧ x < 18446744073709551616 := fun x hx => bd_u64 (hw x hx)
  refine ⟨zs.map Int.toNat, by simpa using hz, ?_, ?_, hc⟩
  · have e : nums .u64 (zs.map Int.toNat) = zs.map (Value.int .u64) := by
      unfold nums
      rw [List.map_map]
      exact List.map_congr_left fun x hx => by
        have := hb x hx
        simp only [Function.comp_def]
        rw [Int.toNat_of_nonneg this.1]
    rw [e]; exact hl
  · intro x hx
    obtain ⟨y, hy, rfl⟩ := List.mem_map.1 hx
    have := hb y hy
    omega
theorem reach_of {H : Type} {P : Program} {ts : List TypeId} {ds : List (DataW H)} (h : (DataW.weightsEach P ts ds).all (· ≤ reachBytes) = true) {j : Nat} {t e : TypeId} {d : DataW H} {cap : Nat}
    (ht : ts[j]? = some t) (hd : ds[j]? = some d) (hu : P.underlying t = some (.slice e)) (hc : cap = 0 ∨ ∃ el sp, d = .slice el sp ∧ el.length + sp.length = cap) : cap * P.bytesOf e ≤ 140737488351232 := by
  rcases hc with rfl | ⟨el, sp, rfl, hl⟩
  · simp
  · have := sized_slice h ht hd hu
    rw [hl] at this
    exact this
end Go.Proofs.Ytlnokohmmhmoaaa

