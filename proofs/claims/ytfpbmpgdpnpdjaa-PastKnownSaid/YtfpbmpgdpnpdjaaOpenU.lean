/-
  edit: arguments that are slices of units, ids: opened.
-/
import Derived.Test.YtfpbmpgdpnpdjaaBackP
import Derived.Test.YtfpbmpgdpnpdjaaOpen
import Derived.Deep.Slices
import Derived.Lib.SmallJoins
namespace Go.Proofs.Ytfpbmpgdpnpdjaa
open Go.ChangeShapes Go.WideShapes Go.ChangeAt Go.RowKit
set_option linter.unusedSimpArgs false

structure UWf (u : U) : Prop where
  k : -9223372036854775808 ≤ u.k ∧ u.k ≤ 9223372036854775807
  p : Placed u
  c : -2147483648 ≤ u.c ∧ u.c < 2147483648
  cl : 0 ≤ u.cl ∧ u.cl < 4294967296
  rq : 0 ≤ u.rq ∧ u.rq < 18446744073709551616
instance : Inhabited U := ⟨⟨0, 0, 0, 0, 0⟩⟩
theorem cells_int : Try.prog.cellsOf 3 = 1 := by kernel_rfl
theorem cells_char : Try.prog.cellsOf 24 = 1 := by kernel_rfl
theorem cells_u32 : Try.prog.cellsOf 25 = 1 := by kernel_rfl
theorem cells_u64 : Try.prog.cellsOf 26 = 1 := by kernel_rfl
theorem cells_id : Try.prog.cellsOf 28 = 2 := by kernel_rfl
theorem cells_unit : Try.prog.cellsOf 30 = 5 := by kernel_rfl

section
variable {H : Type} {enc : TypeId × Value → H} {W : World} {base : Nat} {sp : Nat → Bool} {held : Bool}
set_option maxRecDepth 100000 in
theorem read_id {fuel : Nat} {cs : List Value} {x : DataW H × List MemPlace} (h : DataW.trod enc Try.prog W base sp held fuel 28 cs = some x) :
    ∃ cl rq : Int, cs = [.int .u32 cl, .int .u64 rq] ∧ (0 ≤ cl ∧ cl < 4294967296) ∧ (0 ≤ rq ∧ rq < 18446744073709551616) := by
  obtain ⟨xs, n, rfl, rfl, hl, hxl, hf⟩ := DataW.trod_struct Try.underlying28 h
  rw [cells_id] at hl
  match cs, hl, xs, hxl with
  | [v0, v1], _, [y0, y1], _ =>
    have f0 := hf 0 _ rfl
    have f1 := hf 1 _ rfl
    simp only [List.getElem_toArray, List.getElem_cons_zero, List.getElem_cons_succ, cells_u32, cells_u64] at f0 f1
    obtain ⟨a, h0, -, w0⟩ := DataW.trod_int Try.underlying25 f0
    obtain ⟨b, h1, -, w1⟩ := DataW.trod_int Try.underlying26 f1
    simp at h0 h1
    subst h0 h1
    exact ⟨a, b, rfl, bd_u32 w0, bd_u64 w1⟩
set_option maxRecDepth 100000 in
theorem read_unit {fuel : Nat} {cs : List Value} {x : DataW H × List MemPlace} (h : DataW.trod enc Try.prog W base sp held fuel 30 cs = some x) : ∃ u : U, cs = ucell u ∧ UWf u := by
  obtain ⟨xs, n, rfl, rfl, hl, hxl, hf⟩ := DataW.trod_struct Try.underlying30 h
  rw [cells_unit] at hl
  match cs, hl, xs, hxl with
  | [v0, v1, v2, v3, v4], _, [y0, y1, y2, y3], _ =>
    have f0 := hf 0 _ rfl
    have f1 := hf 1 _ rfl
    have f2 := hf 2 _ rfl
    have f3 := hf 3 _ rfl
    simp only [List.getElem_toArray, List.getElem_cons_zero, List.getElem_cons_succ, cells_int, cells_char, cells_id] at f0 f1 f2 f3
    obtain ⟨a, h0, -, w0⟩ := DataW.trod_int Try.underlying3 f0
    obtain ⟨b, h1, -, w1⟩ := DataW.trod_int Try.underlying3 f1
    obtain ⟨c, h2, -, w2⟩ := DataW.trod_int Try.underlying24 f2
    obtain ⟨cl, rq, h3, w3, w4⟩ := read_id f3
    simp at h0 h1 h2 h3
    subst h0 h1 h2
    obtain ⟨rfl, rfl⟩ := h3
    exact ⟨⟨a, b, c, cl, rq⟩, rfl, ⟨bd_i64 w0, bd_i64 w1, bd_i32 w2, w3, w4⟩⟩
/-- A slice of units, in memory as it was read. -/
theorem read_units {fuel : Nat} {A : Option Addr} {n c : Nat} {x : DataW H × List MemPlace} (h : DataW.trod enc Try.prog W base (fun _ => true) held fuel 22 [.slice A n c] = some x) :
    ∃ us : List U, us.length = n ∧ Lies W 5 A n c (uns us) ∧ (∀ u ∈ us, UWf u) ∧ (c = 0 ∨ ∃ el sp, x.1 = .slice el sp ∧ el.length + sp.length = c) := by
  rcases Deep.open_slice Try.underlying22 h with ⟨h0, rfl⟩ | ⟨a, len, cap, m, k, D, Pl, h0, hb, hl, hm, hmm, rfl, hx⟩
  · simp at h0
    obtain ⟨rfl, rfl, rfl⟩ := h0
    exact ⟨[], rfl, Lies.nil _ _, (fun _ h => by cases h), .inl rfl⟩
  · simp at h0
    obtain ⟨rfl, rfl, rfl⟩ := h0
    simp only [if_true] at hmm
    subst hmm
    rw [cells_unit] at hx
    obtain ⟨f, hf⟩ := Deep.choose_lt (α := U) (n := m) (p := fun i u => (∀ j v, (ucell u)[j]? = some v → W.cell? (a.add (i * 5 + j)) = some v) ∧ UWf u) (fun i hi => by
      obtain ⟨cs, h1, h2⟩ := hx i hi
      obtain ⟨u, rfl, hu⟩ := read_unit h2
      obtain ⟨-, -, hc⟩ := World.cells?_some h1
      refine ⟨u, fun j v hv => ?_, hu⟩
      have hj := (List.getElem?_eq_some_iff.1 hv).1
      have := hc j (by simpa [ucell] using hj)
      rw [Deep.add_add] at this
      rw [this, hv])
    refine ⟨(List.range n).map f, by simp, ⟨by rw [uns_len]; simp, (fun h => by cases h), hl, by unfold maxLen at hm; omega, fun b hb j v hv => ?_⟩, fun u hu => ?_, .inr ⟨_, _, rfl, by simp; omega⟩⟩
    · injection hb with hb
      subst hb
      have hj : j < n * 5 := by
        have := (List.getElem?_eq_some_iff.1 hv).1
        rw [uns_len] at this; simpa using this
      have e := uns_at ((List.range n).map f) (j / 5) (f (j / 5)) (by rw [List.getElem?_map, List.getElem?_range (by omega)]; rfl) (j % 5)
      obtain ⟨v2, hv2⟩ : ∃ v2, (ucell (f (j / 5)))[j % 5]? = some v2 := ⟨_, List.getElem?_eq_getElem (by rw [ucell_len]; omega)⟩
      have e2 := e v2 hv2
      rw [show j / 5 * 5 + j % 5 = j by omega, hv] at e2
      injection e2 with e2
      subst e2
      have := (hf (j / 5) (by omega)).1 (j % 5) _ hv2
      rwa [show j / 5 * 5 + j % 5 = j by omega] at this
    · obtain ⟨i, hi, rfl⟩ := List.mem_map.1 hu
      exact (hf i (by have := List.mem_range.1 hi; omega)).2
/-- An argument that is a slice of units. -/
theorem open_units {A : Option Addr} {n c : Nat} {d : DataW H} {p : List MemPlace} (h : DataW.Trod enc Try.prog W base (fun _ => true) held 22 (.slice A n c) d p) :
    ∃ us : List U, us.length = n ∧ Lies W 5 A n c (uns us) ∧ (∀ u ∈ us, UWf u) ∧ (c = 0 ∨ ∃ el sp, d = .slice el sp ∧ el.length + sp.length = c) := by
  obtain ⟨fuel, hf⟩ := h
  exact read_units hf
set_option maxRecDepth 100000 in
set_option linter.constructorNameAsVariable false in
/-- An argument that is an id. -/
theorem open_id {r : Reach} {b0 : Nat} {v : Value} {d : DataW H} {p : List MemPlace} (hv : Value.okWide Try.prog W r b0 28 v) (h : DataW.Trod enc Try.prog W base sp held 28 v d p) :
    ∃ cl rq : Int, v = .agg #[.int .u32 cl, .int .u64 rq] := by
  obtain ⟨cs, rfl, hsz⟩ := okWide_struct Try.underlying28 hv
  obtain ⟨fuel, hf⟩ := h
  obtain ⟨cl, rq, h1, -, -⟩ := read_id hf
  have h4 : cs.toList = [.int .u32 cl, .int .u64 rq] := h1
  exact ⟨cl, rq, by rw [← h4]⟩
/-- An argument that is a slice of chars. -/
theorem open_chars {P : Program} {t e : TypeId} (ht : P.underlying t = some (.slice e)) (he : P.underlying e = some (.int .i32)) (hc : P.cellsOf e = 1) {a0 : Option Addr} {len cap : Nat} {d0 : DataW H} {p : List MemPlace}
    (h0 : DataW.Trod enc P W 0 (fun _ => true) true t (.slice a0 len cap) d0 p) :
    ∃ l : List Int, l.length = len ∧ Lies W 1 a0 len cap (chs l) ∧ (∀ x ∈ l, -2147483648 ≤ x ∧ x < 2147483648) ∧ (cap = 0 ∨ ∃ el sp, d0 = .slice el sp ∧ el.length + sp.length = cap) := by
  obtain ⟨zs, hz, hl, hw, hc⟩ := open_nums ht he hc h0
  exact ⟨zs, hz, hl, fun x hx => bd_i32 (hw x hx), hc⟩
end
end Go.Proofs.Ytfpbmpgdpnpdjaa

