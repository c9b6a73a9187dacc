/-
  lazy: an argument that is a state; a slice of truths: opened.
-/
import Derived.Test.YtlnokohmmhmoaaaLOwn
import Derived.Test.YtlnokohmmhmoaaaOpen
import Derived.Deep.Slices
import Derived.Lib.SmallJoins
namespace Go.Proofs.Ytlnokohmmhmoaaa
open Go.ChangeShapes Go.WideShapes Go.ChangeAt Go.RowKit
set_option linter.unusedSimpArgs false

instance : Inhabited Pt := ⟨⟨0, 0, 0, []⟩⟩
theorem cells_u32 : Try.prog.cellsOf 29 = 1 := by kernel_rfl
theorem cells_u64 : Try.prog.cellsOf 22 = 1 := by kernel_rfl
theorem cells_u8 : Try.prog.cellsOf 5 = 1 := by kernel_rfl
theorem cells_bool : Try.prog.cellsOf 4 = 1 := by kernel_rfl
theorem cells_bs : Try.prog.cellsOf 23 = 1 := by kernel_rfl
theorem cells_ps : Try.prog.cellsOf 24 = 1 := by kernel_rfl
theorem cells_part : Try.prog.cellsOf 31 = 4 := by kernel_rfl
theorem cells_state : Try.prog.cellsOf 26 = 3 := by kernel_rfl
/-- What is known of a document that came in. -/
structure PIn (x : Pt) : Prop where
  doc : x.doc < 4294967296
  rev : x.rev < 18446744073709551616
  turn : x.turn < 18446744073709551616
section
variable {H : Type} {enc : TypeId × Value → H} {W : World}
theorem in_slice {A : Option Addr} {n c sz : Nat} {xs : List Value} (hL : Lies W sz A n c xs) (h0 : 0 < sz) : ∀ a, A = some a → 0 < n → a.block < W.heap.size := fun b hb hn => by
  obtain ⟨b2, off, e, hlt, -⟩ := hL.pos hn h0
  rw [e] at hb
  injection hb with hb
  subst hb
  exact hlt
theorem slice_form {t e : TypeId} {fuel : Nat} {v : Value} {x : DataW H × List MemPlace} (ht : Try.prog.underlying t = some (.slice e)) (h : DataW.trod enc Try.prog W 0 (fun _ => true) true fuel t [v] = some x) : ∃ A n c, v = .slice A n c := by
  rcases Deep.open_slice ht h with ⟨h0, -⟩ | ⟨a, len, cap, m, k, D, Pl, h0, -⟩
  · exact ⟨_, _, _, by simpa using h0⟩
  · exact ⟨_, _, _, by simpa using h0⟩
theorem read_bytes {fuel : Nat} {v : Value} {x : DataW H × List MemPlace} (h : DataW.trod enc Try.prog W 0 (fun _ => true) true fuel 23 [v] = some x) : ∃ bs, BytesAt W (fun k => k < W.heap.size) v bs := by
  obtain ⟨A, n, c, rfl⟩ := slice_form Try.underlying23 h
  obtain ⟨d, p⟩ := x
  obtain ⟨l, -, hL, -, -⟩ := open_byt Try.underlying23 Try.underlying5 cells_u8 (⟨fuel, h⟩ : DataW.Trod enc Try.prog W 0 (fun _ => true) true 23 (.slice A n c) d p)
  exact ⟨l, A, n, c, rfl, hL, in_slice hL (by decide)⟩
set_option maxRecDepth 100000 in
theorem read_part {fuel : Nat} {cs : List Value} {x : DataW H × List MemPlace} (h : DataW.trod enc Try.prog W 0 (fun _ => true) true fuel 31 cs = some x) :
    ∃ (o : Pt) (v : Value), cs = pcell (o, v) ∧ BytesAt W (fun k => k < W.heap.size) v o.bs ∧ PIn o := by
  obtain ⟨xs, k, rfl, rfl, hl, hxl, hf⟩ := DataW.trod_struct Try.underlying31 h
  rw [cells_part] at hl
  match cs, hl, xs, hxl with
  | [v0, v1, v2, v3], _, [y0, y1, y2, y3], _ =>
    have f0 := hf 0 _ rfl
    have f1 := hf 1 _ rfl
    have f2 := hf 2 _ rfl
    have f3 := hf 3 _ rfl
    simp only [List.getElem_toArray, List.getElem_cons_zero, List.getElem_cons_succ, cells_u32, cells_u64, cells_bs] at f0 f1 f2 f3
    obtain ⟨a, h0, -, w0⟩ := DataW.trod_int Try.underlying29 f0
    obtain ⟨b, h1, -, w1⟩ := DataW.trod_int Try.underlying22 f1
    obtain ⟨c, h2, -, w2⟩ := DataW.trod_int Try.underlying22 f2
    obtain ⟨bs, hb⟩ := read_bytes f3
    simp at h0 h1 h2
    subst h0 h1 h2
    have b0 := bd_u32 w0
    have b1 := bd_u64 w1
    have b2 := bd_u64 w2
    refine ⟨⟨a.toNat, b.toNat, c.toNat, bs⟩, v3, ?_, hb, ⟨by show a.toNat < _; omega, by show b.toNat < _; omega, by show c.toNat < _; omega⟩⟩
    unfold pcell
    simp only [Int.toNat_of_nonneg b0.1, Int.toNat_of_nonneg b1.1, Int.toNat_of_nonneg b2.1]
set_option maxRecDepth 100000 in
theorem read_parts {fuel : Nat} {v : Value} {x : DataW H × List MemPlace} (h : DataW.trod enc Try.prog W 0 (fun _ => true) true fuel 24 [v] = some x) :
    ∃ A n c l, v = .slice A n c ∧ PsAt W (fun k => k < W.heap.size) A n c l ∧ ∀ x ∈ l, PIn x.1 := by
  rcases Deep.open_slice Try.underlying24 h with ⟨h0, rfl⟩ | ⟨a, n, c, m, k, D, Pl, h0, hb, hl, hm, hmm, hdx, hx⟩
  · simp at h0
    exact ⟨none, 0, 0, [], h0, ⟨Lies.nil _ _, (fun _ h => by cases h), fun _ h => by cases h⟩, fun _ h => by cases h⟩
  · simp at h0
    subst h0
    obtain rfl : m = c := by simpa using hmm
    rw [cells_part] at hx
    obtain ⟨f, hf2⟩ := Deep.choose_lt (α := Pt × Value) (n := n) (p := fun i u => (∀ j v, (pcell u)[j]? = some v → W.cell? (a.add (i * 4 + j)) = some v) ∧ BytesAt W (fun k => k < W.heap.size) u.2 u.1.bs ∧ PIn u.1) (fun i hi => by
      obtain ⟨cs, h1, h2⟩ := hx i (by omega)
      obtain ⟨o, v, rfl, hB, ho⟩ := read_part h2
      obtain ⟨-, -, hc⟩ := World.cells?_some h1
      refine ⟨(o, v), fun j v hv => ?_, hB, ho⟩
      have hj := (List.getElem?_eq_some_iff.1 hv).1
      have := hc j (by simpa [pcell] using hj)
      rw [Deep.add_add] at this
      rw [this, hv])
    have hL : Lies W 4 (some a) n m (((List.range n).map f).flatMap pcell) := by
      refine ⟨by rw [flat_len pcell_len]; simp, (fun h => by cases h), hl, by unfold maxLen at hm; omega, fun b hb j v hv => ?_⟩
      injection hb with hb
      subst hb
      have hj : j < n * 4 := by
        have := (List.getElem?_eq_some_iff.1 hv).1
        rw [flat_len pcell_len] at this; simpa using this
      obtain ⟨v2, hv2⟩ : ∃ v2, (pcell (f (j / 4)))[j % 4]? = some v2 := ⟨_, List.getElem?_eq_getElem (by rw [pcell_len]; omega)⟩
      have e := flat_at pcell_len ((List.range n).map f) (j / 4) (f (j / 4)) (by rw [List.getElem?_map, List.getElem?_range (by omega)]; rfl) (j % 4) v2 hv2
      rw [show j / 4 * 4 + j % 4 = j by omega, hv] at e
      injection e with e
      subst e
      have := (hf2 (j / 4) (by omega)).1 (j % 4) _ hv2
      rwa [show j / 4 * 4 + j % 4 = j by omega] at this
    refine ⟨some a, n, m, (List.range n).map f, rfl, ⟨hL, in_slice hL (by decide), fun x hx => ?_⟩, fun x hx => ?_⟩
    · obtain ⟨i, hi, rfl⟩ := List.mem_map.1 hx
      exact (hf2 i (List.mem_range.1 hi)).2.1
    · obtain ⟨i, hi, rfl⟩ := List.mem_map.1 hx
      exact (hf2 i (List.mem_range.1 hi)).2.2
set_option maxRecDepth 100000 in
set_option linter.constructorNameAsVariable false in
/-- An argument that is a state. -/
theorem open_state {r : Reach} {b0 : Nat} {v : Value} {d : DataW H} {p : List MemPlace} (hv : Value.okWide Try.prog W r b0 26 v) (h : DataW.Trod enc Try.prog W 0 (fun _ => true) true 26 v d p) :
    ∃ (op : Nat) (A : Option Addr) (n c : Nat) (B : Option Addr) (m e : Nat) (rest : List Nat) (l : List (Pt × Value)), v = .agg #[.int .u64 op, .slice A n c, .slice B m e] ∧ op < 18446744073709551616 ∧ BytesAt W (fun k => k < W.heap.size) (.slice A n c) rest ∧ PsAt W (fun k => k < W.heap.size) B m e l ∧ ∀ x ∈ l, PIn x.1 := by
  obtain ⟨cs, rfl, hsz⟩ := okWide_struct Try.underlying26 hv
  obtain ⟨fuel, hf⟩ := h
  have hf : DataW.trod enc Try.prog W 0 (fun _ => true) true fuel 26 cs.toList = some (d, p) := hf
  obtain ⟨xs, k, rfl, -, hl, hxl, hf⟩ := DataW.trod_struct Try.underlying26 hf
  rw [cells_state] at hl
  obtain ⟨cs⟩ := cs
  simp only at hl hf
  match cs, hl, xs, hxl with
  | [v0, v1, v2], _, [y0, y1, y2], _ =>
    have f0 := hf 0 _ rfl
    have f1 := hf 1 _ rfl
    have f2 := hf 2 _ rfl
    simp only [List.getElem_toArray, List.getElem_cons_zero, List.getElem_cons_succ, cells_u64, cells_bs, cells_ps] at f0 f1 f2
    obtain ⟨a, h0, -, w0⟩ := DataW.trod_int Try.underlying22 f0
    obtain ⟨bs, hb⟩ := read_bytes f1
    obtain ⟨B, m, e, l, h2, hP, hI⟩ := read_parts f2
    obtain ⟨A, n, c, h1⟩ := slice_form Try.underlying23 f1
    simp at h0 h1 h2
    subst h0 h1 h2
    have b0 := bd_u64 w0
    refine ⟨a.toNat, A, n, c, B, m, e, bs, l, ?_, by omega, hb, hP, hI⟩
    rw [Int.toNat_of_nonneg b0.1]
set_option maxRecDepth 100000 in
/-- An argument that is a slice of truths. -/
theorem open_bools {A : Option Addr} {n c : Nat} {d : DataW H} {p : List MemPlace} (h : DataW.Trod enc Try.prog W 0 (fun _ => true) true 27 (.slice A n c) d p) : ∃ hs : List Bool, Lies W 1 A n c (hs.map .bool) := by
  obtain ⟨fuel, hf0⟩ := h
  have hf : DataW.trod enc Try.prog W 0 (fun _ => true) true fuel 27 [.slice A n c] = some (d, p) := hf0
  rcases Deep.open_slice1 Try.underlying27 cells_bool hf with ⟨h0, -⟩ | ⟨a, len, cap, m, k, V, D, Pl, h0, hb, hl, hm, hmm, hdx, hx⟩
  · simp at h0
    obtain ⟨rfl, rfl, rfl⟩ := h0
    exact ⟨[], Lies.nil _ _⟩
  · simp at h0
    obtain ⟨rfl, rfl, rfl⟩ := h0
    obtain rfl : m = c := by simpa using hmm
    obtain ⟨f, hf2⟩ := Deep.choose_lt (α := Bool) (n := n) (p := fun i b => W.cell? (a.add i) = some (.bool b)) (fun i hi => by
      obtain ⟨h1, h2⟩ := hx i (by omega)
      obtain ⟨b, h3, -⟩ := DataW.trod_bool Try.underlying4 h2
      simp at h3
      exact ⟨b, by rw [h1, h3]⟩)
    refine ⟨(List.range n).map f, by simp, (fun h => by cases h), hl, by unfold maxLen at hm; omega, fun b hb j v hv => ?_⟩
    injection hb with hb
    subst hb
    simp only [List.map_map, List.getElem?_map] at hv
    have hj : j < n := by
      rcases Nat.lt_or_ge j n with h | h
      · exact h
      · rw [List.getElem?_eq_none (by simpa using h)] at hv; cases hv
    rw [List.getElem?_range hj] at hv
    simp at hv
    rw [← hv]
    exact hf2 j hj
end
end Go.Proofs.Ytlnokohmmhmoaaa

