/-
  past: an argument that is a slice of operations: opened.
-/
import Derived.Test.YtfpbmpgdpnpdjaaPWakes
import Derived.Test.YtfpbmpgdpnpdjaaOpenU
namespace Go.Proofs.Ytfpbmpgdpnpdjaa
open Go.ChangeShapes Go.WideShapes Go.ChangeAt Go.RowKit
set_option linter.unusedSimpArgs false

instance : Inhabited O := ⟨⟨0, 0, [], false⟩⟩
theorem cells_op : Try.prog.cellsOf 67 = 4 := by kernel_rfl
theorem cells_us : Try.prog.cellsOf 22 = 1 := by kernel_rfl
theorem cells_bool : Try.prog.cellsOf 4 = 1 := by kernel_rfl
theorem bytes_unit : Try.prog.bytesOf 30 = 40 := by kernel_rfl
/-- What is known of an operation that came in: its units can be told from memory. -/
structure OWf (o : O) : Prop where
  cl : 0 ≤ o.cl ∧ o.cl < 4294967296
  rq : 0 ≤ o.rq ∧ o.rq < 18446744073709551616
  us : ∀ u ∈ o.us, UWf u
  n : o.us.length * 40 ≤ 140737488355328
section
variable {H : Type} {enc : TypeId × Value → H} {W : World} {base : Nat} {held : Bool}
theorem weights_mem_all {P : Program} {e : TypeId} : ∀ {l : List (DataW H)} {d : DataW H}, d ∈ l → ∀ m ∈ d.weights P e, m ∈ DataW.weightsAll P e l
  | x :: l, d, h, m, hm => by
    rw [DataW.weightsAll, List.mem_append]
    rcases List.mem_cons.1 h with rfl | h
    · exact .inl hm
    · exact .inr (weights_mem_all h m hm)
  | [], _, h, _, _ => by cases h
set_option maxRecDepth 100000 in
theorem read_op {fuel : Nat} {cs : List Value} {x : DataW H × List MemPlace} (h : DataW.trod enc Try.prog W base (fun _ => true) held fuel 67 cs = some x) (hw : ∀ m ∈ x.1.weights Try.prog 67, m ≤ reachBytes) :
    ∃ (o : O) (A : Option Addr) (n c : Nat), cs = ocell o (.slice A n c) ∧ Lies W 5 A n c (uns o.us) ∧ OWf o := by
  obtain ⟨xs, k, rfl, rfl, hl, hxl, hf⟩ := DataW.trod_struct Try.underlying67 h
  rw [cells_op] at hl
  match cs, hl, xs, hxl with
  | [v0, v1, v2, v3], _, [y0, y1, y2], _ =>
    have f0 := hf 0 _ rfl
    have f1 := hf 1 _ rfl
    have f2 := hf 2 _ rfl
    simp only [List.getElem_toArray, List.getElem_cons_zero, List.getElem_cons_succ, cells_id, cells_us, cells_bool] at f0 f1 f2
    obtain ⟨cl, rq, h0, w0, w1⟩ := read_id f0
    obtain ⟨un, h2, -⟩ := DataW.trod_bool Try.underlying4 f2
    have f1' := f1
    obtain ⟨A, n, c, hv⟩ : ∃ A n c, v2 = .slice A n c := by
      rcases Deep.open_slice Try.underlying22 f1 with ⟨h0, -⟩ | ⟨a, len, cap, m, k, D, Pl, h0, -⟩
      · exact ⟨_, _, _, by simpa using h0⟩
      · exact ⟨_, _, _, by simpa using h0⟩
    subst hv
    obtain ⟨us, hn, hL, hu, hc⟩ := read_units f1'
    have hle := hL.le
    simp at h0 h2
    obtain ⟨rfl, rfl⟩ := h0
    subst h2
    refine ⟨⟨cl, rq, us, un⟩, A, n, c, rfl, hL, w0, w1, hu, ?_⟩
    simp only
    rw [hn]
    rcases hc with rfl | ⟨el, sp, he, hlen⟩
    · omega
    · have := hw ((el.length + sp.length) * Try.prog.bytesOf 30) (by
        rw [DataW.weights, Try.underlying67]
        refine DataW.weights_mem_each (j := 1) rfl rfl _ ?_
        show _ ∈ DataW.weights Try.prog 22 y1.1
        rw [he, DataW.weights, Try.underlying22]
        simp)
      rw [bytes_unit, hlen] at this
      unfold reachBytes at this
      omega
set_option maxRecDepth 100000 in
/-- An argument that is a slice of operations. -/
theorem open_ops {A : Option Addr} {n c : Nat} {d : DataW H} {p : List MemPlace} (h : DataW.Trod enc Try.prog W base (fun _ => true) held 58 (.slice A n c) d p) (hw : ∀ m ∈ d.weights Try.prog 58, m ≤ reachBytes) :
    ∃ l : List (O × Value), OpsLie W (fun k => k < W.heap.size) A n c l ∧ (∀ x ∈ l, OWf x.1) ∧ c * 48 ≤ 140737488355328 := by
  obtain ⟨fuel, hf0⟩ := h
  have hf : DataW.trod enc Try.prog W base (fun _ => true) held fuel 58 [.slice A n c] = some (d, p) := hf0
  rcases Deep.open_slice Try.underlying58 hf with ⟨h0, hx⟩ | ⟨a, len, cap, m, k, D, Pl, h0, hb, hl, hm, hmm, hdx, hx⟩
  · simp at h0
    obtain ⟨rfl, rfl, rfl⟩ := h0
    exact ⟨[], OpsLie.nil _ _, (fun _ h => by cases h), by omega⟩
  · simp at h0
    obtain ⟨rfl, rfl, rfl⟩ := h0
    obtain rfl : m = c := by simpa using hmm
    have hd : d = .slice ((List.range n).map D) ((List.range (m - n)).map fun j => D (n + j)) := congrArg Prod.fst hdx
    have hbytes : (Try.prog.bytesOf 67) = 48 := by kernel_rfl
    have hcap : m * 48 ≤ reachBytes := by
      have := hw ((((List.range n).map D).length + ((List.range (m - n)).map fun j => D (n + j)).length) * Try.prog.bytesOf 67) (by rw [hd, DataW.weights, Try.underlying58]; simp)
      rw [hbytes] at this
      simp at this
      rwa [show n + (m - n) = m by omega] at this
    rw [cells_op] at hx
    obtain ⟨f, hf2⟩ := Deep.choose_lt (α := O × Value) (n := n) (p := fun i u => (∀ j v, (ocell u.1 u.2)[j]? = some v → W.cell? (a.add (i * 4 + j)) = some v) ∧ (∃ A' n' c', u.2 = .slice A' n' c' ∧ Lies W 5 A' n' c' (uns u.1.us)) ∧ OWf u.1) (fun i hi => by
      obtain ⟨cs, h1, h2⟩ := hx i (by omega)
      obtain ⟨o, A', n', c', rfl, hL, ho⟩ := read_op h2 (fun q hq => hw q (by
        rw [hd, DataW.weights, Try.underlying58]
        simp only [List.mem_cons, List.mem_append]
        exact .inr (.inl (weights_mem_all (List.mem_map.2 ⟨i, List.mem_range.2 hi, rfl⟩) q hq))))
      obtain ⟨-, -, hc⟩ := World.cells?_some h1
      refine ⟨(o, .slice A' n' c'), fun j v hv => ?_, ⟨A', n', c', rfl, hL⟩, ho⟩
      have hj := (List.getElem?_eq_some_iff.1 hv).1
      have := hc j (by simpa [ocell] using hj)
      rw [Deep.add_add] at this
      rw [this, hv])
    have hL : Lies W 4 (some a) n m (ocs ((List.range n).map f)) := by
      refine ⟨by rw [ocs_len]; simp, (fun h => by cases h), hl, by unfold maxLen at hm; omega, fun b hb j v hv => ?_⟩
      injection hb with hb
      subst hb
      have hj : j < n * 4 := by
        have := (List.getElem?_eq_some_iff.1 hv).1
        rw [ocs_len] at this; simpa using this
      have e := ocs_at ((List.range n).map f) (j / 4) (f (j / 4)) (by rw [List.getElem?_map, List.getElem?_range (by omega)]; rfl) (j % 4)
      obtain ⟨v2, hv2⟩ : ∃ v2, (ocell (f (j / 4)).1 (f (j / 4)).2)[j % 4]? = some v2 := ⟨_, List.getElem?_eq_getElem (by rw [ocell_len]; omega)⟩
      have e2 := e v2 hv2
      rw [show j / 4 * 4 + j % 4 = j by omega, hv] at e2
      injection e2 with e2
      subst e2
      have := (hf2 (j / 4) (by omega)).1 (j % 4) _ hv2
      rwa [show j / 4 * 4 + j % 4 = j by omega] at this
    refine ⟨(List.range n).map f, ⟨hL, fun b hb h0 => ?_, fun x hx => ?_⟩, fun x hx => ?_, by unfold reachBytes at hcap; omega⟩
    · obtain ⟨b2, off, e, hlt, -⟩ := hL.pos h0 (by decide)
      rw [e] at hb
      injection hb with hb
      subst hb
      exact hlt
    · obtain ⟨i, hi, rfl⟩ := List.mem_map.1 hx
      obtain ⟨A', n', c', e, hL2⟩ := (hf2 i (List.mem_range.1 hi)).2.1
      refine ⟨A', n', c', e, hL2, fun b hb h0 => ?_⟩
      obtain ⟨b2, off, e, hlt, -⟩ := hL2.pos h0 (by decide)
      rw [e] at hb
      injection hb with hb
      subst hb
      exact hlt
    · obtain ⟨i, hi, rfl⟩ := List.mem_map.1 hx
      exact (hf2 i (List.mem_range.1 hi)).2.2
theorem weights_of {P : Program} {ts : List TypeId} {ds : List (DataW H)} (h : (DataW.weightsEach P ts ds).all (· ≤ reachBytes) = true) {j : Nat} {t : TypeId} {d : DataW H} (ht : ts[j]? = some t) (hd : ds[j]? = some d) : ∀ m ∈ d.weights P t, m ≤ reachBytes := fun m hm => by
  have := List.all_eq_true.1 h _ (DataW.weights_mem_each ht hd m hm)
  simpa using this
end
end Go.Proofs.Ytfpbmpgdpnpdjaa

