/-
  utf: what the row says of the table, as cells.
-/
import Derived.Test.YtbphdojjddnljaaDoorWakes
import Derived.Test.YtbphdojjddnljaaDoorOpen
import Derived.OpenShut
import Derived.Lib.LaidTab
namespace Go.Proofs.YtbphdojjddnljaaDoor
open Go.ChangeShapes Go.WideShapes Go.ChangeAt Go.RowKit

theorem cells_form : Tryd.prog.cellsOf 53 = 3 := by kernel_rfl
theorem cells_char : Tryd.prog.cellsOf 24 = 1 := by kernel_rfl
theorem cells_u8 : Tryd.prog.cellsOf 5 = 1 := by kernel_rfl
theorem cells_uint : Tryd.prog.cellsOf 44 = 1 := by kernel_rfl
theorem gForms : Tryd.prog.globalNamed "copybook/utf.forms" = some 0 := by kernel_rfl
theorem gFormsType : (Tryd.prog.globals[0]?).map (·.type) = some 54 := by kernel_rfl
theorem form_cells {H : Type} {enc : TypeId × Value → H} {w : World} {base : Nat} {sp : Nat → Bool} {held : Bool} {fuel : Nat} {cs : List Value} {a b c : Int} {y : DataW H × List MemPlace}
    (h : DataW.trod enc Tryd.prog w base sp held fuel 53 cs = some y) (hy : y.1 = .agg [.lit (.int .i32 a), .lit (.int .u8 b), .lit (.int .u64 c)]) : cs = [.int .i32 a, .int .u8 b, .int .u64 c] := by
  obtain ⟨ys, n, _, rfl, hl, hyl, hf⟩ := DataW.trod_struct Tryd.underlying53 h
  rw [cells_form] at hl
  have h0 : DataW.trod enc Tryd.prog w base sp held n 24 ((cs.drop 0).take (Tryd.prog.cellsOf 24)) = ys[0]? := hf 0 _ rfl
  have h1 : DataW.trod enc Tryd.prog w base sp held n 5 ((cs.drop 1).take (Tryd.prog.cellsOf 5)) = ys[1]? := hf 1 _ rfl
  have h2 : DataW.trod enc Tryd.prog w base sp held n 44 ((cs.drop 2).take (Tryd.prog.cellsOf 44)) = ys[2]? := hf 2 _ rfl
  rw [cells_char] at h0
  rw [cells_u8] at h1
  rw [cells_uint] at h2
  match ys, hyl with
  | [y0, y1, y2], _ =>
    match cs, hl with
    | [c0, c1, c2], _ =>
      simp only [List.map_cons, List.map_nil, DataW.agg.injEq, List.cons.injEq, and_true] at hy
      obtain ⟨e0, e1, e2⟩ := hy
      obtain ⟨z0, r0, q0, -⟩ := DataW.trod_int Tryd.underlying24 (x := y0) (by simpa using h0)
      obtain ⟨z1, r1, q1, -⟩ := DataW.trod_int Tryd.underlying5 (x := y1) (by simpa using h1)
      obtain ⟨z2, r2, q2, -⟩ := DataW.trod_int Tryd.underlying44 (x := y2) (by simpa using h2)
      subst q0 q1 q2
      simp at e0 e1 e2 r0 r1 r2
      subst e0 e1 e2 r0 r1 r2
      rfl
theorem forms_tab {W : World} (h : laidMet Tryd.prog [("copybook/utf.forms", Rows.laid_copybook_utf_forms)] W) : Tab W := by
  obtain ⟨ps, ⟨g', t', cs, fuel, p, q, hg', ht', hvar, hd, _, _⟩, _⟩ := h
  obtain rfl := Option.some.inj (gForms.symm.trans hg')
  obtain rfl := Option.some.inj (gFormsType.symm.trans ht')
  obtain ⟨xs, m, _, hx, hl, hxl, hi⟩ := DataW.trod_array Tryd.underlying54 hd
  have hx1 := (congrArg Prod.fst hx).symm
  simp only [Rows.laid_copybook_utf_forms, DataW.agg.injEq] at hx1
  match xs, hxl with
  | [x0, x1, x2, x3], _ =>
    simp only [List.map_cons, List.map_nil, List.cons.injEq, and_true] at hx1
    obtain ⟨e0, e1, e2, e3⟩ := hx1
    have h0 := hi 0 (by decide)
    have h1 := hi 1 (by decide)
    have h2 := hi 2 (by decide)
    have h3 := hi 3 (by decide)
    rw [cells_form] at h0 h1 h2 h3
    have f0 := form_cells (y := x0) h0 e0
    have f1 := form_cells (y := x1) h1 e1
    have f2 := form_cells (y := x2) h2 e2
    have f3 := form_cells (y := x3) h3 e3
    have hc : Tryd.prog.cellsOf 54 = 12 := by kernel_rfl
    rw [hc] at hl
    have hcs : cs.toList = forms := by
      generalize cs.toList = l at *
      have : l = (l.drop (0 * 3)).take 3 ++ (l.drop (1 * 3)).take 3 ++ (l.drop (2 * 3)).take 3 ++ (l.drop (3 * 3)).take 3 := by
        match l, hl with
        | [_, _, _, _, _, _, _, _, _, _, _, _], _ => rfl
      rw [this, f0, f1, f2, f3]
      rfl
    intro j v hv
    have h5 := World.var?_cell gForms hvar j
    rw [Nat.zero_add, h5, ← Array.getElem?_toList, hcs]
    exact hv
theorem open_chars {H : Type} {enc : TypeId × Value → H} {P : Program} {t e : TypeId} (ht : P.underlying t = some (.slice e)) (he : P.underlying e = some (.int .i32)) (hc : P.cellsOf e = 1) {W : World} {a0 : Option Addr} {len cap : Nat} {d0 : DataW H} {p : List MemPlace}
    (h0 : DataW.Trod enc P W 0 (fun _ => true) true t (.slice a0 len cap) d0 p) :
    ∃ l : List Int, l.length = len ∧ Lies W 1 a0 len cap (chs l) ∧ (∀ x ∈ l, -2147483648 ≤ x ∧ x < 2147483648) ∧ (cap = 0 ∨ ∃ el sp, d0 = .slice el sp ∧ el.length + sp.length = cap) := by
  obtain ⟨zs, hz, hl, hw, hc⟩ := open_nums ht he hc h0
  exact ⟨zs, hz, hl, fun x hx => bd_i32 (hw x hx), hc⟩
theorem bulk_one {H : Type} (d : DataW H) : 1 ≤ Rows.uptoBulk d := by
  cases d <;> try (simp only [Rows.uptoBulk]; omega)
  case lit l => cases l <;> simp only [Rows.uptoBulk] <;> omega
theorem bulk_len {H : Type} : ∀ el : List (DataW H), el.length ≤ Rows.uptoBulkAll el
  | [] => by simp
  | d :: el => by
    have h1 := bulk_one d
    have h2 := bulk_len el
    rw [Rows.uptoBulkAll, List.length_cons]
    omega
theorem bulk_cap {H : Type} {d : DataW H} {cap : Nat} (h : cap = 0 ∨ ∃ el sp, d = .slice el sp ∧ el.length + sp.length = cap) : cap ≤ Rows.uptoBulk d := by
  rcases h with rfl | ⟨el, sp, rfl, hl⟩
  · omega
  · have h1 := bulk_len el
    have h2 := bulk_len sp
    rw [Rows.uptoBulk]
    omega
end Go.Proofs.YtbphdojjddnljaaDoor

