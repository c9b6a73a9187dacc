/-
  lazy: a message's cells; the calls in the forms that the laws' own code needs.
-/
import Derived.Test.YtlnokohmmhmoaaaLEx
import Derived.Test.YtlnokohmmhmoaaaLProper
import Derived.Test.YtlnokohmmhmoaaaLLaw
import Derived.Deep.WholeRow
namespace Go.Proofs.Ytlnokohmmhmoaaa
open Go.RowKit
set_option linter.unusedSimpArgs false

/-- A message lies in a block of its own. -/
def MsgAt (w : World) (g : Nat) (k frm op doc off tot : Int) (X Y : Value) : Prop := w.heap[g]? = some (.cells #[.int .i64 k, .int .u64 0, .int .i64 frm, .int .u32 0, .int .u64 0, .int .u64 0, .int .u64 op, .int .u64 0, .int .u64 0, .int .u64 0, .int .u64 0, .int .u32 0, .int .u64 0, .slice none 0 0, .int .u32 doc, .int .i64 off, .int .i64 tot, .bool false, X, Y] 42 (0, 0))
section
variable {w w' : World} {g : Nat} {k frm op doc off tot : Int} {X Y : Value} {T : Nat → Prop}
theorem MsgAt.keep (h : MsgAt w g k frm op doc off tot X Y) (gs : GrowS T w w') (hT : ¬ T g) : MsgAt w' g k frm op doc off tot X Y := gs.kept h hT
theorem MsgAt.grow (h : MsgAt w g k frm op doc off tot X Y) (gs : Grow w w') : MsgAt w' g k frm op doc off tot X Y := row_grow h gs
theorem MsgAt.lt (h : MsgAt w g k frm op doc off tot X Y) : g < w.heap.size := (Array.getElem?_eq_some_iff.1 h).1
theorem MsgAt.new (w : World) (k frm op doc off tot : Int) (X Y : Value) : MsgAt (w.alloc (.cells #[.int .i64 k, .int .u64 0, .int .i64 frm, .int .u32 0, .int .u64 0, .int .u64 0, .int .u64 op, .int .u64 0, .int .u64 0, .int .u64 0, .int .u64 0, .int .u32 0, .int .u64 0, .slice none 0 0, .int .u32 doc, .int .i64 off, .int .i64 tot, .bool false, X, Y] 42)) w.heap.size k frm op doc off tot X Y := heap_alloc_new w _
theorem MsgAt.load (h : MsgAt w g k frm op doc off tot X Y) (i : Nat) : w.cell? ⟨g, i, none⟩ = (#[.int .i64 k, .int .u64 0, .int .i64 frm, .int .u32 0, .int .u64 0, .int .u64 0, .int .u64 op, .int .u64 0, .int .u64 0, .int .u64 0, .int .u64 0, .int .u32 0, .int .u64 0, .slice none 0 0, .int .u32 doc, .int .i64 off, .int .i64 tot, .bool false, X, Y] : Array Value)[i]? := cell_of_row w g i _ _ (0, 0) h
theorem MsgAt.kind (h : MsgAt w g k frm op doc off tot X Y) : w.cell? ⟨g, 0, none⟩ = some (.int .i64 k) := h.load 0
theorem MsgAt.docC (h : MsgAt w g k frm op doc off tot X Y) : w.cell? ⟨g, 14, none⟩ = some (.int .u32 doc) := h.load 14
/-- The whole message is read. -/
theorem wpList_loadM {ops : Array Oper} {rest : List Oper} {o : Oper} {a : Act} {Q : Exit → Act → World → Prop} {x : Operand} (hgd : o.guard = none) (ho : o.op = .load 42 x) (hx : a.eval x = .pointer (some ⟨g, 0, none⟩)) (h : MsgAt w g k frm op doc off tot X Y)
    (hK : wpList Try.prog ops Q rest (a.put o.dst (.agg #[.int .i64 k, .int .u64 0, .int .i64 frm, .int .u32 0, .int .u64 0, .int .u64 0, .int .u64 op, .int .u64 0, .int .u64 0, .int .u64 0, .int .u64 0, .int .u32 0, .int .u64 0, .slice none 0 0, .int .u32 doc, .int .i64 off, .int .i64 tot, .bool false, X, Y])) w) : wpList Try.prog ops Q (o :: rest) a w :=
  wpList_load_row hgd _ x ho g hx _ _ (0, 0) _ h Try.underlying42 rfl (by kernel_rfl) hK
/-- A message's block is written at once behind its making. -/
theorem wpList_storeM {ops : Array Oper} {rest : List Oper} {o : Oper} {a : Act} {Q : Exit → Act → World → Prop} {x y : Operand} {c0 : Array Value} {A B : Option Addr} {n c m e : Nat} (hgd : o.guard = none) (ho : o.op = .store 42 x y) (hd : o.dst = none) (hx : a.eval x = .pointer (some ⟨w.heap.size, 0, none⟩)) (hy : a.eval y = .agg #[.int .i64 k, .int .u64 0, .int .i64 frm, .int .u32 0, .int .u64 0, .int .u64 0, .int .u64 op, .int .u64 0, .int .u64 0, .int .u64 0, .int .u64 0, .int .u32 0, .int .u64 0, .slice none 0 0, .int .u32 doc, .int .i64 off, .int .i64 tot, .bool false, .slice A n c, .slice B m e]) (hc : c0.size = 20)
    (hK : ∀ W, Grow w W → MsgAt W w.heap.size k frm op doc off tot (.slice A n c) (.slice B m e) → wpList Try.prog ops Q rest a W) : wpList Try.prog ops Q (o :: rest) a (w.alloc (.cells c0 42)) := by
  refine wpList_store_row hgd _ x y ho w.heap.size _ hx hy _ c0 (heap_alloc_new w _) (by kernel_rfl) (by rw [hc]; rfl) msg_oc ?_
  rw [World.setRow_alloc_new, hd]
  exact hK _ (Grow.alloc w _) (MsgAt.new ..)
end
/-- A state lies in a block of its own. -/
def StAt (w : World) (g : Nat) (op : Int) (X Y : Value) : Prop := w.heap[g]? = some (.cells #[.int .u64 op, X, Y] 26 (0, 0))
section
variable {w w' : World} {g : Nat} {op : Int} {X Y : Value} {T : Nat → Prop}
theorem StAt.keep (h : StAt w g op X Y) (gs : GrowS T w w') (hT : ¬ T g) : StAt w' g op X Y := gs.kept h hT
theorem StAt.grow (h : StAt w g op X Y) (gs : Grow w w') : StAt w' g op X Y := row_grow h gs
theorem StAt.lt (h : StAt w g op X Y) : g < w.heap.size := (Array.getElem?_eq_some_iff.1 h).1
theorem StAt.new (w : World) (op : Int) (X Y : Value) : StAt (w.alloc (.cells #[.int .u64 op, X, Y] 26)) w.heap.size op X Y := heap_alloc_new w _
theorem StAt.opC (h : StAt w g op X Y) : w.cell? ⟨g, 0, none⟩ = some (.int .u64 op) := cell_of_row w g 0 _ _ (0, 0) h
theorem StAt.rest (h : StAt w g op X Y) : w.cell? ⟨g, 1, none⟩ = some X := cell_of_row w g 1 _ _ (0, 0) h
theorem StAt.docs (h : StAt w g op X Y) : w.cell? ⟨g, 2, none⟩ = some Y := cell_of_row w g 2 _ _ (0, 0) h
/-- The whole state is read. -/
theorem wpList_loadS {ops : Array Oper} {rest : List Oper} {o : Oper} {a : Act} {Q : Exit → Act → World → Prop} {x : Operand} (hgd : o.guard = none) (ho : o.op = .load 26 x) (hx : a.eval x = .pointer (some ⟨g, 0, none⟩)) (h : StAt w g op X Y)
    (hK : wpList Try.prog ops Q rest (a.put o.dst (.agg #[.int .u64 op, X, Y])) w) : wpList Try.prog ops Q (o :: rest) a w :=
  wpList_load_row hgd _ x ho g hx _ _ (0, 0) _ h Try.underlying26 rfl (by kernel_rfl) hK
theorem wpList_storeS {ops : Array Oper} {rest : List Oper} {o : Oper} {a : Act} {Q : Exit → Act → World → Prop} {x y : Operand} {c0 : Array Value} {A B : Option Addr} {n c m e : Nat} (hgd : o.guard = none) (ho : o.op = .store 26 x y) (hd : o.dst = none) (hx : a.eval x = .pointer (some ⟨w.heap.size, 0, none⟩)) (hy : a.eval y = .agg #[.int .u64 op, .slice A n c, .slice B m e]) (hc : c0.size = 3)
    (hK : ∀ W, Grow w W → StAt W w.heap.size op (.slice A n c) (.slice B m e) → wpList Try.prog ops Q rest a W) : wpList Try.prog ops Q (o :: rest) a (w.alloc (.cells c0 26)) := by
  refine wpList_store_row hgd _ x y ho w.heap.size _ hx hy _ c0 (heap_alloc_new w _) (by kernel_rfl) (by rw [hc]; rfl) (by simp [Value.oneCell']) ?_
  rw [World.setRow_alloc_new, hd]
  exact hK _ (Grow.alloc w _) (StAt.new ..)
/-- A state is written over another. -/
theorem wpList_restoreS {ops : Array Oper} {rest : List Oper} {o : Oper} {a : Act} {Q : Exit → Act → World → Prop} {x y : Operand} {op0 : Int} {X0 Y0 : Value} {A B : Option Addr} {n c m e : Nat} (hgd : o.guard = none) (ho : o.op = .store 26 x y) (hd : o.dst = none) (hx : a.eval x = .pointer (some ⟨g, 0, none⟩)) (hy : a.eval y = .agg #[.int .u64 op, .slice A n c, .slice B m e]) (h : StAt w g op0 X0 Y0)
    (hK : ∀ W, GrowS (fun k => k = g) w W → StAt W g op (.slice A n c) (.slice B m e) → wpList Try.prog ops Q rest a W) : wpList Try.prog ops Q (o :: rest) a w := by
  refine wpList_store_row hgd _ x y ho g _ hx hy _ _ h (by kernel_rfl) rfl (by simp [Value.oneCell']) ?_
  rw [hd]
  exact hK _ (GrowS.setRow (T := fun k => k = g) w rfl _) (setRow_heap w g _ _ _ _ h)
end
end Go.Proofs.Ytlnokohmmhmoaaa

