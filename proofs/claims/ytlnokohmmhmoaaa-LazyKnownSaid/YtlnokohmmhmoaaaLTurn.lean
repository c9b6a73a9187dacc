/-
  lazy: a fetch whose fields turn; results with a cell between.
-/
import Derived.Test.YtlnokohmmhmoaaaLNew
import Derived.Laws.CopyOwn
import Derived.Laws.ResultCell
namespace Go.Proofs.Ytlnokohmmhmoaaa
open Go.RowKit
set_option linter.unusedSimpArgs false

def fcells (f : F) (b : Nat) (Rv V : Value) : Array Value := #[.int .i64 f.me, .int .u64 f.least, .map (some b), .int .i64 f.frm, .int .u64 f.op, Rv, V, .int .u64 f.asked, .int .u64 f.now, .int .i64 f.vain, .bool f.fresh, .bool true]
theorem FAt.turn {w w' : World} {T R : Nat → Prop} {p b : Nat} {f f' : F} {Rv Rv' V V' : Value} {l l' : List (Dt × Value)} (h : FAt w T R p f b Rv V l) (g : GrowS (fun k => k = p) w w') (st : w'.heap[p]? = some (.cells (fcells f' b Rv' V') 66 (0, 0))) (hh : f'.hand = f.hand)
    (hr : (Rv' = Rv ∧ f'.rest = f.rest) ∨ (Rv' = .slice none 0 0 ∧ f'.rest = [])) (hd : (V' = V ∧ l' = l ∧ f'.docs = f.docs) ∨ (V' = .slice none 0 0 ∧ l' = [] ∧ f'.docs = [])) : FAt w' T R p f' b Rv' V' l' := by
  have hp : ∀ k, R k → ¬ k = p := fun k hk e => by subst e; exact h.apart k h.pT hk
  have hrest : BytesAt w' R Rv' f'.rest := by
    rcases hr with ⟨e1, e2⟩ | ⟨e1, e2⟩
    · rw [e1, e2]; exact h.rest.keep g hp
    · rw [e1, e2]; exact BytesAt.nil _ _
  refine ⟨st, by rw [hh]; exact h.hand.keep g hp (hp _ h.bR), h.bR, hrest, ?_, ?_, ?_, ?_, h.pT, h.apart, fun k hk => Nat.lt_of_lt_of_le (h.ltT k hk) g.size, fun k hk => Nat.lt_of_lt_of_le (h.ltR k hk) g.size⟩
  all_goals rcases hd with ⟨e1, e2, e3⟩ | ⟨e1, e2, e3⟩
  · rw [e1, e2]; exact g.own h.docs (fun k hk => row_apart h.docs h.st (by decide) k hk)
  · rw [e1, e2]; exact World.ownsRow_nil _ _ _ _
  · rw [e1]; exact h.docsT
  · rw [e1]; intro g hg; cases hg
  · rw [e2, e3]; exact h.map
  · rw [e2, e3]; rfl
  · rw [e2]; exact fun x hx => (h.each x hx).keep g hp
  · rw [e2]; intro x hx; cases hx
theorem FAt.row {w : World} {T R : Nat → Prop} {p b : Nat} {f : F} {Rv V : Value} {l : List (Dt × Value)} (h : FAt w T R p f b Rv V l) : w.heap[p]? = some (.cells (fcells f b Rv V) 66 (0, 0)) := h.st
theorem results_tct {fn : Func} {s p u : Tmp} {ty : TypeId} (h : fn.results = #[.tmp s, .cell p ty, .tmp u]) (tmps : Array Value) {P : Program} (w : World) (g : Nat) (cs : Array Value)
    (hp : tmps.getD p undef = .pointer (some ⟨g, 0, none⟩)) (hl : (loadVar ty ⟨g, 0, none⟩).run P w = .ok (.agg cs) w) :
    (results fn tmps).run P w = .ok (.tuple #[tmps.getD s undef, .agg cs, tmps.getD u undef]) w := by
  have hp' : tmps[p]?.getD undef = .pointer (some ⟨g, 0, none⟩) := by simpa using hp
  simp [results, h, Sem.run_bind, Result.andThen, hp', asAddr, hl]
end Go.Proofs.Ytlnokohmmhmoaaa

