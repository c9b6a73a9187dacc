/-
  past: a past in memory.
-/
import Derived.Test.YtfpbmpgdpnpdjaaPOwns
namespace Go.Proofs.Ytfpbmpgdpnpdjaa
open Go.RowKit
set_option linter.unusedSimpArgs false

/-- A past at p: its first revision, its operations, its lengths; all its blocks are of S. -/
structure PastAt (w : World) (S : Nat → Prop) (p q : Nat) (V : Value) (l : List (O × Value)) (B : Value) (lens : List Int) : Prop where
  st : w.heap[p]? = some (.cells #[.int .u64 q, V, B, .bool true] 85 (0, 0))
  own : OpsOwn w S V l
  len : w.ownsRow 0 3 1 B lens.length (ins lens)
  n : lens.length = l.length + 1
  pIn : S p
  lensIn : ∀ g, B.ownBlock = some g → S g
  vb : BApart V B
  pv : ∀ g, V.ownBlock = some g → g ≠ p
  pb : ∀ g, B.ownBlock = some g → g ≠ p
  ub : ∀ x ∈ l, BApart B x.2
  up : ∀ x ∈ l, ∀ g, x.2.ownBlock = some g → g ≠ p
  lt : ∀ k, S k → k < w.heap.size
def PastIs (w : World) (S : Nat → Prop) (p q : Nat) (os : List O) (lens : List Int) : Prop := ∃ V l B, l.map (·.1) = os ∧ PastAt w S p q V l B lens
theorem PastAt.keep {w w' : World} {S T : Nat → Prop} {p q : Nat} {V B : Value} {l : List (O × Value)} {lens : List Int} (h : PastAt w S p q V l B lens) (g : GrowS T w w') (hT : ∀ k, S k → ¬ T k) : PastAt w' S p q V l B lens :=
  ⟨g.kept h.st (hT _ h.pIn), h.own.keep g hT, g.own h.len (fun k hk => hT k (h.lensIn k hk)), h.n, h.pIn, h.lensIn, h.vb, h.pv, h.pb, h.ub, h.up, fun k hk => Nat.lt_of_lt_of_le (h.lt k hk) g.size⟩
theorem PastAt.grow {w w' : World} {S : Nat → Prop} {p q : Nat} {V B : Value} {l : List (O × Value)} {lens : List Int} (h : PastAt w S p q V l B lens) (g : Grow w w') : PastAt w' S p q V l B lens := h.keep (g.wide NoRow) (fun _ _ k => k)
theorem PastIs.keep {w w' : World} {S T : Nat → Prop} {p q : Nat} {os : List O} {lens : List Int} (h : PastIs w S p q os lens) (g : GrowS T w w') (hT : ∀ k, S k → ¬ T k) : PastIs w' S p q os lens := by
  obtain ⟨V, l, B, h1, h2⟩ := h
  exact ⟨V, l, B, h1, h2.keep g hT⟩
theorem PastIs.grow {w w' : World} {S : Nat → Prop} {p q : Nat} {os : List O} {lens : List Int} (h : PastIs w S p q os lens) (g : Grow w w') : PastIs w' S p q os lens := h.keep (g.wide NoRow) (fun _ _ k => k)
theorem PastIs.lt {w : World} {S : Nat → Prop} {p q : Nat} {os : List O} {lens : List Int} (h : PastIs w S p q os lens) : ∀ k, S k → k < w.heap.size := by
  obtain ⟨V, l, B, h1, h2⟩ := h
  exact h2.lt
section
variable {w : World} {S : Nat → Prop} {p q : Nat} {V B : Value} {l : List (O × Value)} {lens : List Int}
theorem PastAt.c0 (h : PastAt w S p q V l B lens) : w.cell? ⟨p, 0, none⟩ = some (.int .u64 q) := cell_of_row w p 0 _ _ (0, 0) h.st
theorem PastAt.c1 (h : PastAt w S p q V l B lens) : w.cell? ⟨p, 1, none⟩ = some V := cell_of_row w p 1 _ _ (0, 0) h.st
theorem PastAt.c2 (h : PastAt w S p q V l B lens) : w.cell? ⟨p, 2, none⟩ = some B := cell_of_row w p 2 _ _ (0, 0) h.st
theorem PastAt.c3 (h : PastAt w S p q V l B lens) : w.cell? ⟨p, 3, none⟩ = some (.bool true) := cell_of_row w p 3 _ _ (0, 0) h.st
theorem PastAt.formV (h : PastAt w S p q V l B lens) : ∃ A c, V = .slice A l.length c := by
  obtain ⟨A, c, h1, -⟩ := own_form h.own.row
  exact ⟨A, c, h1⟩
theorem PastAt.formB (h : PastAt w S p q V l B lens) : ∃ g c, B = .slice (some ⟨g, 0, none⟩) (l.length + 1) c := by
  have hl := h.len
  rw [h.n] at hl
  rcases hl.2 with ⟨-, h2⟩ | ⟨g, cap, cur, h2, -⟩
  · omega
  · exact ⟨g, cap, h2⟩
theorem PastAt.last (h : PastAt w S p q V l B lens) : ∃ m, lens[l.length]? = some m := ⟨_, List.getElem?_eq_getElem (by have := h.n; omega)⟩
theorem PastAt.lenCell {g n c : Nat} (h : PastAt w S p q V l (.slice (some ⟨g, 0, none⟩) n c) lens) {i : Nat} {m : Int} (hi : lens[i]? = some m) : w.cell? ⟨g, i, none⟩ = some (.int .i64 m) := by
  have := (Lies.of_own (by have := own_len h.len; subst this; exact h.len)).cells _ rfl i (.int .i64 m) (by simp [ins, hi])
  rwa [add_none, Nat.zero_add] at this
end
end Go.Proofs.Ytfpbmpgdpnpdjaa

