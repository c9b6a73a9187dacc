/-
  No cell of these rows narrows 'for every input' (looked for: loops, veiled, ifaces, maps, wideKeys, modest, calm, conditions, laid).
  DERIVED. THE GIVEN ROWS OF THIS SEAT. 4 by the template 'for every input the law returns true; each argument reads behind the call as it read before'; 0 by the template 'total and deterministic' (their statements: YtlnokohmmhmoaaaTotals.lean).
  GIVEN WITH THE SEED: the statements are not yours to turn. If you find one false, say at which input.
  Laid BY PROGRAM, IN A SANDBOX (cutbox-rows.mjs): the forced cells as the released guide's own fill.sh prints them over the translation e5f0738d18a4ed6b… (all of the seat's roots in one cut). By AI agents, Wed Nov 11 2026. No macro, syntax, notation, axiom, sorry.
-/
import Derived.Test.YtlnokohmmhmoaaaChecked
import GoSem.Claim
import GoSem.ClaimJoined
import GoSem.ClaimMapViews
import Derived.JoinedTies
import Derived.KernelRfl
namespace Go.Proofs.Ytlnokohmmhmoaaa
/- THE CELL 'sum', in the pinned program and in every row, IS THE sha256 OF THE DUMP (.gsa) THAT YtlnokohmmhmoaaaProg.lean LOADS. Nothing in Lean hashes anything: it is a label: what it is worth is what the hold of that sum in a sandbox is worth. -/
noncomputable def Try.pinned : Pinned := { name := "ytlnokohmmhmoaaa", sum := "e5f0738d18a4ed6bf1c86a408cea427d7dfd4e0c3f49bea9fe4968521b2933e1", checked := Try.checked }
namespace Rows
def none {H : Type} : Left H := { results := [], args := [] }

/-- 'copybooklaw25.LazyApart': WHATEVER THE INPUT: true; the input reads as it did. -/
def lazyApartSpec : ChangeSpec := { name := "lazyApart", fn := fun _ => fun
  | [d1, d2, d3] => { results := [.lit (.bool true)], args := [d1, d2, d3] }
  | _ => none }
def lazyApartRow : OpenClaim := { program := "ytlnokohmmhmoaaa", sum := "e5f0738d18a4ed6bf1c86a408cea427d7dfd4e0c3f49bea9fe4968521b2933e1", func := "copybook/copybooklaw25.LazyApart", spec := "lazyApart", unfollowed := true, recurses := true, plainKeys := false, apart := false }
def LazyApartSaid : Prop := lazyApartRow.holds Try.pinned (OpenSpec.ofChange lazyApartSpec)

/-- ITS FALSE NEIGHBOUR: 'it returns false'. Refute it at one input. -/
def lazyApartWrong : ChangeSpec := { name := "lazyApart", fn := fun _ => fun
  | [d1, d2, d3] => { results := [.lit (.bool false)], args := [d1, d2, d3] }
  | _ => none }
def LazyApartWrongFalsely : Prop := lazyApartRow.holds Try.pinned (OpenSpec.ofChange lazyApartWrong)

/-- 'copybooklaw25.LazyFew': WHATEVER THE INPUT: true; the input reads as it did. -/
def lazyFewSpec : ChangeSpec := { name := "lazyFew", fn := fun _ => fun
  | [d1, d2] => { results := [.lit (.bool true)], args := [d1, d2] }
  | _ => none }
def lazyFewRow : OpenClaim := { program := "ytlnokohmmhmoaaa", sum := "e5f0738d18a4ed6bf1c86a408cea427d7dfd4e0c3f49bea9fe4968521b2933e1", func := "copybook/copybooklaw25.LazyFew", spec := "lazyFew", unfollowed := true, recurses := true, plainKeys := false, apart := false }
def LazyFewSaid : Prop := lazyFewRow.holds Try.pinned (OpenSpec.ofChange lazyFewSpec)

/-- ITS FALSE NEIGHBOUR: 'it returns false'. Refute it at one input. -/
def lazyFewWrong : ChangeSpec := { name := "lazyFew", fn := fun _ => fun
  | [d1, d2] => { results := [.lit (.bool false)], args := [d1, d2] }
  | _ => none }
def LazyFewWrongFalsely : Prop := lazyFewRow.holds Try.pinned (OpenSpec.ofChange lazyFewWrong)

/-- 'copybooklaw25.LazySame': WHATEVER THE INPUT: true; the input reads as it did. -/
def lazySameSpec : ChangeSpec := { name := "lazySame", fn := fun _ => fun
  | [d1, d2, d3] => { results := [.lit (.bool true)], args := [d1, d2, d3] }
  | _ => none }
def lazySameRow : OpenClaim := { program := "ytlnokohmmhmoaaa", sum := "e5f0738d18a4ed6bf1c86a408cea427d7dfd4e0c3f49bea9fe4968521b2933e1", func := "copybook/copybooklaw25.LazySame", spec := "lazySame", unfollowed := true, recurses := true, plainKeys := false, apart := false }
def LazySameSaid : Prop := lazySameRow.holds Try.pinned (OpenSpec.ofChange lazySameSpec)

/-- ITS FALSE NEIGHBOUR: 'it returns false'. Refute it at one input. -/
def lazySameWrong : ChangeSpec := { name := "lazySame", fn := fun _ => fun
  | [d1, d2, d3] => { results := [.lit (.bool false)], args := [d1, d2, d3] }
  | _ => none }
def LazySameWrongFalsely : Prop := lazySameRow.holds Try.pinned (OpenSpec.ofChange lazySameWrong)

/-- 'copybooklaw25.LazyKnown': WHATEVER THE INPUT: true; the input reads as it did. -/
def lazyKnownSpec : ChangeSpec := { name := "lazyKnown", fn := fun _ => fun
  | [] => { results := [.lit (.bool true)], args := [] }
  | _ => none }
def lazyKnownRow : OpenClaim := { program := "ytlnokohmmhmoaaa", sum := "e5f0738d18a4ed6bf1c86a408cea427d7dfd4e0c3f49bea9fe4968521b2933e1", func := "copybook/copybooklaw25.LazyKnown", spec := "lazyKnown", unfollowed := true, recurses := true, plainKeys := false, apart := false }
def LazyKnownSaid : Prop := lazyKnownRow.holds Try.pinned (OpenSpec.ofChange lazyKnownSpec)

/-- ITS FALSE NEIGHBOUR: 'it returns false'. Refute it at one input. -/
def lazyKnownWrong : ChangeSpec := { name := "lazyKnown", fn := fun _ => fun
  | [] => { results := [.lit (.bool false)], args := [] }
  | _ => none }
def LazyKnownWrongFalsely : Prop := lazyKnownRow.holds Try.pinned (OpenSpec.ofChange lazyKnownWrong)

/- THE SECOND FORM. 'bulk': how many values and letters a reading holds, each counted each time it is reached (what is shared counts as often as it is met; a slice's spare places count too). A statement '..UptoSaid' is the law's where the arguments, and the package variables that the reading takes, are together of bulk at most 1048576: NARROWER than '..Said'. Prove '..Said' where nothing that the law and all that it calls make is longer than what came in: it says more and counts as full. Else prove '..UptoSaid'. A law counts once. -/
mutual
def uptoBulk {H : Type} : DataW H → Nat
  | .lit (.string bytes) => bytes.length + 1
  | .lit _ => 1
  | .nil => 1
  | .ptr d => uptoBulk d + 1
  | .slice elems spare => uptoBulkAll elems + uptoBulkAll spare + 1
  | .agg parts => uptoBulkAll parts + 1
  | .iface _ d => uptoBulk d + 1
  | .map entries => uptoBulkEntries entries + 1
  | .held _ => 1
def uptoBulkAll {H : Type} : List (DataW H) → Nat
  | [] => 0
  | d :: r => uptoBulk d + uptoBulkAll r
def uptoBulkEntries {H : Type} : List (Lit × DataW H) → Nat
  | [] => 0
  | x :: r => uptoBulkEntry x + uptoBulkEntries r
def uptoBulkEntry {H : Type} : Lit × DataW H → Nat
  | (.string bytes, d) => bytes.length + uptoBulk d + 1
  | (_, d) => uptoBulk d + 1
 end
def uptoSmall : (H : Type) → List (DataW H) → Bool := fun _ ds => decide (uptoBulkAll ds ≤ 1048576)
def OpenSpec.upto (s : _root_.Go.ChangeSpec) : _root_.Go.OpenSpec := { _root_.Go.OpenSpec.ofChange s with cond := some uptoSmall }

/-- 'copybooklaw25.LazyApart', WHERE WHAT IT READS IS OF BULK AT MOST 1048576: true; the input reads as it did. -/
def lazyApartUptoRow : OpenClaim := { program := "ytlnokohmmhmoaaa", sum := "e5f0738d18a4ed6bf1c86a408cea427d7dfd4e0c3f49bea9fe4968521b2933e1", func := "copybook/copybooklaw25.LazyApart", spec := "lazyApart", unfollowed := true, recurses := true, plainKeys := false, apart := false, narrowed := true }
def LazyApartUptoSaid : Prop := lazyApartUptoRow.holds Try.pinned (OpenSpec.upto lazyApartSpec)

/-- 'copybooklaw25.LazyFew', WHERE WHAT IT READS IS OF BULK AT MOST 1048576: true; the input reads as it did. -/
def lazyFewUptoRow : OpenClaim := { program := "ytlnokohmmhmoaaa", sum := "e5f0738d18a4ed6bf1c86a408cea427d7dfd4e0c3f49bea9fe4968521b2933e1", func := "copybook/copybooklaw25.LazyFew", spec := "lazyFew", unfollowed := true, recurses := true, plainKeys := false, apart := false, narrowed := true }
def LazyFewUptoSaid : Prop := lazyFewUptoRow.holds Try.pinned (OpenSpec.upto lazyFewSpec)

/-- 'copybooklaw25.LazySame', WHERE WHAT IT READS IS OF BULK AT MOST 1048576: true; the input reads as it did. -/
def lazySameUptoRow : OpenClaim := { program := "ytlnokohmmhmoaaa", sum := "e5f0738d18a4ed6bf1c86a408cea427d7dfd4e0c3f49bea9fe4968521b2933e1", func := "copybook/copybooklaw25.LazySame", spec := "lazySame", unfollowed := true, recurses := true, plainKeys := false, apart := false, narrowed := true }
def LazySameUptoSaid : Prop := lazySameUptoRow.holds Try.pinned (OpenSpec.upto lazySameSpec)

/-- 'copybooklaw25.LazyKnown', WHERE WHAT IT READS IS OF BULK AT MOST 1048576: true; the input reads as it did. -/
def lazyKnownUptoRow : OpenClaim := { program := "ytlnokohmmhmoaaa", sum := "e5f0738d18a4ed6bf1c86a408cea427d7dfd4e0c3f49bea9fe4968521b2933e1", func := "copybook/copybooklaw25.LazyKnown", spec := "lazyKnown", unfollowed := true, recurses := true, plainKeys := false, apart := false, narrowed := true }
def LazyKnownUptoSaid : Prop := lazyKnownUptoRow.holds Try.pinned (OpenSpec.upto lazyKnownSpec)

end Rows
end Go.Proofs.Ytlnokohmmhmoaaa
