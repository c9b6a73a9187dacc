/-
  NARROWER THAN 'FOR EVERY INPUT', by the rows' own cells (each row's printed sentence says how): CrcCalls: laid · CrcMore: laid · CrcXor: laid · CrcFrames: laid · CrcLonger: laid · CrcKnown: laid.
  DERIVED. THE GIVEN ROWS OF THIS SEAT. 6 by the template 'for every input the law returns true; each argument reads behind the call as it read before'; 0 by the template 'total and deterministic' (their statements: YthoaagkllkcacaaDoorTotals.lean).
  GIVEN WITH THE SEED: the statements are not yours to turn. If you find one false, say at which input.
  Laid BY PROGRAM, IN A SANDBOX (cutbox-rows.mjs): the forced cells as the released guide's own fill.sh prints them over the translation 069b7024670473b2… (all of the seat's roots in one cut). By AI agents, Wed Nov 11 2026. No macro, syntax, notation, axiom, sorry.
-/
import Derived.Test.YthoaagkllkcacaaDoorChecked
import GoSem.Claim
import GoSem.ClaimJoined
import GoSem.ClaimMapViews
import Derived.JoinedTies
import Derived.KernelRfl
namespace Go.Proofs.YthoaagkllkcacaaDoor
/- THE CELL 'sum', in the pinned program and in every row, IS THE sha256 OF THE DUMP (.gsa) THAT YthoaagkllkcacaaDoorProg.lean LOADS. Nothing in Lean hashes anything: it is a label: what it is worth is what the hold of that sum in a sandbox is worth. -/
noncomputable def Tryd.pinned : Pinned := { name := "ythoaagkllkcacaadoor", sum := "069b7024670473b2e2887a8cbd5a89c557b70db13eaa9075cf1a7fb8b4127caf", checked := Tryd.checked }
namespace Rows
def none {H : Type} : Left H := { results := [], args := [] }

/- WHAT THE LISTED PACKAGE-LEVEL VARIABLES READ AS WHEN THE CALL BEGINS. Each datum BY PROGRAM (the guide's laid-datum.mjs) off the statement by which the dump's own 'gosem.cut.vars' lays the variable. In a bare row this is a premise. The card (YthoaagkllkcacaaDoorCards.lean) ties it to the program's text. -/
def laid_copybook_crc_steps {H : Type} : DataW H := .agg [.lit (.int .u32 0), .lit (.int .u32 498536548), .lit (.int .u32 997073096), .lit (.int .u32 651767980), .lit (.int .u32 1994146192), .lit (.int .u32 1802195444), .lit (.int .u32 1303535960), .lit (.int .u32 1342533948), .lit (.int .u32 3988292384), .lit (.int .u32 4027552580), .lit (.int .u32 3604390888), .lit (.int .u32 3412177804), .lit (.int .u32 2607071920), .lit (.int .u32 2262029012), .lit (.int .u32 2685067896), .lit (.int .u32 3183342108)]

/-- 'copybooklaw02.CrcCalls': WHATEVER THE INPUT: true; the input reads as it did. -/
def crcCallsSpec : ChangeSpec := { name := "crcCalls", fn := fun _ => fun
  | [d1, d2] => { results := [.lit (.bool true)], args := [d1, d2] }
  | _ => none }
def crcCallsRow : OpenClaim := { program := "ythoaagkllkcacaadoor", sum := "069b7024670473b2e2887a8cbd5a89c557b70db13eaa9075cf1a7fb8b4127caf", func := "copybook/copybooklaw02.CrcCalls", spec := "crcCalls", named := ["copybook/crc.steps"], apart := false, laid := [("copybook/crc.steps", laid_copybook_crc_steps)] }
def CrcCallsSaid : Prop := crcCallsRow.holds Tryd.pinned (OpenSpec.ofChange crcCallsSpec)

/-- ITS FALSE NEIGHBOUR: 'it returns false'. Refute it at one input. -/
def crcCallsWrong : ChangeSpec := { name := "crcCalls", fn := fun _ => fun
  | [d1, d2] => { results := [.lit (.bool false)], args := [d1, d2] }
  | _ => none }
def CrcCallsWrongFalsely : Prop := crcCallsRow.holds Tryd.pinned (OpenSpec.ofChange crcCallsWrong)

/-- 'copybooklaw02.CrcMore': WHATEVER THE INPUT: true; the input reads as it did. -/
def crcMoreSpec : ChangeSpec := { name := "crcMore", fn := fun _ => fun
  | [d1, d2] => { results := [.lit (.bool true)], args := [d1, d2] }
  | _ => none }
def crcMoreRow : OpenClaim := { program := "ythoaagkllkcacaadoor", sum := "069b7024670473b2e2887a8cbd5a89c557b70db13eaa9075cf1a7fb8b4127caf", func := "copybook/copybooklaw02.CrcMore", spec := "crcMore", named := ["copybook/crc.steps"], apart := false, laid := [("copybook/crc.steps", laid_copybook_crc_steps)] }
def CrcMoreSaid : Prop := crcMoreRow.holds Tryd.pinned (OpenSpec.ofChange crcMoreSpec)

/-- ITS FALSE NEIGHBOUR: 'it returns false'. Refute it at one input. -/
def crcMoreWrong : ChangeSpec := { name := "crcMore", fn := fun _ => fun
  | [d1, d2] => { results := [.lit (.bool false)], args := [d1, d2] }
  | _ => none }
def CrcMoreWrongFalsely : Prop := crcMoreRow.holds Tryd.pinned (OpenSpec.ofChange crcMoreWrong)

/-- 'copybooklaw02.CrcXor': WHATEVER THE INPUT: true; the input reads as it did. -/
def crcXorSpec : ChangeSpec := { name := "crcXor", fn := fun _ => fun
  | [d1, d2, d3] => { results := [.lit (.bool true)], args := [d1, d2, d3] }
  | _ => none }
def crcXorRow : OpenClaim := { program := "ythoaagkllkcacaadoor", sum := "069b7024670473b2e2887a8cbd5a89c557b70db13eaa9075cf1a7fb8b4127caf", func := "copybook/copybooklaw02.CrcXor", spec := "crcXor", named := ["copybook/crc.steps"], apart := false, laid := [("copybook/crc.steps", laid_copybook_crc_steps)] }
def CrcXorSaid : Prop := crcXorRow.holds Tryd.pinned (OpenSpec.ofChange crcXorSpec)

/-- ITS FALSE NEIGHBOUR: 'it returns false'. Refute it at one input. -/
def crcXorWrong : ChangeSpec := { name := "crcXor", fn := fun _ => fun
  | [d1, d2, d3] => { results := [.lit (.bool false)], args := [d1, d2, d3] }
  | _ => none }
def CrcXorWrongFalsely : Prop := crcXorRow.holds Tryd.pinned (OpenSpec.ofChange crcXorWrong)

/-- 'copybooklaw02.CrcFrames': WHATEVER THE INPUT: true; the input reads as it did. -/
def crcFramesSpec : ChangeSpec := { name := "crcFrames", fn := fun _ => fun
  | [d] => { results := [.lit (.bool true)], args := [d] }
  | _ => none }
def crcFramesRow : OpenClaim := { program := "ythoaagkllkcacaadoor", sum := "069b7024670473b2e2887a8cbd5a89c557b70db13eaa9075cf1a7fb8b4127caf", func := "copybook/copybooklaw02.CrcFrames", spec := "crcFrames", named := ["copybook/crc.steps"], apart := false, laid := [("copybook/crc.steps", laid_copybook_crc_steps)] }
def CrcFramesSaid : Prop := crcFramesRow.holds Tryd.pinned (OpenSpec.ofChange crcFramesSpec)

/-- ITS FALSE NEIGHBOUR: 'it returns false'. Refute it at one input. -/
def crcFramesWrong : ChangeSpec := { name := "crcFrames", fn := fun _ => fun
  | [d] => { results := [.lit (.bool false)], args := [d] }
  | _ => none }
def CrcFramesWrongFalsely : Prop := crcFramesRow.holds Tryd.pinned (OpenSpec.ofChange crcFramesWrong)

/-- 'copybooklaw02.CrcLonger': WHATEVER THE INPUT: true; the input reads as it did. -/
def crcLongerSpec : ChangeSpec := { name := "crcLonger", fn := fun _ => fun
  | [d1, d2, d3] => { results := [.lit (.bool true)], args := [d1, d2, d3] }
  | _ => none }
def crcLongerRow : OpenClaim := { program := "ythoaagkllkcacaadoor", sum := "069b7024670473b2e2887a8cbd5a89c557b70db13eaa9075cf1a7fb8b4127caf", func := "copybook/copybooklaw02.CrcLonger", spec := "crcLonger", named := ["copybook/crc.steps"], apart := false, laid := [("copybook/crc.steps", laid_copybook_crc_steps)] }
def CrcLongerSaid : Prop := crcLongerRow.holds Tryd.pinned (OpenSpec.ofChange crcLongerSpec)

/-- ITS FALSE NEIGHBOUR: 'it returns false'. Refute it at one input. -/
def crcLongerWrong : ChangeSpec := { name := "crcLonger", fn := fun _ => fun
  | [d1, d2, d3] => { results := [.lit (.bool false)], args := [d1, d2, d3] }
  | _ => none }
def CrcLongerWrongFalsely : Prop := crcLongerRow.holds Tryd.pinned (OpenSpec.ofChange crcLongerWrong)

/-- 'copybooklaw02.CrcKnown': WHATEVER THE INPUT: true; the input reads as it did. -/
def crcKnownSpec : ChangeSpec := { name := "crcKnown", fn := fun _ => fun
  | [] => { results := [.lit (.bool true)], args := [] }
  | _ => none }
def crcKnownRow : OpenClaim := { program := "ythoaagkllkcacaadoor", sum := "069b7024670473b2e2887a8cbd5a89c557b70db13eaa9075cf1a7fb8b4127caf", func := "copybook/copybooklaw02.CrcKnown", spec := "crcKnown", named := ["copybook/crc.steps"], apart := false, laid := [("copybook/crc.steps", laid_copybook_crc_steps)] }
def CrcKnownSaid : Prop := crcKnownRow.holds Tryd.pinned (OpenSpec.ofChange crcKnownSpec)

/-- ITS FALSE NEIGHBOUR: 'it returns false'. Refute it at one input. -/
def crcKnownWrong : ChangeSpec := { name := "crcKnown", fn := fun _ => fun
  | [] => { results := [.lit (.bool false)], args := [] }
  | _ => none }
def CrcKnownWrongFalsely : Prop := crcKnownRow.holds Tryd.pinned (OpenSpec.ofChange crcKnownWrong)

/- THE SECOND FORM. 'bulk': how many values and letters a reading holds, each counted each time it is reached (what is shared counts as often as it is met; a slice's spare places count too). A statement '..UptoSaid' is the law's where the arguments, and the package variables that the reading takes, are together of bulk at most 1048576: NARROWER than '..Said'. Prove '..Said' where nothing that the law and all that it calls make is longer than what came in: it says more and counts as full. Else prove '..UptoSaid'. A law counts once. -/
mutual
def uptoBulk {H : Type} : DataW H → Nat
  | .lit (.string bytes) => bytes.length + 1
  | .lit _ => 1
  | .nil => 1
  | .ptr d => uptoBulk d + 1
  | .slice elems spare => uptoBulkAll elems + uptoBulkAll spare + 1
  | .agg parts => uptoBulkAll parts + 1
  | .iface _ d => uptoBulk d + 1
  | .map entries => uptoBulkEntries entries + 1
  | .held _ => 1
def uptoBulkAll {H : Type} : List (DataW H) → Nat
  | [] => 0
  | d :: r => uptoBulk d + uptoBulkAll r
def uptoBulkEntries {H : Type} : List (Lit × DataW H) → Nat
  | [] => 0
  | x :: r => uptoBulkEntry x + uptoBulkEntries r
def uptoBulkEntry {H : Type} : Lit × DataW H → Nat
  | (.string bytes, d) => bytes.length + uptoBulk d + 1
  | (_, d) => uptoBulk d + 1
 end
def uptoSmall : (H : Type) → List (DataW H) → Bool := fun _ ds => decide (uptoBulkAll ds ≤ 1048576)
def OpenSpec.upto (s : _root_.Go.ChangeSpec) : _root_.Go.OpenSpec := { _root_.Go.OpenSpec.ofChange s with cond := some uptoSmall }

/-- 'copybooklaw02.CrcCalls', WHERE WHAT IT READS IS OF BULK AT MOST 1048576: true; the input reads as it did. -/
def crcCallsUptoRow : OpenClaim := { program := "ythoaagkllkcacaadoor", sum := "069b7024670473b2e2887a8cbd5a89c557b70db13eaa9075cf1a7fb8b4127caf", func := "copybook/copybooklaw02.CrcCalls", spec := "crcCalls", named := ["copybook/crc.steps"], apart := false, laid := [("copybook/crc.steps", laid_copybook_crc_steps)], narrowed := true }
def CrcCallsUptoSaid : Prop := crcCallsUptoRow.holds Tryd.pinned (OpenSpec.upto crcCallsSpec)

/-- 'copybooklaw02.CrcMore', WHERE WHAT IT READS IS OF BULK AT MOST 1048576: true; the input reads as it did. -/
def crcMoreUptoRow : OpenClaim := { program := "ythoaagkllkcacaadoor", sum := "069b7024670473b2e2887a8cbd5a89c557b70db13eaa9075cf1a7fb8b4127caf", func := "copybook/copybooklaw02.CrcMore", spec := "crcMore", named := ["copybook/crc.steps"], apart := false, laid := [("copybook/crc.steps", laid_copybook_crc_steps)], narrowed := true }
def CrcMoreUptoSaid : Prop := crcMoreUptoRow.holds Tryd.pinned (OpenSpec.upto crcMoreSpec)

/-- 'copybooklaw02.CrcXor', WHERE WHAT IT READS IS OF BULK AT MOST 1048576: true; the input reads as it did. -/
def crcXorUptoRow : OpenClaim := { program := "ythoaagkllkcacaadoor", sum := "069b7024670473b2e2887a8cbd5a89c557b70db13eaa9075cf1a7fb8b4127caf", func := "copybook/copybooklaw02.CrcXor", spec := "crcXor", named := ["copybook/crc.steps"], apart := false, laid := [("copybook/crc.steps", laid_copybook_crc_steps)], narrowed := true }
def CrcXorUptoSaid : Prop := crcXorUptoRow.holds Tryd.pinned (OpenSpec.upto crcXorSpec)

/-- 'copybooklaw02.CrcFrames', WHERE WHAT IT READS IS OF BULK AT MOST 1048576: true; the input reads as it did. -/
def crcFramesUptoRow : OpenClaim := { program := "ythoaagkllkcacaadoor", sum := "069b7024670473b2e2887a8cbd5a89c557b70db13eaa9075cf1a7fb8b4127caf", func := "copybook/copybooklaw02.CrcFrames", spec := "crcFrames", named := ["copybook/crc.steps"], apart := false, laid := [("copybook/crc.steps", laid_copybook_crc_steps)], narrowed := true }
def CrcFramesUptoSaid : Prop := crcFramesUptoRow.holds Tryd.pinned (OpenSpec.upto crcFramesSpec)

/-- 'copybooklaw02.CrcLonger', WHERE WHAT IT READS IS OF BULK AT MOST 1048576: true; the input reads as it did. -/
def crcLongerUptoRow : OpenClaim := { program := "ythoaagkllkcacaadoor", sum := "069b7024670473b2e2887a8cbd5a89c557b70db13eaa9075cf1a7fb8b4127caf", func := "copybook/copybooklaw02.CrcLonger", spec := "crcLonger", named := ["copybook/crc.steps"], apart := false, laid := [("copybook/crc.steps", laid_copybook_crc_steps)], narrowed := true }
def CrcLongerUptoSaid : Prop := crcLongerUptoRow.holds Tryd.pinned (OpenSpec.upto crcLongerSpec)

/-- 'copybooklaw02.CrcKnown', WHERE WHAT IT READS IS OF BULK AT MOST 1048576: true; the input reads as it did. -/
def crcKnownUptoRow : OpenClaim := { program := "ythoaagkllkcacaadoor", sum := "069b7024670473b2e2887a8cbd5a89c557b70db13eaa9075cf1a7fb8b4127caf", func := "copybook/copybooklaw02.CrcKnown", spec := "crcKnown", named := ["copybook/crc.steps"], apart := false, laid := [("copybook/crc.steps", laid_copybook_crc_steps)], narrowed := true }
def CrcKnownUptoSaid : Prop := crcKnownUptoRow.holds Tryd.pinned (OpenSpec.upto crcKnownSpec)

end Rows
end Go.Proofs.YthoaagkllkcacaaDoor
