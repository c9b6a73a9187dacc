/-
  DERIVED. GIVEN WITH THE SEED: THE CARDS: each row of YthoaagkllkcacaaDoorRows.lean that lists a variable, with what it lists TIED to the program's text (the seventh form; the later family's looks); each row that meets fmt, with fmt's text TOLD by the authors' own Lean function (tested against real Go, not proved from fmt's source: count such statements apart). THE CARD IS WHAT COUNTS. Prove the row's statement (the work); the ties are given (YthoaagkllkcacaaDoorTie.lean); close each card by the builder's one call (the guide's Derived/Test/ToyasCard.lean, 'card_holds'). Laid BY PROGRAM, IN A SANDBOX (cutbox-door.mjs). By AI agents, Wed Nov 11 2026. No macro, syntax, notation, axiom, sorry.
-/
import Derived.Test.YthoaagkllkcacaaDoorRows
import GoSem.ClaimSeven
namespace Go.Proofs.YthoaagkllkcacaaDoor
namespace Rows

/-- THE TIED CARD OF 'copybooklaw02.CrcCalls'. -/
def crcCallsCard : Claim7 := { stood := { row := crcCallsRow, standIns := [], harness := (true, "b0a2c9cf581bd77387599bd1f1873d83bcc0398d8b8199800c34508515947cf0"), looks := false }, kinds := [], alts := [], laidByText := true, laidKinds := [.data], laidTests := true, laidLooks := .later }
def CrcCallsCardSaid : Prop := Claim7.holds Tryd.pinned (.plain (OpenSpec.ofChange crcCallsSpec)) crcCallsCard

/-- THE TIED CARD OF 'copybooklaw02.CrcMore'. -/
def crcMoreCard : Claim7 := { stood := { row := crcMoreRow, standIns := [], harness := (true, "b0a2c9cf581bd77387599bd1f1873d83bcc0398d8b8199800c34508515947cf0"), looks := false }, kinds := [], alts := [], laidByText := true, laidKinds := [.data], laidTests := true, laidLooks := .later }
def CrcMoreCardSaid : Prop := Claim7.holds Tryd.pinned (.plain (OpenSpec.ofChange crcMoreSpec)) crcMoreCard

/-- THE TIED CARD OF 'copybooklaw02.CrcXor'. -/
def crcXorCard : Claim7 := { stood := { row := crcXorRow, standIns := [], harness := (true, "b0a2c9cf581bd77387599bd1f1873d83bcc0398d8b8199800c34508515947cf0"), looks := false }, kinds := [], alts := [], laidByText := true, laidKinds := [.data], laidTests := true, laidLooks := .later }
def CrcXorCardSaid : Prop := Claim7.holds Tryd.pinned (.plain (OpenSpec.ofChange crcXorSpec)) crcXorCard

/-- THE TIED CARD OF 'copybooklaw02.CrcFrames'. -/
def crcFramesCard : Claim7 := { stood := { row := crcFramesRow, standIns := [], harness := (true, "b0a2c9cf581bd77387599bd1f1873d83bcc0398d8b8199800c34508515947cf0"), looks := false }, kinds := [], alts := [], laidByText := true, laidKinds := [.data], laidTests := true, laidLooks := .later }
def CrcFramesCardSaid : Prop := Claim7.holds Tryd.pinned (.plain (OpenSpec.ofChange crcFramesSpec)) crcFramesCard

/-- THE TIED CARD OF 'copybooklaw02.CrcLonger'. -/
def crcLongerCard : Claim7 := { stood := { row := crcLongerRow, standIns := [], harness := (true, "b0a2c9cf581bd77387599bd1f1873d83bcc0398d8b8199800c34508515947cf0"), looks := false }, kinds := [], alts := [], laidByText := true, laidKinds := [.data], laidTests := true, laidLooks := .later }
def CrcLongerCardSaid : Prop := Claim7.holds Tryd.pinned (.plain (OpenSpec.ofChange crcLongerSpec)) crcLongerCard

/-- THE TIED CARD OF 'copybooklaw02.CrcKnown'. -/
def crcKnownCard : Claim7 := { stood := { row := crcKnownRow, standIns := [], harness := (true, "b0a2c9cf581bd77387599bd1f1873d83bcc0398d8b8199800c34508515947cf0"), looks := false }, kinds := [], alts := [], laidByText := true, laidKinds := [.data], laidTests := true, laidLooks := .later }
def CrcKnownCardSaid : Prop := Claim7.holds Tryd.pinned (.plain (OpenSpec.ofChange crcKnownSpec)) crcKnownCard

/-- THE SECOND FORM's CARD OF 'copybooklaw02.CrcCalls'. -/
def crcCallsUptoCard : Claim7 := { stood := { row := crcCallsUptoRow, standIns := [], harness := (true, "b0a2c9cf581bd77387599bd1f1873d83bcc0398d8b8199800c34508515947cf0"), looks := false }, kinds := [], alts := [], laidByText := true, laidKinds := [.data], laidTests := true, laidLooks := .later }
def CrcCallsUptoCardSaid : Prop := Claim7.holds Tryd.pinned (.plain (OpenSpec.upto crcCallsSpec)) crcCallsUptoCard

/-- THE SECOND FORM's CARD OF 'copybooklaw02.CrcMore'. -/
def crcMoreUptoCard : Claim7 := { stood := { row := crcMoreUptoRow, standIns := [], harness := (true, "b0a2c9cf581bd77387599bd1f1873d83bcc0398d8b8199800c34508515947cf0"), looks := false }, kinds := [], alts := [], laidByText := true, laidKinds := [.data], laidTests := true, laidLooks := .later }
def CrcMoreUptoCardSaid : Prop := Claim7.holds Tryd.pinned (.plain (OpenSpec.upto crcMoreSpec)) crcMoreUptoCard

/-- THE SECOND FORM's CARD OF 'copybooklaw02.CrcXor'. -/
def crcXorUptoCard : Claim7 := { stood := { row := crcXorUptoRow, standIns := [], harness := (true, "b0a2c9cf581bd77387599bd1f1873d83bcc0398d8b8199800c34508515947cf0"), looks := false }, kinds := [], alts := [], laidByText := true, laidKinds := [.data], laidTests := true, laidLooks := .later }
def CrcXorUptoCardSaid : Prop := Claim7.holds Tryd.pinned (.plain (OpenSpec.upto crcXorSpec)) crcXorUptoCard

/-- THE SECOND FORM's CARD OF 'copybooklaw02.CrcFrames'. -/
def crcFramesUptoCard : Claim7 := { stood := { row := crcFramesUptoRow, standIns := [], harness := (true, "b0a2c9cf581bd77387599bd1f1873d83bcc0398d8b8199800c34508515947cf0"), looks := false }, kinds := [], alts := [], laidByText := true, laidKinds := [.data], laidTests := true, laidLooks := .later }
def CrcFramesUptoCardSaid : Prop := Claim7.holds Tryd.pinned (.plain (OpenSpec.upto crcFramesSpec)) crcFramesUptoCard

/-- THE SECOND FORM's CARD OF 'copybooklaw02.CrcLonger'. -/
def crcLongerUptoCard : Claim7 := { stood := { row := crcLongerUptoRow, standIns := [], harness := (true, "b0a2c9cf581bd77387599bd1f1873d83bcc0398d8b8199800c34508515947cf0"), looks := false }, kinds := [], alts := [], laidByText := true, laidKinds := [.data], laidTests := true, laidLooks := .later }
def CrcLongerUptoCardSaid : Prop := Claim7.holds Tryd.pinned (.plain (OpenSpec.upto crcLongerSpec)) crcLongerUptoCard

/-- THE SECOND FORM's CARD OF 'copybooklaw02.CrcKnown'. -/
def crcKnownUptoCard : Claim7 := { stood := { row := crcKnownUptoRow, standIns := [], harness := (true, "b0a2c9cf581bd77387599bd1f1873d83bcc0398d8b8199800c34508515947cf0"), looks := false }, kinds := [], alts := [], laidByText := true, laidKinds := [.data], laidTests := true, laidLooks := .later }
def CrcKnownUptoCardSaid : Prop := Claim7.holds Tryd.pinned (.plain (OpenSpec.upto crcKnownSpec)) crcKnownUptoCard
end Rows
end Go.Proofs.YthoaagkllkcacaaDoor
