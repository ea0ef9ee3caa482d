/-
  DERIVED. GIVEN WITH THE SEED: THE CARDS: each row of YtnahkpfamocnfaaDoorRows.lean that lists a variable, with what it lists TIED to the program's text (the seventh form; the later family's looks); each row that meets fmt, with fmt's text TOLD by the authors' own Lean function (tested against real Go, not proved from fmt's source: count such statements apart). THE CARD IS WHAT COUNTS. Prove the row's statement (the work); the ties are given (YtnahkpfamocnfaaDoorTie.lean); close each card by the builder's one call (the guide's Derived/Test/ToyasCard.lean, 'card_holds'). Laid BY PROGRAM, IN A SANDBOX (cutbox-door.mjs). By AI agents, Wed Nov 11 2026. No macro, syntax, notation, axiom, sorry.
-/
import Derived.Test.YtnahkpfamocnfaaDoorRows
import GoSem.ClaimSeven
namespace Go.Proofs.YtnahkpfamocnfaaDoor
namespace Rows

/-- THE TIED CARD OF 'chainmaillaw.WireMsgs'. -/
def wireMsgsCard : Claim7 := { stood := { row := wireMsgsRow, standIns := [], harness := (true, "a6423c23fde10a159e567fbcda04455b123f2f0c53fa41de9ceef375a7815573"), looks := true }, kinds := [], alts := [], laidByText := true, laidKinds := [.handle], laidTests := true, laidLooks := .later }
def WireMsgsCardSaid : Prop := Claim7.holds Tryd.pinned (.plain (OpenSpec.ofChange wireMsgsSpec)) wireMsgsCard

/-- THE TIED CARD OF 'chainmaillaw.WireLogs'. -/
def wireLogsCard : Claim7 := { stood := { row := wireLogsRow, standIns := [], harness := (true, "a6423c23fde10a159e567fbcda04455b123f2f0c53fa41de9ceef375a7815573"), looks := true }, kinds := [], alts := [], laidByText := true, laidKinds := [.handle], laidTests := true, laidLooks := .later }
def WireLogsCardSaid : Prop := Claim7.holds Tryd.pinned (.plain (OpenSpec.ofChange wireLogsSpec)) wireLogsCard

/-- THE TIED CARD OF 'chainmaillaw.CheckSerial'. -/
def checkSerialCard : Claim7 := { stood := { row := checkSerialRow, standIns := [], harness := (true, "a6423c23fde10a159e567fbcda04455b123f2f0c53fa41de9ceef375a7815573"), looks := true }, kinds := [], alts := [], laidByText := true, laidKinds := [.handle], laidTests := true, laidLooks := .later }
def CheckSerialCardSaid : Prop := Claim7.holds Tryd.pinned (.plain (OpenSpec.ofChange checkSerialSpec)) checkSerialCard

/-- THE TIED CARD OF 'chainmaillaw.WireReads'. -/
def wireReadsCard : Claim7 := { stood := { row := wireReadsRow, standIns := [], harness := (true, "a6423c23fde10a159e567fbcda04455b123f2f0c53fa41de9ceef375a7815573"), looks := true }, kinds := [], alts := [], laidByText := true, laidKinds := [.handle], laidTests := true, laidLooks := .later }
def WireReadsCardSaid : Prop := Claim7.holds Tryd.pinned (.plain (OpenSpec.ofChange wireReadsSpec)) wireReadsCard

/-- THE TIED CARD OF 'chainmaillaw.NetPlays'. -/
def netPlaysCard : Claim7 := { stood := { row := netPlaysRow, standIns := [], harness := (true, "a6423c23fde10a159e567fbcda04455b123f2f0c53fa41de9ceef375a7815573"), looks := true }, kinds := [], alts := [], laidByText := true, laidKinds := [.handle], laidTests := true, laidLooks := .later }
def NetPlaysCardSaid : Prop := Claim7.holds Tryd.pinned (.plain (OpenSpec.ofChange netPlaysSpec)) netPlaysCard

/-- THE SECOND FORM's CARD OF 'chainmaillaw.WireMsgs'. -/
def wireMsgsUptoCard : Claim7 := { stood := { row := wireMsgsUptoRow, standIns := [], harness := (true, "a6423c23fde10a159e567fbcda04455b123f2f0c53fa41de9ceef375a7815573"), looks := true }, kinds := [], alts := [], laidByText := true, laidKinds := [.handle], laidTests := true, laidLooks := .later }
def WireMsgsUptoCardSaid : Prop := Claim7.holds Tryd.pinned (.plain (OpenSpec.upto wireMsgsSpec)) wireMsgsUptoCard

/-- THE SECOND FORM's CARD OF 'chainmaillaw.WireLogs'. -/
def wireLogsUptoCard : Claim7 := { stood := { row := wireLogsUptoRow, standIns := [], harness := (true, "a6423c23fde10a159e567fbcda04455b123f2f0c53fa41de9ceef375a7815573"), looks := true }, kinds := [], alts := [], laidByText := true, laidKinds := [.handle], laidTests := true, laidLooks := .later }
def WireLogsUptoCardSaid : Prop := Claim7.holds Tryd.pinned (.plain (OpenSpec.upto wireLogsSpec)) wireLogsUptoCard

/-- THE SECOND FORM's CARD OF 'chainmaillaw.CheckSerial'. -/
def checkSerialUptoCard : Claim7 := { stood := { row := checkSerialUptoRow, standIns := [], harness := (true, "a6423c23fde10a159e567fbcda04455b123f2f0c53fa41de9ceef375a7815573"), looks := true }, kinds := [], alts := [], laidByText := true, laidKinds := [.handle], laidTests := true, laidLooks := .later }
def CheckSerialUptoCardSaid : Prop := Claim7.holds Tryd.pinned (.plain (OpenSpec.upto checkSerialSpec)) checkSerialUptoCard

/-- THE SECOND FORM's CARD OF 'chainmaillaw.WireReads'. -/
def wireReadsUptoCard : Claim7 := { stood := { row := wireReadsUptoRow, standIns := [], harness := (true, "a6423c23fde10a159e567fbcda04455b123f2f0c53fa41de9ceef375a7815573"), looks := true }, kinds := [], alts := [], laidByText := true, laidKinds := [.handle], laidTests := true, laidLooks := .later }
def WireReadsUptoCardSaid : Prop := Claim7.holds Tryd.pinned (.plain (OpenSpec.upto wireReadsSpec)) wireReadsUptoCard

/-- THE SECOND FORM's CARD OF 'chainmaillaw.NetPlays'. -/
def netPlaysUptoCard : Claim7 := { stood := { row := netPlaysUptoRow, standIns := [], harness := (true, "a6423c23fde10a159e567fbcda04455b123f2f0c53fa41de9ceef375a7815573"), looks := true }, kinds := [], alts := [], laidByText := true, laidKinds := [.handle], laidTests := true, laidLooks := .later }
def NetPlaysUptoCardSaid : Prop := Claim7.holds Tryd.pinned (.plain (OpenSpec.upto netPlaysSpec)) netPlaysUptoCard
end Rows
end Go.Proofs.YtnahkpfamocnfaaDoor
