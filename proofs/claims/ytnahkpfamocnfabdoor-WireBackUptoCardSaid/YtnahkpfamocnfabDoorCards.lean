/-
  DERIVED. GIVEN WITH THE SEED: THE CARDS: each row of YtnahkpfamocnfabDoorRows.lean that lists a variable, with what it lists TIED to the program's text (the seventh form; the later family's looks); each row that meets fmt, with fmt's text TOLD by the authors' own Lean function (tested against real Go, not proved from fmt's source: count such statements apart). THE CARD IS WHAT COUNTS. Prove the row's statement (the work); the ties are given (YtnahkpfamocnfabDoorTie.lean); close each card by the builder's one call (the guide's Derived/Test/ToyasCard.lean, 'card_holds'). Laid BY PROGRAM, IN A SANDBOX (cutbox-door.mjs). By AI agents, Wed Nov 11 2026. No macro, syntax, notation, axiom, sorry.
-/
import Derived.Test.YtnahkpfamocnfabDoorRows
import GoSem.ClaimSeven
namespace Go.Proofs.YtnahkpfamocnfabDoor
namespace Rows

/-- THE TIED CARD OF 'chainmailkeep.WireBack'. -/
def wireBackCard : Claim7 := { stood := { row := wireBackRow, standIns := [], harness := (true, "1e4a51532c5040f78f8b31696d6e5941cf19a94280c418b5328c28e5aa4e1f05"), looks := true }, kinds := [], alts := [], laidByText := true, laidKinds := [.handle], laidTests := true, laidLooks := .later }
def WireBackCardSaid : Prop := Claim7.holds Tryd.pinned (.plain (OpenSpec.ofChange wireBackSpec)) wireBackCard

/-- THE TIED CARD OF 'chainmaillaw.ChainFills'. -/
def chainFillsCard : Claim7 := { stood := { row := chainFillsRow, standIns := [], harness := (true, "1e4a51532c5040f78f8b31696d6e5941cf19a94280c418b5328c28e5aa4e1f05"), looks := true }, kinds := [], alts := [], laidByText := true, laidKinds := [.handle], laidTests := true, laidLooks := .later }
def ChainFillsCardSaid : Prop := Claim7.holds Tryd.pinned (.plain (OpenSpec.ofChange chainFillsSpec)) chainFillsCard

/-- THE TIED CARD OF 'chainmaillaw.ChainSteps'. -/
def chainStepsCard : Claim7 := { stood := { row := chainStepsRow, standIns := [], harness := (true, "1e4a51532c5040f78f8b31696d6e5941cf19a94280c418b5328c28e5aa4e1f05"), looks := true }, kinds := [], alts := [], laidByText := true, laidKinds := [.handle], laidTests := true, laidLooks := .later }
def ChainStepsCardSaid : Prop := Claim7.holds Tryd.pinned (.plain (OpenSpec.ofChange chainStepsSpec)) chainStepsCard

/-- THE TIED CARD OF 'chainmailkeep.MvTrims'. -/
def mvTrimsCard : Claim7 := { stood := { row := mvTrimsRow, standIns := [], harness := (true, "1e4a51532c5040f78f8b31696d6e5941cf19a94280c418b5328c28e5aa4e1f05"), looks := true }, kinds := [], alts := [], laidByText := true, laidKinds := [.handle], laidTests := true, laidLooks := .later }
def MvTrimsCardSaid : Prop := Claim7.holds Tryd.pinned (.plain (OpenSpec.ofChange mvTrimsSpec)) mvTrimsCard

/-- THE TIED CARD OF 'chainmaillaw.MvPlays'. -/
def mvPlaysCard : Claim7 := { stood := { row := mvPlaysRow, standIns := [], harness := (true, "1e4a51532c5040f78f8b31696d6e5941cf19a94280c418b5328c28e5aa4e1f05"), looks := true }, kinds := [], alts := [], laidByText := true, laidKinds := [.handle], laidTests := true, laidLooks := .later }
def MvPlaysCardSaid : Prop := Claim7.holds Tryd.pinned (.plain (OpenSpec.ofChange mvPlaysSpec)) mvPlaysCard

/-- THE SECOND FORM's CARD OF 'chainmailkeep.WireBack'. -/
def wireBackUptoCard : Claim7 := { stood := { row := wireBackUptoRow, standIns := [], harness := (true, "1e4a51532c5040f78f8b31696d6e5941cf19a94280c418b5328c28e5aa4e1f05"), looks := true }, kinds := [], alts := [], laidByText := true, laidKinds := [.handle], laidTests := true, laidLooks := .later }
def WireBackUptoCardSaid : Prop := Claim7.holds Tryd.pinned (.plain (OpenSpec.upto wireBackSpec)) wireBackUptoCard

/-- THE SECOND FORM's CARD OF 'chainmaillaw.ChainFills'. -/
def chainFillsUptoCard : Claim7 := { stood := { row := chainFillsUptoRow, standIns := [], harness := (true, "1e4a51532c5040f78f8b31696d6e5941cf19a94280c418b5328c28e5aa4e1f05"), looks := true }, kinds := [], alts := [], laidByText := true, laidKinds := [.handle], laidTests := true, laidLooks := .later }
def ChainFillsUptoCardSaid : Prop := Claim7.holds Tryd.pinned (.plain (OpenSpec.upto chainFillsSpec)) chainFillsUptoCard

/-- THE SECOND FORM's CARD OF 'chainmaillaw.ChainSteps'. -/
def chainStepsUptoCard : Claim7 := { stood := { row := chainStepsUptoRow, standIns := [], harness := (true, "1e4a51532c5040f78f8b31696d6e5941cf19a94280c418b5328c28e5aa4e1f05"), looks := true }, kinds := [], alts := [], laidByText := true, laidKinds := [.handle], laidTests := true, laidLooks := .later }
def ChainStepsUptoCardSaid : Prop := Claim7.holds Tryd.pinned (.plain (OpenSpec.upto chainStepsSpec)) chainStepsUptoCard

/-- THE SECOND FORM's CARD OF 'chainmailkeep.MvTrims'. -/
def mvTrimsUptoCard : Claim7 := { stood := { row := mvTrimsUptoRow, standIns := [], harness := (true, "1e4a51532c5040f78f8b31696d6e5941cf19a94280c418b5328c28e5aa4e1f05"), looks := true }, kinds := [], alts := [], laidByText := true, laidKinds := [.handle], laidTests := true, laidLooks := .later }
def MvTrimsUptoCardSaid : Prop := Claim7.holds Tryd.pinned (.plain (OpenSpec.upto mvTrimsSpec)) mvTrimsUptoCard

/-- THE SECOND FORM's CARD OF 'chainmaillaw.MvPlays'. -/
def mvPlaysUptoCard : Claim7 := { stood := { row := mvPlaysUptoRow, standIns := [], harness := (true, "1e4a51532c5040f78f8b31696d6e5941cf19a94280c418b5328c28e5aa4e1f05"), looks := true }, kinds := [], alts := [], laidByText := true, laidKinds := [.handle], laidTests := true, laidLooks := .later }
def MvPlaysUptoCardSaid : Prop := Claim7.holds Tryd.pinned (.plain (OpenSpec.upto mvPlaysSpec)) mvPlaysUptoCard
end Rows
end Go.Proofs.YtnahkpfamocnfabDoor
