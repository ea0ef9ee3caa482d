/-
  DERIVED. GIVEN WITH THE SEED: THE CARDS: each row of YtmgpdkecpobcaaaDoorRows.lean that lists a variable, with what it lists TIED to the program's text (the seventh form; the later family's looks); each row that meets fmt, with fmt's text TOLD by the authors' own Lean function (tested against real Go, not proved from fmt's source: count such statements apart). THE CARD IS WHAT COUNTS. Prove the row's statement (the work); the ties are given (YtmgpdkecpobcaaaDoorTie.lean); close each card by the builder's one call (the guide's Derived/Test/ToyasCard.lean, 'card_holds'). Laid BY PROGRAM, IN A SANDBOX (cutbox-door.mjs). By AI agents, Wed Nov 11 2026. No macro, syntax, notation, axiom, sorry.
-/
import Derived.Test.YtmgpdkecpobcaaaDoorRows
import GoSem.ClaimSeven
namespace Go.Proofs.YtmgpdkecpobcaaaDoor
namespace Rows

/-- THE TIED CARD OF 'chainmailkeep.MvTrims'. -/
def mvTrimsCard : Claim7 := { stood := { row := mvTrimsRow, standIns := [], harness := (true, "fc2cf5da98991da9c6af9910a74481dae626b0b58d56a546d11f6028f5675565"), looks := true }, kinds := [], alts := [], laidByText := true, laidKinds := [.handle], laidTests := true, laidLooks := .later }
def MvTrimsCardSaid : Prop := Claim7.holds Tryd.pinned (.plain (OpenSpec.ofChange mvTrimsSpec)) mvTrimsCard

/-- THE TIED CARD OF 'chainmaillaw.MvPlays'. -/
def mvPlaysCard : Claim7 := { stood := { row := mvPlaysRow, standIns := [], harness := (true, "fc2cf5da98991da9c6af9910a74481dae626b0b58d56a546d11f6028f5675565"), looks := true }, kinds := [], alts := [], laidByText := true, laidKinds := [.handle], laidTests := true, laidLooks := .later }
def MvPlaysCardSaid : Prop := Claim7.holds Tryd.pinned (.plain (OpenSpec.ofChange mvPlaysSpec)) mvPlaysCard

/-- THE SECOND FORM's CARD OF 'chainmailkeep.MvTrims'. -/
def mvTrimsUptoCard : Claim7 := { stood := { row := mvTrimsUptoRow, standIns := [], harness := (true, "fc2cf5da98991da9c6af9910a74481dae626b0b58d56a546d11f6028f5675565"), looks := true }, kinds := [], alts := [], laidByText := true, laidKinds := [.handle], laidTests := true, laidLooks := .later }
def MvTrimsUptoCardSaid : Prop := Claim7.holds Tryd.pinned (.plain (OpenSpec.upto mvTrimsSpec)) mvTrimsUptoCard

/-- THE SECOND FORM's CARD OF 'chainmaillaw.MvPlays'. -/
def mvPlaysUptoCard : Claim7 := { stood := { row := mvPlaysUptoRow, standIns := [], harness := (true, "fc2cf5da98991da9c6af9910a74481dae626b0b58d56a546d11f6028f5675565"), looks := true }, kinds := [], alts := [], laidByText := true, laidKinds := [.handle], laidTests := true, laidLooks := .later }
def MvPlaysUptoCardSaid : Prop := Claim7.holds Tryd.pinned (.plain (OpenSpec.upto mvPlaysSpec)) mvPlaysUptoCard
end Rows
end Go.Proofs.YtmgpdkecpobcaaaDoor
