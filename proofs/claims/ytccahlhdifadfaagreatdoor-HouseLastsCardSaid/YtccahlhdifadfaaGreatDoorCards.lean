/-
  DERIVED. GIVEN WITH THE SEED: THE CARDS: each row of YtccahlhdifadfaaGreatDoorRows.lean that lists a variable, with what it lists TIED to the program's text (the seventh form; the later family's looks); each row that meets fmt, with fmt's text TOLD by the authors' own Lean function (tested against real Go, not proved from fmt's source: count such statements apart). THE CARD IS WHAT COUNTS. Prove the row's statement (the work); the ties are given (YtccahlhdifadfaaGreatDoorTie.lean); close each card by the builder's one call (the guide's Derived/Test/ToyasCard.lean, 'card_holds'). Laid BY PROGRAM, IN A SANDBOX (cutbox-door.mjs). By AI agents, Wed Nov 11 2026. No macro, syntax, notation, axiom, sorry.
-/
import Derived.Test.YtccahlhdifadfaaGreatDoorRows
import GoSem.ClaimSeven
namespace Go.Proofs.YtccahlhdifadfaaGreatDoor
namespace Rows

/-- THE TIED CARD OF 'chainmailkeep.HouseSerial'. -/
def houseSerialCard : Claim7 := { stood := { row := houseSerialRow, standIns := [], harness := (true, "36635b1008f8fce022f031660ea5a7eeda71302d918e6bf31fa48de0f1d9db3e"), looks := false }, kinds := [], alts := [], laidByText := true, laidKinds := [.data], laidTests := true, laidLooks := .later }
def HouseSerialCardSaid : Prop := Claim7.holds Tryz.pinned (.plain (OpenSpec.ofChange houseSerialSpec)) houseSerialCard

/-- THE TIED CARD OF 'chainmailkeep.HouseEldest'. -/
def houseEldestCard : Claim7 := { stood := { row := houseEldestRow, standIns := [], harness := (true, "36635b1008f8fce022f031660ea5a7eeda71302d918e6bf31fa48de0f1d9db3e"), looks := false }, kinds := [], alts := [], laidByText := true, laidKinds := [.data], laidTests := true, laidLooks := .later }
def HouseEldestCardSaid : Prop := Claim7.holds Tryz.pinned (.plain (OpenSpec.ofChange houseEldestSpec)) houseEldestCard

/-- THE TIED CARD OF 'chainmailkeep.HouseLasts'. -/
def houseLastsCard : Claim7 := { stood := { row := houseLastsRow, standIns := [], harness := (true, "36635b1008f8fce022f031660ea5a7eeda71302d918e6bf31fa48de0f1d9db3e"), looks := false }, kinds := [], alts := [], laidByText := true, laidKinds := [.data], laidTests := true, laidLooks := .later }
def HouseLastsCardSaid : Prop := Claim7.holds Tryz.pinned (.plain (OpenSpec.ofChange houseLastsSpec)) houseLastsCard

/-- THE TIED CARD OF 'chainmailkeep.HouseLogs'. -/
def houseLogsCard : Claim7 := { stood := { row := houseLogsRow, standIns := [], harness := (true, "36635b1008f8fce022f031660ea5a7eeda71302d918e6bf31fa48de0f1d9db3e"), looks := false }, kinds := [], alts := [], laidByText := true, laidKinds := [.data], laidTests := true, laidLooks := .later }
def HouseLogsCardSaid : Prop := Claim7.holds Tryz.pinned (.plain (OpenSpec.ofChange houseLogsSpec)) houseLogsCard

/-- THE SECOND FORM's CARD OF 'chainmailkeep.HouseSerial'. -/
def houseSerialUptoCard : Claim7 := { stood := { row := houseSerialUptoRow, standIns := [], harness := (true, "36635b1008f8fce022f031660ea5a7eeda71302d918e6bf31fa48de0f1d9db3e"), looks := false }, kinds := [], alts := [], laidByText := true, laidKinds := [.data], laidTests := true, laidLooks := .later }
def HouseSerialUptoCardSaid : Prop := Claim7.holds Tryz.pinned (.plain (OpenSpec.upto houseSerialSpec)) houseSerialUptoCard

/-- THE SECOND FORM's CARD OF 'chainmailkeep.HouseEldest'. -/
def houseEldestUptoCard : Claim7 := { stood := { row := houseEldestUptoRow, standIns := [], harness := (true, "36635b1008f8fce022f031660ea5a7eeda71302d918e6bf31fa48de0f1d9db3e"), looks := false }, kinds := [], alts := [], laidByText := true, laidKinds := [.data], laidTests := true, laidLooks := .later }
def HouseEldestUptoCardSaid : Prop := Claim7.holds Tryz.pinned (.plain (OpenSpec.upto houseEldestSpec)) houseEldestUptoCard

/-- THE SECOND FORM's CARD OF 'chainmailkeep.HouseLasts'. -/
def houseLastsUptoCard : Claim7 := { stood := { row := houseLastsUptoRow, standIns := [], harness := (true, "36635b1008f8fce022f031660ea5a7eeda71302d918e6bf31fa48de0f1d9db3e"), looks := false }, kinds := [], alts := [], laidByText := true, laidKinds := [.data], laidTests := true, laidLooks := .later }
def HouseLastsUptoCardSaid : Prop := Claim7.holds Tryz.pinned (.plain (OpenSpec.upto houseLastsSpec)) houseLastsUptoCard

/-- THE SECOND FORM's CARD OF 'chainmailkeep.HouseLogs'. -/
def houseLogsUptoCard : Claim7 := { stood := { row := houseLogsUptoRow, standIns := [], harness := (true, "36635b1008f8fce022f031660ea5a7eeda71302d918e6bf31fa48de0f1d9db3e"), looks := false }, kinds := [], alts := [], laidByText := true, laidKinds := [.data], laidTests := true, laidLooks := .later }
def HouseLogsUptoCardSaid : Prop := Claim7.holds Tryz.pinned (.plain (OpenSpec.upto houseLogsSpec)) houseLogsUptoCard
end Rows
end Go.Proofs.YtccahlhdifadfaaGreatDoor
