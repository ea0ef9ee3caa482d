/-
  NARROWER THAN 'FOR EVERY INPUT', by the rows' own cells (each row's printed sentence says how): HouseSerial: laid · HouseEldest: laid · HouseLasts: laid · HouseLogs: laid.
  DERIVED. THE GIVEN ROWS OF THIS SEAT. 4 by the template 'for every input the law returns true; each argument reads behind the call as it read before'; 0 by the template 'total and deterministic' (their statements: YtccahlhdifadfaaGreatDoorTotals.lean).
  GIVEN WITH THE SEED: the statements are not yours to turn. If you find one false, say at which input.
  Laid BY PROGRAM, IN A SANDBOX (cutbox-rows.mjs): the forced cells as the released guide's own fill.sh prints them over the translation 37270f7b7b60f970… (all of the seat's roots in one cut). By AI agents, Wed Nov 11 2026. No macro, syntax, notation, axiom, sorry.
-/
import Derived.Test.YtccahlhdifadfaaGreatDoorChecked
import GoSem.Claim
import GoSem.ClaimJoined
import GoSem.ClaimMapViews
import Derived.JoinedTies
import Derived.KernelRfl
namespace Go.Proofs.YtccahlhdifadfaaGreatDoor
/- THE CELL 'sum', in the pinned program and in every row, IS THE sha256 OF THE DUMP (.gsa) THAT YtccahlhdifadfaaGreatDoorProg.lean LOADS. Nothing in Lean hashes anything: it is a label: what it is worth is what the hold of that sum in a sandbox is worth. -/
noncomputable def Tryz.pinned : Pinned := { name := "ytccahlhdifadfaagreatdoor", sum := "37270f7b7b60f9707cc74e86838e22699526a7671d95c55e011f54bfffb0f5ee", checked := Tryz.checked }
namespace Rows
def none {H : Type} : Left H := { results := [], args := [] }

/- WHAT THE LISTED PACKAGE-LEVEL VARIABLES READ AS WHEN THE CALL BEGINS. Each datum BY PROGRAM (the guide's laid-datum.mjs) off the statement by which the dump's own 'gosem.cut.vars' lays the variable. In a bare row this is a premise. The card (YtccahlhdifadfaaGreatDoorCards.lean) ties it to the program's text. -/
def laid_chainmail_chainmailkeep_names {H : Type} : DataW H := .slice [.lit (.string [97]), .lit (.string [98]), .lit (.string [99]), .lit (.string [100])] []

/-- 'chainmailkeep.HouseSerial': WHATEVER THE INPUT: true; the input reads as it did. -/
def houseSerialSpec : ChangeSpec := { name := "houseSerial", fn := fun _ => fun
  | [d1, d2] => { results := [.lit (.bool true)], args := [d1, d2] }
  | _ => none }
def houseSerialRow : OpenClaim := { program := "ytccahlhdifadfaagreatdoor", sum := "37270f7b7b60f9707cc74e86838e22699526a7671d95c55e011f54bfffb0f5ee", func := "chainmail/chainmailkeep.HouseSerial", spec := "houseSerial", inPlace := ["slices.overlaps[chainmail/locks.wait]", "slices.overlaps[chainmail/mv.version]"], unfollowed := true, recurses := true, named := ["chainmail/chainmailkeep.names"], apart := false, laid := [("chainmail/chainmailkeep.names", laid_chainmail_chainmailkeep_names)] }
def HouseSerialSaid : Prop := houseSerialRow.holds Tryz.pinned (OpenSpec.ofChange houseSerialSpec)

/-- ITS FALSE NEIGHBOUR: 'it returns false'. Refute it at one input. -/
def houseSerialWrong : ChangeSpec := { name := "houseSerial", fn := fun _ => fun
  | [d1, d2] => { results := [.lit (.bool false)], args := [d1, d2] }
  | _ => none }
def HouseSerialWrongFalsely : Prop := houseSerialRow.holds Tryz.pinned (OpenSpec.ofChange houseSerialWrong)

/-- 'chainmailkeep.HouseEldest': WHATEVER THE INPUT: true; the input reads as it did. -/
def houseEldestSpec : ChangeSpec := { name := "houseEldest", fn := fun _ => fun
  | [d1, d2, d3] => { results := [.lit (.bool true)], args := [d1, d2, d3] }
  | _ => none }
def houseEldestRow : OpenClaim := { program := "ytccahlhdifadfaagreatdoor", sum := "37270f7b7b60f9707cc74e86838e22699526a7671d95c55e011f54bfffb0f5ee", func := "chainmail/chainmailkeep.HouseEldest", spec := "houseEldest", inPlace := ["slices.overlaps[chainmail/locks.wait]", "slices.overlaps[chainmail/mv.version]"], unfollowed := true, recurses := true, named := ["chainmail/chainmailkeep.names"], apart := false, laid := [("chainmail/chainmailkeep.names", laid_chainmail_chainmailkeep_names)] }
def HouseEldestSaid : Prop := houseEldestRow.holds Tryz.pinned (OpenSpec.ofChange houseEldestSpec)

/-- ITS FALSE NEIGHBOUR: 'it returns false'. Refute it at one input. -/
def houseEldestWrong : ChangeSpec := { name := "houseEldest", fn := fun _ => fun
  | [d1, d2, d3] => { results := [.lit (.bool false)], args := [d1, d2, d3] }
  | _ => none }
def HouseEldestWrongFalsely : Prop := houseEldestRow.holds Tryz.pinned (OpenSpec.ofChange houseEldestWrong)

/-- 'chainmailkeep.HouseLasts': WHATEVER THE INPUT: true; the input reads as it did. -/
def houseLastsSpec : ChangeSpec := { name := "houseLasts", fn := fun _ => fun
  | [d1, d2] => { results := [.lit (.bool true)], args := [d1, d2] }
  | _ => none }
def houseLastsRow : OpenClaim := { program := "ytccahlhdifadfaagreatdoor", sum := "37270f7b7b60f9707cc74e86838e22699526a7671d95c55e011f54bfffb0f5ee", func := "chainmail/chainmailkeep.HouseLasts", spec := "houseLasts", inPlace := ["slices.overlaps[chainmail/locks.wait]", "slices.overlaps[chainmail/mv.version]"], unfollowed := true, recurses := true, named := ["chainmail/chainmailkeep.names"], apart := false, laid := [("chainmail/chainmailkeep.names", laid_chainmail_chainmailkeep_names)] }
def HouseLastsSaid : Prop := houseLastsRow.holds Tryz.pinned (OpenSpec.ofChange houseLastsSpec)

/-- ITS FALSE NEIGHBOUR: 'it returns false'. Refute it at one input. -/
def houseLastsWrong : ChangeSpec := { name := "houseLasts", fn := fun _ => fun
  | [d1, d2] => { results := [.lit (.bool false)], args := [d1, d2] }
  | _ => none }
def HouseLastsWrongFalsely : Prop := houseLastsRow.holds Tryz.pinned (OpenSpec.ofChange houseLastsWrong)

/-- 'chainmailkeep.HouseLogs': WHATEVER THE INPUT: true; the input reads as it did. -/
def houseLogsSpec : ChangeSpec := { name := "houseLogs", fn := fun _ => fun
  | [d1, d2] => { results := [.lit (.bool true)], args := [d1, d2] }
  | _ => none }
def houseLogsRow : OpenClaim := { program := "ytccahlhdifadfaagreatdoor", sum := "37270f7b7b60f9707cc74e86838e22699526a7671d95c55e011f54bfffb0f5ee", func := "chainmail/chainmailkeep.HouseLogs", spec := "houseLogs", inPlace := ["slices.overlaps[chainmail/locks.wait]", "slices.overlaps[chainmail/mv.version]"], unfollowed := true, recurses := true, named := ["chainmail/chainmailkeep.names"], apart := false, laid := [("chainmail/chainmailkeep.names", laid_chainmail_chainmailkeep_names)] }
def HouseLogsSaid : Prop := houseLogsRow.holds Tryz.pinned (OpenSpec.ofChange houseLogsSpec)

/-- ITS FALSE NEIGHBOUR: 'it returns false'. Refute it at one input. -/
def houseLogsWrong : ChangeSpec := { name := "houseLogs", fn := fun _ => fun
  | [d1, d2] => { results := [.lit (.bool false)], args := [d1, d2] }
  | _ => none }
def HouseLogsWrongFalsely : Prop := houseLogsRow.holds Tryz.pinned (OpenSpec.ofChange houseLogsWrong)

/- THE SECOND FORM. 'bulk': how many values and letters a reading holds, each counted each time it is reached (what is shared counts as often as it is met; a slice's spare places count too). A statement '..UptoSaid' is the law's where the arguments, and the package variables that the reading takes, are together of bulk at most 1048576: NARROWER than '..Said'. Prove '..Said' where nothing that the law and all that it calls make is longer than what came in: it says more and counts as full. Else prove '..UptoSaid'. A law counts once. -/
mutual
def uptoBulk {H : Type} : DataW H → Nat
  | .lit (.string bytes) => bytes.length + 1
  | .lit _ => 1
  | .nil => 1
  | .ptr d => uptoBulk d + 1
  | .slice elems spare => uptoBulkAll elems + uptoBulkAll spare + 1
  | .agg parts => uptoBulkAll parts + 1
  | .iface _ d => uptoBulk d + 1
  | .map entries => uptoBulkEntries entries + 1
  | .held _ => 1
def uptoBulkAll {H : Type} : List (DataW H) → Nat
  | [] => 0
  | d :: r => uptoBulk d + uptoBulkAll r
def uptoBulkEntries {H : Type} : List (Lit × DataW H) → Nat
  | [] => 0
  | x :: r => uptoBulkEntry x + uptoBulkEntries r
def uptoBulkEntry {H : Type} : Lit × DataW H → Nat
  | (.string bytes, d) => bytes.length + uptoBulk d + 1
  | (_, d) => uptoBulk d + 1
 end
def uptoSmall : (H : Type) → List (DataW H) → Bool := fun _ ds => decide (uptoBulkAll ds ≤ 1048576)
def OpenSpec.upto (s : _root_.Go.ChangeSpec) : _root_.Go.OpenSpec := { _root_.Go.OpenSpec.ofChange s with cond := some uptoSmall }

/-- 'chainmailkeep.HouseSerial', WHERE WHAT IT READS IS OF BULK AT MOST 1048576: true; the input reads as it did. -/
def houseSerialUptoRow : OpenClaim := { program := "ytccahlhdifadfaagreatdoor", sum := "37270f7b7b60f9707cc74e86838e22699526a7671d95c55e011f54bfffb0f5ee", func := "chainmail/chainmailkeep.HouseSerial", spec := "houseSerial", inPlace := ["slices.overlaps[chainmail/locks.wait]", "slices.overlaps[chainmail/mv.version]"], unfollowed := true, recurses := true, named := ["chainmail/chainmailkeep.names"], apart := false, laid := [("chainmail/chainmailkeep.names", laid_chainmail_chainmailkeep_names)], narrowed := true }
def HouseSerialUptoSaid : Prop := houseSerialUptoRow.holds Tryz.pinned (OpenSpec.upto houseSerialSpec)

/-- 'chainmailkeep.HouseEldest', WHERE WHAT IT READS IS OF BULK AT MOST 1048576: true; the input reads as it did. -/
def houseEldestUptoRow : OpenClaim := { program := "ytccahlhdifadfaagreatdoor", sum := "37270f7b7b60f9707cc74e86838e22699526a7671d95c55e011f54bfffb0f5ee", func := "chainmail/chainmailkeep.HouseEldest", spec := "houseEldest", inPlace := ["slices.overlaps[chainmail/locks.wait]", "slices.overlaps[chainmail/mv.version]"], unfollowed := true, recurses := true, named := ["chainmail/chainmailkeep.names"], apart := false, laid := [("chainmail/chainmailkeep.names", laid_chainmail_chainmailkeep_names)], narrowed := true }
def HouseEldestUptoSaid : Prop := houseEldestUptoRow.holds Tryz.pinned (OpenSpec.upto houseEldestSpec)

/-- 'chainmailkeep.HouseLasts', WHERE WHAT IT READS IS OF BULK AT MOST 1048576: true; the input reads as it did. -/
def houseLastsUptoRow : OpenClaim := { program := "ytccahlhdifadfaagreatdoor", sum := "37270f7b7b60f9707cc74e86838e22699526a7671d95c55e011f54bfffb0f5ee", func := "chainmail/chainmailkeep.HouseLasts", spec := "houseLasts", inPlace := ["slices.overlaps[chainmail/locks.wait]", "slices.overlaps[chainmail/mv.version]"], unfollowed := true, recurses := true, named := ["chainmail/chainmailkeep.names"], apart := false, laid := [("chainmail/chainmailkeep.names", laid_chainmail_chainmailkeep_names)], narrowed := true }
def HouseLastsUptoSaid : Prop := houseLastsUptoRow.holds Tryz.pinned (OpenSpec.upto houseLastsSpec)

/-- 'chainmailkeep.HouseLogs', WHERE WHAT IT READS IS OF BULK AT MOST 1048576: true; the input reads as it did. -/
def houseLogsUptoRow : OpenClaim := { program := "ytccahlhdifadfaagreatdoor", sum := "37270f7b7b60f9707cc74e86838e22699526a7671d95c55e011f54bfffb0f5ee", func := "chainmail/chainmailkeep.HouseLogs", spec := "houseLogs", inPlace := ["slices.overlaps[chainmail/locks.wait]", "slices.overlaps[chainmail/mv.version]"], unfollowed := true, recurses := true, named := ["chainmail/chainmailkeep.names"], apart := false, laid := [("chainmail/chainmailkeep.names", laid_chainmail_chainmailkeep_names)], narrowed := true }
def HouseLogsUptoSaid : Prop := houseLogsUptoRow.holds Tryz.pinned (OpenSpec.upto houseLogsSpec)

end Rows
end Go.Proofs.YtccahlhdifadfaaGreatDoor
