/-
  No cell of these rows narrows 'for every input' (looked for: loops, veiled, ifaces, maps, wideKeys, modest, calm, conditions, laid).
  DERIVED. THE GIVEN ROWS OF THIS SEAT. 5 by the template 'for every input the law returns true; each argument reads behind the call as it read before'; 0 by the template 'total and deterministic' (their statements: YtnahkpfamocnfaaTotals.lean).
  GIVEN WITH THE SEED: the statements are not yours to turn. If you find one false, say at which input.
  Laid BY PROGRAM, IN A SANDBOX (cutbox-rows.mjs): the forced cells as the released guide's own fill.sh prints them over the translation 049805c4f03d95e6… (all of the seat's roots in one cut). By AI agents, Wed Nov 11 2026. No macro, syntax, notation, axiom, sorry.
-/
import Derived.Test.YtnahkpfamocnfaaChecked
import GoSem.Claim
import GoSem.ClaimJoined
import GoSem.ClaimMapViews
import Derived.JoinedTies
import Derived.KernelRfl
namespace Go.Proofs.Ytnahkpfamocnfaa
/- THE CELL 'sum', in the pinned program and in every row, IS THE sha256 OF THE DUMP (.gsa) THAT YtnahkpfamocnfaaProg.lean LOADS. Nothing in Lean hashes anything: it is a label: what it is worth is what the hold of that sum in a sandbox is worth. -/
noncomputable def Try.pinned : Pinned := { name := "ytnahkpfamocnfaa", sum := "049805c4f03d95e6c2ae54046be1edcac10373396d1799882a88016e94ab145d", checked := Try.checked }
namespace Rows
def none {H : Type} : Left H := { results := [], args := [] }

/-- 'chainmaillaw.WireNumbers': WHATEVER THE INPUT: true; the input reads as it did. -/
def wireNumbersSpec : ChangeSpec := { name := "wireNumbers", fn := fun _ => fun
  | [d] => { results := [.lit (.bool true)], args := [d] }
  | _ => none }
def wireNumbersRow : OpenClaim := { program := "ytnahkpfamocnfaa", sum := "049805c4f03d95e6c2ae54046be1edcac10373396d1799882a88016e94ab145d", func := "chainmail/chainmaillaw.WireNumbers", spec := "wireNumbers", recurses := true, apart := false }
def WireNumbersSaid : Prop := wireNumbersRow.holds Try.pinned (OpenSpec.ofChange wireNumbersSpec)

/-- ITS FALSE NEIGHBOUR: 'it returns false'. Refute it at one input. -/
def wireNumbersWrong : ChangeSpec := { name := "wireNumbers", fn := fun _ => fun
  | [d] => { results := [.lit (.bool false)], args := [d] }
  | _ => none }
def WireNumbersWrongFalsely : Prop := wireNumbersRow.holds Try.pinned (OpenSpec.ofChange wireNumbersWrong)

/-- 'chainmailkeep.CheckFits': WHATEVER THE INPUT: true; the input reads as it did. -/
def checkFitsSpec : ChangeSpec := { name := "checkFits", fn := fun _ => fun
  | [d1, d2] => { results := [.lit (.bool true)], args := [d1, d2] }
  | _ => none }
def checkFitsRow : OpenClaim := { program := "ytnahkpfamocnfaa", sum := "049805c4f03d95e6c2ae54046be1edcac10373396d1799882a88016e94ab145d", func := "chainmail/chainmailkeep.CheckFits", spec := "checkFits", recurses := true, apart := false }
def CheckFitsSaid : Prop := checkFitsRow.holds Try.pinned (OpenSpec.ofChange checkFitsSpec)

/-- ITS FALSE NEIGHBOUR: 'it returns false'. Refute it at one input. -/
def checkFitsWrong : ChangeSpec := { name := "checkFits", fn := fun _ => fun
  | [d1, d2] => { results := [.lit (.bool false)], args := [d1, d2] }
  | _ => none }
def CheckFitsWrongFalsely : Prop := checkFitsRow.holds Try.pinned (OpenSpec.ofChange checkFitsWrong)

/-- 'chainmailkeep.ChainPrefix': WHATEVER THE INPUT: true; the input reads as it did. -/
def chainPrefixSpec : ChangeSpec := { name := "chainPrefix", fn := fun _ => fun
  | [d1, d2] => { results := [.lit (.bool true)], args := [d1, d2] }
  | _ => none }
def chainPrefixRow : OpenClaim := { program := "ytnahkpfamocnfaa", sum := "049805c4f03d95e6c2ae54046be1edcac10373396d1799882a88016e94ab145d", func := "chainmail/chainmailkeep.ChainPrefix", spec := "chainPrefix", unfollowed := true, recurses := true, apart := false }
def ChainPrefixSaid : Prop := chainPrefixRow.holds Try.pinned (OpenSpec.ofChange chainPrefixSpec)

/-- ITS FALSE NEIGHBOUR: 'it returns false'. Refute it at one input. -/
def chainPrefixWrong : ChangeSpec := { name := "chainPrefix", fn := fun _ => fun
  | [d1, d2] => { results := [.lit (.bool false)], args := [d1, d2] }
  | _ => none }
def ChainPrefixWrongFalsely : Prop := chainPrefixRow.holds Try.pinned (OpenSpec.ofChange chainPrefixWrong)

/-- 'chainmailkeep.ChainStable': WHATEVER THE INPUT: true; the input reads as it did. -/
def chainStableSpec : ChangeSpec := { name := "chainStable", fn := fun _ => fun
  | [d1, d2] => { results := [.lit (.bool true)], args := [d1, d2] }
  | _ => none }
def chainStableRow : OpenClaim := { program := "ytnahkpfamocnfaa", sum := "049805c4f03d95e6c2ae54046be1edcac10373396d1799882a88016e94ab145d", func := "chainmail/chainmailkeep.ChainStable", spec := "chainStable", unfollowed := true, recurses := true, apart := false }
def ChainStableSaid : Prop := chainStableRow.holds Try.pinned (OpenSpec.ofChange chainStableSpec)

/-- ITS FALSE NEIGHBOUR: 'it returns false'. Refute it at one input. -/
def chainStableWrong : ChangeSpec := { name := "chainStable", fn := fun _ => fun
  | [d1, d2] => { results := [.lit (.bool false)], args := [d1, d2] }
  | _ => none }
def ChainStableWrongFalsely : Prop := chainStableRow.holds Try.pinned (OpenSpec.ofChange chainStableWrong)

/-- 'chainmailkeep.ChainHeals': WHATEVER THE INPUT: true; the input reads as it did. -/
def chainHealsSpec : ChangeSpec := { name := "chainHeals", fn := fun _ => fun
  | [d1, d2] => { results := [.lit (.bool true)], args := [d1, d2] }
  | _ => none }
def chainHealsRow : OpenClaim := { program := "ytnahkpfamocnfaa", sum := "049805c4f03d95e6c2ae54046be1edcac10373396d1799882a88016e94ab145d", func := "chainmail/chainmailkeep.ChainHeals", spec := "chainHeals", unfollowed := true, recurses := true, apart := false }
def ChainHealsSaid : Prop := chainHealsRow.holds Try.pinned (OpenSpec.ofChange chainHealsSpec)

/-- ITS FALSE NEIGHBOUR: 'it returns false'. Refute it at one input. -/
def chainHealsWrong : ChangeSpec := { name := "chainHeals", fn := fun _ => fun
  | [d1, d2] => { results := [.lit (.bool false)], args := [d1, d2] }
  | _ => none }
def ChainHealsWrongFalsely : Prop := chainHealsRow.holds Try.pinned (OpenSpec.ofChange chainHealsWrong)

/- THE SECOND FORM. 'bulk': how many values and letters a reading holds, each counted each time it is reached (what is shared counts as often as it is met; a slice's spare places count too). A statement '..UptoSaid' is the law's where the arguments, and the package variables that the reading takes, are together of bulk at most 1048576: NARROWER than '..Said'. Prove '..Said' where nothing that the law and all that it calls make is longer than what came in: it says more and counts as full. Else prove '..UptoSaid'. A law counts once. -/
mutual
def uptoBulk {H : Type} : DataW H → Nat
  | .lit (.string bytes) => bytes.length + 1
  | .lit _ => 1
  | .nil => 1
  | .ptr d => uptoBulk d + 1
  | .slice elems spare => uptoBulkAll elems + uptoBulkAll spare + 1
  | .agg parts => uptoBulkAll parts + 1
  | .iface _ d => uptoBulk d + 1
  | .map entries => uptoBulkEntries entries + 1
  | .held _ => 1
def uptoBulkAll {H : Type} : List (DataW H) → Nat
  | [] => 0
  | d :: r => uptoBulk d + uptoBulkAll r
def uptoBulkEntries {H : Type} : List (Lit × DataW H) → Nat
  | [] => 0
  | x :: r => uptoBulkEntry x + uptoBulkEntries r
def uptoBulkEntry {H : Type} : Lit × DataW H → Nat
  | (.string bytes, d) => bytes.length + uptoBulk d + 1
  | (_, d) => uptoBulk d + 1
 end
def uptoSmall : (H : Type) → List (DataW H) → Bool := fun _ ds => decide (uptoBulkAll ds ≤ 1048576)
def OpenSpec.upto (s : _root_.Go.ChangeSpec) : _root_.Go.OpenSpec := { _root_.Go.OpenSpec.ofChange s with cond := some uptoSmall }

/-- 'chainmaillaw.WireNumbers', WHERE WHAT IT READS IS OF BULK AT MOST 1048576: true; the input reads as it did. -/
def wireNumbersUptoRow : OpenClaim := { program := "ytnahkpfamocnfaa", sum := "049805c4f03d95e6c2ae54046be1edcac10373396d1799882a88016e94ab145d", func := "chainmail/chainmaillaw.WireNumbers", spec := "wireNumbers", recurses := true, apart := false, narrowed := true }
def WireNumbersUptoSaid : Prop := wireNumbersUptoRow.holds Try.pinned (OpenSpec.upto wireNumbersSpec)

/-- 'chainmailkeep.CheckFits', WHERE WHAT IT READS IS OF BULK AT MOST 1048576: true; the input reads as it did. -/
def checkFitsUptoRow : OpenClaim := { program := "ytnahkpfamocnfaa", sum := "049805c4f03d95e6c2ae54046be1edcac10373396d1799882a88016e94ab145d", func := "chainmail/chainmailkeep.CheckFits", spec := "checkFits", recurses := true, apart := false, narrowed := true }
def CheckFitsUptoSaid : Prop := checkFitsUptoRow.holds Try.pinned (OpenSpec.upto checkFitsSpec)

/-- 'chainmailkeep.ChainPrefix', WHERE WHAT IT READS IS OF BULK AT MOST 1048576: true; the input reads as it did. -/
def chainPrefixUptoRow : OpenClaim := { program := "ytnahkpfamocnfaa", sum := "049805c4f03d95e6c2ae54046be1edcac10373396d1799882a88016e94ab145d", func := "chainmail/chainmailkeep.ChainPrefix", spec := "chainPrefix", unfollowed := true, recurses := true, apart := false, narrowed := true }
def ChainPrefixUptoSaid : Prop := chainPrefixUptoRow.holds Try.pinned (OpenSpec.upto chainPrefixSpec)

/-- 'chainmailkeep.ChainStable', WHERE WHAT IT READS IS OF BULK AT MOST 1048576: true; the input reads as it did. -/
def chainStableUptoRow : OpenClaim := { program := "ytnahkpfamocnfaa", sum := "049805c4f03d95e6c2ae54046be1edcac10373396d1799882a88016e94ab145d", func := "chainmail/chainmailkeep.ChainStable", spec := "chainStable", unfollowed := true, recurses := true, apart := false, narrowed := true }
def ChainStableUptoSaid : Prop := chainStableUptoRow.holds Try.pinned (OpenSpec.upto chainStableSpec)

/-- 'chainmailkeep.ChainHeals', WHERE WHAT IT READS IS OF BULK AT MOST 1048576: true; the input reads as it did. -/
def chainHealsUptoRow : OpenClaim := { program := "ytnahkpfamocnfaa", sum := "049805c4f03d95e6c2ae54046be1edcac10373396d1799882a88016e94ab145d", func := "chainmail/chainmailkeep.ChainHeals", spec := "chainHeals", unfollowed := true, recurses := true, apart := false, narrowed := true }
def ChainHealsUptoSaid : Prop := chainHealsUptoRow.holds Try.pinned (OpenSpec.upto chainHealsSpec)

end Rows
end Go.Proofs.Ytnahkpfamocnfaa
