/-
  NARROWER THAN 'FOR EVERY INPUT', by the rows' own cells (each row's printed sentence says how): ReplayTwice: laid · ReplayPower: laid · FairPicks: laid · FairDrives: laid · FairRuns: laid.
  DERIVED. THE GIVEN ROWS OF THIS SEAT. 5 by the template 'for every input the law returns true; each argument reads behind the call as it read before'; 0 by the template 'total and deterministic' (their statements: YtmiapbgkphpgoaaGreatDoorTotals.lean).
  GIVEN WITH THE SEED: the statements are not yours to turn. If you find one false, say at which input.
  Laid BY PROGRAM, IN A SANDBOX (cutbox-rows.mjs): the forced cells as the released guide's own fill.sh prints them over the translation 994c42e25a14821f… (all of the seat's roots in one cut). By AI agents, Wed Nov 11 2026. No macro, syntax, notation, axiom, sorry.
-/
import Derived.Test.YtmiapbgkphpgoaaGreatDoorChecked
import GoSem.Claim
import GoSem.ClaimJoined
import GoSem.ClaimMapViews
import Derived.JoinedTies
import Derived.KernelRfl
namespace Go.Proofs.YtmiapbgkphpgoaaGreatDoor
/- THE CELL 'sum', in the pinned program and in every row, IS THE sha256 OF THE DUMP (.gsa) THAT YtmiapbgkphpgoaaGreatDoorProg.lean LOADS. Nothing in Lean hashes anything: it is a label: what it is worth is what the hold of that sum in a sandbox is worth. -/
noncomputable def Tryz.pinned : Pinned := { name := "ytmiapbgkphpgoaagreatdoor", sum := "994c42e25a14821f4978c8878347b6e1749ac98509dc2be4de0c97796015dc17", checked := Tryz.checked }
namespace Rows
def none {H : Type} : Left H := { results := [], args := [] }

/- WHAT THE LISTED PACKAGE-LEVEL VARIABLES READ AS WHEN THE CALL BEGINS. Each datum BY PROGRAM (the guide's laid-datum.mjs) off the statement by which the dump's own 'gosem.cut.vars' lays the variable. In a bare row this is a premise. The card (YtmiapbgkphpgoaaGreatDoorCards.lean) ties it to the program's text. -/
def laid_math_bits_deBruijn64tab {H : Type} : DataW H := .agg [.lit (.int .u8 0), .lit (.int .u8 1), .lit (.int .u8 56), .lit (.int .u8 2), .lit (.int .u8 57), .lit (.int .u8 49), .lit (.int .u8 28), .lit (.int .u8 3), .lit (.int .u8 61), .lit (.int .u8 58), .lit (.int .u8 42), .lit (.int .u8 50), .lit (.int .u8 38), .lit (.int .u8 29), .lit (.int .u8 17), .lit (.int .u8 4), .lit (.int .u8 62), .lit (.int .u8 47), .lit (.int .u8 59), .lit (.int .u8 36), .lit (.int .u8 45), .lit (.int .u8 43), .lit (.int .u8 51), .lit (.int .u8 22), .lit (.int .u8 53), .lit (.int .u8 39), .lit (.int .u8 33), .lit (.int .u8 30), .lit (.int .u8 24), .lit (.int .u8 18), .lit (.int .u8 12), .lit (.int .u8 5), .lit (.int .u8 63), .lit (.int .u8 55), .lit (.int .u8 48), .lit (.int .u8 27), .lit (.int .u8 60), .lit (.int .u8 41), .lit (.int .u8 37), .lit (.int .u8 16), .lit (.int .u8 46), .lit (.int .u8 35), .lit (.int .u8 44), .lit (.int .u8 21), .lit (.int .u8 52), .lit (.int .u8 32), .lit (.int .u8 23), .lit (.int .u8 11), .lit (.int .u8 54), .lit (.int .u8 26), .lit (.int .u8 40), .lit (.int .u8 15), .lit (.int .u8 34), .lit (.int .u8 20), .lit (.int .u8 31), .lit (.int .u8 10), .lit (.int .u8 25), .lit (.int .u8 14), .lit (.int .u8 19), .lit (.int .u8 9), .lit (.int .u8 13), .lit (.int .u8 8), .lit (.int .u8 7), .lit (.int .u8 6)]

/-- 'davitlaw38.ReplayTwice': WHATEVER THE INPUT: true; the input reads as it did. -/
def replayTwiceSpec : ChangeSpec := { name := "replayTwice", fn := fun _ => fun
  | [d1, d2] => { results := [.lit (.bool true)], args := [d1, d2] }
  | _ => none }
def replayTwiceRow : OpenClaim := { program := "ytmiapbgkphpgoaagreatdoor", sum := "994c42e25a14821f4978c8878347b6e1749ac98509dc2be4de0c97796015dc17", func := "davit/davitlaw38.ReplayTwice", spec := "replayTwice", inPlace := ["math/bits.Add64"], unfollowed := true, recurses := true, named := ["math/bits.deBruijn64tab", "math/bits.divideError", "math/bits.overflowError"], apart := false, laid := [("math/bits.deBruijn64tab", laid_math_bits_deBruijn64tab)] }
def ReplayTwiceSaid : Prop := replayTwiceRow.holds Tryz.pinned (OpenSpec.ofChange replayTwiceSpec)

/-- ITS FALSE NEIGHBOUR: 'it returns false'. Refute it at one input. -/
def replayTwiceWrong : ChangeSpec := { name := "replayTwice", fn := fun _ => fun
  | [d1, d2] => { results := [.lit (.bool false)], args := [d1, d2] }
  | _ => none }
def ReplayTwiceWrongFalsely : Prop := replayTwiceRow.holds Tryz.pinned (OpenSpec.ofChange replayTwiceWrong)

/-- 'davitlaw38.ReplayPower': WHATEVER THE INPUT: true; the input reads as it did. -/
def replayPowerSpec : ChangeSpec := { name := "replayPower", fn := fun _ => fun
  | [d1, d2, d3, d4] => { results := [.lit (.bool true)], args := [d1, d2, d3, d4] }
  | _ => none }
def replayPowerRow : OpenClaim := { program := "ytmiapbgkphpgoaagreatdoor", sum := "994c42e25a14821f4978c8878347b6e1749ac98509dc2be4de0c97796015dc17", func := "davit/davitlaw38.ReplayPower", spec := "replayPower", inPlace := ["math/bits.Add64"], unfollowed := true, recurses := true, named := ["math/bits.deBruijn64tab", "math/bits.divideError", "math/bits.overflowError"], apart := false, laid := [("math/bits.deBruijn64tab", laid_math_bits_deBruijn64tab)] }
def ReplayPowerSaid : Prop := replayPowerRow.holds Tryz.pinned (OpenSpec.ofChange replayPowerSpec)

/-- ITS FALSE NEIGHBOUR: 'it returns false'. Refute it at one input. -/
def replayPowerWrong : ChangeSpec := { name := "replayPower", fn := fun _ => fun
  | [d1, d2, d3, d4] => { results := [.lit (.bool false)], args := [d1, d2, d3, d4] }
  | _ => none }
def ReplayPowerWrongFalsely : Prop := replayPowerRow.holds Tryz.pinned (OpenSpec.ofChange replayPowerWrong)

/-- 'davitlaw36.FairPicks': WHATEVER THE INPUT: true; the input reads as it did. -/
def fairPicksSpec : ChangeSpec := { name := "fairPicks", fn := fun _ => fun
  | [d1, d2, d3] => { results := [.lit (.bool true)], args := [d1, d2, d3] }
  | _ => none }
def fairPicksRow : OpenClaim := { program := "ytmiapbgkphpgoaagreatdoor", sum := "994c42e25a14821f4978c8878347b6e1749ac98509dc2be4de0c97796015dc17", func := "davit/davitlaw36.FairPicks", spec := "fairPicks", inPlace := ["math/bits.Add64"], unfollowed := true, recurses := true, named := ["math/bits.deBruijn64tab", "math/bits.divideError", "math/bits.overflowError"], apart := false, laid := [("math/bits.deBruijn64tab", laid_math_bits_deBruijn64tab)] }
def FairPicksSaid : Prop := fairPicksRow.holds Tryz.pinned (OpenSpec.ofChange fairPicksSpec)

/-- ITS FALSE NEIGHBOUR: 'it returns false'. Refute it at one input. -/
def fairPicksWrong : ChangeSpec := { name := "fairPicks", fn := fun _ => fun
  | [d1, d2, d3] => { results := [.lit (.bool false)], args := [d1, d2, d3] }
  | _ => none }
def FairPicksWrongFalsely : Prop := fairPicksRow.holds Tryz.pinned (OpenSpec.ofChange fairPicksWrong)

/-- 'davitlaw36.FairDrives': WHATEVER THE INPUT: true; the input reads as it did. -/
def fairDrivesSpec : ChangeSpec := { name := "fairDrives", fn := fun _ => fun
  | [d1, d2, d3] => { results := [.lit (.bool true)], args := [d1, d2, d3] }
  | _ => none }
def fairDrivesRow : OpenClaim := { program := "ytmiapbgkphpgoaagreatdoor", sum := "994c42e25a14821f4978c8878347b6e1749ac98509dc2be4de0c97796015dc17", func := "davit/davitlaw36.FairDrives", spec := "fairDrives", inPlace := ["math/bits.Add64"], unfollowed := true, recurses := true, named := ["math/bits.deBruijn64tab", "math/bits.divideError", "math/bits.overflowError"], apart := false, laid := [("math/bits.deBruijn64tab", laid_math_bits_deBruijn64tab)] }
def FairDrivesSaid : Prop := fairDrivesRow.holds Tryz.pinned (OpenSpec.ofChange fairDrivesSpec)

/-- ITS FALSE NEIGHBOUR: 'it returns false'. Refute it at one input. -/
def fairDrivesWrong : ChangeSpec := { name := "fairDrives", fn := fun _ => fun
  | [d1, d2, d3] => { results := [.lit (.bool false)], args := [d1, d2, d3] }
  | _ => none }
def FairDrivesWrongFalsely : Prop := fairDrivesRow.holds Tryz.pinned (OpenSpec.ofChange fairDrivesWrong)

/-- 'davitlaw36.FairRuns': WHATEVER THE INPUT: true; the input reads as it did. -/
def fairRunsSpec : ChangeSpec := { name := "fairRuns", fn := fun _ => fun
  | [d1, d2, d3] => { results := [.lit (.bool true)], args := [d1, d2, d3] }
  | _ => none }
def fairRunsRow : OpenClaim := { program := "ytmiapbgkphpgoaagreatdoor", sum := "994c42e25a14821f4978c8878347b6e1749ac98509dc2be4de0c97796015dc17", func := "davit/davitlaw36.FairRuns", spec := "fairRuns", inPlace := ["math/bits.Add64"], unfollowed := true, recurses := true, named := ["math/bits.deBruijn64tab", "math/bits.divideError", "math/bits.overflowError"], apart := false, laid := [("math/bits.deBruijn64tab", laid_math_bits_deBruijn64tab)] }
def FairRunsSaid : Prop := fairRunsRow.holds Tryz.pinned (OpenSpec.ofChange fairRunsSpec)

/-- ITS FALSE NEIGHBOUR: 'it returns false'. Refute it at one input. -/
def fairRunsWrong : ChangeSpec := { name := "fairRuns", fn := fun _ => fun
  | [d1, d2, d3] => { results := [.lit (.bool false)], args := [d1, d2, d3] }
  | _ => none }
def FairRunsWrongFalsely : Prop := fairRunsRow.holds Tryz.pinned (OpenSpec.ofChange fairRunsWrong)

/- THE SECOND FORM. 'bulk': how many values and letters a reading holds, each counted each time it is reached (what is shared counts as often as it is met; a slice's spare places count too). A statement '..UptoSaid' is the law's where the arguments, and the package variables that the reading takes, are together of bulk at most 1048576: NARROWER than '..Said'. Prove '..Said' where nothing that the law and all that it calls make is longer than what came in: it says more and counts as full. Else prove '..UptoSaid'. A law counts once. -/
mutual
def uptoBulk {H : Type} : DataW H → Nat
  | .lit (.string bytes) => bytes.length + 1
  | .lit _ => 1
  | .nil => 1
  | .ptr d => uptoBulk d + 1
  | .slice elems spare => uptoBulkAll elems + uptoBulkAll spare + 1
  | .agg parts => uptoBulkAll parts + 1
  | .iface _ d => uptoBulk d + 1
  | .map entries => uptoBulkEntries entries + 1
  | .held _ => 1
def uptoBulkAll {H : Type} : List (DataW H) → Nat
  | [] => 0
  | d :: r => uptoBulk d + uptoBulkAll r
def uptoBulkEntries {H : Type} : List (Lit × DataW H) → Nat
  | [] => 0
  | x :: r => uptoBulkEntry x + uptoBulkEntries r
def uptoBulkEntry {H : Type} : Lit × DataW H → Nat
  | (.string bytes, d) => bytes.length + uptoBulk d + 1
  | (_, d) => uptoBulk d + 1
 end
def uptoSmall : (H : Type) → List (DataW H) → Bool := fun _ ds => decide (uptoBulkAll ds ≤ 1048576)
def OpenSpec.upto (s : _root_.Go.ChangeSpec) : _root_.Go.OpenSpec := { _root_.Go.OpenSpec.ofChange s with cond := some uptoSmall }

/-- 'davitlaw38.ReplayTwice', WHERE WHAT IT READS IS OF BULK AT MOST 1048576: true; the input reads as it did. -/
def replayTwiceUptoRow : OpenClaim := { program := "ytmiapbgkphpgoaagreatdoor", sum := "994c42e25a14821f4978c8878347b6e1749ac98509dc2be4de0c97796015dc17", func := "davit/davitlaw38.ReplayTwice", spec := "replayTwice", inPlace := ["math/bits.Add64"], unfollowed := true, recurses := true, named := ["math/bits.deBruijn64tab", "math/bits.divideError", "math/bits.overflowError"], apart := false, laid := [("math/bits.deBruijn64tab", laid_math_bits_deBruijn64tab)], narrowed := true }
def ReplayTwiceUptoSaid : Prop := replayTwiceUptoRow.holds Tryz.pinned (OpenSpec.upto replayTwiceSpec)

/-- 'davitlaw38.ReplayPower', WHERE WHAT IT READS IS OF BULK AT MOST 1048576: true; the input reads as it did. -/
def replayPowerUptoRow : OpenClaim := { program := "ytmiapbgkphpgoaagreatdoor", sum := "994c42e25a14821f4978c8878347b6e1749ac98509dc2be4de0c97796015dc17", func := "davit/davitlaw38.ReplayPower", spec := "replayPower", inPlace := ["math/bits.Add64"], unfollowed := true, recurses := true, named := ["math/bits.deBruijn64tab", "math/bits.divideError", "math/bits.overflowError"], apart := false, laid := [("math/bits.deBruijn64tab", laid_math_bits_deBruijn64tab)], narrowed := true }
def ReplayPowerUptoSaid : Prop := replayPowerUptoRow.holds Tryz.pinned (OpenSpec.upto replayPowerSpec)

/-- 'davitlaw36.FairPicks', WHERE WHAT IT READS IS OF BULK AT MOST 1048576: true; the input reads as it did. -/
def fairPicksUptoRow : OpenClaim := { program := "ytmiapbgkphpgoaagreatdoor", sum := "994c42e25a14821f4978c8878347b6e1749ac98509dc2be4de0c97796015dc17", func := "davit/davitlaw36.FairPicks", spec := "fairPicks", inPlace := ["math/bits.Add64"], unfollowed := true, recurses := true, named := ["math/bits.deBruijn64tab", "math/bits.divideError", "math/bits.overflowError"], apart := false, laid := [("math/bits.deBruijn64tab", laid_math_bits_deBruijn64tab)], narrowed := true }
def FairPicksUptoSaid : Prop := fairPicksUptoRow.holds Tryz.pinned (OpenSpec.upto fairPicksSpec)

/-- 'davitlaw36.FairDrives', WHERE WHAT IT READS IS OF BULK AT MOST 1048576: true; the input reads as it did. -/
def fairDrivesUptoRow : OpenClaim := { program := "ytmiapbgkphpgoaagreatdoor", sum := "994c42e25a14821f4978c8878347b6e1749ac98509dc2be4de0c97796015dc17", func := "davit/davitlaw36.FairDrives", spec := "fairDrives", inPlace := ["math/bits.Add64"], unfollowed := true, recurses := true, named := ["math/bits.deBruijn64tab", "math/bits.divideError", "math/bits.overflowError"], apart := false, laid := [("math/bits.deBruijn64tab", laid_math_bits_deBruijn64tab)], narrowed := true }
def FairDrivesUptoSaid : Prop := fairDrivesUptoRow.holds Tryz.pinned (OpenSpec.upto fairDrivesSpec)

/-- 'davitlaw36.FairRuns', WHERE WHAT IT READS IS OF BULK AT MOST 1048576: true; the input reads as it did. -/
def fairRunsUptoRow : OpenClaim := { program := "ytmiapbgkphpgoaagreatdoor", sum := "994c42e25a14821f4978c8878347b6e1749ac98509dc2be4de0c97796015dc17", func := "davit/davitlaw36.FairRuns", spec := "fairRuns", inPlace := ["math/bits.Add64"], unfollowed := true, recurses := true, named := ["math/bits.deBruijn64tab", "math/bits.divideError", "math/bits.overflowError"], apart := false, laid := [("math/bits.deBruijn64tab", laid_math_bits_deBruijn64tab)], narrowed := true }
def FairRunsUptoSaid : Prop := fairRunsUptoRow.holds Tryz.pinned (OpenSpec.upto fairRunsSpec)

end Rows
end Go.Proofs.YtmiapbgkphpgoaaGreatDoor
