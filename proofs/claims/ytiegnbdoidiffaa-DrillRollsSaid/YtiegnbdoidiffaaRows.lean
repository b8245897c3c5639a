/-
  No cell of these rows narrows 'for every input' (looked for: loops, veiled, ifaces, maps, wideKeys, modest, calm, conditions, laid).
  DERIVED. THE GIVEN ROWS OF THIS SEAT. 10 by the template 'for every input the law returns true; each argument reads behind the call as it read before'; 0 by the template 'total and deterministic' (their statements: YtiegnbdoidiffaaTotals.lean).
  GIVEN WITH THE SEED: the statements are not yours to turn. If you find one false, say at which input.
  Laid BY PROGRAM, IN A SANDBOX (cutbox-rows.mjs): the forced cells as the released guide's own fill.sh prints them over the translation 506d59ce30a62e16… (all of the seat's roots in one cut). By AI agents, Wed Nov 11 2026. No macro, syntax, notation, axiom, sorry.
-/
import Derived.Test.YtiegnbdoidiffaaChecked
import GoSem.Claim
import GoSem.ClaimJoined
import GoSem.ClaimMapViews
import Derived.JoinedTies
import Derived.KernelRfl
namespace Go.Proofs.Ytiegnbdoidiffaa
/- THE CELL 'sum', in the pinned program and in every row, IS THE sha256 OF THE DUMP (.gsa) THAT YtiegnbdoidiffaaProg.lean LOADS. Nothing in Lean hashes anything: it is a label: what it is worth is what the hold of that sum in a sandbox is worth. -/
noncomputable def Try.pinned : Pinned := { name := "ytiegnbdoidiffaa", sum := "506d59ce30a62e165c2fbf34f3c36984ae5b1dfbe8dd30613b8767682273692a", checked := Try.checked }
namespace Rows
def none {H : Type} : Left H := { results := [], args := [] }

/-- 'davitlaw21.StagePlays': WHATEVER THE INPUT: true; the input reads as it did. -/
def stagePlaysSpec : ChangeSpec := { name := "stagePlays", fn := fun _ => fun
  | [d1, d2] => { results := [.lit (.bool true)], args := [d1, d2] }
  | _ => none }
def stagePlaysRow : OpenClaim := { program := "ytiegnbdoidiffaa", sum := "506d59ce30a62e165c2fbf34f3c36984ae5b1dfbe8dd30613b8767682273692a", func := "davit/davitlaw21.StagePlays", spec := "stagePlays", apart := false }
def StagePlaysSaid : Prop := stagePlaysRow.holds Try.pinned (OpenSpec.ofChange stagePlaysSpec)

/-- ITS FALSE NEIGHBOUR: 'it returns false'. Refute it at one input. -/
def stagePlaysWrong : ChangeSpec := { name := "stagePlays", fn := fun _ => fun
  | [d1, d2] => { results := [.lit (.bool false)], args := [d1, d2] }
  | _ => none }
def StagePlaysWrongFalsely : Prop := stagePlaysRow.holds Try.pinned (OpenSpec.ofChange stagePlaysWrong)

/-- 'davitlaw21.StageUndoes': WHATEVER THE INPUT: true; the input reads as it did. -/
def stageUndoesSpec : ChangeSpec := { name := "stageUndoes", fn := fun _ => fun
  | [d1, d2] => { results := [.lit (.bool true)], args := [d1, d2] }
  | _ => none }
def stageUndoesRow : OpenClaim := { program := "ytiegnbdoidiffaa", sum := "506d59ce30a62e165c2fbf34f3c36984ae5b1dfbe8dd30613b8767682273692a", func := "davit/davitlaw21.StageUndoes", spec := "stageUndoes", apart := false }
def StageUndoesSaid : Prop := stageUndoesRow.holds Try.pinned (OpenSpec.ofChange stageUndoesSpec)

/-- ITS FALSE NEIGHBOUR: 'it returns false'. Refute it at one input. -/
def stageUndoesWrong : ChangeSpec := { name := "stageUndoes", fn := fun _ => fun
  | [d1, d2] => { results := [.lit (.bool false)], args := [d1, d2] }
  | _ => none }
def StageUndoesWrongFalsely : Prop := stageUndoesRow.holds Try.pinned (OpenSpec.ofChange stageUndoesWrong)

/-- 'davitlaw21.StageNil': WHATEVER THE INPUT: true; the input reads as it did. -/
def stageNilSpec : ChangeSpec := { name := "stageNil", fn := fun _ => fun
  | [d] => { results := [.lit (.bool true)], args := [d] }
  | _ => none }
def stageNilRow : OpenClaim := { program := "ytiegnbdoidiffaa", sum := "506d59ce30a62e165c2fbf34f3c36984ae5b1dfbe8dd30613b8767682273692a", func := "davit/davitlaw21.StageNil", spec := "stageNil", apart := false }
def StageNilSaid : Prop := stageNilRow.holds Try.pinned (OpenSpec.ofChange stageNilSpec)

/-- ITS FALSE NEIGHBOUR: 'it returns false'. Refute it at one input. -/
def stageNilWrong : ChangeSpec := { name := "stageNil", fn := fun _ => fun
  | [d] => { results := [.lit (.bool false)], args := [d] }
  | _ => none }
def StageNilWrongFalsely : Prop := stageNilRow.holds Try.pinned (OpenSpec.ofChange stageNilWrong)

/-- 'davitlaw37.DrillRolls': WHATEVER THE INPUT: true; the input reads as it did. -/
def drillRollsSpec : ChangeSpec := { name := "drillRolls", fn := fun _ => fun
  | [d1, d2] => { results := [.lit (.bool true)], args := [d1, d2] }
  | _ => none }
def drillRollsRow : OpenClaim := { program := "ytiegnbdoidiffaa", sum := "506d59ce30a62e165c2fbf34f3c36984ae5b1dfbe8dd30613b8767682273692a", func := "davit/davitlaw37.DrillRolls", spec := "drillRolls", unfollowed := true, recurses := true, apart := false }
def DrillRollsSaid : Prop := drillRollsRow.holds Try.pinned (OpenSpec.ofChange drillRollsSpec)

/-- ITS FALSE NEIGHBOUR: 'it returns false'. Refute it at one input. -/
def drillRollsWrong : ChangeSpec := { name := "drillRolls", fn := fun _ => fun
  | [d1, d2] => { results := [.lit (.bool false)], args := [d1, d2] }
  | _ => none }
def DrillRollsWrongFalsely : Prop := drillRollsRow.holds Try.pinned (OpenSpec.ofChange drillRollsWrong)

/-- 'davitlaw37.DrillEvents': WHATEVER THE INPUT: true; the input reads as it did. -/
def drillEventsSpec : ChangeSpec := { name := "drillEvents", fn := fun _ => fun
  | [d1, d2, d3] => { results := [.lit (.bool true)], args := [d1, d2, d3] }
  | _ => none }
def drillEventsRow : OpenClaim := { program := "ytiegnbdoidiffaa", sum := "506d59ce30a62e165c2fbf34f3c36984ae5b1dfbe8dd30613b8767682273692a", func := "davit/davitlaw37.DrillEvents", spec := "drillEvents", unfollowed := true, recurses := true, apart := false }
def DrillEventsSaid : Prop := drillEventsRow.holds Try.pinned (OpenSpec.ofChange drillEventsSpec)

/-- ITS FALSE NEIGHBOUR: 'it returns false'. Refute it at one input. -/
def drillEventsWrong : ChangeSpec := { name := "drillEvents", fn := fun _ => fun
  | [d1, d2, d3] => { results := [.lit (.bool false)], args := [d1, d2, d3] }
  | _ => none }
def DrillEventsWrongFalsely : Prop := drillEventsRow.holds Try.pinned (OpenSpec.ofChange drillEventsWrong)

/-- 'davitlaw37.DrillFirst': WHATEVER THE INPUT: true; the input reads as it did. -/
def drillFirstSpec : ChangeSpec := { name := "drillFirst", fn := fun _ => fun
  | [d1, d2, d3, d4] => { results := [.lit (.bool true)], args := [d1, d2, d3, d4] }
  | _ => none }
def drillFirstRow : OpenClaim := { program := "ytiegnbdoidiffaa", sum := "506d59ce30a62e165c2fbf34f3c36984ae5b1dfbe8dd30613b8767682273692a", func := "davit/davitlaw37.DrillFirst", spec := "drillFirst", unfollowed := true, recurses := true, apart := false }
def DrillFirstSaid : Prop := drillFirstRow.holds Try.pinned (OpenSpec.ofChange drillFirstSpec)

/-- ITS FALSE NEIGHBOUR: 'it returns false'. Refute it at one input. -/
def drillFirstWrong : ChangeSpec := { name := "drillFirst", fn := fun _ => fun
  | [d1, d2, d3, d4] => { results := [.lit (.bool false)], args := [d1, d2, d3, d4] }
  | _ => none }
def DrillFirstWrongFalsely : Prop := drillFirstRow.holds Try.pinned (OpenSpec.ofChange drillFirstWrong)

/-- 'davitlaw37.DrillNil': WHATEVER THE INPUT: true; the input reads as it did. -/
def drillNilSpec : ChangeSpec := { name := "drillNil", fn := fun _ => fun
  | [d1, d2] => { results := [.lit (.bool true)], args := [d1, d2] }
  | _ => none }
def drillNilRow : OpenClaim := { program := "ytiegnbdoidiffaa", sum := "506d59ce30a62e165c2fbf34f3c36984ae5b1dfbe8dd30613b8767682273692a", func := "davit/davitlaw37.DrillNil", spec := "drillNil", unfollowed := true, recurses := true, apart := false }
def DrillNilSaid : Prop := drillNilRow.holds Try.pinned (OpenSpec.ofChange drillNilSpec)

/-- ITS FALSE NEIGHBOUR: 'it returns false'. Refute it at one input. -/
def drillNilWrong : ChangeSpec := { name := "drillNil", fn := fun _ => fun
  | [d1, d2] => { results := [.lit (.bool false)], args := [d1, d2] }
  | _ => none }
def DrillNilWrongFalsely : Prop := drillNilRow.holds Try.pinned (OpenSpec.ofChange drillNilWrong)

/-- 'davitlaw06.SplitFolds': WHATEVER THE INPUT: true; the input reads as it did. -/
def splitFoldsSpec : ChangeSpec := { name := "splitFolds", fn := fun _ => fun
  | [d1, d2] => { results := [.lit (.bool true)], args := [d1, d2] }
  | _ => none }
def splitFoldsRow : OpenClaim := { program := "ytiegnbdoidiffaa", sum := "506d59ce30a62e165c2fbf34f3c36984ae5b1dfbe8dd30613b8767682273692a", func := "davit/davitlaw06.SplitFolds", spec := "splitFolds", inPlace := ["math/bits.Add64"], apart := false }
def SplitFoldsSaid : Prop := splitFoldsRow.holds Try.pinned (OpenSpec.ofChange splitFoldsSpec)

/-- ITS FALSE NEIGHBOUR: 'it returns false'. Refute it at one input. -/
def splitFoldsWrong : ChangeSpec := { name := "splitFolds", fn := fun _ => fun
  | [d1, d2] => { results := [.lit (.bool false)], args := [d1, d2] }
  | _ => none }
def SplitFoldsWrongFalsely : Prop := splitFoldsRow.holds Try.pinned (OpenSpec.ofChange splitFoldsWrong)

/-- 'davitlaw06.SplitPlays': WHATEVER THE INPUT: true; the input reads as it did. -/
def splitPlaysSpec : ChangeSpec := { name := "splitPlays", fn := fun _ => fun
  | [d1, d2] => { results := [.lit (.bool true)], args := [d1, d2] }
  | _ => none }
def splitPlaysRow : OpenClaim := { program := "ytiegnbdoidiffaa", sum := "506d59ce30a62e165c2fbf34f3c36984ae5b1dfbe8dd30613b8767682273692a", func := "davit/davitlaw06.SplitPlays", spec := "splitPlays", inPlace := ["math/bits.Add64"], apart := false }
def SplitPlaysSaid : Prop := splitPlaysRow.holds Try.pinned (OpenSpec.ofChange splitPlaysSpec)

/-- ITS FALSE NEIGHBOUR: 'it returns false'. Refute it at one input. -/
def splitPlaysWrong : ChangeSpec := { name := "splitPlays", fn := fun _ => fun
  | [d1, d2] => { results := [.lit (.bool false)], args := [d1, d2] }
  | _ => none }
def SplitPlaysWrongFalsely : Prop := splitPlaysRow.holds Try.pinned (OpenSpec.ofChange splitPlaysWrong)

/-- 'davitlaw06.SplitNil': WHATEVER THE INPUT: true; the input reads as it did. -/
def splitNilSpec : ChangeSpec := { name := "splitNil", fn := fun _ => fun
  | [d1, d2] => { results := [.lit (.bool true)], args := [d1, d2] }
  | _ => none }
def splitNilRow : OpenClaim := { program := "ytiegnbdoidiffaa", sum := "506d59ce30a62e165c2fbf34f3c36984ae5b1dfbe8dd30613b8767682273692a", func := "davit/davitlaw06.SplitNil", spec := "splitNil", inPlace := ["math/bits.Add64"], apart := false }
def SplitNilSaid : Prop := splitNilRow.holds Try.pinned (OpenSpec.ofChange splitNilSpec)

/-- ITS FALSE NEIGHBOUR: 'it returns false'. Refute it at one input. -/
def splitNilWrong : ChangeSpec := { name := "splitNil", fn := fun _ => fun
  | [d1, d2] => { results := [.lit (.bool false)], args := [d1, d2] }
  | _ => none }
def SplitNilWrongFalsely : Prop := splitNilRow.holds Try.pinned (OpenSpec.ofChange splitNilWrong)

/- THE SECOND FORM. 'bulk': how many values and letters a reading holds, each counted each time it is reached (what is shared counts as often as it is met; a slice's spare places count too). A statement '..UptoSaid' is the law's where the arguments, and the package variables that the reading takes, are together of bulk at most 1048576: NARROWER than '..Said'. Prove '..Said' where nothing that the law and all that it calls make is longer than what came in: it says more and counts as full. Else prove '..UptoSaid'. A law counts once. -/
mutual
def uptoBulk {H : Type} : DataW H → Nat
  | .lit (.string bytes) => bytes.length + 1
  | .lit _ => 1
  | .nil => 1
  | .ptr d => uptoBulk d + 1
  | .slice elems spare => uptoBulkAll elems + uptoBulkAll spare + 1
  | .agg parts => uptoBulkAll parts + 1
  | .iface _ d => uptoBulk d + 1
  | .map entries => uptoBulkEntries entries + 1
  | .held _ => 1
def uptoBulkAll {H : Type} : List (DataW H) → Nat
  | [] => 0
  | d :: r => uptoBulk d + uptoBulkAll r
def uptoBulkEntries {H : Type} : List (Lit × DataW H) → Nat
  | [] => 0
  | x :: r => uptoBulkEntry x + uptoBulkEntries r
def uptoBulkEntry {H : Type} : Lit × DataW H → Nat
  | (.string bytes, d) => bytes.length + uptoBulk d + 1
  | (_, d) => uptoBulk d + 1
 end
def uptoSmall : (H : Type) → List (DataW H) → Bool := fun _ ds => decide (uptoBulkAll ds ≤ 1048576)
def OpenSpec.upto (s : _root_.Go.ChangeSpec) : _root_.Go.OpenSpec := { _root_.Go.OpenSpec.ofChange s with cond := some uptoSmall }

/-- 'davitlaw21.StagePlays', WHERE WHAT IT READS IS OF BULK AT MOST 1048576: true; the input reads as it did. -/
def stagePlaysUptoRow : OpenClaim := { program := "ytiegnbdoidiffaa", sum := "506d59ce30a62e165c2fbf34f3c36984ae5b1dfbe8dd30613b8767682273692a", func := "davit/davitlaw21.StagePlays", spec := "stagePlays", apart := false, narrowed := true }
def StagePlaysUptoSaid : Prop := stagePlaysUptoRow.holds Try.pinned (OpenSpec.upto stagePlaysSpec)

/-- 'davitlaw21.StageUndoes', WHERE WHAT IT READS IS OF BULK AT MOST 1048576: true; the input reads as it did. -/
def stageUndoesUptoRow : OpenClaim := { program := "ytiegnbdoidiffaa", sum := "506d59ce30a62e165c2fbf34f3c36984ae5b1dfbe8dd30613b8767682273692a", func := "davit/davitlaw21.StageUndoes", spec := "stageUndoes", apart := false, narrowed := true }
def StageUndoesUptoSaid : Prop := stageUndoesUptoRow.holds Try.pinned (OpenSpec.upto stageUndoesSpec)

/-- 'davitlaw21.StageNil', WHERE WHAT IT READS IS OF BULK AT MOST 1048576: true; the input reads as it did. -/
def stageNilUptoRow : OpenClaim := { program := "ytiegnbdoidiffaa", sum := "506d59ce30a62e165c2fbf34f3c36984ae5b1dfbe8dd30613b8767682273692a", func := "davit/davitlaw21.StageNil", spec := "stageNil", apart := false, narrowed := true }
def StageNilUptoSaid : Prop := stageNilUptoRow.holds Try.pinned (OpenSpec.upto stageNilSpec)

/-- 'davitlaw37.DrillRolls', WHERE WHAT IT READS IS OF BULK AT MOST 1048576: true; the input reads as it did. -/
def drillRollsUptoRow : OpenClaim := { program := "ytiegnbdoidiffaa", sum := "506d59ce30a62e165c2fbf34f3c36984ae5b1dfbe8dd30613b8767682273692a", func := "davit/davitlaw37.DrillRolls", spec := "drillRolls", unfollowed := true, recurses := true, apart := false, narrowed := true }
def DrillRollsUptoSaid : Prop := drillRollsUptoRow.holds Try.pinned (OpenSpec.upto drillRollsSpec)

/-- 'davitlaw37.DrillEvents', WHERE WHAT IT READS IS OF BULK AT MOST 1048576: true; the input reads as it did. -/
def drillEventsUptoRow : OpenClaim := { program := "ytiegnbdoidiffaa", sum := "506d59ce30a62e165c2fbf34f3c36984ae5b1dfbe8dd30613b8767682273692a", func := "davit/davitlaw37.DrillEvents", spec := "drillEvents", unfollowed := true, recurses := true, apart := false, narrowed := true }
def DrillEventsUptoSaid : Prop := drillEventsUptoRow.holds Try.pinned (OpenSpec.upto drillEventsSpec)

/-- 'davitlaw37.DrillFirst', WHERE WHAT IT READS IS OF BULK AT MOST 1048576: true; the input reads as it did. -/
def drillFirstUptoRow : OpenClaim := { program := "ytiegnbdoidiffaa", sum := "506d59ce30a62e165c2fbf34f3c36984ae5b1dfbe8dd30613b8767682273692a", func := "davit/davitlaw37.DrillFirst", spec := "drillFirst", unfollowed := true, recurses := true, apart := false, narrowed := true }
def DrillFirstUptoSaid : Prop := drillFirstUptoRow.holds Try.pinned (OpenSpec.upto drillFirstSpec)

/-- 'davitlaw37.DrillNil', WHERE WHAT IT READS IS OF BULK AT MOST 1048576: true; the input reads as it did. -/
def drillNilUptoRow : OpenClaim := { program := "ytiegnbdoidiffaa", sum := "506d59ce30a62e165c2fbf34f3c36984ae5b1dfbe8dd30613b8767682273692a", func := "davit/davitlaw37.DrillNil", spec := "drillNil", unfollowed := true, recurses := true, apart := false, narrowed := true }
def DrillNilUptoSaid : Prop := drillNilUptoRow.holds Try.pinned (OpenSpec.upto drillNilSpec)

/-- 'davitlaw06.SplitFolds', WHERE WHAT IT READS IS OF BULK AT MOST 1048576: true; the input reads as it did. -/
def splitFoldsUptoRow : OpenClaim := { program := "ytiegnbdoidiffaa", sum := "506d59ce30a62e165c2fbf34f3c36984ae5b1dfbe8dd30613b8767682273692a", func := "davit/davitlaw06.SplitFolds", spec := "splitFolds", inPlace := ["math/bits.Add64"], apart := false, narrowed := true }
def SplitFoldsUptoSaid : Prop := splitFoldsUptoRow.holds Try.pinned (OpenSpec.upto splitFoldsSpec)

/-- 'davitlaw06.SplitPlays', WHERE WHAT IT READS IS OF BULK AT MOST 1048576: true; the input reads as it did. -/
def splitPlaysUptoRow : OpenClaim := { program := "ytiegnbdoidiffaa", sum := "506d59ce30a62e165c2fbf34f3c36984ae5b1dfbe8dd30613b8767682273692a", func := "davit/davitlaw06.SplitPlays", spec := "splitPlays", inPlace := ["math/bits.Add64"], apart := false, narrowed := true }
def SplitPlaysUptoSaid : Prop := splitPlaysUptoRow.holds Try.pinned (OpenSpec.upto splitPlaysSpec)

/-- 'davitlaw06.SplitNil', WHERE WHAT IT READS IS OF BULK AT MOST 1048576: true; the input reads as it did. -/
def splitNilUptoRow : OpenClaim := { program := "ytiegnbdoidiffaa", sum := "506d59ce30a62e165c2fbf34f3c36984ae5b1dfbe8dd30613b8767682273692a", func := "davit/davitlaw06.SplitNil", spec := "splitNil", inPlace := ["math/bits.Add64"], apart := false, narrowed := true }
def SplitNilUptoSaid : Prop := splitNilUptoRow.holds Try.pinned (OpenSpec.upto splitNilSpec)

end Rows
end Go.Proofs.Ytiegnbdoidiffaa
