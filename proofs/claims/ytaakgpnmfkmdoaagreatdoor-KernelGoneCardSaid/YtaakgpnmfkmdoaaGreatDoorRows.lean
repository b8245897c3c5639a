/-
  NARROWER THAN 'FOR EVERY INPUT', by the rows' own cells (each row's printed sentence says how): KernelActive: laid · KernelHot: laid · KernelCounts: laid · KernelGone: laid · KernelNil: laid.
  DERIVED. THE GIVEN ROWS OF THIS SEAT. 5 by the template 'for every input the law returns true; each argument reads behind the call as it read before'; 0 by the template 'total and deterministic' (their statements: YtaakgpnmfkmdoaaGreatDoorTotals.lean).
  GIVEN WITH THE SEED: the statements are not yours to turn. If you find one false, say at which input.
  Laid BY PROGRAM, IN A SANDBOX (cutbox-rows.mjs): the forced cells as the released guide's own fill.sh prints them over the translation 11802317724982ae… (all of the seat's roots in one cut). By AI agents, Wed Nov 11 2026. No macro, syntax, notation, axiom, sorry.
-/
import Derived.Test.YtaakgpnmfkmdoaaGreatDoorChecked
import GoSem.Claim
import GoSem.ClaimJoined
import GoSem.ClaimMapViews
import Derived.JoinedTies
import Derived.KernelRfl
namespace Go.Proofs.YtaakgpnmfkmdoaaGreatDoor
/- THE CELL 'sum', in the pinned program and in every row, IS THE sha256 OF THE DUMP (.gsa) THAT YtaakgpnmfkmdoaaGreatDoorProg.lean LOADS. Nothing in Lean hashes anything: it is a label: what it is worth is what the hold of that sum in a sandbox is worth. -/
noncomputable def Tryz.pinned : Pinned := { name := "ytaakgpnmfkmdoaagreatdoor", sum := "11802317724982ae9271f4271c152efb20c6b799e850d41a595c6d59cb6ab233", checked := Tryz.checked }
namespace Rows
def none {H : Type} : Left H := { results := [], args := [] }

/- WHAT THE LISTED PACKAGE-LEVEL VARIABLES READ AS WHEN THE CALL BEGINS. Each datum BY PROGRAM (the guide's laid-datum.mjs) off the statement by which the dump's own 'gosem.cut.vars' lays the variable. In a bare row this is a premise. The card (YtaakgpnmfkmdoaaGreatDoorCards.lean) ties it to the program's text. -/
def laid_math_bits_deBruijn64tab {H : Type} : DataW H := .agg [.lit (.int .u8 0), .lit (.int .u8 1), .lit (.int .u8 56), .lit (.int .u8 2), .lit (.int .u8 57), .lit (.int .u8 49), .lit (.int .u8 28), .lit (.int .u8 3), .lit (.int .u8 61), .lit (.int .u8 58), .lit (.int .u8 42), .lit (.int .u8 50), .lit (.int .u8 38), .lit (.int .u8 29), .lit (.int .u8 17), .lit (.int .u8 4), .lit (.int .u8 62), .lit (.int .u8 47), .lit (.int .u8 59), .lit (.int .u8 36), .lit (.int .u8 45), .lit (.int .u8 43), .lit (.int .u8 51), .lit (.int .u8 22), .lit (.int .u8 53), .lit (.int .u8 39), .lit (.int .u8 33), .lit (.int .u8 30), .lit (.int .u8 24), .lit (.int .u8 18), .lit (.int .u8 12), .lit (.int .u8 5), .lit (.int .u8 63), .lit (.int .u8 55), .lit (.int .u8 48), .lit (.int .u8 27), .lit (.int .u8 60), .lit (.int .u8 41), .lit (.int .u8 37), .lit (.int .u8 16), .lit (.int .u8 46), .lit (.int .u8 35), .lit (.int .u8 44), .lit (.int .u8 21), .lit (.int .u8 52), .lit (.int .u8 32), .lit (.int .u8 23), .lit (.int .u8 11), .lit (.int .u8 54), .lit (.int .u8 26), .lit (.int .u8 40), .lit (.int .u8 15), .lit (.int .u8 34), .lit (.int .u8 20), .lit (.int .u8 31), .lit (.int .u8 10), .lit (.int .u8 25), .lit (.int .u8 14), .lit (.int .u8 19), .lit (.int .u8 9), .lit (.int .u8 13), .lit (.int .u8 8), .lit (.int .u8 7), .lit (.int .u8 6)]

/-- 'davitlaw28.KernelActive': WHATEVER THE INPUT: true; the input reads as it did. -/
def kernelActiveSpec : ChangeSpec := { name := "kernelActive", fn := fun _ => fun
  | [d1, d2] => { results := [.lit (.bool true)], args := [d1, d2] }
  | _ => none }
def kernelActiveRow : OpenClaim := { program := "ytaakgpnmfkmdoaagreatdoor", sum := "11802317724982ae9271f4271c152efb20c6b799e850d41a595c6d59cb6ab233", func := "davit/davitlaw28.KernelActive", spec := "kernelActive", inPlace := ["math/bits.Add64"], unfollowed := true, recurses := true, named := ["math/bits.deBruijn64tab", "math/bits.divideError", "math/bits.overflowError"], apart := false, laid := [("math/bits.deBruijn64tab", laid_math_bits_deBruijn64tab)] }
def KernelActiveSaid : Prop := kernelActiveRow.holds Tryz.pinned (OpenSpec.ofChange kernelActiveSpec)

/-- ITS FALSE NEIGHBOUR: 'it returns false'. Refute it at one input. -/
def kernelActiveWrong : ChangeSpec := { name := "kernelActive", fn := fun _ => fun
  | [d1, d2] => { results := [.lit (.bool false)], args := [d1, d2] }
  | _ => none }
def KernelActiveWrongFalsely : Prop := kernelActiveRow.holds Tryz.pinned (OpenSpec.ofChange kernelActiveWrong)

/-- 'davitlaw28.KernelHot': WHATEVER THE INPUT: true; the input reads as it did. -/
def kernelHotSpec : ChangeSpec := { name := "kernelHot", fn := fun _ => fun
  | [d1, d2] => { results := [.lit (.bool true)], args := [d1, d2] }
  | _ => none }
def kernelHotRow : OpenClaim := { program := "ytaakgpnmfkmdoaagreatdoor", sum := "11802317724982ae9271f4271c152efb20c6b799e850d41a595c6d59cb6ab233", func := "davit/davitlaw28.KernelHot", spec := "kernelHot", inPlace := ["math/bits.Add64"], unfollowed := true, recurses := true, named := ["math/bits.deBruijn64tab", "math/bits.divideError", "math/bits.overflowError"], apart := false, laid := [("math/bits.deBruijn64tab", laid_math_bits_deBruijn64tab)] }
def KernelHotSaid : Prop := kernelHotRow.holds Tryz.pinned (OpenSpec.ofChange kernelHotSpec)

/-- ITS FALSE NEIGHBOUR: 'it returns false'. Refute it at one input. -/
def kernelHotWrong : ChangeSpec := { name := "kernelHot", fn := fun _ => fun
  | [d1, d2] => { results := [.lit (.bool false)], args := [d1, d2] }
  | _ => none }
def KernelHotWrongFalsely : Prop := kernelHotRow.holds Tryz.pinned (OpenSpec.ofChange kernelHotWrong)

/-- 'davitlaw28.KernelCounts': WHATEVER THE INPUT: true; the input reads as it did. -/
def kernelCountsSpec : ChangeSpec := { name := "kernelCounts", fn := fun _ => fun
  | [d1, d2] => { results := [.lit (.bool true)], args := [d1, d2] }
  | _ => none }
def kernelCountsRow : OpenClaim := { program := "ytaakgpnmfkmdoaagreatdoor", sum := "11802317724982ae9271f4271c152efb20c6b799e850d41a595c6d59cb6ab233", func := "davit/davitlaw28.KernelCounts", spec := "kernelCounts", inPlace := ["math/bits.Add64"], unfollowed := true, recurses := true, named := ["math/bits.deBruijn64tab", "math/bits.divideError", "math/bits.overflowError"], apart := false, laid := [("math/bits.deBruijn64tab", laid_math_bits_deBruijn64tab)] }
def KernelCountsSaid : Prop := kernelCountsRow.holds Tryz.pinned (OpenSpec.ofChange kernelCountsSpec)

/-- ITS FALSE NEIGHBOUR: 'it returns false'. Refute it at one input. -/
def kernelCountsWrong : ChangeSpec := { name := "kernelCounts", fn := fun _ => fun
  | [d1, d2] => { results := [.lit (.bool false)], args := [d1, d2] }
  | _ => none }
def KernelCountsWrongFalsely : Prop := kernelCountsRow.holds Tryz.pinned (OpenSpec.ofChange kernelCountsWrong)

/-- 'davitlaw28.KernelGone': WHATEVER THE INPUT: true; the input reads as it did. -/
def kernelGoneSpec : ChangeSpec := { name := "kernelGone", fn := fun _ => fun
  | [d1, d2] => { results := [.lit (.bool true)], args := [d1, d2] }
  | _ => none }
def kernelGoneRow : OpenClaim := { program := "ytaakgpnmfkmdoaagreatdoor", sum := "11802317724982ae9271f4271c152efb20c6b799e850d41a595c6d59cb6ab233", func := "davit/davitlaw28.KernelGone", spec := "kernelGone", inPlace := ["math/bits.Add64"], unfollowed := true, recurses := true, named := ["math/bits.deBruijn64tab", "math/bits.divideError", "math/bits.overflowError"], apart := false, laid := [("math/bits.deBruijn64tab", laid_math_bits_deBruijn64tab)] }
def KernelGoneSaid : Prop := kernelGoneRow.holds Tryz.pinned (OpenSpec.ofChange kernelGoneSpec)

/-- ITS FALSE NEIGHBOUR: 'it returns false'. Refute it at one input. -/
def kernelGoneWrong : ChangeSpec := { name := "kernelGone", fn := fun _ => fun
  | [d1, d2] => { results := [.lit (.bool false)], args := [d1, d2] }
  | _ => none }
def KernelGoneWrongFalsely : Prop := kernelGoneRow.holds Tryz.pinned (OpenSpec.ofChange kernelGoneWrong)

/-- 'davitlaw28.KernelNil': WHATEVER THE INPUT: true; the input reads as it did. -/
def kernelNilSpec : ChangeSpec := { name := "kernelNil", fn := fun _ => fun
  | [d] => { results := [.lit (.bool true)], args := [d] }
  | _ => none }
def kernelNilRow : OpenClaim := { program := "ytaakgpnmfkmdoaagreatdoor", sum := "11802317724982ae9271f4271c152efb20c6b799e850d41a595c6d59cb6ab233", func := "davit/davitlaw28.KernelNil", spec := "kernelNil", inPlace := ["math/bits.Add64"], unfollowed := true, recurses := true, named := ["math/bits.deBruijn64tab", "math/bits.divideError", "math/bits.overflowError"], apart := false, laid := [("math/bits.deBruijn64tab", laid_math_bits_deBruijn64tab)] }
def KernelNilSaid : Prop := kernelNilRow.holds Tryz.pinned (OpenSpec.ofChange kernelNilSpec)

/-- ITS FALSE NEIGHBOUR: 'it returns false'. Refute it at one input. -/
def kernelNilWrong : ChangeSpec := { name := "kernelNil", fn := fun _ => fun
  | [d] => { results := [.lit (.bool false)], args := [d] }
  | _ => none }
def KernelNilWrongFalsely : Prop := kernelNilRow.holds Tryz.pinned (OpenSpec.ofChange kernelNilWrong)

/- THE SECOND FORM. 'bulk': how many values and letters a reading holds, each counted each time it is reached (what is shared counts as often as it is met; a slice's spare places count too). A statement '..UptoSaid' is the law's where the arguments, and the package variables that the reading takes, are together of bulk at most 1048576: NARROWER than '..Said'. Prove '..Said' where nothing that the law and all that it calls make is longer than what came in: it says more and counts as full. Else prove '..UptoSaid'. A law counts once. -/
mutual
def uptoBulk {H : Type} : DataW H → Nat
  | .lit (.string bytes) => bytes.length + 1
  | .lit _ => 1
  | .nil => 1
  | .ptr d => uptoBulk d + 1
  | .slice elems spare => uptoBulkAll elems + uptoBulkAll spare + 1
  | .agg parts => uptoBulkAll parts + 1
  | .iface _ d => uptoBulk d + 1
  | .map entries => uptoBulkEntries entries + 1
  | .held _ => 1
def uptoBulkAll {H : Type} : List (DataW H) → Nat
  | [] => 0
  | d :: r => uptoBulk d + uptoBulkAll r
def uptoBulkEntries {H : Type} : List (Lit × DataW H) → Nat
  | [] => 0
  | x :: r => uptoBulkEntry x + uptoBulkEntries r
def uptoBulkEntry {H : Type} : Lit × DataW H → Nat
  | (.string bytes, d) => bytes.length + uptoBulk d + 1
  | (_, d) => uptoBulk d + 1
 end
def uptoSmall : (H : Type) → List (DataW H) → Bool := fun _ ds => decide (uptoBulkAll ds ≤ 1048576)
def OpenSpec.upto (s : _root_.Go.ChangeSpec) : _root_.Go.OpenSpec := { _root_.Go.OpenSpec.ofChange s with cond := some uptoSmall }

/-- 'davitlaw28.KernelActive', WHERE WHAT IT READS IS OF BULK AT MOST 1048576: true; the input reads as it did. -/
def kernelActiveUptoRow : OpenClaim := { program := "ytaakgpnmfkmdoaagreatdoor", sum := "11802317724982ae9271f4271c152efb20c6b799e850d41a595c6d59cb6ab233", func := "davit/davitlaw28.KernelActive", spec := "kernelActive", inPlace := ["math/bits.Add64"], unfollowed := true, recurses := true, named := ["math/bits.deBruijn64tab", "math/bits.divideError", "math/bits.overflowError"], apart := false, laid := [("math/bits.deBruijn64tab", laid_math_bits_deBruijn64tab)], narrowed := true }
def KernelActiveUptoSaid : Prop := kernelActiveUptoRow.holds Tryz.pinned (OpenSpec.upto kernelActiveSpec)

/-- 'davitlaw28.KernelHot', WHERE WHAT IT READS IS OF BULK AT MOST 1048576: true; the input reads as it did. -/
def kernelHotUptoRow : OpenClaim := { program := "ytaakgpnmfkmdoaagreatdoor", sum := "11802317724982ae9271f4271c152efb20c6b799e850d41a595c6d59cb6ab233", func := "davit/davitlaw28.KernelHot", spec := "kernelHot", inPlace := ["math/bits.Add64"], unfollowed := true, recurses := true, named := ["math/bits.deBruijn64tab", "math/bits.divideError", "math/bits.overflowError"], apart := false, laid := [("math/bits.deBruijn64tab", laid_math_bits_deBruijn64tab)], narrowed := true }
def KernelHotUptoSaid : Prop := kernelHotUptoRow.holds Tryz.pinned (OpenSpec.upto kernelHotSpec)

/-- 'davitlaw28.KernelCounts', WHERE WHAT IT READS IS OF BULK AT MOST 1048576: true; the input reads as it did. -/
def kernelCountsUptoRow : OpenClaim := { program := "ytaakgpnmfkmdoaagreatdoor", sum := "11802317724982ae9271f4271c152efb20c6b799e850d41a595c6d59cb6ab233", func := "davit/davitlaw28.KernelCounts", spec := "kernelCounts", inPlace := ["math/bits.Add64"], unfollowed := true, recurses := true, named := ["math/bits.deBruijn64tab", "math/bits.divideError", "math/bits.overflowError"], apart := false, laid := [("math/bits.deBruijn64tab", laid_math_bits_deBruijn64tab)], narrowed := true }
def KernelCountsUptoSaid : Prop := kernelCountsUptoRow.holds Tryz.pinned (OpenSpec.upto kernelCountsSpec)

/-- 'davitlaw28.KernelGone', WHERE WHAT IT READS IS OF BULK AT MOST 1048576: true; the input reads as it did. -/
def kernelGoneUptoRow : OpenClaim := { program := "ytaakgpnmfkmdoaagreatdoor", sum := "11802317724982ae9271f4271c152efb20c6b799e850d41a595c6d59cb6ab233", func := "davit/davitlaw28.KernelGone", spec := "kernelGone", inPlace := ["math/bits.Add64"], unfollowed := true, recurses := true, named := ["math/bits.deBruijn64tab", "math/bits.divideError", "math/bits.overflowError"], apart := false, laid := [("math/bits.deBruijn64tab", laid_math_bits_deBruijn64tab)], narrowed := true }
def KernelGoneUptoSaid : Prop := kernelGoneUptoRow.holds Tryz.pinned (OpenSpec.upto kernelGoneSpec)

/-- 'davitlaw28.KernelNil', WHERE WHAT IT READS IS OF BULK AT MOST 1048576: true; the input reads as it did. -/
def kernelNilUptoRow : OpenClaim := { program := "ytaakgpnmfkmdoaagreatdoor", sum := "11802317724982ae9271f4271c152efb20c6b799e850d41a595c6d59cb6ab233", func := "davit/davitlaw28.KernelNil", spec := "kernelNil", inPlace := ["math/bits.Add64"], unfollowed := true, recurses := true, named := ["math/bits.deBruijn64tab", "math/bits.divideError", "math/bits.overflowError"], apart := false, laid := [("math/bits.deBruijn64tab", laid_math_bits_deBruijn64tab)], narrowed := true }
def KernelNilUptoSaid : Prop := kernelNilUptoRow.holds Tryz.pinned (OpenSpec.upto kernelNilSpec)

end Rows
end Go.Proofs.YtaakgpnmfkmdoaaGreatDoor
