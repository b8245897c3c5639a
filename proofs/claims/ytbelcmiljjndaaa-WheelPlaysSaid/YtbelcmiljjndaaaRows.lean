/-
  No cell of these rows narrows 'for every input' (looked for: loops, veiled, ifaces, maps, wideKeys, modest, calm, conditions, laid).
  DERIVED. THE GIVEN ROWS OF THIS SEAT. 9 by the template 'for every input the law returns true; each argument reads behind the call as it read before'; 0 by the template 'total and deterministic' (their statements: YtbelcmiljjndaaaTotals.lean).
  GIVEN WITH THE SEED: the statements are not yours to turn. If you find one false, say at which input.
  Laid BY PROGRAM, IN A SANDBOX (cutbox-rows.mjs): the forced cells as the released guide's own fill.sh prints them over the translation a02c7c4d258af740… (all of the seat's roots in one cut). By AI agents, Wed Nov 11 2026. No macro, syntax, notation, axiom, sorry.
-/
import Derived.Test.YtbelcmiljjndaaaChecked
import GoSem.Claim
import GoSem.ClaimJoined
import GoSem.ClaimMapViews
import Derived.JoinedTies
import Derived.KernelRfl
namespace Go.Proofs.Ytbelcmiljjndaaa
/- THE CELL 'sum', in the pinned program and in every row, IS THE sha256 OF THE DUMP (.gsa) THAT YtbelcmiljjndaaaProg.lean LOADS. Nothing in Lean hashes anything: it is a label: what it is worth is what the hold of that sum in a sandbox is worth. -/
noncomputable def Try.pinned : Pinned := { name := "ytbelcmiljjndaaa", sum := "a02c7c4d258af74026bba63cb3581a5fd105f785ca0ff234c06e5553093de9ef", checked := Try.checked }
namespace Rows
def none {H : Type} : Left H := { results := [], args := [] }

/-- 'davitlaw22.HotFails': WHATEVER THE INPUT: true; the input reads as it did. -/
def hotFailsSpec : ChangeSpec := { name := "hotFails", fn := fun _ => fun
  | [d1, d2] => { results := [.lit (.bool true)], args := [d1, d2] }
  | _ => none }
def hotFailsRow : OpenClaim := { program := "ytbelcmiljjndaaa", sum := "a02c7c4d258af74026bba63cb3581a5fd105f785ca0ff234c06e5553093de9ef", func := "davit/davitlaw22.HotFails", spec := "hotFails", apart := false }
def HotFailsSaid : Prop := hotFailsRow.holds Try.pinned (OpenSpec.ofChange hotFailsSpec)

/-- ITS FALSE NEIGHBOUR: 'it returns false'. Refute it at one input. -/
def hotFailsWrong : ChangeSpec := { name := "hotFails", fn := fun _ => fun
  | [d1, d2] => { results := [.lit (.bool false)], args := [d1, d2] }
  | _ => none }
def HotFailsWrongFalsely : Prop := hotFailsRow.holds Try.pinned (OpenSpec.ofChange hotFailsWrong)

/-- 'davitlaw19.GatePlays': WHATEVER THE INPUT: true; the input reads as it did. -/
def gatePlaysSpec : ChangeSpec := { name := "gatePlays", fn := fun _ => fun
  | [d1, d2] => { results := [.lit (.bool true)], args := [d1, d2] }
  | _ => none }
def gatePlaysRow : OpenClaim := { program := "ytbelcmiljjndaaa", sum := "a02c7c4d258af74026bba63cb3581a5fd105f785ca0ff234c06e5553093de9ef", func := "davit/davitlaw19.GatePlays", spec := "gatePlays", inPlace := ["math/bits.Add64"], apart := false }
def GatePlaysSaid : Prop := gatePlaysRow.holds Try.pinned (OpenSpec.ofChange gatePlaysSpec)

/-- ITS FALSE NEIGHBOUR: 'it returns false'. Refute it at one input. -/
def gatePlaysWrong : ChangeSpec := { name := "gatePlays", fn := fun _ => fun
  | [d1, d2] => { results := [.lit (.bool false)], args := [d1, d2] }
  | _ => none }
def GatePlaysWrongFalsely : Prop := gatePlaysRow.holds Try.pinned (OpenSpec.ofChange gatePlaysWrong)

/-- 'davitlaw19.GateAlone': WHATEVER THE INPUT: true; the input reads as it did. -/
def gateAloneSpec : ChangeSpec := { name := "gateAlone", fn := fun _ => fun
  | [d] => { results := [.lit (.bool true)], args := [d] }
  | _ => none }
def gateAloneRow : OpenClaim := { program := "ytbelcmiljjndaaa", sum := "a02c7c4d258af74026bba63cb3581a5fd105f785ca0ff234c06e5553093de9ef", func := "davit/davitlaw19.GateAlone", spec := "gateAlone", inPlace := ["math/bits.Add64"], apart := false }
def GateAloneSaid : Prop := gateAloneRow.holds Try.pinned (OpenSpec.ofChange gateAloneSpec)

/-- ITS FALSE NEIGHBOUR: 'it returns false'. Refute it at one input. -/
def gateAloneWrong : ChangeSpec := { name := "gateAlone", fn := fun _ => fun
  | [d] => { results := [.lit (.bool false)], args := [d] }
  | _ => none }
def GateAloneWrongFalsely : Prop := gateAloneRow.holds Try.pinned (OpenSpec.ofChange gateAloneWrong)

/-- 'davitlaw19.GateNil': WHATEVER THE INPUT: true; the input reads as it did. -/
def gateNilSpec : ChangeSpec := { name := "gateNil", fn := fun _ => fun
  | [d] => { results := [.lit (.bool true)], args := [d] }
  | _ => none }
def gateNilRow : OpenClaim := { program := "ytbelcmiljjndaaa", sum := "a02c7c4d258af74026bba63cb3581a5fd105f785ca0ff234c06e5553093de9ef", func := "davit/davitlaw19.GateNil", spec := "gateNil", inPlace := ["math/bits.Add64"], apart := false }
def GateNilSaid : Prop := gateNilRow.holds Try.pinned (OpenSpec.ofChange gateNilSpec)

/-- ITS FALSE NEIGHBOUR: 'it returns false'. Refute it at one input. -/
def gateNilWrong : ChangeSpec := { name := "gateNil", fn := fun _ => fun
  | [d] => { results := [.lit (.bool false)], args := [d] }
  | _ => none }
def GateNilWrongFalsely : Prop := gateNilRow.holds Try.pinned (OpenSpec.ofChange gateNilWrong)

/-- 'davitlaw22.HotPlays': WHATEVER THE INPUT: true; the input reads as it did. -/
def hotPlaysSpec : ChangeSpec := { name := "hotPlays", fn := fun _ => fun
  | [d] => { results := [.lit (.bool true)], args := [d] }
  | _ => none }
def hotPlaysRow : OpenClaim := { program := "ytbelcmiljjndaaa", sum := "a02c7c4d258af74026bba63cb3581a5fd105f785ca0ff234c06e5553093de9ef", func := "davit/davitlaw22.HotPlays", spec := "hotPlays", apart := false }
def HotPlaysSaid : Prop := hotPlaysRow.holds Try.pinned (OpenSpec.ofChange hotPlaysSpec)

/-- ITS FALSE NEIGHBOUR: 'it returns false'. Refute it at one input. -/
def hotPlaysWrong : ChangeSpec := { name := "hotPlays", fn := fun _ => fun
  | [d] => { results := [.lit (.bool false)], args := [d] }
  | _ => none }
def HotPlaysWrongFalsely : Prop := hotPlaysRow.holds Try.pinned (OpenSpec.ofChange hotPlaysWrong)

/-- 'davitlaw22.HotNil': WHATEVER THE INPUT: true; the input reads as it did. -/
def hotNilSpec : ChangeSpec := { name := "hotNil", fn := fun _ => fun
  | [d1, d2] => { results := [.lit (.bool true)], args := [d1, d2] }
  | _ => none }
def hotNilRow : OpenClaim := { program := "ytbelcmiljjndaaa", sum := "a02c7c4d258af74026bba63cb3581a5fd105f785ca0ff234c06e5553093de9ef", func := "davit/davitlaw22.HotNil", spec := "hotNil", apart := false }
def HotNilSaid : Prop := hotNilRow.holds Try.pinned (OpenSpec.ofChange hotNilSpec)

/-- ITS FALSE NEIGHBOUR: 'it returns false'. Refute it at one input. -/
def hotNilWrong : ChangeSpec := { name := "hotNil", fn := fun _ => fun
  | [d1, d2] => { results := [.lit (.bool false)], args := [d1, d2] }
  | _ => none }
def HotNilWrongFalsely : Prop := hotNilRow.holds Try.pinned (OpenSpec.ofChange hotNilWrong)

/-- 'davitlaw13.WheelDue': WHATEVER THE INPUT: true; the input reads as it did. -/
def wheelDueSpec : ChangeSpec := { name := "wheelDue", fn := fun _ => fun
  | [d1, d2, d3] => { results := [.lit (.bool true)], args := [d1, d2, d3] }
  | _ => none }
def wheelDueRow : OpenClaim := { program := "ytbelcmiljjndaaa", sum := "a02c7c4d258af74026bba63cb3581a5fd105f785ca0ff234c06e5553093de9ef", func := "davit/davitlaw13.WheelDue", spec := "wheelDue", unfollowed := true, recurses := true, apart := false }
def WheelDueSaid : Prop := wheelDueRow.holds Try.pinned (OpenSpec.ofChange wheelDueSpec)

/-- ITS FALSE NEIGHBOUR: 'it returns false'. Refute it at one input. -/
def wheelDueWrong : ChangeSpec := { name := "wheelDue", fn := fun _ => fun
  | [d1, d2, d3] => { results := [.lit (.bool false)], args := [d1, d2, d3] }
  | _ => none }
def WheelDueWrongFalsely : Prop := wheelDueRow.holds Try.pinned (OpenSpec.ofChange wheelDueWrong)

/-- 'davitlaw13.WheelPlays': WHATEVER THE INPUT: true; the input reads as it did. -/
def wheelPlaysSpec : ChangeSpec := { name := "wheelPlays", fn := fun _ => fun
  | [d1, d2] => { results := [.lit (.bool true)], args := [d1, d2] }
  | _ => none }
def wheelPlaysRow : OpenClaim := { program := "ytbelcmiljjndaaa", sum := "a02c7c4d258af74026bba63cb3581a5fd105f785ca0ff234c06e5553093de9ef", func := "davit/davitlaw13.WheelPlays", spec := "wheelPlays", unfollowed := true, recurses := true, apart := false }
def WheelPlaysSaid : Prop := wheelPlaysRow.holds Try.pinned (OpenSpec.ofChange wheelPlaysSpec)

/-- ITS FALSE NEIGHBOUR: 'it returns false'. Refute it at one input. -/
def wheelPlaysWrong : ChangeSpec := { name := "wheelPlays", fn := fun _ => fun
  | [d1, d2] => { results := [.lit (.bool false)], args := [d1, d2] }
  | _ => none }
def WheelPlaysWrongFalsely : Prop := wheelPlaysRow.holds Try.pinned (OpenSpec.ofChange wheelPlaysWrong)

/-- 'davitlaw13.WheelNil': WHATEVER THE INPUT: true; the input reads as it did. -/
def wheelNilSpec : ChangeSpec := { name := "wheelNil", fn := fun _ => fun
  | [d1, d2] => { results := [.lit (.bool true)], args := [d1, d2] }
  | _ => none }
def wheelNilRow : OpenClaim := { program := "ytbelcmiljjndaaa", sum := "a02c7c4d258af74026bba63cb3581a5fd105f785ca0ff234c06e5553093de9ef", func := "davit/davitlaw13.WheelNil", spec := "wheelNil", unfollowed := true, recurses := true, apart := false }
def WheelNilSaid : Prop := wheelNilRow.holds Try.pinned (OpenSpec.ofChange wheelNilSpec)

/-- ITS FALSE NEIGHBOUR: 'it returns false'. Refute it at one input. -/
def wheelNilWrong : ChangeSpec := { name := "wheelNil", fn := fun _ => fun
  | [d1, d2] => { results := [.lit (.bool false)], args := [d1, d2] }
  | _ => none }
def WheelNilWrongFalsely : Prop := wheelNilRow.holds Try.pinned (OpenSpec.ofChange wheelNilWrong)

/- THE SECOND FORM. 'bulk': how many values and letters a reading holds, each counted each time it is reached (what is shared counts as often as it is met; a slice's spare places count too). A statement '..UptoSaid' is the law's where the arguments, and the package variables that the reading takes, are together of bulk at most 1048576: NARROWER than '..Said'. Prove '..Said' where nothing that the law and all that it calls make is longer than what came in: it says more and counts as full. Else prove '..UptoSaid'. A law counts once. -/
mutual
def uptoBulk {H : Type} : DataW H → Nat
  | .lit (.string bytes) => bytes.length + 1
  | .lit _ => 1
  | .nil => 1
  | .ptr d => uptoBulk d + 1
  | .slice elems spare => uptoBulkAll elems + uptoBulkAll spare + 1
  | .agg parts => uptoBulkAll parts + 1
  | .iface _ d => uptoBulk d + 1
  | .map entries => uptoBulkEntries entries + 1
  | .held _ => 1
def uptoBulkAll {H : Type} : List (DataW H) → Nat
  | [] => 0
  | d :: r => uptoBulk d + uptoBulkAll r
def uptoBulkEntries {H : Type} : List (Lit × DataW H) → Nat
  | [] => 0
  | x :: r => uptoBulkEntry x + uptoBulkEntries r
def uptoBulkEntry {H : Type} : Lit × DataW H → Nat
  | (.string bytes, d) => bytes.length + uptoBulk d + 1
  | (_, d) => uptoBulk d + 1
 end
def uptoSmall : (H : Type) → List (DataW H) → Bool := fun _ ds => decide (uptoBulkAll ds ≤ 1048576)
def OpenSpec.upto (s : _root_.Go.ChangeSpec) : _root_.Go.OpenSpec := { _root_.Go.OpenSpec.ofChange s with cond := some uptoSmall }

/-- 'davitlaw22.HotFails', WHERE WHAT IT READS IS OF BULK AT MOST 1048576: true; the input reads as it did. -/
def hotFailsUptoRow : OpenClaim := { program := "ytbelcmiljjndaaa", sum := "a02c7c4d258af74026bba63cb3581a5fd105f785ca0ff234c06e5553093de9ef", func := "davit/davitlaw22.HotFails", spec := "hotFails", apart := false, narrowed := true }
def HotFailsUptoSaid : Prop := hotFailsUptoRow.holds Try.pinned (OpenSpec.upto hotFailsSpec)

/-- 'davitlaw19.GatePlays', WHERE WHAT IT READS IS OF BULK AT MOST 1048576: true; the input reads as it did. -/
def gatePlaysUptoRow : OpenClaim := { program := "ytbelcmiljjndaaa", sum := "a02c7c4d258af74026bba63cb3581a5fd105f785ca0ff234c06e5553093de9ef", func := "davit/davitlaw19.GatePlays", spec := "gatePlays", inPlace := ["math/bits.Add64"], apart := false, narrowed := true }
def GatePlaysUptoSaid : Prop := gatePlaysUptoRow.holds Try.pinned (OpenSpec.upto gatePlaysSpec)

/-- 'davitlaw19.GateAlone', WHERE WHAT IT READS IS OF BULK AT MOST 1048576: true; the input reads as it did. -/
def gateAloneUptoRow : OpenClaim := { program := "ytbelcmiljjndaaa", sum := "a02c7c4d258af74026bba63cb3581a5fd105f785ca0ff234c06e5553093de9ef", func := "davit/davitlaw19.GateAlone", spec := "gateAlone", inPlace := ["math/bits.Add64"], apart := false, narrowed := true }
def GateAloneUptoSaid : Prop := gateAloneUptoRow.holds Try.pinned (OpenSpec.upto gateAloneSpec)

/-- 'davitlaw19.GateNil', WHERE WHAT IT READS IS OF BULK AT MOST 1048576: true; the input reads as it did. -/
def gateNilUptoRow : OpenClaim := { program := "ytbelcmiljjndaaa", sum := "a02c7c4d258af74026bba63cb3581a5fd105f785ca0ff234c06e5553093de9ef", func := "davit/davitlaw19.GateNil", spec := "gateNil", inPlace := ["math/bits.Add64"], apart := false, narrowed := true }
def GateNilUptoSaid : Prop := gateNilUptoRow.holds Try.pinned (OpenSpec.upto gateNilSpec)

/-- 'davitlaw22.HotPlays', WHERE WHAT IT READS IS OF BULK AT MOST 1048576: true; the input reads as it did. -/
def hotPlaysUptoRow : OpenClaim := { program := "ytbelcmiljjndaaa", sum := "a02c7c4d258af74026bba63cb3581a5fd105f785ca0ff234c06e5553093de9ef", func := "davit/davitlaw22.HotPlays", spec := "hotPlays", apart := false, narrowed := true }
def HotPlaysUptoSaid : Prop := hotPlaysUptoRow.holds Try.pinned (OpenSpec.upto hotPlaysSpec)

/-- 'davitlaw22.HotNil', WHERE WHAT IT READS IS OF BULK AT MOST 1048576: true; the input reads as it did. -/
def hotNilUptoRow : OpenClaim := { program := "ytbelcmiljjndaaa", sum := "a02c7c4d258af74026bba63cb3581a5fd105f785ca0ff234c06e5553093de9ef", func := "davit/davitlaw22.HotNil", spec := "hotNil", apart := false, narrowed := true }
def HotNilUptoSaid : Prop := hotNilUptoRow.holds Try.pinned (OpenSpec.upto hotNilSpec)

/-- 'davitlaw13.WheelDue', WHERE WHAT IT READS IS OF BULK AT MOST 1048576: true; the input reads as it did. -/
def wheelDueUptoRow : OpenClaim := { program := "ytbelcmiljjndaaa", sum := "a02c7c4d258af74026bba63cb3581a5fd105f785ca0ff234c06e5553093de9ef", func := "davit/davitlaw13.WheelDue", spec := "wheelDue", unfollowed := true, recurses := true, apart := false, narrowed := true }
def WheelDueUptoSaid : Prop := wheelDueUptoRow.holds Try.pinned (OpenSpec.upto wheelDueSpec)

/-- 'davitlaw13.WheelPlays', WHERE WHAT IT READS IS OF BULK AT MOST 1048576: true; the input reads as it did. -/
def wheelPlaysUptoRow : OpenClaim := { program := "ytbelcmiljjndaaa", sum := "a02c7c4d258af74026bba63cb3581a5fd105f785ca0ff234c06e5553093de9ef", func := "davit/davitlaw13.WheelPlays", spec := "wheelPlays", unfollowed := true, recurses := true, apart := false, narrowed := true }
def WheelPlaysUptoSaid : Prop := wheelPlaysUptoRow.holds Try.pinned (OpenSpec.upto wheelPlaysSpec)

/-- 'davitlaw13.WheelNil', WHERE WHAT IT READS IS OF BULK AT MOST 1048576: true; the input reads as it did. -/
def wheelNilUptoRow : OpenClaim := { program := "ytbelcmiljjndaaa", sum := "a02c7c4d258af74026bba63cb3581a5fd105f785ca0ff234c06e5553093de9ef", func := "davit/davitlaw13.WheelNil", spec := "wheelNil", unfollowed := true, recurses := true, apart := false, narrowed := true }
def WheelNilUptoSaid : Prop := wheelNilUptoRow.holds Try.pinned (OpenSpec.upto wheelNilSpec)

end Rows
end Go.Proofs.Ytbelcmiljjndaaa
