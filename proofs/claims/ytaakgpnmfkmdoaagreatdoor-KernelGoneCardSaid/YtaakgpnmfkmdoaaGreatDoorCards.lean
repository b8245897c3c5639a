/-
  DERIVED. GIVEN WITH THE SEED: THE CARDS: each row of YtaakgpnmfkmdoaaGreatDoorRows.lean that lists a variable, with what it lists TIED to the program's text (the seventh form; the later family's looks); each row that meets fmt, with fmt's text TOLD by the authors' own Lean function (tested against real Go, not proved from fmt's source: count such statements apart). THE CARD IS WHAT COUNTS. Prove the row's statement (the work); the ties are given (YtaakgpnmfkmdoaaGreatDoorTie.lean); close each card by the builder's one call (the guide's Derived/Test/ToyasCard.lean, 'card_holds'). Laid BY PROGRAM, IN A SANDBOX (cutbox-door.mjs). By AI agents, Wed Nov 11 2026. No macro, syntax, notation, axiom, sorry.
-/
import Derived.Test.YtaakgpnmfkmdoaaGreatDoorRows
import GoSem.ClaimSeven
namespace Go.Proofs.YtaakgpnmfkmdoaaGreatDoor
namespace Rows

/-- THE TIED CARD OF 'davitlaw28.KernelActive'. -/
def kernelActiveCard : Claim7 := { stood := { row := kernelActiveRow, standIns := [], harness := (true, "1d13b8a47fa165e57ec998eb26f8a6d3a2648b8c99b2a894d92e67ee9c445ac7"), looks := false }, kinds := [], alts := [], laidByText := true, laidKinds := [.data], laidTests := true, laidLooks := .later }
def KernelActiveCardSaid : Prop := Claim7.holds Tryz.pinned (.plain (OpenSpec.ofChange kernelActiveSpec)) kernelActiveCard

/-- THE TIED CARD OF 'davitlaw28.KernelHot'. -/
def kernelHotCard : Claim7 := { stood := { row := kernelHotRow, standIns := [], harness := (true, "1d13b8a47fa165e57ec998eb26f8a6d3a2648b8c99b2a894d92e67ee9c445ac7"), looks := false }, kinds := [], alts := [], laidByText := true, laidKinds := [.data], laidTests := true, laidLooks := .later }
def KernelHotCardSaid : Prop := Claim7.holds Tryz.pinned (.plain (OpenSpec.ofChange kernelHotSpec)) kernelHotCard

/-- THE TIED CARD OF 'davitlaw28.KernelCounts'. -/
def kernelCountsCard : Claim7 := { stood := { row := kernelCountsRow, standIns := [], harness := (true, "1d13b8a47fa165e57ec998eb26f8a6d3a2648b8c99b2a894d92e67ee9c445ac7"), looks := false }, kinds := [], alts := [], laidByText := true, laidKinds := [.data], laidTests := true, laidLooks := .later }
def KernelCountsCardSaid : Prop := Claim7.holds Tryz.pinned (.plain (OpenSpec.ofChange kernelCountsSpec)) kernelCountsCard

/-- THE TIED CARD OF 'davitlaw28.KernelGone'. -/
def kernelGoneCard : Claim7 := { stood := { row := kernelGoneRow, standIns := [], harness := (true, "1d13b8a47fa165e57ec998eb26f8a6d3a2648b8c99b2a894d92e67ee9c445ac7"), looks := false }, kinds := [], alts := [], laidByText := true, laidKinds := [.data], laidTests := true, laidLooks := .later }
def KernelGoneCardSaid : Prop := Claim7.holds Tryz.pinned (.plain (OpenSpec.ofChange kernelGoneSpec)) kernelGoneCard

/-- THE TIED CARD OF 'davitlaw28.KernelNil'. -/
def kernelNilCard : Claim7 := { stood := { row := kernelNilRow, standIns := [], harness := (true, "1d13b8a47fa165e57ec998eb26f8a6d3a2648b8c99b2a894d92e67ee9c445ac7"), looks := false }, kinds := [], alts := [], laidByText := true, laidKinds := [.data], laidTests := true, laidLooks := .later }
def KernelNilCardSaid : Prop := Claim7.holds Tryz.pinned (.plain (OpenSpec.ofChange kernelNilSpec)) kernelNilCard

/-- THE SECOND FORM's CARD OF 'davitlaw28.KernelActive'. -/
def kernelActiveUptoCard : Claim7 := { stood := { row := kernelActiveUptoRow, standIns := [], harness := (true, "1d13b8a47fa165e57ec998eb26f8a6d3a2648b8c99b2a894d92e67ee9c445ac7"), looks := false }, kinds := [], alts := [], laidByText := true, laidKinds := [.data], laidTests := true, laidLooks := .later }
def KernelActiveUptoCardSaid : Prop := Claim7.holds Tryz.pinned (.plain (OpenSpec.upto kernelActiveSpec)) kernelActiveUptoCard

/-- THE SECOND FORM's CARD OF 'davitlaw28.KernelHot'. -/
def kernelHotUptoCard : Claim7 := { stood := { row := kernelHotUptoRow, standIns := [], harness := (true, "1d13b8a47fa165e57ec998eb26f8a6d3a2648b8c99b2a894d92e67ee9c445ac7"), looks := false }, kinds := [], alts := [], laidByText := true, laidKinds := [.data], laidTests := true, laidLooks := .later }
def KernelHotUptoCardSaid : Prop := Claim7.holds Tryz.pinned (.plain (OpenSpec.upto kernelHotSpec)) kernelHotUptoCard

/-- THE SECOND FORM's CARD OF 'davitlaw28.KernelCounts'. -/
def kernelCountsUptoCard : Claim7 := { stood := { row := kernelCountsUptoRow, standIns := [], harness := (true, "1d13b8a47fa165e57ec998eb26f8a6d3a2648b8c99b2a894d92e67ee9c445ac7"), looks := false }, kinds := [], alts := [], laidByText := true, laidKinds := [.data], laidTests := true, laidLooks := .later }
def KernelCountsUptoCardSaid : Prop := Claim7.holds Tryz.pinned (.plain (OpenSpec.upto kernelCountsSpec)) kernelCountsUptoCard

/-- THE SECOND FORM's CARD OF 'davitlaw28.KernelGone'. -/
def kernelGoneUptoCard : Claim7 := { stood := { row := kernelGoneUptoRow, standIns := [], harness := (true, "1d13b8a47fa165e57ec998eb26f8a6d3a2648b8c99b2a894d92e67ee9c445ac7"), looks := false }, kinds := [], alts := [], laidByText := true, laidKinds := [.data], laidTests := true, laidLooks := .later }
def KernelGoneUptoCardSaid : Prop := Claim7.holds Tryz.pinned (.plain (OpenSpec.upto kernelGoneSpec)) kernelGoneUptoCard

/-- THE SECOND FORM's CARD OF 'davitlaw28.KernelNil'. -/
def kernelNilUptoCard : Claim7 := { stood := { row := kernelNilUptoRow, standIns := [], harness := (true, "1d13b8a47fa165e57ec998eb26f8a6d3a2648b8c99b2a894d92e67ee9c445ac7"), looks := false }, kinds := [], alts := [], laidByText := true, laidKinds := [.data], laidTests := true, laidLooks := .later }
def KernelNilUptoCardSaid : Prop := Claim7.holds Tryz.pinned (.plain (OpenSpec.upto kernelNilSpec)) kernelNilUptoCard
end Rows
end Go.Proofs.YtaakgpnmfkmdoaaGreatDoor
