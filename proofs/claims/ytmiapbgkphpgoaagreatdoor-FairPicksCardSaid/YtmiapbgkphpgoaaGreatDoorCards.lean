/-
  DERIVED. GIVEN WITH THE SEED: THE CARDS: each row of YtmiapbgkphpgoaaGreatDoorRows.lean that lists a variable, with what it lists TIED to the program's text (the seventh form; the later family's looks); each row that meets fmt, with fmt's text TOLD by the authors' own Lean function (tested against real Go, not proved from fmt's source: count such statements apart). THE CARD IS WHAT COUNTS. Prove the row's statement (the work); the ties are given (YtmiapbgkphpgoaaGreatDoorTie.lean); close each card by the builder's one call (the guide's Derived/Test/ToyasCard.lean, 'card_holds'). Laid BY PROGRAM, IN A SANDBOX (cutbox-door.mjs). By AI agents, Wed Nov 11 2026. No macro, syntax, notation, axiom, sorry.
-/
import Derived.Test.YtmiapbgkphpgoaaGreatDoorRows
import GoSem.ClaimSeven
namespace Go.Proofs.YtmiapbgkphpgoaaGreatDoor
namespace Rows

/-- THE TIED CARD OF 'davitlaw38.ReplayTwice'. -/
def replayTwiceCard : Claim7 := { stood := { row := replayTwiceRow, standIns := [], harness := (true, "9eb1e48becb74cf57943045c863feebf72ba1dea98de1c6347e7285e7bd553ac"), looks := false }, kinds := [], alts := [], laidByText := true, laidKinds := [.data], laidTests := true, laidLooks := .later }
def ReplayTwiceCardSaid : Prop := Claim7.holds Tryz.pinned (.plain (OpenSpec.ofChange replayTwiceSpec)) replayTwiceCard

/-- THE TIED CARD OF 'davitlaw38.ReplayPower'. -/
def replayPowerCard : Claim7 := { stood := { row := replayPowerRow, standIns := [], harness := (true, "9eb1e48becb74cf57943045c863feebf72ba1dea98de1c6347e7285e7bd553ac"), looks := false }, kinds := [], alts := [], laidByText := true, laidKinds := [.data], laidTests := true, laidLooks := .later }
def ReplayPowerCardSaid : Prop := Claim7.holds Tryz.pinned (.plain (OpenSpec.ofChange replayPowerSpec)) replayPowerCard

/-- THE TIED CARD OF 'davitlaw36.FairPicks'. -/
def fairPicksCard : Claim7 := { stood := { row := fairPicksRow, standIns := [], harness := (true, "9eb1e48becb74cf57943045c863feebf72ba1dea98de1c6347e7285e7bd553ac"), looks := false }, kinds := [], alts := [], laidByText := true, laidKinds := [.data], laidTests := true, laidLooks := .later }
def FairPicksCardSaid : Prop := Claim7.holds Tryz.pinned (.plain (OpenSpec.ofChange fairPicksSpec)) fairPicksCard

/-- THE TIED CARD OF 'davitlaw36.FairDrives'. -/
def fairDrivesCard : Claim7 := { stood := { row := fairDrivesRow, standIns := [], harness := (true, "9eb1e48becb74cf57943045c863feebf72ba1dea98de1c6347e7285e7bd553ac"), looks := false }, kinds := [], alts := [], laidByText := true, laidKinds := [.data], laidTests := true, laidLooks := .later }
def FairDrivesCardSaid : Prop := Claim7.holds Tryz.pinned (.plain (OpenSpec.ofChange fairDrivesSpec)) fairDrivesCard

/-- THE TIED CARD OF 'davitlaw36.FairRuns'. -/
def fairRunsCard : Claim7 := { stood := { row := fairRunsRow, standIns := [], harness := (true, "9eb1e48becb74cf57943045c863feebf72ba1dea98de1c6347e7285e7bd553ac"), looks := false }, kinds := [], alts := [], laidByText := true, laidKinds := [.data], laidTests := true, laidLooks := .later }
def FairRunsCardSaid : Prop := Claim7.holds Tryz.pinned (.plain (OpenSpec.ofChange fairRunsSpec)) fairRunsCard

/-- THE SECOND FORM's CARD OF 'davitlaw38.ReplayTwice'. -/
def replayTwiceUptoCard : Claim7 := { stood := { row := replayTwiceUptoRow, standIns := [], harness := (true, "9eb1e48becb74cf57943045c863feebf72ba1dea98de1c6347e7285e7bd553ac"), looks := false }, kinds := [], alts := [], laidByText := true, laidKinds := [.data], laidTests := true, laidLooks := .later }
def ReplayTwiceUptoCardSaid : Prop := Claim7.holds Tryz.pinned (.plain (OpenSpec.upto replayTwiceSpec)) replayTwiceUptoCard

/-- THE SECOND FORM's CARD OF 'davitlaw38.ReplayPower'. -/
def replayPowerUptoCard : Claim7 := { stood := { row := replayPowerUptoRow, standIns := [], harness := (true, "9eb1e48becb74cf57943045c863feebf72ba1dea98de1c6347e7285e7bd553ac"), looks := false }, kinds := [], alts := [], laidByText := true, laidKinds := [.data], laidTests := true, laidLooks := .later }
def ReplayPowerUptoCardSaid : Prop := Claim7.holds Tryz.pinned (.plain (OpenSpec.upto replayPowerSpec)) replayPowerUptoCard

/-- THE SECOND FORM's CARD OF 'davitlaw36.FairPicks'. -/
def fairPicksUptoCard : Claim7 := { stood := { row := fairPicksUptoRow, standIns := [], harness := (true, "9eb1e48becb74cf57943045c863feebf72ba1dea98de1c6347e7285e7bd553ac"), looks := false }, kinds := [], alts := [], laidByText := true, laidKinds := [.data], laidTests := true, laidLooks := .later }
def FairPicksUptoCardSaid : Prop := Claim7.holds Tryz.pinned (.plain (OpenSpec.upto fairPicksSpec)) fairPicksUptoCard

/-- THE SECOND FORM's CARD OF 'davitlaw36.FairDrives'. -/
def fairDrivesUptoCard : Claim7 := { stood := { row := fairDrivesUptoRow, standIns := [], harness := (true, "9eb1e48becb74cf57943045c863feebf72ba1dea98de1c6347e7285e7bd553ac"), looks := false }, kinds := [], alts := [], laidByText := true, laidKinds := [.data], laidTests := true, laidLooks := .later }
def FairDrivesUptoCardSaid : Prop := Claim7.holds Tryz.pinned (.plain (OpenSpec.upto fairDrivesSpec)) fairDrivesUptoCard

/-- THE SECOND FORM's CARD OF 'davitlaw36.FairRuns'. -/
def fairRunsUptoCard : Claim7 := { stood := { row := fairRunsUptoRow, standIns := [], harness := (true, "9eb1e48becb74cf57943045c863feebf72ba1dea98de1c6347e7285e7bd553ac"), looks := false }, kinds := [], alts := [], laidByText := true, laidKinds := [.data], laidTests := true, laidLooks := .later }
def FairRunsUptoCardSaid : Prop := Claim7.holds Tryz.pinned (.plain (OpenSpec.upto fairRunsSpec)) fairRunsUptoCard
end Rows
end Go.Proofs.YtmiapbgkphpgoaaGreatDoor
