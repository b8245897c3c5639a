/-
  DERIVED. GIVEN WITH THE SEED: THE CARDS: each row of YthieionajemjhaaDoorRows.lean that lists a variable, with what it lists TIED to the program's text (the seventh form; the later family's looks); each row that meets fmt, with fmt's text TOLD by the authors' own Lean function (tested against real Go, not proved from fmt's source: count such statements apart). THE CARD IS WHAT COUNTS. Prove the row's statement (the work); the ties are given (YthieionajemjhaaDoorTie.lean); close each card by the builder's one call (the guide's Derived/Test/ToyasCard.lean, 'card_holds'). Laid BY PROGRAM, IN A SANDBOX (cutbox-door.mjs). By AI agents, Wed Nov 11 2026. No macro, syntax, notation, axiom, sorry.
-/
import Derived.Test.YthieionajemjhaaDoorRows
import GoSem.ClaimSeven
namespace Go.Proofs.YthieionajemjhaaDoor
namespace Rows

/-- THE TIED CARD OF 'davitlaw14.TimerOnce'. -/
def timerOnceCard : Claim7 := { stood := { row := timerOnceRow, standIns := [], harness := (true, "fbd8c488474a44d6f55b7cd8fb50d5f0897d7747f6b610eb59588cc66ac41cdf"), looks := false }, kinds := [], alts := [], laidByText := true, laidKinds := [.data], laidTests := true, laidLooks := .later }
def TimerOnceCardSaid : Prop := Claim7.holds Tryd.pinned (.plain (OpenSpec.ofChange timerOnceSpec)) timerOnceCard

/-- THE TIED CARD OF 'davitlaw14.TimerPlays'. -/
def timerPlaysCard : Claim7 := { stood := { row := timerPlaysRow, standIns := [], harness := (true, "fbd8c488474a44d6f55b7cd8fb50d5f0897d7747f6b610eb59588cc66ac41cdf"), looks := false }, kinds := [], alts := [], laidByText := true, laidKinds := [.data], laidTests := true, laidLooks := .later }
def TimerPlaysCardSaid : Prop := Claim7.holds Tryd.pinned (.plain (OpenSpec.ofChange timerPlaysSpec)) timerPlaysCard

/-- THE TIED CARD OF 'davitlaw14.TimerNil'. -/
def timerNilCard : Claim7 := { stood := { row := timerNilRow, standIns := [], harness := (true, "fbd8c488474a44d6f55b7cd8fb50d5f0897d7747f6b610eb59588cc66ac41cdf"), looks := false }, kinds := [], alts := [], laidByText := true, laidKinds := [.data], laidTests := true, laidLooks := .later }
def TimerNilCardSaid : Prop := Claim7.holds Tryd.pinned (.plain (OpenSpec.ofChange timerNilSpec)) timerNilCard

/-- THE SECOND FORM's CARD OF 'davitlaw14.TimerOnce'. -/
def timerOnceUptoCard : Claim7 := { stood := { row := timerOnceUptoRow, standIns := [], harness := (true, "fbd8c488474a44d6f55b7cd8fb50d5f0897d7747f6b610eb59588cc66ac41cdf"), looks := false }, kinds := [], alts := [], laidByText := true, laidKinds := [.data], laidTests := true, laidLooks := .later }
def TimerOnceUptoCardSaid : Prop := Claim7.holds Tryd.pinned (.plain (OpenSpec.upto timerOnceSpec)) timerOnceUptoCard

/-- THE SECOND FORM's CARD OF 'davitlaw14.TimerPlays'. -/
def timerPlaysUptoCard : Claim7 := { stood := { row := timerPlaysUptoRow, standIns := [], harness := (true, "fbd8c488474a44d6f55b7cd8fb50d5f0897d7747f6b610eb59588cc66ac41cdf"), looks := false }, kinds := [], alts := [], laidByText := true, laidKinds := [.data], laidTests := true, laidLooks := .later }
def TimerPlaysUptoCardSaid : Prop := Claim7.holds Tryd.pinned (.plain (OpenSpec.upto timerPlaysSpec)) timerPlaysUptoCard

/-- THE SECOND FORM's CARD OF 'davitlaw14.TimerNil'. -/
def timerNilUptoCard : Claim7 := { stood := { row := timerNilUptoRow, standIns := [], harness := (true, "fbd8c488474a44d6f55b7cd8fb50d5f0897d7747f6b610eb59588cc66ac41cdf"), looks := false }, kinds := [], alts := [], laidByText := true, laidKinds := [.data], laidTests := true, laidLooks := .later }
def TimerNilUptoCardSaid : Prop := Claim7.holds Tryd.pinned (.plain (OpenSpec.upto timerNilSpec)) timerNilUptoCard
end Rows
end Go.Proofs.YthieionajemjhaaDoor
