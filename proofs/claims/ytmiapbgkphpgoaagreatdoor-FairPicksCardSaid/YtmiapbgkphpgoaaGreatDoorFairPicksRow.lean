/- davitlaw36.FairPicks: for every input the law returns true and its arguments read as they did. The frame round the walk. No condition. -/
import Derived.Test.YtmiapbgkphpgoaaGreatDoorFairPicksRowB
namespace Go.Proofs.YtmiapbgkphpgoaaGreatDoor.fairPicks
open Go.ChangeShapes Go.WideShapes Go.ChangeAt Go.RowKit
open Go.ChangeMaps (open_string shut_string)
set_option linter.unusedVariables false

set_option maxHeartbeats 8000000 in
theorem proved : Rows.FairPicksCardSaid :=
  Claim7.holds_tied_plain_at .later [] [.data] true (true, "9eb1e48becb74cf57943045c863feebf72ba1dea98de1c6347e7285e7bd553ac") false
    over (fun _ h => by cases h) (by as_aux_lemma => kernel_rfl) (fun _ h => by cases h) fairPicks_row_tie rfl ⟨rfl, rfl⟩ (by as_aux_lemma => kernel_rfl) rfl
    (fun f fn hf hfn => by
      obtain rfl : f = 5 := Option.some.inj ((show Tryz.prog.funcNamed "davit/davitlaw36.FairPicks" = some 5 by as_aux_lemma => kernel_rfl).symm.trans hf) |>.symm
      obtain rfl : fn = Tryz.f5 := (Option.some.inj (Tryz.func5.symm.trans hfn)).symm
      exact ⟨by as_aux_lemma => kernel_rfl, fun j t ht => by
        rw [Tryz.params5] at ht
        have hm : t ∈ [30, 32, 3] := by simpa using Array.mem_of_getElem? ht
        have hall : ([30, 32, 3].all fun u => !Tryz.prog.wantsStandIn u) = true := by as_aux_lemma => kernel_rfl
        exact (show Tryz.prog.wantsStandIn t = false by simpa using List.all_eq_true.1 hall t hm)⟩)
    (by as_aux_lemma => kernel_rfl)
end Go.Proofs.YtmiapbgkphpgoaaGreatDoor.fairPicks
