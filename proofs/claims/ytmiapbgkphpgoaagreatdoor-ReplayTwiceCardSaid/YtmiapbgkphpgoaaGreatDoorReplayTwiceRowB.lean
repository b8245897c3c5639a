/- davitlaw38.ReplayTwice: for every input the law returns true and its arguments read as they did. The frame round the walk. No condition. -/
import Derived.Test.YtmiapbgkphpgoaaGreatDoorReplayTwiceRowA
namespace Go.Proofs.YtmiapbgkphpgoaaGreatDoor.replayTwice
open Go.ChangeShapes Go.WideShapes Go.ChangeAt Go.RowKit
open Go.ChangeMaps (open_string shut_string)
set_option linter.unusedVariables false

set_option maxHeartbeats 8000000 in
theorem jf : joinedFacts Tryz.prog 3 Tryz.f3 Rows.replayTwiceSpec Rows.replayTwiceRow = true := by
  unfold joinedFacts
  repeat (refine Bool.and_eq_true_iff.mpr ⟨?_, ?_⟩)
  all_goals as_aux_lemma => kernel_rfl
theorem over : Rows.replayTwiceRow.holds Tryz.pinned (OpenSpec.ofChange Rows.replayTwiceSpec) :=
  OpenClaim.holds_of_wide 3 Tryz.f3 rfl rfl rfl rfl rfl rfl rfl ⟨rfl, rfl, rfl, rfl, rfl⟩ rfl rfl rfl rfl rfl (by kernel_rfl) Tryz.func3 jf
    (of_decide_eq_true (by kernel_rfl)) (by unfold Func.isWrapper; first | (rw [if_pos (by decide +kernel)]; kernel_rfl) | (rw [if_neg (by decide +kernel)]; exact ⟨rfl, rfl⟩))
    (fun os started H enc _ => lifted os started H enc)

end Go.Proofs.YtmiapbgkphpgoaaGreatDoor.replayTwice
