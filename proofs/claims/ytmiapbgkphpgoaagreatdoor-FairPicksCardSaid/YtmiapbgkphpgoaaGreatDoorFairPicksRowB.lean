/- davitlaw36.FairPicks: for every input the law returns true and its arguments read as they did. The frame round the walk. No condition. -/
import Derived.Test.YtmiapbgkphpgoaaGreatDoorFairPicksRowA
namespace Go.Proofs.YtmiapbgkphpgoaaGreatDoor.fairPicks
open Go.ChangeShapes Go.WideShapes Go.ChangeAt Go.RowKit
open Go.ChangeMaps (open_string shut_string)
set_option linter.unusedVariables false

set_option maxHeartbeats 8000000 in
theorem jf : joinedFacts Tryz.prog 5 Tryz.f5 Rows.fairPicksSpec Rows.fairPicksRow = true := by
  unfold joinedFacts
  repeat (refine Bool.and_eq_true_iff.mpr ⟨?_, ?_⟩)
  all_goals as_aux_lemma => kernel_rfl
theorem over : Rows.fairPicksRow.holds Tryz.pinned (OpenSpec.ofChange Rows.fairPicksSpec) :=
  OpenClaim.holds_of_wide 5 Tryz.f5 rfl rfl rfl rfl rfl rfl rfl ⟨rfl, rfl, rfl, rfl, rfl⟩ rfl rfl rfl rfl rfl (by kernel_rfl) Tryz.func5 jf
    (of_decide_eq_true (by kernel_rfl)) (by unfold Func.isWrapper; first | (rw [if_pos (by decide +kernel)]; kernel_rfl) | (rw [if_neg (by decide +kernel)]; exact ⟨rfl, rfl⟩))
    (fun os started H enc _ => lifted os started H enc)

end Go.Proofs.YtmiapbgkphpgoaaGreatDoor.fairPicks
