/- The walk over DrillNil. -/
import Derived.Test.YtiegnbdoidiffaaDrillKnown
import Derived.Test.YtiegnbdoidiffaaArgs
namespace Go.Proofs.Ytiegnbdoidiffaa
set_option linter.unusedVariables false
set_option linter.unusedSimpArgs false
open Go.RowKit
set_option maxRecDepth 100000 in
set_option maxHeartbeats 2000000 in
theorem DrillNil_walk (w : World) (n : Int) (_hn : (Lit.int .i64 n).wf = true) (c : Int) (_hc : (Lit.int .i64 c).wf = true) :
    Calls Try.prog 9 #[.int .i64 n, .int .i64 c] w (Rets (.bool true) [] w fun _ => True) := by
  go_enter Try.func9, Try.ntmps9
  go_wp2_with (first
    | (
      go_at_call 27
      refine (drill_Roll_nil _ _).mono ?_
      rintro e w1 ⟨rfl, k1, rfl⟩
      )
    | (
      go_at_call 30
      refine (drill_Event_nil _ _).mono ?_
      unfold ev0
      rintro e w2 ⟨rfl, m2, _⟩
      )
    | (
      go_at_call 29
      refine (drill_known _).mono ?_
      rintro e w3 ⟨rfl, m3, _⟩
      )
    )
  go_ret
  exact Rets.of rfl (Mod.trans (S := []) (T := []) (Mod.trans (S := []) (T := []) ((Mod.refl _ _).drewN _) m2 (by simp)) m3 (by simp)) trivial
end Go.Proofs.Ytiegnbdoidiffaa
