/- The walks over the dice's Event, the program's. -/
import Derived.Test.YtiegnbdoidiffaaEvent
namespace Go.Proofs.Ytiegnbdoidiffaa
set_option linter.unusedVariables false
set_option linter.unusedSimpArgs false
open Go.RowKit

set_option maxRecDepth 100000 in
set_option maxHeartbeats 1000000 in
theorem drill_Event_no (d : Nat) (x c : Int) (w : World) (h : DiceAt 82 w d x) (hc : ¬ rightC c) : Calls Try.prog 30 #[.pointer (some ⟨d, 0, none⟩), .int .i64 c] w (Rets ev0 [d] w fun w' => DiceAt 82 w' d x) := by
  have hc2 := decide_eq_false hc
  clear hc
  go_enter Try.func30, Try.ntmps30
  go_wp2_with (go_at_call 48; refine (drill_right _ _).mono ?_; rintro e w' ⟨rfl, k1, rfl⟩)
  unfold ev0
  refine bodyPost_ret_by (v := .agg #[.int .i64 0, .int .i64 0, .int .i64 0, .int .u64 0, .int .i64 0]) ?_ rfl ?_
  · refine results_ev (T := 48) rfl rfl ((heapSet (heapSet (heapSet (heapSet (heapSet (heapNew _ _) 0 _) 1 _) 2 _) 3 _) 4 _).trans ?_)
    simp
  · refine Rets.of rfl ?_ (h.keep (S := []) ?_ (by simp))
    · repeat (first | with_reducible exact Mod.refl _ _ | with_reducible apply Mod.alloc | with_reducible apply Mod.drewN | with_reducible apply Mod.drew | with_reducible refine Mod.setCell ?_ (by first | (simp; done) | (simp; omega)) _)
    · repeat (first | with_reducible exact Mod.refl _ _ | with_reducible apply Mod.alloc | with_reducible apply Mod.drewN | with_reducible apply Mod.drew | with_reducible refine Mod.setCell ?_ (by first | (simp; done) | (simp; omega)) _)
end Go.Proofs.Ytiegnbdoidiffaa
