/- The walk over package davitlaw37's known: a drill at fixed numbers. -/
import Derived.Test.YtiegnbdoidiffaaSame
namespace Go.Proofs.Ytiegnbdoidiffaa
set_option linter.unusedVariables false
set_option linter.unusedSimpArgs false
open Go.RowKit

theorem known_roll : dV 0 1000 = 807 := by decide
set_option maxRecDepth 100000 in
set_option maxHeartbeats 2000000 in
theorem drill_known (w : World) : Calls Try.prog 29 #[] w (Rets (.bool true) [] w fun _ => True) := by
  have hS : ∀ w, Calls Try.prog 32 #[.int .i64 2, .int .u64 7, .int .i64 40] w (ScriptDo 2 7 40 w) := fun w => drill_Script 2 7 40 w (by decide)
  have hR : ∀ d w, DiceAt 82 w d 0 → Calls Try.prog 27 #[.pointer (some ⟨d, 0, none⟩), .int .i64 1000] w (Rets (.int .i64 807) [d] w fun w' => DiceAt 82 w' d (dN 0 1000)) := fun d w h => by
    have := drill_Roll d 0 1000 w h
    rwa [known_roll] at this
  go_enter Try.func29, Try.ntmps29
  go_wp2_with (first
    | (
      go_at_call 26
      refine (drill_New _ _).mono ?_
      rintro e w1 ⟨rfl, m1, s1, x1⟩
      )
    | (
      go_at_call 32
      refine (hS _).mono ?_
      rintro e w2 ⟨g, cap, rfl, m2, r2, _⟩
      have x2 := x1.keep m2 (by simp)
      )
    | (
      go_at_call 27
      refine (hR _ _ (by exact x2)).mono ?_
      rintro e w3 ⟨rfl, m3, x3⟩
      )
    )
  go_ret
  exact Rets.of rfl ((m1.trans m2 (by simp)).trans m3 (by simp)) trivial
theorem drill_Event_nil (c : Int) (w : World) : Calls Try.prog 30 #[.pointer none, .int .i64 c] w (Rets ev0 [] w fun _ => True) := by
  unfold ev0
  go_enter Try.func30, Try.ntmps30
  go_wp2
  refine bodyPost_ret_by (v := .agg #[.int .i64 0, .int .i64 0, .int .i64 0, .int .u64 0, .int .i64 0]) ?_ rfl ?_
  · refine results_ev (T := 48) rfl rfl (heapNew _ _)
  · refine Rets.of rfl ?_ trivial
    repeat (first | with_reducible exact Mod.refl _ _ | with_reducible apply Mod.alloc | with_reducible apply Mod.drewN | with_reducible apply Mod.drew | with_reducible refine Mod.setCell ?_ (by first | (simp; done) | (simp; omega)) _)
end Go.Proofs.Ytiegnbdoidiffaa
