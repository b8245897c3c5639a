/- The fixed calls of 'known' of layer 21 come to true. -/
import Derived.Test.YtiegnbdoidiffaaStage
import Derived.Test.YtiegnbdoidiffaaArgs
import Derived.Deep.LoopGhost
namespace Go.Proofs.Ytiegnbdoidiffaa
open Go.RowKit

theorem known21 (w : World) : Calls Try.prog 15 #[] w (Rets (.bool true) [] w fun _ => True) := by
  go_enter Try.func15, Try.ntmps15
  go_wp2_with (go_at_call 13; refine (New_ok 3 _ (by omega) (by omega)).mono ?_; rintro e w1 ⟨rfl, m1, hs1, x1⟩)
  go_wp2_with (go_at_call 16; refine (show Calls _ _ _ _ (Rets (.int .i64 0) _ _ fun w' => XRun w' w.heap.size ⟨3, 1, false⟩) from Done_any _ _ _ x1).mono ?_; rintro e w2 ⟨rfl, m2, x2⟩)
  go_wp2_with (go_at_call 18; refine (show Calls _ _ _ _ (Rets (.int .i64 0) _ _ fun w' => XRun w' w.heap.size ⟨3, 1, true⟩) from Fail_any _ _ _ x2).mono ?_; rintro e w3 ⟨rfl, m3, x3⟩)
  go_wp2_with (go_at_call 20; refine (show Calls _ _ _ _ (Ret (.tuple #[.int .i64 0, .bool true, .bool false]) _) from At_any _ _ _ x3).mono ?_; rintro e w4 ⟨rfl, k4, rfl⟩)
  have x4 : XRun (w3.drewN k4) w.heap.size ⟨3, 1, true⟩ := x3
  go_wp2_with (go_at_call 16; refine (show Calls _ _ _ _ (Rets (.int .i64 0) _ _ fun w' => XRun w' w.heap.size ⟨3, 0, true⟩) from Done_any _ _ _ x4).mono ?_; rintro e w5 ⟨rfl, m5, x5⟩)
  go_wp2_with (go_at_call 22; refine (show Calls _ _ _ _ (Ret (.int .i64 11) _) from Why_any _ _ _ x5).mono ?_; rintro e w6 ⟨rfl, k6, rfl⟩)
  have x6 : XRun (w5.drewN k6) w.heap.size ⟨3, 0, true⟩ := x5
  go_wp2_with (go_at_call 24; refine (show Calls _ _ _ _ (Ret (.int .i64 0) _) from Many_any _ _ _ x6).mono ?_; rintro e w7 ⟨rfl, k7, rfl⟩)
  go_ret
  refine Rets.of rfl ?_ trivial
  exact ((((((((m1.trans m2 (by simp)).trans m3 (by simp))).drewN _).trans m5 (by simp)).drewN _)))

theorem StageNil_walk (w : World) (n : Int) (hn : (Lit.int .i64 n).wf = true) : Calls Try.prog 5 #[.int .i64 n] w (Rets (.bool true) [] w fun _ => True) := by
  have hb := i64bd hn
  clear hn
  go_enter Try.func5, Try.ntmps5
  go_wp2
  go_loopg [4] 3 (fun g i wr => ∃ k : Nat, i = .int .i64 k ∧ k + g = 3 ∧ Drew w wr)
  case atStart => exact ⟨0, rfl, by omega, Drew.refl _⟩
  case round =>
    obtain ⟨k, rfl, hk, kd, rfl⟩ := hrel
    by_cases h3 : (k : Int) < n ∧ k < 3
    · obtain ⟨h3, h4⟩ := h3
      go_wp2_with (go_at_call 16; refine (Done_nil _).mono ?_; rintro e w1 ⟨rfl, k1, rfl⟩)
      go_roundg (gk - 1)
      case measure => omega
      case rel => exact ⟨k + 1, by go_num, by omega, _, rfl⟩
    · have h4 : ¬ ((k : Int) < n) ∨ ((k : Int) < n ∧ ¬ (k < 3)) := by omega
      clear h3
      rcases h4 with h4 | ⟨h3, h4⟩
      all_goals
        go_wp2_with (go_at_call 20; refine (At_nil _).mono ?_; rintro e w1 ⟨rfl, k1, rfl⟩)
        go_wp2_with (go_at_call 16; refine (Done_nil _).mono ?_; rintro e w1 ⟨rfl, k2, rfl⟩)
        go_wp2_with (go_at_call 18; refine (Fail_nil _).mono ?_; rintro e w1 ⟨rfl, k3, rfl⟩)
        go_wp2_with (go_at_call 22; refine (Why_nil _).mono ?_; rintro e w1 ⟨rfl, k4, rfl⟩)
        go_wp2_with (go_at_call 24; refine (Many_nil _).mono ?_; rintro e w1 ⟨rfl, k5, rfl⟩)
        go_wp2_with (go_at_call 15; refine (known21 _).mono ?_; rintro e w1 ⟨rfl, m1, _⟩)
        go_ret
        exact Rets.of rfl (((Mod.refl _ _).drewN _).trans m1 (by simp)) trivial
end Go.Proofs.Ytiegnbdoidiffaa
