/- The fixed calls of 'known' of layer 19 come to true; the law GateNil's walk. -/
import Derived.Test.YtbelcmiljjndaaaGate
namespace Go.Proofs.Ytbelcmiljjndaaa
set_option linter.unusedVariables false
set_option linter.unusedSimpArgs false
open Go.RowKit

set_option maxRecDepth 100000 in
theorem known19 (w : World) : Calls Try.prog 20 #[] w (Rets (.bool true) [] w fun _ => True) := by
  go_enter Try.func20, Try.ntmps20
  go_wp2_with (go_at_call 18; refine (gate_New_ok 2 _ (by omega) (by omega)).mono ?_; rintro e w1 ⟨g, b, r, rfl, m1, hb, x1⟩)
  go_wp2_with (go_at_call 28; refine (show Calls _ _ _ _ (Rets (.int .i64 0) _ _ fun w' => GateAt w' g b r ⟨[1, 0], 0⟩) from gate_Enter _ _ _ _ 0 _ x1).mono ?_; rintro e w2 ⟨rfl, m2, x2⟩; clear x1)
  go_wp2_with (go_at_call 27; refine (show Calls _ _ _ _ (Rets (.int .i64 0) _ _ fun w' => GateAt w' g b r ⟨[1, 0], 1⟩) from gate_Want _ _ _ _ _ x2).mono ?_; rintro e w3 ⟨rfl, m3, x3⟩)
  refine (show Calls _ _ _ _ (Rets (.int .i64 7) _ _ fun w' => GateAt w' g b r ⟨[1, 0], 1⟩) from gate_Enter _ _ _ _ 1 _ x3).mono ?_
  rintro e w4 ⟨rfl, m4, x4⟩
  go_wp2_with (go_at_call 30; refine (show Calls _ _ _ _ (Rets (.int .i64 7) _ _ fun w' => GateAt w' g b r ⟨[1, 0], 1⟩) from gate_Take _ _ _ _ _ x4).mono ?_; rintro e w5 ⟨rfl, m5, x5⟩; clear x4)
  go_wp2_with (go_at_call 29; refine (show Calls _ _ _ _ (Rets (.int .i64 0) _ _ fun w' => GateAt w' g b r ⟨[0, 0], 1⟩) from gate_Leave _ _ _ _ 0 _ x5).mono ?_; rintro e w6 ⟨rfl, m6, x6⟩)
  refine (show Calls _ _ _ _ (Rets (.int .i64 0) _ _ fun w' => GateAt w' g b r ⟨[0, 0], 2⟩) from gate_Take _ _ _ _ _ x6).mono ?_
  rintro e w7 ⟨rfl, m7, x7⟩
  go_wp2_with (go_at_call 22; refine (gate_State _ _ _ _ _ x7).mono ?_; rintro e w8 ⟨rfl, k8, rfl⟩)
  go_ret
  refine Rets.of rfl ?_ trivial
  exact ((((((m1.trans m2 (by simp [hb])).trans m3 (by simp [hb])).trans m4 (by simp [hb])).trans m5 (by simp [hb])).trans m6 (by simp [hb])).trans m7 (by simp [hb])).drewN _

theorem GateNil_walk (w : World) (c : Int) (hc : (Lit.int .i64 c).wf = true) : Calls Try.prog 6 #[.int .i64 c] w (Rets (.bool true) [] w fun _ => True) := by
  clear hc
  go_enter Try.func6, Try.ntmps6
  go_wp2_with (first | (go_at_call 28; refine (gate_Enter_nil _ _).mono ?_; rintro e w' ⟨rfl, k1, rfl⟩) | (go_at_call 29; refine (gate_Leave_nil _ _).mono ?_; rintro e w' ⟨rfl, k2, rfl⟩) | (go_at_call 27; refine (gate_Want_nil _).mono ?_; rintro e w' ⟨rfl, k3, rfl⟩) | (go_at_call 30; refine (gate_Take_nil _).mono ?_; rintro e w' ⟨rfl, k4, rfl⟩) | (go_at_call 26; refine (gate_Free_nil _).mono ?_; rintro e w' ⟨rfl, k5, rfl⟩) | (go_at_call 22; refine (gate_State_nil _).mono ?_; rintro e w' ⟨rfl, k6, rfl⟩) | (go_at_call 23; refine (gate_Readers_nil _).mono ?_; rintro e w' ⟨rfl, k7, rfl⟩) | (go_at_call 25; refine (gate_On_nil _ _).mono ?_; rintro e w' ⟨rfl, k8, rfl⟩) | (go_at_call 20; refine (known19 _).mono ?_; rintro e w7 ⟨rfl, m7, _⟩))
  go_ret
  exact Rets.of rfl (((Mod.refl _ _).drewN _).trans m7 (by simp)) trivial
end Go.Proofs.Ytbelcmiljjndaaa
