/- The fixed calls of 'known' of layer 6 come to true. -/
import Derived.Test.YtiegnbdoidiffaaSplitRef
namespace Go.Proofs.Ytiegnbdoidiffaa
set_option linter.unusedVariables false
set_option linter.unusedSimpArgs false
open Go.RowKit

set_option maxRecDepth 100000 in
theorem known06 (w : World) : Calls Try.prog 36 #[] w (Rets (.bool true) [] w fun _ => True) := by
  go_enter Try.func36, Try.ntmps36
  go_wp2_with (go_at_call 35; refine (split_New_ok 2 _ (by omega) (by omega)).mono ?_; rintro e w1 ⟨rfl, m1, hs1, x1⟩)
  go_wp2_with (go_at_call 38; refine (show Calls _ _ _ _ (Rets (.int .i64 0) _ _ fun w' => SplitAt 93 w' (w.heap.size + 1) w.heap.size [5, 0]) from split_Add _ _ _ 0 5 (by decide) _ x1).mono ?_; rintro e w2 ⟨rfl, m2, x2⟩; clear x1)
  refine (show Calls _ _ _ _ (Rets (.int .i64 0) _ _ fun w' => SplitAt 93 w' (w.heap.size + 1) w.heap.size [5, -2]) from split_Add _ _ _ 1 (-2) (by decide) _ x2).mono ?_
  rintro e w3 ⟨rfl, m3, x3⟩
  go_wp2_with (go_at_call 37; refine (show Calls _ _ _ _ (Rets (.int .i64 0) _ _ fun w' => SplitAt 93 w' (w.heap.size + 1) w.heap.size [3, 0]) from split_Fold _ _ _ 1 0 _ x3).mono ?_; rintro e w4 ⟨rfl, m4, x4⟩)
  go_wp2_with (go_at_call 39; refine (show Calls _ _ _ _ (Ret (.tuple #[.int .i64 3, .int .i64 0]) _) from split_Sum _ _ _ _ x4).mono ?_; rintro e w' ⟨rfl, k1, rfl⟩)
  go_wp2_with (go_at_call 46; refine (split_List _ _ [3, 0] _ (by exact x4.same rfl)).mono ?_; rintro e w5 ⟨rfl, m5, hl⟩)
  refine (show Calls _ _ _ _ (Ret (.bool true) _) from same64 w4.heap.size w5.heap.size [3, 0] [3, 0] _ (by decide) (by decide) (heapOld hl) (heapNew w5 (Obj.cells (rowI .i64 [3, 0]) 2))).mono ?_
  rintro e w' ⟨rfl, k2, rfl⟩
  go_wp2
  go_ret
  refine Rets.of rfl ?_ trivial
  exact (((((((m1.trans m2 (by simp)).trans m3 (by simp)).trans m4 (by simp)).drewN _).trans m5 (by simp)).alloc _).drewN _)

/-- SplitNil's walk. -/
theorem SplitNil_walk (w : World) (c : Int) (hc : (Lit.int .i64 c).wf = true) (n : Int) (hn : (Lit.int .i64 n).wf = true) : Calls Try.prog 12 #[.int .i64 c, .int .i64 n] w (Rets (.bool true) [] w fun _ => True) := by
  clear hc hn
  go_enter Try.func12, Try.ntmps12
  go_wp2_with (first | (go_at_call 44; refine (split_Get_nil _ _).mono ?_; rintro e w' ⟨rfl, k1, rfl⟩) | (go_at_call 39; refine (split_Sum_nil _).mono ?_; rintro e w' ⟨rfl, k2, rfl⟩) | (go_at_call 38; refine (split_Add_nil _ _ _).mono ?_; rintro e w' ⟨rfl, k3, rfl⟩) | (go_at_call 37; refine (split_Fold_nil _ _ _).mono ?_; rintro e w' ⟨rfl, k4, rfl⟩) | (go_at_call 46; refine (split_List_nil _).mono ?_; rintro e w' ⟨rfl, k5, rfl⟩) | (go_at_call 36; refine (known06 _).mono ?_; rintro e w7 ⟨rfl, m7, _⟩))
  go_ret
  exact Rets.of rfl (((Mod.refl _ _).drewN _).trans m7 (by simp)) trivial
end Go.Proofs.Ytiegnbdoidiffaa
