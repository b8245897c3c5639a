/- The walk over DrillFirst: a shorter script is the first part of a longer one. -/
import Derived.Test.YtiegnbdoidiffaaDrillEvents
namespace Go.Proofs.Ytiegnbdoidiffaa
set_option linter.unusedVariables false
set_option linter.unusedSimpArgs false
open Go.RowKit

set_option maxRecDepth 100000 in
set_option maxHeartbeats 2000000 in
theorem DrillFirst_walk (w : World) (c : Int) (_hc : (Lit.int .i64 c).wf = true) (x : Int) (_hx : (Lit.int .u64 x).wf = true) (n : Int) (_hn : (Lit.int .i64 n).wf = true) (m : Int) (_hm : (Lit.int .i64 m).wf = true) :
    Calls Try.prog 8 #[.int .i64 c, .int .u64 x, .int .i64 n, .int .i64 m] w (Rets (.bool true) [] w fun _ => True) := by
  by_cases ok1 : okS c n
  · obtain ⟨a, rfl⟩ := Int.eq_ofNat_of_zero_le ok1.2.1
    have hS := fun w => drill_Script c x a w ok1
    have ha := ok1.2.2
    by_cases ok2 : okS c m
    · obtain ⟨b, rfl⟩ := Int.eq_ofNat_of_zero_le ok2.2.1
      have hT := fun w => drill_Script c x b w ok2
      have hb := ok2.2.2
      clear ok1 ok2
      by_cases hab : a ≤ b
      · have hab2 : ¬ ((b : Int) < a) := by omega
        go_enter Try.func8, Try.ntmps8
        go_wp2_with (first
          | (
            go_at_call 32
            have hx := hS
            refine (hS _).mono ?_
            rintro e w4 ⟨g1, cap1, rfl, m4, r4, _⟩
            clear hx hS
            )
          | (
            go_at_call 32
            have hx := m4
            refine (hT _).mono ?_
            rintro e w5 ⟨g2, cap2, rfl, m5, r5, _⟩
            have r4' := r4.keep m5 (by simp)
            have cc2 := r5.cap
            unfold maxLen at cc2
            obtain ⟨cc21, cc22⟩ := cc2
            clear hT
            )
          | (
            go_at_call 34
            have r5' := r5.take hab
            rw [evs_take c x hab] at r5'
            refine (ref_Same c x a (by omega) g1 g2 cap1 cap2 _ (by exact r4') (by exact r5')).mono ?_
            rintro e w6 ⟨rfl, k6, rfl⟩
            )
          | (
            go_at_call 29
            refine (drill_known _).mono ?_
            rintro e w7 ⟨rfl, m7, _⟩
            )
          )
        go_ret
        exact Rets.of rfl ((m4.trans m5 (by simp)).trans m7.undrewN (by simp)) trivial
      · have hab2 : (b : Int) < a := by omega
        go_enter Try.func8, Try.ntmps8
        go_wp2_with (first
          | (
            go_at_call 32
            have hx := hS
            refine (hS _).mono ?_
            rintro e w4 ⟨g1, cap1, rfl, m4, r4, _⟩
            clear hx hS
            )
          | (
            go_at_call 32
            have hx := m4
            refine (hT _).mono ?_
            rintro e w5 ⟨g2, cap2, rfl, m5, r5, _⟩
            have r4' := r4.keep m5 (by simp)
            have cc2 := r5.cap
            unfold maxLen at cc2
            obtain ⟨cc21, cc22⟩ := cc2
            clear hT
            )
          | (
            go_at_call 29
            refine (drill_known _).mono ?_
            rintro e w7 ⟨rfl, m7, _⟩
            )
          )
        go_ret
        exact Rets.of rfl ((m4.trans m5 (by simp)).trans m7 (by simp)) trivial
    · have hT := fun w => drill_Script_no c x m w ok2
      clear ok1 ok2
      go_enter Try.func8, Try.ntmps8
      go_wp2_with (first
        | (
          go_at_call 32
          have hx := hS
          refine (hS _).mono ?_
          rintro e w4 ⟨g1, cap1, rfl, m4, r4, _⟩
          clear hx hS
          )
        | (
          go_at_call 32
          have hx := m4
          refine (hT _).mono ?_
          rintro e w5 ⟨rfl, k5, rfl⟩
          )
        | (
          go_at_call 29
          refine (drill_known _).mono ?_
          rintro e w7 ⟨rfl, m7, _⟩
          )
        )
      go_ret
      exact Rets.of rfl (m4.trans m7.undrewN (by simp)) trivial
  · have hS := fun w => drill_Script_no c x n w ok1
    have hT := drill_Script_any c x m
    clear ok1
    go_enter Try.func8, Try.ntmps8
    go_wp2_with (first
      | (
        go_at_call 32
        have hx := hS
        refine (hS _).mono ?_
        rintro e w4 ⟨rfl, k4, rfl⟩
        clear hx hS
        )
      | (
        go_at_call 32
        have hx := hT
        refine (hT _).mono ?_
        rintro e w5 ⟨g2, cap2, k2, er2, rfl, b2, m5, r5, o5⟩
        clear hx hT
        )
      | (
        go_at_call 29
        refine (drill_known _).mono ?_
        rintro e w7 ⟨rfl, m7, _⟩
        )
      )
    go_ret
    exact Rets.of rfl (Mod.trans (S := []) (T := []) m5.undrewN m7 (by simp)) trivial
end Go.Proofs.Ytiegnbdoidiffaa
