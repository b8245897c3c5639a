/- The walk over DrillEvents: twelve events of both dice, and both scripts. -/
import Derived.Test.YtiegnbdoidiffaaDrillKnown
import Derived.Test.YtiegnbdoidiffaaArgs
namespace Go.Proofs.Ytiegnbdoidiffaa
set_option linter.unusedVariables false
set_option linter.unusedSimpArgs false
open Go.RowKit
theorem evR_form (y c : Int) : ∃ k u i m n : Int, evR y c = .agg #[.int .i64 k, .int .i64 u, .int .i64 i, .int .u64 m, .int .i64 n] := evC_form2 y c
theorem RAt.take {T : TypeId} {sz : Nat} {w : World} {g : Option Nat} {cap n m : Nat} {xs : List Value} (h : RAt T sz w g cap m xs) (hn : n ≤ m) : RAt T sz w g cap n (xs.take (n * sz)) := by
  have hmul := Nat.mul_le_mul_right sz hn
  refine ⟨by have := h.1; rw [List.length_take]; omega, ?_⟩
  cases g with
  | none => obtain ⟨_, rfl, rfl⟩ := h; exact ⟨by omega, rfl⟩
  | some g =>
    obtain ⟨h0, cur, h1, h2, h3, h4, h5⟩ := h
    refine ⟨cur, h1, by omega, h3, h4, ?_⟩
    rw [← h5, List.take_take, Nat.min_eq_left hmul]
/-- What both scripts hand back, be the numbers fit or not. -/
def ScriptAny (c x n : Int) (w : World) (e : Ending) (w' : World) : Prop :=
  ∃ g cap k er, e = .returned (.tuple #[.slice (rA g) (k : Nat) cap, .int .i64 er]) ∧ k ≤ 600 ∧ Mod [] w w' ∧ RAt 48 5 w' g cap k (evs c x k) ∧ ((okS c n ∧ er = 0 ∧ n = k) ∨ (¬ okS c n ∧ er = 2 ∧ k = 0 ∧ cap = 0))
theorem drill_Script_any (c x n : Int) (w : World) : Calls Try.prog 32 #[.int .i64 c, .int .u64 x, .int .i64 n] w (ScriptAny c x n w) := by
  by_cases h : okS c n
  · obtain ⟨h1, h2, h3⟩ := h
    obtain ⟨k, rfl⟩ := Int.eq_ofNat_of_zero_le h2
    refine (drill_Script c x k w ⟨h1, h2, h3⟩).mono ?_
    rintro e w' ⟨g, cap, rfl, m, r, _⟩
    exact ⟨g, cap, k, 0, rfl, by omega, m, r, .inl ⟨⟨h1, h2, h3⟩, rfl, rfl⟩⟩
  · refine (drill_Script_no c x n w h).mono ?_
    rintro e w' ⟨rfl, k, rfl⟩
    exact ⟨none, 0, 0, 2, rfl, by omega, (Mod.refl _ _).drewN _, RAt.nil _ _ _, .inr ⟨h, rfl, rfl, rfl⟩⟩
theorem rdrill_Script_any (c x n : Int) (w : World) : Calls Try.prog 33 #[.int .i64 c, .int .u64 x, .int .i64 n] w (ScriptAny c x n w) := by
  by_cases h : okS c n
  · obtain ⟨h1, h2, h3⟩ := h
    obtain ⟨k, rfl⟩ := Int.eq_ofNat_of_zero_le h2
    refine (rdrill_Script c x k w ⟨h1, h2, h3⟩).mono ?_
    rintro e w' ⟨g, cap, rfl, m, r, _⟩
    exact ⟨g, cap, k, 0, rfl, by omega, m, r, .inl ⟨⟨h1, h2, h3⟩, rfl, rfl⟩⟩
  · refine (rdrill_Script_no c x n w h).mono ?_
    rintro e w' ⟨rfl, k, rfl⟩
    exact ⟨none, 0, 0, 2, rfl, by omega, (Mod.refl _ _).drewN _, RAt.nil _ _ _, .inr ⟨h, rfl, rfl, rfl⟩⟩

set_option maxRecDepth 100000 in
set_option maxHeartbeats 2000000 in
theorem DrillEvents_walk (w : World) (c : Int) (_hc : (Lit.int .i64 c).wf = true) (x : Int) (_hx : (Lit.int .u64 x).wf = true) (n : Int) (_hn : (Lit.int .i64 n).wf = true) :
    Calls Try.prog 7 #[.int .i64 c, .int .u64 x, .int .i64 n] w (Rets (.bool true) [] w fun _ => True) := by
  have hS := drill_Script_any c x n
  have hT := rdrill_Script_any c x n
  go_enter Try.func7, Try.ntmps7
  go_wp2_with (go_at_call 26; refine (drill_New _ _).mono ?_; rintro e w1 ⟨rfl, m1, s1, x1⟩)
  go_loopg [9] 12 (fun gg i wr => ∃ (j : Nat) (y : Int), i = .int .i64 j ∧ j + gg = 12 ∧ DiceAt 82 wr w.heap.size y ∧ DiceAt 44 wr w1.heap.size y ∧ Mod [] w wr)
  case atStart => exact ⟨0, x, rfl, by omega, heapOld x1, heapNew _ _, m1.alloc _⟩
  case round =>
    obtain ⟨j, y, rfl, hj, hd1, hd2, m⟩ := hrel
    by_cases hlt : j < 12
    · obtain ⟨k, u, a, mm, z, he⟩ := evC_form2 y c
      have h1 := drill_Event w.heap.size y c wr hd1
      have h2 := fun w' h => rdrill_Event w1.heap.size y c w' h
      rw [he] at h1 h2
      clear he hd1
      go_wp2_with (first
        | (
          go_at_call 30
          refine h1.mono ?_
          rintro e w2 ⟨rfl, m2, x2⟩
          )
        | (
          go_at_call 31
          refine (h2 _ (by exact hd2.keep m2 (by simp; omega))).mono ?_
          rintro e w3 ⟨rfl, m3, x3⟩
          )
        )
      go_roundg (gk - 1)
      case measure => omega
      case rel => exact ⟨j + 1, _, by go_num, by omega, x2.keep m3 (by simp; omega), x3, (m.trans m2 (by simp)).trans m3 (by simp; omega)⟩
    · go_wp2_with (first
        | (
          go_at_call 32
          refine (hS _).mono ?_
          rintro e w4 ⟨g1, cap1, k1, er1, rfl, b1, m4, r4, o4⟩
          )
        | (
          go_at_call 33
          refine (hT _).mono ?_
          rintro e w5 ⟨g2, cap2, k2, er2, rfl, b2, m5, r5, o5⟩
          have r4' := r4.keep m5 (by simp)
          obtain ⟨rfl, rfl⟩ : k1 = k2 ∧ er1 = er2 := by
            rcases o4 with ⟨o, rfl, o3⟩ | ⟨o, rfl, o3, _⟩
            · rcases o5 with ⟨o', rfl, o3'⟩ | ⟨o', _, _⟩
              · exact ⟨by omega, rfl⟩
              · exact absurd o o'
            · rcases o5 with ⟨o', _, _⟩ | ⟨_, rfl, o3', _⟩
              · exact absurd o' o
              · exact ⟨by omega, rfl⟩
          clear o4 o5
          )
        | (
          go_at_call 34
          refine (ref_Same c x k1 (by omega) g1 g2 cap1 cap2 _ (by exact r4') (by exact r5)).mono ?_
          rintro e w6 ⟨rfl, k6, rfl⟩
          )
        | (
          go_at_call 29
          refine (drill_known _).mono ?_
          rintro e w7 ⟨rfl, m7, _⟩
          )
        )
      go_ret
      exact Rets.of rfl (((m.trans m4 (by simp)).trans m5 (by simp)).trans m7.undrewN (by simp)) trivial
end Go.Proofs.Ytiegnbdoidiffaa
