/- The law StageUndoes: its walk comes to true at every input. No condition. -/
import Derived.Test.YtiegnbdoidiffaaStageKnown
namespace Go.Proofs.Ytiegnbdoidiffaa
open Go.RowKit

theorem sFwd {n i : Nat} (h : i < n) : (⟨n, i, false⟩ : SRun).over = false := by simp [SRun.over]; omega
theorem sBack (n i : Nat) : (⟨n, i + 1, true⟩ : SRun).over = false := by simp [SRun.over]
theorem sEnd (n : Nat) : (⟨n, 0, true⟩ : SRun).over = true := by simp [SRun.over]

theorem StageUndoes_walk (w : World) (n : Int) (_hn : (Lit.int .i64 n).wf = true) (a : Int) (_ha : (Lit.int .i64 a).wf = true) :
    Calls Try.prog 4 #[.int .i64 n, .int .i64 a] w (Rets (.bool true) [] w fun _ => True) := by
  by_cases hn : 1 ≤ n ∧ n ≤ 64
  · obtain ⟨h1, h2⟩ := hn
    obtain ⟨n, rfl⟩ := Int.eq_ofNat_of_zero_le (show 0 ≤ n by omega)
    by_cases ha : 0 ≤ a ∧ a < n
    · obtain ⟨h3, h4⟩ := ha
      obtain ⟨a, rfl⟩ := Int.eq_ofNat_of_zero_le h3
      have hd1 : decide ((a : Int) < 0) = false := decide_eq_false (by omega)
      have hd2 : decide (n ≤ a) = false := decide_eq_false (by omega)
      go_enter Try.func4, Try.ntmps4
      go_wp2_with (go_at_call 13; refine (New_ok n _ (by omega) (by omega)).mono ?_; rintro e w1 ⟨rfl, m1, hs1, x1⟩)
      go_loopg [7] a (fun g i wr => ∃ k : Nat, i = .int .i64 k ∧ k + g = a ∧ XRun wr w.heap.size ⟨n, k, false⟩ ∧ Mod [] w wr)
      case atStart => exact ⟨0, rfl, by omega, x1, m1⟩
      case round =>
        obtain ⟨k, rfl, hk, x, m⟩ := hrel
        by_cases hka : k < a
        · have A1 := At_any _ _ _ x
          have e1 := sFwd (show k < n by omega)
          rw [show (⟨n, k, false⟩ : SRun).k = k by simp [SRun.k, e1], e1] at A1
          go_wp2_with (go_at_call 20; refine A1.mono ?_; rintro e w1 ⟨rfl, k1, rfl⟩)
          have D1 := Done_any w.heap.size ⟨n, k, false⟩ (wr.drewN k1) x
          rw [show (⟨n, k, false⟩ : SRun).doneE = 0 by simp [SRun.doneE, e1], show (⟨n, k, false⟩ : SRun).done = ⟨n, k + 1, false⟩ by simp [SRun.done, e1]] at D1
          go_wp2_with (go_at_call 16; refine D1.mono ?_; rintro e w3 ⟨rfl, m3, x3⟩)
          go_roundg (gk - 1)
          case measure => omega
          case rel => exact ⟨k + 1, by go_num, by omega, x3, (m.drewN _).trans m3 (by simp)⟩
        · obtain rfl : k = a := by omega
          have F1 := Fail_any _ _ _ x
          have e1 := sFwd (show k < n by omega)
          rw [show (⟨n, k, false⟩ : SRun).failE = 0 by simp [SRun.failE, e1], show (⟨n, k, false⟩ : SRun).fail = ⟨n, k, true⟩ by simp [SRun.fail, e1]] at F1
          go_wp2_with (go_at_call 18; refine F1.mono ?_; rintro e w4 ⟨rfl, m4, x4⟩)
          have m5 := m.trans m4 (by simp)
          clear e1
          go_loopg [11] k (fun g i wr => i = .int .i64 ((g : Int) - 1) ∧ g ≤ k ∧ XRun wr w.heap.size ⟨n, g, true⟩ ∧ Mod [] w wr)
          case atStart => exact ⟨rfl, by omega, x4, m5⟩
          case round =>
            obtain ⟨rfl, hgk, x, m⟩ := hrel
            by_cases hg : gk = 0
            · subst hg
              have e1 := sEnd n
              have A1 := At_any _ _ _ x
              rw [show (⟨n, 0, true⟩ : SRun).k = 0 by simp [SRun.k, e1], e1] at A1
              go_wp2_with (go_at_call 20; refine A1.mono ?_; rintro e w1 ⟨rfl, k1, rfl⟩)
              have x1 : XRun (wr.drewN k1) w.heap.size ⟨n, 0, true⟩ := x
              have W1 := Why_any _ _ _ x1
              rw [show (⟨n, 0, true⟩ : SRun).why = 11 by simp [SRun.why, e1]] at W1
              go_wp2_with (go_at_call 22; refine W1.mono ?_; rintro e w1 ⟨rfl, k2, rfl⟩)
              go_wp2_with (go_at_call 24; refine (Many_any w.heap.size ⟨n, 0, true⟩ (wr.drewN (k1 + k2)) x).mono ?_; rintro e w1 ⟨rfl, k3, rfl⟩)
              have D1 := Done_any w.heap.size ⟨n, 0, true⟩ (wr.drewN (k1 + k2 + k3)) x
              rw [show (⟨n, 0, true⟩ : SRun).doneE = 6 by simp [SRun.doneE, e1]] at D1
              go_wp2_with (go_at_call 16; refine D1.mono ?_; rintro e w6 ⟨rfl, m6, _⟩)
              go_wp2_with (go_at_call 15; refine (known21 _).mono ?_; rintro e w7 ⟨rfl, m7, _⟩)
              go_ret
              exact Rets.of rfl (((m.drewN _).trans m6 (by simp)).trans m7 (by simp)) trivial
            · obtain ⟨j, rfl⟩ : ∃ j, gk = j + 1 := ⟨gk - 1, by omega⟩
              have e1 := sBack n j
              have A1 := At_any _ _ _ x
              rw [show (⟨n, j + 1, true⟩ : SRun).k = j by simp [SRun.k, e1], e1] at A1
              rw [show (((j + 1 : Nat) : Int) - 1) = (j : Int) by omega]
              go_wp2_with (go_at_call 20; refine A1.mono ?_; rintro e w1 ⟨rfl, k1, rfl⟩)
              have W1 := Why_any w.heap.size ⟨n, j + 1, true⟩ (wr.drewN k1) x
              rw [show (⟨n, j + 1, true⟩ : SRun).why = 7 by simp [SRun.why, e1]] at W1
              go_wp2_with (go_at_call 22; refine W1.mono ?_; rintro e w1 ⟨rfl, k2, rfl⟩)
              have F1 := Fail_any w.heap.size ⟨n, j + 1, true⟩ (wr.drewN (k1 + k2)) x
              rw [show (⟨n, j + 1, true⟩ : SRun).failE = 6 by simp [SRun.failE], show (⟨n, j + 1, true⟩ : SRun).fail = ⟨n, j + 1, true⟩ by simp [SRun.fail]] at F1
              go_wp2_with (go_at_call 18; refine F1.mono ?_; rintro e w5 ⟨rfl, m5, x5⟩)
              have D1 := Done_any _ _ _ x5
              rw [show (⟨n, j + 1, true⟩ : SRun).doneE = 0 by simp [SRun.doneE, e1], show (⟨n, j + 1, true⟩ : SRun).done = ⟨n, j, true⟩ by simp [SRun.done, e1]] at D1
              go_wp2_with (go_at_call 16; refine D1.mono ?_; rintro e w6 ⟨rfl, m6, x6⟩)
              go_roundg j
              case measure => omega
              case rel => exact ⟨rfl, by omega, x6, ((m.drewN _).trans m5 (by simp)).trans m6 (by simp)⟩
    · have h4 : a < 0 ∨ (0 ≤ a ∧ (n : Int) ≤ a) := by omega
      clear ha
      rcases h4 with h4 | ⟨h3, h4⟩
      all_goals
        go_enter Try.func4, Try.ntmps4
        go_wp2_with (go_at_call 13; refine (New_ok n _ (by omega) (by omega)).mono ?_; rintro e w1 ⟨rfl, m1, hs1, x1⟩)
        go_wp2_with (go_at_call 15; refine (known21 _).mono ?_; rintro e w7 ⟨rfl, m7, _⟩)
        go_ret
        exact Rets.of rfl (m1.trans m7 (by simp)) trivial
  · have h4 : n < 1 ∨ 64 < n := by omega
    clear hn
    have hN := New_no n w h4
    rcases h4 with h4 | h4
    all_goals
      go_enter Try.func4, Try.ntmps4
      go_wp2_with (go_at_call 13; refine hN.mono ?_; rintro e w1 ⟨rfl, k1, rfl⟩)
      go_wp2_with (go_at_call 15; refine (known21 _).mono ?_; rintro e w7 ⟨rfl, m7, _⟩)
      go_ret
      exact Rets.of rfl (((Mod.refl _ _).drewN _).trans m7 (by simp)) trivial
end Go.Proofs.Ytiegnbdoidiffaa
