/- The walks over Upto, the program's and the document's. -/
import Derived.Test.YtiegnbdoidiffaaMask
import Derived.Deep.LoopGhost
namespace Go.Proofs.Ytiegnbdoidiffaa
set_option linter.unusedVariables false
set_option linter.unusedSimpArgs false
open Go.RowKit

def uptoM (n : Int) : Nat := 2 ^ (min n.toNat 64) - 1
theorem pow_pos2 (i : Nat) : 1 ≤ 2 ^ i := Nat.pow_pos (by omega)
theorem uptoM_lt (n : Int) : uptoM n < 2 ^ 64 := by
  unfold uptoM
  have h : 2 ^ (min n.toNat 64) ≤ 2 ^ 64 := Nat.pow_le_pow_right (by omega) (by omega)
  have := pow_pos2 (min n.toNat 64)
  omega
theorem mask_Upto (n : Int) (w : World) : Calls Try.prog 51 #[.int .i64 n] w (Ret (.int .u64 (uptoM n)) w) := by
  by_cases h0 : n ≤ 0
  · have hU : uptoM n = 0 := by
      have : min n.toNat 64 = 0 := by omega
      simp [uptoM, this]
    have HU := Lib.hid hU
    clear hU
    go_enter Try.func51, Try.ntmps51
    go_wp2
    go_ret
    exact Ret.of (by rw [HU.out]; rfl) (by repeat (first | exact Drew.refl _ | apply Drew.drewN | apply Drew.drew))
  · by_cases h1 : 64 ≤ n
    · have hU : uptoM n = 18446744073709551615 := by
        have : min n.toNat 64 = 64 := by omega
        simp [uptoM, this]
      have HU := Lib.hid hU
      clear hU
      go_enter Try.func51, Try.ntmps51
      go_wp2
      go_ret
      exact Ret.of (by rw [HU.out]; rfl) (by repeat (first | exact Drew.refl _ | apply Drew.drewN | apply Drew.drew))
    · obtain ⟨m, rfl⟩ := Int.eq_ofNat_of_zero_le (show 0 ≤ n by omega)
      have hm : m < 64 := by omega
      have hU : IntKind.u64.wrap (((2 ^ m : Nat) : Int) - 1) = ((uptoM m : Nat) : Int) := by
        have e : uptoM m = 2 ^ m - 1 := by
          have : min (m : Int).toNat 64 = m := by omega
          unfold uptoM; rw [this]
        have h2 := pow_pos2 m
        have h3 := pow_lt hm
        rw [e, show ((2 ^ m : Nat) : Int) - 1 = ((2 ^ m - 1 : Nat) : Int) by rw [Int.natCast_sub h2]; rfl]
        exact wrapU _ (by omega)
      have HU := Lib.hid hU
      clear hU
      have hO := mask_one m
      go_enter Try.func51, Try.ntmps51
      go_wp2_with (go_at_call 59; refine (hO _ hm).mono ?_; rintro e w' ⟨rfl, k, rfl⟩)
      go_ret
      exact Ret.of (by rw [← HU.out]; rfl) (by repeat (first | exact Drew.refl _ | apply Drew.drewN | apply Drew.drew))

theorem upto_step (i : Nat) : (2 ^ i - 1) ||| 2 ^ i = 2 ^ (i + 1) - 1 := by
  rw [← add_pow (by rw [Nat.testBit_two_pow_sub_one]; simp), Nat.pow_succ]
  have := pow_pos2 i
  omega
theorem rmask_Upto (n : Int) (w : World) : Calls Try.prog 53 #[.int .i64 n] w (Ret (.int .u64 (uptoM n)) w) := by
  go_enter Try.func53, Try.ntmps53
  go_wp2
  go_loopg [3, 4] 64 (fun gg m i wr => ∃ j : Nat, i = .int .i64 j ∧ m = .int .u64 ((2 ^ j - 1 : Nat) : Int) ∧ j + gg = 64 ∧ (j = 0 ∨ (j : Int) ≤ n) ∧ Drew w wr)
  case atStart => exact ⟨0, rfl, by simp, by omega, .inl rfl, Drew.refl _⟩
  case round =>
    obtain ⟨j, rfl, rfl, hj, hn, hd⟩ := hrel
    obtain ⟨kd, rfl⟩ := hd
    by_cases h : (j : Int) < n ∧ j < 64
    · obtain ⟨h1, h2⟩ := h
      have hlt : 2 ^ j - 1 < 2 ^ 64 := by have := pow_lt h2; omega
      have hS := upto_step j
      have hW := fun w => rmask_With (2 ^ j - 1) j w hlt h2
      rw [hS] at hW
      clear hS
      generalize hA : (2 ^ j - 1 : Nat) = A at *
      generalize hB : (2 ^ (j + 1) - 1 : Nat) = B at *
      have HB := Lib.hid hB
      clear hA hB hlt
      go_wp2_with (go_at_call 62; refine (hW _).mono ?_; rintro e w' ⟨rfl, k, rfl⟩)
      go_roundg (gk - 1)
      case measure => omega
      case rel => exact ⟨j + 1, by go_num, by rw [HB.out], by omega, .inr (by omega), ⟨kd + k, by first | rfl | simp⟩⟩
    · have hU : uptoM n = 2 ^ j - 1 := by
        have : min n.toNat 64 = j := by omega
        simp [uptoM, this]
      have HU := Lib.hid hU
      clear hU
      generalize (2 ^ j - 1 : Nat) = A at *
      have hne : ¬ ((j : Int) < n) ∨ ((j : Int) < n ∧ ¬ (j : Int) < 64) := by omega
      clear h
      rcases hne with h4 | ⟨h3, h4⟩
      all_goals
        go_wp2
        go_ret
        exact Ret.of (by rw [HU.out]; rfl) (by repeat (first | exact Drew.refl _ | apply Drew.drewN | apply Drew.drew))
end Go.Proofs.Ytiegnbdoidiffaa
