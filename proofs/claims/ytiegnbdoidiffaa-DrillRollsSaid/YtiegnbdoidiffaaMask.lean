/- The walks over package mask and davitref01: a mask is a natural number below 2 to the 64. -/
import Derived.Test.YtiegnbdoidiffaaKit
import Derived.Laws.Bits64b
namespace Go.Proofs.Ytiegnbdoidiffaa
set_option linter.unusedVariables false
set_option linter.unusedSimpArgs false
open Go.RowKit

theorem wrapU (n : Nat) (h : n < 2 ^ 64) : IntKind.u64.wrap (n : Int) = n := by
  unfold IntKind.wrap
  simp only [IntKind.bits, IntKind.signed]
  simp; omega
theorem pow_lt {i : Nat} (h : i < 64) : 2 ^ i < 2 ^ 64 := Nat.pow_lt_pow_right (by omega) h
theorem mask_And (a b : Nat) (w : World) (ha : a < 2 ^ 64) (hb : b < 2 ^ 64) : Calls Try.prog 50 #[.int .u64 a, .int .u64 b] w (Ret (.int .u64 (a &&& b : Nat)) w) := by
  have hB := Lib.hid (bits_and_u64_nat a b ha hb)
  go_enter Try.func50, Try.ntmps50
  go_wp2
  go_ret
  exact Ret.of (by rw [← hB.out]; rfl) (by repeat (first | exact Drew.refl _ | apply Drew.drewN | apply Drew.drew))
theorem mask_one (a : Nat) (w : World) (ha : a < 64) : Calls Try.prog 59 #[.int .i64 a] w (Ret (.int .u64 (2 ^ a : Nat)) w) := by
  have hW := wrapU (2 ^ a) (pow_lt ha)
  rw [Int.natCast_pow] at hW
  have HW := Lib.hid hW
  clear hW
  go_enter Try.func59, Try.ntmps59
  go_wp2
  go_ret
  exact Ret.of (by rw [Int.natCast_pow, ← HW.out]; rfl) (by repeat (first | exact Drew.refl _ | apply Drew.drewN | apply Drew.drew))
theorem testBit_int (a i : Nat) : (((a : Int) / 2 ^ i).tmod 2 == 1) = a.testBit i := by
  rw [Nat.testBit_eq_decide_div_mod_eq]
  have h : ((a : Int) / 2 ^ i) = ((a / 2 ^ i : Nat) : Int) := by simp
  rw [h]
  generalize a / 2 ^ i = q
  rw [Int.tmod_eq_emod_of_nonneg (by omega)]
  by_cases e : q % 2 = 1
  · simp only [e, decide_true]
    have : (q : Int) % 2 = 1 := by omega
    rw [this]; rfl
  · simp only [e, decide_false]
    have : (q : Int) % 2 = 0 := by omega
    rw [this]; rfl
theorem rmask_Has (a i : Nat) (w : World) (hi : i < 64) : Calls Try.prog 60 #[.int .u64 a, .int .i64 i] w (Ret (.bool (a.testBit i)) w) := by
  have HT := Lib.hid (testBit_int a i)
  go_enter Try.func60, Try.ntmps60
  go_wp2
  go_ret
  exact Ret.of (by rw [← HT.out]; rfl) (by repeat (first | exact Drew.refl _ | apply Drew.drewN | apply Drew.drew))
theorem add_pow {a i : Nat} (h : a.testBit i = false) : a + 2 ^ i = a ||| 2 ^ i := by
  have h0 : a / 2 ^ i % 2 = 0 := by
    rw [Nat.testBit_eq_decide_div_mod_eq] at h
    have := of_decide_eq_false h
    omega
  have hp : 0 < 2 ^ i := Nat.pow_pos (by omega)
  have hlo : a % 2 ^ i < 2 ^ i := Nat.mod_lt _ hp
  have ha : a = 2 ^ (i + 1) * (a / 2 ^ i / 2) + a % 2 ^ i := by
    have h1 := Nat.div_add_mod a (2 ^ i)
    have h2 := Nat.div_add_mod (a / 2 ^ i) 2
    rw [Nat.pow_succ, Nat.mul_assoc]
    rw [h0] at h2
    have h3 : 2 * (a / 2 ^ i / 2) = a / 2 ^ i := by omega
    rw [h3]; omega
  generalize a % 2 ^ i = lo at *
  generalize a / 2 ^ i / 2 = hi at *
  subst ha
  have h1 : 2 ^ i + lo = 2 ^ i ||| lo := by have := Nat.two_pow_add_eq_or_of_lt hlo 1; simpa using this
  have h2 : lo < 2 ^ (i + 1) := by rw [Nat.pow_succ]; omega
  have h3 : 2 ^ i + lo < 2 ^ (i + 1) := by rw [Nat.pow_succ]; omega
  rw [Nat.add_assoc, Nat.add_comm lo, Nat.two_pow_add_eq_or_of_lt h3, Nat.two_pow_add_eq_or_of_lt h2, h1, Nat.or_assoc, Nat.or_comm lo]
theorem rmask_With (a i : Nat) (w : World) (ha : a < 2 ^ 64) (hi : i < 64) : Calls Try.prog 62 #[.int .u64 a, .int .i64 i] w (Ret (.int .u64 (a ||| 2 ^ i : Nat)) w) := by
  cases hb : a.testBit i
  · have h1 : IntKind.u64.wrap ((a : Int) + IntKind.u64.wrap (2 ^ i)) = ((a ||| 2 ^ i : Nat) : Int) := by
      have h2 := wrapU (2 ^ i) (pow_lt hi)
      rw [Int.natCast_pow] at h2
      rw [show (2 : Int) ^ i = ((2 : Nat) : Int) ^ i from rfl, h2, ← Int.natCast_pow, ← Int.natCast_add, add_pow hb]
      exact wrapU _ (Nat.or_lt_two_pow ha (pow_lt hi))
    have H1 := Lib.hid h1
    clear h1
    go_enter Try.func62, Try.ntmps62
    go_wp2_with (go_at_call 60; refine (rmask_Has a i _ hi).mono ?_; rw [hb]; rintro e w' ⟨rfl, k, rfl⟩)
    go_ret
    exact Ret.of (by rw [← H1.out]; rfl) (by repeat (first | exact Drew.refl _ | apply Drew.drewN | apply Drew.drew))
  · have h1 : a ||| 2 ^ i = a := by
      apply Nat.eq_of_testBit_eq
      intro j
      rw [Nat.testBit_or, Nat.testBit_two_pow]
      by_cases e : i = j
      · subst e; simp [hb]
      · simp [e]
    rw [h1]
    clear h1
    go_enter Try.func62, Try.ntmps62
    go_wp2_with (go_at_call 60; refine (rmask_Has a i _ hi).mono ?_; rw [hb]; rintro e w' ⟨rfl, k, rfl⟩)
    go_ret
    exact Ret.of (rfl) (by repeat (first | exact Drew.refl _ | apply Drew.drewN | apply Drew.drew))
end Go.Proofs.Ytiegnbdoidiffaa
