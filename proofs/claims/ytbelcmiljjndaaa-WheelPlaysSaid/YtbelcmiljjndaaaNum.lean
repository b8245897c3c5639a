/- The walks over sums of two 64-bit numbers in packages num and davitref02: the sum, or that it does not fit. No condition but that the numbers are 64-bit ones. -/
import Derived.Test.YtbelcmiljjndaaaKit
namespace Go.Proofs.Ytbelcmiljjndaaa
set_option linter.unusedVariables false
set_option linter.unusedSimpArgs false
open Go.RowKit

def In64 (n : Int) : Prop := -9223372036854775808 ≤ n ∧ n ≤ 9223372036854775807
instance (n : Int) : Decidable (In64 n) := by unfold In64; infer_instance
def addV (a b : Int) : Int := if In64 (a + b) then a + b else 0
def addE (a b : Int) : Int := if In64 (a + b) then 0 else 16


theorem fit_yes (n : Int) (w : World) : Calls Try.prog 114 #[.int .i64 n, .bool true] w (Ret (.tuple #[.int .i64 n, .int .i64 0]) w) := by
  go_enter Try.func114, Try.ntmps114
  go_wp2
  go_ret2
  exact Ret.of (rfl) (by repeat (first | exact Drew.refl _ | apply Drew.drewN | apply Drew.drew))
theorem fit_no (n : Int) (w : World) : Calls Try.prog 114 #[.int .i64 n, .bool false] w (Ret (.tuple #[.int .i64 0, .int .i64 16]) w) := by
  go_enter Try.func114, Try.ntmps114
  go_wp2
  go_ret2
  exact Ret.of (rfl) (by repeat (first | exact Drew.refl _ | apply Drew.drewN | apply Drew.drew))

theorem numAdd (a b : Int) (w : World) (ha : In64 a) (hb : In64 b) : Calls Try.prog 103 #[.int .i64 a, .int .i64 b] w (Ret (.tuple #[.int .i64 (addV a b), .int .i64 (addE a b)]) w) := by
  obtain ⟨ha1, ha2⟩ := ha
  obtain ⟨hb1, hb2⟩ := hb
  by_cases h : In64 (a + b)
  · have hV : addV a b = a + b := by simp [addV, h]
    have hE : addE a b = 0 := by simp [addE, h]
    rw [hV, hE]
    clear hV hE
    obtain ⟨h1, h2⟩ := h
    by_cases hb0 : b < 0
    · have e1 : decide (a + b < a) = true := decide_eq_true (by omega)
      have e2 : decide (b < 0) = true := decide_eq_true hb0
      go_enter Try.func103, Try.ntmps103
      go_wp2_with (go_at_call 114; refine (fit_yes _ _).mono ?_; rintro e w' ⟨rfl, k, rfl⟩)
      go_ret2
      exact Ret.of (rfl) (by repeat (first | exact Drew.refl _ | apply Drew.drewN | apply Drew.drew))
    · have e1 : decide (a + b < a) = false := decide_eq_false (by omega)
      have e2 : decide (b < 0) = false := decide_eq_false hb0
      go_enter Try.func103, Try.ntmps103
      go_wp2_with (go_at_call 114; refine (fit_yes _ _).mono ?_; rintro e w' ⟨rfl, k, rfl⟩)
      go_ret2
      exact Ret.of (rfl) (by repeat (first | exact Drew.refl _ | apply Drew.drewN | apply Drew.drew))
  · have hV : addV a b = 0 := by simp [addV, h]
    have hE : addE a b = 16 := by simp [addE, h]
    rw [hV, hE]
    clear hV hE
    unfold In64 at h
    by_cases hb0 : b < 0
    · have e0 : wrap64 (a + b) = a + b + 18446744073709551616 := by unfold wrap64; omega
      have e1 : decide (wrap64 (a + b) < a) = false := decide_eq_false (by omega)
      have e2 : decide (b < 0) = true := decide_eq_true hb0
      clear e0
      go_enter Try.func103, Try.ntmps103
      go_wp2_with (go_at_call 114; refine (fit_no _ _).mono ?_; rintro e w' ⟨rfl, k, rfl⟩)
      go_ret2
      exact Ret.of (rfl) (by repeat (first | exact Drew.refl _ | apply Drew.drewN | apply Drew.drew))
    · have e0 : wrap64 (a + b) = a + b - 18446744073709551616 := by unfold wrap64; omega
      have e1 : decide (wrap64 (a + b) < a) = true := decide_eq_true (by omega)
      have e2 : decide (b < 0) = false := decide_eq_false hb0
      clear e0
      go_enter Try.func103, Try.ntmps103
      go_wp2_with (go_at_call 114; refine (fit_no _ _).mono ?_; rintro e w' ⟨rfl, k, rfl⟩)
      go_ret2
      exact Ret.of (rfl) (by repeat (first | exact Drew.refl _ | apply Drew.drewN | apply Drew.drew))


end Go.Proofs.Ytbelcmiljjndaaa
