/- The walks over package mask and davitref01: a mask is a natural number below 2 to the 64. -/
import Derived.Test.YthieionajemjhaaDoorKit
import Derived.Laws.Bits64b
namespace Go.Proofs.YthieionajemjhaaDoor
set_option linter.unusedVariables false
set_option linter.unusedSimpArgs false
open Go.RowKit

theorem wrapU (n : Nat) (h : n < 2 ^ 64) : IntKind.u64.wrap (n : Int) = n := by
  unfold IntKind.wrap
  simp only [IntKind.bits, IntKind.signed]
  simp; omega
theorem pow_lt {i : Nat} (h : i < 64) : 2 ^ i < 2 ^ 64 := Nat.pow_lt_pow_right (by omega) h
theorem testBit_int (a i : Nat) : (((a : Int) / 2 ^ i).tmod 2 == 1) = a.testBit i := by
  rw [Nat.testBit_eq_decide_div_mod_eq]
  have h : ((a : Int) / 2 ^ i) = ((a / 2 ^ i : Nat) : Int) := by simp
  rw [h]
  generalize a / 2 ^ i = q
  rw [Int.tmod_eq_emod_of_nonneg (by omega)]
  by_cases e : q % 2 = 1
  · simp only [e, decide_true]
    have : (q : Int) % 2 = 1 := by omega
    rw [this]; rfl
  · simp only [e, decide_false]
    have : (q : Int) % 2 = 0 := by omega
    rw [this]; rfl
theorem add_pow {a i : Nat} (h : a.testBit i = false) : a + 2 ^ i = a ||| 2 ^ i := by
  have h0 : a / 2 ^ i % 2 = 0 := by
    rw [Nat.testBit_eq_decide_div_mod_eq] at h
    have := of_decide_eq_false h
    omega
  have hp : 0 < 2 ^ i := Nat.pow_pos (by omega)
  have hlo : a % 2 ^ i < 2 ^ i := Nat.mod_lt _ hp
  have ha : a = 2 ^ (i + 1) * (a / 2 ^ i / 2) + a % 2 ^ i := by
    have h1 := Nat.div_add_mod a (2 ^ i)
    have h2 := Nat.div_add_mod (a / 2 ^ i) 2
    rw [Nat.pow_succ, Nat.mul_assoc]
    rw [h0] at h2
    have h3 : 2 * (a / 2 ^ i / 2) = a / 2 ^ i := by omega
    rw [h3]; omega
  generalize a % 2 ^ i = lo at *
  generalize a / 2 ^ i / 2 = hi at *
  subst ha
  have h1 : 2 ^ i + lo = 2 ^ i ||| lo := by have := Nat.two_pow_add_eq_or_of_lt hlo 1; simpa using this
  have h2 : lo < 2 ^ (i + 1) := by rw [Nat.pow_succ]; omega
  have h3 : 2 ^ i + lo < 2 ^ (i + 1) := by rw [Nat.pow_succ]; omega
  rw [Nat.add_assoc, Nat.add_comm lo, Nat.two_pow_add_eq_or_of_lt h3, Nat.two_pow_add_eq_or_of_lt h2, h1, Nat.or_assoc, Nat.or_comm lo]
end Go.Proofs.YthieionajemjhaaDoor
