/- The arithmetic of a wheel: the level at which two ticks part, the digit there. Plain: no program. -/
import Derived.Test.YthieionajemjhaaDoorWheelPut
namespace Go.Proofs.YthieionajemjhaaDoor
set_option linter.unusedVariables false
set_option linter.unusedSimpArgs false
open Go.RowKit

/-- What stands above the digits below level n. -/
def hiW (n a : Nat) : Nat := a / 2 ^ (3 * n)
theorem hiW_succ (n a : Nat) : hiW n a = 8 * hiW (n + 1) a + digW a n := by
  unfold hiW digW
  have e : 2 ^ (3 * (n + 1)) = 2 ^ (3 * n) * 8 := by rw [Nat.mul_add, Nat.pow_add]
  rw [e, ← Nat.div_div_eq_div_mul]
  omega
theorem hiW_mono (n : Nat) {a b : Nat} (h : a ≤ b) : hiW n a ≤ hiW n b := Nat.div_le_div_right h
theorem hiW_up {n m a b : Nat} (hnm : n ≤ m) (h : hiW n a = hiW n b) : hiW m a = hiW m b := by
  unfold hiW at *
  have e : 3 * m = 3 * n + 3 * (m - n) := by omega
  rw [e, Nat.pow_add, ← Nat.div_div_eq_div_mul, ← Nat.div_div_eq_div_mul, h]
theorem hiW_xor (n a b : Nat) : hiW n a = hiW n b ↔ a ^^^ b < 2 ^ (3 * n) := by
  unfold hiW
  rw [← Nat.shiftRight_eq_div_pow, ← Nat.shiftRight_eq_div_pow]
  constructor
  · intro h
    have h1 : (a ^^^ b) >>> (3 * n) = 0 := by rw [Nat.shiftRight_xor_distrib, h, Nat.xor_self]
    rw [Nat.shiftRight_eq_div_pow] at h1
    rcases Nat.lt_or_ge (a ^^^ b) (2 ^ (3 * n)) with h2 | h2
    · exact h2
    · have := Nat.div_pos h2 (Nat.pow_pos (by omega)); omega
  · intro h
    have h1 : (a ^^^ b) >>> (3 * n) = 0 := by rw [Nat.shiftRight_eq_div_pow]; exact Nat.div_eq_of_lt h
    rw [Nat.shiftRight_xor_distrib] at h1
    apply Nat.eq_of_testBit_eq
    intro i
    have := congrArg (fun x => x.testBit i) h1
    simpa [Nat.testBit_xor] using this
theorem libBit_spec (x : Nat) : x < 2 ^ 64 → x < 2 ^ Lib.bitLen x ∧ (x ≠ 0 → 2 ^ (Lib.bitLen x - 1) ≤ x) := by
  induction x using Nat.strongRecOn with
  | ind x ih =>
    intro hx
    by_cases h0 : x = 0
    · subst h0
      exact ⟨by show 0 < _; exact Nat.pow_pos (by omega), fun h => absurd rfl h⟩
    · have e := Lib.bitLen_half x h0 hx
      obtain ⟨i1, i2⟩ := ih (x / 2) (by omega) (by omega)
      rw [e]
      refine ⟨?_, fun _ => ?_⟩
      · rw [Nat.add_comm, Nat.pow_succ]; omega
      · by_cases h1 : x / 2 = 0
        · rw [h1]
          show 2 ^ (1 + 0 - 1) ≤ x
          omega
        · have hp := bitLen_pos h1
          have := i2 h1
          have e2 : 2 ^ (1 + Lib.bitLen (x / 2) - 1) = 2 ^ (Lib.bitLen (x / 2) - 1) * 2 := by rw [← Nat.pow_succ]; congr 1; omega
          rw [e2]; omega
theorem lvl_spec {a b : Nat} (h : a ≠ b) (ha : a ≤ 1152921504606846976) (hb : b ≤ 1152921504606846976) : hiW (lvlW a b + 1) a = hiW (lvlW a b + 1) b ∧ hiW (lvlW a b) a ≠ hiW (lvlW a b) b := by
  have hx := xor_ne h
  have hx2 : a ^^^ b < 2 ^ 62 := Nat.xor_lt_two_pow (by omega) (by omega)
  obtain ⟨h1, h2⟩ := libBit_spec (a ^^^ b) (by omega)
  have h3 := h2 hx
  have hp := bitLen_pos hx
  refine ⟨(hiW_xor _ _ _).2 (Nat.lt_of_lt_of_le h1 (Nat.pow_le_pow_right (by omega) ?_)), fun he => ?_⟩
  · unfold lvlW; omega
  · have h4 := (hiW_xor _ _ _).1 he
    have h5 : 2 ^ (3 * lvlW a b) ≤ 2 ^ (Lib.bitLen (a ^^^ b) - 1) := Nat.pow_le_pow_right (by omega) (by unfold lvlW; omega)
    omega
theorem lvl_unique {a b m : Nat} (ha : a ≤ 1152921504606846976) (hb : b ≤ 1152921504606846976) (h1 : hiW (m + 1) a = hiW (m + 1) b) (h2 : hiW m a ≠ hiW m b) : lvlW a b = m := by
  have hne : a ≠ b := fun h => h2 (by rw [h])
  obtain ⟨s1, s2⟩ := lvl_spec hne ha hb
  rcases Nat.lt_trichotomy (lvlW a b) m with h | h | h
  · exact absurd (hiW_up (by omega) s1) h2
  · exact h
  · exact absurd (hiW_up (by omega) h1) s2
theorem hiW_lt {n a b : Nat} (h : hiW n a < hiW n b) : a < b := by
  rcases Nat.lt_or_ge a b with h1 | h1
  · exact h1
  · have := hiW_mono n h1; omega
/-- A thing that lies beyond what a Go to t takes stays where it is. -/
theorem idxW_stays {now t due : Nat} (hn : now < t) (hd : now < due) (ht : t ≤ 1152921504606846976) (hdd : due ≤ 1152921504606846976)
    (h : ¬ (lvlW due now < lvlW t now ∨ (lvlW due now = lvlW t now ∧ digW due (lvlW due now) ≤ digW t (lvlW t now)))) : idxW t due = idxW now due := by
  obtain ⟨a1, a2⟩ := lvl_spec (a := due) (b := now) (by omega) hdd (by omega)
  obtain ⟨b1, b2⟩ := lvl_spec (a := t) (b := now) (by omega) ht (by omega)
  have key : t < due ∧ lvlW due t = lvlW due now := by
    generalize lvlW due now = lv at *
    generalize lvlW t now = top at *
    rcases Nat.lt_trichotomy lv top with hl | hl | hl
    · exact absurd (.inl hl) h
    · subst hl
      have hdig : digW t lv < digW due lv := by
        rcases Nat.lt_or_ge (digW t lv) (digW due lv) with h1 | h1
        · exact h1
        · exact absurd (.inr ⟨rfl, h1⟩) h
      have e : hiW (lv + 1) due = hiW (lv + 1) t := a1.trans b1.symm
      have s1 := hiW_succ lv due
      have s2 := hiW_succ lv t
      rw [e] at s1
      exact ⟨hiW_lt (n := lv) (by omega), lvl_unique hdd ht e (by omega)⟩
    · have e0 : hiW lv t = hiW lv now := hiW_up (by omega) b1
      have e1 : hiW (lv + 1) t = hiW (lv + 1) now := hiW_up (by omega) b1
      have hge := hiW_mono lv (Nat.le_of_lt hd)
      refine ⟨hiW_lt (n := lv) (by omega), lvl_unique hdd ht (a1.trans e1.symm) (by rw [e0]; exact a2)⟩
  unfold idxW
  rw [if_neg (by omega), if_neg (by omega), key.2]
/-- What lies in an earlier slot is due earlier. -/
theorem idxW_order {now a b : Nat} (hn : now ≤ 1152921504606846976) (ha : now < a) (hb : now < b) (haa : a ≤ 1152921504606846976) (hbb : b ≤ 1152921504606846976) (h : idxW now a < idxW now b) : a < b := by
  unfold idxW at h
  rw [if_neg (by omega), if_neg (by omega)] at h
  obtain ⟨a1, a2⟩ := lvl_spec (a := a) (b := now) (by omega) haa hn
  obtain ⟨b1, b2⟩ := lvl_spec (a := b) (b := now) (by omega) hbb hn
  have d1 := digW_bd a (lvlW a now)
  have d2 := digW_bd b (lvlW b now)
  generalize lvlW a now = la at *
  generalize lvlW b now = lb at *
  rcases Nat.lt_or_ge la lb with hl | hl
  · have e0 : hiW lb a = hiW lb now := hiW_up (by omega) a1
    have hge := hiW_mono lb (Nat.le_of_lt hb)
    exact hiW_lt (n := lb) (by omega)
  · have e : la = lb := by omega
    subst e
    have e : hiW (la + 1) a = hiW (la + 1) b := a1.trans b1.symm
    have s1 := hiW_succ la a
    have s2 := hiW_succ la b
    rw [e] at s1
    exact hiW_lt (n := la) (by omega)
end Go.Proofs.YthieionajemjhaaDoor
