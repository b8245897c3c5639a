/- A wheel of package wheel in memory: its lists, its map; the walks over its small functions. No condition but those named. -/
import Derived.Test.YthieionajemjhaaDoorInts
import Derived.Test.YthieionajemjhaaDoorMap
import Derived.Test.YthieionajemjhaaDoorShelfWheel
import Derived.Shelf.Strconv.Itoa0
namespace Go.Proofs.YthieionajemjhaaDoor
set_option linter.unusedVariables false
set_option linter.unusedSimpArgs false
open Go.RowKit

/-- A tick that fits. -/
def tickOk (t : Int) : Prop := 0 ≤ t ∧ t ≤ 1152921504606846976
instance (t : Int) : Decidable (tickOk t) := by unfold tickOk; infer_instance
theorem wheel_right (t : Int) (w : World) : Calls Tryd.prog 55 #[.int .i64 t] w (Ret (.bool (decide (tickOk t))) w) := by
  by_cases h0 : 0 ≤ t
  · by_cases h1 : t ≤ 1152921504606846976
    · go_enter Tryd.func55, Tryd.ntmps55
      go_wp2
      go_ret
      exact Ret.of (by simp [tickOk, h0, h1]) (by repeat (first | exact Drew.refl _ | apply Drew.drewN | apply Drew.drew))
    · go_enter Tryd.func55, Tryd.ntmps55
      go_wp2
      go_ret
      exact Ret.of (by simp [tickOk, h0, h1]) (by repeat (first | exact Drew.refl _ | apply Drew.drewN | apply Drew.drew))
  · have hD : decide (tickOk t) = false := decide_eq_false (fun x => h0 x.1)
    rw [hD]
    clear hD
    go_enter Tryd.func55, Tryd.ntmps55
    go_wp2
    go_ret
    exact Ret.of (rfl) (by repeat (first | exact Drew.refl _ | apply Drew.drewN | apply Drew.drew))
/-- The digit of a tick at a level; the level at which two ticks part. -/
def digW (t : Nat) (lv : Nat) : Nat := t / 2 ^ (3 * lv) % 8
def lvlW (a b : Nat) : Nat := (Lib.bitLen (a ^^^ b) - 1) / 3
theorem digW_bd (t lv : Nat) : digW t lv < 8 := Nat.mod_lt _ (by omega)
set_option maxHeartbeats 1000000 in
theorem wheel_digit (t lv : Nat) (ht : t ≤ 1152921504606846976) (hl : lv ≤ 20) (w : World) : Calls Tryd.prog 63 #[.int .i64 t, .int .i64 lv] w (Ret (.int .i64 (digW t lv)) w) := by
  have hc : lv = 0 ∨ lv = 1 ∨ lv = 2 ∨ lv = 3 ∨ lv = 4 ∨ lv = 5 ∨ lv = 6 ∨ lv = 7 ∨ lv = 8 ∨ lv = 9 ∨ lv = 10 ∨ lv = 11 ∨ lv = 12 ∨ lv = 13 ∨ lv = 14 ∨ lv = 15 ∨ lv = 16 ∨ lv = 17 ∨ lv = 18 ∨ lv = 19 ∨ lv = 20 := by omega
  rcases hc with rfl | rfl | rfl | rfl | rfl | rfl | rfl | rfl | rfl | rfl | rfl | rfl | rfl | rfl | rfl | rfl | rfl | rfl | rfl | rfl | rfl
  all_goals
    go_enter Tryd.func63, Tryd.ntmps63
    go_wp2
    go_ret
    refine Ret.of (congrArg (Value.int IntKind.i64) ?_) (by repeat (first | exact Drew.refl _ | apply Drew.drewN | apply Drew.drew))
    simp only [digW, Nat.reducePow, Nat.reduceMul]
    first | omega | (simp only [wrap64]; omega)
theorem len64 (x : Nat) (hx : x < 2 ^ 64) (w : World) : Calls Tryd.prog 73 #[.int .u64 x] w (Ret (.int .i64 (Lib.bitLen x)) w) := by
  have h := Any.bits_Len64 lenL (x : Int) w (by omega) (by omega)
  refine Calls.mono (show Calls Tryd.prog 73 _ _ _ from h) ?_
  rintro e w' ⟨rfl, rfl⟩
  exact Ret.of (by simp) (by repeat (first | exact Drew.refl _ | apply Drew.drewN | apply Drew.drew))
theorem wrap64_small {n : Int} (h0 : 0 ≤ n) (h1 : n < 9223372036854775808) : wrap64 n = n := by unfold wrap64; omega
theorem xor_i64 (a b : Nat) (ha : a < 2 ^ 62) (hb : b < 2 ^ 62) : bits .xor .i64 (a : Int) (b : Int) = ((a ^^^ b : Nat) : Int) := by
  have hx : a ^^^ b < 2 ^ 62 := Nat.xor_lt_two_pow ha hb
  have h1 : (BitVec.ofInt 64 (a : Int)).toNat = a := by
    rw [BitVec.ofInt_natCast, BitVec.toNat_ofNat]; exact Nat.mod_eq_of_lt (by omega)
  have h2 : (BitVec.ofInt 64 (b : Int)).toNat = b := by
    rw [BitVec.ofInt_natCast, BitVec.toNat_ofNat]; exact Nat.mod_eq_of_lt (by omega)
  show IntKind.i64.wrap ((BitVec.ofInt 64 (a : Int) ^^^ BitVec.ofInt 64 (b : Int)).toNat : Int) = _
  rw [BitVec.toNat_xor, h1, h2]
  simp only [IntKind.wrap, IntKind.bits, IntKind.signed]
  simp
  omega
theorem bitLen_pos {x : Nat} (h : x ≠ 0) : 0 < Lib.bitLen x := by
  unfold Lib.bitLen Lib.bitLenAux
  rw [if_neg h]; omega
theorem xor_ne {a b : Nat} (h : a ≠ b) : a ^^^ b ≠ 0 := by
  intro h0
  apply h
  apply Nat.eq_of_testBit_eq
  intro i
  have := congrArg (fun n => n.testBit i) h0
  simpa [Nat.testBit_xor] using this
set_option maxHeartbeats 1000000 in
theorem wheel_level (a b : Nat) (ha : a ≤ 1152921504606846976) (hb : b ≤ 1152921504606846976) (hab : a ≠ b) (w : World) : Calls Tryd.prog 61 #[.int .i64 a, .int .i64 b] w (Ret (.int .i64 (lvlW a b)) w) := by
  have hx : a ^^^ b < 2 ^ 62 := Nat.xor_lt_two_pow (by omega) (by omega)
  have hB := xor_i64 a b (by omega) (by omega)
  have hL := fun w => len64 (a ^^^ b) (by omega) w
  have hU : IntKind.u64.wrap (((a ^^^ b : Nat)) : Int) = ((a ^^^ b : Nat) : Int) := by rw [IntKind.wrap_u64]; omega
  unfold lvlW
  have hp : 0 < Lib.bitLen (a ^^^ b) := bitLen_pos (xor_ne hab)
  have hle : Lib.bitLen (a ^^^ b) ≤ 64 := Lib.bitLen_le _ 64 (by omega) (by omega)
  generalize a ^^^ b = x at *
  generalize Lib.bitLen x = l at *
  have hc : ((l - 1 : Nat) : Int) = (l : Int) - 1 := by omega
  go_enter Tryd.func61, Tryd.ntmps61
  go_wp2_with (go_at_call 73; refine (hL _).mono ?_; rintro e w' ⟨rfl, k1, rfl⟩)
  go_ret
  exact Ret.of (by show Value.int .i64 _ = _; congr 1; omega) (by repeat (first | exact Drew.refl _ | apply Drew.drewN | apply Drew.drew))
end Go.Proofs.YthieionajemjhaaDoor
