/- Several texts in one (each with its own sentence below). -/
import Derived.Test.YtaakgpnmfkmdoaaGreatDoorBaseM
import Derived.Deep.LoopGhost
import Derived.Test.YtaakgpnmfkmdoaaGreatDoorTimerM
import Derived.Deep.OwnRows
import Derived.Deep.MidRow
import Derived.Test.YtaakgpnmfkmdoaaGreatDoorKAM
/- Arrays and slices of structs as rows of cells: reading and writing one cell of one of them. No program in sight. -/
namespace Go.Proofs.YtaakgpnmfkmdoaaGreatDoor
set_option linter.unusedVariables false
set_option linter.unusedSimpArgs false
open Go.RowKit

def gupd {α : Type} (f : Nat → α) (k : Nat) (v : α) : Nat → α := fun j => if j = k then v else f j
theorem gupd_same {α : Type} (f : Nat → α) (k : Nat) (v : α) : gupd f k v k = v := if_pos rfl
theorem gupd_ne {α : Type} (f : Nat → α) {k j : Nat} (v : α) (h : j ≠ k) : gupd f k v j = f j := if_neg h
/-- n things of k cells each. -/
def gridV (n : Nat) (f : Nat → List Value) : List Value := (List.range n).flatMap f
theorem gridV_succ (n : Nat) (f : Nat → List Value) : gridV (n + 1) f = gridV n f ++ f n := by simp [gridV, List.range_succ]
theorem gridV_len {k : Nat} {f : Nat → List Value} (hk : ∀ i, (f i).length = k) : ∀ n, (gridV n f).length = n * k
  | 0 => by simp [gridV]
  | n + 1 => by rw [gridV_succ, List.length_append, gridV_len hk n, hk, Nat.add_mul, Nat.one_mul]
theorem gridV_get {k : Nat} {f : Nat → List Value} (hk : ∀ i, (f i).length = k) {i j : Nat} (hj : j < k) : ∀ n, i < n → (gridV n f)[i * k + j]? = (f i)[j]?
  | 0, h => by omega
  | n + 1, h => by
    rw [gridV_succ]
    by_cases e : i = n
    · subst e
      rw [List.getElem?_append_right (by rw [gridV_len hk]; omega), gridV_len hk]
      congr 1; omega
    · have hlt : i < n := by omega
      have hle : (i + 1) * k ≤ n * k := Nat.mul_le_mul_right k hlt
      rw [Nat.add_mul, Nat.one_mul] at hle
      rw [List.getElem?_append_left (by rw [gridV_len hk]; omega)]
      exact gridV_get hk hj n hlt
theorem gridV_congr {f g : Nat → List Value} : ∀ n, (∀ i, i < n → f i = g i) → gridV n f = gridV n g
  | 0, _ => rfl
  | n + 1, h => by rw [gridV_succ, gridV_succ, gridV_congr n (fun i hi => h i (by omega)), h n (by omega)]
theorem gridV_set {k : Nat} {f : Nat → List Value} (hk : ∀ i, (f i).length = k) {i j : Nat} (hj : j < k) (v : Value) : ∀ n, i < n → (gridV n f).set (i * k + j) v = gridV n (gupd f i ((f i).set j v))
  | 0, h => by omega
  | n + 1, h => by
    rw [gridV_succ, gridV_succ]
    by_cases e : i = n
    · subst e
      rw [List.set_append_right _ _ (by rw [gridV_len hk]; omega), gridV_len hk, gupd_same, gridV_congr (f := gupd f i ((f i).set j v)) (g := f) i (fun x hx => gupd_ne f _ (by omega))]
      have e : i * k + j - i * k = j := by omega
      rw [e]
    · have hlt : i < n := by omega
      have hle : (i + 1) * k ≤ n * k := Nat.mul_le_mul_right k hlt
      rw [Nat.add_mul, Nat.one_mul] at hle
      rw [List.set_append_left _ _ (by rw [gridV_len hk]; omega), gridV_set hk hj v n hlt, gupd_ne _ _ (by omega)]
/-- The cells of a block: what stands ahead, the things, what stands behind. -/
def blkV (pre : List Value) (n : Nat) (f : Nat → List Value) (post : List Value) : Array Value := (pre ++ gridV n f ++ post).toArray
section
variable {pre post : List Value} {k n : Nat} {f : Nat → List Value}
theorem blkV_get (hk : ∀ i, (f i).length = k) {i j : Nat} (hi : i < n) (hj : j < k) {o : Nat} (ho : o = pre.length + (i * k + j)) : (blkV pre n f post)[o]? = (f i)[j]? := by
  have hle : (i + 1) * k ≤ n * k := Nat.mul_le_mul_right k hi
  rw [Nat.add_mul, Nat.one_mul] at hle
  subst ho
  unfold blkV
  rw [List.getElem?_toArray, List.append_assoc, List.getElem?_append_right (by omega), List.getElem?_append_left (by rw [gridV_len hk]; omega), Nat.add_sub_cancel_left]
  exact gridV_get hk hj n hi
theorem blkV_set (hk : ∀ i, (f i).length = k) {i j : Nat} (hi : i < n) (hj : j < k) (v : Value) {o : Nat} (ho : o = pre.length + (i * k + j)) : (blkV pre n f post).setIfInBounds o v = blkV pre n (gupd f i ((f i).set j v)) post := by
  have hle : (i + 1) * k ≤ n * k := Nat.mul_le_mul_right k hi
  rw [Nat.add_mul, Nat.one_mul] at hle
  subst ho
  unfold blkV
  rw [List.setIfInBounds_toArray, List.append_assoc, List.set_append_right _ _ (by omega), Nat.add_sub_cancel_left, List.set_append_left _ _ (by rw [gridV_len hk]; omega), gridV_set hk hj v n hi, List.append_assoc]
theorem blkV_post (hk : ∀ i, (f i).length = k) {j o : Nat} (ho : o = pre.length + n * k + j) : (blkV pre n f post)[o]? = post[j]? := by
  subst ho
  unfold blkV
  rw [List.getElem?_toArray, List.getElem?_append_right (by rw [List.length_append, gridV_len hk]; omega), List.length_append, gridV_len hk]
  congr 1; omega
theorem blkV_pre {j : Nat} (hj : j < pre.length) : (blkV pre n f post)[j]? = pre[j]? := by
  unfold blkV
  rw [List.getElem?_toArray, List.append_assoc, List.getElem?_append_left hj]
theorem blkV_setPre {j : Nat} (hj : j < pre.length) (v : Value) : (blkV pre n f post).setIfInBounds j v = blkV (pre.set j v) n f post := by
  unfold blkV
  rw [List.setIfInBounds_toArray, List.append_assoc, List.set_append_left _ _ hj, List.append_assoc]
theorem blkV_setPost (hk : ∀ i, (f i).length = k) {j o : Nat} (v : Value) (ho : o = pre.length + n * k + j) : (blkV pre n f post).setIfInBounds o v = blkV pre n f (post.set j v) := by
  subst ho
  unfold blkV
  rw [List.setIfInBounds_toArray, List.set_append_right _ _ (by rw [List.length_append, gridV_len hk]; omega), List.length_append, gridV_len hk]
  have e : pre.length + n * k + j - (pre.length + n * k) = j := by omega
  rw [e]
end
end Go.Proofs.YtaakgpnmfkmdoaaGreatDoor

/- The walks over Upto, the program's and the document's. -/
namespace Go.Proofs.YtaakgpnmfkmdoaaGreatDoor
set_option linter.unusedVariables false
set_option linter.unusedSimpArgs false
open Go.RowKit

def uptoM (n : Int) : Nat := 2 ^ (min n.toNat 64) - 1
theorem pow_pos2 (i : Nat) : 1 ≤ 2 ^ i := Nat.pow_pos (by omega)
theorem uptoM_lt (n : Int) : uptoM n < 2 ^ 64 := by
  unfold uptoM
  have h : 2 ^ (min n.toNat 64) ≤ 2 ^ 64 := Nat.pow_le_pow_right (by omega) (by omega)
  have := pow_pos2 (min n.toNat 64)
  omega
theorem mask_Upto (n : Int) (w : World) : Calls Tryz.prog 42 #[.int .i64 n] w (Ret (.int .u64 (uptoM n)) w) := by
  by_cases h0 : n ≤ 0
  · have hU : uptoM n = 0 := by
      have : min n.toNat 64 = 0 := by omega
      simp [uptoM, this]
    have HU := Lib.hid hU
    clear hU
    go_enter Tryz.func42, Tryz.ntmps42
    go_wp2
    go_ret
    exact Ret.of (by rw [HU.out]; rfl) (by repeat (first | exact Drew.refl _ | apply Drew.drewN | apply Drew.drew))
  · by_cases h1 : 64 ≤ n
    · have hU : uptoM n = 18446744073709551615 := by
        have : min n.toNat 64 = 64 := by omega
        simp [uptoM, this]
      have HU := Lib.hid hU
      clear hU
      go_enter Tryz.func42, Tryz.ntmps42
      go_wp2
      go_ret
      exact Ret.of (by rw [HU.out]; rfl) (by repeat (first | exact Drew.refl _ | apply Drew.drewN | apply Drew.drew))
    · obtain ⟨m, rfl⟩ := Int.eq_ofNat_of_zero_le (show 0 ≤ n by omega)
      have hm : m < 64 := by omega
      have hU : IntKind.u64.wrap (((2 ^ m : Nat) : Int) - 1) = ((uptoM m : Nat) : Int) := by
        have e : uptoM m = 2 ^ m - 1 := by
          have : min (m : Int).toNat 64 = m := by omega
          unfold uptoM; rw [this]
        have h2 := pow_pos2 m
        have h3 := pow_lt hm
        rw [e, show ((2 ^ m : Nat) : Int) - 1 = ((2 ^ m - 1 : Nat) : Int) by rw [Int.natCast_sub h2]; rfl]
        exact wrapU _ (by omega)
      have HU := Lib.hid hU
      clear hU
      have hO := mask_one m
      go_enter Tryz.func42, Tryz.ntmps42
      go_wp2_with (go_at_call 81; refine (hO _ hm).mono ?_; rintro e w' ⟨rfl, k, rfl⟩)
      go_ret
      exact Ret.of (by rw [← HU.out]; rfl) (by repeat (first | exact Drew.refl _ | apply Drew.drewN | apply Drew.drew))

theorem upto_step (i : Nat) : (2 ^ i - 1) ||| 2 ^ i = 2 ^ (i + 1) - 1 := by
  rw [← add_pow (by rw [Nat.testBit_two_pow_sub_one]; simp), Nat.pow_succ]
  have := pow_pos2 i
  omega
end Go.Proofs.YtaakgpnmfkmdoaaGreatDoor

/- The walks over package mask: one, Has, Less, Not, Within, First, Next. No condition but those named. -/
namespace Go.Proofs.YtaakgpnmfkmdoaaGreatDoor
set_option linter.unusedVariables false
set_option linter.unusedSimpArgs false
open Go.RowKit

def oneM (c : Int) : Nat := if 0 ≤ c ∧ c < 64 then 2 ^ c.toNat else 0
theorem oneM_lt (c : Int) : oneM c < 2 ^ 64 := by
  unfold oneM
  split
  · exact pow_lt (by omega)
  · omega
theorem oneM_bit (c : Int) (j : Nat) : (oneM c).testBit j = decide (c = (j : Int) ∧ j < 64) := by
  unfold oneM
  by_cases h : 0 ≤ c ∧ c < 64
  · rw [if_pos h, Nat.testBit_two_pow]
    by_cases e : c.toNat = j
    · have : c = (j : Int) ∧ j < 64 := by omega
      simp [e, this]
    · have : ¬ (c = (j : Int) ∧ j < 64) := by omega
      simp [e, this]
  · rw [if_neg h]
    have : ¬ (c = (j : Int) ∧ j < 64) := by omega
    simp [this]
theorem mask_oneZ (c : Int) (w : World) : Calls Tryz.prog 81 #[.int .i64 c] w (Ret (.int .u64 (oneM c : Nat)) w) := by
  by_cases h : 0 ≤ c ∧ c < 64
  · obtain ⟨h1, h2⟩ := h
    obtain ⟨m, rfl⟩ := Int.eq_ofNat_of_zero_le h1
    have e : oneM m = 2 ^ m := by unfold oneM; rw [if_pos ⟨h1, h2⟩]; simp
    rw [e]
    exact mask_one m w (by omega)
  · have e : oneM c = 0 := by unfold oneM; rw [if_neg h]
    rw [e]
    have h2 : c < 0 ∨ (0 ≤ c ∧ 64 ≤ c) := by omega
    clear h e
    rcases h2 with h2 | ⟨h1, h2⟩
    all_goals
      go_enter Tryz.func81, Tryz.ntmps81
      go_wp2
      go_ret
      exact Ret.of (rfl) (by repeat (first | exact Drew.refl _ | apply Drew.drewN | apply Drew.drew))
/-- a without b. -/
def andnM (a b : Nat) : Nat := a ^^^ (a &&& b)
theorem andnM_bit (a b j : Nat) : (andnM a b).testBit j = (a.testBit j && !b.testBit j) := by
  unfold andnM
  rw [Nat.testBit_xor, Nat.testBit_and]
  cases a.testBit j <;> cases b.testBit j <;> rfl
theorem andnM_lt {a : Nat} (b : Nat) (h : a < 2 ^ 64) : andnM a b < 2 ^ 64 := by
  unfold andnM
  exact Nat.xor_lt_two_pow h (Nat.lt_of_le_of_lt Nat.and_le_left h)
theorem andNot_nat (a b : Nat) (ha : a < 2 ^ 64) (hb : b < 2 ^ 64) : bits .andNot .u64 (a : Int) (b : Int) = ((andnM a b : Nat) : Int) := by
  have key : (BitVec.ofInt 64 (a : Int) &&& ~~~ (BitVec.ofInt 64 (b : Int))) = BitVec.ofNat 64 (andnM a b) := by
    rw [BitVec.ofInt_natCast, BitVec.ofInt_natCast]
    apply BitVec.eq_of_getLsbD_eq
    intro i hi
    simp only [BitVec.getLsbD_and, BitVec.getLsbD_not, BitVec.getLsbD_ofNat, hi, decide_true, Bool.true_and, andnM_bit]
  show IntKind.u64.wrap ((BitVec.ofInt 64 (a : Int) &&& ~~~ (BitVec.ofInt 64 (b : Int))).toNat : Int) = _
  rw [key, BitVec.toNat_ofNat, Nat.mod_eq_of_lt (andnM_lt b ha)]
  exact wrapU _ (andnM_lt b ha)
theorem bit_zero {m : Nat} : m = 0 ↔ ∀ j, m.testBit j = false := by
  constructor
  · rintro rfl j; simp
  · intro h
    apply Nat.eq_of_testBit_eq
    intro j
    simp [h j]
def hasM (m : Nat) (c : Int) : Bool := decide (0 ≤ c ∧ c < 64) && m.testBit c.toNat
theorem hasM_and (m : Nat) (c : Int) : hasM m c = !((((m &&& oneM c : Nat) : Int)) == 0) := by
  have h : ((m &&& oneM c) = 0) ↔ hasM m c = false := by
    rw [bit_zero]
    unfold hasM
    constructor
    · intro h
      by_cases hc : 0 ≤ c ∧ c < 64
      · have := h c.toNat
        rw [Nat.testBit_and, oneM_bit] at this
        have e : c = (c.toNat : Int) ∧ c.toNat < 64 := by omega
        simp only [decide_eq_true e, Bool.and_true] at this
        simp [this]
      · simp [hc]
    · intro h j
      rw [Nat.testBit_and, oneM_bit]
      by_cases e : c = (j : Int) ∧ j < 64
      · obtain ⟨e1, e2⟩ := e
        subst e1
        have : (0 : Int) ≤ (j : Int) ∧ (j : Int) < 64 := by omega
        rw [decide_eq_true this] at h
        simp at h
        simp [h]
      · simp [e]
  by_cases h0 : (m &&& oneM c) = 0
  · rw [h.1 h0, h0]; rfl
  · have h1 : hasM m c = true := by
      cases hx : hasM m c with
      | true => rfl
      | false => exact absurd (h.2 hx) h0
    have h2 : ((((m &&& oneM c : Nat) : Int)) == 0) = false := by simp; omega
    rw [h1, h2]; rfl
theorem mask_Has (m : Nat) (hm : m < 2 ^ 64) (c : Int) (w : World) : Calls Tryz.prog 13 #[.int .u64 m, .int .i64 c] w (Ret (.bool (hasM m c)) w) := by
  have hO := fun w => mask_oneZ c w
  have hB := Lib.hid (bits_and_u64_nat m (oneM c) hm (oneM_lt c))
  have hH := Lib.hid (hasM_and m c)
  generalize oneM c = o at *
  generalize hasM m c = b at *
  go_enter Tryz.func13, Tryz.ntmps13
  go_wp2_with (go_at_call 81; refine (hO _).mono ?_; rintro e w' ⟨rfl, k, rfl⟩)
  go_ret
  refine ⟨?_, by repeat (first | exact Drew.refl _ | apply Drew.drewN | apply Drew.drew)⟩
  rw [hH.out, ← hB.out]
  simp [bne]
def lessM (m : Nat) (c : Int) : Nat := andnM m (oneM c)
theorem lessM_lt {m : Nat} (h : m < 2 ^ 64) (c : Int) : lessM m c < 2 ^ 64 := andnM_lt _ h
theorem mask_Less (m : Nat) (hm : m < 2 ^ 64) (c : Int) (w : World) : Calls Tryz.prog 16 #[.int .u64 m, .int .i64 c] w (Ret (.int .u64 (lessM m c : Nat)) w) := by
  have hO := fun w => mask_oneZ c w
  have hB := Lib.hid (andNot_nat m (oneM c) hm (oneM_lt c))
  unfold lessM
  generalize oneM c = o at *
  go_enter Tryz.func16, Tryz.ntmps16
  go_wp2_with (go_at_call 81; refine (hO _).mono ?_; rintro e w' ⟨rfl, k, rfl⟩)
  go_ret
  refine ⟨?_, by repeat (first | exact Drew.refl _ | apply Drew.drewN | apply Drew.drew)⟩
  rw [← hB.out]; rfl
theorem mask_Not (m o : Nat) (hm : m < 2 ^ 64) (ho : o < 2 ^ 64) (w : World) : Calls Tryz.prog 291 #[.int .u64 m, .int .u64 o] w (Ret (.int .u64 (andnM m o : Nat)) w) := by
  have hB := Lib.hid (andNot_nat m o hm ho)
  go_enter Tryz.func291, Tryz.ntmps291
  go_wp2
  go_ret
  exact Ret.of (by rw [← hB.out]; rfl) (by repeat (first | exact Drew.refl _ | apply Drew.drewN | apply Drew.drew))
theorem mask_Within (m o : Nat) (hm : m < 2 ^ 64) (ho : o < 2 ^ 64) (w : World) : Calls Tryz.prog 14 #[.int .u64 m, .int .u64 o] w (Ret (.bool (decide (andnM m o = 0))) w) := by
  have hB := Lib.hid (andNot_nat m o hm ho)
  go_enter Tryz.func14, Tryz.ntmps14
  go_wp2
  go_ret
  refine ⟨?_, by repeat (first | exact Drew.refl _ | apply Drew.drewN | apply Drew.drew)⟩
  have e : (bits .andNot .u64 (m : Int) (o : Int) == 0) = decide (andnM m o = 0) := by
    rw [hB.out]
    by_cases h : andnM m o = 0
    · simp [h]
    · simp [h]
  simp [e]
def firstM (m : Nat) : Int := if m = 0 then 0 else Lib.ctz 64 m
def firstE (m : Nat) : Int := if m = 0 then 12 else 0
theorem mask_First (m : Nat) (hm : m < 2 ^ 64) (w : World) (hT : Tab w) : Calls Tryz.prog 142 #[.int .u64 m] w (Ret (.tuple #[.int .i64 (firstM m), .int .i64 (firstE m)]) w) := by
  by_cases h0 : m = 0
  · subst h0
    go_enter Tryz.func142, Tryz.ntmps142
    go_wp2
    go_ret2
    exact Ret.of (rfl) (by repeat (first | exact Drew.refl _ | apply Drew.drewN | apply Drew.drew))
  · have e1 : firstM m = Lib.ctz 64 m := if_neg h0
    have e2 : firstE m = 0 := if_neg h0
    rw [e1, e2]
    have hne : ((m : Int) == 0) = false := by simp; omega
    have hz := fun u hu => Any7.bits_TrailingZeros64 tzL m (by omega) u (fun _ => hu)
    have hz2 : ∀ u, Tab u → Calls Tryz.prog 217 #[.int .u64 m] u (fun e u' => e = .returned (.int .i64 (Lib.ctz 64 m)) ∧ u' = u) := fun u hu => hz u hu
    generalize Lib.ctz 64 m = z at *
    clear hz e1 e2
    go_enter Tryz.func142, Tryz.ntmps142
    go_wp2_with (go_at_call 217; refine (hz2 _ (by first | exact hT | exact hT.drewN _)).mono ?_; rintro e w' ⟨rfl, rfl⟩)
    go_ret2
    exact Ret.of (rfl) (by repeat (first | exact Drew.refl _ | apply Drew.drewN | apply Drew.drew))
def aboveM (m : Nat) (c : Int) : Nat := andnM m (uptoM (c + 1))
def nextM (m : Nat) (c : Int) : Nat := if c < 0 ∨ 63 ≤ c then m else if aboveM m c ≠ 0 then aboveM m c else m
theorem mask_Next (m : Nat) (hm : m < 2 ^ 64) (c : Int) (hc : In64 c) (w : World) (hT : Tab w) : Calls Tryz.prog 270 #[.int .u64 m, .int .i64 c] w (Ret (.tuple #[.int .i64 (firstM (nextM m c)), .int .i64 (firstE (nextM m c))]) w) := by
  obtain ⟨hc1, hc2⟩ := hc
  by_cases h : c < 0 ∨ 63 ≤ c
  · have e : nextM m c = m := if_pos h
    rw [e]
    have hF := fun u hu => mask_First m hm u hu
    have h2 : c < 0 ∨ (¬ c < 0 ∧ 63 ≤ c) := by omega
    clear h e
    generalize firstM m = a at *
    generalize firstE m = b at *
    rcases h2 with h2 | ⟨h1, h2⟩
    all_goals
      go_enter Tryz.func270, Tryz.ntmps270
      go_wp2_with (go_at_call 142; refine (hF _ (by first | exact hT | exact hT.drewN _)).mono ?_; rintro e w' ⟨rfl, k, rfl⟩)
      go_ret2
      exact Ret.of (rfl) (by repeat (first | exact Drew.refl _ | apply Drew.drewN | apply Drew.drew))
  · have hn1 : ¬ c < 0 := by omega
    have hn2 : ¬ 63 ≤ c := by omega
    have hU := fun w => mask_Upto (c + 1) w
    have hB := Lib.hid (andNot_nat m (uptoM (c + 1)) hm (uptoM_lt _))
    have hA := andnM_lt (uptoM (c + 1)) hm
    have e : nextM m c = if aboveM m c ≠ 0 then aboveM m c else m := if_neg h
    unfold aboveM at e
    generalize uptoM (c + 1) = up at *
    by_cases ha : andnM m up = 0
    · rw [if_neg (by simp [ha])] at e
      rw [e]
      have hF := fun u hu => mask_First m hm u hu
      have hz : (bits .andNot .u64 (m : Int) (up : Int) == 0) = true := by rw [hB.out, ha]; rfl
      clear h e
      generalize firstM m = a at *
      generalize firstE m = b at *
      go_enter Tryz.func270, Tryz.ntmps270
      go_wp2_with (first
        | (go_at_call 42; refine (hU _).mono ?_; rintro e w' ⟨rfl, k, rfl⟩)
        | (go_at_call 142; refine (hF _ (by first | exact hT | exact hT.drewN _)).mono ?_; rintro e w' ⟨rfl, k2, rfl⟩))
      go_ret2
      exact Ret.of (rfl) (by repeat (first | exact Drew.refl _ | apply Drew.drewN | apply Drew.drew))
    · rw [if_pos ha] at e
      rw [e]
      have hF := fun u hu => mask_First (andnM m up) hA u hu
      rw [← hB.out] at hF
      have hz : (bits .andNot .u64 (m : Int) (up : Int) == 0) = false := by rw [hB.out]; simp; omega
      clear h e
      generalize firstM (andnM m up) = a at *
      generalize firstE (andnM m up) = b at *
      go_enter Tryz.func270, Tryz.ntmps270
      go_wp2_with (first
        | (go_at_call 42; refine (hU _).mono ?_; rintro e w' ⟨rfl, k, rfl⟩)
        | (go_at_call 142; refine (hF _ (by first | exact hT | exact hT.drewN _)).mono ?_; rintro e w' ⟨rfl, k2, rfl⟩))
      go_ret2
      exact Ret.of (rfl) (by repeat (first | exact Drew.refl _ | apply Drew.drewN | apply Drew.drew))
end Go.Proofs.YtaakgpnmfkmdoaaGreatDoor

/- A stop of all cores (package stop) in memory; the walks over its functions. No condition but those named. -/
namespace Go.Proofs.YtaakgpnmfkmdoaaGreatDoor
set_option linter.unusedVariables false
set_option linter.unusedSimpArgs false
open Go.RowKit

structure ST where
  who : Nat
  held : Nat
def ST.ok (s : ST) : Prop := s.who < 2 ^ 64 ∧ s.held < 2 ^ 64
def ST.on (s : ST) : Bool := decide (s.who ≠ 0)
def ST.left (s : ST) : Nat := andnM s.who s.held
def ST.must (s : ST) (c : Int) : Bool := hasM s.left c
def ST.ready (s : ST) : Bool := s.on && decide (s.left = 0)
def ST.beginE (s : ST) (m : Nat) : Int := if s.who ≠ 0 then 7 else if m = 0 then 2 else 0
def ST.begin_ (s : ST) (m : Nat) : ST := if s.beginE m = 0 then ⟨m, 0⟩ else s
def withM (m : Nat) (c : Int) : Nat := m ||| oneM c
theorem withM_lt {m : Nat} (h : m < 2 ^ 64) (c : Int) : withM m c < 2 ^ 64 := Nat.or_lt_two_pow h (oneM_lt c)
def ST.ackE (s : ST) (c : Int) : Int := if s.must c then 0 else 6
def ST.ack (s : ST) (c : Int) : ST := if s.must c then ⟨s.who, withM s.held c⟩ else s
def ST.freeE (s : ST) : Int := if s.who = 0 then 6 else 0
def ST.free (s : ST) : ST := if s.who = 0 then s else ⟨0, 0⟩
def stopObj (s : ST) : Obj := .cells #[.int .u64 (s.who : Nat), .int .u64 (s.held : Nat)] 125 (0,0)
def stopR (b : Nat) (s : ST) : Res := Res.such s.ok (Res.blk b (stopObj s))
section
variable {F : List Nat} {w : World} {b : Nat} {s : ST}
theorem stop_cells (h : (stopR b s).holds F w) : s.ok ∧ w.cell? ⟨b, 0, none⟩ = some (.int .u64 (s.who : Nat)) ∧ w.cell? ⟨b, 1, none⟩ = some (.int .u64 (s.held : Nat)) ∧ On F w [Res.blk b (stopObj s)] w := by
  obtain ⟨h1, h2⟩ := h
  have hA := On.one h2
  exact ⟨h1, hA.cell 0 rfl 0, hA.cell 0 rfl 1, hA⟩
theorem stop_On (h : (stopR b s).holds F w) : Calls Tryz.prog 333 #[.pointer (some ⟨b, 0, none⟩)] w (Ret (.bool s.on) w) := by
  obtain ⟨hok, c0, c1, hA⟩ := stop_cells h
  unfold ST.on
  clear hA h hok
  generalize s.who = x at *
  go_enter Tryz.func333, Tryz.ntmps333
  go_wp2
  go_ret
  refine ⟨?_, by repeat (first | exact Drew.refl _ | apply Drew.drewN | apply Drew.drew)⟩
  by_cases e : x = 0 <;> simp [e]
theorem stop_Left (h : (stopR b s).holds F w) : Calls Tryz.prog 242 #[.pointer (some ⟨b, 0, none⟩)] w (Ret (.int .u64 (s.left : Nat)) w) := by
  obtain ⟨⟨ho1, ho2⟩, c0, c1, hA⟩ := stop_cells h
  have hN := fun w => mask_Not s.who s.held ho1 ho2 w
  unfold ST.left
  clear hA h
  generalize s.who = x at *
  generalize s.held = y at *
  go_enter Tryz.func242, Tryz.ntmps242
  go_wp2
  go_quiet (first | (go_at_call 291; exact Calls.quiet_of (hN _)))
  go_wp2
  go_ret
  exact Ret.of (rfl) (by repeat (first | exact Drew.refl _ | apply Drew.drewN | apply Drew.drew))
theorem stop_Held (h : (stopR b s).holds F w) (c : Int) : Calls Tryz.prog 166 #[.pointer (some ⟨b, 0, none⟩), .int .i64 c] w (Ret (.bool (hasM s.held c)) w) := by
  obtain ⟨⟨ho1, ho2⟩, c0, c1, hA⟩ := stop_cells h
  have hN := fun w => mask_Has s.held ho2 c w
  clear hA h
  generalize s.held = y at *
  generalize hasM y c = z at *
  go_enter Tryz.func166, Tryz.ntmps166
  go_wp2_with (go_at_call 13; refine (hN _).mono ?_; rintro e w' ⟨rfl, k, rfl⟩)
  go_ret
  exact Ret.of (rfl) (by repeat (first | exact Drew.refl _ | apply Drew.drewN | apply Drew.drew))
theorem stop_Must (h : (stopR b s).holds F w) (c : Int) : Calls Tryz.prog 165 #[.pointer (some ⟨b, 0, none⟩), .int .i64 c] w (fun e w' => e = .returned (.bool (s.must c)) ∧ Mod [] w w') := by
  have hL := stop_Left h
  have hlt : s.left < 2 ^ 64 := andnM_lt _ h.1.1
  have hN := fun w => mask_Has s.left hlt c w
  unfold ST.must
  generalize s.left = x at *
  generalize hasM x c = z at *
  go_enter Tryz.func165, Tryz.ntmps165
  go_wp2_with (first
    | (go_at_call 242; refine hL.mono ?_; rintro e w' ⟨rfl, k, rfl⟩)
    | (go_at_call 13; refine (hN _).mono ?_; rintro e w' ⟨rfl, k2, rfl⟩))
  go_ret
  refine ⟨rfl, ?_⟩
  repeat (first | with_reducible exact Mod.refl _ _ | with_reducible apply Mod.alloc | with_reducible apply Mod.drewN | with_reducible apply Mod.drew | with_reducible refine Mod.setCell ?_ (by first | (simp; done) | (simp; omega)) _)
theorem stop_Ready (h : (stopR b s).holds F w) : Calls Tryz.prog 335 #[.pointer (some ⟨b, 0, none⟩)] w (Ret (.bool s.ready) w) := by
  have hO := stop_On h
  have hL := fun k => stop_Left ((stopR b s).keep h (S := []) ((Mod.refl _ _).drewN k) (by simp))
  unfold ST.ready
  generalize s.left = x at *
  cases hx : s.on
  · rw [hx] at hO
    clear hL hx
    go_enter Tryz.func335, Tryz.ntmps335
    go_wp2_with (go_at_call 333; refine hO.mono ?_; rintro e w' ⟨rfl, k, rfl⟩)
    go_ret
    exact Ret.of (by simp) (by repeat (first | exact Drew.refl _ | apply Drew.drewN | apply Drew.drew))
  · rw [hx] at hO
    clear hx
    go_enter Tryz.func335, Tryz.ntmps335
    go_wp2_with (first
      | (go_at_call 333; refine hO.mono ?_; rintro e w' ⟨rfl, k, rfl⟩)
      | (go_at_call 242; refine (hL _).mono ?_; rintro e w' ⟨rfl, k2, rfl⟩))
    go_ret
    refine ⟨?_, by repeat (first | exact Drew.refl _ | apply Drew.drewN | apply Drew.drew)⟩
    by_cases e : x = 0 <;> simp [e]
end
end Go.Proofs.YtaakgpnmfkmdoaaGreatDoor

/- A row of structs just made. No program in sight. -/
namespace Go.Proofs.YtaakgpnmfkmdoaaGreatDoor
set_option linter.unusedVariables false
set_option linter.unusedSimpArgs false
open Go.RowKit

theorem made_grid (z : List Value) (hz : z ≠ []) (n : Nat) : madeCells z.toArray (n * z.length) = blkV [] n (fun _ => z) [] := by
  have hk : 0 < z.length := List.length_pos_iff.2 hz
  apply Array.ext_getElem?
  intro m
  by_cases hm : m < n * z.length
  · have h1 : m / z.length < n := Nat.div_lt_of_lt_mul (by rw [Nat.mul_comm]; exact hm)
    have h2 : m % z.length < z.length := Nat.mod_lt _ hk
    have h3 : m = m / z.length * z.length + m % z.length := by rw [Nat.mul_comm]; exact (Nat.div_add_mod _ _).symm
    rw [blkV_get (k := z.length) (fun _ => rfl) h1 h2 (by simpa using h3)]
    simp [madeCells, hm, h2]
  · have h4 : (madeCells z.toArray (n * z.length)).size = n * z.length := size_madeCells _ _
    have h5 : (blkV [] n (fun _ => z) []).size = n * z.length := by
      unfold blkV
      simp [gridV_len (k := z.length) (fun _ => rfl)]
    rw [Array.getElem?_eq_none (by omega), Array.getElem?_eq_none (by omega)]
theorem made_grid' (z : List Value) (k : Nat) (hk : z.length = k) (h0 : 0 < k) (n : Nat) : madeCells z.toArray (n * k) = blkV [] n (fun _ => z) [] := by
  subst hk
  exact made_grid z (by rintro rfl; simp at h0) n
end Go.Proofs.YtaakgpnmfkmdoaaGreatDoor

/- The table of cores (package core) in memory; the walks over its functions. No condition but those named. -/
namespace Go.Proofs.YtaakgpnmfkmdoaaGreatDoor
set_option linter.unusedVariables false
set_option linter.unusedSimpArgs false
open Go.RowKit

structure CoreS where
  power : Bool
  idle : Bool
  way : Int
  since : Int
  steps : Int
  busy : Int
def coreV (c : CoreS) : List Value := [.bool c.power, .bool c.idle, .int .i64 c.way, .int .i64 c.since, .int .i64 c.steps, .int .i64 c.busy]
theorem coreV_len (f : Nat → CoreS) (i : Nat) : (coreV (f i)).length = 6 := rfl
/-- The cores: how many, and each. -/
structure CT where
  n : Nat
  c : Nat → CoreS
def CT.is (t : CT) (cpu : Int) : Prop := 0 ≤ cpu ∧ cpu < t.n
instance instCore1 (t : CT) (cpu : Int) : Decidable (t.is cpu) := by unfold CT.is; infer_instance
def CoreS.ok (c : CoreS) : Prop := (0 ≤ c.way ∧ c.way < 8) ∧ (0 ≤ c.since ∧ c.since ≤ 1152921504606846976) ∧ In64 c.steps ∧ In64 c.busy
def CT.ok (t : CT) : Prop := 1 ≤ t.n ∧ t.n ≤ 64 ∧ ∀ i, (t.c i).ok
def CT.put (t : CT) (i : Nat) (c : CoreS) : CT := { t with c := gupd t.c i c }
def coresR (b : Nat) (t : CT) : Res := Res.such t.ok (Res.ex fun r : Nat => Res.star [Res.blk b (.cells #[.slice (some ⟨r, 0, none⟩) t.n t.n] 203 (0,0)), Res.blk r (.cells (blkV [] t.n (fun i => coreV (t.c i)) []) 152 (0,0))])
def coresL (b r : Nat) (t : CT) : List Res := [Res.blk b (.cells #[.slice (some ⟨r, 0, none⟩) t.n t.n] 203 (0,0)), Res.blk r (.cells (blkV [] t.n (fun i => coreV (t.c i)) []) 152 (0,0))]
section
variable {F : List Nat} {w u : World} {b r : Nat} {t : CT}
theorem cores_view (h : (coresR b t).holds F w) : ∃ r, t.ok ∧ On F w (coresL b r t) w := by
  obtain ⟨hok, r, h⟩ := h
  exact ⟨r, hok, On.of h⟩
theorem On.cores (h : On F w (coresL b r t) u) (hok : t.ok) : Gain (coresR b t) F w u := h.gains.imp fun F' h' => ⟨hok, r, h'⟩
theorem On.core (h : On F w (coresL b r t) u) {i j : Nat} (hi : i < t.n) (hj : j < 6) : u.cell? ⟨r, i * 6 + j, none⟩ = (coreV (t.c i))[j]? := by
  have := h.cell 1 rfl (i * 6 + j)
  rw [this]
  exact blkV_get (k := 6) (fun i => rfl) hi hj (by simp)
theorem On.coreSet (h : On F w (coresL b r t) u) {i j : Nat} (hi : i < t.n) (hj : j < 6) (v : Value) {c' : CoreS} (hc : (coreV (t.c i)).set j v = coreV c') : On F w (coresL b r (t.put i c')) (u.setCell ⟨r, i * 6 + j, none⟩ v) := by
  have := h.set 1 rfl (i * 6 + j) v
  rw [blkV_set (k := 6) (fun i => rfl) hi hj v (by simp)] at this
  have e : gupd (fun i => coreV (t.c i)) i ((coreV (t.c i)).set j v) = fun x => coreV ((t.put i c').c x) := by
    funext x
    by_cases e : x = i
    · subst e; rw [gupd_same, hc]; show coreV c' = coreV (gupd t.c x c' x); rw [gupd_same]
    · rw [gupd_ne _ _ e]; show _ = coreV (gupd t.c i c' x); rw [gupd_ne _ _ e]
  rw [e] at this
  exact this
theorem put_self (t : CT) (i : Nat) : t.put i (t.c i) = t := by
  cases t with
  | mk n c =>
    show CT.mk n (gupd c i (c i)) = _
    congr 1
    funext x
    by_cases e : x = i
    · subst e; exact gupd_same _ _ _
    · exact gupd_ne _ _ e
theorem put_put (t : CT) (i : Nat) (x y : CoreS) : (t.put i x).put i y = t.put i y := by
  show CT.mk t.n _ = CT.mk t.n _
  congr 1
  funext z
  by_cases e : z = i
  · subst e; rw [gupd_same, gupd_same]
  · rw [gupd_ne _ _ e, gupd_ne _ _ e]; exact gupd_ne _ _ e
theorem put_ok (h : t.ok) (i : Nat) {x : CoreS} (hx : x.ok) : (t.put i x).ok := by
  refine ⟨h.1, h.2.1, fun j => ?_⟩
  show (gupd t.c i x j).ok
  by_cases e : j = i
  · subst e; rw [gupd_same]; exact hx
  · rw [gupd_ne _ _ e]; exact h.2.2 j
theorem On.core0 (h : On F w (coresL b r t) u) (i : Nat) : On F w (coresL b r (t.put i (t.c i))) u := by rw [put_self]; exact h
theorem On.corePut {x : CoreS} {i : Nat} (h : On F w (coresL b r (t.put i x)) u) (hi : i < t.n) (j : Nat) (hj : j < 6) (v : Value) {x' : CoreS} (hc : (coreV x).set j v = coreV x') : On F w (coresL b r (t.put i x')) (u.setCell ⟨r, i * 6 + j, none⟩ v) := by
  have e : (t.put i x).c i = x := gupd_same _ _ _
  have := h.coreSet (i := i) (j := j) hi hj v (c' := x') (by rw [e]; exact hc)
  rwa [put_put] at this
def CT.findE (t : CT) (cpu : Int) : Int := if t.is cpu then 0 else 3
def findP (r sz : Nat) (is : Bool) (i : Nat) : Value := .pointer (if is then some ⟨r, i * sz, none⟩ else none)
theorem core_find (h : On F w (coresL b r t) u) (cpu : Int) : Calls Tryz.prog 152 #[.pointer (some ⟨b, 0, none⟩), .int .i64 cpu] u (Ret (.tuple #[.pointer (if t.is cpu then some ⟨r, cpu.toNat * 6, none⟩ else none), .int .i64 (t.findE cpu)]) u) := by
  have c0 : u.cell? ⟨b, 0, none⟩ = some (.slice (some ⟨r, 0, none⟩) t.n t.n) := h.cell 0 rfl 0
  unfold CT.findE
  by_cases hi : t.is cpu
  · rw [if_pos hi, if_pos hi]
    obtain ⟨h1, h2⟩ := hi
    obtain ⟨c, rfl⟩ := Int.eq_ofNat_of_zero_le h1
    simp only [Int.toNat_natCast]
    clear h
    go_enter Tryz.func152, Tryz.ntmps152
    go_wp2
    go_ret2
    exact Ret.of (by simp) (by repeat (first | exact Drew.refl _ | apply Drew.drewN | apply Drew.drew))
  · rw [if_neg hi, if_neg hi]
    have h2 : cpu < 0 ∨ (¬ cpu < 0 ∧ (t.n : Int) ≤ cpu) := by unfold CT.is at hi; omega
    clear h hi
    rcases h2 with h2 | ⟨h1, h2⟩
    all_goals
      go_enter Tryz.func152, Tryz.ntmps152
      go_wp2
      go_ret2
      exact Ret.of (rfl) (by repeat (first | exact Drew.refl _ | apply Drew.drewN | apply Drew.drew))
end
end Go.Proofs.YtaakgpnmfkmdoaaGreatDoor

/- The walks over the table of cores: New, Power, Rest, Wake, Count, Take, Get; Next. No condition but those named. -/
namespace Go.Proofs.YtaakgpnmfkmdoaaGreatDoor
set_option linter.unusedVariables false
set_option linter.unusedSimpArgs false
open Go.RowKit

def wr (n : Int) : Int := IntKind.i64.wrap n
theorem in64_0 : In64 0 := by unfold In64; decide
theorem wr_in (n : Int) : In64 (wr n) := by unfold wr In64; rw [IntKind.wrap_i64]; omega
def CoreS.up (c : CoreS) : CoreS := { c with idle := false, way := 0, since := 0 }
def CT.at (t : CT) (cpu : Int) : CoreS := t.c cpu.toNat
def rightC (now : Int) : Bool := decide (0 ≤ now ∧ now ≤ 1152921504606846976)
def CT.powE (t : CT) (cpu : Int) (on : Bool) : Int := if ¬ t.is cpu then 3 else if (t.at cpu).power = on then 6 else 0
def CT.pow (t : CT) (cpu : Int) (on : Bool) : CT := if t.powE cpu on = 0 then t.put cpu.toNat { (t.at cpu).up with power := on } else t
def CT.restE (t : CT) (cpu way now : Int) : Int := if ¬ t.is cpu then 3 else if way < 0 ∨ 8 ≤ way ∨ rightC now = false then 2 else if (t.at cpu).power = false ∨ (t.at cpu).idle = true then 6 else 0
def CT.rest (t : CT) (cpu way now : Int) : CT := if t.restE cpu way now = 0 then t.put cpu.toNat { t.at cpu with idle := true, way := way, since := now } else t
def CT.wakeE (t : CT) (cpu now : Int) : Int := if ¬ t.is cpu then 3 else if rightC now = false then 2 else if (t.at cpu).idle = false then 6 else 0
def CT.wakeN (t : CT) (cpu now : Int) : Int := if t.wakeE cpu now = 0 then max 0 (now - (t.at cpu).since) else 0
def CT.wake (t : CT) (cpu now : Int) : CT := if t.wakeE cpu now = 0 then t.put cpu.toNat (t.at cpu).up else t
def CT.count (t : CT) (cpu : Int) (busy : Bool) : CT := if t.is cpu then t.put cpu.toNat { t.at cpu with steps := wr ((t.at cpu).steps + 1), busy := if busy then wr ((t.at cpu).busy + 1) else (t.at cpu).busy } else t
def CT.take (t : CT) (cpu : Int) : CT := if t.is cpu then t.put cpu.toNat { t.at cpu with steps := 0, busy := 0 } else t
def CT.takeB (t : CT) (cpu : Int) : Int := if t.is cpu then (t.at cpu).busy else 0
def CT.takeS (t : CT) (cpu : Int) : Int := if t.is cpu then (t.at cpu).steps else 0
section
variable {F : List Nat} {w u : World} {b r : Nat} {t : CT}
theorem core_up {x : CoreS} {i : Nat} (hi : i < t.n) (hA : On F w (coresL b r (t.put i x)) u) : Calls Tryz.prog 170 #[.pointer (some ⟨r, i * 6, none⟩)] u (fun e u' => e = .returned (.tuple #[]) ∧ On F w (coresL b r (t.put i x.up)) u') := by
  have f1 : u.frozen? ⟨r, i * 6 + 1, none⟩ = false := hA.free 1 rfl _
  have f2 : u.frozen? ⟨r, i * 6 + 2, none⟩ = false := hA.free 1 rfl _
  have f3 : u.frozen? ⟨r, i * 6 + 3, none⟩ = false := hA.free 1 rfl _
  have e : (t.put i x).c i = x := gupd_same _ _ _
  have c1 : u.cell? ⟨r, i * 6 + 1, none⟩ = some (.bool x.idle) := by have := hA.core (i := i) hi (j := 1) (by decide); rw [e] at this; exact this
  have c2 : u.cell? ⟨r, i * 6 + 2, none⟩ = some (.int .i64 x.way) := by have := hA.core (i := i) hi (j := 2) (by decide); rw [e] at this; exact this
  have c3 : u.cell? ⟨r, i * 6 + 3, none⟩ = some (.int .i64 x.since) := by have := hA.core (i := i) hi (j := 3) (by decide); rw [e] at this; exact this
  obtain ⟨pw, il, wy, si, st, bu⟩ := x
  dsimp only at *
  have hB := Lib.hid hA
  clear hA e
  go_enter Tryz.func170, Tryz.ntmps170
  go_wp2
  go_end0
  refine ⟨rfl, ?_⟩
  exact ((((hB.out.keep (Mod.refl _ _)).corePut hi 1 (by decide) (.bool false) (x' := ⟨pw, false, wy, si, st, bu⟩) rfl).corePut hi 2 (by decide) (.int .i64 0) (x' := ⟨pw, false, 0, si, st, bu⟩) rfl).corePut hi 3 (by decide) (.int .i64 0) (x' := ⟨pw, false, 0, 0, st, bu⟩) rfl)
theorem up_ok {x : CoreS} (h : x.ok) (p : Bool) : CoreS.ok { x.up with power := p } := ⟨⟨Int.le_refl _, by show (0 : Int) < 8; decide⟩, ⟨Int.le_refl _, by show (0 : Int) ≤ _; decide⟩, h.2.2⟩
theorem core_right (n : Int) (w : World) : Calls Tryz.prog 169 #[.int .i64 n] w (Ret (.bool (rightC n)) w) := by
  unfold rightC
  by_cases h : 0 ≤ n
  · skip
    go_enter Tryz.func169, Tryz.ntmps169
    go_wp2
    go_ret
    exact Ret.of (by simp [h]) (by repeat (first | exact Drew.refl _ | apply Drew.drewN | apply Drew.drew))
  · have h' : n < 0 := by omega
    have e : decide (0 ≤ n ∧ n ≤ 1152921504606846976) = false := by simp; omega
    rw [e]
    go_enter Tryz.func169, Tryz.ntmps169
    go_wp2
    go_ret
    exact Ret.of (by simp) (by repeat (first | exact Drew.refl _ | apply Drew.drewN | apply Drew.drew))
theorem core_Count (h : (coresR b t).holds F w) (cpu : Int) (busy : Bool) : Calls Tryz.prog 99 #[.pointer (some ⟨b, 0, none⟩), .int .i64 cpu, .bool busy] w (Turns (coresR b (t.count cpu busy)) F (.int .i64 (t.findE cpu)) w) := by
  obtain ⟨r, hok, hA⟩ := cores_view h
  have hF := core_find hA cpu
  unfold CT.count
  by_cases hi : t.is cpu
  · have e1 : t.findE cpu = 0 := if_pos hi
    rw [if_pos hi, e1] at hF
    rw [e1, if_pos hi]
    obtain ⟨h1, h2⟩ := hi
    obtain ⟨c, rfl⟩ := Int.eq_ofNat_of_zero_le h1
    simp only [CT.at, Int.toNat_natCast] at *
    clear e1 h
    have ho : (t.c c).ok := hok.2.2 c
    have hB := Lib.hid (hA.core0 c)
    have hO := Lib.hid hA
    have hlt : c < t.n := by omega
    have c0 : w.cell? ⟨r, c * 6, none⟩ = some (.bool (t.c c).power) := hA.core hlt (j := 0) (by decide)
    have c1 : w.cell? ⟨r, c * 6 + 1, none⟩ = some (.bool (t.c c).idle) := hA.core hlt (j := 1) (by decide)
    have c2 : w.cell? ⟨r, c * 6 + 2, none⟩ = some (.int .i64 (t.c c).way) := hA.core hlt (j := 2) (by decide)
    have c3 : w.cell? ⟨r, c * 6 + 3, none⟩ = some (.int .i64 (t.c c).since) := hA.core hlt (j := 3) (by decide)
    have c4 : w.cell? ⟨r, c * 6 + 4, none⟩ = some (.int .i64 (t.c c).steps) := hA.core hlt (j := 4) (by decide)
    have c5 : w.cell? ⟨r, c * 6 + 5, none⟩ = some (.int .i64 (t.c c).busy) := hA.core hlt (j := 5) (by decide)
    have f0 : w.frozen? ⟨r, c * 6, none⟩ = false := hA.free 1 rfl _
    have f1 : w.frozen? ⟨r, c * 6 + 1, none⟩ = false := hA.free 1 rfl _
    have f2 : w.frozen? ⟨r, c * 6 + 2, none⟩ = false := hA.free 1 rfl _
    have f3 : w.frozen? ⟨r, c * 6 + 3, none⟩ = false := hA.free 1 rfl _
    have f4 : w.frozen? ⟨r, c * 6 + 4, none⟩ = false := hA.free 1 rfl _
    have f5 : w.frozen? ⟨r, c * 6 + 5, none⟩ = false := hA.free 1 rfl _
    generalize t.c c = x at *
    clear hA
    obtain ⟨pw, il, wy, si, st, bu⟩ := x
    dsimp only at *
    have g4 := wr_in (st + 1)
    have g5 := wr_in (bu + 1)
    have e4 : IntKind.i64.wrap (st + 1) = wr (st + 1) := rfl
    have e5 : IntKind.i64.wrap (bu + 1) = wr (bu + 1) := rfl
    generalize wr (st + 1) = st2 at *
    generalize wr (bu + 1) = bu2 at *
    cases busy
    · simp only [Bool.false_eq_true, if_false]
      go_enter Tryz.func99, Tryz.ntmps99
      go_wp2_with (go_at_call 152; refine hF.mono ?_; rintro e w' ⟨rfl, k, rfl⟩)
      go_ret
      refine ⟨rfl, ?_⟩
      refine On.cores (r := r) ?_ (put_ok hok c ⟨ho.1, ho.2.1, g4, ho.2.2.2⟩)
      have := ((hB.out.keep ((Mod.refl _ _).drewN k)).corePut hlt 4 (by decide) (.int .i64 st2) (x' := ⟨pw, il, wy, si, st2, bu⟩) rfl)
      simpa [e4] using this
    · simp only [if_true]
      go_enter Tryz.func99, Tryz.ntmps99
      go_wp2_with (go_at_call 152; refine hF.mono ?_; rintro e w' ⟨rfl, k, rfl⟩)
      go_ret
      refine ⟨rfl, ?_⟩
      refine On.cores (r := r) ?_ (put_ok hok c ⟨ho.1, ho.2.1, g4, g5⟩)
      have := (((hB.out.keep ((Mod.refl _ _).drewN k)).corePut hlt 4 (by decide) (.int .i64 st2) (x' := ⟨pw, il, wy, si, st2, bu⟩) rfl).corePut hlt 5 (by decide) (.int .i64 bu2) (x' := ⟨pw, il, wy, si, st2, bu2⟩) rfl)
      simpa [e4, e5] using this
  · have e1 : t.findE cpu = 3 := if_neg hi
    rw [if_neg hi, e1] at hF
    rw [e1, if_neg hi]
    clear h e1
    go_enter Tryz.func99, Tryz.ntmps99
    go_wp2_with (go_at_call 152; refine hF.mono ?_; rintro e w' ⟨rfl, k, rfl⟩)
    go_ret
    exact ⟨rfl, (hA.keep ((Mod.refl _ _).drewN k)).cores hok⟩
theorem core_Power (h : (coresR b t).holds F w) (cpu : Int) (on : Bool) : Calls Tryz.prog 293 #[.pointer (some ⟨b, 0, none⟩), .int .i64 cpu, .bool on] w (Turns (coresR b (t.pow cpu on)) F (.int .i64 (t.powE cpu on)) w) := by
  obtain ⟨r, hok, hA⟩ := cores_view h
  have hF := core_find hA cpu
  by_cases hi : t.is cpu
  · by_cases hp : (t.at cpu).power = on
    · have e1 : t.powE cpu on = 6 := by unfold CT.powE; rw [if_neg (by simpa using hi), if_pos hp]
      have e2 : t.pow cpu on = t := if_neg (by rw [e1]; decide)
      rw [e1, e2]
      clear e1 e2
      have e0 : t.findE cpu = 0 := if_pos hi
      rw [if_pos hi, e0] at hF
      have hi2 := hi
      obtain ⟨h1, h2⟩ := hi2
      obtain ⟨c, rfl⟩ := Int.eq_ofNat_of_zero_le h1
      simp only [CT.at, Int.toNat_natCast] at *
      clear e0 h
      have ho : (t.c c).ok := hok.2.2 c
      have hB := Lib.hid (hA.core0 c)
      have hO := Lib.hid hA
      have hlt : c < t.n := by omega
      have c0 : w.cell? ⟨r, c * 6, none⟩ = some (.bool (t.c c).power) := hA.core hlt (j := 0) (by decide)
      have c1 : w.cell? ⟨r, c * 6 + 1, none⟩ = some (.bool (t.c c).idle) := hA.core hlt (j := 1) (by decide)
      have c2 : w.cell? ⟨r, c * 6 + 2, none⟩ = some (.int .i64 (t.c c).way) := hA.core hlt (j := 2) (by decide)
      have c3 : w.cell? ⟨r, c * 6 + 3, none⟩ = some (.int .i64 (t.c c).since) := hA.core hlt (j := 3) (by decide)
      have c4 : w.cell? ⟨r, c * 6 + 4, none⟩ = some (.int .i64 (t.c c).steps) := hA.core hlt (j := 4) (by decide)
      have c5 : w.cell? ⟨r, c * 6 + 5, none⟩ = some (.int .i64 (t.c c).busy) := hA.core hlt (j := 5) (by decide)
      have f0 : w.frozen? ⟨r, c * 6, none⟩ = false := hA.free 1 rfl _
      have f1 : w.frozen? ⟨r, c * 6 + 1, none⟩ = false := hA.free 1 rfl _
      have f2 : w.frozen? ⟨r, c * 6 + 2, none⟩ = false := hA.free 1 rfl _
      have f3 : w.frozen? ⟨r, c * 6 + 3, none⟩ = false := hA.free 1 rfl _
      have f4 : w.frozen? ⟨r, c * 6 + 4, none⟩ = false := hA.free 1 rfl _
      have f5 : w.frozen? ⟨r, c * 6 + 5, none⟩ = false := hA.free 1 rfl _
      generalize t.c c = x at *
      clear hA
      obtain ⟨pw, il, wy, si, st, bu⟩ := x
      dsimp only at *
      subst hp
      go_enter Tryz.func293, Tryz.ntmps293
      go_wp2_with (go_at_call 152; refine hF.mono ?_; rintro e w' ⟨rfl, k, rfl⟩)
      go_ret
      refine ⟨rfl, ?_⟩
      exact (hO.out.keep ((Mod.refl _ _).drewN k)).cores hok
    · have e1 : t.powE cpu on = 0 := by unfold CT.powE; rw [if_neg (by simpa using hi), if_neg hp]
      have e2 : t.pow cpu on = t.put cpu.toNat { (t.at cpu).up with power := on } := if_pos e1
      rw [e1, e2]
      clear e1 e2
      have e0 : t.findE cpu = 0 := if_pos hi
      rw [if_pos hi, e0] at hF
      have hi2 := hi
      obtain ⟨h1, h2⟩ := hi2
      obtain ⟨c, rfl⟩ := Int.eq_ofNat_of_zero_le h1
      simp only [CT.at, Int.toNat_natCast] at *
      clear e0 h
      have ho : (t.c c).ok := hok.2.2 c
      have hB := Lib.hid (hA.core0 c)
      have hO := Lib.hid hA
      have hlt : c < t.n := by omega
      have c0 : w.cell? ⟨r, c * 6, none⟩ = some (.bool (t.c c).power) := hA.core hlt (j := 0) (by decide)
      have c1 : w.cell? ⟨r, c * 6 + 1, none⟩ = some (.bool (t.c c).idle) := hA.core hlt (j := 1) (by decide)
      have c2 : w.cell? ⟨r, c * 6 + 2, none⟩ = some (.int .i64 (t.c c).way) := hA.core hlt (j := 2) (by decide)
      have c3 : w.cell? ⟨r, c * 6 + 3, none⟩ = some (.int .i64 (t.c c).since) := hA.core hlt (j := 3) (by decide)
      have c4 : w.cell? ⟨r, c * 6 + 4, none⟩ = some (.int .i64 (t.c c).steps) := hA.core hlt (j := 4) (by decide)
      have c5 : w.cell? ⟨r, c * 6 + 5, none⟩ = some (.int .i64 (t.c c).busy) := hA.core hlt (j := 5) (by decide)
      have f0 : w.frozen? ⟨r, c * 6, none⟩ = false := hA.free 1 rfl _
      have f1 : w.frozen? ⟨r, c * 6 + 1, none⟩ = false := hA.free 1 rfl _
      have f2 : w.frozen? ⟨r, c * 6 + 2, none⟩ = false := hA.free 1 rfl _
      have f3 : w.frozen? ⟨r, c * 6 + 3, none⟩ = false := hA.free 1 rfl _
      have f4 : w.frozen? ⟨r, c * 6 + 4, none⟩ = false := hA.free 1 rfl _
      have f5 : w.frozen? ⟨r, c * 6 + 5, none⟩ = false := hA.free 1 rfl _
      generalize t.c c = x at *
      clear hA
      obtain ⟨pw, il, wy, si, st, bu⟩ := x
      dsimp only at *
      have hq : (pw == on) = false := by simp [hp]
      go_enter Tryz.func293, Tryz.ntmps293
      go_wp2_with (first
        | (go_at_call 152; refine hF.mono ?_; rintro e w' ⟨rfl, k, rfl⟩)
        | (go_at_call 170; refine (core_up hlt ((hB.out.keep ((Mod.refl _ _).drewN k)).corePut hlt 0 (by decide) (.bool on) (x' := ⟨on, il, wy, si, st, bu⟩) rfl)).mono ?_; rintro e w2 ⟨rfl, hD⟩))
      go_ret
      refine ⟨rfl, ?_⟩
      refine On.cores (r := r) (hD.keep ?_) (put_ok hok c (up_ok ho on))
      repeat (first | with_reducible exact Mod.refl _ _ | with_reducible apply Mod.alloc | with_reducible apply Mod.drewN | with_reducible apply Mod.drew | with_reducible refine Mod.setCell ?_ (by first | (simp; done) | (simp; omega)) _)
  · have e0 : t.findE cpu = 3 := if_neg hi
    have e1 : t.powE cpu on = 3 := if_pos hi
    have e2 : t.pow cpu on = t := if_neg (by rw [e1]; decide)
    rw [if_neg hi, e0] at hF
    rw [e1, e2]
    clear h e1 e2 e0
    have hB := Lib.hid hA
    clear hA
    go_enter Tryz.func293, Tryz.ntmps293
    go_wp2_with (go_at_call 152; refine hF.mono ?_; rintro e w' ⟨rfl, k, rfl⟩)
    go_ret
    exact ⟨rfl, (hB.out.keep ((Mod.refl _ _).drewN k)).cores hok⟩
theorem core_Take (h : (coresR b t).holds F w) (cpu : Int) : Calls Tryz.prog 191 #[.pointer (some ⟨b, 0, none⟩), .int .i64 cpu] w (Turns (coresR b (t.take cpu)) F (.tuple #[.int .i64 (t.takeB cpu), .int .i64 (t.takeS cpu), .int .i64 (t.findE cpu)]) w) := by
  obtain ⟨r, hok, hA⟩ := cores_view h
  have hF := core_find hA cpu
  unfold CT.take CT.takeB CT.takeS
  by_cases hi : t.is cpu
  · rw [if_pos hi, if_pos hi, if_pos hi]
    have e1 : t.findE cpu = 0 := if_pos hi
    rw [e1]
    clear e1
    have e0 : t.findE cpu = 0 := if_pos hi
    rw [if_pos hi, e0] at hF
    have hi2 := hi
    obtain ⟨h1, h2⟩ := hi2
    obtain ⟨c, rfl⟩ := Int.eq_ofNat_of_zero_le h1
    simp only [CT.at, Int.toNat_natCast] at *
    clear e0 h
    have ho : (t.c c).ok := hok.2.2 c
    have hB := Lib.hid (hA.core0 c)
    have hO := Lib.hid hA
    have hlt : c < t.n := by omega
    have c0 : w.cell? ⟨r, c * 6, none⟩ = some (.bool (t.c c).power) := hA.core hlt (j := 0) (by decide)
    have c1 : w.cell? ⟨r, c * 6 + 1, none⟩ = some (.bool (t.c c).idle) := hA.core hlt (j := 1) (by decide)
    have c2 : w.cell? ⟨r, c * 6 + 2, none⟩ = some (.int .i64 (t.c c).way) := hA.core hlt (j := 2) (by decide)
    have c3 : w.cell? ⟨r, c * 6 + 3, none⟩ = some (.int .i64 (t.c c).since) := hA.core hlt (j := 3) (by decide)
    have c4 : w.cell? ⟨r, c * 6 + 4, none⟩ = some (.int .i64 (t.c c).steps) := hA.core hlt (j := 4) (by decide)
    have c5 : w.cell? ⟨r, c * 6 + 5, none⟩ = some (.int .i64 (t.c c).busy) := hA.core hlt (j := 5) (by decide)
    have f0 : w.frozen? ⟨r, c * 6, none⟩ = false := hA.free 1 rfl _
    have f1 : w.frozen? ⟨r, c * 6 + 1, none⟩ = false := hA.free 1 rfl _
    have f2 : w.frozen? ⟨r, c * 6 + 2, none⟩ = false := hA.free 1 rfl _
    have f3 : w.frozen? ⟨r, c * 6 + 3, none⟩ = false := hA.free 1 rfl _
    have f4 : w.frozen? ⟨r, c * 6 + 4, none⟩ = false := hA.free 1 rfl _
    have f5 : w.frozen? ⟨r, c * 6 + 5, none⟩ = false := hA.free 1 rfl _
    generalize t.c c = x at *
    clear hA
    obtain ⟨pw, il, wy, si, st, bu⟩ := x
    dsimp only at *
    go_enter Tryz.func191, Tryz.ntmps191
    go_wp2_with (go_at_call 152; refine hF.mono ?_; rintro e w' ⟨rfl, k, rfl⟩)
    go_quiet (fail)
    go_wp2
    go_ret3
    refine ⟨rfl, ?_⟩
    refine On.cores (r := r) ?_ (put_ok hok c (x := ⟨pw, il, wy, si, 0, 0⟩) ⟨ho.1, ho.2.1, in64_0, in64_0⟩)
    have hk := hB.out.keep (u' := w.drewN k) ((Mod.refl _ _).drewN k)
    refine ((?_ : On F w _ _).corePut hlt 5 (by decide) (.int .i64 0) (x := ⟨pw, il, wy, si, st, bu⟩) (x' := ⟨pw, il, wy, si, st, 0⟩) rfl).corePut hlt 4 (by decide) (.int .i64 0) (x' := ⟨pw, il, wy, si, 0, 0⟩) rfl
    exact hB.out.keep (by repeat (first | exact Mod.refl _ _ | apply Mod.drewN | apply Mod.drew))
  · have e0 : t.findE cpu = 3 := if_neg hi
    rw [if_neg hi, e0] at hF
    rw [if_neg hi, if_neg hi, if_neg hi, e0]
    clear h e0
    have hB := Lib.hid hA
    clear hA
    go_enter Tryz.func191, Tryz.ntmps191
    go_wp2_with (go_at_call 152; refine hF.mono ?_; rintro e w' ⟨rfl, k, rfl⟩)
    go_ret3
    exact ⟨rfl, (hB.out.keep ((Mod.refl _ _).drewN k)).cores hok⟩
theorem core_Rest (h : (coresR b t).holds F w) (cpu way now : Int) : Calls Tryz.prog 180 #[.pointer (some ⟨b, 0, none⟩), .int .i64 cpu, .int .i64 way, .int .i64 now] w (Turns (coresR b (t.rest cpu way now)) F (.int .i64 (t.restE cpu way now)) w) := by
  obtain ⟨r, hok, hA⟩ := cores_view h
  have hF := core_find hA cpu
  have hR := fun w => core_right now w
  by_cases hi : t.is cpu
  · by_cases hp : way < 0 ∨ 8 ≤ way ∨ rightC now = false
    · have e1 : t.restE cpu way now = 2 := by unfold CT.restE; rw [if_neg (by simpa using hi), if_pos hp]
      have e2 : t.rest cpu way now = t := if_neg (by rw [e1]; decide)
      rw [e1, e2]
      clear e1 e2
      have hO := Lib.hid hA
      have e0 : t.findE cpu = 0 := if_pos hi
      rw [if_pos hi, e0] at hF
      have hi2 := hi
      obtain ⟨h1, h2⟩ := hi2
      obtain ⟨c, rfl⟩ := Int.eq_ofNat_of_zero_le h1
      simp only [CT.at, Int.toNat_natCast] at *
      clear e0 h
      have hq : way < 0 ∨ (0 ≤ way ∧ 8 ≤ way) ∨ (0 ≤ way ∧ way < 8 ∧ rightC now = false) := by
        rcases hp with hp | hp | hp
        · exact .inl hp
        · exact .inr (.inl ⟨by omega, hp⟩)
        · by_cases g1 : way < 0
          · exact .inl g1
          · by_cases g2 : 8 ≤ way
            · exact .inr (.inl ⟨by omega, g2⟩)
            · exact .inr (.inr ⟨by omega, by omega, hp⟩)
      clear hp hA
      generalize rightC now = rt at *
      rcases hq with hq | ⟨hq1, hq2⟩ | ⟨hq1, hq2, rfl⟩
      all_goals
        go_enter Tryz.func180, Tryz.ntmps180
        go_wp2_with (first
          | (go_at_call 152; refine hF.mono ?_; rintro e w' ⟨rfl, k, rfl⟩)
          | (go_at_call 169; refine (hR _).mono ?_; rintro e w' ⟨rfl, k2, rfl⟩))
        go_ret
        refine ⟨rfl, (hO.out.keep ?_).cores hok⟩
        repeat (first | with_reducible exact Mod.refl _ _ | with_reducible apply Mod.alloc | with_reducible apply Mod.drewN | with_reducible apply Mod.drew | with_reducible refine Mod.setCell ?_ (by first | (simp; done) | (simp; omega)) _)
    · have hw1 : 0 ≤ way := by omega
      have hw2 : way < 8 := by omega
      have hr : rightC now = true := by
        cases hx : rightC now
        · exact absurd (.inr (.inr hx)) hp
        · rfl
      have hr2 : 0 ≤ now ∧ now ≤ 1152921504606846976 := of_decide_eq_true hr
      rw [hr] at hR
      by_cases hs : (t.at cpu).power = false ∨ (t.at cpu).idle = true
      · have e1 : t.restE cpu way now = 6 := by unfold CT.restE; rw [if_neg (by simpa using hi), if_neg hp, if_pos hs]
        have e2 : t.rest cpu way now = t := if_neg (by rw [e1]; decide)
        rw [e1, e2]
        clear e1 e2 hp
        have e0 : t.findE cpu = 0 := if_pos hi
        rw [if_pos hi, e0] at hF
        have hi2 := hi
        obtain ⟨h1, h2⟩ := hi2
        obtain ⟨c, rfl⟩ := Int.eq_ofNat_of_zero_le h1
        simp only [CT.at, Int.toNat_natCast] at *
        clear e0 h
        have ho : (t.c c).ok := hok.2.2 c
        have hB := Lib.hid (hA.core0 c)
        have hO := Lib.hid hA
        have hlt : c < t.n := by omega
        have c0 : w.cell? ⟨r, c * 6, none⟩ = some (.bool (t.c c).power) := hA.core hlt (j := 0) (by decide)
        have c1 : w.cell? ⟨r, c * 6 + 1, none⟩ = some (.bool (t.c c).idle) := hA.core hlt (j := 1) (by decide)
        have c2 : w.cell? ⟨r, c * 6 + 2, none⟩ = some (.int .i64 (t.c c).way) := hA.core hlt (j := 2) (by decide)
        have c3 : w.cell? ⟨r, c * 6 + 3, none⟩ = some (.int .i64 (t.c c).since) := hA.core hlt (j := 3) (by decide)
        have c4 : w.cell? ⟨r, c * 6 + 4, none⟩ = some (.int .i64 (t.c c).steps) := hA.core hlt (j := 4) (by decide)
        have c5 : w.cell? ⟨r, c * 6 + 5, none⟩ = some (.int .i64 (t.c c).busy) := hA.core hlt (j := 5) (by decide)
        have f0 : w.frozen? ⟨r, c * 6, none⟩ = false := hA.free 1 rfl _
        have f1 : w.frozen? ⟨r, c * 6 + 1, none⟩ = false := hA.free 1 rfl _
        have f2 : w.frozen? ⟨r, c * 6 + 2, none⟩ = false := hA.free 1 rfl _
        have f3 : w.frozen? ⟨r, c * 6 + 3, none⟩ = false := hA.free 1 rfl _
        have f4 : w.frozen? ⟨r, c * 6 + 4, none⟩ = false := hA.free 1 rfl _
        have f5 : w.frozen? ⟨r, c * 6 + 5, none⟩ = false := hA.free 1 rfl _
        generalize t.c c = x at *
        clear hA
        obtain ⟨pw, il, wy, si, st, bu⟩ := x
        dsimp only at *
        have hs2 : pw = false ∨ (pw = true ∧ il = true) := by
          cases pw <;> simp_all
        clear hs
        rcases hs2 with rfl | ⟨rfl, rfl⟩
        all_goals
          go_enter Tryz.func180, Tryz.ntmps180
          go_wp2_with (first
            | (go_at_call 152; refine hF.mono ?_; rintro e w' ⟨rfl, k, rfl⟩)
            | (go_at_call 169; refine (hR _).mono ?_; rintro e w' ⟨rfl, k2, rfl⟩))
          go_ret
          refine ⟨rfl, (hO.out.keep ?_).cores hok⟩
          repeat (first | with_reducible exact Mod.refl _ _ | with_reducible apply Mod.alloc | with_reducible apply Mod.drewN | with_reducible apply Mod.drew | with_reducible refine Mod.setCell ?_ (by first | (simp; done) | (simp; omega)) _)
      · have e1 : t.restE cpu way now = 0 := by unfold CT.restE; rw [if_neg (by simpa using hi), if_neg hp, if_neg hs]
        have e2 : t.rest cpu way now = t.put cpu.toNat { t.at cpu with idle := true, way := way, since := now } := if_pos e1
        rw [e1, e2]
        clear e1 e2 hp
        have e0 : t.findE cpu = 0 := if_pos hi
        rw [if_pos hi, e0] at hF
        have hi2 := hi
        obtain ⟨h1, h2⟩ := hi2
        obtain ⟨c, rfl⟩ := Int.eq_ofNat_of_zero_le h1
        simp only [CT.at, Int.toNat_natCast] at *
        clear e0 h
        have ho : (t.c c).ok := hok.2.2 c
        have hB := Lib.hid (hA.core0 c)
        have hO := Lib.hid hA
        have hlt : c < t.n := by omega
        have c0 : w.cell? ⟨r, c * 6, none⟩ = some (.bool (t.c c).power) := hA.core hlt (j := 0) (by decide)
        have c1 : w.cell? ⟨r, c * 6 + 1, none⟩ = some (.bool (t.c c).idle) := hA.core hlt (j := 1) (by decide)
        have c2 : w.cell? ⟨r, c * 6 + 2, none⟩ = some (.int .i64 (t.c c).way) := hA.core hlt (j := 2) (by decide)
        have c3 : w.cell? ⟨r, c * 6 + 3, none⟩ = some (.int .i64 (t.c c).since) := hA.core hlt (j := 3) (by decide)
        have c4 : w.cell? ⟨r, c * 6 + 4, none⟩ = some (.int .i64 (t.c c).steps) := hA.core hlt (j := 4) (by decide)
        have c5 : w.cell? ⟨r, c * 6 + 5, none⟩ = some (.int .i64 (t.c c).busy) := hA.core hlt (j := 5) (by decide)
        have f0 : w.frozen? ⟨r, c * 6, none⟩ = false := hA.free 1 rfl _
        have f1 : w.frozen? ⟨r, c * 6 + 1, none⟩ = false := hA.free 1 rfl _
        have f2 : w.frozen? ⟨r, c * 6 + 2, none⟩ = false := hA.free 1 rfl _
        have f3 : w.frozen? ⟨r, c * 6 + 3, none⟩ = false := hA.free 1 rfl _
        have f4 : w.frozen? ⟨r, c * 6 + 4, none⟩ = false := hA.free 1 rfl _
        have f5 : w.frozen? ⟨r, c * 6 + 5, none⟩ = false := hA.free 1 rfl _
        generalize t.c c = x at *
        clear hA
        obtain ⟨pw, il, wy, si, st, bu⟩ := x
        dsimp only at *
        have hs2 : pw = true ∧ il = false := by cases pw <;> cases il <;> simp_all
        clear hs
        obtain ⟨rfl, rfl⟩ := hs2
        go_enter Tryz.func180, Tryz.ntmps180
        go_wp2_with (first
          | (go_at_call 152; refine hF.mono ?_; rintro e w' ⟨rfl, k, rfl⟩)
          | (go_at_call 169; refine (hR _).mono ?_; rintro e w' ⟨rfl, k2, rfl⟩))
        go_ret
        refine ⟨rfl, ?_⟩
        refine On.cores (r := r) ?_ (put_ok hok c (x := ⟨true, true, way, now, st, bu⟩) ⟨⟨hw1, hw2⟩, hr2, ho.2.2⟩)
        refine (((?_ : On F w _ _).corePut hlt 1 (by decide) (.bool true) (x := ⟨true, false, wy, si, st, bu⟩) (x' := ⟨true, true, wy, si, st, bu⟩) rfl).corePut hlt 2 (by decide) (.int .i64 way) (x' := ⟨true, true, way, si, st, bu⟩) rfl).corePut hlt 3 (by decide) (.int .i64 now) (x' := ⟨true, true, way, now, st, bu⟩) rfl
        exact hB.out.keep (by repeat (first | exact Mod.refl _ _ | apply Mod.drewN | apply Mod.drew))
  · have e0 : t.findE cpu = 3 := if_neg hi
    have e1 : t.restE cpu way now = 3 := if_pos hi
    have e2 : t.rest cpu way now = t := if_neg (by rw [e1]; decide)
    rw [if_neg hi, e0] at hF
    rw [e1, e2]
    clear h e1 e2 e0
    have hB := Lib.hid hA
    clear hA
    go_enter Tryz.func180, Tryz.ntmps180
    go_wp2_with (go_at_call 152; refine hF.mono ?_; rintro e w' ⟨rfl, k, rfl⟩)
    go_ret
    exact ⟨rfl, (hB.out.keep ((Mod.refl _ _).drewN k)).cores hok⟩
theorem core_Wake (h : (coresR b t).holds F w) (cpu now : Int) : Calls Tryz.prog 100 #[.pointer (some ⟨b, 0, none⟩), .int .i64 cpu, .int .i64 now] w (Turns (coresR b (t.wake cpu now)) F (.tuple #[.int .i64 (t.wakeN cpu now), .int .i64 (t.wakeE cpu now)]) w) := by
  obtain ⟨r, hok, hA⟩ := cores_view h
  have hF := core_find hA cpu
  have hR := fun w => core_right now w
  by_cases hi : t.is cpu
  · cases hr : rightC now
    · have e1 : t.wakeE cpu now = 2 := by unfold CT.wakeE; rw [if_neg (by simpa using hi), if_pos hr]
      have e2 : t.wake cpu now = t := if_neg (by rw [e1]; decide)
      have e3 : t.wakeN cpu now = 0 := if_neg (by rw [e1]; decide)
      rw [e1, e2, e3]
      rw [hr] at hR
      clear e1 e2 e3
      have hO := Lib.hid hA
      have e0 : t.findE cpu = 0 := if_pos hi
      rw [if_pos hi, e0] at hF
      have hi2 := hi
      obtain ⟨h1, h2⟩ := hi2
      obtain ⟨c, rfl⟩ := Int.eq_ofNat_of_zero_le h1
      simp only [CT.at, Int.toNat_natCast] at *
      clear e0 h
      clear hA
      go_enter Tryz.func100, Tryz.ntmps100
      go_wp2_with (first
        | (go_at_call 152; refine hF.mono ?_; rintro e w' ⟨rfl, k, rfl⟩)
        | (go_at_call 169; refine (hR _).mono ?_; rintro e w' ⟨rfl, k2, rfl⟩))
      go_ret2
      refine ⟨rfl, (hO.out.keep ?_).cores hok⟩
      repeat (first | with_reducible exact Mod.refl _ _ | with_reducible apply Mod.alloc | with_reducible apply Mod.drewN | with_reducible apply Mod.drew | with_reducible refine Mod.setCell ?_ (by first | (simp; done) | (simp; omega)) _)
    · have hr2 : 0 ≤ now ∧ now ≤ 1152921504606846976 := of_decide_eq_true hr
      have hrn : ¬ rightC now = false := by rw [hr]; decide
      rw [hr] at hR
      cases hs : (t.at cpu).idle
      · have e1 : t.wakeE cpu now = 6 := by unfold CT.wakeE; rw [if_neg (by simpa using hi), if_neg hrn, if_pos hs]
        have e2 : t.wake cpu now = t := if_neg (by rw [e1]; decide)
        have e3 : t.wakeN cpu now = 0 := if_neg (by rw [e1]; decide)
        rw [e1, e2, e3]
        clear e1 e2 e3 hr hrn
        have e0 : t.findE cpu = 0 := if_pos hi
        rw [if_pos hi, e0] at hF
        have hi2 := hi
        obtain ⟨h1, h2⟩ := hi2
        obtain ⟨c, rfl⟩ := Int.eq_ofNat_of_zero_le h1
        simp only [CT.at, Int.toNat_natCast] at *
        clear e0 h
        have ho : (t.c c).ok := hok.2.2 c
        have hB := Lib.hid (hA.core0 c)
        have hO := Lib.hid hA
        have hlt : c < t.n := by omega
        have c0 : w.cell? ⟨r, c * 6, none⟩ = some (.bool (t.c c).power) := hA.core hlt (j := 0) (by decide)
        have c1 : w.cell? ⟨r, c * 6 + 1, none⟩ = some (.bool (t.c c).idle) := hA.core hlt (j := 1) (by decide)
        have c2 : w.cell? ⟨r, c * 6 + 2, none⟩ = some (.int .i64 (t.c c).way) := hA.core hlt (j := 2) (by decide)
        have c3 : w.cell? ⟨r, c * 6 + 3, none⟩ = some (.int .i64 (t.c c).since) := hA.core hlt (j := 3) (by decide)
        have c4 : w.cell? ⟨r, c * 6 + 4, none⟩ = some (.int .i64 (t.c c).steps) := hA.core hlt (j := 4) (by decide)
        have c5 : w.cell? ⟨r, c * 6 + 5, none⟩ = some (.int .i64 (t.c c).busy) := hA.core hlt (j := 5) (by decide)
        have f0 : w.frozen? ⟨r, c * 6, none⟩ = false := hA.free 1 rfl _
        have f1 : w.frozen? ⟨r, c * 6 + 1, none⟩ = false := hA.free 1 rfl _
        have f2 : w.frozen? ⟨r, c * 6 + 2, none⟩ = false := hA.free 1 rfl _
        have f3 : w.frozen? ⟨r, c * 6 + 3, none⟩ = false := hA.free 1 rfl _
        have f4 : w.frozen? ⟨r, c * 6 + 4, none⟩ = false := hA.free 1 rfl _
        have f5 : w.frozen? ⟨r, c * 6 + 5, none⟩ = false := hA.free 1 rfl _
        generalize t.c c = x at *
        clear hA
        obtain ⟨pw, il, wy, si, st, bu⟩ := x
        dsimp only at *
        subst hs
        go_enter Tryz.func100, Tryz.ntmps100
        go_wp2_with (first
          | (go_at_call 152; refine hF.mono ?_; rintro e w' ⟨rfl, k, rfl⟩)
          | (go_at_call 169; refine (hR _).mono ?_; rintro e w' ⟨rfl, k2, rfl⟩))
        go_ret2
        refine ⟨rfl, (hO.out.keep ?_).cores hok⟩
        repeat (first | with_reducible exact Mod.refl _ _ | with_reducible apply Mod.alloc | with_reducible apply Mod.drewN | with_reducible apply Mod.drew | with_reducible refine Mod.setCell ?_ (by first | (simp; done) | (simp; omega)) _)
      · have e1 : t.wakeE cpu now = 0 := by unfold CT.wakeE; rw [if_neg (by simpa using hi), if_neg hrn, if_neg (by rw [hs]; decide)]
        have e2 : t.wake cpu now = t.put cpu.toNat (t.at cpu).up := if_pos e1
        have e3 : t.wakeN cpu now = max 0 (now - (t.at cpu).since) := if_pos e1
        rw [e1, e2, e3]
        clear e1 e2 e3 hr hrn
        have e0 : t.findE cpu = 0 := if_pos hi
        rw [if_pos hi, e0] at hF
        have hi2 := hi
        obtain ⟨h1, h2⟩ := hi2
        obtain ⟨c, rfl⟩ := Int.eq_ofNat_of_zero_le h1
        simp only [CT.at, Int.toNat_natCast] at *
        clear e0 h
        have ho : (t.c c).ok := hok.2.2 c
        have hB := Lib.hid (hA.core0 c)
        have hO := Lib.hid hA
        have hlt : c < t.n := by omega
        have c0 : w.cell? ⟨r, c * 6, none⟩ = some (.bool (t.c c).power) := hA.core hlt (j := 0) (by decide)
        have c1 : w.cell? ⟨r, c * 6 + 1, none⟩ = some (.bool (t.c c).idle) := hA.core hlt (j := 1) (by decide)
        have c2 : w.cell? ⟨r, c * 6 + 2, none⟩ = some (.int .i64 (t.c c).way) := hA.core hlt (j := 2) (by decide)
        have c3 : w.cell? ⟨r, c * 6 + 3, none⟩ = some (.int .i64 (t.c c).since) := hA.core hlt (j := 3) (by decide)
        have c4 : w.cell? ⟨r, c * 6 + 4, none⟩ = some (.int .i64 (t.c c).steps) := hA.core hlt (j := 4) (by decide)
        have c5 : w.cell? ⟨r, c * 6 + 5, none⟩ = some (.int .i64 (t.c c).busy) := hA.core hlt (j := 5) (by decide)
        have f0 : w.frozen? ⟨r, c * 6, none⟩ = false := hA.free 1 rfl _
        have f1 : w.frozen? ⟨r, c * 6 + 1, none⟩ = false := hA.free 1 rfl _
        have f2 : w.frozen? ⟨r, c * 6 + 2, none⟩ = false := hA.free 1 rfl _
        have f3 : w.frozen? ⟨r, c * 6 + 3, none⟩ = false := hA.free 1 rfl _
        have f4 : w.frozen? ⟨r, c * 6 + 4, none⟩ = false := hA.free 1 rfl _
        have f5 : w.frozen? ⟨r, c * 6 + 5, none⟩ = false := hA.free 1 rfl _
        generalize t.c c = x at *
        clear hA
        obtain ⟨pw, il, wy, si, st, bu⟩ := x
        dsimp only at *
        subst hs
        have hsi := ho.2.1
        dsimp only at hsi
        obtain ⟨hs1, hs2⟩ := hsi
        obtain ⟨hr3, hr4⟩ := hr2
        go_enter Tryz.func100, Tryz.ntmps100
        go_wp2_with (first
          | (go_at_call 152; refine hF.mono ?_; rintro e w' ⟨rfl, k, rfl⟩)
          | (go_at_call 169; refine (hR _).mono ?_; rintro e w' ⟨rfl, k2, rfl⟩)
          | (go_at_call 170; refine (core_up hlt (hB.out.keep (by repeat (first | exact Mod.refl _ _ | apply Mod.drewN | apply Mod.drew)))).mono ?_; rintro e w2 ⟨rfl, hD⟩))
        all_goals
          go_ret2
          refine ⟨?_, On.cores (r := r) hD (put_ok hok c (up_ok ho true))⟩
          first | (simp; done) | (simp; omega)
  · have e0 : t.findE cpu = 3 := if_neg hi
    have e1 : t.wakeE cpu now = 3 := if_pos hi
    have e2 : t.wake cpu now = t := if_neg (by rw [e1]; decide)
    have e3 : t.wakeN cpu now = 0 := if_neg (by rw [e1]; decide)
    rw [if_neg hi, e0] at hF
    rw [e1, e2, e3]
    clear h e1 e2 e0 e3
    have hB := Lib.hid hA
    clear hA
    go_enter Tryz.func100, Tryz.ntmps100
    go_wp2_with (go_at_call 152; refine hF.mono ?_; rintro e w' ⟨rfl, k, rfl⟩)
    go_ret2
    exact ⟨rfl, (hB.out.keep ((Mod.refl _ _).drewN k)).cores hok⟩
end
end Go.Proofs.YtaakgpnmfkmdoaaGreatDoor

/- The walks over the table of cores: New, Get; wants, Next. No condition but those named. -/
namespace Go.Proofs.YtaakgpnmfkmdoaaGreatDoor
set_option linter.unusedVariables false
set_option linter.unusedSimpArgs false
open Go.RowKit

def core0 : CoreS := ⟨false, false, 0, 0, 0, 0⟩
def core1 : CoreS := ⟨true, false, 0, 0, 0, 0⟩
def ct0 (n : Nat) : CT := ⟨n, fun _ => core1⟩
theorem infoCore : (Tryz.prog.info? 152).map (fun i => (i.zero, i.size)) = some (some (.agg (coreV core0).toArray), 6) := by kernel_rfl
theorem infoCoreB : ((Tryz.prog.info? 152).map (fun i => decide (i.bytes ≤ 1000))) = some true := by kernel_rfl
theorem core_New_no (n : Int) (hn : ¬ (1 ≤ n ∧ n ≤ 64)) (w : World) : Calls Tryz.prog 64 #[.int .i64 n] w (Ret (.tuple #[.pointer none, .int .i64 2]) w) := by
  by_cases h1 : n < 1
  · clear hn
    go_enter Tryz.func64, Tryz.ntmps64
    go_wp2
    go_ret2
    exact Ret.of (rfl) (by repeat (first | exact Drew.refl _ | apply Drew.drewN | apply Drew.drew))
  · have h2 : 64 < n := by omega
    clear hn
    go_enter Tryz.func64, Tryz.ntmps64
    go_wp2
    go_ret2
    exact Ret.of (rfl) (by repeat (first | exact Drew.refl _ | apply Drew.drewN | apply Drew.drew))
theorem make_cores (n : Nat) (h2 : n ≤ 64) (w : World) : (Instr.makeSlice 201 (.int .i64 n) (.int .i64 n)).run Tryz.prog w = .ok (.slice (some ⟨w.heap.size, 0, none⟩) n n) (w.alloc (.cells (blkV [] n (fun _ => coreV core0) []) 152 (0,0))) := by
  obtain ⟨i, hi, hzz⟩ := Option.map_eq_some_iff.1 infoCore
  obtain ⟨i2, hi2, hb⟩ := Option.map_eq_some_iff.1 infoCoreB
  have : i2 = i := by rw [hi] at hi2; exact (Option.some.inj hi2).symm
  subst this
  simp only [Prod.mk.injEq] at hzz
  obtain ⟨hz, hs⟩ := hzz
  have hb2 := of_decide_eq_true hb
  have := Go.run_make (P := Tryz.prog) w 201 152 i2 _ Tryz.underlying201 hi hz .i64 .i64 n n (by omega) (by omega) (by have : (i2.bytes : Int) * n ≤ 1000 * 64 := Int.mul_le_mul (by omega) (by omega) (by omega) (by omega); omega) (by omega)
  rw [this, Int.toNat_natCast, hs]
  show Result.ok _ (w.alloc (.cells (madeCells (coreV core0).toArray (n * 6)) 152)) = _
  rw [made_grid' (coreV core0) 6 rfl (by decide) n]
section
variable {F : List Nat} {w u : World} {b r : Nat} {t : CT}
theorem core1_ok : core1.ok := ⟨⟨by decide, by decide⟩, ⟨by decide, by decide⟩, in64_0, in64_0⟩
def ctJ (n j : Nat) : CT := ⟨n, fun i => if i < j then core1 else core0⟩
theorem ctJ_ok {n j : Nat} (h1 : 1 ≤ n) (h2 : n ≤ 64) : (ctJ n j).ok := by
  refine ⟨h1, h2, fun i => ?_⟩
  show CoreS.ok (if i < j then core1 else core0)
  split <;> refine ⟨⟨by decide, by decide⟩, ⟨by decide, by decide⟩, in64_0, in64_0⟩
theorem core_New (n : Nat) (h1 : 1 ≤ n) (h2 : n ≤ 64) (w : World) : Calls Tryz.prog 64 #[.int .i64 n] w (TurnsV (fun d : Nat => .tuple #[.pointer (some ⟨d, 0, none⟩), .int .i64 0]) (fun d => coresR d (ct0 n)) [] w) := by
  have hmk := fun w => make_cores n h2 w
  have hB : On [] w (coresL (w.heap.size + 1) w.heap.size (ctJ n 0)) ((w.alloc (.cells (blkV [] n (fun _ => coreV core0) []) 152 (0,0))).alloc (.cells #[.slice (some ⟨w.heap.size, 0, none⟩) n n] 203 (0,0))) := by
    have x1 := (On.start w).alloc (.cells (blkV [] n (fun _ => coreV core0) []) 152 (0,0))
    have x2 := (x1.alloc (.cells #[.slice (some ⟨w.heap.size, 0, none⟩) n n] 203 (0,0))).front
    simpa [coresL, ctJ] using x2
  have hlen : (w.alloc (.cells (blkV [] n (fun _ => coreV core0) []) 152 (0,0))).heap.size = w.heap.size + 1 := sizeNew _ _
  go_enter Tryz.func64, Tryz.ntmps64
  go_wp2
  clear hlen hmk
  generalize hd : w.heap.size + 1 = d at *
  generalize hr : w.heap.size = r at *
  clear hd hr
  go_loopg [21] n (fun gg i wr => ∃ (j : Nat), i = .int .i64 j ∧ j + gg = n ∧ On [] w (coresL d r (ctJ n j)) wr)
  case atStart => exact ⟨0, rfl, by omega, hB⟩
  case round =>
    clear hB
    obtain ⟨j, rfl, hj, hB⟩ := hrel
    by_cases hlt : j < n
    · have hltI : (j : Int) < n := by omega
      have c0 : wr.cell? ⟨d, 0, none⟩ = some (.slice (some ⟨r, 0, none⟩) n n) := hB.cell 0 rfl 0
      have c1 : wr.cell? ⟨r, j * 6, none⟩ = some (.bool false) := by
        have := hB.core (i := j) (j := 0) hlt (by decide)
        rw [show (ctJ n j).c j = core0 from if_neg (by omega)] at this
        exact this
      have f1 : wr.frozen? ⟨r, j * 6, none⟩ = false := hB.free 1 rfl _
      have hN : On [] w (coresL d r (ctJ n (j + 1))) (wr.setCell ⟨r, j * 6, none⟩ (.bool true)) := by
        have := hB.coreSet (i := j) (j := 0) hlt (by decide) (.bool true) (c' := core1) (by rw [show (ctJ n j).c j = core0 from if_neg (by omega)]; rfl)
        have e : (ctJ n j).put j core1 = ctJ n (j + 1) := by
          show CT.mk n _ = CT.mk n _
          congr 1
          funext x
          show gupd _ j core1 x = _
          unfold gupd
          by_cases ex : x = j
          · rw [if_pos ex, if_pos (by omega)]
          · rw [if_neg ex]
            show (if x < j then core1 else core0) = _
            by_cases el : x < j
            · rw [if_pos el, if_pos (by omega)]
            · rw [if_neg el, if_neg (by omega)]
        rw [e] at this
        exact this
      have HN := Lib.hid hN
      clear hN
      go_wp2
      go_roundg (gk - 1)
      case measure => omega
      case rel => exact ⟨j + 1, by go_num, by omega, HN.out.keep (Mod.refl _ _)⟩
    · have hltI : ¬ (j : Int) < n := by omega
      obtain rfl : j = n := by omega
      go_wp2
      go_ret2
      refine ⟨d, rfl, ?_⟩
      have : coresL d r (ctJ j j) = coresL d r (ctJ j j) := rfl
      have hk : blkV [] j (fun i => coreV ((ctJ j j).c i)) [] = blkV [] j (fun i => coreV ((ct0 j).c i)) [] := by
        unfold blkV
        rw [gridV_congr (f := fun i => coreV ((ctJ j j).c i)) (g := fun i => coreV ((ct0 j).c i)) j (fun i hi => by
          show coreV (if i < j then core1 else core0) = _
          rw [if_pos hi]; rfl)]
      have hB2 : On [] w (coresL d r (ct0 j)) wr := by
        have h3 : coresL d r (ctJ j j) = coresL d r (ct0 j) := by
          show [_, Res.blk r (.cells (blkV [] j (fun i => coreV ((ctJ j j).c i)) []) _ _)] = _
          rw [hk]; rfl
        rw [← h3]; exact hB
      exact (hB2.keep (by repeat (first | exact Mod.refl _ _ | apply Mod.drewN | apply Mod.drew))).cores ⟨h1, h2, fun i => core1_ok⟩
theorem core_load (h : On F w (coresL b r t) u) {i : Nat} (hi : i < t.n) : (Instr.loadAt 152 (.pointer (some ⟨r, i * 6, none⟩))).run Tryz.prog u = .ok (.agg (coreV (t.c i)).toArray) u := by
  refine run_loadAt_mid u r (i * 6) 152 (coreV (t.c i)) _ ?_ Tryz.underlying152 rfl ?_
  · intro j v hj
    have hlt : j < 6 := (List.getElem?_eq_some_iff.1 hj).1
    rw [h.core hi hlt, hj]
  · have : (Tryz.prog.info? 152).map (·.size) = some 6 := by kernel_rfl
    rw [this]; rfl
set_option maxRecDepth 100000 in
set_option maxHeartbeats 800000 in
theorem core_Get (h : (coresR b t).holds F w) (cpu : Int) : Calls Tryz.prog 84 #[.pointer (some ⟨b, 0, none⟩), .int .i64 cpu] w (Nothing (.tuple #[.agg (coreV (if t.is cpu then t.at cpu else core0)).toArray, .int .i64 (t.findE cpu)]) w) := by
  obtain ⟨r, hok, hA⟩ := cores_view h
  by_cases hi : t.is cpu
  · rw [if_pos hi]
    have hF := fun u (hu : On F w (coresL b r t) u) => core_find hu cpu
    have e0 : t.findE cpu = 0 := if_pos hi
    simp only [if_pos hi, e0] at hF
    rw [e0]
    have hi2 := hi
    obtain ⟨h1, h2⟩ := hi2
    obtain ⟨c, rfl⟩ := Int.eq_ofNat_of_zero_le h1
    simp only [CT.at, Int.toNat_natCast] at *
    clear e0 h
    have hlt : c < t.n := by omega
    have hO := Lib.hid hA
    have hC := hA.keep ((Mod.refl [] w).alloc (.cells #[.bool false, .bool false, .int .i64 0, .int .i64 0, .int .i64 0, .int .i64 0] 152 (0,0)))
    have c0 : (w.alloc (.cells #[.bool false, .bool false, .int .i64 0, .int .i64 0, .int .i64 0, .int .i64 0] 152 (0,0))).cell? ⟨r, c * 6, none⟩ = some (.bool (t.c c).power) := hC.core hlt (j := 0) (by decide)
    have c1 : (w.alloc (.cells #[.bool false, .bool false, .int .i64 0, .int .i64 0, .int .i64 0, .int .i64 0] 152 (0,0))).cell? ⟨r, c * 6 + 1, none⟩ = some (.bool (t.c c).idle) := hC.core hlt (j := 1) (by decide)
    have c2 : (w.alloc (.cells #[.bool false, .bool false, .int .i64 0, .int .i64 0, .int .i64 0, .int .i64 0] 152 (0,0))).cell? ⟨r, c * 6 + 2, none⟩ = some (.int .i64 (t.c c).way) := hC.core hlt (j := 2) (by decide)
    have c3 : (w.alloc (.cells #[.bool false, .bool false, .int .i64 0, .int .i64 0, .int .i64 0, .int .i64 0] 152 (0,0))).cell? ⟨r, c * 6 + 3, none⟩ = some (.int .i64 (t.c c).since) := hC.core hlt (j := 3) (by decide)
    have c4 : (w.alloc (.cells #[.bool false, .bool false, .int .i64 0, .int .i64 0, .int .i64 0, .int .i64 0] 152 (0,0))).cell? ⟨r, c * 6 + 4, none⟩ = some (.int .i64 (t.c c).steps) := hC.core hlt (j := 4) (by decide)
    have c5 : (w.alloc (.cells #[.bool false, .bool false, .int .i64 0, .int .i64 0, .int .i64 0, .int .i64 0] 152 (0,0))).cell? ⟨r, c * 6 + 5, none⟩ = some (.int .i64 (t.c c).busy) := hC.core hlt (j := 5) (by decide)
    clear hC
    generalize t.c c = x at *
    obtain ⟨pw, il, wy, si, st, bu⟩ := x
    clear hA
    have hF2 := hF _ (hO.out.keep ((Mod.refl [] w).alloc (.cells #[.bool false, .bool false, .int .i64 0, .int .i64 0, .int .i64 0, .int .i64 0] 152 (0,0))))
    clear hF
    simp only [coreV] at *
    go_enter Tryz.func84, Tryz.ntmps84
    go_wp2_with (go_at_call 152; refine hF2.mono ?_; rintro e w' ⟨rfl, k, rfl⟩)
    refine bodyPost_ret_by (v := .tuple #[.agg #[.bool pw, .bool il, .int .i64 wy, .int .i64 si, .int .i64 st, .int .i64 bu], .int .i64 0]) ?_ rfl ?_
    · rw [results_cell_tmp rfl]; go_simp
    · refine ⟨rfl, ?_⟩
      repeat (first | with_reducible exact Mod.refl _ _ | with_reducible apply Mod.alloc | with_reducible apply Mod.drewN | with_reducible apply Mod.drew | with_reducible refine Mod.setCell ?_ (by first | (simp; done) | (simp; omega)) _)
  · rw [if_neg hi]
    have hF := fun u (hu : On F w (coresL b r t) u) => core_find hu cpu
    have e0 : t.findE cpu = 3 := if_neg hi
    simp only [if_neg hi, e0] at hF
    rw [e0]
    clear e0 h hi
    have hF2 := hF _ (hA.keep ((Mod.refl [] w).alloc (.cells #[.bool false, .bool false, .int .i64 0, .int .i64 0, .int .i64 0, .int .i64 0] 152 (0,0))))
    clear hF
    go_enter Tryz.func84, Tryz.ntmps84
    go_wp2_with (go_at_call 152; refine hF2.mono ?_; rintro e w' ⟨rfl, k, rfl⟩)
    refine bodyPost_ret_by (v := .tuple #[.agg #[.bool false, .bool false, .int .i64 0, .int .i64 0, .int .i64 0, .int .i64 0], .int .i64 3]) ?_ rfl ?_
    · rw [results_cell_tmp rfl]; go_simp
    · refine ⟨rfl, ?_⟩
      repeat (first | with_reducible exact Mod.refl _ _ | with_reducible apply Mod.alloc | with_reducible apply Mod.drewN | with_reducible apply Mod.drew | with_reducible refine Mod.setCell ?_ (by first | (simp; done) | (simp; omega)) _)
end
end Go.Proofs.YtaakgpnmfkmdoaaGreatDoor

/- The walk over mask.With. No condition but those named. -/
namespace Go.Proofs.YtaakgpnmfkmdoaaGreatDoor
set_option linter.unusedVariables false
set_option linter.unusedSimpArgs false
open Go.RowKit

def withL (m : Nat) (l : List Int) : Nat := l.foldl withM m
theorem withL_lt : ∀ (l : List Int) {m : Nat}, m < 2 ^ 64 → withL m l < 2 ^ 64
  | [], _, h => h
  | x :: l, _, h => withL_lt l (withM_lt h x)
theorem withL_step (m : Nat) {l : List Int} {j : Nat} (h : j < l.length) : withL m (l.take (j + 1)) = withM (withL m (l.take j)) (nth l j) := by
  unfold withL
  rw [List.take_succ_eq_append_getElem h, List.foldl_append]
  simp [nth, List.getD, h]
theorem mask_With (m : Nat) (hm : m < 2 ^ 64) (l : List Int) (a : Option Addr) (cap : Nat) (w : World) (hs : SlAt w a l) (hlen : l.length < 1000000) : Calls Tryz.prog 17 #[.int .u64 m, .slice a l.length cap] w (Ret (.int .u64 (withL m l : Nat)) w) := by
  obtain ⟨n, hn⟩ : ∃ n, l.length = n := ⟨_, rfl⟩
  rw [hn] at hlen ⊢
  replace hn := Lib.hid hn
  go_enter Tryz.func17, Tryz.ntmps17
  go_wp2
  go_loopg [0, 9] n (fun gg v i wr => ∃ j : Nat, v = .int .u64 (withL m (l.take j) : Nat) ∧ i = .int .i64 j ∧ j + gg = n ∧ Drew w wr)
  case atStart => exact ⟨0, rfl, rfl, by omega, Drew.refl _⟩
  case round =>
    obtain ⟨j, rfl, rfl, hj, hD⟩ := hrel
    by_cases hlt : j < n
    · have hltI : (j : Int) < n := by omega
      have hjl : j < l.length := by rw [hn.out]; exact hlt
      obtain ⟨g, rfl, hc⟩ := hs.resolve_left (fun h => by rw [h] at hjl; simp at hjl)
      have c0 : wr.cell? ⟨g, j, none⟩ = some (.int .i64 (nth l j)) := by rw [← hc j hjl]; obtain ⟨k, rfl⟩ := hD; rfl
      have hO := fun w => mask_oneZ (nth l j) w
      have hB := Lib.hid (bits_or_u64_nat (withL m (l.take j)) (oneM (nth l j)) (withL_lt _ hm) (oneM_lt _))
      have hS := Lib.hid (withL_step m hjl)
      have hDD := Lib.hid hD
      clear hD hc hs hjl
      unfold withM at hS
      generalize withL m (l.take j) = x at *
      generalize oneM (nth l j) = o at *
      generalize nth l j = y at *
      go_wp2_with (go_at_call 81; refine (hO _).mono ?_; rintro e w' ⟨rfl, k, rfl⟩)
      go_roundg (gk - 1)
      case measure => omega
      case rel => exact ⟨j + 1, by rw [hS.out, ← hB.out], by go_num, by omega, hDD.out.drewN _⟩
    · have hltI : ¬ (j : Int) < n := by omega
      have e : l.take j = l := List.take_of_length_le (by rw [hn.out]; omega)
      rw [e]
      clear hs
      go_wp2
      go_ret
      exact ⟨rfl, hD⟩
end Go.Proofs.YtaakgpnmfkmdoaaGreatDoor

/- The walks over a stop of all cores: Begin, Ack, Free. No condition but those named. -/
namespace Go.Proofs.YtaakgpnmfkmdoaaGreatDoor
set_option linter.unusedVariables false
set_option linter.unusedSimpArgs false
open Go.RowKit

def ST.beginE' (s : ST) (m : Nat) : Int := if s.on then 7 else if m = 0 then 2 else 0
def ST.begin' (s : ST) (m : Nat) : ST := if s.beginE' m = 0 then ⟨m, 0⟩ else s
section
variable {F : List Nat} {w : World} {b : Nat} {s : ST}
theorem On.stop {u : World} (h : On F w [Res.blk b (stopObj s)] u) (hok : s.ok) : Gain (stopR b s) F w u := h.gain1.imp fun F' h' => ⟨hok, h'⟩
theorem stop_Begin (h : (stopR b s).holds F w) (m : Nat) (hm : m < 2 ^ 64) : Calls Tryz.prog 334 #[.pointer (some ⟨b, 0, none⟩), .int .u64 (m : Nat)] w (Turns (stopR b (s.begin' m)) F (.int .i64 (s.beginE' m)) w) := by
  have hO := stop_On h
  obtain ⟨hok, c0, c1, hA⟩ := stop_cells h
  have f0 : w.frozen? ⟨b, 0, none⟩ = false := hA.free 0 rfl 0
  have f1 : w.frozen? ⟨b, 1, none⟩ = false := hA.free 0 rfl 1
  have HA := Lib.hid hA
  clear hA
  cases ho : s.on
  · rw [ho] at hO
    by_cases h0 : m = 0
    · have e1 : s.beginE' m = 2 := by unfold ST.beginE'; rw [ho, h0]; rfl
      rw [show s.begin' m = s from if_neg (by rw [e1]; decide), e1]
      subst h0
      clear e1 ho h
      go_enter Tryz.func334, Tryz.ntmps334
      go_wp2_with (go_at_call 333; refine hO.mono ?_; rintro e w' ⟨rfl, k, rfl⟩)
      go_ret
      exact ⟨rfl, (HA.out.keep ((Mod.refl _ _).drewN _)).stop hok⟩
    · have e1 : s.beginE' m = 0 := by unfold ST.beginE'; rw [ho, if_neg (by decide), if_neg h0]
      rw [show s.begin' m = ⟨m, 0⟩ from if_pos e1, e1]
      have hne : ((m : Int) == 0) = false := by simp; omega
      clear e1 ho h
      go_enter Tryz.func334, Tryz.ntmps334
      go_wp2_with (go_at_call 333; refine hO.mono ?_; rintro e w' ⟨rfl, k, rfl⟩)
      go_ret
      refine ⟨rfl, On.stop ?_ ⟨hm, by show (0 : Nat) < 2 ^ 64; decide⟩⟩
      have x := ((HA.out.keep (u' := w.drewN k) ((Mod.refl _ _).drewN _)).set 0 rfl 0 (.int .u64 (m : Nat))).set 0 rfl 1 (.int .u64 0)
      simpa [stopObj] using x
  · rw [ho] at hO
    have e1 : s.beginE' m = 7 := by unfold ST.beginE'; rw [ho]; rfl
    rw [show s.begin' m = s from if_neg (by rw [e1]; decide), e1]
    clear e1 ho h
    go_enter Tryz.func334, Tryz.ntmps334
    go_wp2_with (go_at_call 333; refine hO.mono ?_; rintro e w' ⟨rfl, k, rfl⟩)
    go_ret
    exact ⟨rfl, (HA.out.keep ((Mod.refl _ _).drewN _)).stop hok⟩
theorem stop_Free (h : (stopR b s).holds F w) : Calls Tryz.prog 336 #[.pointer (some ⟨b, 0, none⟩)] w (Turns (stopR b s.free) F (.int .i64 s.freeE) w) := by
  have hO := stop_On h
  obtain ⟨hok, c0, c1, hA⟩ := stop_cells h
  have f0 : w.frozen? ⟨b, 0, none⟩ = false := hA.free 0 rfl 0
  have f1 : w.frozen? ⟨b, 1, none⟩ = false := hA.free 0 rfl 1
  have HA := Lib.hid hA
  clear hA
  unfold ST.free ST.freeE
  unfold ST.on at hO
  by_cases hw : s.who = 0
  · rw [if_pos hw, if_pos hw]
    have e : decide (s.who ≠ 0) = false := by simp [hw]
    rw [e] at hO
    clear h hw e
    go_enter Tryz.func336, Tryz.ntmps336
    go_wp2_with (go_at_call 333; refine hO.mono ?_; rintro e w' ⟨rfl, k, rfl⟩)
    go_ret
    exact ⟨rfl, (HA.out.keep ((Mod.refl _ _).drewN _)).stop hok⟩
  · rw [if_neg hw, if_neg hw]
    have e : decide (s.who ≠ 0) = true := by simp [hw]
    rw [e] at hO
    clear h hw e
    go_enter Tryz.func336, Tryz.ntmps336
    go_wp2_with (go_at_call 333; refine hO.mono ?_; rintro e w' ⟨rfl, k, rfl⟩)
    go_ret
    refine ⟨rfl, On.stop ?_ ⟨by decide, by decide⟩⟩
    have x := ((HA.out.keep (u' := w.drewN k) ((Mod.refl _ _).drewN _)).set 0 rfl 0 (.int .u64 0)).set 0 rfl 1 (.int .u64 0)
    simpa [stopObj] using x
theorem stop_Ack (h : (stopR b s).holds F w) (c : Int) : Calls Tryz.prog 101 #[.pointer (some ⟨b, 0, none⟩), .int .i64 c] w (Turns (stopR b (s.ack c)) F (.int .i64 (s.ackE c)) w) := by
  have hM := stop_Must h c
  have hO := stop_On h
  obtain ⟨hok, c0, c1, hA⟩ := stop_cells h
  have f0 : w.frozen? ⟨b, 0, none⟩ = false := hA.free 0 rfl 0
  have f1 : w.frozen? ⟨b, 1, none⟩ = false := hA.free 0 rfl 1
  have HA := Lib.hid hA
  clear hA
  clear hO
  unfold ST.ack ST.ackE
  cases hm : s.must c
  · rw [hm] at hM
    simp only [Bool.false_eq_true, if_false]
    clear h hm
    go_enter Tryz.func101, Tryz.ntmps101
    go_wp2_with (go_at_call 165; refine hM.mono ?_; rintro e w' ⟨rfl, m⟩)
    go_ret
    exact ⟨rfl, (HA.out.keep m).stop hok⟩
  · rw [hm] at hM
    simp only [if_true]
    have hW := fun u g (hg : u.cell? ⟨g, 0, none⟩ = some (.int .i64 c)) => mask_With s.held hok.2 [c] (some ⟨g, 0, none⟩) 1 u (.inr ⟨g, rfl, fun j hj => by
      simp at hj; subst hj; exact hg⟩) (by simp)
    have hv : withL s.held [c] = withM s.held c := rfl
    rw [hv] at hW
    have hlt := withM_lt hok.2 c
    generalize withM s.held c = x at *
    clear h hm hv
    go_enter Tryz.func101, Tryz.ntmps101
    go_wp2_with (first
      | (
        go_at_call 165
        refine hM.mono ?_
        rintro e w1 ⟨rfl, m⟩
        have q1 := m.at c1 (by simp)
        have hB := HA.out.keep m
        have g1 : w1.frozen? ⟨b, 1, none⟩ = false := hB.free 0 rfl 1
        have HB := Lib.hid hB
        have hbl := ltOfCell q1
        dsimp only at hbl
        clear hB hM m
        )
      | (
        go_at_call 17
        refine (hW _ _ (cellAt (heapNew _ _) 0)).mono ?_
        rintro e w2 ⟨rfl, k, rfl⟩
        ))
    go_ret
    refine ⟨rfl, On.stop ?_ ⟨hok.1, hlt⟩⟩
    have y := (HB.out.keep (u' := (w1.alloc (Obj.cells #[Value.int IntKind.i64 c] 3 (0,0))).drewN k) (((Mod.refl _ _).alloc _).drewN _)).set 0 rfl 1 (.int .u64 (x : Nat))
    simpa [stopObj] using y
end
end Go.Proofs.YtaakgpnmfkmdoaaGreatDoor

/- Numbers in parts, gates, desks as things in memory. No condition but those named. -/
namespace Go.Proofs.YtaakgpnmfkmdoaaGreatDoor
set_option linter.unusedVariables false
set_option linter.unusedSimpArgs false
open Go.RowKit

def splitR (b : Nat) (l : List Int) : Res where
  holds F w := ∃ r, F = [b, r] ∧ SplitAt 147 w b r l
  keep := by
    rintro F S w w' ⟨r, rfl, h⟩ m hS
    exact ⟨r, rfl, h.keep m (hS _ (by simp)) (hS _ (by simp))⟩
  lt := by
    rintro F w ⟨r, rfl, h⟩ x hx
    simp at hx
    rcases hx with rfl | rfl
    · exact ltOf h.hb
    · exact ltOf h.hr
def gateR (g : Nat) (s : SG) : Res where
  holds F w := ∃ b r, F = [g, b, r] ∧ GateAt w g b r s
  keep := by
    rintro F S w w' ⟨b, r, rfl, h⟩ m hS
    exact ⟨b, r, rfl, h.keep m (hS _ (by simp)) (hS _ (by simp)) (hS _ (by simp))⟩
  lt := by
    rintro F w ⟨b, r, rfl, h⟩ x hx
    simp at hx
    rcases hx with rfl | rfl | rfl
    · exact ltOf h.hg
    · exact ltOf h.sp.hb
    · exact ltOf h.sp.hr
def deskR (d : Nat) (s : SH) : Res where
  holds F w := ∃ q pm, F = d :: (qF q ++ pF pm) ∧ DeskAt w d q pm s
  keep := by
    rintro F S w w' ⟨q, pm, rfl, h⟩ m hS
    exact ⟨q, pm, rfl, h.keep m hS⟩
  lt := by
    rintro F w ⟨q, pm, rfl, h⟩ x hx
    exact h.lt x hx
section
variable {F : List Nat} {w : World} {b : Nat} {l : List Int} {s : SG} {t : SH}
theorem splitR_len (h : (splitR b l).holds F w) : 1 ≤ l.length ∧ l.length ≤ 64 := by obtain ⟨r, _, h⟩ := h; exact ⟨h.pos, h.le⟩
theorem splitx_Add (h : (splitR b l).holds F w) (c n : Int) (hn : In64 n) : Calls Tryz.prog 226 #[.pointer (some ⟨b, 0, none⟩), .int .i64 c, .int .i64 n] w (Turns (splitR b (sAdd l c n)) F (.int .i64 (sAddE l c n)) w) := by
  obtain ⟨r, rfl, h⟩ := h
  refine (split_Add b r l c n hn w h).mono ?_
  rintro e w' ⟨rfl, m, x⟩
  exact ⟨rfl, [b, r], ⟨r, rfl, x⟩, m.mono (by simp), fun k hk => .inl hk⟩
theorem splitx_Fold (h : (splitR b l).holds F w) (f t : Int) : Calls Tryz.prog 302 #[.pointer (some ⟨b, 0, none⟩), .int .i64 f, .int .i64 t] w (Turns (splitR b (sFold l f t)) F (.int .i64 (sFoldE l f t)) w) := by
  obtain ⟨r, rfl, h⟩ := h
  refine (split_Fold b r l f t w h).mono ?_
  rintro e w' ⟨rfl, m, x⟩
  exact ⟨rfl, [b, r], ⟨r, rfl, x⟩, m.mono (by simp), fun k hk => .inl hk⟩
theorem splitx_New (n : Nat) (h1 : 1 ≤ n) (h2 : n ≤ 64) (w : World) : Calls Tryz.prog 60 #[.int .i64 n] w (TurnsV (fun d : Nat => .tuple #[.pointer (some ⟨d, 0, none⟩), .int .i64 0]) (fun d => splitR d (List.replicate n 0)) [] w) := by
  refine (split_New_ok n w h1 h2).mono ?_
  rintro e w' ⟨rfl, m, hs, x⟩
  exact ⟨w.heap.size + 1, rfl, [w.heap.size + 1, w.heap.size], ⟨w.heap.size, rfl, x⟩, m, fun k hk => .inr (by simp at hk; omega)⟩
theorem gatex_New (n : Nat) (h1 : 1 ≤ n) (h2 : n ≤ 64) (w : World) : Calls Tryz.prog 62 #[.int .i64 n] w (TurnsV (fun d : Nat => .tuple #[.pointer (some ⟨d, 0, none⟩), .int .i64 0]) (fun d => gateR d ⟨List.replicate n 0, 0⟩) [] w) := by
  refine (gate_New_ok n w h1 h2).mono ?_
  rintro e w' ⟨g, b, r, rfl, m, ⟨q1, q2, q3⟩, x⟩
  exact ⟨g, rfl, [g, b, r], ⟨b, r, rfl, x⟩, m, fun k hk => .inr (by simp at hk; omega)⟩
theorem gatex_Want (h : (gateR b s).holds F w)  : Calls Tryz.prog 143 #[.pointer (some ⟨b, 0, none⟩)] w (Turns (gateR b (s.want)) F (.int .i64 (s.wantE)) w) := by
  obtain ⟨b2, r, rfl, h⟩ := h
  refine (gate_Want b b2 r s _ h).mono ?_
  rintro e w' ⟨rfl, m, x⟩
  exact ⟨rfl, [b, b2, r], ⟨b2, r, rfl, x⟩, m.mono (by simp), fun k hk => .inl hk⟩
theorem gatex_Free (h : (gateR b s).holds F w)  : Calls Tryz.prog 177 #[.pointer (some ⟨b, 0, none⟩)] w (Turns (gateR b (s.free)) F (.int .i64 (s.freeE)) w) := by
  obtain ⟨b2, r, rfl, h⟩ := h
  refine (gate_Free b b2 r s _ h).mono ?_
  rintro e w' ⟨rfl, m, x⟩
  exact ⟨rfl, [b, b2, r], ⟨b2, r, rfl, x⟩, m.mono (by simp), fun k hk => .inl hk⟩
theorem gatex_Take (h : (gateR b s).holds F w)  : Calls Tryz.prog 249 #[.pointer (some ⟨b, 0, none⟩)] w (Turns (gateR b (s.take)) F (.int .i64 (s.takeE)) w) := by
  obtain ⟨b2, r, rfl, h⟩ := h
  refine (gate_Take b b2 r s _ h).mono ?_
  rintro e w' ⟨rfl, m, x⟩
  exact ⟨rfl, [b, b2, r], ⟨b2, r, rfl, x⟩, m.mono (by simp), fun k hk => .inl hk⟩
theorem gatex_Enter (h : (gateR b s).holds F w) (c : Int) : Calls Tryz.prog 140 #[.pointer (some ⟨b, 0, none⟩), .int .i64 c] w (Turns (gateR b (s.enter c)) F (.int .i64 (s.enterE c)) w) := by
  obtain ⟨b2, r, rfl, h⟩ := h
  refine (gate_Enter b b2 r s c _ h).mono ?_
  rintro e w' ⟨rfl, m, x⟩
  exact ⟨rfl, [b, b2, r], ⟨b2, r, rfl, x⟩, m.mono (by simp), fun k hk => .inl hk⟩
theorem gatex_Leave (h : (gateR b s).holds F w) (c : Int) : Calls Tryz.prog 148 #[.pointer (some ⟨b, 0, none⟩), .int .i64 c] w (Turns (gateR b (s.leave c)) F (.int .i64 (s.leaveE c)) w) := by
  obtain ⟨b2, r, rfl, h⟩ := h
  refine (gate_Leave b b2 r s c _ h).mono ?_
  rintro e w' ⟨rfl, m, x⟩
  exact ⟨rfl, [b, b2, r], ⟨b2, r, rfl, x⟩, m.mono (by simp), fun k hk => .inl hk⟩
theorem DeskDo.turns {q : Option (Nat × Nat)} {pm : Option Nat} {v : Value} {s' : SH} {e : Ending} {w' : World} (h : DeskDo b q pm v s' w e w') : Turns (deskR b s') (b :: (qF q ++ pF pm)) v w e w' := by
  obtain ⟨q', pm', rfl, m, x, hk⟩ := h
  refine ⟨rfl, _, ⟨q', pm', rfl, x⟩, m, fun k h => ?_⟩
  rcases List.mem_cons.1 h with rfl | h
  · exact .inl List.mem_cons_self
  · rcases hk k h with h | h
    · exact .inl (List.mem_cons_of_mem _ h)
    · exact .inr h
theorem deskx_Plan (h : (deskR b t).holds F w) (k : Int) : Calls Tryz.prog 232 #[.pointer (some ⟨b, 0, none⟩), .int .i64 k] w (Turns (deskR b (t.doPlan k)) F (.int .i64 (planE k)) w) := by
  obtain ⟨q, pm, rfl, h⟩ := h
  exact (hot_Plan b q pm t k w h).mono (fun e w' h => h.turns)
theorem deskx_Begin (h : (deskR b t).holds F w) (up : Bool) (cpu by_ : Int) : Calls Tryz.prog 144 #[.pointer (some ⟨b, 0, none⟩), .bool up, .int .i64 cpu, .int .i64 by_] w (Turns (deskR b (t.begin_ up cpu by_)) F (.int .i64 (t.beginE cpu by_)) w) := by
  obtain ⟨q, pm, rfl, h⟩ := h
  exact (hot_Begin b q pm t up cpu by_ w h).mono (fun e w' h => h.turns)
theorem deskx_Done (h : (deskR b t).holds F w) : Calls Tryz.prog 174 #[.pointer (some ⟨b, 0, none⟩)] w (Turns (deskR b t.done) F (.int .i64 t.mayE) w) := by
  obtain ⟨q, pm, rfl, h⟩ := h
  exact (hot_Done b q pm t w h).mono (fun e w' h => h.turns)
theorem deskx_End (h : (deskR b t).holds F w) : Calls Tryz.prog 176 #[.pointer (some ⟨b, 0, none⟩)] w (Turns (deskR b t.end_) F (.tuple #[.int .i64 t.endV, .int .i64 t.endE]) w) := by
  obtain ⟨q, pm, rfl, h⟩ := h
  exact (hot_End b q pm t w h).mono (fun e w' h => h.turns)
theorem deskx_Next (h : (deskR b t).holds F w) : Calls Tryz.prog 172 #[.pointer (some ⟨b, 0, none⟩)] w (Turns (deskR b t.next) F (stepV t) w) := by
  obtain ⟨q, pm, rfl, h⟩ := h
  exact (hot_Next b q pm t w h).mono (fun e w' h => h.turns)
theorem deskx_Busy (h : (deskR b t).holds F w) : Calls Tryz.prog 19 #[.pointer (some ⟨b, 0, none⟩)] w (Ret (.bool t.run.isSome) w) := by
  obtain ⟨q, pm, rfl, h⟩ := h
  exact hot_Busy b q pm t w h
theorem deskx_Over (h : (deskR b t).holds F w) : Calls Tryz.prog 175 #[.pointer (some ⟨b, 0, none⟩)] w (Ret (.bool t.over) w) := by
  obtain ⟨q, pm, rfl, h⟩ := h
  exact hot_Over b q pm t w h
theorem deskx_Up (h : (deskR b t).holds F w) : Calls Tryz.prog 247 #[.pointer (some ⟨b, 0, none⟩)] w (Ret (.bool t.up) w) := by
  obtain ⟨q, pm, rfl, h⟩ := h
  exact hot_Up b q pm t w h
theorem deskx_Cpu (h : (deskR b t).holds F w) : Calls Tryz.prog 171 #[.pointer (some ⟨b, 0, none⟩)] w (Ret (.int .i64 t.cpu) w) := by
  obtain ⟨q, pm, rfl, h⟩ := h
  exact hot_Cpu b q pm t w h
theorem deskx_By (h : (deskR b t).holds F w) : Calls Tryz.prog 167 #[.pointer (some ⟨b, 0, none⟩)] w (Ret (.int .i64 t.by_) w) := by
  obtain ⟨q, pm, rfl, h⟩ := h
  exact hot_By b q pm t w h
end
def sh0 : SH := ⟨none, false, 0, 0, false, []⟩
theorem desk_new (w : World) : (deskR w.heap.size sh0).holds [w.heap.size] (w.alloc (.cells #[.pointer none, .map none] 129 (0,0))) :=
  ⟨none, none, rfl, heapNew _ _, rfl, rfl, by simp [qF], by simp [pF], by simp [pF], by constructor <;> simp [sh0]⟩
theorem stop_new (w : World) : (stopR w.heap.size ⟨0, 0⟩).holds [w.heap.size] (w.alloc (.cells #[.int .u64 0, .int .u64 0] 125 (0,0))) := ⟨by constructor <;> simp, rfl, heapNew _ _⟩
end Go.Proofs.YtaakgpnmfkmdoaaGreatDoor
