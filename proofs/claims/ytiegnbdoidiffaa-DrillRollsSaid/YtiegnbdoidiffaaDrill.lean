/- The walks over package drill's dice and davitref37's: Roll. -/
import Derived.Test.YtiegnbdoidiffaaKit
namespace Go.Proofs.Ytiegnbdoidiffaa
set_option linter.unusedVariables false
set_option linter.unusedSimpArgs false
open Go.RowKit

/-- The dice's number behind a roll; what the roll tells. -/
def dX (x : Int) : Int := IntKind.u64.wrap (IntKind.u64.wrap (x * 6364136223846793005) + 1442695040888963407)
def inB (b : Int) : Prop := 1 ≤ b ∧ b ≤ 2147483648
instance (b : Int) : Decidable (inB b) := by unfold inB; infer_instance
def dV (x b : Int) : Int := if inB b then (dX x / 8589934592).tmod b else 0
def dN (x b : Int) : Int := if inB b then dX x else x
theorem dX_bd (x : Int) : 0 ≤ dX x ∧ dX x < 18446744073709551616 := by
  unfold dX
  generalize IntKind.u64.wrap (x * 6364136223846793005) + 1442695040888963407 = y
  unfold IntKind.wrap
  simp only [IntKind.bits, IntKind.signed]
  constructor
  · simp; omega
  · simp; omega
theorem dV_bd (x b : Int) (h : inB b) : 0 ≤ dV x b ∧ dV x b < b := by
  have := dX_bd x
  unfold dV
  rw [if_pos h]
  have h0 : 0 ≤ dX x / 8589934592 := by omega
  rw [Int.tmod_eq_emod_of_nonneg h0]
  have := h.1
  exact ⟨Int.emod_nonneg _ (by omega), Int.emod_lt_of_pos _ (by omega)⟩

/-- Dice at block d. -/
def DiceAt (T : TypeId) (w : World) (d : Nat) (x : Int) : Prop := w.heap[d]? = some (.cells #[.int .u64 x] T (0,0))

set_option maxRecDepth 100000 in
theorem drill_Roll
  (d : Nat) (x : Int) (b : Int) (w : World) (hd : DiceAt 82 w d x) : Calls Try.prog 27 #[.pointer (some ⟨d, 0, none⟩), .int .i64 b] w (Rets (.int .i64 (dV x b)) [d] w fun w' => DiceAt 82 w' d (dN x b)) := by
  have c0 : w.cell? ⟨d, 0, none⟩ = some (.int .u64 x) := cellAt hd 0
  have f0 : w.frozen? ⟨d, 0, none⟩ = false := freeAt hd 0
  by_cases h : inB b
  · have hb := dX_bd x
    have hv := dV_bd x b h
    have hV : dV x b = (dX x / 8589934592).tmod b := if_pos h
    have hN : dN x b = dX x := if_pos h
    have HV := Lib.hid hV
    have HN := Lib.hid hN
    have hw : wrap64 (dX x / 8589934592) = dX x / 8589934592 := by
      unfold wrap64; omega
    have hw2 : wrap64 ((dX x / 8589934592).tmod b) = (dX x / 8589934592).tmod b := by
      rw [← hV]
      have := h.2
      unfold wrap64; omega
    have HW := Lib.hid hw
    have HW2 := Lib.hid hw2
    obtain ⟨h1, h2⟩ := h
    clear hV hN hw hw2 hv hb
    go_enter Try.func27, Try.ntmps27
    go_wp2
    go_ret
    refine Rets.of ?_ (Mod.setCell (Mod.refl _ _) (by simp) _) ?_
    · rw [HV.out]
      first
      | (show Value.int .i64 ((wrap64 (dX x / 8589934592)).tmod b) = _; rw [HW.out])
      | (show Value.int .i64 (wrap64 ((dX x / 8589934592).tmod b)) = _; rw [HW2.out])
    · rw [HN.out]
      exact (heapSet hd 0 _).trans (by simp [dX])
  · have hV : dV x b = 0 := if_neg h
    have hN : dN x b = x := if_neg h
    rw [hV, hN]
    have hne : b < 1 ∨ (1 ≤ b ∧ 2147483648 < b) := by unfold inB at h; omega
    clear h hV hN
    rcases hne with h | ⟨h1, h2⟩
    all_goals
      go_enter Try.func27, Try.ntmps27
      go_wp2
      go_ret
      exact Rets.of rfl (Mod.refl _ _) hd
set_option maxRecDepth 100000 in
theorem rdrill_Roll
  (d : Nat) (x : Int) (b : Int) (w : World) (hd : DiceAt 44 w d x) : Calls Try.prog 28 #[.pointer (some ⟨d, 0, none⟩), .int .i64 b] w (Rets (.int .i64 (dV x b)) [d] w fun w' => DiceAt 44 w' d (dN x b)) := by
  have c0 : w.cell? ⟨d, 0, none⟩ = some (.int .u64 x) := cellAt hd 0
  have f0 : w.frozen? ⟨d, 0, none⟩ = false := freeAt hd 0
  by_cases h : inB b
  · have hb := dX_bd x
    have hv := dV_bd x b h
    have hV : dV x b = (dX x / 8589934592).tmod b := if_pos h
    have hN : dN x b = dX x := if_pos h
    have HV := Lib.hid hV
    have HN := Lib.hid hN
    have hw : wrap64 (dX x / 8589934592) = dX x / 8589934592 := by
      unfold wrap64; omega
    have hw2 : wrap64 ((dX x / 8589934592).tmod b) = (dX x / 8589934592).tmod b := by
      rw [← hV]
      have := h.2
      unfold wrap64; omega
    have HW := Lib.hid hw
    have HW2 := Lib.hid hw2
    obtain ⟨h1, h2⟩ := h
    clear hV hN hw hw2 hv hb
    go_enter Try.func28, Try.ntmps28
    go_wp2
    go_ret
    refine Rets.of ?_ (Mod.setCell (Mod.refl _ _) (by simp) _) ?_
    · rw [HV.out]
      first
      | (show Value.int .i64 ((wrap64 (dX x / 8589934592)).tmod b) = _; rw [HW.out])
      | (show Value.int .i64 (wrap64 ((dX x / 8589934592).tmod b)) = _; rw [HW2.out])
    · rw [HN.out]
      exact (heapSet hd 0 _).trans (by simp [dX])
  · have hV : dV x b = 0 := if_neg h
    have hN : dN x b = x := if_neg h
    rw [hV, hN]
    have hne : b < 1 ∨ (1 ≤ b ∧ 2147483648 < b) := by unfold inB at h; omega
    clear h hV hN
    rcases hne with h | ⟨h1, h2⟩
    all_goals
      go_enter Try.func28, Try.ntmps28
      go_wp2
      go_ret
      exact Rets.of rfl (Mod.refl _ _) hd
theorem drill_Roll_nil (b : Int) (w : World) : Calls Try.prog 27 #[.pointer none, .int .i64 b] w (Ret (.int .i64 0) w) := by
  go_enter Try.func27, Try.ntmps27
  go_wp2
  go_ret
  exact Ret.of (rfl) (by repeat (first | exact Drew.refl _ | apply Drew.drewN | apply Drew.drew))
theorem drill_New (x : Int) (w : World) : Calls Try.prog 26 #[.int .u64 x] w (Rets (.pointer (some ⟨w.heap.size, 0, none⟩)) [] w fun w' => w.heap.size < w'.heap.size ∧ DiceAt 82 w' w.heap.size x) := by
  go_enter Try.func26, Try.ntmps26
  go_wp2
  go_ret
  exact Rets.of rfl ((Mod.refl _ _).alloc _) ⟨by rw [sizeNew]; omega, heapNew _ _⟩
end Go.Proofs.Ytiegnbdoidiffaa
