/- The walk over package wheel's New at a tick that fits. -/
import Derived.Test.YthieionajemjhaaDoorWheelAdd
namespace Go.Proofs.YthieionajemjhaaDoor
set_option linter.unusedVariables false
set_option linter.unusedSimpArgs false
open Go.RowKit
theorem heapNewW {w : World} {n : Nat} {o : Obj} (h : w.heap.size = n) : (w.alloc o).heap[n]? = some o := by
  subst h; exact heapNew _ _
def sw0 (t : Nat) : SW := { now := t, dues := [], lists := fun _ => [] }
theorem zeroWheel : Tryd.zeroCells90 = #[.int .i64 0, .map none] ++ Array.replicate 169 (.slice none 0 0) := by kernel_rfl
set_option maxRecDepth 100000 in
set_option maxHeartbeats 2000000 in
theorem wheel_New (t : Nat) (ht : tickOk t) (w : World) : Calls Tryd.prog 30 #[.int .i64 t] w (fun e w' => ∃ d mb, e = .returned (.tuple #[.pointer (some ⟨d, 0, none⟩), .int .i64 0]) ∧ Mod [] w w' ∧ WheelAt w' d mb (fun _ => (none, 0)) (sw0 t) ∧ w.heap.size ≤ d ∧ w.heap.size ≤ mb) := by
  have h2 := decide_eq_true ht
  have hmk := fun w => run_makeMap (P := Tryd.prog) 86 w
  have hz := Tryd.zeroValue90
  clear ht
  go_enter Tryd.func30, Tryd.ntmps30
  go_wp2_with (go_at_call 55; refine (wheel_right _ _).mono ?_; rintro e w' ⟨rfl, k1, rfl⟩)
  have hsz : Tryd.zeroCells90.size = 171 := by kernel_rfl
  go_ret2
  refine ⟨w.heap.size + 1, w.heap.size, rfl, ((Mod.refl _ _).drewN _ |>.alloc _).alloc _, ⟨⟨_, heapNewW (by simp), by simp [hsz], ?_, ?_, ?_⟩, (MapAt.new .i64 (w.drewN k1)).keep ((Mod.refl [] _).alloc _) (by simp), fun k hk => ⟨rfl, rfl⟩, by simp, fun k hk b hb => by simp [lF] at hb, fun j k _ _ _ b hb => by simp [lF] at hb⟩, by omega, by omega⟩
  · rw [Array.getElem?_setIfInBounds_ne (by omega), Array.getElem?_setIfInBounds_self_of_lt (by omega)]
    try rfl
  · rw [Array.getElem?_setIfInBounds_self_of_lt (by simp [hsz])]
  · intro k hk
    rw [Array.getElem?_setIfInBounds_ne (by omega), Array.getElem?_setIfInBounds_ne (by omega), zeroWheel]
    rw [Array.getElem?_append_right (by simp)]
    show (Array.replicate 169 (Value.slice none 0 0))[2 + k - 2]? = _
    rw [show 2 + k - 2 = k by omega]
    rw [Array.getElem?_eq_getElem (by simp; omega)]
    simp [lA, sw0]
end Go.Proofs.YthieionajemjhaaDoor
