/- The walks over the dice's Event, the program's and the document's. -/
import Derived.Test.YtiegnbdoidiffaaDrill
import Derived.Test.YtiegnbdoidiffaaAnd
namespace Go.Proofs.Ytiegnbdoidiffaa
set_option linter.unusedVariables false
set_option linter.unusedSimpArgs false
open Go.RowKit

def dK (x : Int) : Int := if dV x 100 < 60 then 1 else if dV x 100 < 66 then 2 else 3 + dV (dX x) 28
def dKN (x : Int) : Int := if dV x 100 < 66 then dX x else dX (dX x)
theorem dN_in {b : Int} (h : 1 ≤ b ∧ b ≤ 2147483648) (x : Int) : dN x b = dX x := if_pos h
def rightC (c : Int) : Prop := 1 ≤ c ∧ c ≤ 64
instance (c : Int) : Decidable (rightC c) := by unfold rightC; infer_instance
theorem drill_right (c : Int) (w : World) : Calls Try.prog 48 #[.int .i64 c] w (Ret (.bool (decide (rightC c))) w) := by
  by_cases h0 : 1 ≤ c
  · by_cases h1 : c ≤ 64
    · go_enter Try.func48, Try.ntmps48
      go_wp2
      go_ret
      exact Ret.of (by simp [rightC, h0, h1]) (by repeat (first | exact Drew.refl _ | apply Drew.drewN | apply Drew.drew))
    · go_enter Try.func48, Try.ntmps48
      go_wp2
      go_ret
      exact Ret.of (by simp [rightC, h0, h1]) (by repeat (first | exact Drew.refl _ | apply Drew.drewN | apply Drew.drew))
  · have hD : decide (rightC c) = false := decide_eq_false (fun x => h0 x.1)
    rw [hD]
    clear hD
    go_enter Try.func48, Try.ntmps48
    go_wp2
    go_ret
    exact Ret.of (rfl) (by repeat (first | exact Drew.refl _ | apply Drew.drewN | apply Drew.drew))
theorem DiceAt.keep {T : TypeId} {S : List Nat} {w w' : World} {d : Nat} {x : Int} (h : DiceAt T w d x) (m : Mod S w w') (hd : d ∉ S) : DiceAt T w' d x := Mod.keep m h hd
theorem DiceAt.same {T : TypeId} {w w' : World} {d : Nat} {x : Int} (h : DiceAt T w d x) (e : w'.heap = w.heap) : DiceAt T w' d x := by unfold DiceAt; rw [e]; exact h
set_option maxRecDepth 100000 in
theorem drill_kind (d : Nat) (x : Int) (w : World) (h : DiceAt 82 w d x) : Calls Try.prog 49 #[.pointer (some ⟨d, 0, none⟩)] w (Rets (.int .i64 (dK x)) [d] w fun w' => DiceAt 82 w' d (dKN x)) := by
  have hr1 := drill_Roll d x 100 w h
  rw [dN_in (by omega)] at hr1
  have hv := dV_bd x 100 ⟨by omega, by omega⟩
  have hv2 := dV_bd (dX x) 28 ⟨by omega, by omega⟩
  by_cases e1 : dV x 100 < 60
  · have hK : dK x = 1 := if_pos e1
    have hN : dKN x = dX x := if_pos (by omega)
    rw [hK, hN]
    clear hK hN hv2
    generalize dV x 100 = v at *
    go_enter Try.func49, Try.ntmps49
    go_wp2_with (go_at_call 27; refine hr1.mono ?_; rintro e w1 ⟨rfl, m1, x1⟩)
    go_ret
    exact Rets.of rfl m1 x1
  by_cases e2 : dV x 100 < 66
  · have hK : dK x = 2 := by unfold dK; rw [if_neg e1, if_pos e2]
    have hN : dKN x = dX x := if_pos e2
    rw [hK, hN]
    clear hK hN hv2
    generalize dV x 100 = v at *
    go_enter Try.func49, Try.ntmps49
    go_wp2_with (go_at_call 27; refine hr1.mono ?_; rintro e w1 ⟨rfl, m1, x1⟩)
    go_ret
    exact Rets.of rfl m1 x1
  · have hK : dK x = 3 + dV (dX x) 28 := by unfold dK; rw [if_neg e1, if_neg e2]
    have hN : dKN x = dX (dX x) := if_neg e2
    rw [hK, hN]
    clear hK hN
    have e0 : dN x 100 = dX x := dN_in (by omega) x
    have e3 : dN (dX x) 28 = dX (dX x) := dN_in (by omega) _
    have E0 := Lib.hid e0
    have E3 := Lib.hid e3
    obtain ⟨q1, q2⟩ := hv2
    clear hr1 e0 e3
    go_enter Try.func49, Try.ntmps49
    go_wp2_with (first | (go_at_call 27; refine (drill_Roll d _ _ _ (by exact h)).mono ?_; rintro e w1 ⟨rfl, m1, x1⟩; clear h; rw [E0.out] at x1) | (go_at_call 27; refine (drill_Roll d _ _ _ (by exact x1)).mono ?_; rintro e w2 ⟨rfl, m2, x2⟩; rw [E3.out] at x2))
    go_ret
    exact Rets.of (by go_num) (m1.trans m2 (by simp)) x2

theorem results_cell1 {fn : Func} {p : Tmp} {ty : TypeId} (h : fn.results = #[.cell p ty]) (tmps : Array Value) (P : Program) (w : World) :
    (results fn tmps).run P w = ((asAddr (tmps.getD p undef)).run P w).andThen fun a w₁ => (loadVar ty a).run P w₁ := by
  simp only [results, h]
  simp [Sem.run_bind, Result.andThen]
def evMask (y : Int) (c : Int) : Nat := (dV y 255 + 1).toNat &&& uptoM c
def evM (y : Int) (c : Int) : Nat := if evMask y c = 0 then 1 else evMask y c
/-- The event that comes next; the dice's number behind it. -/
def evV (x c : Int) : Value := .agg #[.int .i64 (dK x), .int .i64 (dV (dKN x) c), .int .i64 (dV (dX (dKN x)) 6), .int .u64 (evM (dX (dX (dX (dKN x)))) c), .int .i64 (dV (dX (dX (dKN x))) 20)]
def evN (x : Int) : Int := dX (dX (dX (dX (dKN x))))
def ev0 : Value := .agg #[.int .i64 0, .int .i64 0, .int .i64 0, .int .u64 0, .int .i64 0]
def evR (x c : Int) : Value := if rightC c then evV x c else ev0
def evRN (x c : Int) : Int := if rightC c then evN x else x

/-- How a struct of five cells reads as a whole. -/
theorem load_ev {w : World} {b T : Nat} {v0 v1 v2 v3 v4 : Value} (h : w.heap[b]? = some (.cells #[v0, v1, v2, v3, v4] T (0,0))) : (loadVar 48 ⟨b, 0, none⟩).run Try.prog w = .ok (.agg #[v0, v1, v2, v3, v4]) w := by
  have c0 : w.cell? ⟨b, 0, none⟩ = some v0 := cellAt h 0
  have c1 : w.cell? ⟨b, 1, none⟩ = some v1 := cellAt h 1
  have c2 : w.cell? ⟨b, 2, none⟩ = some v2 := cellAt h 2
  have c3 : w.cell? ⟨b, 3, none⟩ = some v3 := cellAt h 3
  have c4 : w.cell? ⟨b, 4, none⟩ = some v4 := cellAt h 4
  clear h
  go_simp
theorem results_ev {fn : Func} {p : Tmp} (h : fn.results = #[.cell p 48]) {tmps : Array Value} {w : World} {b T : Nat} {v0 v1 v2 v3 v4 : Value} (hp : tmps.getD p undef = .pointer (some ⟨b, 0, none⟩)) (hb : w.heap[b]? = some (.cells #[v0, v1, v2, v3, v4] T (0,0))) :
    (results fn tmps).run Try.prog w = .ok (.agg #[v0, v1, v2, v3, v4]) w := by
  rw [results_cell1 h, hp]
  have := load_ev hb
  simp [asAddr, Result.andThen, this]
theorem heapNewAt {w : World} {n : Nat} (o : Obj) (h : w.heap.size = n) : (w.alloc o).heap[n]? = some o := by
  subst h; exact heapNew _ _

end Go.Proofs.Ytiegnbdoidiffaa
