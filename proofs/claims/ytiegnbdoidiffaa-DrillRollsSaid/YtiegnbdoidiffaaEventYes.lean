/- The walks over the dice's Event, the program's. -/
import Derived.Test.YtiegnbdoidiffaaEvent
namespace Go.Proofs.Ytiegnbdoidiffaa
set_option linter.unusedVariables false
set_option linter.unusedSimpArgs false
open Go.RowKit

theorem maskN {n : Nat} (h : n < 255) : (n + 1 : Nat) < 2 ^ 64 := by omega
set_option maxRecDepth 100000 in
set_option maxHeartbeats 2000000 in
theorem drill_Event_yes (d : Nat) (x c : Int) (w : World) (h : DiceAt 82 w d x) (hc : rightC c) : Calls Try.prog 30 #[.pointer (some ⟨d, 0, none⟩), .int .i64 c] w (Rets (evV x c) [d] w fun w' => DiceAt 82 w' d (evN x)) := by
  have hc2 := decide_eq_true hc
  have hd := ltOf h
  have rK : ∀ w, DiceAt 82 w d x → Calls Try.prog 49 #[.pointer (some ⟨d, 0, none⟩)] w (Rets (.int .i64 (dK x)) [d] w fun w' => DiceAt 82 w' d (dKN x)) := drill_kind d x
  have rR : ∀ b, inB b → ∀ y w, DiceAt 82 w d y → Calls Try.prog 27 #[.pointer (some ⟨d, 0, none⟩), .int .i64 b] w (Rets (.int .i64 (dV y b)) [d] w fun w' => DiceAt 82 w' d (dX y)) := by
    intro b hb y w hy
    have := drill_Roll d y b w hy
    rwa [dN_in hb] at this
  obtain ⟨hc3, hc4⟩ := hc
  have r1 := rR c ⟨by omega, by omega⟩ (dKN x)
  have r2 := rR 6 ⟨by omega, by omega⟩ (dX (dKN x))
  have r3 := rR 20 ⟨by omega, by omega⟩ (dX (dX (dKN x)))
  have r4 := rR 255 ⟨by omega, by omega⟩ (dX (dX (dX (dKN x))))
  obtain ⟨b1, b2⟩ := dV_bd (dX (dX (dX (dKN x)))) 255 ⟨by omega, by omega⟩
  clear rR
  unfold evV evN evM evMask
  generalize dX (dX (dX (dX (dKN x)))) = y4 at *
  generalize dV (dX (dX (dX (dKN x)))) 255 = v4 at *
  generalize dX (dX (dX (dKN x))) = y3 at *
  generalize dV (dX (dX (dKN x))) 20 = v3 at *
  generalize dX (dX (dKN x)) = y2 at *
  generalize dV (dX (dKN x)) 6 = v2 at *
  generalize dX (dKN x) = y1 at *
  generalize dV (dKN x) c = v1 at *
  generalize dKN x = y0 at *
  generalize dK x = v0 at *
  obtain ⟨n, rfl⟩ : ∃ n : Nat, v4 = (n : Int) := ⟨v4.toNat, by omega⟩
  have hn : n < 255 := by omega
  have hT : ((n : Int) + 1).toNat = n + 1 := by omega
  rw [hT]
  clear hT
  have hUp := uptoM_lt c
  have rA : ∀ w, Calls Try.prog 50 #[.int .u64 ((n : Int) + 1), .int .u64 (uptoM c : Nat)] w (Ret (.int .u64 (((n + 1) &&& uptoM c : Nat) : Int)) w) := by
    intro w
    have h1 := mask_And (n + 1) (uptoM c) w (by omega) hUp
    have e : (((n + 1 : Nat)) : Int) = (n : Int) + 1 := by omega
    rwa [e] at h1
  generalize (n + 1) &&& uptoM c = mm at *
  by_cases hm : mm = 0
  · have e : ((mm : Nat) : Int) = 0 := by omega
    rw [if_pos hm]
    rw [e] at rA
    clear e hm
    go_enter Try.func30, Try.ntmps30
    go_wp2_with (first
      | (
        go_at_call 48
        refine (drill_right _ _).mono ?_
        rintro e w' ⟨rfl, k1, rfl⟩
        )
      | (
        go_at_call 49
        have hx := h
        refine (rK _ (by exact h.keep (S := []) (by repeat (first | with_reducible exact Mod.refl _ _ | with_reducible apply Mod.alloc | with_reducible apply Mod.drewN)) (by simp))).mono ?_
        rintro e w1 ⟨rfl, m1, x1⟩
        have q1 := m1.keep (heapNewAt (n := w.heap.size + 1) _ (by simp)) (by simp; omega)
        have p1 := m1.keep (heapOld (w := (w.alloc _).drewN _) (heapNew w _)) (by simp; omega)
        have M1 : Mod [d] w w1 := Mod.trans (a := w) (S := [d]) (T := [d]) (by repeat (first | with_reducible exact Mod.refl _ _ | with_reducible apply Mod.alloc | with_reducible apply Mod.drewN)) m1 (by simp)
        clear h m1
        have z1 := ltOf q1
        have y1 := ltOf p1
        have e0 := cellAt q1 0
        have e1 := cellAt q1 1
        have e2 := cellAt q1 2
        have e3 := cellAt q1 3
        have e4 := cellAt q1 4
        have g0 := freeAt q1 0
        have g1 := freeAt q1 1
        have g2 := freeAt q1 2
        have g3 := freeAt q1 3
        have g4 := freeAt q1 4
        simp only [List.getElem?_toArray, List.getElem?_cons_zero, List.getElem?_cons_succ] at e0 e1 e2 e3 e4
        )
      | (
        go_at_call 27
        have hx := x1
        refine (r1 _ (by exact hx.keep (S := [w.heap.size + 1]) ((Mod.refl _ _).setCell (by simp) _) (by simp; omega))).mono ?_
        rintro e w2 ⟨rfl, m2, x2⟩
        have q2 := m2.keep (heapSet q1 0 _) (by simp; omega)
        have p2 := m2.keep ((heapSetNe (by omega)).trans p1) (by simp; omega)
        have M2 : Mod [d] w w2 := (M1.setCell (by simp) _).trans m2 (by simp)
        simp only [List.setIfInBounds_toArray, List.set_cons_zero, List.set_cons_succ] at q2
        clear hx x1 q1 p1 M1 z1 y1 g0 g1 g2 g3 g4 e0 e1 e2 e3 e4 m2
        have z2 := ltOf q2
        have y2 := ltOf p2
        have e0 := cellAt q2 0
        have e1 := cellAt q2 1
        have e2 := cellAt q2 2
        have e3 := cellAt q2 3
        have e4 := cellAt q2 4
        have g0 := freeAt q2 0
        have g1 := freeAt q2 1
        have g2 := freeAt q2 2
        have g3 := freeAt q2 3
        have g4 := freeAt q2 4
        simp only [List.getElem?_toArray, List.getElem?_cons_zero, List.getElem?_cons_succ] at e0 e1 e2 e3 e4
        )
      | (
        go_at_call 27
        have hx := x2
        refine (r2 _ (by exact hx.keep (S := [w.heap.size + 1]) ((Mod.refl _ _).setCell (by simp) _) (by simp; omega))).mono ?_
        rintro e w3 ⟨rfl, m3, x3⟩
        have q3 := m3.keep (heapSet q2 1 _) (by simp; omega)
        have p3 := m3.keep ((heapSetNe (by omega)).trans p2) (by simp; omega)
        have M3 : Mod [d] w w3 := (M2.setCell (by simp) _).trans m3 (by simp)
        simp only [List.setIfInBounds_toArray, List.set_cons_zero, List.set_cons_succ] at q3
        clear hx x2 q2 p2 M2 z2 y2 g0 g1 g2 g3 g4 e0 e1 e2 e3 e4 m3
        have z3 := ltOf q3
        have y3 := ltOf p3
        have e0 := cellAt q3 0
        have e1 := cellAt q3 1
        have e2 := cellAt q3 2
        have e3 := cellAt q3 3
        have e4 := cellAt q3 4
        have g0 := freeAt q3 0
        have g1 := freeAt q3 1
        have g2 := freeAt q3 2
        have g3 := freeAt q3 3
        have g4 := freeAt q3 4
        simp only [List.getElem?_toArray, List.getElem?_cons_zero, List.getElem?_cons_succ] at e0 e1 e2 e3 e4
        )
      | (
        go_at_call 27
        have hx := x3
        refine (r3 _ (by exact hx.keep (S := [w.heap.size + 1]) ((Mod.refl _ _).setCell (by simp) _) (by simp; omega))).mono ?_
        rintro e w4 ⟨rfl, m4, x4⟩
        have q4 := m4.keep (heapSet q3 2 _) (by simp; omega)
        have p4 := m4.keep ((heapSetNe (by omega)).trans p3) (by simp; omega)
        have M4 : Mod [d] w w4 := (M3.setCell (by simp) _).trans m4 (by simp)
        simp only [List.setIfInBounds_toArray, List.set_cons_zero, List.set_cons_succ] at q4
        clear hx x3 q3 p3 M3 z3 y3 g0 g1 g2 g3 g4 e0 e1 e2 e3 e4 m4
        have z4 := ltOf q4
        have y4 := ltOf p4
        have e0 := cellAt q4 0
        have e1 := cellAt q4 1
        have e2 := cellAt q4 2
        have e3 := cellAt q4 3
        have e4 := cellAt q4 4
        have g0 := freeAt q4 0
        have g1 := freeAt q4 1
        have g2 := freeAt q4 2
        have g3 := freeAt q4 3
        have g4 := freeAt q4 4
        simp only [List.getElem?_toArray, List.getElem?_cons_zero, List.getElem?_cons_succ] at e0 e1 e2 e3 e4
        )
      | (
        go_at_call 27
        have hx := x4
        refine (r4 _ (by exact hx.keep (S := [w.heap.size + 1]) ((Mod.refl _ _).setCell (by simp) _) (by simp; omega))).mono ?_
        rintro e w5 ⟨rfl, m5, x5⟩
        have q5 := m5.keep (heapSet q4 4 _) (by simp; omega)
        have p5 := m5.keep ((heapSetNe (by omega)).trans p4) (by simp; omega)
        have M5 : Mod [d] w w5 := (M4.setCell (by simp) _).trans m5 (by simp)
        simp only [List.setIfInBounds_toArray, List.set_cons_zero, List.set_cons_succ] at q5
        clear hx x4 q4 p4 M4 z4 y4 g0 g1 g2 g3 g4 e0 e1 e2 e3 e4 m5
        have z5 := ltOf q5
        have y5 := ltOf p5
        have e0 := cellAt q5 0
        have e1 := cellAt q5 1
        have e2 := cellAt q5 2
        have e3 := cellAt q5 3
        have e4 := cellAt q5 4
        have g0 := freeAt q5 0
        have g1 := freeAt q5 1
        have g2 := freeAt q5 2
        have g3 := freeAt q5 3
        have g4 := freeAt q5 4
        simp only [List.getElem?_toArray, List.getElem?_cons_zero, List.getElem?_cons_succ] at e0 e1 e2 e3 e4
        have f0 := cellAt p5 0
        have f1 := cellAt p5 1
        have f2 := cellAt p5 2
        have f3 := cellAt p5 3
        have f4 := cellAt p5 4
        have i0 := freeAt p5 0
        have i1 := freeAt p5 1
        have i2 := freeAt p5 2
        have i3 := freeAt p5 3
        have i4 := freeAt p5 4
        simp only [List.getElem?_toArray, List.getElem?_cons_zero, List.getElem?_cons_succ] at f0 f1 f2 f3 f4
        )
      | (
        go_at_call 51
        refine (mask_Upto _ _).mono ?_
        rintro e w' ⟨rfl, k2, rfl⟩
        )
      | (
        go_at_call 50
        refine (rA _).mono ?_
        rintro e w' ⟨rfl, k3, rfl⟩
        )
      )
    refine bodyPost_ret_by (v := .agg #[.int .i64 v0, .int .i64 v1, .int .i64 v2, .int .u64 (1 : Int), .int .i64 v3]) ?_ rfl ?_
    · refine results_ev (T := 48) rfl rfl ((heapSet (heapSet (heapSet (heapSet (heapSet ((heapSetNe (by omega)).trans ((heapSetNe (by omega)).trans p5)) 0 _) 1 _) 2 _) 3 _) 4 _).trans ?_)
      simp
    · refine Rets.of rfl (M5.trans (T := [w.heap.size, w.heap.size + 1]) ?_ (by simp)) (x5.keep (S := [w.heap.size, w.heap.size + 1]) ?_ (by simp; omega))
      · repeat (first | with_reducible exact Mod.refl _ _ | with_reducible apply Mod.alloc | with_reducible apply Mod.drewN | with_reducible apply Mod.drew | with_reducible refine Mod.setCell ?_ (by first | (simp; done) | (simp; omega)) _)
      · repeat (first | with_reducible exact Mod.refl _ _ | with_reducible apply Mod.alloc | with_reducible apply Mod.drewN | with_reducible apply Mod.drew | with_reducible refine Mod.setCell ?_ (by first | (simp; done) | (simp; omega)) _)
  · have e : (mm : Int) ≠ 0 := by omega
    rw [if_neg hm]
    clear hm
    go_enter Try.func30, Try.ntmps30
    go_wp2_with (first
      | (
        go_at_call 48
        refine (drill_right _ _).mono ?_
        rintro e w' ⟨rfl, k1, rfl⟩
        )
      | (
        go_at_call 49
        have hx := h
        refine (rK _ (by exact h.keep (S := []) (by repeat (first | with_reducible exact Mod.refl _ _ | with_reducible apply Mod.alloc | with_reducible apply Mod.drewN)) (by simp))).mono ?_
        rintro e w1 ⟨rfl, m1, x1⟩
        have q1 := m1.keep (heapNewAt (n := w.heap.size + 1) _ (by simp)) (by simp; omega)
        have p1 := m1.keep (heapOld (w := (w.alloc _).drewN _) (heapNew w _)) (by simp; omega)
        have M1 : Mod [d] w w1 := Mod.trans (a := w) (S := [d]) (T := [d]) (by repeat (first | with_reducible exact Mod.refl _ _ | with_reducible apply Mod.alloc | with_reducible apply Mod.drewN)) m1 (by simp)
        clear h m1
        have z1 := ltOf q1
        have y1 := ltOf p1
        have e0 := cellAt q1 0
        have e1 := cellAt q1 1
        have e2 := cellAt q1 2
        have e3 := cellAt q1 3
        have e4 := cellAt q1 4
        have g0 := freeAt q1 0
        have g1 := freeAt q1 1
        have g2 := freeAt q1 2
        have g3 := freeAt q1 3
        have g4 := freeAt q1 4
        simp only [List.getElem?_toArray, List.getElem?_cons_zero, List.getElem?_cons_succ] at e0 e1 e2 e3 e4
        )
      | (
        go_at_call 27
        have hx := x1
        refine (r1 _ (by exact hx.keep (S := [w.heap.size + 1]) ((Mod.refl _ _).setCell (by simp) _) (by simp; omega))).mono ?_
        rintro e w2 ⟨rfl, m2, x2⟩
        have q2 := m2.keep (heapSet q1 0 _) (by simp; omega)
        have p2 := m2.keep ((heapSetNe (by omega)).trans p1) (by simp; omega)
        have M2 : Mod [d] w w2 := (M1.setCell (by simp) _).trans m2 (by simp)
        simp only [List.setIfInBounds_toArray, List.set_cons_zero, List.set_cons_succ] at q2
        clear hx x1 q1 p1 M1 z1 y1 g0 g1 g2 g3 g4 e0 e1 e2 e3 e4 m2
        have z2 := ltOf q2
        have y2 := ltOf p2
        have e0 := cellAt q2 0
        have e1 := cellAt q2 1
        have e2 := cellAt q2 2
        have e3 := cellAt q2 3
        have e4 := cellAt q2 4
        have g0 := freeAt q2 0
        have g1 := freeAt q2 1
        have g2 := freeAt q2 2
        have g3 := freeAt q2 3
        have g4 := freeAt q2 4
        simp only [List.getElem?_toArray, List.getElem?_cons_zero, List.getElem?_cons_succ] at e0 e1 e2 e3 e4
        )
      | (
        go_at_call 27
        have hx := x2
        refine (r2 _ (by exact hx.keep (S := [w.heap.size + 1]) ((Mod.refl _ _).setCell (by simp) _) (by simp; omega))).mono ?_
        rintro e w3 ⟨rfl, m3, x3⟩
        have q3 := m3.keep (heapSet q2 1 _) (by simp; omega)
        have p3 := m3.keep ((heapSetNe (by omega)).trans p2) (by simp; omega)
        have M3 : Mod [d] w w3 := (M2.setCell (by simp) _).trans m3 (by simp)
        simp only [List.setIfInBounds_toArray, List.set_cons_zero, List.set_cons_succ] at q3
        clear hx x2 q2 p2 M2 z2 y2 g0 g1 g2 g3 g4 e0 e1 e2 e3 e4 m3
        have z3 := ltOf q3
        have y3 := ltOf p3
        have e0 := cellAt q3 0
        have e1 := cellAt q3 1
        have e2 := cellAt q3 2
        have e3 := cellAt q3 3
        have e4 := cellAt q3 4
        have g0 := freeAt q3 0
        have g1 := freeAt q3 1
        have g2 := freeAt q3 2
        have g3 := freeAt q3 3
        have g4 := freeAt q3 4
        simp only [List.getElem?_toArray, List.getElem?_cons_zero, List.getElem?_cons_succ] at e0 e1 e2 e3 e4
        )
      | (
        go_at_call 27
        have hx := x3
        refine (r3 _ (by exact hx.keep (S := [w.heap.size + 1]) ((Mod.refl _ _).setCell (by simp) _) (by simp; omega))).mono ?_
        rintro e w4 ⟨rfl, m4, x4⟩
        have q4 := m4.keep (heapSet q3 2 _) (by simp; omega)
        have p4 := m4.keep ((heapSetNe (by omega)).trans p3) (by simp; omega)
        have M4 : Mod [d] w w4 := (M3.setCell (by simp) _).trans m4 (by simp)
        simp only [List.setIfInBounds_toArray, List.set_cons_zero, List.set_cons_succ] at q4
        clear hx x3 q3 p3 M3 z3 y3 g0 g1 g2 g3 g4 e0 e1 e2 e3 e4 m4
        have z4 := ltOf q4
        have y4 := ltOf p4
        have e0 := cellAt q4 0
        have e1 := cellAt q4 1
        have e2 := cellAt q4 2
        have e3 := cellAt q4 3
        have e4 := cellAt q4 4
        have g0 := freeAt q4 0
        have g1 := freeAt q4 1
        have g2 := freeAt q4 2
        have g3 := freeAt q4 3
        have g4 := freeAt q4 4
        simp only [List.getElem?_toArray, List.getElem?_cons_zero, List.getElem?_cons_succ] at e0 e1 e2 e3 e4
        )
      | (
        go_at_call 27
        have hx := x4
        refine (r4 _ (by exact hx.keep (S := [w.heap.size + 1]) ((Mod.refl _ _).setCell (by simp) _) (by simp; omega))).mono ?_
        rintro e w5 ⟨rfl, m5, x5⟩
        have q5 := m5.keep (heapSet q4 4 _) (by simp; omega)
        have p5 := m5.keep ((heapSetNe (by omega)).trans p4) (by simp; omega)
        have M5 : Mod [d] w w5 := (M4.setCell (by simp) _).trans m5 (by simp)
        simp only [List.setIfInBounds_toArray, List.set_cons_zero, List.set_cons_succ] at q5
        clear hx x4 q4 p4 M4 z4 y4 g0 g1 g2 g3 g4 e0 e1 e2 e3 e4 m5
        have z5 := ltOf q5
        have y5 := ltOf p5
        have e0 := cellAt q5 0
        have e1 := cellAt q5 1
        have e2 := cellAt q5 2
        have e3 := cellAt q5 3
        have e4 := cellAt q5 4
        have g0 := freeAt q5 0
        have g1 := freeAt q5 1
        have g2 := freeAt q5 2
        have g3 := freeAt q5 3
        have g4 := freeAt q5 4
        simp only [List.getElem?_toArray, List.getElem?_cons_zero, List.getElem?_cons_succ] at e0 e1 e2 e3 e4
        have f0 := cellAt p5 0
        have f1 := cellAt p5 1
        have f2 := cellAt p5 2
        have f3 := cellAt p5 3
        have f4 := cellAt p5 4
        have i0 := freeAt p5 0
        have i1 := freeAt p5 1
        have i2 := freeAt p5 2
        have i3 := freeAt p5 3
        have i4 := freeAt p5 4
        simp only [List.getElem?_toArray, List.getElem?_cons_zero, List.getElem?_cons_succ] at f0 f1 f2 f3 f4
        )
      | (
        go_at_call 51
        refine (mask_Upto _ _).mono ?_
        rintro e w' ⟨rfl, k2, rfl⟩
        )
      | (
        go_at_call 50
        refine (rA _).mono ?_
        rintro e w' ⟨rfl, k3, rfl⟩
        )
      )
    refine bodyPost_ret_by (v := .agg #[.int .i64 v0, .int .i64 v1, .int .i64 v2, .int .u64 (mm : Int), .int .i64 v3]) ?_ rfl ?_
    · refine results_ev (T := 48) rfl rfl ((heapSet (heapSet (heapSet (heapSet (heapSet ((heapSetNe (by omega)).trans p5) 0 _) 1 _) 2 _) 3 _) 4 _).trans ?_)
      simp
    · refine Rets.of rfl (M5.trans (T := [w.heap.size, w.heap.size + 1]) ?_ (by simp)) (x5.keep (S := [w.heap.size, w.heap.size + 1]) ?_ (by simp; omega))
      · repeat (first | with_reducible exact Mod.refl _ _ | with_reducible apply Mod.alloc | with_reducible apply Mod.drewN | with_reducible apply Mod.drew | with_reducible refine Mod.setCell ?_ (by first | (simp; done) | (simp; omega)) _)
      · repeat (first | with_reducible exact Mod.refl _ _ | with_reducible apply Mod.alloc | with_reducible apply Mod.drewN | with_reducible apply Mod.drew | with_reducible refine Mod.setCell ?_ (by first | (simp; done) | (simp; omega)) _)
end Go.Proofs.Ytiegnbdoidiffaa
