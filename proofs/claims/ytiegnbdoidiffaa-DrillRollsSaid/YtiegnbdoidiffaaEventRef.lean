/- The walk over the document's dice's Event. -/
import Derived.Test.YtiegnbdoidiffaaEventYes
namespace Go.Proofs.Ytiegnbdoidiffaa
set_option linter.unusedVariables false
set_option linter.unusedSimpArgs false
open Go.RowKit

set_option maxRecDepth 100000 in
set_option maxHeartbeats 1000000 in
theorem ref_Event_no (d : Nat) (x c : Int) (w : World) (h : DiceAt 44 w d x) (hc : ¬ rightC c) : Calls Try.prog 31 #[.pointer (some ⟨d, 0, none⟩), .int .i64 c] w (Rets ev0 [d] w fun w' => DiceAt 44 w' d x) := by
  have hne : c < 1 ∨ (1 ≤ c ∧ 64 < c) := by unfold rightC at hc; omega
  clear hc
  unfold ev0
  rcases hne with h1 | ⟨h1, h2⟩
  all_goals
    go_enter Try.func31, Try.ntmps31
    go_wp2
    refine bodyPost_ret_by (v := .agg #[.int .i64 0, .int .i64 0, .int .i64 0, .int .u64 0, .int .i64 0]) ?_ rfl ?_
    · refine results_ev (T := 48) rfl rfl (heapNew _ _)
    · refine Rets.of rfl ?_ (h.keep (S := []) ?_ (by simp))
      · repeat (first | with_reducible exact Mod.refl _ _ | with_reducible apply Mod.alloc | with_reducible apply Mod.drewN | with_reducible apply Mod.drew | with_reducible refine Mod.setCell ?_ (by first | (simp; done) | (simp; omega)) _)
      · repeat (first | with_reducible exact Mod.refl _ _ | with_reducible apply Mod.alloc | with_reducible apply Mod.drewN | with_reducible apply Mod.drew | with_reducible refine Mod.setCell ?_ (by first | (simp; done) | (simp; omega)) _)

theorem dummy_ev : True := trivial
set_option maxRecDepth 100000 in
set_option maxHeartbeats 2000000 in
theorem ref_Event_yes (d : Nat) (x c : Int) (w : World) (h : DiceAt 44 w d x) (hc : rightC c) : Calls Try.prog 31 #[.pointer (some ⟨d, 0, none⟩), .int .i64 c] w (Rets (evV x c) [d] w fun w' => DiceAt 44 w' d (evN x)) := by
  have hd := ltOf h
  have rR : ∀ b, inB b → ∀ y w, DiceAt 44 w d y → Calls Try.prog 28 #[.pointer (some ⟨d, 0, none⟩), .int .i64 b] w (Rets (.int .i64 (dV y b)) [d] w fun w' => DiceAt 44 w' d (dX y)) := by
    intro b hb y w hy
    have := rdrill_Roll d y b w hy
    rwa [dN_in hb] at this
  obtain ⟨hc3, hc4⟩ := hc
  have rK := rR 100 ⟨by omega, by omega⟩ x
  have rL := rR 28 ⟨by omega, by omega⟩ (dX x)
  have r1 := rR c ⟨by omega, by omega⟩ (dKN x)
  have r2 := rR 6 ⟨by omega, by omega⟩ (dX (dKN x))
  have r3 := rR 20 ⟨by omega, by omega⟩ (dX (dX (dKN x)))
  have r4 := rR 255 ⟨by omega, by omega⟩ (dX (dX (dX (dKN x))))
  obtain ⟨b1, b2⟩ := dV_bd (dX (dX (dX (dKN x)))) 255 ⟨by omega, by omega⟩
  obtain ⟨bk1, bk2⟩ := dV_bd x 100 ⟨by omega, by omega⟩
  obtain ⟨bl1, bl2⟩ := dV_bd (dX x) 28 ⟨by omega, by omega⟩
  clear rR
  have hUp := uptoM_lt c
  unfold evV evN evM evMask
  have hk : (dV x 100 < 60 ∧ dK x = 1 ∧ dKN x = dX x) ∨ (¬ dV x 100 < 60 ∧ dV x 100 < 66 ∧ dK x = 2 ∧ dKN x = dX x) ∨ (¬ dV x 100 < 60 ∧ ¬ dV x 100 < 66 ∧ dK x = 3 + dV (dX x) 28 ∧ dKN x = dX (dX x)) := by
    unfold dK dKN
    by_cases a1 : dV x 100 < 60
    · exact .inl ⟨a1, if_pos a1, if_pos (by omega)⟩
    · by_cases a2 : dV x 100 < 66
      · exact .inr (.inl ⟨a1, a2, by rw [if_neg a1, if_pos a2], if_pos a2⟩)
      · exact .inr (.inr ⟨a1, a2, by rw [if_neg a1, if_neg a2], if_neg a2⟩)
  generalize dX (dX (dX (dX (dKN x)))) = y4 at *
  generalize dV (dX (dX (dX (dKN x)))) 255 = v4 at *
  generalize dX (dX (dX (dKN x))) = y3 at *
  generalize dV (dX (dX (dKN x))) 20 = v3 at *
  generalize dX (dX (dKN x)) = y2 at *
  generalize dV (dX (dKN x)) 6 = v2 at *
  generalize dX (dKN x) = y1 at *
  generalize dV (dKN x) c = v1 at *
  generalize dKN x = y0 at *
  generalize dK x = v0 at *
  generalize dX (dX x) = xx at *
  generalize dV (dX x) 28 = vl at *
  generalize dX x = xa at *
  generalize dV x 100 = vk at *
  obtain ⟨n, rfl⟩ : ∃ n : Nat, v4 = (n : Int) := ⟨v4.toNat, by omega⟩
  have hn : n < 255 := by omega
  have hT : ((n : Int) + 1).toNat = n + 1 := by omega
  rw [hT]
  clear hT
  have rA : ∀ w, Calls Try.prog 52 #[.int .u64 ((n : Int) + 1), .int .u64 (uptoM c : Nat)] w (Rets (.int .u64 (((n + 1) &&& uptoM c : Nat) : Int)) [] w fun _ => True) := by
    intro w
    have h1 := rmask_And (n + 1) (uptoM c) w (by omega) hUp
    have e : (((n + 1 : Nat)) : Int) = (n : Int) + 1 := by omega
    rwa [e] at h1
  generalize (n + 1) &&& uptoM c = mm at *
  have hM : ∃ M : Int, (((if mm = 0 then 1 else mm) : Nat) : Int) = M ∧ ((mm = 0 ∧ M = 1) ∨ ((mm : Int) ≠ 0 ∧ M = mm)) := by
    by_cases hm : mm = 0
    · exact ⟨1, by rw [if_pos hm]; rfl, .inl ⟨hm, rfl⟩⟩
    · exact ⟨mm, by rw [if_neg hm], .inr ⟨by omega, rfl⟩⟩
  obtain ⟨M, hM1, hM⟩ := hM
  rw [hM1]
  clear hM1
  rcases hk with ⟨k1, rfl, rfl⟩ | ⟨k1, k2, rfl, rfl⟩ | ⟨k1, k2, rfl, rfl⟩
  · rcases hM with ⟨rfl, rfl⟩ | ⟨hM, rfl⟩
    · go_enter Try.func31, Try.ntmps31
      go_wp2_with (first
        | (
          go_at_call 28
          have hx := h
          refine (rK _ (by exact hx.keep (S := []) ((Mod.refl _ _).alloc _) (by simp))).mono ?_
          rintro e w1 ⟨rfl, m1, x1⟩
          have p1 := m1.keep (heapNew w _) (by simp; omega)
          have M1 : Mod [d] w w1 := Mod.trans (S := [d]) (T := [d]) ((Mod.refl _ _).alloc _) m1 (by simp)
          have y1 := ltOf p1
          clear h hx m1
          )
        | (
          go_at_call 28
          have hx := x1
          have hl := y1
          refine (r1 _ (by exact hx.keep (S := [w1.heap.size]) (by repeat (first | with_reducible exact Mod.refl _ _ | with_reducible apply Mod.alloc | with_reducible refine Mod.setCell ?_ (by simp) _)) (by simp; omega))).mono ?_
          rintro e w3 ⟨rfl, m3, x3⟩
          have q3 : w3.heap[w1.heap.size]? = some (.cells #[.int .i64 1, .int .i64 0, .int .i64 0, .int .u64 0, .int .i64 0] 48 (0,0)) := m3.keep (by first|exact heapNew _ _|exact (heapSet (heapNew _ _) 0 _).trans (by simp)|exact (heapSet (heapSet (heapSet (heapSet (heapSet (heapSet (heapNew _ _) 0 _) 1 _) 2 _) 3 _) 4 _) 0 _).trans (by simp)) (by simp; omega)
          have p3 : w3.heap[w.heap.size]? = some (.cells #[.int .i64 0, .int .i64 0, .int .i64 0, .int .u64 0, .int .i64 0] 48 (0,0)) := m3.keep (by repeat (first | exact p1 | exact heapOld p1 | refine (heapSetNe (by omega)).trans ?_)) (by simp; omega)
          have M3 : Mod [d] w w3 := M1.trans (T := [w1.heap.size, d]) (Mod.trans (S := [w1.heap.size, d]) (T := [d]) (by repeat (first | with_reducible exact Mod.refl _ _ | with_reducible apply Mod.alloc | with_reducible refine Mod.setCell ?_ (by simp) _)) m3 (by simp)) (by simp; omega)
          have y3 := ltOf p3
          clear hx hl
          clear x1 p1 M1 m3
          have z3 := ltOf q3
          have e0 := cellAt q3 0
          have e1 := cellAt q3 1
          have e2 := cellAt q3 2
          have e3 := cellAt q3 3
          have e4 := cellAt q3 4
          have g0 := freeAt q3 0
          have g1 := freeAt q3 1
          have g2 := freeAt q3 2
          have g3 := freeAt q3 3
          have g4 := freeAt q3 4
          simp only [List.getElem?_toArray, List.getElem?_cons_zero, List.getElem?_cons_succ] at e0 e1 e2 e3 e4
          )
        | (
          go_at_call 28
          have hx := x3
          have hl := y3
          refine (r2 _ (by exact hx.keep (S := [w1.heap.size]) (by repeat (first | with_reducible exact Mod.refl _ _ | with_reducible apply Mod.alloc | with_reducible refine Mod.setCell ?_ (by simp) _)) (by simp; omega))).mono ?_
          rintro e w4 ⟨rfl, m4, x4⟩
          have q4 : w4.heap[w1.heap.size]? = some (.cells #[.int .i64 (1), .int .i64 v1, .int .i64 0, .int .u64 0, .int .i64 0] 48 (0,0)) := m4.keep ((heapSet q3 1 _).trans (by simp)) (by simp; omega)
          have p4 : w4.heap[w.heap.size]? = some (.cells #[.int .i64 0, .int .i64 0, .int .i64 0, .int .u64 0, .int .i64 0] 48 (0,0)) := m4.keep (by repeat (first | exact p3 | exact heapOld p3 | refine (heapSetNe (by omega)).trans ?_)) (by simp; omega)
          have M4 : Mod [d] w w4 := M3.trans (T := [w1.heap.size, d]) (Mod.trans (S := [w1.heap.size, d]) (T := [d]) (by repeat (first | with_reducible exact Mod.refl _ _ | with_reducible apply Mod.alloc | with_reducible refine Mod.setCell ?_ (by simp) _)) m4 (by simp)) (by simp; omega)
          have y4 := ltOf p4
          clear hx hl
          clear x3 p3 q3 M3 m4
          have z4 := ltOf q4
          have e0 := cellAt q4 0
          have e1 := cellAt q4 1
          have e2 := cellAt q4 2
          have e3 := cellAt q4 3
          have e4 := cellAt q4 4
          have g0 := freeAt q4 0
          have g1 := freeAt q4 1
          have g2 := freeAt q4 2
          have g3 := freeAt q4 3
          have g4 := freeAt q4 4
          simp only [List.getElem?_toArray, List.getElem?_cons_zero, List.getElem?_cons_succ] at e0 e1 e2 e3 e4
          )
        | (
          clear e0 e1 e2 e3 e4 g0 g1 g2 g3 g4 z4
          go_at_call 28
          have hx := x4
          have hl := y4
          refine (r3 _ (by exact hx.keep (S := [w1.heap.size]) (by repeat (first | with_reducible exact Mod.refl _ _ | with_reducible apply Mod.alloc | with_reducible refine Mod.setCell ?_ (by simp) _)) (by simp; omega))).mono ?_
          rintro e w5 ⟨rfl, m5, x5⟩
          have q5 : w5.heap[w1.heap.size]? = some (.cells #[.int .i64 (1), .int .i64 v1, .int .i64 v2, .int .u64 0, .int .i64 0] 48 (0,0)) := m5.keep ((heapSet q4 2 _).trans (by simp)) (by simp; omega)
          have p5 : w5.heap[w.heap.size]? = some (.cells #[.int .i64 0, .int .i64 0, .int .i64 0, .int .u64 0, .int .i64 0] 48 (0,0)) := m5.keep (by repeat (first | exact p4 | exact heapOld p4 | refine (heapSetNe (by omega)).trans ?_)) (by simp; omega)
          have M5 : Mod [d] w w5 := M4.trans (T := [w1.heap.size, d]) (Mod.trans (S := [w1.heap.size, d]) (T := [d]) (by repeat (first | with_reducible exact Mod.refl _ _ | with_reducible apply Mod.alloc | with_reducible refine Mod.setCell ?_ (by simp) _)) m5 (by simp)) (by simp; omega)
          have y5 := ltOf p5
          clear hx hl
          clear x4 p4 q4 M4 m5
          have z5 := ltOf q5
          have e0 := cellAt q5 0
          have e1 := cellAt q5 1
          have e2 := cellAt q5 2
          have e3 := cellAt q5 3
          have e4 := cellAt q5 4
          have g0 := freeAt q5 0
          have g1 := freeAt q5 1
          have g2 := freeAt q5 2
          have g3 := freeAt q5 3
          have g4 := freeAt q5 4
          simp only [List.getElem?_toArray, List.getElem?_cons_zero, List.getElem?_cons_succ] at e0 e1 e2 e3 e4
          )
        | (
          clear e0 e1 e2 e3 e4 g0 g1 g2 g3 g4 z5
          go_at_call 28
          have hx := x5
          have hl := y5
          refine (r4 _ (by exact hx.keep (S := [w1.heap.size]) (by repeat (first | with_reducible exact Mod.refl _ _ | with_reducible apply Mod.alloc | with_reducible refine Mod.setCell ?_ (by simp) _)) (by simp; omega))).mono ?_
          rintro e w6 ⟨rfl, m6, x6⟩
          have q6 : w6.heap[w1.heap.size]? = some (.cells #[.int .i64 (1), .int .i64 v1, .int .i64 v2, .int .u64 0, .int .i64 v3] 48 (0,0)) := m6.keep ((heapSet q5 4 _).trans (by simp)) (by simp; omega)
          have p6 : w6.heap[w.heap.size]? = some (.cells #[.int .i64 0, .int .i64 0, .int .i64 0, .int .u64 0, .int .i64 0] 48 (0,0)) := m6.keep (by repeat (first | exact p5 | exact heapOld p5 | refine (heapSetNe (by omega)).trans ?_)) (by simp; omega)
          have M6 : Mod [d] w w6 := M5.trans (T := [w1.heap.size, d]) (Mod.trans (S := [w1.heap.size, d]) (T := [d]) (by repeat (first | with_reducible exact Mod.refl _ _ | with_reducible apply Mod.alloc | with_reducible refine Mod.setCell ?_ (by simp) _)) m6 (by simp)) (by simp; omega)
          have y6 := ltOf p6
          clear hx hl
          clear x5 p5 q5 M5 m6
          have z6 := ltOf q6
          have e0 := cellAt q6 0
          have e1 := cellAt q6 1
          have e2 := cellAt q6 2
          have e3 := cellAt q6 3
          have e4 := cellAt q6 4
          have g0 := freeAt q6 0
          have g1 := freeAt q6 1
          have g2 := freeAt q6 2
          have g3 := freeAt q6 3
          have g4 := freeAt q6 4
          simp only [List.getElem?_toArray, List.getElem?_cons_zero, List.getElem?_cons_succ] at e0 e1 e2 e3 e4
          have f0 := cellAt p6 0
          have f1 := cellAt p6 1
          have f2 := cellAt p6 2
          have f3 := cellAt p6 3
          have f4 := cellAt p6 4
          have i0 := freeAt p6 0
          have i1 := freeAt p6 1
          have i2 := freeAt p6 2
          have i3 := freeAt p6 3
          have i4 := freeAt p6 4
          simp only [List.getElem?_toArray, List.getElem?_cons_zero, List.getElem?_cons_succ] at f0 f1 f2 f3 f4
          )
        | (
          go_at_call 53
          refine (rmask_Upto _ _).mono ?_
          rintro e w' ⟨rfl, k2, rfl⟩
          )
        | (
          go_at_call 52
          refine (rA _).mono ?_
          rintro e w7 ⟨rfl, m7, _⟩
          have q7 := m7.keep (k := w1.heap.size) q6 (by simp)
          have p7 := m7.keep (k := w.heap.size) p6 (by simp)
          have M7 : Mod [d] w w7 := M6.trans (T := []) m7.undrewN (by simp)
          have x7 := x6.keep m7.undrewN (by simp)
          clear e0 e1 e2 e3 e4 g0 g1 g2 g3 g4 z6 f0 f1 f2 f3 f4 i0 i1 i2 i3 i4 p6 q6 M6 x6 m7
          have z7 := ltOf q7
          have e0 := cellAt q7 0
          have e1 := cellAt q7 1
          have e2 := cellAt q7 2
          have e3 := cellAt q7 3
          have e4 := cellAt q7 4
          have g0 := freeAt q7 0
          have g1 := freeAt q7 1
          have g2 := freeAt q7 2
          have g3 := freeAt q7 3
          have g4 := freeAt q7 4
          simp only [List.getElem?_toArray, List.getElem?_cons_zero, List.getElem?_cons_succ] at e0 e1 e2 e3 e4
          have f0 := cellAt p7 0
          have f1 := cellAt p7 1
          have f2 := cellAt p7 2
          have f3 := cellAt p7 3
          have f4 := cellAt p7 4
          have i0 := freeAt p7 0
          have i1 := freeAt p7 1
          have i2 := freeAt p7 2
          have i3 := freeAt p7 3
          have i4 := freeAt p7 4
          simp only [List.getElem?_toArray, List.getElem?_cons_zero, List.getElem?_cons_succ] at f0 f1 f2 f3 f4
          )
        )
      refine bodyPost_ret_by (v := .agg #[.int .i64 (1), .int .i64 v1, .int .i64 v2, .int .u64 (1), .int .i64 v3]) ?_ rfl ?_
      · refine results_ev (T := 48) rfl rfl ((heapSet (heapSet (heapSet (heapSet (heapSet ((heapSetNe (by omega)).trans ((heapSetNe (by omega)).trans p7)) 0 _) 1 _) 2 _) 3 _) 4 _).trans ?_)
        simp
      · refine Rets.of rfl (M7.trans (T := [w.heap.size, w1.heap.size]) ?_ (by simp; omega)) (x7.keep (S := [w.heap.size, w1.heap.size]) ?_ (by simp; omega))
        · repeat (first | with_reducible exact Mod.refl _ _ | with_reducible apply Mod.alloc | with_reducible apply Mod.drewN | with_reducible apply Mod.drew | with_reducible refine Mod.setCell ?_ (by first | (simp; done) | (simp; omega)) _)
        · repeat (first | with_reducible exact Mod.refl _ _ | with_reducible apply Mod.alloc | with_reducible apply Mod.drewN | with_reducible apply Mod.drew | with_reducible refine Mod.setCell ?_ (by first | (simp; done) | (simp; omega)) _)
    · go_enter Try.func31, Try.ntmps31
      go_wp2_with (first
        | (
          go_at_call 28
          have hx := h
          refine (rK _ (by exact hx.keep (S := []) ((Mod.refl _ _).alloc _) (by simp))).mono ?_
          rintro e w1 ⟨rfl, m1, x1⟩
          have p1 := m1.keep (heapNew w _) (by simp; omega)
          have M1 : Mod [d] w w1 := Mod.trans (S := [d]) (T := [d]) ((Mod.refl _ _).alloc _) m1 (by simp)
          have y1 := ltOf p1
          clear h hx m1
          )
        | (
          go_at_call 28
          have hx := x1
          have hl := y1
          refine (r1 _ (by exact hx.keep (S := [w1.heap.size]) (by repeat (first | with_reducible exact Mod.refl _ _ | with_reducible apply Mod.alloc | with_reducible refine Mod.setCell ?_ (by simp) _)) (by simp; omega))).mono ?_
          rintro e w3 ⟨rfl, m3, x3⟩
          have q3 : w3.heap[w1.heap.size]? = some (.cells #[.int .i64 1, .int .i64 0, .int .i64 0, .int .u64 0, .int .i64 0] 48 (0,0)) := m3.keep (by first|exact heapNew _ _|exact (heapSet (heapNew _ _) 0 _).trans (by simp)|exact (heapSet (heapSet (heapSet (heapSet (heapSet (heapSet (heapNew _ _) 0 _) 1 _) 2 _) 3 _) 4 _) 0 _).trans (by simp)) (by simp; omega)
          have p3 : w3.heap[w.heap.size]? = some (.cells #[.int .i64 0, .int .i64 0, .int .i64 0, .int .u64 0, .int .i64 0] 48 (0,0)) := m3.keep (by repeat (first | exact p1 | exact heapOld p1 | refine (heapSetNe (by omega)).trans ?_)) (by simp; omega)
          have M3 : Mod [d] w w3 := M1.trans (T := [w1.heap.size, d]) (Mod.trans (S := [w1.heap.size, d]) (T := [d]) (by repeat (first | with_reducible exact Mod.refl _ _ | with_reducible apply Mod.alloc | with_reducible refine Mod.setCell ?_ (by simp) _)) m3 (by simp)) (by simp; omega)
          have y3 := ltOf p3
          clear hx hl
          clear x1 p1 M1 m3
          have z3 := ltOf q3
          have e0 := cellAt q3 0
          have e1 := cellAt q3 1
          have e2 := cellAt q3 2
          have e3 := cellAt q3 3
          have e4 := cellAt q3 4
          have g0 := freeAt q3 0
          have g1 := freeAt q3 1
          have g2 := freeAt q3 2
          have g3 := freeAt q3 3
          have g4 := freeAt q3 4
          simp only [List.getElem?_toArray, List.getElem?_cons_zero, List.getElem?_cons_succ] at e0 e1 e2 e3 e4
          )
        | (
          go_at_call 28
          have hx := x3
          have hl := y3
          refine (r2 _ (by exact hx.keep (S := [w1.heap.size]) (by repeat (first | with_reducible exact Mod.refl _ _ | with_reducible apply Mod.alloc | with_reducible refine Mod.setCell ?_ (by simp) _)) (by simp; omega))).mono ?_
          rintro e w4 ⟨rfl, m4, x4⟩
          have q4 : w4.heap[w1.heap.size]? = some (.cells #[.int .i64 (1), .int .i64 v1, .int .i64 0, .int .u64 0, .int .i64 0] 48 (0,0)) := m4.keep ((heapSet q3 1 _).trans (by simp)) (by simp; omega)
          have p4 : w4.heap[w.heap.size]? = some (.cells #[.int .i64 0, .int .i64 0, .int .i64 0, .int .u64 0, .int .i64 0] 48 (0,0)) := m4.keep (by repeat (first | exact p3 | exact heapOld p3 | refine (heapSetNe (by omega)).trans ?_)) (by simp; omega)
          have M4 : Mod [d] w w4 := M3.trans (T := [w1.heap.size, d]) (Mod.trans (S := [w1.heap.size, d]) (T := [d]) (by repeat (first | with_reducible exact Mod.refl _ _ | with_reducible apply Mod.alloc | with_reducible refine Mod.setCell ?_ (by simp) _)) m4 (by simp)) (by simp; omega)
          have y4 := ltOf p4
          clear hx hl
          clear x3 p3 q3 M3 m4
          have z4 := ltOf q4
          have e0 := cellAt q4 0
          have e1 := cellAt q4 1
          have e2 := cellAt q4 2
          have e3 := cellAt q4 3
          have e4 := cellAt q4 4
          have g0 := freeAt q4 0
          have g1 := freeAt q4 1
          have g2 := freeAt q4 2
          have g3 := freeAt q4 3
          have g4 := freeAt q4 4
          simp only [List.getElem?_toArray, List.getElem?_cons_zero, List.getElem?_cons_succ] at e0 e1 e2 e3 e4
          )
        | (
          clear e0 e1 e2 e3 e4 g0 g1 g2 g3 g4 z4
          go_at_call 28
          have hx := x4
          have hl := y4
          refine (r3 _ (by exact hx.keep (S := [w1.heap.size]) (by repeat (first | with_reducible exact Mod.refl _ _ | with_reducible apply Mod.alloc | with_reducible refine Mod.setCell ?_ (by simp) _)) (by simp; omega))).mono ?_
          rintro e w5 ⟨rfl, m5, x5⟩
          have q5 : w5.heap[w1.heap.size]? = some (.cells #[.int .i64 (1), .int .i64 v1, .int .i64 v2, .int .u64 0, .int .i64 0] 48 (0,0)) := m5.keep ((heapSet q4 2 _).trans (by simp)) (by simp; omega)
          have p5 : w5.heap[w.heap.size]? = some (.cells #[.int .i64 0, .int .i64 0, .int .i64 0, .int .u64 0, .int .i64 0] 48 (0,0)) := m5.keep (by repeat (first | exact p4 | exact heapOld p4 | refine (heapSetNe (by omega)).trans ?_)) (by simp; omega)
          have M5 : Mod [d] w w5 := M4.trans (T := [w1.heap.size, d]) (Mod.trans (S := [w1.heap.size, d]) (T := [d]) (by repeat (first | with_reducible exact Mod.refl _ _ | with_reducible apply Mod.alloc | with_reducible refine Mod.setCell ?_ (by simp) _)) m5 (by simp)) (by simp; omega)
          have y5 := ltOf p5
          clear hx hl
          clear x4 p4 q4 M4 m5
          have z5 := ltOf q5
          have e0 := cellAt q5 0
          have e1 := cellAt q5 1
          have e2 := cellAt q5 2
          have e3 := cellAt q5 3
          have e4 := cellAt q5 4
          have g0 := freeAt q5 0
          have g1 := freeAt q5 1
          have g2 := freeAt q5 2
          have g3 := freeAt q5 3
          have g4 := freeAt q5 4
          simp only [List.getElem?_toArray, List.getElem?_cons_zero, List.getElem?_cons_succ] at e0 e1 e2 e3 e4
          )
        | (
          clear e0 e1 e2 e3 e4 g0 g1 g2 g3 g4 z5
          go_at_call 28
          have hx := x5
          have hl := y5
          refine (r4 _ (by exact hx.keep (S := [w1.heap.size]) (by repeat (first | with_reducible exact Mod.refl _ _ | with_reducible apply Mod.alloc | with_reducible refine Mod.setCell ?_ (by simp) _)) (by simp; omega))).mono ?_
          rintro e w6 ⟨rfl, m6, x6⟩
          have q6 : w6.heap[w1.heap.size]? = some (.cells #[.int .i64 (1), .int .i64 v1, .int .i64 v2, .int .u64 0, .int .i64 v3] 48 (0,0)) := m6.keep ((heapSet q5 4 _).trans (by simp)) (by simp; omega)
          have p6 : w6.heap[w.heap.size]? = some (.cells #[.int .i64 0, .int .i64 0, .int .i64 0, .int .u64 0, .int .i64 0] 48 (0,0)) := m6.keep (by repeat (first | exact p5 | exact heapOld p5 | refine (heapSetNe (by omega)).trans ?_)) (by simp; omega)
          have M6 : Mod [d] w w6 := M5.trans (T := [w1.heap.size, d]) (Mod.trans (S := [w1.heap.size, d]) (T := [d]) (by repeat (first | with_reducible exact Mod.refl _ _ | with_reducible apply Mod.alloc | with_reducible refine Mod.setCell ?_ (by simp) _)) m6 (by simp)) (by simp; omega)
          have y6 := ltOf p6
          clear hx hl
          clear x5 p5 q5 M5 m6
          have z6 := ltOf q6
          have e0 := cellAt q6 0
          have e1 := cellAt q6 1
          have e2 := cellAt q6 2
          have e3 := cellAt q6 3
          have e4 := cellAt q6 4
          have g0 := freeAt q6 0
          have g1 := freeAt q6 1
          have g2 := freeAt q6 2
          have g3 := freeAt q6 3
          have g4 := freeAt q6 4
          simp only [List.getElem?_toArray, List.getElem?_cons_zero, List.getElem?_cons_succ] at e0 e1 e2 e3 e4
          have f0 := cellAt p6 0
          have f1 := cellAt p6 1
          have f2 := cellAt p6 2
          have f3 := cellAt p6 3
          have f4 := cellAt p6 4
          have i0 := freeAt p6 0
          have i1 := freeAt p6 1
          have i2 := freeAt p6 2
          have i3 := freeAt p6 3
          have i4 := freeAt p6 4
          simp only [List.getElem?_toArray, List.getElem?_cons_zero, List.getElem?_cons_succ] at f0 f1 f2 f3 f4
          )
        | (
          go_at_call 53
          refine (rmask_Upto _ _).mono ?_
          rintro e w' ⟨rfl, k2, rfl⟩
          )
        | (
          go_at_call 52
          refine (rA _).mono ?_
          rintro e w7 ⟨rfl, m7, _⟩
          have q7 := m7.keep (k := w1.heap.size) q6 (by simp)
          have p7 := m7.keep (k := w.heap.size) p6 (by simp)
          have M7 : Mod [d] w w7 := M6.trans (T := []) m7.undrewN (by simp)
          have x7 := x6.keep m7.undrewN (by simp)
          clear e0 e1 e2 e3 e4 g0 g1 g2 g3 g4 z6 f0 f1 f2 f3 f4 i0 i1 i2 i3 i4 p6 q6 M6 x6 m7
          have z7 := ltOf q7
          have e0 := cellAt q7 0
          have e1 := cellAt q7 1
          have e2 := cellAt q7 2
          have e3 := cellAt q7 3
          have e4 := cellAt q7 4
          have g0 := freeAt q7 0
          have g1 := freeAt q7 1
          have g2 := freeAt q7 2
          have g3 := freeAt q7 3
          have g4 := freeAt q7 4
          simp only [List.getElem?_toArray, List.getElem?_cons_zero, List.getElem?_cons_succ] at e0 e1 e2 e3 e4
          have f0 := cellAt p7 0
          have f1 := cellAt p7 1
          have f2 := cellAt p7 2
          have f3 := cellAt p7 3
          have f4 := cellAt p7 4
          have i0 := freeAt p7 0
          have i1 := freeAt p7 1
          have i2 := freeAt p7 2
          have i3 := freeAt p7 3
          have i4 := freeAt p7 4
          simp only [List.getElem?_toArray, List.getElem?_cons_zero, List.getElem?_cons_succ] at f0 f1 f2 f3 f4
          )
        )
      refine bodyPost_ret_by (v := .agg #[.int .i64 (1), .int .i64 v1, .int .i64 v2, .int .u64 (mm), .int .i64 v3]) ?_ rfl ?_
      · refine results_ev (T := 48) rfl rfl ((heapSet (heapSet (heapSet (heapSet (heapSet ((heapSetNe (by omega)).trans p7) 0 _) 1 _) 2 _) 3 _) 4 _).trans ?_)
        simp
      · refine Rets.of rfl (M7.trans (T := [w.heap.size, w1.heap.size]) ?_ (by simp; omega)) (x7.keep (S := [w.heap.size, w1.heap.size]) ?_ (by simp; omega))
        · repeat (first | with_reducible exact Mod.refl _ _ | with_reducible apply Mod.alloc | with_reducible apply Mod.drewN | with_reducible apply Mod.drew | with_reducible refine Mod.setCell ?_ (by first | (simp; done) | (simp; omega)) _)
        · repeat (first | with_reducible exact Mod.refl _ _ | with_reducible apply Mod.alloc | with_reducible apply Mod.drewN | with_reducible apply Mod.drew | with_reducible refine Mod.setCell ?_ (by first | (simp; done) | (simp; omega)) _)
  · rcases hM with ⟨rfl, rfl⟩ | ⟨hM, rfl⟩
    · go_enter Try.func31, Try.ntmps31
      go_wp2_with (first
        | (
          go_at_call 28
          have hx := h
          refine (rK _ (by exact hx.keep (S := []) ((Mod.refl _ _).alloc _) (by simp))).mono ?_
          rintro e w1 ⟨rfl, m1, x1⟩
          have p1 := m1.keep (heapNew w _) (by simp; omega)
          have M1 : Mod [d] w w1 := Mod.trans (S := [d]) (T := [d]) ((Mod.refl _ _).alloc _) m1 (by simp)
          have y1 := ltOf p1
          clear h hx m1
          )
        | (
          go_at_call 28
          have hx := x1
          have hl := y1
          refine (r1 _ (by exact hx.keep (S := [w1.heap.size]) (by repeat (first | with_reducible exact Mod.refl _ _ | with_reducible apply Mod.alloc | with_reducible refine Mod.setCell ?_ (by simp) _)) (by simp; omega))).mono ?_
          rintro e w3 ⟨rfl, m3, x3⟩
          have q3 : w3.heap[w1.heap.size]? = some (.cells #[.int .i64 2, .int .i64 0, .int .i64 0, .int .u64 0, .int .i64 0] 48 (0,0)) := m3.keep (by first|exact heapNew _ _|exact (heapSet (heapNew _ _) 0 _).trans (by simp)|exact (heapSet (heapSet (heapSet (heapSet (heapSet (heapSet (heapNew _ _) 0 _) 1 _) 2 _) 3 _) 4 _) 0 _).trans (by simp)) (by simp; omega)
          have p3 : w3.heap[w.heap.size]? = some (.cells #[.int .i64 0, .int .i64 0, .int .i64 0, .int .u64 0, .int .i64 0] 48 (0,0)) := m3.keep (by repeat (first | exact p1 | exact heapOld p1 | refine (heapSetNe (by omega)).trans ?_)) (by simp; omega)
          have M3 : Mod [d] w w3 := M1.trans (T := [w1.heap.size, d]) (Mod.trans (S := [w1.heap.size, d]) (T := [d]) (by repeat (first | with_reducible exact Mod.refl _ _ | with_reducible apply Mod.alloc | with_reducible refine Mod.setCell ?_ (by simp) _)) m3 (by simp)) (by simp; omega)
          have y3 := ltOf p3
          clear hx hl
          clear x1 p1 M1 m3
          have z3 := ltOf q3
          have e0 := cellAt q3 0
          have e1 := cellAt q3 1
          have e2 := cellAt q3 2
          have e3 := cellAt q3 3
          have e4 := cellAt q3 4
          have g0 := freeAt q3 0
          have g1 := freeAt q3 1
          have g2 := freeAt q3 2
          have g3 := freeAt q3 3
          have g4 := freeAt q3 4
          simp only [List.getElem?_toArray, List.getElem?_cons_zero, List.getElem?_cons_succ] at e0 e1 e2 e3 e4
          )
        | (
          go_at_call 28
          have hx := x3
          have hl := y3
          refine (r2 _ (by exact hx.keep (S := [w1.heap.size]) (by repeat (first | with_reducible exact Mod.refl _ _ | with_reducible apply Mod.alloc | with_reducible refine Mod.setCell ?_ (by simp) _)) (by simp; omega))).mono ?_
          rintro e w4 ⟨rfl, m4, x4⟩
          have q4 : w4.heap[w1.heap.size]? = some (.cells #[.int .i64 (2), .int .i64 v1, .int .i64 0, .int .u64 0, .int .i64 0] 48 (0,0)) := m4.keep ((heapSet q3 1 _).trans (by simp)) (by simp; omega)
          have p4 : w4.heap[w.heap.size]? = some (.cells #[.int .i64 0, .int .i64 0, .int .i64 0, .int .u64 0, .int .i64 0] 48 (0,0)) := m4.keep (by repeat (first | exact p3 | exact heapOld p3 | refine (heapSetNe (by omega)).trans ?_)) (by simp; omega)
          have M4 : Mod [d] w w4 := M3.trans (T := [w1.heap.size, d]) (Mod.trans (S := [w1.heap.size, d]) (T := [d]) (by repeat (first | with_reducible exact Mod.refl _ _ | with_reducible apply Mod.alloc | with_reducible refine Mod.setCell ?_ (by simp) _)) m4 (by simp)) (by simp; omega)
          have y4 := ltOf p4
          clear hx hl
          clear x3 p3 q3 M3 m4
          have z4 := ltOf q4
          have e0 := cellAt q4 0
          have e1 := cellAt q4 1
          have e2 := cellAt q4 2
          have e3 := cellAt q4 3
          have e4 := cellAt q4 4
          have g0 := freeAt q4 0
          have g1 := freeAt q4 1
          have g2 := freeAt q4 2
          have g3 := freeAt q4 3
          have g4 := freeAt q4 4
          simp only [List.getElem?_toArray, List.getElem?_cons_zero, List.getElem?_cons_succ] at e0 e1 e2 e3 e4
          )
        | (
          clear e0 e1 e2 e3 e4 g0 g1 g2 g3 g4 z4
          go_at_call 28
          have hx := x4
          have hl := y4
          refine (r3 _ (by exact hx.keep (S := [w1.heap.size]) (by repeat (first | with_reducible exact Mod.refl _ _ | with_reducible apply Mod.alloc | with_reducible refine Mod.setCell ?_ (by simp) _)) (by simp; omega))).mono ?_
          rintro e w5 ⟨rfl, m5, x5⟩
          have q5 : w5.heap[w1.heap.size]? = some (.cells #[.int .i64 (2), .int .i64 v1, .int .i64 v2, .int .u64 0, .int .i64 0] 48 (0,0)) := m5.keep ((heapSet q4 2 _).trans (by simp)) (by simp; omega)
          have p5 : w5.heap[w.heap.size]? = some (.cells #[.int .i64 0, .int .i64 0, .int .i64 0, .int .u64 0, .int .i64 0] 48 (0,0)) := m5.keep (by repeat (first | exact p4 | exact heapOld p4 | refine (heapSetNe (by omega)).trans ?_)) (by simp; omega)
          have M5 : Mod [d] w w5 := M4.trans (T := [w1.heap.size, d]) (Mod.trans (S := [w1.heap.size, d]) (T := [d]) (by repeat (first | with_reducible exact Mod.refl _ _ | with_reducible apply Mod.alloc | with_reducible refine Mod.setCell ?_ (by simp) _)) m5 (by simp)) (by simp; omega)
          have y5 := ltOf p5
          clear hx hl
          clear x4 p4 q4 M4 m5
          have z5 := ltOf q5
          have e0 := cellAt q5 0
          have e1 := cellAt q5 1
          have e2 := cellAt q5 2
          have e3 := cellAt q5 3
          have e4 := cellAt q5 4
          have g0 := freeAt q5 0
          have g1 := freeAt q5 1
          have g2 := freeAt q5 2
          have g3 := freeAt q5 3
          have g4 := freeAt q5 4
          simp only [List.getElem?_toArray, List.getElem?_cons_zero, List.getElem?_cons_succ] at e0 e1 e2 e3 e4
          )
        | (
          clear e0 e1 e2 e3 e4 g0 g1 g2 g3 g4 z5
          go_at_call 28
          have hx := x5
          have hl := y5
          refine (r4 _ (by exact hx.keep (S := [w1.heap.size]) (by repeat (first | with_reducible exact Mod.refl _ _ | with_reducible apply Mod.alloc | with_reducible refine Mod.setCell ?_ (by simp) _)) (by simp; omega))).mono ?_
          rintro e w6 ⟨rfl, m6, x6⟩
          have q6 : w6.heap[w1.heap.size]? = some (.cells #[.int .i64 (2), .int .i64 v1, .int .i64 v2, .int .u64 0, .int .i64 v3] 48 (0,0)) := m6.keep ((heapSet q5 4 _).trans (by simp)) (by simp; omega)
          have p6 : w6.heap[w.heap.size]? = some (.cells #[.int .i64 0, .int .i64 0, .int .i64 0, .int .u64 0, .int .i64 0] 48 (0,0)) := m6.keep (by repeat (first | exact p5 | exact heapOld p5 | refine (heapSetNe (by omega)).trans ?_)) (by simp; omega)
          have M6 : Mod [d] w w6 := M5.trans (T := [w1.heap.size, d]) (Mod.trans (S := [w1.heap.size, d]) (T := [d]) (by repeat (first | with_reducible exact Mod.refl _ _ | with_reducible apply Mod.alloc | with_reducible refine Mod.setCell ?_ (by simp) _)) m6 (by simp)) (by simp; omega)
          have y6 := ltOf p6
          clear hx hl
          clear x5 p5 q5 M5 m6
          have z6 := ltOf q6
          have e0 := cellAt q6 0
          have e1 := cellAt q6 1
          have e2 := cellAt q6 2
          have e3 := cellAt q6 3
          have e4 := cellAt q6 4
          have g0 := freeAt q6 0
          have g1 := freeAt q6 1
          have g2 := freeAt q6 2
          have g3 := freeAt q6 3
          have g4 := freeAt q6 4
          simp only [List.getElem?_toArray, List.getElem?_cons_zero, List.getElem?_cons_succ] at e0 e1 e2 e3 e4
          have f0 := cellAt p6 0
          have f1 := cellAt p6 1
          have f2 := cellAt p6 2
          have f3 := cellAt p6 3
          have f4 := cellAt p6 4
          have i0 := freeAt p6 0
          have i1 := freeAt p6 1
          have i2 := freeAt p6 2
          have i3 := freeAt p6 3
          have i4 := freeAt p6 4
          simp only [List.getElem?_toArray, List.getElem?_cons_zero, List.getElem?_cons_succ] at f0 f1 f2 f3 f4
          )
        | (
          go_at_call 53
          refine (rmask_Upto _ _).mono ?_
          rintro e w' ⟨rfl, k2, rfl⟩
          )
        | (
          go_at_call 52
          refine (rA _).mono ?_
          rintro e w7 ⟨rfl, m7, _⟩
          have q7 := m7.keep (k := w1.heap.size) q6 (by simp)
          have p7 := m7.keep (k := w.heap.size) p6 (by simp)
          have M7 : Mod [d] w w7 := M6.trans (T := []) m7.undrewN (by simp)
          have x7 := x6.keep m7.undrewN (by simp)
          clear e0 e1 e2 e3 e4 g0 g1 g2 g3 g4 z6 f0 f1 f2 f3 f4 i0 i1 i2 i3 i4 p6 q6 M6 x6 m7
          have z7 := ltOf q7
          have e0 := cellAt q7 0
          have e1 := cellAt q7 1
          have e2 := cellAt q7 2
          have e3 := cellAt q7 3
          have e4 := cellAt q7 4
          have g0 := freeAt q7 0
          have g1 := freeAt q7 1
          have g2 := freeAt q7 2
          have g3 := freeAt q7 3
          have g4 := freeAt q7 4
          simp only [List.getElem?_toArray, List.getElem?_cons_zero, List.getElem?_cons_succ] at e0 e1 e2 e3 e4
          have f0 := cellAt p7 0
          have f1 := cellAt p7 1
          have f2 := cellAt p7 2
          have f3 := cellAt p7 3
          have f4 := cellAt p7 4
          have i0 := freeAt p7 0
          have i1 := freeAt p7 1
          have i2 := freeAt p7 2
          have i3 := freeAt p7 3
          have i4 := freeAt p7 4
          simp only [List.getElem?_toArray, List.getElem?_cons_zero, List.getElem?_cons_succ] at f0 f1 f2 f3 f4
          )
        )
      refine bodyPost_ret_by (v := .agg #[.int .i64 (2), .int .i64 v1, .int .i64 v2, .int .u64 (1), .int .i64 v3]) ?_ rfl ?_
      · refine results_ev (T := 48) rfl rfl ((heapSet (heapSet (heapSet (heapSet (heapSet ((heapSetNe (by omega)).trans ((heapSetNe (by omega)).trans p7)) 0 _) 1 _) 2 _) 3 _) 4 _).trans ?_)
        simp
      · refine Rets.of rfl (M7.trans (T := [w.heap.size, w1.heap.size]) ?_ (by simp; omega)) (x7.keep (S := [w.heap.size, w1.heap.size]) ?_ (by simp; omega))
        · repeat (first | with_reducible exact Mod.refl _ _ | with_reducible apply Mod.alloc | with_reducible apply Mod.drewN | with_reducible apply Mod.drew | with_reducible refine Mod.setCell ?_ (by first | (simp; done) | (simp; omega)) _)
        · repeat (first | with_reducible exact Mod.refl _ _ | with_reducible apply Mod.alloc | with_reducible apply Mod.drewN | with_reducible apply Mod.drew | with_reducible refine Mod.setCell ?_ (by first | (simp; done) | (simp; omega)) _)
    · go_enter Try.func31, Try.ntmps31
      go_wp2_with (first
        | (
          go_at_call 28
          have hx := h
          refine (rK _ (by exact hx.keep (S := []) ((Mod.refl _ _).alloc _) (by simp))).mono ?_
          rintro e w1 ⟨rfl, m1, x1⟩
          have p1 := m1.keep (heapNew w _) (by simp; omega)
          have M1 : Mod [d] w w1 := Mod.trans (S := [d]) (T := [d]) ((Mod.refl _ _).alloc _) m1 (by simp)
          have y1 := ltOf p1
          clear h hx m1
          )
        | (
          go_at_call 28
          have hx := x1
          have hl := y1
          refine (r1 _ (by exact hx.keep (S := [w1.heap.size]) (by repeat (first | with_reducible exact Mod.refl _ _ | with_reducible apply Mod.alloc | with_reducible refine Mod.setCell ?_ (by simp) _)) (by simp; omega))).mono ?_
          rintro e w3 ⟨rfl, m3, x3⟩
          have q3 : w3.heap[w1.heap.size]? = some (.cells #[.int .i64 2, .int .i64 0, .int .i64 0, .int .u64 0, .int .i64 0] 48 (0,0)) := m3.keep (by first|exact heapNew _ _|exact (heapSet (heapNew _ _) 0 _).trans (by simp)|exact (heapSet (heapSet (heapSet (heapSet (heapSet (heapSet (heapNew _ _) 0 _) 1 _) 2 _) 3 _) 4 _) 0 _).trans (by simp)) (by simp; omega)
          have p3 : w3.heap[w.heap.size]? = some (.cells #[.int .i64 0, .int .i64 0, .int .i64 0, .int .u64 0, .int .i64 0] 48 (0,0)) := m3.keep (by repeat (first | exact p1 | exact heapOld p1 | refine (heapSetNe (by omega)).trans ?_)) (by simp; omega)
          have M3 : Mod [d] w w3 := M1.trans (T := [w1.heap.size, d]) (Mod.trans (S := [w1.heap.size, d]) (T := [d]) (by repeat (first | with_reducible exact Mod.refl _ _ | with_reducible apply Mod.alloc | with_reducible refine Mod.setCell ?_ (by simp) _)) m3 (by simp)) (by simp; omega)
          have y3 := ltOf p3
          clear hx hl
          clear x1 p1 M1 m3
          have z3 := ltOf q3
          have e0 := cellAt q3 0
          have e1 := cellAt q3 1
          have e2 := cellAt q3 2
          have e3 := cellAt q3 3
          have e4 := cellAt q3 4
          have g0 := freeAt q3 0
          have g1 := freeAt q3 1
          have g2 := freeAt q3 2
          have g3 := freeAt q3 3
          have g4 := freeAt q3 4
          simp only [List.getElem?_toArray, List.getElem?_cons_zero, List.getElem?_cons_succ] at e0 e1 e2 e3 e4
          )
        | (
          go_at_call 28
          have hx := x3
          have hl := y3
          refine (r2 _ (by exact hx.keep (S := [w1.heap.size]) (by repeat (first | with_reducible exact Mod.refl _ _ | with_reducible apply Mod.alloc | with_reducible refine Mod.setCell ?_ (by simp) _)) (by simp; omega))).mono ?_
          rintro e w4 ⟨rfl, m4, x4⟩
          have q4 : w4.heap[w1.heap.size]? = some (.cells #[.int .i64 (2), .int .i64 v1, .int .i64 0, .int .u64 0, .int .i64 0] 48 (0,0)) := m4.keep ((heapSet q3 1 _).trans (by simp)) (by simp; omega)
          have p4 : w4.heap[w.heap.size]? = some (.cells #[.int .i64 0, .int .i64 0, .int .i64 0, .int .u64 0, .int .i64 0] 48 (0,0)) := m4.keep (by repeat (first | exact p3 | exact heapOld p3 | refine (heapSetNe (by omega)).trans ?_)) (by simp; omega)
          have M4 : Mod [d] w w4 := M3.trans (T := [w1.heap.size, d]) (Mod.trans (S := [w1.heap.size, d]) (T := [d]) (by repeat (first | with_reducible exact Mod.refl _ _ | with_reducible apply Mod.alloc | with_reducible refine Mod.setCell ?_ (by simp) _)) m4 (by simp)) (by simp; omega)
          have y4 := ltOf p4
          clear hx hl
          clear x3 p3 q3 M3 m4
          have z4 := ltOf q4
          have e0 := cellAt q4 0
          have e1 := cellAt q4 1
          have e2 := cellAt q4 2
          have e3 := cellAt q4 3
          have e4 := cellAt q4 4
          have g0 := freeAt q4 0
          have g1 := freeAt q4 1
          have g2 := freeAt q4 2
          have g3 := freeAt q4 3
          have g4 := freeAt q4 4
          simp only [List.getElem?_toArray, List.getElem?_cons_zero, List.getElem?_cons_succ] at e0 e1 e2 e3 e4
          )
        | (
          clear e0 e1 e2 e3 e4 g0 g1 g2 g3 g4 z4
          go_at_call 28
          have hx := x4
          have hl := y4
          refine (r3 _ (by exact hx.keep (S := [w1.heap.size]) (by repeat (first | with_reducible exact Mod.refl _ _ | with_reducible apply Mod.alloc | with_reducible refine Mod.setCell ?_ (by simp) _)) (by simp; omega))).mono ?_
          rintro e w5 ⟨rfl, m5, x5⟩
          have q5 : w5.heap[w1.heap.size]? = some (.cells #[.int .i64 (2), .int .i64 v1, .int .i64 v2, .int .u64 0, .int .i64 0] 48 (0,0)) := m5.keep ((heapSet q4 2 _).trans (by simp)) (by simp; omega)
          have p5 : w5.heap[w.heap.size]? = some (.cells #[.int .i64 0, .int .i64 0, .int .i64 0, .int .u64 0, .int .i64 0] 48 (0,0)) := m5.keep (by repeat (first | exact p4 | exact heapOld p4 | refine (heapSetNe (by omega)).trans ?_)) (by simp; omega)
          have M5 : Mod [d] w w5 := M4.trans (T := [w1.heap.size, d]) (Mod.trans (S := [w1.heap.size, d]) (T := [d]) (by repeat (first | with_reducible exact Mod.refl _ _ | with_reducible apply Mod.alloc | with_reducible refine Mod.setCell ?_ (by simp) _)) m5 (by simp)) (by simp; omega)
          have y5 := ltOf p5
          clear hx hl
          clear x4 p4 q4 M4 m5
          have z5 := ltOf q5
          have e0 := cellAt q5 0
          have e1 := cellAt q5 1
          have e2 := cellAt q5 2
          have e3 := cellAt q5 3
          have e4 := cellAt q5 4
          have g0 := freeAt q5 0
          have g1 := freeAt q5 1
          have g2 := freeAt q5 2
          have g3 := freeAt q5 3
          have g4 := freeAt q5 4
          simp only [List.getElem?_toArray, List.getElem?_cons_zero, List.getElem?_cons_succ] at e0 e1 e2 e3 e4
          )
        | (
          clear e0 e1 e2 e3 e4 g0 g1 g2 g3 g4 z5
          go_at_call 28
          have hx := x5
          have hl := y5
          refine (r4 _ (by exact hx.keep (S := [w1.heap.size]) (by repeat (first | with_reducible exact Mod.refl _ _ | with_reducible apply Mod.alloc | with_reducible refine Mod.setCell ?_ (by simp) _)) (by simp; omega))).mono ?_
          rintro e w6 ⟨rfl, m6, x6⟩
          have q6 : w6.heap[w1.heap.size]? = some (.cells #[.int .i64 (2), .int .i64 v1, .int .i64 v2, .int .u64 0, .int .i64 v3] 48 (0,0)) := m6.keep ((heapSet q5 4 _).trans (by simp)) (by simp; omega)
          have p6 : w6.heap[w.heap.size]? = some (.cells #[.int .i64 0, .int .i64 0, .int .i64 0, .int .u64 0, .int .i64 0] 48 (0,0)) := m6.keep (by repeat (first | exact p5 | exact heapOld p5 | refine (heapSetNe (by omega)).trans ?_)) (by simp; omega)
          have M6 : Mod [d] w w6 := M5.trans (T := [w1.heap.size, d]) (Mod.trans (S := [w1.heap.size, d]) (T := [d]) (by repeat (first | with_reducible exact Mod.refl _ _ | with_reducible apply Mod.alloc | with_reducible refine Mod.setCell ?_ (by simp) _)) m6 (by simp)) (by simp; omega)
          have y6 := ltOf p6
          clear hx hl
          clear x5 p5 q5 M5 m6
          have z6 := ltOf q6
          have e0 := cellAt q6 0
          have e1 := cellAt q6 1
          have e2 := cellAt q6 2
          have e3 := cellAt q6 3
          have e4 := cellAt q6 4
          have g0 := freeAt q6 0
          have g1 := freeAt q6 1
          have g2 := freeAt q6 2
          have g3 := freeAt q6 3
          have g4 := freeAt q6 4
          simp only [List.getElem?_toArray, List.getElem?_cons_zero, List.getElem?_cons_succ] at e0 e1 e2 e3 e4
          have f0 := cellAt p6 0
          have f1 := cellAt p6 1
          have f2 := cellAt p6 2
          have f3 := cellAt p6 3
          have f4 := cellAt p6 4
          have i0 := freeAt p6 0
          have i1 := freeAt p6 1
          have i2 := freeAt p6 2
          have i3 := freeAt p6 3
          have i4 := freeAt p6 4
          simp only [List.getElem?_toArray, List.getElem?_cons_zero, List.getElem?_cons_succ] at f0 f1 f2 f3 f4
          )
        | (
          go_at_call 53
          refine (rmask_Upto _ _).mono ?_
          rintro e w' ⟨rfl, k2, rfl⟩
          )
        | (
          go_at_call 52
          refine (rA _).mono ?_
          rintro e w7 ⟨rfl, m7, _⟩
          have q7 := m7.keep (k := w1.heap.size) q6 (by simp)
          have p7 := m7.keep (k := w.heap.size) p6 (by simp)
          have M7 : Mod [d] w w7 := M6.trans (T := []) m7.undrewN (by simp)
          have x7 := x6.keep m7.undrewN (by simp)
          clear e0 e1 e2 e3 e4 g0 g1 g2 g3 g4 z6 f0 f1 f2 f3 f4 i0 i1 i2 i3 i4 p6 q6 M6 x6 m7
          have z7 := ltOf q7
          have e0 := cellAt q7 0
          have e1 := cellAt q7 1
          have e2 := cellAt q7 2
          have e3 := cellAt q7 3
          have e4 := cellAt q7 4
          have g0 := freeAt q7 0
          have g1 := freeAt q7 1
          have g2 := freeAt q7 2
          have g3 := freeAt q7 3
          have g4 := freeAt q7 4
          simp only [List.getElem?_toArray, List.getElem?_cons_zero, List.getElem?_cons_succ] at e0 e1 e2 e3 e4
          have f0 := cellAt p7 0
          have f1 := cellAt p7 1
          have f2 := cellAt p7 2
          have f3 := cellAt p7 3
          have f4 := cellAt p7 4
          have i0 := freeAt p7 0
          have i1 := freeAt p7 1
          have i2 := freeAt p7 2
          have i3 := freeAt p7 3
          have i4 := freeAt p7 4
          simp only [List.getElem?_toArray, List.getElem?_cons_zero, List.getElem?_cons_succ] at f0 f1 f2 f3 f4
          )
        )
      refine bodyPost_ret_by (v := .agg #[.int .i64 (2), .int .i64 v1, .int .i64 v2, .int .u64 (mm), .int .i64 v3]) ?_ rfl ?_
      · refine results_ev (T := 48) rfl rfl ((heapSet (heapSet (heapSet (heapSet (heapSet ((heapSetNe (by omega)).trans p7) 0 _) 1 _) 2 _) 3 _) 4 _).trans ?_)
        simp
      · refine Rets.of rfl (M7.trans (T := [w.heap.size, w1.heap.size]) ?_ (by simp; omega)) (x7.keep (S := [w.heap.size, w1.heap.size]) ?_ (by simp; omega))
        · repeat (first | with_reducible exact Mod.refl _ _ | with_reducible apply Mod.alloc | with_reducible apply Mod.drewN | with_reducible apply Mod.drew | with_reducible refine Mod.setCell ?_ (by first | (simp; done) | (simp; omega)) _)
        · repeat (first | with_reducible exact Mod.refl _ _ | with_reducible apply Mod.alloc | with_reducible apply Mod.drewN | with_reducible apply Mod.drew | with_reducible refine Mod.setCell ?_ (by first | (simp; done) | (simp; omega)) _)
  · rcases hM with ⟨rfl, rfl⟩ | ⟨hM, rfl⟩
    · go_enter Try.func31, Try.ntmps31
      go_wp2_with (first
        | (
          go_at_call 28
          have hx := h
          refine (rK _ (by exact hx.keep (S := []) ((Mod.refl _ _).alloc _) (by simp))).mono ?_
          rintro e w1 ⟨rfl, m1, x1⟩
          have p1 := m1.keep (heapNew w _) (by simp; omega)
          have M1 : Mod [d] w w1 := Mod.trans (S := [d]) (T := [d]) ((Mod.refl _ _).alloc _) m1 (by simp)
          have y1 := ltOf p1
          clear h hx m1
          )
        | (
          go_at_call 28
          have hx := x1
          have hl := y1
          refine (rL _ (by exact hx.keep (S := [w1.heap.size]) (by repeat (first | with_reducible exact Mod.refl _ _ | with_reducible apply Mod.alloc | with_reducible refine Mod.setCell ?_ (by simp) _)) (by simp; omega))).mono ?_
          rintro e w2 ⟨rfl, m2, x2⟩
          have q2 : w2.heap[w1.heap.size]? = some (.cells #[.int .i64 0, .int .i64 0, .int .i64 0, .int .u64 0, .int .i64 0] 48 (0,0)) := m2.keep (by first|exact heapNew _ _|exact (heapSet (heapSet (heapSet (heapSet (heapSet (heapNew _ _) 0 _) 1 _) 2 _) 3 _) 4 _).trans (by simp)) (by simp; omega)
          have p2 : w2.heap[w.heap.size]? = some (.cells #[.int .i64 0, .int .i64 0, .int .i64 0, .int .u64 0, .int .i64 0] 48 (0,0)) := m2.keep (by repeat (first | exact p1 | exact heapOld p1 | refine (heapSetNe (by omega)).trans ?_)) (by simp; omega)
          have M2 : Mod [d] w w2 := M1.trans (T := [w1.heap.size, d]) (Mod.trans (S := [w1.heap.size, d]) (T := [d]) (by repeat (first | with_reducible exact Mod.refl _ _ | with_reducible apply Mod.alloc | with_reducible refine Mod.setCell ?_ (by simp) _)) m2 (by simp)) (by simp; omega)
          have y2 := ltOf p2
          clear hx hl
          clear x1 p1 M1 m2
          have z2 := ltOf q2
          have e0 := cellAt q2 0
          have e1 := cellAt q2 1
          have e2 := cellAt q2 2
          have e3 := cellAt q2 3
          have e4 := cellAt q2 4
          have g0 := freeAt q2 0
          have g1 := freeAt q2 1
          have g2 := freeAt q2 2
          have g3 := freeAt q2 3
          have g4 := freeAt q2 4
          simp only [List.getElem?_toArray, List.getElem?_cons_zero, List.getElem?_cons_succ] at e0 e1 e2 e3 e4
          )
          | (
          clear e0 e1 e2 e3 e4 g0 g1 g2 g3 g4 z2
          go_at_call 28
          have hx := x2
          have hl := y2
          refine (r1 _ (by exact hx.keep (S := [w1.heap.size]) (by repeat (first | with_reducible exact Mod.refl _ _ | with_reducible apply Mod.alloc | with_reducible refine Mod.setCell ?_ (by simp) _)) (by simp; omega))).mono ?_
          rintro e w3 ⟨rfl, m3, x3⟩
          have q3 : w3.heap[w1.heap.size]? = some (.cells #[.int .i64 (3 + vl), .int .i64 0, .int .i64 0, .int .u64 0, .int .i64 0] 48 (0,0)) := m3.keep ((heapSet q2 0 _).trans (by simp)) (by simp; omega)
          have p3 : w3.heap[w.heap.size]? = some (.cells #[.int .i64 0, .int .i64 0, .int .i64 0, .int .u64 0, .int .i64 0] 48 (0,0)) := m3.keep (by repeat (first | exact p2 | exact heapOld p2 | refine (heapSetNe (by omega)).trans ?_)) (by simp; omega)
          have M3 : Mod [d] w w3 := M2.trans (T := [w1.heap.size, d]) (Mod.trans (S := [w1.heap.size, d]) (T := [d]) (by repeat (first | with_reducible exact Mod.refl _ _ | with_reducible apply Mod.alloc | with_reducible refine Mod.setCell ?_ (by simp) _)) m3 (by simp)) (by simp; omega)
          have y3 := ltOf p3
          clear hx hl
          clear x2 p2 q2 M2 m3
          have z3 := ltOf q3
          have e0 := cellAt q3 0
          have e1 := cellAt q3 1
          have e2 := cellAt q3 2
          have e3 := cellAt q3 3
          have e4 := cellAt q3 4
          have g0 := freeAt q3 0
          have g1 := freeAt q3 1
          have g2 := freeAt q3 2
          have g3 := freeAt q3 3
          have g4 := freeAt q3 4
          simp only [List.getElem?_toArray, List.getElem?_cons_zero, List.getElem?_cons_succ] at e0 e1 e2 e3 e4
          )
        | (
          go_at_call 28
          have hx := x3
          have hl := y3
          refine (r2 _ (by exact hx.keep (S := [w1.heap.size]) (by repeat (first | with_reducible exact Mod.refl _ _ | with_reducible apply Mod.alloc | with_reducible refine Mod.setCell ?_ (by simp) _)) (by simp; omega))).mono ?_
          rintro e w4 ⟨rfl, m4, x4⟩
          have q4 : w4.heap[w1.heap.size]? = some (.cells #[.int .i64 (3 + vl), .int .i64 v1, .int .i64 0, .int .u64 0, .int .i64 0] 48 (0,0)) := m4.keep ((heapSet q3 1 _).trans (by simp)) (by simp; omega)
          have p4 : w4.heap[w.heap.size]? = some (.cells #[.int .i64 0, .int .i64 0, .int .i64 0, .int .u64 0, .int .i64 0] 48 (0,0)) := m4.keep (by repeat (first | exact p3 | exact heapOld p3 | refine (heapSetNe (by omega)).trans ?_)) (by simp; omega)
          have M4 : Mod [d] w w4 := M3.trans (T := [w1.heap.size, d]) (Mod.trans (S := [w1.heap.size, d]) (T := [d]) (by repeat (first | with_reducible exact Mod.refl _ _ | with_reducible apply Mod.alloc | with_reducible refine Mod.setCell ?_ (by simp) _)) m4 (by simp)) (by simp; omega)
          have y4 := ltOf p4
          clear hx hl
          clear x3 p3 q3 M3 m4
          have z4 := ltOf q4
          have e0 := cellAt q4 0
          have e1 := cellAt q4 1
          have e2 := cellAt q4 2
          have e3 := cellAt q4 3
          have e4 := cellAt q4 4
          have g0 := freeAt q4 0
          have g1 := freeAt q4 1
          have g2 := freeAt q4 2
          have g3 := freeAt q4 3
          have g4 := freeAt q4 4
          simp only [List.getElem?_toArray, List.getElem?_cons_zero, List.getElem?_cons_succ] at e0 e1 e2 e3 e4
          )
        | (
          clear e0 e1 e2 e3 e4 g0 g1 g2 g3 g4 z4
          go_at_call 28
          have hx := x4
          have hl := y4
          refine (r3 _ (by exact hx.keep (S := [w1.heap.size]) (by repeat (first | with_reducible exact Mod.refl _ _ | with_reducible apply Mod.alloc | with_reducible refine Mod.setCell ?_ (by simp) _)) (by simp; omega))).mono ?_
          rintro e w5 ⟨rfl, m5, x5⟩
          have q5 : w5.heap[w1.heap.size]? = some (.cells #[.int .i64 (3 + vl), .int .i64 v1, .int .i64 v2, .int .u64 0, .int .i64 0] 48 (0,0)) := m5.keep ((heapSet q4 2 _).trans (by simp)) (by simp; omega)
          have p5 : w5.heap[w.heap.size]? = some (.cells #[.int .i64 0, .int .i64 0, .int .i64 0, .int .u64 0, .int .i64 0] 48 (0,0)) := m5.keep (by repeat (first | exact p4 | exact heapOld p4 | refine (heapSetNe (by omega)).trans ?_)) (by simp; omega)
          have M5 : Mod [d] w w5 := M4.trans (T := [w1.heap.size, d]) (Mod.trans (S := [w1.heap.size, d]) (T := [d]) (by repeat (first | with_reducible exact Mod.refl _ _ | with_reducible apply Mod.alloc | with_reducible refine Mod.setCell ?_ (by simp) _)) m5 (by simp)) (by simp; omega)
          have y5 := ltOf p5
          clear hx hl
          clear x4 p4 q4 M4 m5
          have z5 := ltOf q5
          have e0 := cellAt q5 0
          have e1 := cellAt q5 1
          have e2 := cellAt q5 2
          have e3 := cellAt q5 3
          have e4 := cellAt q5 4
          have g0 := freeAt q5 0
          have g1 := freeAt q5 1
          have g2 := freeAt q5 2
          have g3 := freeAt q5 3
          have g4 := freeAt q5 4
          simp only [List.getElem?_toArray, List.getElem?_cons_zero, List.getElem?_cons_succ] at e0 e1 e2 e3 e4
          )
        | (
          clear e0 e1 e2 e3 e4 g0 g1 g2 g3 g4 z5
          go_at_call 28
          have hx := x5
          have hl := y5
          refine (r4 _ (by exact hx.keep (S := [w1.heap.size]) (by repeat (first | with_reducible exact Mod.refl _ _ | with_reducible apply Mod.alloc | with_reducible refine Mod.setCell ?_ (by simp) _)) (by simp; omega))).mono ?_
          rintro e w6 ⟨rfl, m6, x6⟩
          have q6 : w6.heap[w1.heap.size]? = some (.cells #[.int .i64 (3 + vl), .int .i64 v1, .int .i64 v2, .int .u64 0, .int .i64 v3] 48 (0,0)) := m6.keep ((heapSet q5 4 _).trans (by simp)) (by simp; omega)
          have p6 : w6.heap[w.heap.size]? = some (.cells #[.int .i64 0, .int .i64 0, .int .i64 0, .int .u64 0, .int .i64 0] 48 (0,0)) := m6.keep (by repeat (first | exact p5 | exact heapOld p5 | refine (heapSetNe (by omega)).trans ?_)) (by simp; omega)
          have M6 : Mod [d] w w6 := M5.trans (T := [w1.heap.size, d]) (Mod.trans (S := [w1.heap.size, d]) (T := [d]) (by repeat (first | with_reducible exact Mod.refl _ _ | with_reducible apply Mod.alloc | with_reducible refine Mod.setCell ?_ (by simp) _)) m6 (by simp)) (by simp; omega)
          have y6 := ltOf p6
          clear hx hl
          clear x5 p5 q5 M5 m6
          have z6 := ltOf q6
          have e0 := cellAt q6 0
          have e1 := cellAt q6 1
          have e2 := cellAt q6 2
          have e3 := cellAt q6 3
          have e4 := cellAt q6 4
          have g0 := freeAt q6 0
          have g1 := freeAt q6 1
          have g2 := freeAt q6 2
          have g3 := freeAt q6 3
          have g4 := freeAt q6 4
          simp only [List.getElem?_toArray, List.getElem?_cons_zero, List.getElem?_cons_succ] at e0 e1 e2 e3 e4
          have f0 := cellAt p6 0
          have f1 := cellAt p6 1
          have f2 := cellAt p6 2
          have f3 := cellAt p6 3
          have f4 := cellAt p6 4
          have i0 := freeAt p6 0
          have i1 := freeAt p6 1
          have i2 := freeAt p6 2
          have i3 := freeAt p6 3
          have i4 := freeAt p6 4
          simp only [List.getElem?_toArray, List.getElem?_cons_zero, List.getElem?_cons_succ] at f0 f1 f2 f3 f4
          )
        | (
          go_at_call 53
          refine (rmask_Upto _ _).mono ?_
          rintro e w' ⟨rfl, k2, rfl⟩
          )
        | (
          go_at_call 52
          refine (rA _).mono ?_
          rintro e w7 ⟨rfl, m7, _⟩
          have q7 := m7.keep (k := w1.heap.size) q6 (by simp)
          have p7 := m7.keep (k := w.heap.size) p6 (by simp)
          have M7 : Mod [d] w w7 := M6.trans (T := []) m7.undrewN (by simp)
          have x7 := x6.keep m7.undrewN (by simp)
          clear e0 e1 e2 e3 e4 g0 g1 g2 g3 g4 z6 f0 f1 f2 f3 f4 i0 i1 i2 i3 i4 p6 q6 M6 x6 m7
          have z7 := ltOf q7
          have e0 := cellAt q7 0
          have e1 := cellAt q7 1
          have e2 := cellAt q7 2
          have e3 := cellAt q7 3
          have e4 := cellAt q7 4
          have g0 := freeAt q7 0
          have g1 := freeAt q7 1
          have g2 := freeAt q7 2
          have g3 := freeAt q7 3
          have g4 := freeAt q7 4
          simp only [List.getElem?_toArray, List.getElem?_cons_zero, List.getElem?_cons_succ] at e0 e1 e2 e3 e4
          have f0 := cellAt p7 0
          have f1 := cellAt p7 1
          have f2 := cellAt p7 2
          have f3 := cellAt p7 3
          have f4 := cellAt p7 4
          have i0 := freeAt p7 0
          have i1 := freeAt p7 1
          have i2 := freeAt p7 2
          have i3 := freeAt p7 3
          have i4 := freeAt p7 4
          simp only [List.getElem?_toArray, List.getElem?_cons_zero, List.getElem?_cons_succ] at f0 f1 f2 f3 f4
          )
        )
      refine bodyPost_ret_by (v := .agg #[.int .i64 (3 + vl), .int .i64 v1, .int .i64 v2, .int .u64 (1), .int .i64 v3]) ?_ rfl ?_
      · refine results_ev (T := 48) rfl rfl ((heapSet (heapSet (heapSet (heapSet (heapSet ((heapSetNe (by omega)).trans ((heapSetNe (by omega)).trans p7)) 0 _) 1 _) 2 _) 3 _) 4 _).trans ?_)
        simp
      · refine Rets.of rfl (M7.trans (T := [w.heap.size, w1.heap.size]) ?_ (by simp; omega)) (x7.keep (S := [w.heap.size, w1.heap.size]) ?_ (by simp; omega))
        · repeat (first | with_reducible exact Mod.refl _ _ | with_reducible apply Mod.alloc | with_reducible apply Mod.drewN | with_reducible apply Mod.drew | with_reducible refine Mod.setCell ?_ (by first | (simp; done) | (simp; omega)) _)
        · repeat (first | with_reducible exact Mod.refl _ _ | with_reducible apply Mod.alloc | with_reducible apply Mod.drewN | with_reducible apply Mod.drew | with_reducible refine Mod.setCell ?_ (by first | (simp; done) | (simp; omega)) _)
    · go_enter Try.func31, Try.ntmps31
      go_wp2_with (first
        | (
          go_at_call 28
          have hx := h
          refine (rK _ (by exact hx.keep (S := []) ((Mod.refl _ _).alloc _) (by simp))).mono ?_
          rintro e w1 ⟨rfl, m1, x1⟩
          have p1 := m1.keep (heapNew w _) (by simp; omega)
          have M1 : Mod [d] w w1 := Mod.trans (S := [d]) (T := [d]) ((Mod.refl _ _).alloc _) m1 (by simp)
          have y1 := ltOf p1
          clear h hx m1
          )
        | (
          go_at_call 28
          have hx := x1
          have hl := y1
          refine (rL _ (by exact hx.keep (S := [w1.heap.size]) (by repeat (first | with_reducible exact Mod.refl _ _ | with_reducible apply Mod.alloc | with_reducible refine Mod.setCell ?_ (by simp) _)) (by simp; omega))).mono ?_
          rintro e w2 ⟨rfl, m2, x2⟩
          have q2 : w2.heap[w1.heap.size]? = some (.cells #[.int .i64 0, .int .i64 0, .int .i64 0, .int .u64 0, .int .i64 0] 48 (0,0)) := m2.keep (by first|exact heapNew _ _|exact (heapSet (heapSet (heapSet (heapSet (heapSet (heapNew _ _) 0 _) 1 _) 2 _) 3 _) 4 _).trans (by simp)) (by simp; omega)
          have p2 : w2.heap[w.heap.size]? = some (.cells #[.int .i64 0, .int .i64 0, .int .i64 0, .int .u64 0, .int .i64 0] 48 (0,0)) := m2.keep (by repeat (first | exact p1 | exact heapOld p1 | refine (heapSetNe (by omega)).trans ?_)) (by simp; omega)
          have M2 : Mod [d] w w2 := M1.trans (T := [w1.heap.size, d]) (Mod.trans (S := [w1.heap.size, d]) (T := [d]) (by repeat (first | with_reducible exact Mod.refl _ _ | with_reducible apply Mod.alloc | with_reducible refine Mod.setCell ?_ (by simp) _)) m2 (by simp)) (by simp; omega)
          have y2 := ltOf p2
          clear hx hl
          clear x1 p1 M1 m2
          have z2 := ltOf q2
          have e0 := cellAt q2 0
          have e1 := cellAt q2 1
          have e2 := cellAt q2 2
          have e3 := cellAt q2 3
          have e4 := cellAt q2 4
          have g0 := freeAt q2 0
          have g1 := freeAt q2 1
          have g2 := freeAt q2 2
          have g3 := freeAt q2 3
          have g4 := freeAt q2 4
          simp only [List.getElem?_toArray, List.getElem?_cons_zero, List.getElem?_cons_succ] at e0 e1 e2 e3 e4
          )
          | (
          clear e0 e1 e2 e3 e4 g0 g1 g2 g3 g4 z2
          go_at_call 28
          have hx := x2
          have hl := y2
          refine (r1 _ (by exact hx.keep (S := [w1.heap.size]) (by repeat (first | with_reducible exact Mod.refl _ _ | with_reducible apply Mod.alloc | with_reducible refine Mod.setCell ?_ (by simp) _)) (by simp; omega))).mono ?_
          rintro e w3 ⟨rfl, m3, x3⟩
          have q3 : w3.heap[w1.heap.size]? = some (.cells #[.int .i64 (3 + vl), .int .i64 0, .int .i64 0, .int .u64 0, .int .i64 0] 48 (0,0)) := m3.keep ((heapSet q2 0 _).trans (by simp)) (by simp; omega)
          have p3 : w3.heap[w.heap.size]? = some (.cells #[.int .i64 0, .int .i64 0, .int .i64 0, .int .u64 0, .int .i64 0] 48 (0,0)) := m3.keep (by repeat (first | exact p2 | exact heapOld p2 | refine (heapSetNe (by omega)).trans ?_)) (by simp; omega)
          have M3 : Mod [d] w w3 := M2.trans (T := [w1.heap.size, d]) (Mod.trans (S := [w1.heap.size, d]) (T := [d]) (by repeat (first | with_reducible exact Mod.refl _ _ | with_reducible apply Mod.alloc | with_reducible refine Mod.setCell ?_ (by simp) _)) m3 (by simp)) (by simp; omega)
          have y3 := ltOf p3
          clear hx hl
          clear x2 p2 q2 M2 m3
          have z3 := ltOf q3
          have e0 := cellAt q3 0
          have e1 := cellAt q3 1
          have e2 := cellAt q3 2
          have e3 := cellAt q3 3
          have e4 := cellAt q3 4
          have g0 := freeAt q3 0
          have g1 := freeAt q3 1
          have g2 := freeAt q3 2
          have g3 := freeAt q3 3
          have g4 := freeAt q3 4
          simp only [List.getElem?_toArray, List.getElem?_cons_zero, List.getElem?_cons_succ] at e0 e1 e2 e3 e4
          )
        | (
          go_at_call 28
          have hx := x3
          have hl := y3
          refine (r2 _ (by exact hx.keep (S := [w1.heap.size]) (by repeat (first | with_reducible exact Mod.refl _ _ | with_reducible apply Mod.alloc | with_reducible refine Mod.setCell ?_ (by simp) _)) (by simp; omega))).mono ?_
          rintro e w4 ⟨rfl, m4, x4⟩
          have q4 : w4.heap[w1.heap.size]? = some (.cells #[.int .i64 (3 + vl), .int .i64 v1, .int .i64 0, .int .u64 0, .int .i64 0] 48 (0,0)) := m4.keep ((heapSet q3 1 _).trans (by simp)) (by simp; omega)
          have p4 : w4.heap[w.heap.size]? = some (.cells #[.int .i64 0, .int .i64 0, .int .i64 0, .int .u64 0, .int .i64 0] 48 (0,0)) := m4.keep (by repeat (first | exact p3 | exact heapOld p3 | refine (heapSetNe (by omega)).trans ?_)) (by simp; omega)
          have M4 : Mod [d] w w4 := M3.trans (T := [w1.heap.size, d]) (Mod.trans (S := [w1.heap.size, d]) (T := [d]) (by repeat (first | with_reducible exact Mod.refl _ _ | with_reducible apply Mod.alloc | with_reducible refine Mod.setCell ?_ (by simp) _)) m4 (by simp)) (by simp; omega)
          have y4 := ltOf p4
          clear hx hl
          clear x3 p3 q3 M3 m4
          have z4 := ltOf q4
          have e0 := cellAt q4 0
          have e1 := cellAt q4 1
          have e2 := cellAt q4 2
          have e3 := cellAt q4 3
          have e4 := cellAt q4 4
          have g0 := freeAt q4 0
          have g1 := freeAt q4 1
          have g2 := freeAt q4 2
          have g3 := freeAt q4 3
          have g4 := freeAt q4 4
          simp only [List.getElem?_toArray, List.getElem?_cons_zero, List.getElem?_cons_succ] at e0 e1 e2 e3 e4
          )
        | (
          clear e0 e1 e2 e3 e4 g0 g1 g2 g3 g4 z4
          go_at_call 28
          have hx := x4
          have hl := y4
          refine (r3 _ (by exact hx.keep (S := [w1.heap.size]) (by repeat (first | with_reducible exact Mod.refl _ _ | with_reducible apply Mod.alloc | with_reducible refine Mod.setCell ?_ (by simp) _)) (by simp; omega))).mono ?_
          rintro e w5 ⟨rfl, m5, x5⟩
          have q5 : w5.heap[w1.heap.size]? = some (.cells #[.int .i64 (3 + vl), .int .i64 v1, .int .i64 v2, .int .u64 0, .int .i64 0] 48 (0,0)) := m5.keep ((heapSet q4 2 _).trans (by simp)) (by simp; omega)
          have p5 : w5.heap[w.heap.size]? = some (.cells #[.int .i64 0, .int .i64 0, .int .i64 0, .int .u64 0, .int .i64 0] 48 (0,0)) := m5.keep (by repeat (first | exact p4 | exact heapOld p4 | refine (heapSetNe (by omega)).trans ?_)) (by simp; omega)
          have M5 : Mod [d] w w5 := M4.trans (T := [w1.heap.size, d]) (Mod.trans (S := [w1.heap.size, d]) (T := [d]) (by repeat (first | with_reducible exact Mod.refl _ _ | with_reducible apply Mod.alloc | with_reducible refine Mod.setCell ?_ (by simp) _)) m5 (by simp)) (by simp; omega)
          have y5 := ltOf p5
          clear hx hl
          clear x4 p4 q4 M4 m5
          have z5 := ltOf q5
          have e0 := cellAt q5 0
          have e1 := cellAt q5 1
          have e2 := cellAt q5 2
          have e3 := cellAt q5 3
          have e4 := cellAt q5 4
          have g0 := freeAt q5 0
          have g1 := freeAt q5 1
          have g2 := freeAt q5 2
          have g3 := freeAt q5 3
          have g4 := freeAt q5 4
          simp only [List.getElem?_toArray, List.getElem?_cons_zero, List.getElem?_cons_succ] at e0 e1 e2 e3 e4
          )
        | (
          clear e0 e1 e2 e3 e4 g0 g1 g2 g3 g4 z5
          go_at_call 28
          have hx := x5
          have hl := y5
          refine (r4 _ (by exact hx.keep (S := [w1.heap.size]) (by repeat (first | with_reducible exact Mod.refl _ _ | with_reducible apply Mod.alloc | with_reducible refine Mod.setCell ?_ (by simp) _)) (by simp; omega))).mono ?_
          rintro e w6 ⟨rfl, m6, x6⟩
          have q6 : w6.heap[w1.heap.size]? = some (.cells #[.int .i64 (3 + vl), .int .i64 v1, .int .i64 v2, .int .u64 0, .int .i64 v3] 48 (0,0)) := m6.keep ((heapSet q5 4 _).trans (by simp)) (by simp; omega)
          have p6 : w6.heap[w.heap.size]? = some (.cells #[.int .i64 0, .int .i64 0, .int .i64 0, .int .u64 0, .int .i64 0] 48 (0,0)) := m6.keep (by repeat (first | exact p5 | exact heapOld p5 | refine (heapSetNe (by omega)).trans ?_)) (by simp; omega)
          have M6 : Mod [d] w w6 := M5.trans (T := [w1.heap.size, d]) (Mod.trans (S := [w1.heap.size, d]) (T := [d]) (by repeat (first | with_reducible exact Mod.refl _ _ | with_reducible apply Mod.alloc | with_reducible refine Mod.setCell ?_ (by simp) _)) m6 (by simp)) (by simp; omega)
          have y6 := ltOf p6
          clear hx hl
          clear x5 p5 q5 M5 m6
          have z6 := ltOf q6
          have e0 := cellAt q6 0
          have e1 := cellAt q6 1
          have e2 := cellAt q6 2
          have e3 := cellAt q6 3
          have e4 := cellAt q6 4
          have g0 := freeAt q6 0
          have g1 := freeAt q6 1
          have g2 := freeAt q6 2
          have g3 := freeAt q6 3
          have g4 := freeAt q6 4
          simp only [List.getElem?_toArray, List.getElem?_cons_zero, List.getElem?_cons_succ] at e0 e1 e2 e3 e4
          have f0 := cellAt p6 0
          have f1 := cellAt p6 1
          have f2 := cellAt p6 2
          have f3 := cellAt p6 3
          have f4 := cellAt p6 4
          have i0 := freeAt p6 0
          have i1 := freeAt p6 1
          have i2 := freeAt p6 2
          have i3 := freeAt p6 3
          have i4 := freeAt p6 4
          simp only [List.getElem?_toArray, List.getElem?_cons_zero, List.getElem?_cons_succ] at f0 f1 f2 f3 f4
          )
        | (
          go_at_call 53
          refine (rmask_Upto _ _).mono ?_
          rintro e w' ⟨rfl, k2, rfl⟩
          )
        | (
          go_at_call 52
          refine (rA _).mono ?_
          rintro e w7 ⟨rfl, m7, _⟩
          have q7 := m7.keep (k := w1.heap.size) q6 (by simp)
          have p7 := m7.keep (k := w.heap.size) p6 (by simp)
          have M7 : Mod [d] w w7 := M6.trans (T := []) m7.undrewN (by simp)
          have x7 := x6.keep m7.undrewN (by simp)
          clear e0 e1 e2 e3 e4 g0 g1 g2 g3 g4 z6 f0 f1 f2 f3 f4 i0 i1 i2 i3 i4 p6 q6 M6 x6 m7
          have z7 := ltOf q7
          have e0 := cellAt q7 0
          have e1 := cellAt q7 1
          have e2 := cellAt q7 2
          have e3 := cellAt q7 3
          have e4 := cellAt q7 4
          have g0 := freeAt q7 0
          have g1 := freeAt q7 1
          have g2 := freeAt q7 2
          have g3 := freeAt q7 3
          have g4 := freeAt q7 4
          simp only [List.getElem?_toArray, List.getElem?_cons_zero, List.getElem?_cons_succ] at e0 e1 e2 e3 e4
          have f0 := cellAt p7 0
          have f1 := cellAt p7 1
          have f2 := cellAt p7 2
          have f3 := cellAt p7 3
          have f4 := cellAt p7 4
          have i0 := freeAt p7 0
          have i1 := freeAt p7 1
          have i2 := freeAt p7 2
          have i3 := freeAt p7 3
          have i4 := freeAt p7 4
          simp only [List.getElem?_toArray, List.getElem?_cons_zero, List.getElem?_cons_succ] at f0 f1 f2 f3 f4
          )
        )
      refine bodyPost_ret_by (v := .agg #[.int .i64 (3 + vl), .int .i64 v1, .int .i64 v2, .int .u64 (mm), .int .i64 v3]) ?_ rfl ?_
      · refine results_ev (T := 48) rfl rfl ((heapSet (heapSet (heapSet (heapSet (heapSet ((heapSetNe (by omega)).trans p7) 0 _) 1 _) 2 _) 3 _) 4 _).trans ?_)
        simp
      · refine Rets.of rfl (M7.trans (T := [w.heap.size, w1.heap.size]) ?_ (by simp; omega)) (x7.keep (S := [w.heap.size, w1.heap.size]) ?_ (by simp; omega))
        · repeat (first | with_reducible exact Mod.refl _ _ | with_reducible apply Mod.alloc | with_reducible apply Mod.drewN | with_reducible apply Mod.drew | with_reducible refine Mod.setCell ?_ (by first | (simp; done) | (simp; omega)) _)
        · repeat (first | with_reducible exact Mod.refl _ _ | with_reducible apply Mod.alloc | with_reducible apply Mod.drewN | with_reducible apply Mod.drew | with_reducible refine Mod.setCell ?_ (by first | (simp; done) | (simp; omega)) _)
end Go.Proofs.Ytiegnbdoidiffaa
