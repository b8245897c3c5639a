/- The walk over hot's Next. -/
import Derived.Test.YtbelcmiljjndaaaHotDo
namespace Go.Proofs.Ytbelcmiljjndaaa
set_option linter.unusedVariables false
set_option linter.unusedSimpArgs false
open Go.RowKit



/-- A call that returned a step and why not. -/
def stepV (s : SH) : Value := .tuple #[s.step, .int .i64 s.mayE]

set_option maxRecDepth 100000 in
set_option maxHeartbeats 800000 in
theorem hot_Next (d : Nat) (q : Option (Nat × Nat)) (pm : Option Nat) (s : SH) (w : World) (h : DeskAt w d q pm s) : Calls Try.prog 14 #[.pointer (some ⟨d, 0, none⟩)] w (DeskDo d q pm (stepV s) s.next w) := by
  have hok := SH.next_ok h.ok
  have h2 := h.keep ((Mod.refl [] w).alloc (Obj.cells #[.int .i64 0, .bool false, .bool false] 32)) (by simp)
  have h' := h
  have hl := h.lt
  obtain ⟨hd, hq, hp, nq, np, nn, ok⟩ := h
  have c0 : w.cell? ⟨d, 0, none⟩ = some (.pointer (qP q)) := cellAt hd 0
  have c1 : w.cell? ⟨d, 1, none⟩ = some (.map pm) := cellAt hd 1
  have f0 : w.frozen? ⟨d, 0, none⟩ = false := freeAt hd 0
  have f1 : w.frozen? ⟨d, 1, none⟩ = false := freeAt hd 1
  have hdl := ltOf hd
  rcases q with _ | ⟨qa, qb⟩
  · simp only [qP] at c0
    simp only [ReqAt] at hq
    have hO : s.mayE = 12 := by simp [SH.mayE, hq]
    have hD : s.next = s := by simp [SH.next, hq]
    have hV : stepV s = .tuple #[.agg #[.int .i64 0, .bool false, .bool false], .int .i64 12] := by simp [stepV, SH.step, hO, hq]
    rw [hD, hV]
    clear hD hq hV
    go_enter Try.func14, Try.ntmps14
    go_wp2_with (go_at_call 65; refine (hot_may d _ pm s _ (by exact h2.same rfl)).mono ?_; rw [hO]; rintro e w' ⟨rfl, k1, rfl⟩)
    refine bodyPost_ret_by (v := .tuple #[.agg #[.int .i64 0, .bool false, .bool false], .int .i64 12]) ?_ rfl ?_
    · rw [results_cell_tmp rfl]; go_simp
    · have m3 : ∀ u1 u2 u3 : Value, Mod [] w ((((((w.alloc (Obj.cells #[.int .i64 0, .bool false, .bool false] 32)).drewN k1).setCell ⟨w.heap.size, 0, none⟩ u1).setCell ⟨w.heap.size, 1, none⟩ u2).setCell ⟨w.heap.size, 2, none⟩ u3)) := fun _ _ _ => (((((Mod.refl _ _).alloc _).drewN _).setCell (by simp) _).setCell (by simp) _).setCell (by simp) _
      exact ⟨none, pm, rfl, (m3 _ _ _).mono (by simp), h'.keep (m3 _ _ _) (by simp), fun k hk => .inl hk⟩
  · obtain ⟨r, hr, ha, hx, hab⟩ := hq
    have a0 : w.cell? ⟨qa, 0, none⟩ = some (.pointer (some ⟨qb, 0, none⟩)) := cellAt ha 0
    have a1 : w.cell? ⟨qa, 1, none⟩ = some (.bool s.up) := cellAt ha 1
    have a2 : w.cell? ⟨qa, 2, none⟩ = some (.int .i64 s.cpu) := cellAt ha 2
    have a3 : w.cell? ⟨qa, 3, none⟩ = some (.int .i64 s.by_) := cellAt ha 3
    have a4 : w.cell? ⟨qa, 4, none⟩ = some (.bool s.told) := cellAt ha 4
    have g4 : w.frozen? ⟨qa, 4, none⟩ = false := freeAt ha 4
    simp only [qP] at c0
    have hx2 := hx.keep ((Mod.refl [] w).alloc (Obj.cells #[.int .i64 0, .bool false, .bool false] 32)) (by simp)
    have hL := fun j => plan_lookup (hp.keep (((Mod.refl [] w).alloc (Obj.cells #[.int .i64 0, .bool false, .bool false] 32)).drewN j) (by simp)) r.k
    have hqd : qa ≠ d ∧ qb ≠ d := by simp [qF] at nq; omega
    have hql := hl qa (by simp [qF])
    have hM : s.mayE = if r.over then 6 else 0 := by simp [SH.mayE, hr]
    cases ho : r.over
    · rw [ho] at hM
      have hO : s.mayE = 0 := hM
      cases hb : r.back
      · cases ht : s.told
        · by_cases hm : r.k ∈ s.plan
          · cases pm with
            | none => simp only [PlanAt] at hp; rw [hp] at hm; simp at hm
            | some b =>
              have hF : s.failsNow r = true := by simp [SH.failsNow, hb, ht, hm]
              have hm' := decide_eq_true hm
              have hD : s.next = { s with run := some r.fail, told := true, plan := s.plan.erase r.k } := by simp [SH.next, hr, ho, hF]
              have hV : stepV s = .tuple #[.agg #[.int .i64 r.k, .bool r.back, .bool true], .int .i64 0] := by simp [stepV, SH.step, hO, hr, ho, hF]
              have hE : r.failE = 0 := by simp [SRun.failE, hb, ho]
              rw [hD] at hok
              rw [hD, hV]
              have HO := Lib.hid hO
              clear hD hV hF hM hO
              go_enter Try.func14, Try.ntmps14
              go_wp2_with (first | (go_at_call 65; refine (hot_may d _ _ s _ (by exact h2.same rfl)).mono ?_; rw [HO.out]; rintro e w' ⟨rfl, k1, rfl⟩) | (go_at_call 66; refine (At_any qb r _ (by exact hx2.same rfl)).mono ?_; rintro e w' ⟨rfl, k2, rfl⟩))
              have mu : Mod [] w (((w.alloc (Obj.cells #[.int .i64 0, .bool false, .bool false] 32)).drewN (k1 + k2)).alloc (Obj.cells #[.int .i64 r.k, .bool false, .bool true] 32)) := (((Mod.refl _ _).alloc _).drewN _).alloc _
              obtain ⟨w1, hrun, m1, x1⟩ := map_delete (m := planM s.plan) (b := b) (hp.keep mu (by simp)) Try.underlying25 Try.underlying3 r.k
              rw [planM_del] at x1
              have nb : b ≠ d ∧ b ≠ qa ∧ b ≠ qb := by have := nn b (by simp [pF]); simp [pF] at np; simp [qF] at this; omega
              have hbl := hl b (by simp [pF])
              have hql2 := hl qb (by simp [qF])
              have hd1 := m1.keep (mu.keep hd (by simp)) (by simp; omega)
              have ha1 := m1.keep (mu.keep ha (by simp)) (by simp; omega)
              have hx1 := (hx.keep mu (by simp)).keep m1 (by simp; omega)
              have hz1 := m1.keep (k := w.heap.size) (heapOld (heapNew w (Obj.cells #[.int .i64 0, .bool false, .bool false] 32))) (by simp; omega)
              have hz2 := m1.keep (k := w.heap.size + 1) (heapNew' (by simp)) (by simp; omega)
              have M1 := (mu.mono (T := [b]) (by simp)).trans m1 (by simp)
              have d1 : w1.cell? ⟨d, 0, none⟩ = _ := cellAt hd1 0
              have d2 : w1.cell? ⟨qa, 0, none⟩ = _ := cellAt ha1 0
              simp only [List.getElem?_toArray, List.getElem?_cons_zero, qP] at d1 d2
              clear mu m1 a0 a1 a2 a3 a4 c0 c1 f0 f1 g4 hp hx2 h2 hL
              rw [hrun]
              go_wp2_with (go_at_call 67; refine (Fail_any qb r _ hx1).mono ?_; rw [hE]; rintro e w2 ⟨rfl, m2, x2⟩; have hd2 := m2.keep hd1 (by simp; omega); have ha2 := m2.keep ha1 (by simp; omega); have hz3 := m2.keep hz1 (by simp; omega); have hz4 := m2.keep hz2 (by simp; omega); have e1 : w2.cell? ⟨d, 0, none⟩ = _ := cellAt hd2 0; have e2 : w2.frozen? ⟨qa, 4, none⟩ = false := freeAt ha2 4; have e3 : w2.cell? ⟨qa, 4, none⟩ = _ := cellAt ha2 4; have e4 := fun i => freeAt hz3 i; have e5 := fun i => cellAt hz4 i; have e6 := fun i => cellAt hz3 i; have p1 := e4 0; have p2 := e4 1; have p3 := e4 2; have p4 := e5 0; have p5 := e5 1; have p6 := e5 2; have p7 := e6 0; have p8 := e6 1; have p9 := e6 2; clear e4 e5 e6; simp only [List.getElem?_toArray, List.getElem?_cons_zero, List.getElem?_cons_succ, qP] at e1 e3 p1 p2 p3 p4 p5 p6 p7 p8 p9; clear d1 d2)
              refine bodyPost_ret_by (v := .tuple #[.agg #[.int .i64 r.k, .bool false, .bool true], .int .i64 0]) ?_ rfl ?_
              · rw [results_cell_tmp rfl]; go_simp
              · rw [hb]
                have M2 := (M1.mono (T := [b, qb, qa]) (by simp)).trans m2 (by simp)
                have m3 : ∀ u1 u2 u3, Mod [qa, w.heap.size] w2 ((((w2.setCell ⟨qa, 4, none⟩ (.bool true)).setCell ⟨w.heap.size, 0, none⟩ u1).setCell ⟨w.heap.size, 1, none⟩ u2).setCell ⟨w.heap.size, 2, none⟩ u3) := fun _ _ _ => ((((Mod.refl _ _).setCell (by simp) _).setCell (by simp) _).setCell (by simp) _).setCell (by simp) _
                refine ⟨some (qa, qb), some b, rfl, (M2.trans (m3 _ _ _) (by simp)).mono (by simp [qF, pF]), ⟨(m3 _ _ _).keep hd2 (by simp; omega), ⟨_, rfl, ?_, x2.keep (m3 _ _ _) (by simp; omega), hab⟩, (MapAt.keep x1 m2 (by simp; omega)).keep (m3 _ _ _) (by simp; omega), nq, np, nn, hok⟩, fun k hk => .inl hk⟩
                rw [heapSetNe (by omega), heapSetNe (by omega), heapSetNe (by omega), heapSet ha2]
                simp
          · have hF : s.failsNow r = false := by simp [SH.failsNow, hb, ht, hm]
            have hm' := decide_eq_false hm
            have hD : s.next = { s with told := true } := by simp [SH.next, hr, ho, hF]
            have hV : stepV s = .tuple #[.agg #[.int .i64 r.k, .bool r.back, .bool false], .int .i64 0] := by simp [stepV, SH.step, hO, hr, ho, hF]
            rw [hD] at hok
            rw [hD, hV]
            have HO := Lib.hid hO
            replace hr := Lib.hid hr
            clear hD hV hF hM hO
            go_enter Try.func14, Try.ntmps14
            go_wp2_with (first | (go_at_call 65; refine (hot_may d _ pm s _ (by exact h2.same rfl)).mono ?_; rw [HO.out]; rintro e w' ⟨rfl, k1, rfl⟩) | (go_at_call 66; refine (At_any qb r _ (by exact hx2.same rfl)).mono ?_; rintro e w' ⟨rfl, k2, rfl⟩))
            refine bodyPost_ret_by (v := .tuple #[.agg #[.int .i64 r.k, .bool false, .bool false], .int .i64 0]) ?_ rfl ?_
            · rw [results_cell_tmp rfl]; go_simp
            · rw [hb]
              have m4 : ∀ o o' u1 u2 u3, Mod [qa] w (((((((w.alloc o).drewN (k1 + k2)).setCell ⟨qa, 4, none⟩ (.bool true)).setCell ⟨w.heap.size, 0, none⟩ u1).setCell ⟨w.heap.size, 1, none⟩ u2).setCell ⟨w.heap.size, 2, none⟩ u3).alloc o') := fun _ _ _ _ _ => ((((((Mod.refl _ _).alloc _).drewN _).setCell (by simp) _).setCell (by simp) _).setCell (by simp) _).setCell (by simp) _ |>.alloc _
              refine ⟨some (qa, qb), pm, rfl, (m4 _ _ _ _ _).mono (by simp [qF]), ⟨(m4 _ _ _ _ _).keep hd (by simp; omega), ⟨r, hr.out, ?_, hx.keep (m4 _ _ _ _ _) (by simp; omega), hab⟩, hp.keep (m4 _ _ _ _ _) (fun k hk => by have := nn k hk; simp [qF] at this ⊢; omega), nq, np, nn, hok⟩, fun k hk => .inl hk⟩
              refine heapOld ?_
              rw [heapSetNe (by omega), heapSetNe (by omega), heapSetNe (by omega)]
              refine (heapSet (w := (w.alloc _).drewN _) (heapOld ha) 4 _).trans ?_
              simp
        · have hF : s.failsNow r = false := by simp [SH.failsNow, hb, ht]
          have hD : s.next = { s with told := true } := by simp [SH.next, hr, ho, hF]
          have hV : stepV s = .tuple #[.agg #[.int .i64 r.k, .bool r.back, .bool false], .int .i64 0] := by simp [stepV, SH.step, hO, hr, ho, hF]
          rw [hD] at hok
          rw [hD, hV]
          have HO := Lib.hid hO
          replace hr := Lib.hid hr
          clear hD hV hF hM hO
          go_enter Try.func14, Try.ntmps14
          go_wp2_with (first | (go_at_call 65; refine (hot_may d _ pm s _ (by exact h2.same rfl)).mono ?_; rw [HO.out]; rintro e w' ⟨rfl, k1, rfl⟩) | (go_at_call 66; refine (At_any qb r _ (by exact hx2.same rfl)).mono ?_; rintro e w' ⟨rfl, k2, rfl⟩))
          refine bodyPost_ret_by (v := .tuple #[.agg #[.int .i64 r.k, .bool false, .bool false], .int .i64 0]) ?_ rfl ?_
          · rw [results_cell_tmp rfl]; go_simp
          · rw [hb]
            have m4 : ∀ o o' u1 u2 u3, Mod [qa] w (((((((w.alloc o).drewN (k1 + k2)).setCell ⟨qa, 4, none⟩ (.bool true)).setCell ⟨w.heap.size, 0, none⟩ u1).setCell ⟨w.heap.size, 1, none⟩ u2).setCell ⟨w.heap.size, 2, none⟩ u3).alloc o') := fun _ _ _ _ _ => ((((((Mod.refl _ _).alloc _).drewN _).setCell (by simp) _).setCell (by simp) _).setCell (by simp) _).setCell (by simp) _ |>.alloc _
            refine ⟨some (qa, qb), pm, rfl, (m4 _ _ _ _ _).mono (by simp [qF]), ⟨(m4 _ _ _ _ _).keep hd (by simp; omega), ⟨r, hr.out, ?_, hx.keep (m4 _ _ _ _ _) (by simp; omega), hab⟩, hp.keep (m4 _ _ _ _ _) (fun k hk => by have := nn k hk; simp [qF] at this ⊢; omega), nq, np, nn, hok⟩, fun k hk => .inl hk⟩
            refine heapOld ?_
            rw [heapSetNe (by omega), heapSetNe (by omega), heapSetNe (by omega)]
            refine (heapSet (w := (w.alloc _).drewN _) (heapOld ha) 4 _).trans ?_
            simp
      · have hF : s.failsNow r = false := by simp [SH.failsNow, hb]
        have hD : s.next = { s with told := true } := by simp [SH.next, hr, ho, hF]
        have hV : stepV s = .tuple #[.agg #[.int .i64 r.k, .bool r.back, .bool false], .int .i64 0] := by simp [stepV, SH.step, hO, hr, ho, hF]
        rw [hD] at hok
        rw [hD, hV]
        have HO := Lib.hid hO
        replace hr := Lib.hid hr
        clear hD hV hF hM hO
        go_enter Try.func14, Try.ntmps14
        go_wp2_with (first | (go_at_call 65; refine (hot_may d _ pm s _ (by exact h2.same rfl)).mono ?_; rw [HO.out]; rintro e w' ⟨rfl, k1, rfl⟩) | (go_at_call 66; refine (At_any qb r _ (by exact hx2.same rfl)).mono ?_; rintro e w' ⟨rfl, k2, rfl⟩))
        refine bodyPost_ret_by (v := .tuple #[.agg #[.int .i64 r.k, .bool true, .bool false], .int .i64 0]) ?_ rfl ?_
        · rw [results_cell_tmp rfl]; go_simp
        · rw [hb]
          have m4 : ∀ o o' u1 u2 u3, Mod [qa] w (((((((w.alloc o).drewN (k1 + k2)).setCell ⟨qa, 4, none⟩ (.bool true)).setCell ⟨w.heap.size, 0, none⟩ u1).setCell ⟨w.heap.size, 1, none⟩ u2).setCell ⟨w.heap.size, 2, none⟩ u3).alloc o') := fun _ _ _ _ _ => ((((((Mod.refl _ _).alloc _).drewN _).setCell (by simp) _).setCell (by simp) _).setCell (by simp) _).setCell (by simp) _ |>.alloc _
          refine ⟨some (qa, qb), pm, rfl, (m4 _ _ _ _ _).mono (by simp [qF]), ⟨(m4 _ _ _ _ _).keep hd (by simp; omega), ⟨r, hr.out, ?_, hx.keep (m4 _ _ _ _ _) (by simp; omega), hab⟩, hp.keep (m4 _ _ _ _ _) (fun k hk => by have := nn k hk; simp [qF] at this ⊢; omega), nq, np, nn, hok⟩, fun k hk => .inl hk⟩
          refine heapOld ?_
          rw [heapSetNe (by omega), heapSetNe (by omega), heapSetNe (by omega)]
          refine (heapSet (w := (w.alloc _).drewN _) (heapOld ha) 4 _).trans ?_
          simp
    · have hO : s.mayE = 6 := by rw [hM, ho]; rfl
      have hD : s.next = s := by simp [SH.next, hr, ho]
      have hV : stepV s = .tuple #[.agg #[.int .i64 0, .bool false, .bool false], .int .i64 6] := by simp [stepV, SH.step, hO, hr, ho]
      rw [hD, hV]
      clear hD hr hV hL hM
      go_enter Try.func14, Try.ntmps14
      go_wp2_with (go_at_call 65; refine (hot_may d _ pm s _ (by exact h2.same rfl)).mono ?_; rw [hO]; rintro e w' ⟨rfl, k1, rfl⟩)
      refine bodyPost_ret_by (v := .tuple #[.agg #[.int .i64 0, .bool false, .bool false], .int .i64 6]) ?_ rfl ?_
      · rw [results_cell_tmp rfl]; go_simp
      · have m3 : ∀ u1 u2 u3 : Value, Mod [] w ((((((w.alloc (Obj.cells #[.int .i64 0, .bool false, .bool false] 32)).drewN k1).setCell ⟨w.heap.size, 0, none⟩ u1).setCell ⟨w.heap.size, 1, none⟩ u2).setCell ⟨w.heap.size, 2, none⟩ u3)) := fun _ _ _ => (((((Mod.refl _ _).alloc _).drewN _).setCell (by simp) _).setCell (by simp) _).setCell (by simp) _
        exact ⟨some (qa, qb), pm, rfl, (m3 _ _ _).mono (by simp), h'.keep (m3 _ _ _) (by simp), fun k hk => .inl hk⟩
end Go.Proofs.Ytbelcmiljjndaaa
