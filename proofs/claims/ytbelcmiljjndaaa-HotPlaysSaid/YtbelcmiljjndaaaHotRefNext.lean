/- The walk over davitref22's Next. -/
import Derived.Test.YtbelcmiljjndaaaHotRef
namespace Go.Proofs.Ytbelcmiljjndaaa
set_option linter.unusedVariables false
set_option linter.unusedSimpArgs false
open Go.RowKit


set_option maxRecDepth 100000 in
set_option maxHeartbeats 800000 in
theorem rhot_Next (d : Nat) (q : Option (Nat × Nat)) (g : Option Nat) (cap : Nat) (s : SH) (w : World) (h : RDeskAt w d q g cap s) : Calls Try.prog 33 #[.pointer (some ⟨d, 0, none⟩)] w (RDeskDo d q g (stepV s) s.next w) := by
  have hok := SH.next_ok h.ok
  have hnd := h.ok.nd
  have hpl := SH.plan_len h.ok
  have h2 := h.keep ((Mod.refl [] w).alloc (Obj.cells #[.int .i64 0, .bool false, .bool false] 64)) (by simp)
  have h' := h
  have hl := h.lt
  obtain ⟨hd, hq, hp, nq, np, nn, ok⟩ := h
  have c0 : w.cell? ⟨d, 0, none⟩ = some (.pointer (qP q)) := cellAt hd 0
  have c1 : w.cell? ⟨d, 1, none⟩ = some (.bool s.up) := cellAt hd 1
  have c2 : w.cell? ⟨d, 2, none⟩ = some (.int .i64 s.cpu) := cellAt hd 2
  have c3 : w.cell? ⟨d, 3, none⟩ = some (.int .i64 s.by_) := cellAt hd 3
  have c4 : w.cell? ⟨d, 4, none⟩ = some (.bool s.told) := cellAt hd 4
  have c5 : w.cell? ⟨d, 5, none⟩ = some (.slice (lA g) s.plan.length cap) := cellAt hd 5
  have f0 : w.frozen? ⟨d, 0, none⟩ = false := freeAt hd 0
  have f1 : w.frozen? ⟨d, 1, none⟩ = false := freeAt hd 1
  have f2 : w.frozen? ⟨d, 2, none⟩ = false := freeAt hd 2
  have f3 : w.frozen? ⟨d, 3, none⟩ = false := freeAt hd 3
  have f4 : w.frozen? ⟨d, 4, none⟩ = false := freeAt hd 4
  have f5 : w.frozen? ⟨d, 5, none⟩ = false := freeAt hd 5
  have hdl := ltOf hd
  rcases q with _ | ⟨qa, qb⟩
  · simp only [qP] at c0
    simp only [RReq] at hq
    have hO : s.mayE = 12 := by simp [SH.mayE, hq]
    have hD : s.next = s := by simp [SH.next, hq]
    have hV : stepV s = .tuple #[.agg #[.int .i64 0, .bool false, .bool false], .int .i64 12] := by simp [stepV, SH.step, hO, hq]
    rw [hD, hV]
    clear hD hq hV
    go_enter Try.func33, Try.ntmps33
    go_wp2_with (go_at_call 82; refine (rhot_may d _ g cap s _ (by exact h2.same rfl)).mono ?_; rw [hO]; rintro e w' ⟨rfl, k1, rfl⟩)
    refine bodyPost_ret_by (v := .tuple #[.agg #[.int .i64 0, .bool false, .bool false], .int .i64 12]) ?_ rfl ?_
    · rw [results_cell_tmp rfl]; go_simp
    · have m3 : ∀ u1 u2 u3 : Value, Mod [] w ((((((w.alloc (Obj.cells #[.int .i64 0, .bool false, .bool false] 64)).drewN k1).setCell ⟨w.heap.size, 0, none⟩ u1).setCell ⟨w.heap.size, 1, none⟩ u2).setCell ⟨w.heap.size, 2, none⟩ u3)) := fun _ _ _ => (((((Mod.refl _ _).alloc _).drewN _).setCell (by simp) _).setCell (by simp) _).setCell (by simp) _
      exact ⟨none, g, cap, rfl, (m3 _ _ _).mono (by simp), h'.keep (m3 _ _ _) (by simp), fun k hk => .inl hk⟩
  · obtain ⟨r, hr, hx⟩ := hq
    simp only [qP] at c0
    have hqd : qa ≠ d ∧ qb ≠ d := by simp [qF] at nq; omega
    have hx2 := hx.keep ((Mod.refl [] w).alloc (Obj.cells #[.int .i64 0, .bool false, .bool false] 64)) (by simp) (by simp)
    have hql := hl qa (by simp [qF])
    have hM : s.mayE = if r.over then 6 else 0 := by simp [SH.mayE, hr]
    cases ho : r.over
    · rw [ho] at hM
      have hO : s.mayE = 0 := hM
      cases hb : r.back
      · cases ht : s.told
        · by_cases hm : r.k ∈ s.plan
          · have hF : s.failsNow r = true := by simp [SH.failsNow, hb, ht, hm]
            have hm' := decide_eq_true hm
            have hD : s.next = { s with run := some r.fail, told := true, plan := s.plan.erase r.k } := by simp [SH.next, hr, ho, hF]
            have hV : stepV s = .tuple #[.agg #[.int .i64 r.k, .bool r.back, .bool true], .int .i64 0] := by simp [stepV, SH.step, hO, hr, ho, hF]
            have hE : r.failE = 0 := by simp [SRun.failE, hb, ho]
            rw [hD] at hok
            rw [hD, hV]
            have HO := Lib.hid hO
            have hW := Lib.hid (without_erase hnd r.k)
            clear hD hV hF hM hO
            have hqbl := hl qb (by simp [qF])
            go_enter Try.func33, Try.ntmps33
            go_wp2_with (first | (go_at_call 82; refine (rhot_may d _ g cap s _ (by exact h2.same rfl)).mono ?_; rw [HO.out]; rintro e w' ⟨rfl, k1, rfl⟩) | (go_at_call 83; refine (rAt_any qa qb r _ (by exact hx2.same rfl)).mono ?_; rintro e w' ⟨rfl, k2, rfl⟩) | (go_at_call 80; refine (has_any g cap s.plan _ _ (by exact (hp.keep (((Mod.refl [] w).alloc _).drewN _ |>.alloc _) (by simp)).same rfl)).mono ?_; rintro e w' ⟨rfl, k3, rfl⟩) | (go_at_call 84; refine (without_any g cap s.plan _ _ (by exact (hp.keep (((Mod.refl [] w).alloc _).drewN _ |>.alloc _) (by simp)).same rfl) (by omega)).mono ?_; rintro e w2 ⟨g2, cap2, rfl, hL2, m2, hg2⟩; have hd2 := m2.keep (w := World.drewN _ _) (heapOld (w := World.drewN _ _) (heapOld hd)) (by simp); have e1 := freeAt hd2 4; have e2 := freeAt hd2 5; have e3 := ltOf hd2; have e4 : w2.cell? ⟨d, 0, none⟩ = _ := cellAt hd2 0; have e5 : w2.cell? ⟨d, 5, none⟩ = _ := cellAt hd2 5; simp only [List.getElem?_toArray, List.getElem?_cons_zero, List.getElem?_cons_succ, qP] at e4 e5; have mw2 := ((((((Mod.refl [] w).alloc (Obj.cells #[.int .i64 0, .bool false, .bool false] 64)).drewN (k1 + k2)).alloc (Obj.cells #[.int .i64 r.k, .bool false, .bool false] 64)).drewN k3).trans m2 (by simp)); have hz1 := m2.keep (k := w.heap.size) (w := World.drewN _ _) (heapOld (w := World.drewN _ _) (heapNew w _)) (by simp); have hz2 := m2.keep (k := w.heap.size + 1) (w := World.drewN _ _) (heapNew' (by simp)) (by simp); have hx3 := fun u => hx.keep (mw2.mono (T := [d]) (by simp) |>.setCell (p := ⟨d, 5, none⟩) (by simp) u) (by simp; omega) (by simp; omega); have H2 := Lib.hid (And.intro hL2 hg2); clear m2 hL2 hg2))
            have hxx := hx3 (Value.slice (lA g2) (without s.plan r.k).length cap2)
            clear c0 c1 c2 c3 c4 c5 f0 f1 f2 f3 f4 f5
            go_wp2_with (go_at_call 85; refine (rFail_any qa qb r _ hxx).mono ?_; rw [hE]; rintro e w3 ⟨rfl, m3, x3⟩; have hd3 := m3.keep (heapSet hd2 5 _) (by simp; omega); have hz3 := m3.keep ((heapSetNe (by omega)).trans hz1) (by simp; omega); have hz4 := m3.keep ((heapSetNe (by omega)).trans hz2) (by simp; omega); have q1 := freeAt hd3 4; have q2 := ltOf hd3; have q3 := cellAt hd3 4; have q4 := freeAt hz3 0; have q5 := freeAt hz3 1; have q6 := freeAt hz3 2; have q7 := cellAt hz3 0; have q8 := cellAt hz3 1; have q9 := cellAt hz3 2; have r1 := freeAt hz4 2; have r2 := cellAt hz4 0; have r3 := cellAt hz4 1; have r4 := cellAt hz4 2; have r5 := ltOf hz4; simp at q3 q7 q8 q9 r2 r3 r4)
            refine bodyPost_ret_by (v := .tuple #[.agg #[.int .i64 r.k, .bool false, .bool true], .int .i64 0]) ?_ rfl ?_
            · rw [results_cell_tmp rfl]; go_simp
            · rw [hb]
              obtain ⟨hL2, hg2⟩ := H2.out
              rw [hW.out] at hL2 hd3 m3
              have hgge : ∀ b, b ∈ lF g2 → w.heap.size + 2 ≤ b := fun b hb => by have := hg2 b hb; simp at this; omega
              have m5 : Mod [d] w2 (w2.setCell ⟨d, 5, none⟩ (Value.slice (lA g2) (s.plan.erase r.k).length cap2)) := (Mod.refl _ _).setCell (by simp) _
              have M3 := ((mw2.mono (T := [d, qa, qb]) (by simp)).setCell (p := ⟨d, 5, none⟩) (by simp) (Value.slice (lA g2) (s.plan.erase r.k).length cap2)).trans m3 (by simp)
              have M4 : ∀ u0 u1 u2 u3 u4, Mod [d, w.heap.size, w.heap.size + 1] w3 (((((w3.setCell ⟨w.heap.size + 1, 2, none⟩ u0).setCell ⟨d, 4, none⟩ u1).setCell ⟨w.heap.size, 0, none⟩ u2).setCell ⟨w.heap.size, 1, none⟩ u3).setCell ⟨w.heap.size, 2, none⟩ u4) := fun _ _ _ _ _ => (((((Mod.refl _ _).setCell (by simp) _).setCell (by simp) _).setCell (by simp) _).setCell (by simp) _).setCell (by simp) _
              refine ⟨some (qa, qb), g2, cap2, rfl, (M3.trans (M4 _ _ _ _ _) (by simp)).mono (by simp [qF]), ⟨?_, ⟨_, rfl, x3.keep (M4 _ _ _ _ _) (by simp; omega) (by simp; omega)⟩, ((hL2.keep m5 (fun b hb => by have := hgge b hb; simp; omega)).keep m3 (fun b hb => by have := hgge b hb; simp; omega)).keep (M4 _ _ _ _ _) (fun b hb => by have := hgge b hb; simp; omega), nq, fun hb => by have := hgge _ hb; omega, fun b hb => by have := hgge b hb; simp [qF]; omega, hok⟩, ?_⟩
              · rw [heapSetNe (by omega), heapSetNe (by omega), heapSetNe (by omega)]
                exact (heapSet ((heapSetNe (by omega)).trans hd3) 4 _).trans (by simp)
              · intro b hb
                simp only [List.mem_append] at hb ⊢
                rcases hb with hb | hb
                · exact .inl (.inl hb)
                · exact .inr (by have := hgge b hb; omega)
          · have hF : s.failsNow r = false := by simp [SH.failsNow, hb, ht, hm]
            have hm' := decide_eq_false hm
            have hD : s.next = { s with told := true } := by simp [SH.next, hr, ho, hF]
            have hV : stepV s = .tuple #[.agg #[.int .i64 r.k, .bool r.back, .bool false], .int .i64 0] := by simp [stepV, SH.step, hO, hr, ho, hF]
            rw [hD] at hok
            rw [hD, hV]
            have HO := Lib.hid hO
            have hr2 := Lib.hid hr
            clear hD hV hF hM hO hr
            go_enter Try.func33, Try.ntmps33
            go_wp2_with (first | (go_at_call 82; refine (rhot_may d _ g cap s _ (by exact h2.same rfl)).mono ?_; rw [HO.out]; rintro e w' ⟨rfl, k1, rfl⟩) | (go_at_call 83; refine (rAt_any qa qb r _ (by exact hx2.same rfl)).mono ?_; rintro e w' ⟨rfl, k2, rfl⟩) | (go_at_call 80; refine (has_any g cap s.plan _ _ (by exact (hp.keep (((Mod.refl [] w).alloc _).drewN _ |>.alloc _) (by simp)).same rfl)).mono ?_; rintro e w' ⟨rfl, k3, rfl⟩))
            have key : ∀ F, Mod [d, w.heap.size] w F → F.heap[d]? = some (.cells #[.pointer (qP (some (qa, qb))), .bool s.up, .int .i64 s.cpu, .int .i64 s.by_, .bool true, .slice (lA g) s.plan.length cap] 61 (0,0)) → RDeskDo d (some (qa, qb)) g (.tuple #[.agg #[.int .i64 r.k, .bool false, .bool false], .int .i64 0]) { s with told := true } w (.returned (.tuple #[.agg #[.int .i64 r.k, .bool false, .bool false], .int .i64 0])) F := by
              intro F hF hFd
              have hqb := hl qb (by simp [qF])
              have hlp : ∀ k, k ∈ lF g → k < w.heap.size ∧ k ≠ d := fun k hk => ⟨hl k (by simp [hk]), fun e => np (e ▸ hk)⟩
              exact ⟨some (qa, qb), g, cap, rfl, hF.mono (by simp), ⟨hFd, ⟨r, hr2.out, hx.keep hF (by simp; omega) (by simp; omega)⟩, hp.keep hF (fun k hk => by have := hlp k hk; simp; omega), nq, np, nn, hok⟩, fun k hk => .inl hk⟩
            refine bodyPost_ret_by (v := .tuple #[.agg #[.int .i64 r.k, .bool false, .bool false], .int .i64 0]) ?_ rfl ?_
            · rw [results_cell_tmp rfl]; go_simp
            · rw [hb]
              refine key _ ?_ ?_
              · repeat (first | exact Mod.refl _ _ | apply Mod.alloc | apply Mod.drewN | refine Mod.setCell ?_ (by simp) _)
              · rw [heapSetNe (by omega), heapSetNe (by omega), heapSetNe (by omega)]
                refine (heapSet (c := #[.pointer (qP (some (qa, qb))), .bool s.up, .int .i64 s.cpu, .int .i64 s.by_, .bool s.told, .slice (lA g) s.plan.length cap]) (T := 61) ?_ 4 _).trans (by simp)
                have z1 := heapOld (w := (w.alloc (Obj.cells #[.int .i64 0, .bool false, .bool false] 64)).drewN (k1 + k2)) (o := Obj.cells #[.int .i64 r.k, .bool false, .bool false] 64) (heapOld hd)
                exact z1
        · have hF : s.failsNow r = false := by simp [SH.failsNow, hb, ht]
          have hD : s.next = { s with told := true } := by simp [SH.next, hr, ho, hF]
          have hV : stepV s = .tuple #[.agg #[.int .i64 r.k, .bool r.back, .bool false], .int .i64 0] := by simp [stepV, SH.step, hO, hr, ho, hF]
          rw [hD] at hok
          rw [hD, hV]
          have HO := Lib.hid hO
          have hr2 := Lib.hid hr
          clear hD hV hF hM hO hr
          go_enter Try.func33, Try.ntmps33
          go_wp2_with (first | (go_at_call 82; refine (rhot_may d _ g cap s _ (by exact h2.same rfl)).mono ?_; rw [HO.out]; rintro e w' ⟨rfl, k1, rfl⟩) | (go_at_call 83; refine (rAt_any qa qb r _ (by exact hx2.same rfl)).mono ?_; rintro e w' ⟨rfl, k2, rfl⟩) | (go_at_call 80; refine (has_any g cap s.plan _ _ (by exact (hp.keep (((Mod.refl [] w).alloc _).drewN _ |>.alloc _) (by simp)).same rfl)).mono ?_; rintro e w' ⟨rfl, k3, rfl⟩))
          have key : ∀ F, Mod [d, w.heap.size] w F → F.heap[d]? = some (.cells #[.pointer (qP (some (qa, qb))), .bool s.up, .int .i64 s.cpu, .int .i64 s.by_, .bool true, .slice (lA g) s.plan.length cap] 61 (0,0)) → RDeskDo d (some (qa, qb)) g (.tuple #[.agg #[.int .i64 r.k, .bool false, .bool false], .int .i64 0]) { s with told := true } w (.returned (.tuple #[.agg #[.int .i64 r.k, .bool false, .bool false], .int .i64 0])) F := by
            intro F hF hFd
            have hqb := hl qb (by simp [qF])
            have hlp : ∀ k, k ∈ lF g → k < w.heap.size ∧ k ≠ d := fun k hk => ⟨hl k (by simp [hk]), fun e => np (e ▸ hk)⟩
            exact ⟨some (qa, qb), g, cap, rfl, hF.mono (by simp), ⟨hFd, ⟨r, hr2.out, hx.keep hF (by simp; omega) (by simp; omega)⟩, hp.keep hF (fun k hk => by have := hlp k hk; simp; omega), nq, np, nn, hok⟩, fun k hk => .inl hk⟩
          refine bodyPost_ret_by (v := .tuple #[.agg #[.int .i64 r.k, .bool false, .bool false], .int .i64 0]) ?_ rfl ?_
          · rw [results_cell_tmp rfl]; go_simp
          · rw [hb]
            refine key _ ?_ ?_
            · repeat (first | exact Mod.refl _ _ | apply Mod.alloc | apply Mod.drewN | refine Mod.setCell ?_ (by simp) _)
            · refine heapOld ?_
              rw [heapSetNe (by omega), heapSetNe (by omega), heapSetNe (by omega)]
              exact (heapSet (w := (w.alloc _).drewN _) (heapOld hd) 4 _).trans (by simp)
      · have hF : s.failsNow r = false := by simp [SH.failsNow, hb]
        have hD : s.next = { s with told := true } := by simp [SH.next, hr, ho, hF]
        have hV : stepV s = .tuple #[.agg #[.int .i64 r.k, .bool r.back, .bool false], .int .i64 0] := by simp [stepV, SH.step, hO, hr, ho, hF]
        rw [hD] at hok
        rw [hD, hV]
        have HO := Lib.hid hO
        have hr2 := Lib.hid hr
        clear hD hV hF hM hO hr
        go_enter Try.func33, Try.ntmps33
        go_wp2_with (first | (go_at_call 82; refine (rhot_may d _ g cap s _ (by exact h2.same rfl)).mono ?_; rw [HO.out]; rintro e w' ⟨rfl, k1, rfl⟩) | (go_at_call 83; refine (rAt_any qa qb r _ (by exact hx2.same rfl)).mono ?_; rintro e w' ⟨rfl, k2, rfl⟩) | (go_at_call 80; refine (has_any g cap s.plan _ _ (by exact (hp.keep (((Mod.refl [] w).alloc _).drewN _ |>.alloc _) (by simp)).same rfl)).mono ?_; rintro e w' ⟨rfl, k3, rfl⟩))
        have key : ∀ F, Mod [d, w.heap.size] w F → F.heap[d]? = some (.cells #[.pointer (qP (some (qa, qb))), .bool s.up, .int .i64 s.cpu, .int .i64 s.by_, .bool true, .slice (lA g) s.plan.length cap] 61 (0,0)) → RDeskDo d (some (qa, qb)) g (.tuple #[.agg #[.int .i64 r.k, .bool true, .bool false], .int .i64 0]) { s with told := true } w (.returned (.tuple #[.agg #[.int .i64 r.k, .bool true, .bool false], .int .i64 0])) F := by
          intro F hF hFd
          have hqb := hl qb (by simp [qF])
          have hlp : ∀ k, k ∈ lF g → k < w.heap.size ∧ k ≠ d := fun k hk => ⟨hl k (by simp [hk]), fun e => np (e ▸ hk)⟩
          exact ⟨some (qa, qb), g, cap, rfl, hF.mono (by simp), ⟨hFd, ⟨r, hr2.out, hx.keep hF (by simp; omega) (by simp; omega)⟩, hp.keep hF (fun k hk => by have := hlp k hk; simp; omega), nq, np, nn, hok⟩, fun k hk => .inl hk⟩
        refine bodyPost_ret_by (v := .tuple #[.agg #[.int .i64 r.k, .bool true, .bool false], .int .i64 0]) ?_ rfl ?_
        · rw [results_cell_tmp rfl]; go_simp
        · rw [hb]
          refine key _ ?_ ?_
          · repeat (first | exact Mod.refl _ _ | apply Mod.alloc | apply Mod.drewN | refine Mod.setCell ?_ (by simp) _)
          · refine heapOld ?_
            rw [heapSetNe (by omega), heapSetNe (by omega), heapSetNe (by omega)]
            exact (heapSet (w := (w.alloc _).drewN _) (heapOld hd) 4 _).trans (by simp)
    · have hO : s.mayE = 6 := by rw [hM, ho]; rfl
      have hD : s.next = s := by simp [SH.next, hr, ho]
      have hV : stepV s = .tuple #[.agg #[.int .i64 0, .bool false, .bool false], .int .i64 6] := by simp [stepV, SH.step, hO, hr, ho]
      rw [hD, hV]
      clear hD hr hV hM
      go_enter Try.func33, Try.ntmps33
      go_wp2_with (go_at_call 82; refine (rhot_may d _ g cap s _ (by exact h2.same rfl)).mono ?_; rw [hO]; rintro e w' ⟨rfl, k1, rfl⟩)
      refine bodyPost_ret_by (v := .tuple #[.agg #[.int .i64 0, .bool false, .bool false], .int .i64 6]) ?_ rfl ?_
      · rw [results_cell_tmp rfl]; go_simp
      · have m3 : ∀ u1 u2 u3 : Value, Mod [] w ((((((w.alloc (Obj.cells #[.int .i64 0, .bool false, .bool false] 64)).drewN k1).setCell ⟨w.heap.size, 0, none⟩ u1).setCell ⟨w.heap.size, 1, none⟩ u2).setCell ⟨w.heap.size, 2, none⟩ u3)) := fun _ _ _ => (((((Mod.refl _ _).alloc _).drewN _).setCell (by simp) _).setCell (by simp) _).setCell (by simp) _
        exact ⟨some (qa, qb), g, cap, rfl, (m3 _ _ _).mono (by simp), h'.keep (m3 _ _ _) (by simp), fun k hk => .inl hk⟩
end Go.Proofs.Ytbelcmiljjndaaa
