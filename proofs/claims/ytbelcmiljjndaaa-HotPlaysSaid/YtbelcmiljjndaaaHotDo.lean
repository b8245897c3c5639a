/- The walks over package hot's methods that turn a desk: Begin, Next, Done, End; and a desk that is not there. -/
import Derived.Test.YtbelcmiljjndaaaHot
namespace Go.Proofs.Ytbelcmiljjndaaa
set_option linter.unusedVariables false
set_option linter.unusedSimpArgs false
open Go.RowKit

theorem heapNew' {u : World} {n : Nat} {o : Obj} (h : u.heap.size = n) : (u.alloc o).heap[n]? = some o := h ▸ heapNew u o



set_option maxRecDepth 100000 in
set_option maxHeartbeats 400000 in
theorem hot_Begin (d : Nat) (q : Option (Nat × Nat)) (pm : Option Nat) (s : SH) (up : Bool) (cpu by_ : Int) (w : World) (h : DeskAt w d q pm s) : Calls Try.prog 13 #[.pointer (some ⟨d, 0, none⟩), .bool up, .int .i64 cpu, .int .i64 by_] w (DeskDo d q pm (.int .i64 (s.beginE cpu by_)) (s.begin_ up cpu by_) w) := by
  have hok := SH.begin_ok h.ok up cpu by_
  have h' := h
  obtain ⟨hd, hq, hp, nq, np, nn, ok⟩ := h
  have c0 : w.cell? ⟨d, 0, none⟩ = some (.pointer (qP q)) := cellAt hd 0
  have c1 : w.cell? ⟨d, 1, none⟩ = some (.map pm) := cellAt hd 1
  have f0 : w.frozen? ⟨d, 0, none⟩ = false := freeAt hd 0
  have f1 : w.frozen? ⟨d, 1, none⟩ = false := freeAt hd 1
  rcases q with _ | ⟨qa, qb⟩
  · simp only [qP] at c0
    simp only [ReqAt] at hq
    by_cases e1 : isCore cpu
    · by_cases e2 : isCore by_
      · by_cases e3 : cpu = by_
        · have hE : s.beginE cpu by_ = 2 := by simp [SH.beginE, hq, e1, e2, e3]
          have hS : s.begin_ up cpu by_ = s := by simp [SH.begin_, hE]
          rw [hE, hS]
          have e3' : (cpu == by_) = true := by simpa using e3
          have hC1 := decide_eq_true e1
          have hC2 := decide_eq_true e2
          clear hE hS e1 e2 e3 hq
          go_enter Try.func13, Try.ntmps13
          go_wp2_with (go_at_call 63; refine (hot_core _ _).mono ?_; rintro e w' ⟨rfl, k1, rfl⟩)
          go_ret
          exact ⟨none, pm, rfl, (Mod.refl _ _).drewN _, h'.same rfl, fun k hk => .inl hk⟩
        · have hE : s.beginE cpu by_ = 0 := by simp [SH.beginE, hq, e1, e2, e3]
          have hS : s.begin_ up cpu by_ = { s with run := some ⟨if up then 4 else 10, 0, false⟩, up := up, cpu := cpu, by_ := by_, told := false } := by simp [SH.begin_, hE]
          rw [hE, hS]
          rw [hS] at hok
          have e3' : (cpu == by_) = false := by simpa using e3
          have hC1 := decide_eq_true e1
          have hC2 := decide_eq_true e2
          clear hE hS e1 e2 e3 hq
          have hl := h'.lt
          cases up
          · simp only [Bool.false_eq_true, if_false, if_true] at hok ⊢
            have hld := hl d (by simp)
            go_enter Try.func13, Try.ntmps13
            go_wp2_with (first | (go_at_call 63; refine (hot_core _ _).mono ?_; rintro e w' ⟨rfl, k1, rfl⟩) | (go_at_call 64; refine (New_ok 10 _ (by omega) (by omega)).mono ?_; rintro e w1 ⟨rfl, m1, hs1, x1⟩; have hd1 := m1.keep (w := w.drewN _) hd (by simp); have ff := freeAt hd1 0; have hd2 := ltOf hd1; have fc : w1.cell? ⟨d, 0, none⟩ = some (.pointer none) := cellAt hd1 0))
            go_ret
            have m1' := m1.undrewN
            have hs2 : w.heap.size < w1.heap.size := hs1
            have hlp : ∀ k, k ∈ pF pm → k < w.heap.size ∧ k ≠ d := fun k hk => ⟨hl k (by simp [hk]), fun e => np (e ▸ hk)⟩
            have m2 : ∀ o v, Mod [d] w1 ((w1.setCell ⟨d, 0, none⟩ v).alloc o) := fun o v => ((Mod.refl _ _).setCell (by simp) _).alloc _
            refine ⟨some (w1.heap.size, w.heap.size), pm, rfl, ?_, ⟨?_, ?_, ?_, ?_, np, ?_, hok⟩, ?_⟩
            · exact ((m1'.mono (by simp)).setCell (by simp) _).alloc _
            · refine heapOld ?_; rw [heapSet hd1]; simp [qP]
            · refine ⟨_, rfl, ?_, ?_, by omega⟩
              · exact heapNew' (sizeSet _ _ _)
              · exact x1.keep (m2 _ _) (by simp; omega)
            · exact (hp.keep m1' (by simp)).keep (m2 _ _) (fun k hk => by simp; exact (hlp k hk).2)
            · simp [qF]; omega
            · intro k hk
              have := hlp k hk
              simp [qF]; omega
            · intro k hk
              simp [qF] at hk ⊢
              rcases hk with rfl | rfl | hk
              · exact .inr (by omega)
              · exact .inr (by omega)
              · exact .inl hk
          · simp only [Bool.false_eq_true, if_false, if_true] at hok ⊢
            have hld := hl d (by simp)
            go_enter Try.func13, Try.ntmps13
            go_wp2_with (first | (go_at_call 63; refine (hot_core _ _).mono ?_; rintro e w' ⟨rfl, k1, rfl⟩) | (go_at_call 64; refine (New_ok 4 _ (by omega) (by omega)).mono ?_; rintro e w1 ⟨rfl, m1, hs1, x1⟩; have hd1 := m1.keep (w := w.drewN _) hd (by simp); have ff := freeAt hd1 0; have hd2 := ltOf hd1; have fc : w1.cell? ⟨d, 0, none⟩ = some (.pointer none) := cellAt hd1 0))
            go_ret
            have m1' := m1.undrewN
            have hs2 : w.heap.size < w1.heap.size := hs1
            have hlp : ∀ k, k ∈ pF pm → k < w.heap.size ∧ k ≠ d := fun k hk => ⟨hl k (by simp [hk]), fun e => np (e ▸ hk)⟩
            have m2 : ∀ o v, Mod [d] w1 ((w1.setCell ⟨d, 0, none⟩ v).alloc o) := fun o v => ((Mod.refl _ _).setCell (by simp) _).alloc _
            refine ⟨some (w1.heap.size, w.heap.size), pm, rfl, ?_, ⟨?_, ?_, ?_, ?_, np, ?_, hok⟩, ?_⟩
            · exact ((m1'.mono (by simp)).setCell (by simp) _).alloc _
            · refine heapOld ?_; rw [heapSet hd1]; simp [qP]
            · refine ⟨_, rfl, ?_, ?_, by omega⟩
              · exact heapNew' (sizeSet _ _ _)
              · exact x1.keep (m2 _ _) (by simp; omega)
            · exact (hp.keep m1' (by simp)).keep (m2 _ _) (fun k hk => by simp; exact (hlp k hk).2)
            · simp [qF]; omega
            · intro k hk
              have := hlp k hk
              simp [qF]; omega
            · intro k hk
              simp [qF] at hk ⊢
              rcases hk with rfl | rfl | hk
              · exact .inr (by omega)
              · exact .inr (by omega)
              · exact .inl hk
      · have hE : s.beginE cpu by_ = 3 := by simp [SH.beginE, hq, e2]
        have hS : s.begin_ up cpu by_ = s := by simp [SH.begin_, hE]
        rw [hE, hS]
        have hC1 := decide_eq_true e1
        have hC2 := decide_eq_false e2
        clear hE hS e1 e2 hq
        go_enter Try.func13, Try.ntmps13
        go_wp2_with (go_at_call 63; refine (hot_core _ _).mono ?_; rintro e w' ⟨rfl, k1, rfl⟩)
        go_ret
        exact ⟨none, pm, rfl, (Mod.refl _ _).drewN _, h'.same rfl, fun k hk => .inl hk⟩
    · have hE : s.beginE cpu by_ = 3 := by simp [SH.beginE, hq, e1]
      have hS : s.begin_ up cpu by_ = s := by simp [SH.begin_, hE]
      rw [hE, hS]
      have hC1 := decide_eq_false e1
      clear hE hS e1 hq
      go_enter Try.func13, Try.ntmps13
      go_wp2_with (go_at_call 63; refine (hot_core _ _).mono ?_; rintro e w' ⟨rfl, k1, rfl⟩)
      go_ret
      exact ⟨none, pm, rfl, (Mod.refl _ _).drewN _, h'.same rfl, fun k hk => .inl hk⟩
  · obtain ⟨r, hr, ha, hx, hab⟩ := hq
    have a0 : w.cell? ⟨qa, 0, none⟩ = some (.pointer (some ⟨qb, 0, none⟩)) := cellAt ha 0
    have a1 : w.cell? ⟨qa, 1, none⟩ = some (.bool s.up) := cellAt ha 1
    have a2 : w.cell? ⟨qa, 2, none⟩ = some (.int .i64 s.cpu) := cellAt ha 2
    have a3 : w.cell? ⟨qa, 3, none⟩ = some (.int .i64 s.by_) := cellAt ha 3
    have a4 : w.cell? ⟨qa, 4, none⟩ = some (.bool s.told) := cellAt ha 4
    have g4 : w.frozen? ⟨qa, 4, none⟩ = false := freeAt ha 4
    simp only [qP] at c0
    have hE : s.beginE cpu by_ = 7 := by simp [SH.beginE, hr]
    have hS : s.begin_ up cpu by_ = s := by simp [SH.begin_, hE]
    rw [hE, hS]
    clear hE hS hr
    go_enter Try.func13, Try.ntmps13
    go_wp2
    go_ret
    exact ⟨some (qa, qb), pm, rfl, Mod.refl _ _, h', fun k hk => .inl hk⟩

theorem erase_self {l : List Int} {k : Int} : (if k ∈ l then l.erase k else l) = l.erase k := by
  by_cases h : k ∈ l
  · simp [h]
  · simp [h, List.erase_of_not_mem h]

theorem plan_lookup {w : World} {pm : Option Nat} {l : List Int} (h : PlanAt w pm l) (k : Int) :
    (Instr.lookup 25 (.map pm) (.int .i64 k) false).run Try.prog w = .ok (.bool (decide (k ∈ l))) w := by
  have hz : ∀ w, (zeroValue 4).run Try.prog w = .ok (.bool false) w := fun w => by kernel_rfl
  cases pm with
  | none =>
    simp only [PlanAt] at h
    rw [map_lookup_nil Try.underlying25 Try.underlying3 k hz w, h]
    simp
  | some b =>
    rw [map_lookup h Try.underlying25 Try.underlying3 k hz, planM_get]

set_option maxRecDepth 100000 in
set_option maxHeartbeats 400000 in
theorem hot_Done (d : Nat) (q : Option (Nat × Nat)) (pm : Option Nat) (s : SH) (w : World) (h : DeskAt w d q pm s) : Calls Try.prog 15 #[.pointer (some ⟨d, 0, none⟩)] w (DeskDo d q pm (.int .i64 s.mayE) s.done w) := by
  have hok := SH.done_ok h.ok
  have h' := h
  have hM := hot_may d q pm s w h
  obtain ⟨hd, hq, hp, nq, np, nn, ok⟩ := h
  have c0 : w.cell? ⟨d, 0, none⟩ = some (.pointer (qP q)) := cellAt hd 0
  have c1 : w.cell? ⟨d, 1, none⟩ = some (.map pm) := cellAt hd 1
  have f0 : w.frozen? ⟨d, 0, none⟩ = false := freeAt hd 0
  have f1 : w.frozen? ⟨d, 1, none⟩ = false := freeAt hd 1
  rcases q with _ | ⟨qa, qb⟩
  · simp only [qP] at c0
    simp only [ReqAt] at hq
    have hO : s.mayE = 12 := by simp [SH.mayE, hq]
    have hD : s.done = s := by simp [SH.done, hq]
    rw [hO] at hM
    rw [hO, hD]
    clear hO hD hq
    go_enter Try.func15, Try.ntmps15
    go_wp2_with (go_at_call 65; refine hM.mono ?_; rintro e w' ⟨rfl, k1, rfl⟩)
    go_ret
    exact ⟨none, pm, rfl, (Mod.refl _ _).drewN _, h'.same rfl, fun k hk => .inl hk⟩
  · obtain ⟨r, hr, ha, hx, hab⟩ := hq
    have a0 : w.cell? ⟨qa, 0, none⟩ = some (.pointer (some ⟨qb, 0, none⟩)) := cellAt ha 0
    have a1 : w.cell? ⟨qa, 1, none⟩ = some (.bool s.up) := cellAt ha 1
    have a2 : w.cell? ⟨qa, 2, none⟩ = some (.int .i64 s.cpu) := cellAt ha 2
    have a3 : w.cell? ⟨qa, 3, none⟩ = some (.int .i64 s.by_) := cellAt ha 3
    have a4 : w.cell? ⟨qa, 4, none⟩ = some (.bool s.told) := cellAt ha 4
    have g4 : w.frozen? ⟨qa, 4, none⟩ = false := freeAt ha 4
    simp only [qP] at c0
    cases ho : r.over
    · have hO : s.mayE = 0 := by simp [SH.mayE, hr, ho]
      have hD : s.done = { s with run := some r.done, told := false } := by simp [SH.done, hr, ho]
      have hE : r.doneE = 0 := by simp [SRun.doneE, ho]
      rw [hO] at hM
      rw [hO, hD]
      rw [hD] at hok
      clear hO hD hr
      have hl := h'.lt
      have hqd : qa ≠ d ∧ qb ≠ d := by simp [qF] at nq; omega
      go_enter Try.func15, Try.ntmps15
      go_wp2_with (first | (go_at_call 65; refine hM.mono ?_; rintro e w' ⟨rfl, k1, rfl⟩) | (go_at_call 68; refine (Done_any qb r _ (by exact hx.keep (w := w) (((Mod.refl [qa] w).drewN _).setCell (by simp) _) (by simp; omega))).mono ?_; rintro e w1 ⟨rfl, m1, x1⟩; rw [hE]))
      go_ret
      have m2 := (((Mod.refl [qa] w).drewN k1).setCell (p := ⟨qa, 4, none⟩) (by simp) (.bool false))
      have hlp : ∀ k, k ∈ pF pm → k ≠ qa ∧ k ≠ qb := fun k hk => by have := nn k hk; simp [qF] at this; omega
      refine ⟨some (qa, qb), pm, rfl, ?_, ⟨?_, ?_, ?_, nq, np, nn, hok⟩, fun k hk => .inl hk⟩
      · exact ((m2.mono (T := [qa, qb]) (by simp)).trans m1 (by simp)).mono (by simp [qF])
      · exact m1.keep (m2.keep hd (by simp; omega)) (by simp; omega)
      · refine ⟨_, rfl, m1.keep ?_ (by simp; omega), x1, hab⟩
        rw [heapSet (w := w.drewN k1) ha 4]; simp
      · exact (hp.keep m2 (fun k hk => by have := hlp k hk; simp; omega)).keep m1 (fun k hk => by have := hlp k hk; simp; omega)
    · have hO : s.mayE = 6 := by simp [SH.mayE, hr, ho]
      have hD : s.done = s := by simp [SH.done, hr, ho]
      rw [hO] at hM
      rw [hO, hD]
      clear hO hD hr
      go_enter Try.func15, Try.ntmps15
      go_wp2_with (go_at_call 65; refine hM.mono ?_; rintro e w' ⟨rfl, k1, rfl⟩)
      go_ret
      exact ⟨some (qa, qb), pm, rfl, (Mod.refl _ _).drewN _, h'.same rfl, fun k hk => .inl hk⟩

set_option maxRecDepth 100000 in
set_option maxHeartbeats 400000 in
theorem hot_End (d : Nat) (q : Option (Nat × Nat)) (pm : Option Nat) (s : SH) (w : World) (h : DeskAt w d q pm s) : Calls Try.prog 16 #[.pointer (some ⟨d, 0, none⟩)] w (DeskDo d q pm (.tuple #[.int .i64 s.endV, .int .i64 s.endE]) s.end_ w) := by
  have hok := SH.end_ok h.ok
  have h' := h
  have hM := hot_Over d q pm s w h
  obtain ⟨hd, hq, hp, nq, np, nn, ok⟩ := h
  have c0 : w.cell? ⟨d, 0, none⟩ = some (.pointer (qP q)) := cellAt hd 0
  have c1 : w.cell? ⟨d, 1, none⟩ = some (.map pm) := cellAt hd 1
  have f0 : w.frozen? ⟨d, 0, none⟩ = false := freeAt hd 0
  have f1 : w.frozen? ⟨d, 1, none⟩ = false := freeAt hd 1
  rcases q with _ | ⟨qa, qb⟩
  · simp only [qP] at c0
    simp only [ReqAt] at hq
    have hO : s.endE = 12 := by simp [SH.endE, hq]
    have hV : s.endV = 0 := by simp [SH.endV, hq]
    have hD : s.end_ = s := by simp [SH.end_, hq]
    rw [hO, hD, hV]
    clear hO hD hq hV
    go_enter Try.func16, Try.ntmps16
    go_wp2
    go_ret2
    exact ⟨none, pm, rfl, (Mod.refl _ _), h'.same rfl, fun k hk => .inl hk⟩
  · obtain ⟨r, hr, ha, hx, hab⟩ := hq
    have a0 : w.cell? ⟨qa, 0, none⟩ = some (.pointer (some ⟨qb, 0, none⟩)) := cellAt ha 0
    have a1 : w.cell? ⟨qa, 1, none⟩ = some (.bool s.up) := cellAt ha 1
    have a2 : w.cell? ⟨qa, 2, none⟩ = some (.int .i64 s.cpu) := cellAt ha 2
    have a3 : w.cell? ⟨qa, 3, none⟩ = some (.int .i64 s.by_) := cellAt ha 3
    have a4 : w.cell? ⟨qa, 4, none⟩ = some (.bool s.told) := cellAt ha 4
    have g4 : w.frozen? ⟨qa, 4, none⟩ = false := freeAt ha 4
    simp only [qP] at c0
    have hOv : s.over = r.over := by simp [SH.over, hr]
    rw [hOv] at hM
    clear hOv
    cases ho : r.over
    · have hO : s.endE = 6 := by simp [SH.endE, hr, ho]
      have hV : s.endV = 0 := by simp [SH.endV, hr, ho]
      have hD : s.end_ = s := by simp [SH.end_, hr, ho]
      rw [ho] at hM
      rw [hO, hD, hV]
      clear hO hD hr hV
      go_enter Try.func16, Try.ntmps16
      go_wp2_with (go_at_call 40; refine hM.mono ?_; rintro e w' ⟨rfl, k1, rfl⟩)
      go_ret2
      exact ⟨some (qa, qb), pm, rfl, (Mod.refl _ _).drewN _, h'.same rfl, fun k hk => .inl hk⟩
    · have hO : s.endE = 0 := by simp [SH.endE, hr, ho]
      have hV : s.endV = r.why := by simp [SH.endV, hr, ho]
      have hD : s.end_ = { s with run := none, up := false, cpu := 0, by_ := 0, told := s.told } := by simp [SH.end_, hr, ho]
      rw [ho] at hM
      rw [hO, hD, hV]
      rw [hD] at hok
      clear hO hD hr hV
      go_enter Try.func16, Try.ntmps16
      go_wp2_with (first | (go_at_call 40; refine hM.mono ?_; rintro e w' ⟨rfl, k1, rfl⟩) | (go_at_call 69; refine (Why_any qb r _ (by exact hx.same rfl)).mono ?_; rintro e w' ⟨rfl, k2, rfl⟩))
      go_ret2
      have m2 := (((Mod.refl [d] w).drewN (k1 + k2)).setCell (p := ⟨d, 0, none⟩) (by simp) (.pointer none))
      refine ⟨none, pm, rfl, m2.mono (by simp), ⟨?_, rfl, ?_, by simp [qF], np, by simp [qF], hok⟩, fun k hk => .inl (by simp [qF] at hk ⊢; exact .inr (.inr hk))⟩
      · rw [heapSet (w := w.drewN _) hd 0]; simp [qP]
      · exact hp.keep m2 (fun k hk => by simp; rintro rfl; exact np hk)

end Go.Proofs.Ytbelcmiljjndaaa
