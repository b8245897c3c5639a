/- The walks over davitref22: what each method returns and writes, in the same words as package hot's. -/
import Derived.Test.YtbelcmiljjndaaaHotNext
import Derived.Test.YtbelcmiljjndaaaStageRef
import Derived.Test.YtbelcmiljjndaaaHas
namespace Go.Proofs.Ytbelcmiljjndaaa
set_option linter.unusedVariables false
set_option linter.unusedSimpArgs false
open Go.RowKit

theorem nodup_bound : ∀ (n : Nat) (l : List Int), l.Nodup → (∀ i, i ∈ l → 0 ≤ i ∧ i < n) → l.length ≤ n
  | 0, l, hn, h => by
    cases l with
    | nil => simp
    | cons a l => have := h a (by simp); omega
  | n + 1, l, hn, h => by
    have := nodup_bound n (l.erase n) (hn.erase _) (fun i hi => by
      have h1 := h i (List.mem_of_mem_erase hi)
      have h2 := (List.Nodup.mem_erase_iff hn).1 hi
      have := h2.1
      omega)
    rw [List.length_erase] at this
    split at this <;> omega
theorem SH.plan_len {s : SH} (h : s.ok) : s.plan.length ≤ 10 := nodup_bound 10 _ h.nd h.rg
theorem without_erase {l : List Int} (h : l.Nodup) (k : Int) : without l k = l.erase k := by
  rw [List.Nodup.erase_eq_filter h]
  unfold without
  apply List.filter_congr
  intro x _
  by_cases e : x = k <;> simp [e]

def RReq (w : World) : Option (Nat × Nat) → SH → Prop
  | none, s => s.run = none
  | some (a, b), s => ∃ r, s.run = some r ∧ RRun w a b r
structure RDeskAt (w : World) (d : Nat) (q : Option (Nat × Nat)) (g : Option Nat) (cap : Nat) (s : SH) : Prop where
  hd : w.heap[d]? = some (.cells #[.pointer (qP q), .bool s.up, .int .i64 s.cpu, .int .i64 s.by_, .bool s.told, .slice (lA g) s.plan.length cap] 61 (0,0))
  hq : RReq w q s
  hp : LAt w g cap s.plan
  nq : d ∉ qF q
  np : d ∉ lF g
  nn : ∀ k, k ∈ lF g → k ∉ qF q
  ok : s.ok
theorem RRun.same {w w' : World} {b r : Nat} {s : SRun} (h : RRun w b r s) (e : w'.heap = w.heap) : RRun w' b r s := ⟨by rw [e]; exact h.1, by rw [e]; exact h.2.1, h.2.2⟩
theorem RReq.keep {S : List Nat} {w w' : World} {q : Option (Nat × Nat)} {s : SH} (h : RReq w q s) (m : Mod S w w') (hS : ∀ k, k ∈ qF q → k ∉ S) : RReq w' q s := by
  rcases q with _ | ⟨a, b⟩
  · exact h
  · obtain ⟨r, h1, h2⟩ := h
    exact ⟨r, h1, h2.keep m (hS _ (by simp [qF])) (hS _ (by simp [qF]))⟩
theorem RReq.plan {w : World} {q : Option (Nat × Nat)} {s : SH} (h : RReq w q s) (l : List Int) : RReq w q { s with plan := l } := by rcases q with _ | ⟨a, b⟩ <;> exact h
theorem RDeskAt.keep {S : List Nat} {w w' : World} {d : Nat} {q : Option (Nat × Nat)} {g : Option Nat} {cap : Nat} {s : SH} (h : RDeskAt w d q g cap s) (m : Mod S w w') (hS : ∀ k, k ∈ d :: (qF q ++ lF g) → k ∉ S) : RDeskAt w' d q g cap s :=
  ⟨m.keep h.hd (hS _ (by simp)), h.hq.keep m (fun k hk => hS _ (by simp [hk])), h.hp.keep m (fun k hk => hS _ (by simp [hk])), h.nq, h.np, h.nn, h.ok⟩
theorem RDeskAt.same {w w' : World} {d : Nat} {q : Option (Nat × Nat)} {g : Option Nat} {cap : Nat} {s : SH} (h : RDeskAt w d q g cap s) (e : w'.heap = w.heap) : RDeskAt w' d q g cap s := by
  refine ⟨by rw [e]; exact h.hd, ?_, h.hp.same e, h.nq, h.np, h.nn, h.ok⟩
  rcases q with _ | ⟨a, b⟩
  · exact h.hq
  · obtain ⟨r, h1, h2⟩ := h.hq
    exact ⟨r, h1, h2.same e⟩
theorem RDeskAt.lt {w : World} {d : Nat} {q : Option (Nat × Nat)} {g : Option Nat} {cap : Nat} {s : SH} (h : RDeskAt w d q g cap s) : ∀ k, k ∈ d :: (qF q ++ lF g) → k < w.heap.size := by
  intro k hk
  simp only [List.mem_cons, List.mem_append] at hk
  rcases hk with rfl | hk | hk
  · exact ltOf h.hd
  · rcases q with _ | ⟨a, b⟩
    · simp [qF] at hk
    · obtain ⟨r, h1, h2⟩ := h.hq
      simp [qF] at hk
      rcases hk with rfl | rfl
      · exact ltOf h2.1
      · exact ltOf h2.2.1
  · exact h.hp.lt k hk

/-- A call that turned a desk: what it returned, and that the desk has no one else's blocks. -/
def RDeskDo (d : Nat) (q : Option (Nat × Nat)) (g : Option Nat) (v : Value) (s' : SH) (w : World) (e : Ending) (w' : World) : Prop :=
  ∃ q' g' cap', e = .returned v ∧ Mod (d :: (qF q ++ lF g)) w w' ∧ RDeskAt w' d q' g' cap' s' ∧ ∀ k, k ∈ qF q' ++ lF g' → k ∈ qF q ++ lF g ∨ w.heap.size ≤ k


theorem rhot_Over (d : Nat) (q : Option (Nat × Nat)) (g : Option Nat) (cap : Nat) (s : SH) (w : World) (h : RDeskAt w d q g cap s) : Calls Try.prog 41 #[.pointer (some ⟨d, 0, none⟩)] w (Ret (.bool s.over) w) := by
  obtain ⟨hd, hq, hp, nq, np, nn, ok⟩ := h
  have c0 : w.cell? ⟨d, 0, none⟩ = some (.pointer (qP q)) := cellAt hd 0
  have c1 : w.cell? ⟨d, 1, none⟩ = some (.bool s.up) := cellAt hd 1
  have c2 : w.cell? ⟨d, 2, none⟩ = some (.int .i64 s.cpu) := cellAt hd 2
  have c3 : w.cell? ⟨d, 3, none⟩ = some (.int .i64 s.by_) := cellAt hd 3
  have c4 : w.cell? ⟨d, 4, none⟩ = some (.bool s.told) := cellAt hd 4
  have c5 : w.cell? ⟨d, 5, none⟩ = some (.slice (lA g) s.plan.length cap) := cellAt hd 5
  have f0 : w.frozen? ⟨d, 0, none⟩ = false := freeAt hd 0
  have f1 : w.frozen? ⟨d, 1, none⟩ = false := freeAt hd 1
  have f2 : w.frozen? ⟨d, 2, none⟩ = false := freeAt hd 2
  have f3 : w.frozen? ⟨d, 3, none⟩ = false := freeAt hd 3
  have f4 : w.frozen? ⟨d, 4, none⟩ = false := freeAt hd 4
  have f5 : w.frozen? ⟨d, 5, none⟩ = false := freeAt hd 5
  rcases q with _ | ⟨qa, qb⟩
  · simp only [qP] at c0
    simp only [RReq] at hq
    have hO : s.over = false := by simp [SH.over, hq]
    rw [hO]
    clear hq hO
    go_enter Try.func41, Try.ntmps41
    go_wp2
    go_ret
    exact Ret.of (rfl) (by repeat (first | exact Drew.refl _ | apply Drew.drewN | apply Drew.drew))
  · obtain ⟨r, hr, hx⟩ := hq
    simp only [qP] at c0
    have hO : s.over = r.over := by simp [SH.over, hr]
    rw [hO]
    clear hr hO
    go_enter Try.func41, Try.ntmps41
    go_wp2_with (go_at_call 83; refine (rAt_any qa qb r _ (by exact hx.same rfl)).mono ?_; rintro e w' ⟨rfl, k2, rfl⟩)
    go_ret
    exact Ret.of (rfl) (by repeat (first | exact Drew.refl _ | apply Drew.drewN | apply Drew.drew))

theorem rhot_may (d : Nat) (q : Option (Nat × Nat)) (g : Option Nat) (cap : Nat) (s : SH) (w : World) (h : RDeskAt w d q g cap s) : Calls Try.prog 82 #[.pointer (some ⟨d, 0, none⟩)] w (Ret (.int .i64 s.mayE) w) := by
  have hB := rhot_Over d q g cap s w h
  obtain ⟨hd, hq, hp, nq, np, nn, ok⟩ := h
  have c0 : w.cell? ⟨d, 0, none⟩ = some (.pointer (qP q)) := cellAt hd 0
  have c1 : w.cell? ⟨d, 1, none⟩ = some (.bool s.up) := cellAt hd 1
  have c2 : w.cell? ⟨d, 2, none⟩ = some (.int .i64 s.cpu) := cellAt hd 2
  have c3 : w.cell? ⟨d, 3, none⟩ = some (.int .i64 s.by_) := cellAt hd 3
  have c4 : w.cell? ⟨d, 4, none⟩ = some (.bool s.told) := cellAt hd 4
  have c5 : w.cell? ⟨d, 5, none⟩ = some (.slice (lA g) s.plan.length cap) := cellAt hd 5
  have f0 : w.frozen? ⟨d, 0, none⟩ = false := freeAt hd 0
  have f1 : w.frozen? ⟨d, 1, none⟩ = false := freeAt hd 1
  have f2 : w.frozen? ⟨d, 2, none⟩ = false := freeAt hd 2
  have f3 : w.frozen? ⟨d, 3, none⟩ = false := freeAt hd 3
  have f4 : w.frozen? ⟨d, 4, none⟩ = false := freeAt hd 4
  have f5 : w.frozen? ⟨d, 5, none⟩ = false := freeAt hd 5
  rcases q with _ | ⟨qa, qb⟩
  · simp only [qP] at c0
    simp only [RReq] at hq
    have hO : s.mayE = 12 := by simp [SH.mayE, hq]
    rw [hO]
    clear hq hO
    go_enter Try.func82, Try.ntmps82
    go_wp2
    go_ret
    exact Ret.of (rfl) (by repeat (first | exact Drew.refl _ | apply Drew.drewN | apply Drew.drew))
  · obtain ⟨r, hr, hx⟩ := hq
    simp only [qP] at c0
    have hO : s.over = r.over := by simp [SH.over, hr]
    have hM : s.mayE = if r.over then 6 else 0 := by simp [SH.mayE, hr]
    rw [hO] at hB
    rw [hM]
    clear hr hO hM
    cases ho : r.over
    all_goals
      rw [ho] at hB
      go_enter Try.func82, Try.ntmps82
      go_wp2_with (go_at_call 41; refine hB.mono ?_; rintro e w' ⟨rfl, k, rfl⟩)
      go_ret
      exact Ret.of (rfl) (by repeat (first | exact Drew.refl _ | apply Drew.drewN | apply Drew.drew))

set_option maxRecDepth 100000 in
theorem rhot_Fails (d : Nat) (q : Option (Nat × Nat)) (g : Option Nat) (cap : Nat) (s : SH) (k : Int) (w : World) (h : RDeskAt w d q g cap s) : Calls Try.prog 31 #[.pointer (some ⟨d, 0, none⟩), .int .i64 k] w (RDeskDo d q g (.int .i64 (planE k)) (s.doPlan k) w) := by
  have hok := SH.doPlan_ok h.ok k
  have h' := h
  have hl := h.lt
  have hpl := SH.plan_len h.ok
  obtain ⟨hd, hq, hp, nq, np, nn, ok⟩ := h
  have c0 : w.cell? ⟨d, 0, none⟩ = some (.pointer (qP q)) := cellAt hd 0
  have c1 : w.cell? ⟨d, 1, none⟩ = some (.bool s.up) := cellAt hd 1
  have c2 : w.cell? ⟨d, 2, none⟩ = some (.int .i64 s.cpu) := cellAt hd 2
  have c3 : w.cell? ⟨d, 3, none⟩ = some (.int .i64 s.by_) := cellAt hd 3
  have c4 : w.cell? ⟨d, 4, none⟩ = some (.bool s.told) := cellAt hd 4
  have c5 : w.cell? ⟨d, 5, none⟩ = some (.slice (lA g) s.plan.length cap) := cellAt hd 5
  have f0 : w.frozen? ⟨d, 0, none⟩ = false := freeAt hd 0
  have f1 : w.frozen? ⟨d, 1, none⟩ = false := freeAt hd 1
  have f2 : w.frozen? ⟨d, 2, none⟩ = false := freeAt hd 2
  have f3 : w.frozen? ⟨d, 3, none⟩ = false := freeAt hd 3
  have f4 : w.frozen? ⟨d, 4, none⟩ = false := freeAt hd 4
  have f5 : w.frozen? ⟨d, 5, none⟩ = false := freeAt hd 5
  by_cases hk : 0 ≤ k ∧ k < 10
  · obtain ⟨hk1, hk2⟩ := hk
    have hE : planE k = 0 := if_pos ⟨hk1, hk2⟩
    rw [hE]
    clear hE
    by_cases hm : k ∈ s.plan
    · have hD : s.doPlan k = s := by simp [SH.doPlan, hm]
      rw [hD]
      have hm' := decide_eq_true hm
      clear hD hm
      go_enter Try.func31, Try.ntmps31
      go_wp2_with (go_at_call 80; refine (has_any g cap s.plan k _ (by exact hp.same rfl)).mono ?_; rintro e w' ⟨rfl, k1, rfl⟩)
      go_ret
      exact ⟨q, g, cap, rfl, (Mod.refl _ _).drewN _, h'.same rfl, fun k hk => .inl hk⟩
    · have hD : s.doPlan k = { s with plan := s.plan ++ [k] } := by simp [SH.doPlan, hk1, hk2, hm]
      rw [hD] at hok ⊢
      have hm' := decide_eq_false hm
      have hld := hl d (by simp)
      clear hD hm
      go_enter Try.func31, Try.ntmps31
      go_wp2_with (first | (go_at_call 80; refine (has_any g cap s.plan k _ (by exact hp.same rfl)).mono ?_; rintro e w' ⟨rfl, k1, rfl⟩; obtain ⟨g2, cap2, w2, hrun, hL2, m2, hg2⟩ := (hp.keep (((Mod.refl [] w).drewN k1).alloc (Obj.cells #[.int .i64 k] 3)) (by simp)).append (by omega) (heapNew _ _); have hd2 := m2.keep (heapOld (w := w.drewN k1) (o := Obj.cells #[.int .i64 k] 3) hd) np; have e2 : w2.frozen? ⟨d, 5, none⟩ = false := freeAt hd2 5; have e3 : w2.cell? ⟨d, 5, none⟩ = _ := cellAt hd2 5; have e4 := ltOf hd2; have H2 := Lib.hid (And.intro hL2 (And.intro m2 hg2)); clear hL2 hg2 m2) | (at_builtin; refine wpList_append_run rfl _ _ _ rfl rfl rfl (hrun _) ?_))
      obtain ⟨hL2, m2, hg2⟩ := H2.out
      go_ret
      have hgs : g2 ∈ lF g ∨ g2 = w.heap.size + 1 := by rw [sizeNew] at hg2; exact hg2
      have mA : Mod (lF g) w w2 := (((Mod.refl _ _).drewN k1).alloc _).trans m2 (fun b hb => .inl hb)
      have m3 : ∀ u, Mod [d] w2 (w2.setCell ⟨d, 5, none⟩ u) := fun _ => (Mod.refl _ _).setCell (by simp) _
      have hgd : g2 ≠ d := by
        rcases hgs with hgs | rfl
        · rintro rfl; exact np hgs
        · omega
      refine ⟨q, some g2, cap2, rfl, (mA.mono (fun k hk => .inl (by simp [hk]))).setCell (by simp) _, ⟨?_, ((hq.keep mA (fun b hb hb2 => nn b hb2 hb)).keep (m3 _) (fun b hb => by simp; rintro rfl; exact nq hb)).plan _, hL2.keep (m3 _) (by simp [lF]; omega), nq, by simp [lF]; omega, ?_, hok⟩, ?_⟩
      · rw [heapSet hd2]; simp [lA]
      · intro b hb hb2
        simp [lF] at hb
        subst hb
        rcases hgs with hgs | rfl
        · exact nn _ hgs hb2
        · have := hl (w.heap.size + 1) (by simp [hb2]); omega
      · intro b hb
        simp [lF] at hb ⊢
        rcases hb with hb | rfl
        · exact .inl (.inl hb)
        · rcases hgs with hgs | rfl
          · exact .inl (.inr hgs)
          · exact .inr (by omega)
  · have hE : planE k = 3 := if_neg hk
    have hD : s.doPlan k = s := by
      unfold SH.doPlan
      rw [if_neg (fun x => hk ⟨x.1, x.2.1⟩)]
    rw [hE, hD]
    clear hE hD
    have hne : k < 0 ∨ (0 ≤ k ∧ 10 ≤ k) := by omega
    rcases hne with h1 | ⟨h1, h2⟩
    all_goals
      go_enter Try.func31, Try.ntmps31
      go_wp2
      go_ret
      exact ⟨q, g, cap, rfl, Mod.refl _ _, h', fun k hk => .inl hk⟩

set_option maxRecDepth 100000 in
set_option maxHeartbeats 400000 in
theorem rhot_Begin (d : Nat) (q : Option (Nat × Nat)) (g : Option Nat) (cap : Nat) (s : SH) (up : Bool) (cpu by_ : Int) (w : World) (h : RDeskAt w d q g cap s) : Calls Try.prog 32 #[.pointer (some ⟨d, 0, none⟩), .bool up, .int .i64 cpu, .int .i64 by_] w (RDeskDo d q g (.int .i64 (s.beginE cpu by_)) (s.begin_ up cpu by_) w) := by
  have hok := SH.begin_ok h.ok up cpu by_
  have h' := h
  have hl := h.lt
  obtain ⟨hd, hq, hp, nq, np, nn, ok⟩ := h
  have c0 : w.cell? ⟨d, 0, none⟩ = some (.pointer (qP q)) := cellAt hd 0
  have c1 : w.cell? ⟨d, 1, none⟩ = some (.bool s.up) := cellAt hd 1
  have c2 : w.cell? ⟨d, 2, none⟩ = some (.int .i64 s.cpu) := cellAt hd 2
  have c3 : w.cell? ⟨d, 3, none⟩ = some (.int .i64 s.by_) := cellAt hd 3
  have c4 : w.cell? ⟨d, 4, none⟩ = some (.bool s.told) := cellAt hd 4
  have c5 : w.cell? ⟨d, 5, none⟩ = some (.slice (lA g) s.plan.length cap) := cellAt hd 5
  have f0 : w.frozen? ⟨d, 0, none⟩ = false := freeAt hd 0
  have f1 : w.frozen? ⟨d, 1, none⟩ = false := freeAt hd 1
  have f2 : w.frozen? ⟨d, 2, none⟩ = false := freeAt hd 2
  have f3 : w.frozen? ⟨d, 3, none⟩ = false := freeAt hd 3
  have f4 : w.frozen? ⟨d, 4, none⟩ = false := freeAt hd 4
  have f5 : w.frozen? ⟨d, 5, none⟩ = false := freeAt hd 5
  rcases q with _ | ⟨qa, qb⟩
  · simp only [qP] at c0
    simp only [RReq] at hq
    by_cases e1 : isCore cpu ∧ isCore by_
    · obtain ⟨e1, e2⟩ := e1
      have e1' := e1
      have e2' := e2
      obtain ⟨l1, l2⟩ := e1'
      obtain ⟨l3, l4⟩ := e2'
      by_cases e3 : cpu = by_
      · have hE : s.beginE cpu by_ = 2 := by simp [SH.beginE, hq, e1, e2, e3]
        have hS : s.begin_ up cpu by_ = s := by simp [SH.begin_, hE]
        rw [hE, hS]
        have e3' : (cpu == by_) = true := by simpa using e3
        clear hE hS e1 e2 e3 hq
        go_enter Try.func32, Try.ntmps32
        go_wp2
        go_ret
        exact ⟨none, g, cap, rfl, Mod.refl _ _, h', fun k hk => .inl hk⟩
      · have hE : s.beginE cpu by_ = 0 := by simp [SH.beginE, hq, e1, e2, e3]
        have hS : s.begin_ up cpu by_ = { s with run := some ⟨if up then 4 else 10, 0, false⟩, up := up, cpu := cpu, by_ := by_, told := false } := by simp [SH.begin_, hE]
        rw [hE, hS]
        rw [hS] at hok
        have e3' : (cpu == by_) = false := by simpa using e3
        clear hE hS e1 e2 e3 hq
        have hld := hl d (by simp)
        cases up
        · simp only [Bool.false_eq_true, if_false, if_true] at hok ⊢
          go_enter Try.func32, Try.ntmps32
          go_wp2_with (go_at_call 81; refine (rNew_ok 10 _ (by omega) (by omega)).mono ?_; rintro e w1 ⟨rfl, m1, hs1, x1⟩; have hd1 := m1.keep hd (by simp); have p0 := freeAt hd1 0; have p1 := freeAt hd1 1; have p2 := freeAt hd1 2; have p3 := freeAt hd1 3; have p4 := freeAt hd1 4; have p5 := ltOf hd1; have i0 := cellAt hd1 0; have i1 := cellAt hd1 1; have i2 := cellAt hd1 2; have i3 := cellAt hd1 3; have i4 := cellAt hd1 4; simp only [List.getElem?_toArray, List.getElem?_cons_zero, List.getElem?_cons_succ] at i0 i1 i2 i3 i4)
          go_ret
          have m3 : ∀ u0 u1 u2 u3 u4, Mod [d] w1 (((((w1.setCell ⟨d, 0, none⟩ u0).setCell ⟨d, 1, none⟩ u1).setCell ⟨d, 2, none⟩ u2).setCell ⟨d, 3, none⟩ u3).setCell ⟨d, 4, none⟩ u4) := fun _ _ _ _ _ => (((((Mod.refl _ _).setCell (by simp) _).setCell (by simp) _).setCell (by simp) _).setCell (by simp) _).setCell (by simp) _
          have hlp : ∀ k, k ∈ lF g → k < w.heap.size ∧ k ≠ d := fun k hk => ⟨hl k (by simp [hk]), fun e => np (e ▸ hk)⟩
          refine ⟨some (w.heap.size + 1, w.heap.size), g, cap, rfl, ((m1.mono (by simp)).trans (m3 _ _ _ _ _) (by simp)), ⟨?_, ⟨_, rfl, x1.keep (m3 _ _ _ _ _) (by simp; omega) (by simp; omega)⟩, (hp.keep m1 (by simp)).keep (m3 _ _ _ _ _) (fun k hk => by have := hlp k hk; simp; omega), by simp [qF]; omega, np, ?_, hok⟩, ?_⟩
          · exact (heapSet (heapSet (heapSet (heapSet (heapSet hd1 0 _) 1 _) 2 _) 3 _) 4 _).trans (by simp [qP])
          · intro k hk
            have := hlp k hk
            simp [qF]; omega
          · intro k hk
            simp [qF] at hk ⊢
            rcases hk with rfl | rfl | hk
            · exact .inr (by omega)
            · exact .inr (by omega)
            · exact .inl hk
        · simp only [Bool.false_eq_true, if_false, if_true] at hok ⊢
          go_enter Try.func32, Try.ntmps32
          go_wp2_with (go_at_call 81; refine (rNew_ok 4 _ (by omega) (by omega)).mono ?_; rintro e w1 ⟨rfl, m1, hs1, x1⟩; have hd1 := m1.keep hd (by simp); have p0 := freeAt hd1 0; have p1 := freeAt hd1 1; have p2 := freeAt hd1 2; have p3 := freeAt hd1 3; have p4 := freeAt hd1 4; have p5 := ltOf hd1; have i0 := cellAt hd1 0; have i1 := cellAt hd1 1; have i2 := cellAt hd1 2; have i3 := cellAt hd1 3; have i4 := cellAt hd1 4; simp only [List.getElem?_toArray, List.getElem?_cons_zero, List.getElem?_cons_succ] at i0 i1 i2 i3 i4)
          go_ret
          have m3 : ∀ u0 u1 u2 u3 u4, Mod [d] w1 (((((w1.setCell ⟨d, 0, none⟩ u0).setCell ⟨d, 1, none⟩ u1).setCell ⟨d, 2, none⟩ u2).setCell ⟨d, 3, none⟩ u3).setCell ⟨d, 4, none⟩ u4) := fun _ _ _ _ _ => (((((Mod.refl _ _).setCell (by simp) _).setCell (by simp) _).setCell (by simp) _).setCell (by simp) _).setCell (by simp) _
          have hlp : ∀ k, k ∈ lF g → k < w.heap.size ∧ k ≠ d := fun k hk => ⟨hl k (by simp [hk]), fun e => np (e ▸ hk)⟩
          refine ⟨some (w.heap.size + 1, w.heap.size), g, cap, rfl, ((m1.mono (by simp)).trans (m3 _ _ _ _ _) (by simp)), ⟨?_, ⟨_, rfl, x1.keep (m3 _ _ _ _ _) (by simp; omega) (by simp; omega)⟩, (hp.keep m1 (by simp)).keep (m3 _ _ _ _ _) (fun k hk => by have := hlp k hk; simp; omega), by simp [qF]; omega, np, ?_, hok⟩, ?_⟩
          · exact (heapSet (heapSet (heapSet (heapSet (heapSet hd1 0 _) 1 _) 2 _) 3 _) 4 _).trans (by simp [qP])
          · intro k hk
            have := hlp k hk
            simp [qF]; omega
          · intro k hk
            simp [qF] at hk ⊢
            rcases hk with rfl | rfl | hk
            · exact .inr (by omega)
            · exact .inr (by omega)
            · exact .inl hk
    · have hE : s.beginE cpu by_ = 3 := by
        have : ¬ isCore cpu ∨ ¬ isCore by_ := by
          by_cases x : isCore cpu
          · exact .inr (fun y => e1 ⟨x, y⟩)
          · exact .inl x
        simp [SH.beginE, hq, this]
      have hS : s.begin_ up cpu by_ = s := by simp [SH.begin_, hE]
      rw [hE, hS]
      have e4 : cpu < 0 ∨ (0 ≤ cpu ∧ 63 < cpu) ∨ ((0 ≤ cpu ∧ cpu ≤ 63) ∧ by_ < 0) ∨ ((0 ≤ cpu ∧ cpu ≤ 63) ∧ 0 ≤ by_ ∧ 63 < by_) := by unfold isCore at e1; omega
      clear hE hS e1 hq
      rcases e4 with e4 | ⟨e4, e5⟩ | ⟨⟨e4, e5⟩, e6⟩ | ⟨⟨e4, e5⟩, e6, e7⟩
      all_goals
        go_enter Try.func32, Try.ntmps32
        go_wp2
        go_ret
        exact ⟨none, g, cap, rfl, Mod.refl _ _, h', fun k hk => .inl hk⟩
  · obtain ⟨r, hr, hx⟩ := hq
    simp only [qP] at c0
    have hE : s.beginE cpu by_ = 7 := by simp [SH.beginE, hr]
    have hS : s.begin_ up cpu by_ = s := by simp [SH.begin_, hE]
    rw [hE, hS]
    clear hE hS hr
    go_enter Try.func32, Try.ntmps32
    go_wp2
    go_ret
    exact ⟨some (qa, qb), g, cap, rfl, Mod.refl _ _, h', fun k hk => .inl hk⟩

set_option maxRecDepth 100000 in
set_option maxHeartbeats 400000 in
theorem rhot_Done (d : Nat) (q : Option (Nat × Nat)) (g : Option Nat) (cap : Nat) (s : SH) (w : World) (h : RDeskAt w d q g cap s) : Calls Try.prog 34 #[.pointer (some ⟨d, 0, none⟩)] w (RDeskDo d q g (.int .i64 s.mayE) s.done w) := by
  have hok := SH.done_ok h.ok
  have h' := h
  have hM := rhot_may d q g cap s w h
  have hl := h.lt
  obtain ⟨hd, hq, hp, nq, np, nn, ok⟩ := h
  have c0 : w.cell? ⟨d, 0, none⟩ = some (.pointer (qP q)) := cellAt hd 0
  have c1 : w.cell? ⟨d, 1, none⟩ = some (.bool s.up) := cellAt hd 1
  have c2 : w.cell? ⟨d, 2, none⟩ = some (.int .i64 s.cpu) := cellAt hd 2
  have c3 : w.cell? ⟨d, 3, none⟩ = some (.int .i64 s.by_) := cellAt hd 3
  have c4 : w.cell? ⟨d, 4, none⟩ = some (.bool s.told) := cellAt hd 4
  have c5 : w.cell? ⟨d, 5, none⟩ = some (.slice (lA g) s.plan.length cap) := cellAt hd 5
  have f0 : w.frozen? ⟨d, 0, none⟩ = false := freeAt hd 0
  have f1 : w.frozen? ⟨d, 1, none⟩ = false := freeAt hd 1
  have f2 : w.frozen? ⟨d, 2, none⟩ = false := freeAt hd 2
  have f3 : w.frozen? ⟨d, 3, none⟩ = false := freeAt hd 3
  have f4 : w.frozen? ⟨d, 4, none⟩ = false := freeAt hd 4
  have f5 : w.frozen? ⟨d, 5, none⟩ = false := freeAt hd 5
  rcases q with _ | ⟨qa, qb⟩
  · simp only [qP] at c0
    simp only [RReq] at hq
    have hO : s.mayE = 12 := by simp [SH.mayE, hq]
    have hD : s.done = s := by simp [SH.done, hq]
    rw [hO] at hM
    rw [hO, hD]
    clear hO hD hq
    go_enter Try.func34, Try.ntmps34
    go_wp2_with (go_at_call 82; refine hM.mono ?_; rintro e w' ⟨rfl, k1, rfl⟩)
    go_ret
    exact ⟨none, g, cap, rfl, (Mod.refl _ _).drewN _, h'.same rfl, fun k hk => .inl hk⟩
  · obtain ⟨r, hr, hx⟩ := hq
    simp only [qP] at c0
    have hqd : qa ≠ d ∧ qb ≠ d := by simp [qF] at nq; omega
    cases ho : r.over
    · have hO : s.mayE = 0 := by simp [SH.mayE, hr, ho]
      have hD : s.done = { s with run := some r.done, told := false } := by simp [SH.done, hr, ho]
      have hE : r.doneE = 0 := by simp [SRun.doneE, ho]
      rw [hO] at hM
      rw [hO, hD]
      rw [hD] at hok
      clear hO hD hr
      go_enter Try.func34, Try.ntmps34
      go_wp2_with (first | (go_at_call 82; refine hM.mono ?_; rintro e w' ⟨rfl, k1, rfl⟩) | (go_at_call 86; refine (rDone_any qa qb r _ (by exact hx.keep (w := w) (((Mod.refl [d] w).drewN _).setCell (by simp) _) (by simp; omega) (by simp; omega))).mono ?_; rintro e w1 ⟨rfl, m1, x1⟩; rw [hE]))
      go_ret
      have m2 := (((Mod.refl [d] w).drewN k1).setCell (p := ⟨d, 4, none⟩) (by simp) (.bool false))
      have hlp : ∀ k, k ∈ lF g → k ≠ d ∧ k ≠ qa ∧ k ≠ qb := fun k hk => ⟨fun e => np (e ▸ hk), by have := nn k hk; simp [qF] at this; omega⟩
      refine ⟨some (qa, qb), g, cap, rfl, ?_, ⟨?_, ?_, ?_, nq, np, nn, hok⟩, fun k hk => .inl hk⟩
      · exact ((m2.mono (T := [d, qa, qb]) (by simp)).trans m1 (by simp)).mono (by simp [qF])
      · refine m1.keep ?_ (by simp; omega)
        rw [heapSet (w := w.drewN k1) hd 4]; simp
      · exact ⟨_, rfl, x1⟩
      · exact (hp.keep m2 (fun k hk => by have := hlp k hk; simp; omega)).keep m1 (fun k hk => by have := hlp k hk; simp; omega)
    · have hO : s.mayE = 6 := by simp [SH.mayE, hr, ho]
      have hD : s.done = s := by simp [SH.done, hr, ho]
      rw [hO] at hM
      rw [hO, hD]
      clear hO hD hr
      go_enter Try.func34, Try.ntmps34
      go_wp2_with (go_at_call 82; refine hM.mono ?_; rintro e w' ⟨rfl, k1, rfl⟩)
      go_ret
      exact ⟨some (qa, qb), g, cap, rfl, (Mod.refl _ _).drewN _, h'.same rfl, fun k hk => .inl hk⟩

set_option maxRecDepth 100000 in
set_option maxHeartbeats 400000 in
theorem rhot_End (d : Nat) (q : Option (Nat × Nat)) (g : Option Nat) (cap : Nat) (s : SH) (w : World) (h : RDeskAt w d q g cap s) : Calls Try.prog 35 #[.pointer (some ⟨d, 0, none⟩)] w (RDeskDo d q g (.tuple #[.int .i64 s.endV, .int .i64 s.endE]) s.end_ w) := by
  have hok := SH.end_ok h.ok
  have h' := h
  have hM := rhot_Over d q g cap s w h
  obtain ⟨hd, hq, hp, nq, np, nn, ok⟩ := h
  have c0 : w.cell? ⟨d, 0, none⟩ = some (.pointer (qP q)) := cellAt hd 0
  have c1 : w.cell? ⟨d, 1, none⟩ = some (.bool s.up) := cellAt hd 1
  have c2 : w.cell? ⟨d, 2, none⟩ = some (.int .i64 s.cpu) := cellAt hd 2
  have c3 : w.cell? ⟨d, 3, none⟩ = some (.int .i64 s.by_) := cellAt hd 3
  have c4 : w.cell? ⟨d, 4, none⟩ = some (.bool s.told) := cellAt hd 4
  have c5 : w.cell? ⟨d, 5, none⟩ = some (.slice (lA g) s.plan.length cap) := cellAt hd 5
  have f0 : w.frozen? ⟨d, 0, none⟩ = false := freeAt hd 0
  have f1 : w.frozen? ⟨d, 1, none⟩ = false := freeAt hd 1
  have f2 : w.frozen? ⟨d, 2, none⟩ = false := freeAt hd 2
  have f3 : w.frozen? ⟨d, 3, none⟩ = false := freeAt hd 3
  have f4 : w.frozen? ⟨d, 4, none⟩ = false := freeAt hd 4
  have f5 : w.frozen? ⟨d, 5, none⟩ = false := freeAt hd 5
  rcases q with _ | ⟨qa, qb⟩
  · simp only [qP] at c0
    simp only [RReq] at hq
    have hO : s.endE = 12 := by simp [SH.endE, hq]
    have hV : s.endV = 0 := by simp [SH.endV, hq]
    have hD : s.end_ = s := by simp [SH.end_, hq]
    rw [hO, hD, hV]
    clear hO hD hq hV
    go_enter Try.func35, Try.ntmps35
    go_wp2
    go_ret2
    exact ⟨none, g, cap, rfl, (Mod.refl _ _), h'.same rfl, fun k hk => .inl hk⟩
  · obtain ⟨r, hr, hx⟩ := hq
    simp only [qP] at c0
    have hOv : s.over = r.over := by simp [SH.over, hr]
    rw [hOv] at hM
    clear hOv
    cases ho : r.over
    · have hO : s.endE = 6 := by simp [SH.endE, hr, ho]
      have hV : s.endV = 0 := by simp [SH.endV, hr, ho]
      have hD : s.end_ = s := by simp [SH.end_, hr, ho]
      rw [ho] at hM
      rw [hO, hD, hV]
      clear hO hD hr hV
      go_enter Try.func35, Try.ntmps35
      go_wp2_with (go_at_call 41; refine hM.mono ?_; rintro e w' ⟨rfl, k1, rfl⟩)
      go_ret2
      exact ⟨some (qa, qb), g, cap, rfl, (Mod.refl _ _).drewN _, h'.same rfl, fun k hk => .inl hk⟩
    · have hO : s.endE = 0 := by simp [SH.endE, hr, ho]
      have hV : s.endV = r.why := by simp [SH.endV, hr, ho]
      have hD : s.end_ = { s with run := none, up := false, cpu := 0, by_ := 0, told := s.told } := by simp [SH.end_, hr, ho]
      rw [ho] at hM
      rw [hO, hD, hV]
      rw [hD] at hok
      clear hO hD hr hV
      go_enter Try.func35, Try.ntmps35
      go_wp2_with (first | (go_at_call 41; refine hM.mono ?_; rintro e w' ⟨rfl, k1, rfl⟩) | (go_at_call 87; refine (rWhy_any qa qb r _ (by exact hx.same rfl)).mono ?_; rintro e w' ⟨rfl, k2, rfl⟩))
      go_ret2
      have m2 : ∀ u0 u1 u2 u3, Mod [d] w (((((w.drewN (k1 + k2)).setCell ⟨d, 0, none⟩ u0).setCell ⟨d, 1, none⟩ u1).setCell ⟨d, 2, none⟩ u2).setCell ⟨d, 3, none⟩ u3) := fun _ _ _ _ => (((((Mod.refl _ _).drewN _).setCell (by simp) _).setCell (by simp) _).setCell (by simp) _).setCell (by simp) _
      refine ⟨none, g, cap, rfl, (m2 _ _ _ _).mono (by simp), ⟨?_, rfl, ?_, by simp [qF], np, by simp [qF], hok⟩, fun k hk => .inl (by simp [qF] at hk ⊢; exact .inr (.inr hk))⟩
      · exact (heapSet (heapSet (heapSet (heapSet (w := w.drewN _) hd 0 _) 1 _) 2 _) 3 _).trans (by simp [qP])
      · exact hp.keep (m2 _ _ _ _) (fun k hk => by simp; rintro rfl; exact np hk)
end Go.Proofs.Ytbelcmiljjndaaa
