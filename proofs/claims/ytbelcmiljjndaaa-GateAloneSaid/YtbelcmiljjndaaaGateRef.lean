/- The walks over package davitref19, in the same words as package gate's. -/
import Derived.Test.YtbelcmiljjndaaaGate
namespace Go.Proofs.Ytbelcmiljjndaaa
set_option linter.unusedVariables false
set_option linter.unusedSimpArgs false
open Go.RowKit

/-- The document's gate at block g, its readers in row r. -/
structure RGateAt (w : World) (g r : Nat) (s : SG) : Prop where
  hg : w.heap[g]? = some (.cells #[.slice (some ⟨r, 0, none⟩) s.l.length s.l.length, .int .i64 s.st] 52 (0,0))
  hr : w.heap[r]? = some (.cells (rowI .i64 s.l) 3 (0,0))
  ne : g ≠ r
  le : s.l.length ≤ 64
  ok : s.ok
theorem RGateAt.keep {S : List Nat} {w w' : World} {g r : Nat} {s : SG} (h : RGateAt w g r s) (m : Mod S w w') (hg : g ∉ S) (hr : r ∉ S) : RGateAt w' g r s :=
  ⟨m.keep h.hg hg, m.keep h.hr hr, h.ne, h.le, h.ok⟩
theorem RGateAt.same {w w' : World} {g r : Nat} {s : SG} (h : RGateAt w g r s) (e : w'.heap = w.heap) : RGateAt w' g r s :=
  ⟨by rw [e]; exact h.hg, by rw [e]; exact h.hr, h.ne, h.le, h.ok⟩


theorem sum_take_le (l : List Int) (h : ∀ i, 0 ≤ nth l i) (k : Nat) : 0 ≤ (l.take k).sum ∧ (l.take k).sum ≤ l.sum := by
  have e : l.sum = (l.take k).sum + (l.drop k).sum := by rw [← List.sum_append, List.take_append_drop]
  have h1 : 0 ≤ (l.take k).sum := sum_nn _ (fun i => by
    simp only [nth, List.getD, List.getElem?_take]
    split
    · exact h i
    · simp)
  have h2 : 0 ≤ (l.drop k).sum := sum_nn _ (fun i => by
    simp only [nth, List.getD, List.getElem?_drop]
    exact h (k + i))
  omega

set_option maxRecDepth 100000 in
theorem rgate_Readers (g r : Nat) (s : SG) (w : World) (h : RGateAt w g r s) : Calls Try.prog 24 #[.pointer (some ⟨g, 0, none⟩)] w (Ret (.int .i64 s.l.sum) w) := by
  have hst0 := h.ok.st0
  have hst1 := h.ok.st1
  have hll := h.le
  have c0 : w.cell? ⟨g, 0, none⟩ = some (.slice (some ⟨r, 0, none⟩) s.l.length s.l.length) := cellAt h.hg 0
  have c1 : w.cell? ⟨g, 1, none⟩ = some (.int .i64 s.st) := cellAt h.hg 1
  have f1 : w.frozen? ⟨g, 1, none⟩ = false := freeAt h.hg 1
  have cr : ∀ i, i < s.l.length → w.cell? ⟨r, i, none⟩ = some (.int .i64 (nth s.l i)) := fun i hi => (cellAt h.hr i).trans (rowI_get hi)
  have hs := h.ok.sum
  have ht := sum_take_le s.l h.ok.nn
  have hn := In64_nth h.ok
  have hT := Lib.hid (take_sum_succ s.l)
  clear h f1 c1 hst0 hst1
  obtain ⟨l, st⟩ := s
  simp only at *
  go_enter Try.func24, Try.ntmps24
  go_wp2
  go_loopg [3, 4] l.length (fun g n i wr => ∃ k : Nat, i = .int .i64 k ∧ k + g = l.length ∧ n = .int .i64 (l.take k).sum ∧ w = wr)
  case atStart => exact ⟨0, rfl, by omega, by simp, rfl⟩
  case round =>
    obtain ⟨k, rfl, hk, rfl, rfl⟩ := hrel
    have h1 := ht k
    by_cases hkl : k < l.length
    · have ck := cr k hkl
      have h3 := ht (k + 1)
      have h4 := hn k
      have h5 := Lib.hid (hT.out k hkl)
      have h6 : 0 ≤ (l.take k).sum := h1.1
      have h7 : (l.take k).sum ≤ 1000 := by omega
      clear ht hn cr hT h1 h3
      obtain ⟨h8, h9⟩ := h4
      generalize (l.take k).sum = S at *
      generalize nth l k = x at *
      go_wp2
      go_roundg (gk - 1)
      case measure => omega
      case rel => exact ⟨k + 1, by go_num, by omega, by rw [h5.out], rfl⟩
    · have hk' : k = l.length := by omega
      have hE : (l.take k).sum = l.sum := by rw [hk', List.take_length]
      have HE := Lib.hid hE
      clear ht hn cr hT h1 hE hk'
      go_wp2
      go_ret
      exact Ret.of (by rw [← HE.out]; rfl) (by repeat (first | exact Drew.refl _ | apply Drew.drewN | apply Drew.drew))

theorem rgate_Want (g r : Nat) (s : SG) (w : World) (h : RGateAt w g r s) : Calls Try.prog 73 #[.pointer (some ⟨g, 0, none⟩)] w (Rets (.int .i64 s.wantE) [g] w fun w' => RGateAt w' g r s.want) := by
  have hok := SG.want_ok h.ok
  have hst0 := h.ok.st0
  have hst1 := h.ok.st1
  have hll := h.le
  have c0 : w.cell? ⟨g, 0, none⟩ = some (.slice (some ⟨r, 0, none⟩) s.l.length s.l.length) := cellAt h.hg 0
  have c1 : w.cell? ⟨g, 1, none⟩ = some (.int .i64 s.st) := cellAt h.hg 1
  have f1 : w.frozen? ⟨g, 1, none⟩ = false := freeAt h.hg 1
  by_cases e : s.st = 0
  · have hE : s.wantE = 0 := by simp [SG.wantE, e]
    have hS : s.want = { s with st := 1 } := by simp [SG.want, e]
    rw [hE, hS]
    rw [hS] at hok
    have e' : (s.st != 0) = false := by simp [e]
    clear hE hS e
    go_enter Try.func73, Try.ntmps73
    go_wp2
    go_ret
    refine Rets.of rfl (Mod.setCell (Mod.refl _ _) (by simp) _) ⟨?_, ?_, h.ne, h.le, hok⟩
    · rw [heapSet h.hg]; simp
    · rw [heapSetNe (Ne.symm h.ne)]; exact h.hr
  · have hE : s.wantE = 7 := by simp [SG.wantE, e]
    have hS : s.want = s := by simp [SG.want, e]
    rw [hE, hS]
    have e' : (s.st != 0) = true := by simp [e]
    clear hE hS
    go_enter Try.func73, Try.ntmps73
    go_wp2
    go_ret
    exact Rets.of rfl (Mod.refl _ _) h

theorem rgate_Free (g r : Nat) (s : SG) (w : World) (h : RGateAt w g r s) : Calls Try.prog 75 #[.pointer (some ⟨g, 0, none⟩)] w (Rets (.int .i64 s.freeE) [g] w fun w' => RGateAt w' g r s.free) := by
  have hok := SG.free_ok h.ok
  have hst0 := h.ok.st0
  have hst1 := h.ok.st1
  have hll := h.le
  have c0 : w.cell? ⟨g, 0, none⟩ = some (.slice (some ⟨r, 0, none⟩) s.l.length s.l.length) := cellAt h.hg 0
  have c1 : w.cell? ⟨g, 1, none⟩ = some (.int .i64 s.st) := cellAt h.hg 1
  have f1 : w.frozen? ⟨g, 1, none⟩ = false := freeAt h.hg 1
  by_cases e : s.st = 0
  · have hE : s.freeE = 6 := by simp [SG.freeE, e]
    have hS : s.free = s := by simp [SG.free, e]
    rw [hE, hS]
    have e' : (s.st == 0) = true := by simp [e]
    clear hE hS e
    go_enter Try.func75, Try.ntmps75
    go_wp2
    go_ret
    exact Rets.of rfl (Mod.refl _ _) h
  · have hE : s.freeE = 0 := by simp [SG.freeE, e]
    have hS : s.free = { s with st := 0 } := by simp [SG.free, e]
    rw [hE, hS]
    rw [hS] at hok
    have e' : (s.st == 0) = false := by simp [e]
    clear hE hS
    go_enter Try.func75, Try.ntmps75
    go_wp2
    go_ret
    refine Rets.of rfl (Mod.setCell (Mod.refl _ _) (by simp) _) ⟨?_, ?_, h.ne, h.le, hok⟩
    · rw [heapSet h.hg]; simp
    · rw [heapSetNe (Ne.symm h.ne)]; exact h.hr

theorem rgate_Take (g r : Nat) (s : SG) (w : World) (h : RGateAt w g r s) : Calls Try.prog 74 #[.pointer (some ⟨g, 0, none⟩)] w (Rets (.int .i64 s.takeE) [g] w fun w' => RGateAt w' g r s.take) := by
  have hok := SG.take_ok h.ok
  have hst0 := h.ok.st0
  have hst1 := h.ok.st1
  have hll := h.le
  have c0 : w.cell? ⟨g, 0, none⟩ = some (.slice (some ⟨r, 0, none⟩) s.l.length s.l.length) := cellAt h.hg 0
  have c1 : w.cell? ⟨g, 1, none⟩ = some (.int .i64 s.st) := cellAt h.hg 1
  have f1 : w.frozen? ⟨g, 1, none⟩ = false := freeAt h.hg 1
  by_cases e : s.st = 1
  · have e' : (s.st != 1) = false := by simp [e]
    by_cases hp : 0 < s.l.sum
    · have hE : s.takeE = 7 := by simp [SG.takeE, e, hp]
      have hS : s.take = s := by simp [SG.take, hE]
      rw [hE, hS]
      clear hE hS e
      go_enter Try.func74, Try.ntmps74
      go_wp2_with (go_at_call 24; refine (rgate_Readers g r s _ (by exact h.same rfl)).mono ?_; rintro e w' ⟨rfl, k, rfl⟩)
      go_ret
      exact Rets.of rfl ((Mod.refl _ _).drewN _) (h.same rfl)
    · have hE : s.takeE = 0 := by simp [SG.takeE, e, hp]
      have hS : s.take = { s with st := 2 } := by simp [SG.take, hE]
      rw [hE, hS]
      rw [hS] at hok
      clear hE hS e
      go_enter Try.func74, Try.ntmps74
      go_wp2_with (go_at_call 24; refine (rgate_Readers g r s _ (by exact h.same rfl)).mono ?_; rintro e w' ⟨rfl, k, rfl⟩)
      go_ret
      refine Rets.of rfl (Mod.setCell ((Mod.refl _ _).drewN _) (by simp) _) ⟨?_, ?_, h.ne, h.le, hok⟩
      · rw [heapSet (w := w.drewN k) h.hg]; simp
      · rw [heapSetNe (Ne.symm h.ne)]; exact h.hr
  · have hE : s.takeE = 6 := by simp [SG.takeE, e]
    have hS : s.take = s := by simp [SG.take, hE]
    rw [hE, hS]
    have e' : (s.st != 1) = true := by simp [e]
    clear hE hS e
    go_enter Try.func74, Try.ntmps74
    go_wp2
    go_ret
    exact Rets.of rfl (Mod.refl _ _) h

theorem rgate_Enter (g r : Nat) (s : SG) (c : Int) (w : World) (h : RGateAt w g r s) : Calls Try.prog 71 #[.pointer (some ⟨g, 0, none⟩), .int .i64 c] w (Rets (.int .i64 (s.enterE c)) [g, r] w fun w' => RGateAt w' g r (s.enter c)) := by
  have hok := SG.enter_ok h.ok c
  have hst0 := h.ok.st0
  have hst1 := h.ok.st1
  have hll := h.le
  have c0 : w.cell? ⟨g, 0, none⟩ = some (.slice (some ⟨r, 0, none⟩) s.l.length s.l.length) := cellAt h.hg 0
  have c1 : w.cell? ⟨g, 1, none⟩ = some (.int .i64 s.st) := cellAt h.hg 1
  have f1 : w.frozen? ⟨g, 1, none⟩ = false := freeAt h.hg 1
  by_cases hc : inR s.l c
  · have hc' := hc
    obtain ⟨h1, h2⟩ := hc
    obtain ⟨c, rfl⟩ := Int.eq_ofNat_of_zero_le h1
    have h3 : c < s.l.length := by omega
    have cc : w.cell? ⟨r, c, none⟩ = some (.int .i64 (nth s.l c)) := (cellAt h.hr c).trans (rowI_get (by omega))
    have ff : w.frozen? ⟨r, c, none⟩ = false := freeAt h.hr c
    have hn := In64_nth h.ok c
    obtain ⟨hn1, hn2⟩ := hn
    by_cases e : s.st = 0
    · have e' : (s.st != 0) = false := by simp [e]
      by_cases hs : 1000 ≤ s.l.sum
      · have hE : s.enterE c = 5 := by simp [SG.enterE, hc', e, hs]
        have hS : s.enter c = s := by simp [SG.enter, hE]
        rw [hE, hS]
        clear hE hS e hc'
        go_enter Try.func71, Try.ntmps71
        go_wp2_with (go_at_call 24; refine (rgate_Readers g r s _ (by exact h.same rfl)).mono ?_; rintro e w' ⟨rfl, k, rfl⟩)
        go_ret
        exact Rets.of rfl ((Mod.refl _ _).drewN _) (h.same rfl)
      · have hE : s.enterE c = 0 := by simp [SG.enterE, hc', e, hs]
        have hS : s.enter c = { s with l := s.l.set c (nth s.l c + 1) } := by simp only [SG.enter, hE, if_true]; rfl
        rw [hE, hS]
        rw [hS] at hok
        clear hE hS e hc'
        go_enter Try.func71, Try.ntmps71
        go_wp2_with (go_at_call 24; refine (rgate_Readers g r s _ (by exact h.same rfl)).mono ?_; rintro e w' ⟨rfl, k, rfl⟩)
        go_region
        all_goals go_wp2
        all_goals go_ret
        refine Rets.of rfl (by repeat (first | exact Mod.refl _ _ | apply Mod.drewN | apply Mod.drew | (refine Mod.setCell ?_ (by simp) _))) ⟨?_, ?_, h.ne, ?_, hok⟩
        · exact (heapSetNe h.ne).trans (by simpa using h.hg)
        · exact (heapSetW rfl h.hr _ _).trans (by rw [rowI_set])
        · simpa using h.le
    · have e' : (s.st != 0) = true := by simp [e]
      have hE : s.enterE c = 7 := by simp [SG.enterE, hc', e]
      have hS : s.enter c = s := by simp [SG.enter, hE]
      rw [hE, hS]
      clear hE hS e hc'
      go_enter Try.func71, Try.ntmps71
      go_wp2
      go_ret
      exact Rets.of rfl (Mod.refl _ _) h
  · have hE : s.enterE c = 3 := by simp [SG.enterE, hc]
    have hS : s.enter c = s := by simp [SG.enter, hE]
    rw [hE, hS]
    have hc' : c < 0 ∨ (0 ≤ c ∧ (s.l.length : Int) ≤ c) := by unfold inR at hc; omega
    clear hE hS hc
    rcases hc' with h1 | ⟨h1, h2⟩
    all_goals
      go_enter Try.func71, Try.ntmps71
      go_wp2
      go_ret
      exact Rets.of rfl (Mod.refl _ _) h

theorem rgate_Leave (g r : Nat) (s : SG) (c : Int) (w : World) (h : RGateAt w g r s) : Calls Try.prog 72 #[.pointer (some ⟨g, 0, none⟩), .int .i64 c] w (Rets (.int .i64 (s.leaveE c)) [g, r] w fun w' => RGateAt w' g r (s.leave c)) := by
  have hok := SG.leave_ok h.ok c
  have hst0 := h.ok.st0
  have hst1 := h.ok.st1
  have hll := h.le
  have c0 : w.cell? ⟨g, 0, none⟩ = some (.slice (some ⟨r, 0, none⟩) s.l.length s.l.length) := cellAt h.hg 0
  have c1 : w.cell? ⟨g, 1, none⟩ = some (.int .i64 s.st) := cellAt h.hg 1
  have f1 : w.frozen? ⟨g, 1, none⟩ = false := freeAt h.hg 1
  by_cases hc : inR s.l c
  · have hc' := hc
    obtain ⟨h1, h2⟩ := hc
    obtain ⟨c, rfl⟩ := Int.eq_ofNat_of_zero_le h1
    have h3 : c < s.l.length := by omega
    have cc : w.cell? ⟨r, c, none⟩ = some (.int .i64 (nth s.l c)) := (cellAt h.hr c).trans (rowI_get (by omega))
    have ff : w.frozen? ⟨r, c, none⟩ = false := freeAt h.hr c
    have hn := In64_nth h.ok c
    obtain ⟨hn1, hn2⟩ := hn
    by_cases e : nth s.l c = 0
    · have e' : (nth s.l c == 0) = true := by simp [e]
      have hE : s.leaveE c = 12 := by simp [SG.leaveE, hc', e]
      have hS : s.leave c = s := by simp [SG.leave, hE]
      rw [hE, hS]
      clear hE hS e hc'
      go_enter Try.func72, Try.ntmps72
      go_wp2
      go_ret
      exact Rets.of rfl (Mod.refl _ _) h
    · have e' : (nth s.l c == 0) = false := by simp [e]
      have hE : s.leaveE c = 0 := by simp [SG.leaveE, hc', e]
      have hS : s.leave c = { s with l := s.l.set c (nth s.l c - 1) } := by simp only [SG.leave, hE, if_true]; rfl
      rw [hE, hS]
      rw [hS] at hok
      clear hE hS e hc'
      go_enter Try.func72, Try.ntmps72
      go_wp2
      go_region
      all_goals go_wp2
      all_goals go_ret
      refine Rets.of rfl (by repeat (first | exact Mod.refl _ _ | apply Mod.drewN | apply Mod.drew | (refine Mod.setCell ?_ (by simp) _))) ⟨?_, ?_, h.ne, ?_, hok⟩
      · exact (heapSetNe h.ne).trans (by simpa using h.hg)
      · exact (heapSetW rfl h.hr _ _).trans (by rw [rowI_set])
      · simpa using h.le
  · have hE : s.leaveE c = 3 := by simp [SG.leaveE, hc]
    have hS : s.leave c = s := by simp [SG.leave, hE]
    rw [hE, hS]
    have hc' : c < 0 ∨ (0 ≤ c ∧ (s.l.length : Int) ≤ c) := by unfold inR at hc; omega
    clear hE hS hc
    rcases hc' with h1 | ⟨h1, h2⟩
    all_goals
      go_enter Try.func72, Try.ntmps72
      go_wp2
      go_ret
      exact Rets.of rfl (Mod.refl _ _) h

theorem rgate_New_no (n : Int) (w : World) (h : n < 1 ∨ 64 < n) : Calls Try.prog 19 #[.int .i64 n] w (Ret (.tuple #[.pointer none, .int .i64 2]) w) := by
  rcases h with h | h
  all_goals
    go_enter Try.func19, Try.ntmps19
    go_wp2
    go_ret2
    exact Ret.of (rfl) (by repeat (first | exact Drew.refl _ | apply Drew.drewN | apply Drew.drew))
theorem infoInt : (Try.prog.info? 3).map (fun i => (i.zero, i.size, i.bytes)) = some (some (.int .i64 0), 1, 8) := by kernel_rfl
def RGateNew (n : Nat) (w : World) (e : Ending) (w' : World) : Prop :=
  ∃ g r, e = .returned (.tuple #[.pointer (some ⟨g, 0, none⟩), .int .i64 0]) ∧ Mod [] w w' ∧ (w.heap.size ≤ g ∧ w.heap.size ≤ r) ∧ RGateAt w' g r ⟨List.replicate n 0, 0⟩
theorem rgate_New_ok (n : Nat) (w : World) (h1 : 1 ≤ n) (h2 : n ≤ 64) : Calls Try.prog 19 #[.int .i64 n] w (RGateNew n w) := by
  have hmk := fun w => Go.run_make_row' (P := Try.prog) 22 3 (.int .i64 0) 8 Try.underlying22 infoInt rfl .i64 .i64 n (by omega) (by omega) w
  go_enter Try.func19, Try.ntmps19
  go_wp2
  go_ret2
  refine ⟨w.heap.size + 1, w.heap.size, by simp, (Mod.alloc (Mod.alloc (Mod.refl _ _) _) _), ⟨by omega, by omega⟩, ?_, ?_, by omega, by simpa using h2, ?_⟩
  · have := heapNew (w.alloc (Obj.cells (madeCells #[Value.int .i64 0] n) 3)) (Obj.cells #[.slice (some ⟨w.heap.size, 0, none⟩) n n, .int .i64 0] 52)
    simpa using this
  · rw [← rowI_made]; exact heapOld (heapNew _ _)
  · exact ⟨fun i => by rw [nth_rep]; omega, by rw [sum_rep]; omega, by simp, by simp⟩
end Go.Proofs.Ytbelcmiljjndaaa
