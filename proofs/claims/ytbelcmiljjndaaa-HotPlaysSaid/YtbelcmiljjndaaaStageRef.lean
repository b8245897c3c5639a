/- The walks over package davitref21: what each function returns and writes, in the same words as package stage's. -/
import Derived.Test.YtbelcmiljjndaaaStage
import Derived.Deep.LoopGhost
import Derived.Deep.OwnRows
namespace Go.Proofs.Ytbelcmiljjndaaa
set_option linter.unusedVariables false
set_option linter.unusedSimpArgs false
open Go.RowKit

/-- n bools, the first d of which are true. -/
def rowB (n d : Nat) : Array Value := ((List.range n).map fun i => Value.bool (decide (i < d))).toArray
theorem rowB_get {n d i : Nat} (h : i < n) : (rowB n d)[i]? = some (.bool (decide (i < d))) := by
  simp [rowB, h]
theorem rowB_out {n d i : Nat} (h : n ≤ i) : (rowB n d)[i]? = none := by
  simp [rowB, h]
theorem rowB_set {n d : Nat} (i : Nat) (v : Bool) (d' : Nat) (h : ∀ j, j < n → (if j = i then v else decide (j < d)) = decide (j < d')) :
    (rowB n d).setIfInBounds i (.bool v) = rowB n d' := by
  apply Array.ext_getElem?
  intro j
  rw [Array.getElem?_setIfInBounds]
  have hs : (rowB n d).size = n := by simp [rowB]
  by_cases hj : j < n
  · rw [rowB_get hj, rowB_get hj]
    have := h j hj
    by_cases e : i = j
    · subst e; simp only [if_true] at this; rw [if_pos rfl, if_pos (by omega), this]
    · rw [if_neg e]; rw [if_neg (Ne.symm e)] at this; rw [this]
  · rw [rowB_out (by omega), rowB_out (by omega)]
    split
    · rw [if_neg (by omega)]
    · rfl
theorem rowB_made (n : Nat) : madeCells #[.bool false] n = rowB n 0 := by
  apply Array.ext_getElem?
  intro j
  by_cases h : j < n
  · simp [madeCells, rowB, Nat.mod_one, h]
  · simp [madeCells, rowB, h]

def RRun (w : World) (b r : Nat) (s : SRun) : Prop :=
  w.heap[b]? = some (.cells #[.slice (some ⟨r, 0, none⟩) s.n s.n, .bool s.back] 143 (0,0)) ∧ w.heap[r]? = some (.cells (rowB s.n s.d) 4 (0,0)) ∧ r ≠ b ∧ s.ok

theorem RRun.keep {S : List Nat} {w w' : World} {b r : Nat} {s : SRun} (h : RRun w b r s) (m : Mod S w w') (hb : b ∉ S) (hr : r ∉ S) : RRun w' b r s :=
  ⟨m.keep h.1 hb, m.keep h.2.1 hr, h.2.2⟩


set_option maxHeartbeats 400000 in
theorem rAt_any (b r : Nat) (s : SRun) (w : World) (h : RRun w b r s) :
   Calls Try.prog 83 #[.pointer (some ⟨b, 0, none⟩)] w (Ret (.tuple #[.int .i64 s.k, .bool s.back, .bool s.over]) w) := by
  obtain ⟨hb, hr, hne, h1, h2⟩ := h
  have c0 : w.cell? ⟨b, 0, none⟩ = some (.slice (some ⟨r, 0, none⟩) s.n s.n) := cellAt hb 0
  have c1 : w.cell? ⟨b, 1, none⟩ = some (.bool s.back) := cellAt hb 1
  have f1 : w.frozen? ⟨b, 1, none⟩ = false := freeAt hb 1
  have cr : ∀ i, i < s.n → w.cell? ⟨r, i, none⟩ = some (.bool (decide (i < s.d))) := fun i hi => (cellAt hr i).trans (rowB_get hi)
  clear hb hr f1
  obtain ⟨n, d, back⟩ := s
  simp only at h1 h2 c0 c1 cr
  cases back
  · go_enter Try.func83, Try.ntmps83
    go_wp2
    go_loopg [6] (d + 1) (fun g i wr => ∃ k : Nat, i = .int .i64 k ∧ k ≤ d ∧ d + 1 ≤ k + g ∧ w = wr)
    case atStart => exact ⟨0, rfl, by omega, by omega, rfl⟩
    case round =>
      obtain ⟨k, rfl, hk, hg, rfl⟩ := hrel
      by_cases hkn : k < n
      · have ck := cr k hkn
        clear cr
        by_cases hkd : k < d
        · have hdec : decide (k < d) = true := by simp [hkd]
          rw [hdec] at ck
          go_wp2
          go_roundg (d + 1 - (k + 1))
          case measure => omega
          case rel => exact ⟨k + 1, by go_num, by omega, by omega, rfl⟩
        · have hdec : decide (k < d) = false := by simp [hkd]
          have : k = d := by omega
          subst this
          rw [hdec] at ck
          clear hdec
          go_wp2
          go_ret3
          have e : (k == n) = false := by simp; omega
          exact Ret.of (by simp [SRun.k, SRun.over, e]) (by repeat (first | exact Drew.refl _ | apply Drew.drewN | apply Drew.drew))
      · have : d = n := by omega
        subst this
        have : k = d := by omega
        subst this
        clear cr
        go_wp2
        go_ret3
        exact Ret.of (by simp [SRun.k, SRun.over]) (by repeat (first | exact Drew.refl _ | apply Drew.drewN | apply Drew.drew))
  · go_enter Try.func83, Try.ntmps83
    go_wp2
    go_loopg [5] n (fun g i wr => i = .int .i64 g ∧ d ≤ g ∧ g ≤ n ∧ w = wr)
    case atStart => exact ⟨rfl, by omega, by omega, rfl⟩
    case round =>
      obtain ⟨rfl, hdg, hgn, rfl⟩ := hrel
      by_cases hg0 : gk = 0
      · subst hg0
        have : d = 0 := by omega
        subst this
        clear cr
        go_wp2
        go_ret3
        exact Ret.of (by simp [SRun.k, SRun.over]) (by repeat (first | exact Drew.refl _ | apply Drew.drewN | apply Drew.drew))
      · obtain ⟨j, rfl⟩ : ∃ j, gk = j + 1 := ⟨gk - 1, by omega⟩
        have cj := cr j (by omega)
        clear cr
        by_cases hjd : j < d
        · have hdec : decide (j < d) = true := by simp [hjd]
          rw [hdec] at cj
          have : d = j + 1 := by omega
          subst this
          clear hdec
          have e : decide (((j : Int) + 1) = 0) = false := by simp; omega
          go_wp2
          go_ret3
          exact Ret.of (by simp [SRun.k, SRun.over]) (by repeat (first | exact Drew.refl _ | apply Drew.drewN | apply Drew.drew))
        · have hdec : decide (j < d) = false := by simp [hjd]
          rw [hdec] at cj
          go_wp2
          go_roundg j
          case measure => omega
          case rel => exact ⟨by go_num, by omega, by omega, rfl⟩

theorem rDone_any (b r : Nat) (s : SRun) (w : World) (h : RRun w b r s) :
   Calls Try.prog 86 #[.pointer (some ⟨b, 0, none⟩)] w (Rets (.int .i64 s.doneE) [b, r] w fun w' => RRun w' b r s.done) := by
  have hok := SRun.done_ok h.2.2.2
  have h' := h
  obtain ⟨hb, hr, hne, h1, h2⟩ := h
  have c0 : w.cell? ⟨b, 0, none⟩ = some (.slice (some ⟨r, 0, none⟩) s.n s.n) := cellAt hb 0
  have c1 : w.cell? ⟨b, 1, none⟩ = some (.bool s.back) := cellAt hb 1
  have f1 : w.frozen? ⟨b, 1, none⟩ = false := freeAt hb 1
  have cr : ∀ i, i < s.n → w.cell? ⟨r, i, none⟩ = some (.bool (decide (i < s.d))) := fun i hi => (cellAt hr i).trans (rowB_get hi)
  have fr : ∀ i, w.frozen? ⟨r, i, none⟩ = false := freeAt hr
  cases ho : s.over
  · have hE : s.doneE = 0 := by simp [SRun.doneE, ho]
    have HE := Lib.hid hE; clear hE
    cases hb1 : s.back
    · have hD : s.done = { s with d := s.d + 1 } := by simp [SRun.done, ho, hb1]
      have HD := Lib.hid hD; clear hD
      have hk : s.k = s.d := by simp [SRun.k, ho, hb1]
      have hdn : s.d < s.n := by
        unfold SRun.over at ho; rw [hb1] at ho; simp at ho; omega
      have cd := cr s.d hdn
      have fd := fr s.d
      have AC := rAt_any b r s w h'
      rw [hk] at AC
      clear cr fr hk
      go_enter Try.func86, Try.ntmps86
      go_wp2_with (go_at_call 83; refine AC.mono ?_; rintro e w' ⟨rfl, k, rfl⟩)
      go_ret
      refine Rets.of (by rw [HE.out]; rfl) (Mod.setCell (Mod.drewN (Mod.refl _ _) _) (by simp) _) ⟨?_, ?_, hne, hok⟩
      · rw [heapSetNe (Ne.symm hne), HD.out]; exact hb
      · rw [heapSet (w := w.drewN k) hr s.d, HD.out, rowB_set _ true (s.d + 1)]
        intro j hj
        by_cases e : j = s.d
        · simp [e]
        · simp [e]; omega
    · have hD : s.done = { s with d := s.d - 1 } := by simp [SRun.done, ho, hb1]
      have HD := Lib.hid hD; clear hD
      have hd : 1 ≤ s.d := by
        unfold SRun.over at ho; rw [hb1] at ho; simp at ho; omega
      have hk : s.k = ((s.d - 1 : Nat) : Int) := by simp [SRun.k, ho, hb1]; omega
      have cd := cr (s.d - 1) (by omega)
      have fd := fr (s.d - 1)
      have AC := rAt_any b r s w h'
      rw [hk] at AC
      clear cr fr hk
      have hlt : s.d - 1 < s.n := by omega
      go_enter Try.func86, Try.ntmps86
      go_wp2_with (go_at_call 83; refine AC.mono ?_; rintro e w' ⟨rfl, k, rfl⟩)
      go_ret
      refine Rets.of (by rw [HE.out]; rfl) (Mod.setCell (Mod.drewN (Mod.refl _ _) _) (by simp) _) ⟨?_, ?_, hne, hok⟩
      · rw [heapSetNe (Ne.symm hne), HD.out]; exact hb
      · rw [heapSet (w := w.drewN k) hr (s.d - 1), HD.out, rowB_set _ false (s.d - 1)]
        intro j hj
        by_cases e : j = s.d - 1
        · simp [e]
        · simp [e]; omega
  · have hE : s.doneE = 6 := by simp [SRun.doneE, ho]
    have hD : s.done = s := by simp [SRun.done, ho]
    have HE := Lib.hid hE; clear hE
    have HD := Lib.hid hD; clear hD
    clear cr fr
    go_enter Try.func86, Try.ntmps86
    go_wp2_with (go_at_call 83; refine (rAt_any b r s _ h').mono ?_; rintro e w' ⟨rfl, k, rfl⟩)
    go_ret
    refine Rets.of (by rw [HE.out]; rfl) (Mod.drewN (Mod.refl _ _) _) ?_
    rw [HD.out]; exact h'

theorem rFail_any (b r : Nat) (s : SRun) (w : World) (h : RRun w b r s) :
   Calls Try.prog 85 #[.pointer (some ⟨b, 0, none⟩)] w (Rets (.int .i64 s.failE) [b, r] w fun w' => RRun w' b r s.fail) := by
  have hok := SRun.fail_ok h.2.2.2
  have h' := h
  obtain ⟨hb, hr, hne, h1, h2⟩ := h
  have c0 : w.cell? ⟨b, 0, none⟩ = some (.slice (some ⟨r, 0, none⟩) s.n s.n) := cellAt hb 0
  have c1 : w.cell? ⟨b, 1, none⟩ = some (.bool s.back) := cellAt hb 1
  have f1 : w.frozen? ⟨b, 1, none⟩ = false := freeAt hb 1
  have cr : ∀ i, i < s.n → w.cell? ⟨r, i, none⟩ = some (.bool (decide (i < s.d))) := fun i hi => (cellAt hr i).trans (rowB_get hi)
  clear cr
  cases hb1 : s.back
  · cases ho : s.over
    · have hE : s.failE = 0 := by simp [SRun.failE, ho, hb1]
      have hD : s.fail = { s with back := true } := by simp [SRun.fail, ho, hb1]
      have HE := Lib.hid hE; clear hE
      have HD := Lib.hid hD; clear hD
      go_enter Try.func85, Try.ntmps85
      go_wp2_with (go_at_call 83; refine (rAt_any b r s _ h').mono ?_; rintro e w' ⟨rfl, k, rfl⟩)
      go_ret
      refine Rets.of (by rw [HE.out]; rfl) (Mod.setCell (Mod.drewN (Mod.refl _ _) _) (by simp) _) ⟨?_, ?_, hne, hok⟩
      · rw [heapSet (w := w.drewN k) hb 1, HD.out]; simp
      · rw [heapSetNe hne, HD.out]; exact hr
    · have hE : s.failE = 6 := by simp [SRun.failE, ho, hb1]
      have hD : s.fail = s := by simp [SRun.fail, ho, hb1]
      have HE := Lib.hid hE; clear hE
      have HD := Lib.hid hD; clear hD
      go_enter Try.func85, Try.ntmps85
      go_wp2_with (go_at_call 83; refine (rAt_any b r s _ h').mono ?_; rintro e w' ⟨rfl, k, rfl⟩)
      go_ret
      refine Rets.of (by rw [HE.out]; rfl) (Mod.drewN (Mod.refl _ _) _) ?_
      rw [HD.out]; exact h'
  · have hE : s.failE = 6 := by simp [SRun.failE, hb1]
    have hD : s.fail = s := by simp [SRun.fail, hb1]
    have HE := Lib.hid hE; clear hE
    have HD := Lib.hid hD; clear hD
    go_enter Try.func85, Try.ntmps85
    go_wp2_with (go_at_call 83; refine (rAt_any b r s _ h').mono ?_; rintro e w' ⟨rfl, k, rfl⟩)
    go_ret
    refine Rets.of (by rw [HE.out]; rfl) (Mod.drewN (Mod.refl _ _) _) ?_
    rw [HD.out]; exact h'

theorem rWhy_any (b r : Nat) (s : SRun) (w : World) (h : RRun w b r s) :
   Calls Try.prog 87 #[.pointer (some ⟨b, 0, none⟩)] w (Ret (.int .i64 s.why) w) := by
  cases ho : s.over
  · go_enter Try.func87, Try.ntmps87
    go_wp2_with (go_at_call 83; refine (rAt_any b r s _ h).mono ?_; rintro e w' ⟨rfl, k, rfl⟩)
    go_ret
    exact Ret.of (by simp [SRun.why, ho]) (by repeat (first | exact Drew.refl _ | apply Drew.drewN | apply Drew.drew))
  · cases hb : s.back
    all_goals
      go_enter Try.func87, Try.ntmps87
      go_wp2_with (go_at_call 83; refine (rAt_any b r s _ h).mono ?_; rintro e w' ⟨rfl, k, rfl⟩)
      go_ret
      exact Ret.of (by simp [SRun.why, ho, hb]) (by repeat (first | exact Drew.refl _ | apply Drew.drewN | apply Drew.drew))

theorem rNew_no (n : Int) (w : World) (h : n < 1 ∨ 64 < n) :
   Calls Try.prog 81 #[.int .i64 n] w (Ret (.tuple #[.pointer none, .int .i64 2]) w) := by
  rcases h with h | h
  all_goals
    go_enter Try.func81, Try.ntmps81
    go_wp2
    go_ret2
    exact Ret.of (rfl) (by repeat (first | exact Drew.refl _ | apply Drew.drewN | apply Drew.drew))

theorem infoB : (Try.prog.info? 4).map (fun i => (i.zero, i.size, i.bytes)) = some (some (.bool false), 1, 1) := by kernel_rfl

theorem rNew_ok (n : Nat) (w : World) (h1 : 1 ≤ n) (h2 : n ≤ 64) :
   Calls Try.prog 81 #[.int .i64 n] w (Rets (.tuple #[.pointer (some ⟨w.heap.size + 1, 0, none⟩), .int .i64 0]) [] w fun w' => w.heap.size + 1 < w'.heap.size ∧ RRun w' (w.heap.size + 1) w.heap.size ⟨n, 0, false⟩) := by
  have hmk := fun w => Go.run_make_row' (P := Try.prog) 141 4 (.bool false) 1 Try.underlying141 infoB rfl .i64 .i64 n (by omega) (by omega) w
  go_enter Try.func81, Try.ntmps81
  go_wp2
  go_ret2
  refine Rets.of ?_ (Mod.alloc (Mod.alloc (Mod.refl _ _) _) _) ⟨?_, ?_, ?_, by omega, by simp, h2⟩
  · simp
  · simp
  · have := heapNew (w.alloc (Obj.cells (madeCells #[Value.bool false] n) 4)) (Obj.cells #[.slice (some ⟨w.heap.size, 0, none⟩) n n, .bool false] 143)
    simpa using this
  · rw [← rowB_made]; exact heapOld (heapNew _ _)
end Go.Proofs.Ytbelcmiljjndaaa
