/- The walks over package stage: what each method returns and writes, for every run that New can have made. -/
import Derived.Test.YtbelcmiljjndaaaKit
namespace Go.Proofs.Ytbelcmiljjndaaa
set_option linter.unusedVariables false
set_option linter.unusedSimpArgs false
open Go.RowKit

structure SRun where
  n : Nat
  d : Nat
  back : Bool
def SRun.ok (s : SRun) : Prop := s.d ≤ s.n ∧ s.n ≤ 64
def SRun.over (s : SRun) : Bool := (s.back && s.d == 0) || (!s.back && s.d == s.n)
def SRun.k (s : SRun) : Int := if s.over then 0 else if s.back then s.d - 1 else s.d
def SRun.doneE (s : SRun) : Int := if s.over then 6 else 0
def SRun.done (s : SRun) : SRun := if s.over then s else if s.back then { s with d := s.d - 1 } else { s with d := s.d + 1 }
def SRun.failE (s : SRun) : Int := if s.back || s.over then 6 else 0
def SRun.fail (s : SRun) : SRun := if s.back || s.over then s else { s with back := true }
def SRun.why (s : SRun) : Int := if s.over then (if s.back then 11 else 0) else 7

theorem SRun.done_ok {s : SRun} (h : s.ok) : s.done.ok := by
  obtain ⟨n, d, back⟩ := s
  obtain ⟨h1, h2⟩ := h
  simp only at h1 h2
  unfold SRun.done SRun.over
  cases back <;> simp only <;> split <;> simp_all [SRun.ok] <;> omega
theorem SRun.fail_ok {s : SRun} (h : s.ok) : s.fail.ok := by
  unfold SRun.fail; split <;> exact h

def XRun (w : World) (b : Nat) (s : SRun) : Prop := w.heap[b]? = some (.cells #[.int .i64 s.n, .int .i64 s.d, .bool s.back] 133 (0,0)) ∧ s.ok

theorem XRun.keep {S : List Nat} {w w' : World} {b : Nat} {s : SRun} (h : XRun w b s) (m : Mod S w w') (hb : b ∉ S) : XRun w' b s := ⟨m.keep h.1 hb, h.2⟩


theorem At_any (b : Nat) (s : SRun) (w : World) (h : XRun w b s) :
   Calls Try.prog 66 #[.pointer (some ⟨b, 0, none⟩)] w (Ret (.tuple #[.int .i64 s.k, .bool s.back, .bool s.over]) w) := by
  obtain ⟨h, h1, h2⟩ := h
  have c0 : w.cell? ⟨b, 0, none⟩ = some (.int .i64 s.n) := cellAt h 0
  have c1 : w.cell? ⟨b, 1, none⟩ = some (.int .i64 s.d) := cellAt h 1
  have c2 : w.cell? ⟨b, 2, none⟩ = some (.bool s.back) := cellAt h 2
  have f1 : w.frozen? ⟨b, 1, none⟩ = false := freeAt h 1
  have f2 : w.frozen? ⟨b, 2, none⟩ = false := freeAt h 2
  clear h f1 f2
  obtain ⟨n, d, back⟩ := s
  simp only at h1 h2 c0 c1 c2
  cases back
  · by_cases e : d = n
    · subst e
      have hd : ((d : Int) == (d : Int)) = true := by simp
      go_enter Try.func66, Try.ntmps66
      go_wp2
      go_quiet (fail)
      go_wp2
      go_quiet (fail)
      go_wp2
      go_ret3
      exact Ret.of (by simp [SRun.k, SRun.over]) (by repeat (first | exact Drew.refl _ | apply Drew.drewN | apply Drew.drew))
    · have hd : ((d : Int) == (n : Int)) = false := by simp; omega
      have hd' : (d == n) = false := by simp; omega
      go_enter Try.func66, Try.ntmps66
      go_wp2
      go_quiet (fail)
      go_wp2
      go_ret3
      exact Ret.of (by simp [SRun.k, SRun.over, hd']) (by repeat (first | exact Drew.refl _ | apply Drew.drewN | apply Drew.drew))
  · by_cases e : d = 0
    · subst e
      have hd : ((0 : Int) == (0 : Int)) = true := by simp
      go_enter Try.func66, Try.ntmps66
      go_wp2
      go_quiet (fail)
      go_wp2
      go_quiet (fail)
      go_wp2
      go_ret3
      exact Ret.of (by simp [SRun.k, SRun.over]) (by repeat (first | exact Drew.refl _ | apply Drew.drewN | apply Drew.drew))
    · have hd : ((d : Int) == (0 : Int)) = false := by simp; omega
      have hd' : (d == 0) = false := by simp; omega
      have hp : (1 : Int) ≤ d := by omega
      go_enter Try.func66, Try.ntmps66
      go_wp2
      go_quiet (fail)
      go_wp2
      go_ret3
      exact Ret.of (by simp [SRun.k, SRun.over, hd']) (by repeat (first | exact Drew.refl _ | apply Drew.drewN | apply Drew.drew))

theorem At_nil (w : World) : Calls Try.prog 66 #[.pointer none] w (Ret (.tuple #[.int .i64 0, .bool false, .bool true]) w) := by
  go_enter Try.func66, Try.ntmps66
  go_wp2
  go_ret3
  exact Ret.of (rfl) (by repeat (first | exact Drew.refl _ | apply Drew.drewN | apply Drew.drew))


theorem Why_any (b : Nat) (s : SRun) (w : World) (h : XRun w b s) :
   Calls Try.prog 69 #[.pointer (some ⟨b, 0, none⟩)] w (Ret (.int .i64 s.why) w) := by
  cases ho : s.over
  · go_enter Try.func69, Try.ntmps69
    go_wp2_with (go_at_call 66; refine (At_any b s _ h).mono ?_; rintro e w' ⟨rfl, k, rfl⟩)
    go_ret
    exact Ret.of (by simp [SRun.why, ho]) (by repeat (first | exact Drew.refl _ | apply Drew.drewN | apply Drew.drew))
  · cases hb : s.back
    all_goals
      go_enter Try.func69, Try.ntmps69
      go_wp2_with (go_at_call 66; refine (At_any b s _ h).mono ?_; rintro e w' ⟨rfl, k, rfl⟩)
      go_ret
      exact Ret.of (by simp [SRun.why, ho, hb]) (by repeat (first | exact Drew.refl _ | apply Drew.drewN | apply Drew.drew))

theorem Done_any (b : Nat) (s : SRun) (w : World) (h : XRun w b s) :
   Calls Try.prog 68 #[.pointer (some ⟨b, 0, none⟩)] w (Rets (.int .i64 s.doneE) [b] w fun w' => XRun w' b s.done) := by
  have hok := SRun.done_ok h.2
  have h' := h
  obtain ⟨h, h1, h2⟩ := h
  have c0 : w.cell? ⟨b, 0, none⟩ = some (.int .i64 s.n) := cellAt h 0
  have c1 : w.cell? ⟨b, 1, none⟩ = some (.int .i64 s.d) := cellAt h 1
  have c2 : w.cell? ⟨b, 2, none⟩ = some (.bool s.back) := cellAt h 2
  have f1 : w.frozen? ⟨b, 1, none⟩ = false := freeAt h 1
  have f2 : w.frozen? ⟨b, 2, none⟩ = false := freeAt h 2
  cases ho : s.over
  · have hE : s.doneE = 0 := by simp [SRun.doneE, ho]
    have HE := Lib.hid hE; clear hE
    cases hb : s.back
    · have hD : s.done = { s with d := s.d + 1 } := by simp [SRun.done, ho, hb]
      have HD := Lib.hid hD; clear hD
      go_enter Try.func68, Try.ntmps68
      go_wp2_with (go_at_call 66; refine (At_any b s _ h').mono ?_; rintro e w' ⟨rfl, k, rfl⟩)
      go_ret
      refine Rets.of (by rw [HE.out]; rfl) (Mod.setCell (Mod.drewN (Mod.refl _ _) _) (by simp) _) ⟨?_, hok⟩
      rw [toNatAdd, heapSet (w := w.drewN k) h 1, HD.out]; simp [hb]
    · have hD : s.done = { s with d := s.d - 1 } := by simp [SRun.done, ho, hb]
      have HD := Lib.hid hD; clear hD
      have hd : 1 ≤ s.d := by
        unfold SRun.over at ho; rw [hb] at ho; simp at ho; omega
      have hd' : (1 : Int) ≤ s.d := by omega
      go_enter Try.func68, Try.ntmps68
      go_wp2_with (go_at_call 66; refine (At_any b s _ h').mono ?_; rintro e w' ⟨rfl, k, rfl⟩)
      go_ret
      refine Rets.of (by rw [HE.out]; rfl) (Mod.setCell (Mod.drewN (Mod.refl _ _) _) (by simp) _) ⟨?_, hok⟩
      rw [toNatSub hd, heapSet (w := w.drewN k) h 1, HD.out]; simp [hb]
  · have hE : s.doneE = 6 := by simp [SRun.doneE, ho]
    have hD : s.done = s := by simp [SRun.done, ho]
    have HE := Lib.hid hE; clear hE
    have HD := Lib.hid hD; clear hD
    go_enter Try.func68, Try.ntmps68
    go_wp2_with (go_at_call 66; refine (At_any b s _ h').mono ?_; rintro e w' ⟨rfl, k, rfl⟩)
    go_ret
    refine Rets.of (by rw [HE.out]; rfl) (Mod.drewN (Mod.refl _ _) _) ?_
    rw [HD.out]; exact ⟨h, h1, h2⟩

theorem Fail_any (b : Nat) (s : SRun) (w : World) (h : XRun w b s) :
   Calls Try.prog 67 #[.pointer (some ⟨b, 0, none⟩)] w (Rets (.int .i64 s.failE) [b] w fun w' => XRun w' b s.fail) := by
  have hok := SRun.fail_ok h.2
  have h' := h
  obtain ⟨h, h1, h2⟩ := h
  have c0 : w.cell? ⟨b, 0, none⟩ = some (.int .i64 s.n) := cellAt h 0
  have c1 : w.cell? ⟨b, 1, none⟩ = some (.int .i64 s.d) := cellAt h 1
  have c2 : w.cell? ⟨b, 2, none⟩ = some (.bool s.back) := cellAt h 2
  have f1 : w.frozen? ⟨b, 1, none⟩ = false := freeAt h 1
  have f2 : w.frozen? ⟨b, 2, none⟩ = false := freeAt h 2
  cases hb : s.back
  · cases ho : s.over
    · have hE : s.failE = 0 := by simp [SRun.failE, ho, hb]
      have hD : s.fail = { s with back := true } := by simp [SRun.fail, ho, hb]
      have HE := Lib.hid hE; clear hE
      have HD := Lib.hid hD; clear hD
      go_enter Try.func67, Try.ntmps67
      go_wp2_with (go_at_call 66; refine (At_any b s _ h').mono ?_; rintro e w' ⟨rfl, k, rfl⟩)
      go_ret
      refine Rets.of (by rw [HE.out]; rfl) (Mod.setCell (Mod.drewN (Mod.refl _ _) _) (by simp) _) ⟨?_, hok⟩
      rw [heapSet (w := w.drewN k) h 2, HD.out]; simp
    · have hE : s.failE = 6 := by simp [SRun.failE, ho, hb]
      have hD : s.fail = s := by simp [SRun.fail, ho, hb]
      have HE := Lib.hid hE; clear hE
      have HD := Lib.hid hD; clear hD
      go_enter Try.func67, Try.ntmps67
      go_wp2_with (go_at_call 66; refine (At_any b s _ h').mono ?_; rintro e w' ⟨rfl, k, rfl⟩)
      go_ret
      refine Rets.of (by rw [HE.out]; rfl) (Mod.drewN (Mod.refl _ _) _) ?_
      rw [HD.out]; exact ⟨h, h1, h2⟩
  · have hE : s.failE = 6 := by simp [SRun.failE, hb]
    have hD : s.fail = s := by simp [SRun.fail, hb]
    have HE := Lib.hid hE; clear hE
    have HD := Lib.hid hD; clear hD
    go_enter Try.func67, Try.ntmps67
    go_wp2_with (go_at_call 66; refine (At_any b s _ h').mono ?_; rintro e w' ⟨rfl, k, rfl⟩)
    go_ret
    refine Rets.of (by rw [HE.out]; rfl) (Mod.drewN (Mod.refl _ _) _) ?_
    rw [HD.out]; exact ⟨h, h1, h2⟩

theorem Done_nil (w : World) : Calls Try.prog 68 #[.pointer none] w (Ret (.int .i64 1) w) := by
  go_enter Try.func68, Try.ntmps68
  go_wp2_with (go_at_call 66; refine (At_nil _).mono ?_; rintro e w' ⟨rfl, k, rfl⟩)
  go_ret
  exact Ret.of (rfl) (by repeat (first | exact Drew.refl _ | apply Drew.drewN | apply Drew.drew))
theorem Fail_nil (w : World) : Calls Try.prog 67 #[.pointer none] w (Ret (.int .i64 1) w) := by
  go_enter Try.func67, Try.ntmps67
  go_wp2_with (go_at_call 66; refine (At_nil _).mono ?_; rintro e w' ⟨rfl, k, rfl⟩)
  go_ret
  exact Ret.of (rfl) (by repeat (first | exact Drew.refl _ | apply Drew.drewN | apply Drew.drew))
theorem Why_nil (w : World) : Calls Try.prog 69 #[.pointer none] w (Ret (.int .i64 1) w) := by
  go_enter Try.func69, Try.ntmps69
  go_wp2_with (go_at_call 66; refine (At_nil _).mono ?_; rintro e w' ⟨rfl, k, rfl⟩)
  go_ret
  exact Ret.of (rfl) (by repeat (first | exact Drew.refl _ | apply Drew.drewN | apply Drew.drew))
theorem New_no (n : Int) (w : World) (h : n < 1 ∨ 64 < n) :
   Calls Try.prog 64 #[.int .i64 n] w (Ret (.tuple #[.pointer none, .int .i64 2]) w) := by
  rcases h with h | h
  all_goals
    go_enter Try.func64, Try.ntmps64
    go_wp2
    go_ret2
    exact Ret.of (rfl) (by repeat (first | exact Drew.refl _ | apply Drew.drewN | apply Drew.drew))

theorem New_ok (n : Nat) (w : World) (h1 : 1 ≤ n) (h2 : n ≤ 64) :
   Calls Try.prog 64 #[.int .i64 n] w (Rets (.tuple #[.pointer (some ⟨w.heap.size, 0, none⟩), .int .i64 0]) [] w fun w' => w.heap.size < w'.heap.size ∧ XRun w' w.heap.size ⟨n, 0, false⟩) := by
  go_enter Try.func64, Try.ntmps64
  go_wp2
  go_ret2
  refine Rets.of rfl (Mod.alloc (Mod.refl _ _) _) ⟨by rw [sizeNew]; omega, heapNew _ _, ?_, h2⟩
  simp
end Go.Proofs.Ytbelcmiljjndaaa
