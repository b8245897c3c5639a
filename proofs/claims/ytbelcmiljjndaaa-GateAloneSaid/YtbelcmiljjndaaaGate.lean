/- The walks over package gate: what each method returns and writes, for every gate that New can have made and calls can have turned. -/
import Derived.Test.YtbelcmiljjndaaaSplit
namespace Go.Proofs.Ytbelcmiljjndaaa
set_option linter.unusedVariables false
set_option linter.unusedSimpArgs false
open Go.RowKit

structure SG where
  l : List Int
  st : Int
structure SG.ok (s : SG) : Prop where
  nn : ∀ i, 0 ≤ nth s.l i
  sum : s.l.sum ≤ 1000
  st0 : 0 ≤ s.st
  st1 : s.st ≤ 2
def inR (l : List Int) (c : Int) : Prop := 0 ≤ c ∧ c < l.length
instance (l : List Int) (c : Int) : Decidable (inR l c) := by unfold inR; infer_instance
def SG.enterE (s : SG) (c : Int) : Int := if inR s.l c then (if s.st ≠ 0 then 7 else if 1000 ≤ s.l.sum then 5 else 0) else 3
def SG.enter (s : SG) (c : Int) : SG := if s.enterE c = 0 then { s with l := s.l.set c.toNat (nth s.l c.toNat + 1) } else s
def SG.leaveE (s : SG) (c : Int) : Int := if inR s.l c then (if nth s.l c.toNat = 0 then 12 else 0) else 3
def SG.leave (s : SG) (c : Int) : SG := if s.leaveE c = 0 then { s with l := s.l.set c.toNat (nth s.l c.toNat - 1) } else s
def SG.wantE (s : SG) : Int := if s.st ≠ 0 then 7 else 0
def SG.want (s : SG) : SG := if s.st ≠ 0 then s else { s with st := 1 }
def SG.takeE (s : SG) : Int := if s.st ≠ 1 then 6 else if 0 < s.l.sum then 7 else 0
def SG.take (s : SG) : SG := if s.takeE = 0 then { s with st := 2 } else s
def SG.freeE (s : SG) : Int := if s.st = 0 then 6 else 0
def SG.free (s : SG) : SG := if s.st = 0 then s else { s with st := 0 }

theorem nth_nil (i : Nat) : nth [] i = 0 := by simp [nth]
theorem nth_zero (a : Int) (l : List Int) : nth (a :: l) 0 = a := by simp [nth]
theorem nth_succ (a : Int) (l : List Int) (i : Nat) : nth (a :: l) (i + 1) = nth l i := by simp [nth]
theorem sum_nn : ∀ (l : List Int), (∀ i, 0 ≤ nth l i) → 0 ≤ l.sum
  | [], _ => by simp
  | a :: l, h => by
    have h0 := h 0
    rw [nth_zero] at h0
    have := sum_nn l (fun i => by have := h (i + 1); rwa [nth_succ] at this)
    simp; omega
theorem nth_le_sum : ∀ (l : List Int), (∀ i, 0 ≤ nth l i) → ∀ i, nth l i ≤ l.sum
  | [], _, i => by simp [nth]
  | a :: l, h, 0 => by
    rw [nth_zero]
    have := sum_nn l (fun i => by have := h (i + 1); rwa [nth_succ] at this)
    simp; omega
  | a :: l, h, i + 1 => by
    have h0 := h 0
    rw [nth_zero] at h0
    rw [nth_succ]
    have := nth_le_sum l (fun i => by have := h (i + 1); rwa [nth_succ] at this) i
    simp; omega
theorem nth_out {l : List Int} {i : Nat} (h : l.length ≤ i) : nth l i = 0 := by simp [nth, List.getD, h]

theorem SG.enter_ok {s : SG} (h : s.ok) (c : Int) : (s.enter c).ok := by
  unfold SG.enter
  split
  · rename_i e
    unfold SG.enterE at e
    split at e
    · rename_i hc
      obtain ⟨h1, h2⟩ := hc
      split at e
      · omega
      · split at e
        · omega
        · refine ⟨fun i => ?_, ?_, h.st0, h.st1⟩
          · have := h.nn i
            have := h.nn c.toNat
            rw [nth_set (by omega)]; split <;> omega
          · simp only
            rw [sum_set _ _ _ (by omega)]; omega
    · omega
  · exact h
theorem SG.leave_ok {s : SG} (h : s.ok) (c : Int) : (s.leave c).ok := by
  unfold SG.leave
  split
  · rename_i e
    unfold SG.leaveE at e
    split at e
    · rename_i hc
      obtain ⟨h1, h2⟩ := hc
      split at e
      · omega
      · have hs := h.sum
        refine ⟨fun i => ?_, ?_, h.st0, h.st1⟩
        · have := h.nn i
          have := h.nn c.toNat
          rw [nth_set (by omega)]; split <;> omega
        · simp only
          rw [sum_set _ _ _ (by omega)]; omega
    · omega
  · exact h
theorem SG.want_ok {s : SG} (h : s.ok) : s.want.ok := by
  unfold SG.want; split
  · exact h
  · exact ⟨h.nn, h.sum, by simp, by simp⟩
theorem SG.take_ok {s : SG} (h : s.ok) : s.take.ok := by
  unfold SG.take; split
  · exact ⟨h.nn, h.sum, by simp, by simp⟩
  · exact h
theorem SG.free_ok {s : SG} (h : s.ok) : s.free.ok := by
  unfold SG.free; split
  · exact h
  · exact ⟨h.nn, h.sum, by simp, by simp⟩

/-- A gate at block g, over a number in parts at block b with the row r. -/
structure GateAt (w : World) (g b r : Nat) (s : SG) : Prop where
  hg : w.heap[g]? = some (.cells #[.pointer (some ⟨b, 0, none⟩), .int .i64 s.st] 106 (0,0))
  sp : SplitAt 135 w b r s.l
  nb : g ≠ b
  nr : g ≠ r
  ok : s.ok
theorem GateAt.keep {S : List Nat} {w w' : World} {g b r : Nat} {s : SG} (h : GateAt w g b r s) (m : Mod S w w') (hg : g ∉ S) (hb : b ∉ S) (hr : r ∉ S) : GateAt w' g b r s :=
  ⟨m.keep h.hg hg, h.sp.keep m hb hr, h.nb, h.nr, h.ok⟩
theorem GateAt.same {w w' : World} {g b r : Nat} {s : SG} (h : GateAt w g b r s) (e : w'.heap = w.heap) : GateAt w' g b r s :=
  ⟨by rw [e]; exact h.hg, h.sp.same e, h.nb, h.nr, h.ok⟩


theorem In64_sum {s : SG} (h : s.ok) : In64 s.l.sum := by
  have := sum_nn s.l h.nn
  have := h.sum
  unfold In64; omega
theorem In64_nth {s : SG} (h : s.ok) (i : Nat) : 0 ≤ nth s.l i ∧ nth s.l i ≤ 1000 := by
  have := nth_le_sum s.l h.nn i
  have := h.sum
  have := h.nn i
  omega

theorem gate_State (g b r : Nat) (s : SG) (w : World) (h : GateAt w g b r s) : Calls Try.prog 22 #[.pointer (some ⟨g, 0, none⟩)] w (Ret (.int .i64 s.st) w) := by
  have hst0 := h.ok.st0
  have hst1 := h.ok.st1
  have c0 : w.cell? ⟨g, 0, none⟩ = some (.pointer (some ⟨b, 0, none⟩)) := cellAt h.hg 0
  have c1 : w.cell? ⟨g, 1, none⟩ = some (.int .i64 s.st) := cellAt h.hg 1
  have f1 : w.frozen? ⟨g, 1, none⟩ = false := freeAt h.hg 1
  clear h
  go_enter Try.func22, Try.ntmps22
  go_wp2
  go_ret
  exact Ret.of (rfl) (by repeat (first | exact Drew.refl _ | apply Drew.drewN | apply Drew.drew))

theorem gate_Readers (g b r : Nat) (s : SG) (w : World) (h : GateAt w g b r s) : Calls Try.prog 23 #[.pointer (some ⟨g, 0, none⟩)] w (Ret (.int .i64 s.l.sum) w) := by
  have hst0 := h.ok.st0
  have hst1 := h.ok.st1
  have c0 : w.cell? ⟨g, 0, none⟩ = some (.pointer (some ⟨b, 0, none⟩)) := cellAt h.hg 0
  have c1 : w.cell? ⟨g, 1, none⟩ = some (.int .i64 s.st) := cellAt h.hg 1
  have f1 : w.frozen? ⟨g, 1, none⟩ = false := freeAt h.hg 1
  have e1 : sSumV s.l = s.l.sum := if_pos (In64_sum h.ok)
  have e2 := In64_sum h.ok
  obtain ⟨e3, e4⟩ := e2
  go_enter Try.func23, Try.ntmps23
  go_wp2_with (go_at_call 76; refine (split_Sum b r s.l _ (by exact h.sp.same rfl)).mono ?_; rintro e w' ⟨rfl, k, rfl⟩)
  go_ret
  exact Ret.of (rfl) (by repeat (first | exact Drew.refl _ | apply Drew.drewN | apply Drew.drew))

theorem gate_On (g b r : Nat) (s : SG) (c : Int) (w : World) (h : GateAt w g b r s) : Calls Try.prog 25 #[.pointer (some ⟨g, 0, none⟩), .int .i64 c] w (Ret (.int .i64 (sGet s.l c)) w) := by
  have hst0 := h.ok.st0
  have hst1 := h.ok.st1
  have c0 : w.cell? ⟨g, 0, none⟩ = some (.pointer (some ⟨b, 0, none⟩)) := cellAt h.hg 0
  have c1 : w.cell? ⟨g, 1, none⟩ = some (.int .i64 s.st) := cellAt h.hg 1
  have f1 : w.frozen? ⟨g, 1, none⟩ = false := freeAt h.hg 1
  have hb : -9223372036854775808 ≤ sGet s.l c ∧ sGet s.l c ≤ 9223372036854775807 := by
    have := In64_nth h.ok c.toNat
    unfold sGet; split <;> omega
  obtain ⟨e3, e4⟩ := hb
  go_enter Try.func25, Try.ntmps25
  go_wp2_with (go_at_call 77; refine (split_Get b r s.l _ _ (by exact h.sp.same rfl)).mono ?_; rintro e w' ⟨rfl, k, rfl⟩)
  go_ret
  exact Ret.of (rfl) (by repeat (first | exact Drew.refl _ | apply Drew.drewN | apply Drew.drew))

theorem gate_may (g b r : Nat) (s : SG) (c : Int) (w : World) (h : GateAt w g b r s) : Calls Try.prog 78 #[.pointer (some ⟨g, 0, none⟩), .int .i64 c] w (Ret (.int .i64 (mayE s.l c)) w) := by
  have hst0 := h.ok.st0
  have hst1 := h.ok.st1
  have c0 : w.cell? ⟨g, 0, none⟩ = some (.pointer (some ⟨b, 0, none⟩)) := cellAt h.hg 0
  have c1 : w.cell? ⟨g, 1, none⟩ = some (.int .i64 s.st) := cellAt h.hg 1
  have f1 : w.frozen? ⟨g, 1, none⟩ = false := freeAt h.hg 1
  go_enter Try.func78, Try.ntmps78
  go_wp2_with (go_at_call 77; refine (split_Get b r s.l _ _ (by exact h.sp.same rfl)).mono ?_; rintro e w' ⟨rfl, k, rfl⟩)
  go_ret
  exact Ret.of (rfl) (by repeat (first | exact Drew.refl _ | apply Drew.drewN | apply Drew.drew))

theorem gate_Want (g b r : Nat) (s : SG) (w : World) (h : GateAt w g b r s) : Calls Try.prog 27 #[.pointer (some ⟨g, 0, none⟩)] w (Rets (.int .i64 s.wantE) [g] w fun w' => GateAt w' g b r s.want) := by
  have hok := SG.want_ok h.ok
  have hst0 := h.ok.st0
  have hst1 := h.ok.st1
  have c0 : w.cell? ⟨g, 0, none⟩ = some (.pointer (some ⟨b, 0, none⟩)) := cellAt h.hg 0
  have c1 : w.cell? ⟨g, 1, none⟩ = some (.int .i64 s.st) := cellAt h.hg 1
  have f1 : w.frozen? ⟨g, 1, none⟩ = false := freeAt h.hg 1
  by_cases e : s.st = 0
  · have hE : s.wantE = 0 := by simp [SG.wantE, e]
    have hS : s.want = { s with st := 1 } := by simp [SG.want, e]
    rw [hE, hS]
    rw [hS] at hok
    clear hE hS
    have e' : (s.st == 0) = true := by simp [e]
    have HE := Lib.hid e
    clear e
    go_enter Try.func27, Try.ntmps27
    go_wp2
    go_ret
    refine Rets.of rfl (Mod.setCell (Mod.refl _ _) (by simp) _) ⟨?_, ?_, h.nb, h.nr, hok⟩
    · rw [heapSet h.hg]; simp
    · exact h.sp.keep (Mod.setCell (S := [g]) (Mod.refl _ _) (by simp) _) (by simp [Ne.symm h.nb]) (by simp [Ne.symm h.nr])
  · have hE : s.wantE = 7 := by simp [SG.wantE, e]
    have hS : s.want = s := by simp [SG.want, e]
    rw [hE, hS]
    have e' : (s.st == 0) = false := by simp [e]
    clear hE hS
    go_enter Try.func27, Try.ntmps27
    go_wp2
    go_ret
    exact Rets.of rfl (Mod.refl _ _) h

theorem gate_Free (g b r : Nat) (s : SG) (w : World) (h : GateAt w g b r s) : Calls Try.prog 26 #[.pointer (some ⟨g, 0, none⟩)] w (Rets (.int .i64 s.freeE) [g] w fun w' => GateAt w' g b r s.free) := by
  have hok := SG.free_ok h.ok
  have hst0 := h.ok.st0
  have hst1 := h.ok.st1
  have c0 : w.cell? ⟨g, 0, none⟩ = some (.pointer (some ⟨b, 0, none⟩)) := cellAt h.hg 0
  have c1 : w.cell? ⟨g, 1, none⟩ = some (.int .i64 s.st) := cellAt h.hg 1
  have f1 : w.frozen? ⟨g, 1, none⟩ = false := freeAt h.hg 1
  by_cases e : s.st = 0
  · have hE : s.freeE = 6 := by simp [SG.freeE, e]
    have hS : s.free = s := by simp [SG.free, e]
    rw [hE, hS]
    clear hE hS
    have e' : (s.st == 0) = true := by simp [e]
    clear e
    go_enter Try.func26, Try.ntmps26
    go_wp2
    go_ret
    exact Rets.of rfl (Mod.refl _ _) h
  · have hE : s.freeE = 0 := by simp [SG.freeE, e]
    have hS : s.free = { s with st := 0 } := by simp [SG.free, e]
    rw [hE, hS]
    rw [hS] at hok
    have e' : (s.st == 0) = false := by simp [e]
    clear hE hS
    go_enter Try.func26, Try.ntmps26
    go_wp2
    go_ret
    refine Rets.of rfl (Mod.setCell (Mod.refl _ _) (by simp) _) ⟨?_, ?_, h.nb, h.nr, hok⟩
    · rw [heapSet h.hg]; simp
    · exact h.sp.keep (Mod.setCell (S := [g]) (Mod.refl _ _) (by simp) _) (by simp [Ne.symm h.nb]) (by simp [Ne.symm h.nr])

theorem gate_Take (g b r : Nat) (s : SG) (w : World) (h : GateAt w g b r s) : Calls Try.prog 30 #[.pointer (some ⟨g, 0, none⟩)] w (Rets (.int .i64 s.takeE) [g] w fun w' => GateAt w' g b r s.take) := by
  have hok := SG.take_ok h.ok
  have hst0 := h.ok.st0
  have hst1 := h.ok.st1
  have c0 : w.cell? ⟨g, 0, none⟩ = some (.pointer (some ⟨b, 0, none⟩)) := cellAt h.hg 0
  have c1 : w.cell? ⟨g, 1, none⟩ = some (.int .i64 s.st) := cellAt h.hg 1
  have f1 : w.frozen? ⟨g, 1, none⟩ = false := freeAt h.hg 1
  by_cases e : s.st = 1
  · have e' : (s.st == 1) = true := by simp [e]
    by_cases hp : 0 < s.l.sum
    · have hE : s.takeE = 7 := by simp [SG.takeE, e, hp]
      have hS : s.take = s := by simp [SG.take, hE]
      rw [hE, hS]
      clear hE hS e
      go_enter Try.func30, Try.ntmps30
      go_wp2_with (go_at_call 23; refine (gate_Readers g b r s _ (by exact h.same rfl)).mono ?_; rintro e w' ⟨rfl, k, rfl⟩)
      go_ret
      exact Rets.of rfl ((Mod.refl _ _).drewN _) (h.same rfl)
    · have hE : s.takeE = 0 := by simp [SG.takeE, e, hp]
      have hS : s.take = { s with st := 2 } := by simp [SG.take, hE]
      rw [hE, hS]
      rw [hS] at hok
      clear hE hS e
      go_enter Try.func30, Try.ntmps30
      go_wp2_with (go_at_call 23; refine (gate_Readers g b r s _ (by exact h.same rfl)).mono ?_; rintro e w' ⟨rfl, k, rfl⟩)
      go_ret
      refine Rets.of rfl (Mod.setCell ((Mod.refl _ _).drewN _) (by simp) _) ⟨?_, ?_, h.nb, h.nr, hok⟩
      · rw [heapSet (w := w.drewN k) h.hg]; simp
      · exact h.sp.keep (Mod.setCell (S := [g]) ((Mod.refl _ _).drewN _) (by simp) _) (by simp [Ne.symm h.nb]) (by simp [Ne.symm h.nr])
  · have hE : s.takeE = 6 := by simp [SG.takeE, e]
    have hS : s.take = s := by simp [SG.take, hE]
    rw [hE, hS]
    have e' : (s.st == 1) = false := by simp [e]
    clear hE hS e
    go_enter Try.func30, Try.ntmps30
    go_wp2
    go_ret
    exact Rets.of rfl (Mod.refl _ _) h

theorem gate_Enter (g b r : Nat) (s : SG) (c : Int) (w : World) (h : GateAt w g b r s) : Calls Try.prog 28 #[.pointer (some ⟨g, 0, none⟩), .int .i64 c] w (Rets (.int .i64 (s.enterE c)) [r] w fun w' => GateAt w' g b r (s.enter c)) := by
  have hok := SG.enter_ok h.ok c
  have hst0 := h.ok.st0
  have hst1 := h.ok.st1
  have c0 : w.cell? ⟨g, 0, none⟩ = some (.pointer (some ⟨b, 0, none⟩)) := cellAt h.hg 0
  have c1 : w.cell? ⟨g, 1, none⟩ = some (.int .i64 s.st) := cellAt h.hg 1
  have f1 : w.frozen? ⟨g, 1, none⟩ = false := freeAt h.hg 1
  by_cases hc : inR s.l c
  · have hM : mayE s.l c = 0 := if_pos hc
    by_cases e : s.st = 0
    · have e' : (s.st == 0) = true := by simp [e]
      by_cases hs : 1000 ≤ s.l.sum
      · have hE : s.enterE c = 5 := by simp [SG.enterE, hc, e, hs]
        have hS : s.enter c = s := by simp [SG.enter, hE]
        rw [hE, hS]
        clear hE hS e hc
        go_enter Try.func28, Try.ntmps28
        go_wp2_with (first | (go_at_call 78; refine (gate_may g b r s c _ (by exact h.same rfl)).mono ?_; rintro e w' ⟨rfl, k, rfl⟩) | (go_at_call 23; refine (gate_Readers g b r s _ (by exact h.same rfl)).mono ?_; rintro e w' ⟨rfl, k2, rfl⟩))
        go_ret
        exact Rets.of rfl ((Mod.refl _ _).drewN _) (h.same rfl)
      · have hE : s.enterE c = 0 := by simp [SG.enterE, hc, e, hs]
        have hn := In64_nth h.ok c.toNat
        have hI : In64 (nth s.l c.toNat + 1) := by unfold In64; omega
        have hA : sAddE s.l c 1 = 0 := by unfold sAddE addE; rw [if_pos (show 0 ≤ c ∧ c < s.l.length from hc), if_pos hI]
        have hL : sAdd s.l c 1 = s.l.set c.toNat (nth s.l c.toNat + 1) := if_pos ⟨hc, hI⟩
        have hS : s.enter c = { s with l := sAdd s.l c 1 } := by simp only [SG.enter, hE, if_true, hL]
        rw [hE, hS]
        rw [hS] at hok
        clear hE hS e hc hL hI
        go_enter Try.func28, Try.ntmps28
        go_wp2_with (first | (go_at_call 78; refine (gate_may g b r s c _ (by exact h.same rfl)).mono ?_; rintro e w' ⟨rfl, k, rfl⟩) | (go_at_call 23; refine (gate_Readers g b r s _ (by exact h.same rfl)).mono ?_; rintro e w' ⟨rfl, k2, rfl⟩) | (go_at_call 79; refine (split_Add b r s.l c 1 (by decide) _ (by exact h.sp.same rfl)).mono ?_; rintro e w1 ⟨rfl, m1, x1⟩))
        go_ret
        exact Rets.of rfl (((Mod.refl _ _).drewN _).trans m1 (by simp)) ⟨m1.keep (w := w.drewN _) h.hg (by simp [h.nr]), x1, h.nb, h.nr, hok⟩
    · have e' : (s.st == 0) = false := by simp [e]
      have hE : s.enterE c = 7 := by simp [SG.enterE, hc, e]
      have hS : s.enter c = s := by simp [SG.enter, hE]
      rw [hE, hS]
      clear hE hS e hc
      go_enter Try.func28, Try.ntmps28
      go_wp2_with (go_at_call 78; refine (gate_may g b r s c _ (by exact h.same rfl)).mono ?_; rintro e w' ⟨rfl, k, rfl⟩)
      go_ret
      exact Rets.of rfl ((Mod.refl _ _).drewN _) (h.same rfl)
  · have hM : mayE s.l c = 3 := if_neg hc
    have hE : s.enterE c = 3 := by simp [SG.enterE, hc]
    have hS : s.enter c = s := by simp [SG.enter, hE]
    rw [hE, hS]
    clear hE hS hc
    go_enter Try.func28, Try.ntmps28
    go_wp2_with (go_at_call 78; refine (gate_may g b r s c _ (by exact h.same rfl)).mono ?_; rintro e w' ⟨rfl, k, rfl⟩)
    go_ret
    exact Rets.of rfl ((Mod.refl _ _).drewN _) (h.same rfl)

theorem gate_Leave (g b r : Nat) (s : SG) (c : Int) (w : World) (h : GateAt w g b r s) : Calls Try.prog 29 #[.pointer (some ⟨g, 0, none⟩), .int .i64 c] w (Rets (.int .i64 (s.leaveE c)) [r] w fun w' => GateAt w' g b r (s.leave c)) := by
  have hok := SG.leave_ok h.ok c
  have hst0 := h.ok.st0
  have hst1 := h.ok.st1
  have c0 : w.cell? ⟨g, 0, none⟩ = some (.pointer (some ⟨b, 0, none⟩)) := cellAt h.hg 0
  have c1 : w.cell? ⟨g, 1, none⟩ = some (.int .i64 s.st) := cellAt h.hg 1
  have f1 : w.frozen? ⟨g, 1, none⟩ = false := freeAt h.hg 1
  by_cases hc : inR s.l c
  · have hM : mayE s.l c = 0 := if_pos hc
    have hG : sGet s.l c = nth s.l c.toNat := if_pos hc
    by_cases e : nth s.l c.toNat = 0
    · have hE : s.leaveE c = 12 := by simp [SG.leaveE, hc, e]
      have hS : s.leave c = s := by simp [SG.leave, hE]
      rw [hE, hS]
      rw [e] at hG
      clear hE hS hc e
      go_enter Try.func29, Try.ntmps29
      go_wp2_with (first | (go_at_call 78; refine (gate_may g b r s c _ (by exact h.same rfl)).mono ?_; rintro e w' ⟨rfl, k, rfl⟩) | (go_at_call 25; refine (gate_On g b r s c _ (by exact h.same rfl)).mono ?_; rintro e w' ⟨rfl, k2, rfl⟩))
      go_ret
      exact Rets.of rfl ((Mod.refl _ _).drewN _) (h.same rfl)
    · have e' : (nth s.l c.toNat == 0) = false := by simp [e]
      have hE : s.leaveE c = 0 := by simp [SG.leaveE, hc, e]
      have hn := In64_nth h.ok c.toNat
      have hI : In64 (nth s.l c.toNat + -1) := by unfold In64; omega
      have hA : sAddE s.l c (-1) = 0 := by unfold sAddE addE; rw [if_pos (show 0 ≤ c ∧ c < s.l.length from hc), if_pos hI]
      have hL : sAdd s.l c (-1) = s.l.set c.toNat (nth s.l c.toNat + -1) := if_pos ⟨hc, hI⟩
      have hS : s.leave c = { s with l := sAdd s.l c (-1) } := by simp only [SG.leave, hE, if_true, hL]; rfl
      rw [hE, hS]
      rw [hS] at hok
      clear hE hS e hc hL hI
      go_enter Try.func29, Try.ntmps29
      go_wp2_with (first | (go_at_call 78; refine (gate_may g b r s c _ (by exact h.same rfl)).mono ?_; rintro e w' ⟨rfl, k, rfl⟩) | (go_at_call 25; refine (gate_On g b r s c _ (by exact h.same rfl)).mono ?_; rintro e w' ⟨rfl, k2, rfl⟩) | (go_at_call 79; refine (split_Add b r s.l c (-1) (by decide) _ (by exact h.sp.same rfl)).mono ?_; rintro e w1 ⟨rfl, m1, x1⟩))
      go_ret
      exact Rets.of rfl (((Mod.refl _ _).drewN _).trans m1 (by simp)) ⟨m1.keep (w := w.drewN _) h.hg (by simp [h.nr]), x1, h.nb, h.nr, hok⟩
  · have hM : mayE s.l c = 3 := if_neg hc
    have hE : s.leaveE c = 3 := by simp [SG.leaveE, hc]
    have hS : s.leave c = s := by simp [SG.leave, hE]
    rw [hE, hS]
    clear hE hS hc
    go_enter Try.func29, Try.ntmps29
    go_wp2_with (go_at_call 78; refine (gate_may g b r s c _ (by exact h.same rfl)).mono ?_; rintro e w' ⟨rfl, k, rfl⟩)
    go_ret
    exact Rets.of rfl ((Mod.refl _ _).drewN _) (h.same rfl)

theorem gate_New_no (n : Int) (w : World) (h : n < 1 ∨ 64 < n) : Calls Try.prog 18 #[.int .i64 n] w (Ret (.tuple #[.pointer none, .int .i64 2]) w) := by
  go_enter Try.func18, Try.ntmps18
  go_wp2_with (go_at_call 70; refine (split_New_no n _ h).mono ?_; rintro e w' ⟨rfl, k, rfl⟩)
  go_ret2
  exact Ret.of (rfl) (by repeat (first | exact Drew.refl _ | apply Drew.drewN | apply Drew.drew))
/-- A gate of n cores has been made, in new blocks. -/
def GateNew (n : Nat) (w : World) (e : Ending) (w' : World) : Prop :=
  ∃ g b r, e = .returned (.tuple #[.pointer (some ⟨g, 0, none⟩), .int .i64 0]) ∧ Mod [] w w' ∧ (w.heap.size ≤ g ∧ w.heap.size ≤ b ∧ w.heap.size ≤ r) ∧ GateAt w' g b r ⟨List.replicate n 0, 0⟩
theorem sum_rep : ∀ n, (List.replicate n (0 : Int)).sum = 0
  | 0 => rfl
  | n + 1 => by rw [List.replicate_succ, List.sum_cons, sum_rep n]; rfl
theorem gate_New_ok (n : Nat) (w : World) (h1 : 1 ≤ n) (h2 : n ≤ 64) : Calls Try.prog 18 #[.int .i64 n] w (GateNew n w) := by
  go_enter Try.func18, Try.ntmps18
  go_wp2_with (go_at_call 70; refine (split_New_ok n _ h1 h2).mono ?_; rintro e w1 ⟨rfl, m1, hs1, x1⟩)
  go_ret2
  refine ⟨w1.heap.size, w.heap.size + 1, w.heap.size, rfl, m1.alloc _, ⟨by omega, by omega, by omega⟩, heapNew _ _, x1.alloc _, by omega, by omega, ?_⟩
  exact ⟨fun i => by rw [nth_rep]; omega, by rw [sum_rep]; omega, by simp, by simp⟩

theorem gate_State_nil (w : World) : Calls Try.prog 22 #[.pointer none] w (Ret (.int .i64 0) w) := by
  go_enter Try.func22, Try.ntmps22
  go_wp2
  go_ret
  exact Ret.of (rfl) (by repeat (first | exact Drew.refl _ | apply Drew.drewN | apply Drew.drew))
theorem gate_Readers_nil (w : World) : Calls Try.prog 23 #[.pointer none] w (Ret (.int .i64 0) w) := by
  go_enter Try.func23, Try.ntmps23
  go_wp2
  go_ret
  exact Ret.of (rfl) (by repeat (first | exact Drew.refl _ | apply Drew.drewN | apply Drew.drew))
theorem gate_Want_nil (w : World) : Calls Try.prog 27 #[.pointer none] w (Ret (.int .i64 1) w) := by
  go_enter Try.func27, Try.ntmps27
  go_wp2
  go_ret
  exact Ret.of (rfl) (by repeat (first | exact Drew.refl _ | apply Drew.drewN | apply Drew.drew))
theorem gate_Take_nil (w : World) : Calls Try.prog 30 #[.pointer none] w (Ret (.int .i64 1) w) := by
  go_enter Try.func30, Try.ntmps30
  go_wp2
  go_ret
  exact Ret.of (rfl) (by repeat (first | exact Drew.refl _ | apply Drew.drewN | apply Drew.drew))
theorem gate_Free_nil (w : World) : Calls Try.prog 26 #[.pointer none] w (Ret (.int .i64 1) w) := by
  go_enter Try.func26, Try.ntmps26
  go_wp2
  go_ret
  exact Ret.of (rfl) (by repeat (first | exact Drew.refl _ | apply Drew.drewN | apply Drew.drew))
theorem gate_On_nil (c : Int) (w : World) : Calls Try.prog 25 #[.pointer none, .int .i64 c] w (Ret (.int .i64 0) w) := by
  go_enter Try.func25, Try.ntmps25
  go_wp2
  go_ret
  exact Ret.of (rfl) (by repeat (first | exact Drew.refl _ | apply Drew.drewN | apply Drew.drew))
theorem gate_may_nil (c : Int) (w : World) : Calls Try.prog 78 #[.pointer none, .int .i64 c] w (Ret (.int .i64 1) w) := by
  go_enter Try.func78, Try.ntmps78
  go_wp2
  go_ret
  exact Ret.of (rfl) (by repeat (first | exact Drew.refl _ | apply Drew.drewN | apply Drew.drew))
theorem gate_Enter_nil (c : Int) (w : World) : Calls Try.prog 28 #[.pointer none, .int .i64 c] w (Ret (.int .i64 1) w) := by
  go_enter Try.func28, Try.ntmps28
  go_wp2_with (go_at_call 78; refine (gate_may_nil _ _).mono ?_; rintro e w' ⟨rfl, k, rfl⟩)
  go_ret
  exact Ret.of (rfl) (by repeat (first | exact Drew.refl _ | apply Drew.drewN | apply Drew.drew))
theorem gate_Leave_nil (c : Int) (w : World) : Calls Try.prog 29 #[.pointer none, .int .i64 c] w (Ret (.int .i64 1) w) := by
  go_enter Try.func29, Try.ntmps29
  go_wp2_with (go_at_call 78; refine (gate_may_nil _ _).mono ?_; rintro e w' ⟨rfl, k, rfl⟩)
  go_ret
  exact Ret.of (rfl) (by repeat (first | exact Drew.refl _ | apply Drew.drewN | apply Drew.drew))

end Go.Proofs.Ytbelcmiljjndaaa
