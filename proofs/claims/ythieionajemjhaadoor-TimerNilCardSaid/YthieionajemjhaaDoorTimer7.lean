/- The walks over package timer at nil, over package davitlaw14's known and over TimerNil. No condition but those named. -/
import Derived.Test.YthieionajemjhaaDoorTimer6
import Derived.Test.YthieionajemjhaaDoorArgs
namespace Go.Proofs.YthieionajemjhaaDoor
set_option linter.unusedVariables false
set_option linter.unusedSimpArgs false
open Go.RowKit
theorem On.callT {P : Program} {f : FuncId} {args : Array Value} {v : Value} {w0 u : World} {l : List Res} {R R' : Res} (h : On [] w0 l u) (hT : Tab w0) (k : Nat) (hk : l[k]? = some R) (hc : ∀ F, R.holds F u → Tab u → tzL_ren.g 1 ∉ F → Calls P f args u (Turns R' F v u)) :
    Calls P f args u (fun e u' => e = .returned v ∧ On [] w0 (l.set k R') u') := by
  obtain ⟨F, h1, h2, h3⟩ := h.gain (P' := R') k hk
  have ht := hT.lt
  refine (hc F h1 (hT.keep h.mod (by simp)) (fun hb => ?_)).mono ?_
  · rcases h2 _ hb with h | h
    · cases h
    · omega
  · rintro e u' ⟨rfl, g⟩
    exact ⟨rfl, h3 g⟩
/-- A call that only reads what lies at k. -/
theorem On.tell {P : Program} {f : FuncId} {args : Array Value} {v : Value} {F0 : List Nat} {w0 u : World} {l : List Res} {R : Res} (h : On F0 w0 l u) (k : Nat) (hk : l[k]? = some R) (hc : ∀ F, R.holds F u → Calls P f args u (fun e u' => e = .returned v ∧ Mod [] u u')) :
    Calls P f args u (fun e u' => e = .returned v ∧ On F0 w0 l u' ∧ Mod [] u u') := by
  obtain ⟨F, h1⟩ := h.get k hk
  refine (hc F h1).mono ?_
  rintro e u' ⟨rfl, m⟩
  exact ⟨rfl, h.keep m, m⟩
theorem Ret.m {v : Value} {w w' : World} {e : Ending} (h : Ret v w e w') : e = .returned v ∧ Mod [] w w' := ⟨h.1, h.2.mod⟩
theorem timers_may_nil (a : Option Addr) (n c : Nat) (w : World) : Calls Tryd.prog 31 #[.pointer none, .slice a n c] w (Ret (.int .i64 1) w) := by
  go_enter Tryd.func31, Tryd.ntmps31
  go_wp2
  go_ret
  exact Ret.of (rfl) (by repeat (first | exact Drew.refl _ | apply Drew.drewN | apply Drew.drew))
/-- The call ends with v and leaves what was there. -/
def Nothing (v : Value) (w : World) (e : Ending) (w' : World) : Prop := e = .returned v ∧ Mod [] w w'
theorem timers_Arm_nil (c n : Int) (w : World) : Calls Tryd.prog 8 #[.pointer none, .int .i64 c, .int .i64 n] w (Nothing (.tuple #[.int .i64 0, .int .i64 1]) w) := by
  go_enter Tryd.func8, Tryd.ntmps8
  go_wp2_with (go_at_call 31; refine (timers_may_nil _ _ _ _).mono ?_; rintro e w' ⟨rfl, k, rfl⟩)
  first | go_ret2 | go_ret
  refine ⟨rfl, ?_⟩
  repeat (first | with_reducible exact Mod.refl _ _ | with_reducible apply Mod.alloc | with_reducible apply Mod.drewN | with_reducible apply Mod.drew | with_reducible refine Mod.setCell ?_ (by first | (simp; done) | (simp; omega)) _)
theorem timers_Fire_nil (c : Int) (w : World) : Calls Tryd.prog 12 #[.pointer none, .int .i64 c] w (Nothing (.tuple #[.int .i64 0, .int .i64 1]) w) := by
  go_enter Tryd.func12, Tryd.ntmps12
  go_wp2_with (go_at_call 31; refine (timers_may_nil _ _ _ _).mono ?_; rintro e w' ⟨rfl, k, rfl⟩)
  first | go_ret2 | go_ret
  refine ⟨rfl, ?_⟩
  repeat (first | with_reducible exact Mod.refl _ _ | with_reducible apply Mod.alloc | with_reducible apply Mod.drewN | with_reducible apply Mod.drew | with_reducible refine Mod.setCell ?_ (by first | (simp; done) | (simp; omega)) _)
theorem timers_Next_nil (c : Int) (w : World) : Calls Tryd.prog 16 #[.pointer none, .int .i64 c] w (Nothing (.tuple #[.int .i64 0, .int .i64 1]) w) := by
  go_enter Tryd.func16, Tryd.ntmps16
  go_wp2_with (go_at_call 31; refine (timers_may_nil _ _ _ _).mono ?_; rintro e w' ⟨rfl, k, rfl⟩)
  first | go_ret2 | go_ret
  refine ⟨rfl, ?_⟩
  repeat (first | with_reducible exact Mod.refl _ _ | with_reducible apply Mod.alloc | with_reducible apply Mod.drewN | with_reducible apply Mod.drew | with_reducible refine Mod.setCell ?_ (by first | (simp; done) | (simp; omega)) _)
theorem timers_Move_nil (c d : Int) (w : World) : Calls Tryd.prog 9 #[.pointer none, .int .i64 c, .int .i64 d] w (Nothing (.tuple #[.int .i64 0, .int .i64 1]) w) := by
  go_enter Tryd.func9, Tryd.ntmps9
  go_wp2_with (go_at_call 31; refine (timers_may_nil _ _ _ _).mono ?_; rintro e w' ⟨rfl, k, rfl⟩)
  first | go_ret2 | go_ret
  refine ⟨rfl, ?_⟩
  repeat (first | with_reducible exact Mod.refl _ _ | with_reducible apply Mod.alloc | with_reducible apply Mod.drewN | with_reducible apply Mod.drew | with_reducible refine Mod.setCell ?_ (by first | (simp; done) | (simp; omega)) _)
theorem timers_Go_nil (n : Int) (w : World) : Calls Tryd.prog 10 #[.pointer none, .int .i64 n] w (Nothing (.int .i64 1) w) := by
  go_enter Tryd.func10, Tryd.ntmps10
  go_wp2_with (go_at_call 31; refine (timers_may_nil _ _ _ _).mono ?_; rintro e w' ⟨rfl, k, rfl⟩)
  first | go_ret2 | go_ret
  refine ⟨rfl, ?_⟩
  repeat (first | with_reducible exact Mod.refl _ _ | with_reducible apply Mod.alloc | with_reducible apply Mod.drewN | with_reducible apply Mod.drew | with_reducible refine Mod.setCell ?_ (by first | (simp; done) | (simp; omega)) _)
theorem timers_Ready_nil (c : Int) (w : World) : Calls Tryd.prog 11 #[.pointer none, .int .i64 c] w (Nothing (.bool false) w) := by
  go_enter Tryd.func11, Tryd.ntmps11
  go_wp2_with (go_at_call 31; refine (timers_may_nil _ _ _ _).mono ?_; rintro e w' ⟨rfl, k, rfl⟩)
  first | go_ret2 | go_ret
  refine ⟨rfl, ?_⟩
  repeat (first | with_reducible exact Mod.refl _ _ | with_reducible apply Mod.alloc | with_reducible apply Mod.drewN | with_reducible apply Mod.drew | with_reducible refine Mod.setCell ?_ (by first | (simp; done) | (simp; omega)) _)
theorem timers_Load_nil (c : Int) (w : World) : Calls Tryd.prog 24 #[.pointer none, .int .i64 c] w (Nothing (.int .i64 0) w) := by
  go_enter Tryd.func24, Tryd.ntmps24
  go_wp2_with (go_at_call 31; refine (timers_may_nil _ _ _ _).mono ?_; rintro e w' ⟨rfl, k, rfl⟩)
  first | go_ret2 | go_ret
  refine ⟨rfl, ?_⟩
  repeat (first | with_reducible exact Mod.refl _ _ | with_reducible apply Mod.alloc | with_reducible apply Mod.drewN | with_reducible apply Mod.drew | with_reducible refine Mod.setCell ?_ (by first | (simp; done) | (simp; omega)) _)
theorem timers_List_nil (c : Int) (w : World) : Calls Tryd.prog 26 #[.pointer none, .int .i64 c] w (Nothing (.slice none 0 0) w) := by
  go_enter Tryd.func26, Tryd.ntmps26
  go_wp2_with (go_at_call 31; refine (timers_may_nil _ _ _ _).mono ?_; rintro e w' ⟨rfl, k, rfl⟩)
  first | go_ret2 | go_ret
  refine ⟨rfl, ?_⟩
  repeat (first | with_reducible exact Mod.refl _ _ | with_reducible apply Mod.alloc | with_reducible apply Mod.drewN | with_reducible apply Mod.drew | with_reducible refine Mod.setCell ?_ (by first | (simp; done) | (simp; omega)) _)
theorem timers_Where_nil (id : Int) (w : World) : Calls Tryd.prog 18 #[.pointer none, .int .i64 id] w (Ret (.tuple #[.int .i64 0, .bool false]) w) := by
  go_enter Tryd.func18, Tryd.ntmps18
  go_wp2
  go_ret2
  exact Ret.of (rfl) (by repeat (first | exact Drew.refl _ | apply Drew.drewN | apply Drew.drew))
theorem timers_When_nil (id : Int) (w : World) : Calls Tryd.prog 20 #[.pointer none, .int .i64 id] w (Ret (.tuple #[.int .i64 0, .bool false]) w) := by
  go_enter Tryd.func20, Tryd.ntmps20
  go_wp2_with (go_at_call 18; refine (timers_Where_nil _ _).mono ?_; rintro e w' ⟨rfl, k, rfl⟩)
  go_ret2
  exact Ret.of (rfl) (by repeat (first | exact Drew.refl _ | apply Drew.drewN | apply Drew.drew))
theorem timers_Cancel_nil (id : Int) (w : World) : Calls Tryd.prog 28 #[.pointer none, .int .i64 id] w (Ret (.int .i64 1) w) := by
  go_enter Tryd.func28, Tryd.ntmps28
  go_wp2_with (go_at_call 18; refine (timers_Where_nil _ _).mono ?_; rintro e w' ⟨rfl, k, rfl⟩)
  go_ret
  exact Ret.of (rfl) (by repeat (first | exact Drew.refl _ | apply Drew.drewN | apply Drew.drew))
theorem timers_Now_nil (w : World) : Calls Tryd.prog 27 #[.pointer none] w (Ret (.int .i64 0) w) := by
  go_enter Tryd.func27, Tryd.ntmps27
  go_wp2
  go_ret
  exact Ret.of (rfl) (by repeat (first | exact Drew.refl _ | apply Drew.drewN | apply Drew.drew))
def k14a : TA := (ta0 2).arm 0 5
def k14b : TA := (k14a.fire 0).go 5
def k14c : TA := k14b.fire 0
set_option maxRecDepth 100000 in
set_option maxHeartbeats 1000000 in
theorem timer_known (w : World) (hT : Tab w) : Calls Tryd.prog 7 #[] w (Rets (.bool true) [] w fun _ => True) := by
  have hN := (On.start w).make (timers_New 2 (by omega) (by omega) w)
  have e1 : (ta0 2).armV 0 5 = 1 := by decide
  have e2 : (ta0 2).armE 0 5 = 0 := by decide
  have e3 : k14a.fireV 0 = 0 := by decide
  have e4 : k14a.fireE 0 = 12 := by decide
  have e5 : (k14a.fire 0).goE 5 = 0 := by decide
  have e6 : k14b.fireV 0 = 1 := by decide
  have e7 : k14b.fireE 0 = 0 := by decide
  have e8 : k14c.now = 5 := by decide
  go_enter Tryd.func7, Tryd.ntmps7
  go_wp2_with (first
    | (
      go_at_call 6
      refine hN.mono ?_
      rintro e w1 ⟨d, rfl, h1⟩
      )
    | (
      go_at_call 8
      refine (h1.callT hT 0 rfl (fun F hF hT' hn => timers_Arm hF hT' hn 0 5)).mono ?_
      rintro e w2 ⟨rfl, h2⟩
      rw [e1, e2]
      have h2 : On [] w [timersA d k14a] w2 := h2
      )
    | (
      go_at_call 12
      have hh := h2
      refine (h2.call 0 rfl (fun F hF => timers_Fire hF 0)).mono ?_
      rintro e w3 ⟨rfl, h3⟩
      rw [e3, e4]
      have h3 : On [] w [timersA d (k14a.fire 0)] w3 := h3
      clear hh h2
      )
    | (
      go_at_call 10
      refine (h3.call 0 rfl (fun F hF => timers_Go hF 5)).mono ?_
      rintro e w4 ⟨rfl, h4⟩
      rw [e5]
      have h4 : On [] w [timersA d k14b] w4 := h4
      )
    | (
      go_at_call 12
      refine (h4.call 0 rfl (fun F hF => timers_Fire hF 0)).mono ?_
      rintro e w5 ⟨rfl, h5⟩
      rw [e6, e7]
      have h5 : On [] w [timersA d k14c] w5 := h5
      )
    | (
      go_at_call 27
      refine (h5.tell 0 rfl (fun F hF => (timers_Now hF).mono fun e u => Ret.m)).mono ?_
      rintro e w6 ⟨rfl, h6, m6⟩
      rw [e8]
      )
    )
  go_ret
  exact Rets.of rfl h6.mod trivial
set_option maxRecDepth 100000 in
set_option maxHeartbeats 1000000 in
theorem TimerNil_walk (w : World) (hT : Tab w) (cpu : Int) (_h0 : (Lit.int .i64 cpu).wf = true) (n : Int) (_h1 : (Lit.int .i64 n).wf = true) : Calls Tryd.prog 5 #[.int .i64 cpu, .int .i64 n] w (Rets (.bool true) [] w fun _ => True) := by
  clear _h0 _h1
  go_enter Tryd.func5, Tryd.ntmps5
  go_wp2_with (first
    | (go_at_call 8; refine (timers_Arm_nil _ _ _).mono ?_; rintro e w1 ⟨rfl, m1⟩)
    | (go_at_call 12; refine (timers_Fire_nil _ _).mono ?_; rintro e w2 ⟨rfl, m2⟩)
    | (go_at_call 16; refine (timers_Next_nil _ _).mono ?_; rintro e w3 ⟨rfl, m3⟩)
    | (go_at_call 9; refine (timers_Move_nil _ _ _).mono ?_; rintro e w4 ⟨rfl, m4⟩)
    | (go_at_call 18; refine (timers_Where_nil _ _).mono ?_; rintro e w5 ⟨rfl, k5, rfl⟩)
    | (go_at_call 20; refine (timers_When_nil _ _).mono ?_; rintro e w5 ⟨rfl, k6, rfl⟩)
    | (go_at_call 28; refine (timers_Cancel_nil _ _).mono ?_; rintro e w5 ⟨rfl, k7, rfl⟩)
    | (go_at_call 10; refine (timers_Go_nil _ _).mono ?_; rintro e w8 ⟨rfl, m8⟩)
    | (go_at_call 27; refine (timers_Now_nil _).mono ?_; rintro e w5 ⟨rfl, k9, rfl⟩)
    | (go_at_call 11; refine (timers_Ready_nil _ _).mono ?_; rintro e w10 ⟨rfl, m10⟩)
    | (go_at_call 24; refine (timers_Load_nil _ _).mono ?_; rintro e w11 ⟨rfl, m11⟩)
    | (go_at_call 26; refine (timers_List_nil _ _).mono ?_; rintro e w12 ⟨rfl, m12⟩)
    | (
      go_at_call 7
      have M4 : Mod [] w w4 := ((m1.trans m2 (by simp)).trans m3 (by simp)).trans m4 (by simp)
      have M12 : Mod [] w w12 := (((M4.trans m8.undrewN (by simp)).trans m10.undrewN (by simp)).trans m11 (by simp)).trans m12 (by simp)
      refine (timer_known _ (hT.keep M12 (by simp))).mono ?_
      rintro e w13 ⟨rfl, m13, _⟩
      )
    )
  go_ret
  exact Rets.of rfl (M12.trans m13 (by simp)) trivial
end Go.Proofs.YthieionajemjhaaDoor
