/- The walk over TimerPlays. No condition. -/
import Derived.Test.YthieionajemjhaaDoorTimerRefM
namespace Go.Proofs.YthieionajemjhaaDoor
set_option linter.unusedVariables false
set_option linter.unusedSimpArgs false
open Go.RowKit
theorem rtimers_cells {r : Nat} {A : TA} {F : List Nat} {u : World} (h : (rtimersA r A).holds F u) (h1 : 1 ≤ A.n) : ∃ gb cap r0, A.n ≤ cap ∧ cap ≤ maxLen ∧ u.cell? ⟨r, 0, none⟩ = some (.slice (some ⟨gb, 0, none⟩) A.n cap) ∧ u.cell? ⟨gb, 0, none⟩ = some (.pointer (some ⟨r0, 0, none⟩)) ∧ u.cell? ⟨r0, 0, none⟩ = some (.int .i64 A.now) := by
  obtain ⟨p, hA⟩ := rtimersA_view h
  obtain ⟨hc1, hc2⟩ := hA.rcap
  obtain ⟨F1, g, cap, _, hw⟩ := hA.rwheel (c := 0) h1
  exact ⟨p.gb, p.cap, p.D 0, hc1, hc2, hA.rcells, hA.rptr h1, cellAt hw.obj 0⟩
theorem On.newIntsOf {P : Program} {f : FuncId} {args : Array Value} {x : List Int} {F0 : List Nat} {w0 u : World} {l : List Res} {R : Res} (h : On F0 w0 l u) (k : Nat) (hk : l[k]? = some R) (hc : ∀ F, R.holds F u → Calls P f args u (NewInts x u)) :
    Calls P f args u (fun e u' => ∃ a c, e = .returned (.slice a x.length c) ∧ On F0 w0 (l ++ [intsR a x]) u' ∧ Mod [] u u') := by
  obtain ⟨F, h1⟩ := h.get k hk
  refine (hc F h1).mono ?_
  rintro e u' ⟨a, c, rfl, m, i, n⟩
  exact ⟨a, c, rfl, h.newInts m i n, m⟩
def TA.all (A : TA) (a : Act14) : Prop := (A.list a.cpu).length ≤ 48
theorem list_len {A : TA} (hf : A.few) (cpu : Int) : (A.list cpu).length ≤ 48 := by
  unfold TA.list
  split
  · rename_i hi
    unfold idsOf
    rw [List.length_map]
    exact hf _ (by have := hi.1; have := hi.2; omega)
  · simp
set_option maxRecDepth 100000 in
set_option maxHeartbeats 8000000 in
theorem TimerPlays_walk (w : World) (hT : Tab w) (n : Int) (_hn : (Lit.int .i64 n).wf = true) (a : Option Addr) (len cap : Nat) (A0 : Nat → Act14) (hA : IsArr 5 Act14.vals Act14.ok w a len cap A0) :
    Calls Tryd.prog 4 #[.int .i64 n, .slice a len cap] w (Rets (.bool true) [] w fun _ => True) := by
  have hlc := hA.1
  have hcm := hA.2.1
  unfold maxLen at hcm
  by_cases hT0 : 1 ≤ n ∧ n ≤ 64
  case neg =>
    have hN := timers_New_no n hT0
    have hR := rtimers_New_no n hT0
    clear hA hT0
    go_enter Tryd.func4, Tryd.ntmps4
    go_wp2_with (first
      | (go_at_call 6; refine (hN _).mono ?_; rintro e w' ⟨rfl, k1, rfl⟩)
      | (go_at_call 14; refine (hR _).mono ?_; rintro e w' ⟨rfl, k2, rfl⟩)
      | (go_at_call 7; refine (timer_known _ (hT.drewN _)).mono ?_; rintro e wk ⟨rfl, mk, _⟩))
    go_ret
    exact Rets.of rfl mk.undrewN trivial
  obtain ⟨hn1, hn2⟩ := hT0
  obtain ⟨t, rfl⟩ := Int.eq_ofNat_of_zero_le (show 0 ≤ n by omega)
  have hN := (On.start w).make (timers_New t (by omega) (by omega) w)
  clear _hn
  go_enter Tryd.func4, Tryd.ntmps4
  go_wp2_with (first
    | (
      go_at_call 6
      refine hN.mono ?_
      rintro e w1 ⟨d, rfl, h1⟩
      )
    | (
      go_at_call 14
      refine (h1.make (rtimers_New t (by omega) (by omega) w1)).mono ?_
      rintro e w2 ⟨r, rfl, h2⟩
      have h2 : On [] w [timersA d (ta0 t), rtimersA r (ta0 t)] w2 := h2
      )
    )
  clear hN h1
  go_loopg [9] len (fun gg i wr => ∃ (k : Nat) (A : TA), i = .int .i64 k ∧ k + gg = len ∧ On [] w [timersA d A, rtimersA r A] wr)
  case atStart => exact ⟨0, _, rfl, by omega, h2⟩
  case round =>
    clear h2
    obtain ⟨k, A, rfl, hk, h0⟩ := hrel
    by_cases hkl : k < len ∧ k < 120
    · obtain ⟨hkl, hk2⟩ := hkl
      obtain ⟨ba, off, rfl, hok, hba, hc⟩ := cellsOf_arr hA h0.mod hkl
      have c0 := hc 0 (by omega)
      have c1 := hc 1 (by omega)
      have c2 := hc 2 (by omega)
      have c3 := hc 3 (by omega)
      have c4 := hc 4 (by omega)
      clear hc hA
      generalize A0 k = ak at *
      obtain ⟨kind, cpu, to, id, n⟩ := ak
      simp only [Act14.vals, List.getElem?_cons_zero, List.getElem?_cons_succ, Nat.add_zero] at c0 c1 c2 c3 c4
      obtain ⟨o1, o2, o3, o4, o5⟩ := hok
      have z1 : In64 kind := i64bd o1
      clear o1 o2 o3 o4 o5
      have hk3 : decide ((k : Int) < 120) = true := decide_eq_true (by omega)
      have h3 := h0.alloc (Obj.cells #[.int .i64 kind, .int .i64 cpu, .int .i64 to, .int .i64 id, .int .i64 n] 32 (0,0))
      obtain ⟨x0, x1, x2, x3, x4⟩ := On.act (a := ⟨kind, cpu, to, id, n⟩) h3 2 rfl
      simp only at x0 x1 x2 x3 x4
      go_wp2_with fail
      have hdo := law14_do w _ hT d r A _ (by exact h3) ⟨kind, cpu, to, id, n⟩ z1
      unfold actT at hdo
      simp only at hdo
      generalize wr.alloc (Obj.cells #[.int .i64 kind, .int .i64 cpu, .int .i64 to, .int .i64 id, .int .i64 n] 32 (0,0)) = v0 at *
      generalize wr.heap.size = b at *
      generalize A.act ⟨kind, cpu, to, id, n⟩ = A1 at *
      go_wp2_with (first
        | (
          go_at_call 15
          refine hdo.mono ?_
          rintro e v1 ⟨rfl, y1⟩
          obtain ⟨x0, x1, x2, x3, x4⟩ := On.act (a := ⟨kind, cpu, to, id, n⟩) y1 2 rfl
          obtain ⟨hA1, hA2, hfew, _⟩ := timersA_facts (y1.get 0 rfl).choose_spec
          have hll := list_len hfew cpu
          clear h3 h0
          )
        | (
          go_at_call 16
          refine (y1.tell 0 rfl (fun F hF => timers_Next hF cpu)).mono ?_
          rintro e vv ⟨rfl, y2, mm⟩
          obtain ⟨x0, x1, x2, x3, x4⟩ := On.act (a := ⟨kind, cpu, to, id, n⟩) y2 2 rfl
          )
        | (
          go_at_call 17
          refine (y2.tell 1 rfl (fun F hF => (rtimers_Next hF cpu).mono fun _ _ => Ret.m)).mono ?_
          rintro e vv ⟨rfl, y3, mm⟩
          obtain ⟨x0, x1, x2, x3, x4⟩ := On.act (a := ⟨kind, cpu, to, id, n⟩) y3 2 rfl
          )
        | (
          go_at_call 18
          refine (y3.tell 0 rfl (fun F hF => (timers_Where hF id).mono fun _ _ => Ret.m)).mono ?_
          rintro e vv ⟨rfl, y4, mm⟩
          obtain ⟨x0, x1, x2, x3, x4⟩ := On.act (a := ⟨kind, cpu, to, id, n⟩) y4 2 rfl
          )
        | (
          go_at_call 19
          refine (y4.tell 1 rfl (fun F hF => (rtimers_Where hF id).mono fun _ _ => Ret.m)).mono ?_
          rintro e vv ⟨rfl, y5, mm⟩
          obtain ⟨x0, x1, x2, x3, x4⟩ := On.act (a := ⟨kind, cpu, to, id, n⟩) y5 2 rfl
          )
        | (
          go_at_call 20
          refine (y5.tell 0 rfl (fun F hF => (timers_When hF id).mono fun _ _ => Ret.m)).mono ?_
          rintro e vv ⟨rfl, y6, mm⟩
          obtain ⟨x0, x1, x2, x3, x4⟩ := On.act (a := ⟨kind, cpu, to, id, n⟩) y6 2 rfl
          )
        | (
          go_at_call 21
          refine (y6.tell 1 rfl (fun F hF => (rtimers_When hF id).mono fun _ _ => Ret.m)).mono ?_
          rintro e vv ⟨rfl, y7, mm⟩
          obtain ⟨x0, x1, x2, x3, x4⟩ := On.act (a := ⟨kind, cpu, to, id, n⟩) y7 2 rfl
          )
        | (
          go_at_call 22
          refine (y7.newIntsOf 1 rfl (fun F hF => rtimers_List hF hfew cpu)).mono ?_
          rintro e v8 ⟨a8, c8, rfl, y8, m8⟩
          obtain ⟨x0, x1, x2, x3, x4⟩ := On.act (a := ⟨kind, cpu, to, id, n⟩) y8 2 rfl
          )
        )
      obtain ⟨gb, capr, r0, q1, q2, q3, q4, q5⟩ := rtimers_cells (y8.get 1 rfl).choose_spec hA1
      have q6 : (0 : Int) < (A1.n : Int) := by omega
      have q7 : 0 < A1.n := hA1
      have q9 : A1.n ≠ 0 := by omega
      have d8 := And.intro x1 (And.intro q3 (And.intro q4 q5))
      have y8 := y8.keep (u' := v8.drew) ((Mod.refl _ _).drew)
      simp only [List.append_eq, List.cons_append, List.nil_append]
      go_region_held3 (fun u => u.cell? ⟨b, 1, none⟩ = some (.int .i64 cpu) ∧ u.cell? ⟨r, 0, none⟩ = some (.slice (some ⟨gb, 0, none⟩) A1.n capr) ∧ u.cell? ⟨gb, 0, none⟩ = some (.pointer (some ⟨r0, 0, none⟩)) ∧ u.cell? ⟨r0, 0, none⟩ = some (.int .i64 A1.now)) (assumption) (first
        | (
          go_at_call 11
          refine (y8.tell 0 rfl (fun F hF => timers_Ready hF cpu)).mono ?_
          rintro e vv ⟨rfl, y9, mm⟩
          have d9 := And.intro (mm.at d8.1 (by simp)) (And.intro (mm.at d8.2.1 (by simp)) (And.intro (mm.at d8.2.2.1 (by simp)) (mm.at d8.2.2.2 (by simp))))
          )
        | (
          go_at_call 23
          refine (y9.tell 1 rfl (fun F hF => rtimers_Ready hF hfew cpu)).mono ?_
          rintro e vv ⟨rfl, y10, mm⟩
          have d10 := And.intro (mm.at d9.1 (by simp)) (And.intro (mm.at d9.2.1 (by simp)) (And.intro (mm.at d9.2.2.1 (by simp)) (mm.at d9.2.2.2 (by simp))))
          )
        | (
          go_at_call 24
          refine (y10.tell 0 rfl (fun F hF => timers_Load hF cpu)).mono ?_
          rintro e vv ⟨rfl, y11, mm⟩
          have d11 := And.intro (mm.at d10.1 (by simp)) (And.intro (mm.at d10.2.1 (by simp)) (And.intro (mm.at d10.2.2.1 (by simp)) (mm.at d10.2.2.2 (by simp))))
          )
        | (
          go_at_call 26
          refine (y11.newIntsOf 0 rfl (fun F hF => timers_List hF cpu)).mono ?_
          rintro e v12 ⟨a12, c12, rfl, y12, m12⟩
          have d12 := And.intro (m12.at d11.1 (by simp)) (And.intro (m12.at d11.2.1 (by simp)) (And.intro (m12.at d11.2.2.1 (by simp)) (m12.at d11.2.2.2 (by simp))))
          have hI := masks_Ints a12 a8 c12 c8 _ _ v12 (y12.ints 4 rfl) (y12.ints 3 rfl) (by omega) (by omega)
          rw [decide_eq_true rfl] at hI
          )
        | (
          go_at_call 25
          refine hI.mono ?_
          rintro e v13 ⟨rfl, hd13⟩
          have m13 := hd13.mod (S := [])
          have y13 := y12.keep m13
          have d13 := And.intro (m13.at d12.1 (by simp)) (And.intro (m13.at d12.2.1 (by simp)) (And.intro (m13.at d12.2.2.1 (by simp)) (m13.at d12.2.2.2 (by simp))))
          )
        | (
          go_at_call 27
          refine (y13.tell 0 rfl (fun F hF => (timers_Now hF).mono fun _ _ => Ret.m)).mono ?_
          rintro e vv ⟨rfl, y14, mm⟩
          have d14 := And.intro (mm.at d13.1 (by simp)) (And.intro (mm.at d13.2.1 (by simp)) (And.intro (mm.at d13.2.2.1 (by simp)) (mm.at d13.2.2.2 (by simp))))
          )
        )
      go_wp2
      go_roundg (gk - 1)
      case measure => omega
      case rel => exact ⟨k + 1, A1, by go_num, by omega, y14.take (l := [_, _]) (m := [_, _, _])⟩
    · have hne : ¬ ((k : Int) < (len : Int)) ∨ ((k : Int) < (len : Int) ∧ ¬ ((k : Int) < 120)) := by omega
      clear hkl hA
      rcases hne with h4 | ⟨h3, h4⟩
      all_goals
        go_wp2_with (go_at_call 7; refine (timer_known _ (hT.keep h0.mod (by simp))).mono ?_; rintro e w7 ⟨rfl, m7, _⟩)
        go_ret
        exact Rets.of rfl (h0.mod.trans m7 (by simp)) trivial
end Go.Proofs.YthieionajemjhaaDoor
