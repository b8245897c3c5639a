/- The walk over TimerOnce. No condition. -/
import Derived.Test.YthieionajemjhaaDoorTimerEnt
namespace Go.Proofs.YthieionajemjhaaDoor
set_option linter.unusedVariables false
set_option linter.unusedSimpArgs false
open Go.RowKit
theorem timersA_sim {d : Nat} {A : TA} {F : List Nat} {w : World} (h : (timersA d A).holds F w) : ∃ t, TSim t A := by
  obtain ⟨t, hs, _⟩ := h
  exact ⟨t, hs⟩
theorem infoAct : (Tryd.prog.info? 32).map (fun i => (i.zero, i.size, i.bytes)) = some (some (.agg #[.int .i64 0, .int .i64 0, .int .i64 0, .int .i64 0, .int .i64 0]), 5, 40) := by kernel_rfl
/-- What was armed has not fired yet, or has. -/
structure Armed (A : TA) (M : List (Int × Nat)) : Prop where
  n : A.n = 3
  sub : ∀ x, x ∈ A.ent → x ∈ M
  le : ∀ x, x ∈ M → x.2 ≤ 100
  nodup : (M.map (·.1)).Nodup
set_option maxRecDepth 100000 in
set_option maxHeartbeats 8000000 in
theorem TimerOnce_walk (w : World) (hT : Tab w) (a : Option Addr) (len cap : Nat) (D0 : Nat → Int) (hA : IsArr 1 (fun z => [.int .i64 z]) (fun z => (Lit.int .i64 z).wf = true) w a len cap D0) (a2 : Option Addr) (len2 cap2 : Nat) (A0 : Nat → Act14) (hA2 : IsArr 5 Act14.vals Act14.ok w a2 len2 cap2 A0) :
    Calls Tryd.prog 3 #[.slice a len cap, .slice a2 len2 cap2] w (Rets (.bool true) [] w fun _ => True) := by
  have hlc := hA.1
  have hcm := hA.2.1
  have hlc2 := hA2.1
  have hcm2 := hA2.2.1
  unfold maxLen at hcm hcm2
  have hN := (On.start w).make (timers_New 3 (by omega) (by omega) w)
  by_cases hl48 : 48 < len
  · clear hA hA2
    go_enter Tryd.func3, Tryd.ntmps3
    go_wp2_with (first
      | (go_at_call 6; refine hN.mono ?_; rintro e w1 ⟨d, rfl, h1⟩)
      | (go_at_call 7; refine (timer_known _ (hT.keep h1.mod (by simp))).mono ?_; rintro e wk ⟨rfl, mk, _⟩))
    go_ret
    exact Rets.of rfl (h1.mod.trans mk (by simp)) trivial
  have hl48z : ¬ ((48 : Int) < (len : Int)) := by omega
  go_enter Tryd.func3, Tryd.ntmps3
  go_wp2_with (go_at_call 6; refine hN.mono ?_; rintro e w1 ⟨d, rfl, h1⟩)
  clear hN
  have h1 : On [] w [timersA d (ta0 3), rowR 32 5 none 0 0 (armV [])] w1 := h1.more ⟨rfl, RAt.nil _ _ _⟩
  go_loopg [7, 8] len (fun gg out i wr => ∃ (k : Nat) (A : TA) (g : Option Nat) (cp : Nat) (M : List (Int × Nat)), i = .int .i64 k ∧ out = .slice (rA g) M.length cp ∧ k + gg = len ∧ M.length ≤ k ∧ A.now = 0 ∧ Armed A M ∧ A.ent.Perm M ∧ On [] w [timersA d A, rowR 32 5 g cp M.length (armV M)] wr)
  case atStart => exact ⟨0, _, none, 0, [], rfl, rfl, by omega, by simp, rfl, ⟨rfl, by simp [TA.ent, ta0], by simp, by simp⟩, by simp [TA.ent, ta0], h1⟩
  case round =>
    clear h1
    obtain ⟨k, A, g, cp, M, rfl, rfl, hk, hMk, hnow, hAr, hperm, h0⟩ := hrel
    by_cases hkl : k < len
    · obtain ⟨ba, off, rfl, hok, hba, hc⟩ := cellsOf_arr hA (Mod.refl [] w) hkl
      have cw := hc 0 (by omega)
      clear hc hA hA2
      generalize D0 k = due at *
      simp only [List.getElem?_cons_zero, Nat.add_zero, Nat.mul_one] at cw
      have c0 := h0.mod.at cw (by simp)
      have hklz : (k : Int) < (len : Int) := by omega
      by_cases hd : due < 0 ∨ 100 < due
      · have hd2 : due < 0 ∨ (¬ due < 0 ∧ 100 < due) := by omega
        clear hd
        rcases hd2 with hd2 | ⟨hd1, hd2⟩
        all_goals
          go_wp2
          go_roundg (gk - 1)
          case measure => omega
          case rel => exact ⟨k + 1, A, g, cp, M, by go_num, rfl, by omega, by omega, hnow, hAr, hperm, by first | exact h0 | exact h0.keep ((Mod.refl _ _).drewN _)⟩
      · have hd1 : ¬ due < 0 := by omega
        have hd2 : ¬ 100 < due := by omega
        obtain ⟨dn, rfl⟩ := Int.eq_ofNat_of_zero_le (show 0 ≤ due by omega)
        clear hd
        have ht : (k : Int).tmod 3 = ((k % 3 : Nat) : Int) := by rw [Int.tmod_eq_emod_of_nonneg (by omega)]; omega
        obtain ⟨c, hc⟩ : ∃ c, c = k % 3 := ⟨_, rfl⟩
        rw [← hc] at ht
        have hc3 : c < A.n := by rw [hAr.n]; omega
        have hcI : A.is c := ⟨by omega, by omega⟩
        have hlen := hperm.length_eq
        have hE := arm_ok hcI (due := (dn : Int)) ⟨by omega, by omega⟩ (by omega)
        have hV : A.armV c dn = A.low := by unfold TA.armV; rw [if_pos hE]
        obtain ⟨hent, hn', hnow'⟩ := arm_ent hc3 hE
        generalize A.low = low at *
        generalize hA' : A.arm c dn = A' at *
        clear hc hcI
        have hperm' : A'.ent.Perm (M ++ [((low : Int), dn)]) := hent.trans ((List.Perm.cons _ hperm).trans (List.perm_append_singleton _ _).symm)
        go_wp2_with (first
          | (
            go_at_call 8
            refine (h0.callT hT 0 rfl (fun F hF hT' hn => timers_Arm hF hT' hn c dn)).mono ?_
            rw [hV, hE, hA']
            rintro e w3 ⟨rfl, h3⟩
            have h3 : On [] w [timersA d A', rowR 32 5 g cp M.length (armV M)] w3 := h3
            have c3 := h3.mod.at cw (by simp)
            have h4 := h3.keep (u' := w3.alloc (.cells #[.int .i64 0, .int .i64 0, .int .i64 0, .int .i64 low, .int .i64 dn] 32 (0,0))) ((Mod.refl _ _).alloc _)
            obtain ⟨g', cap', w5, hrun, h5⟩ := h4.rowAppend (P := Tryd.prog) (tt := 23) (bytes := 40) 1 rfl Tryd.underlying23 infoAct rfl (by omega) (by omega) (by omega) (b := w3.heap.size) (news := [.int .i64 0, .int .i64 0, .int .i64 0, .int .i64 low, .int .i64 dn]) rfl (by simp [Value.oneCell']) (heapNew _ _)
            )
          | (
            at_builtin
            refine wpList_append_run rfl _ _ _ rfl rfl rfl (hrun _) ?_
            )
          )
        go_roundg (gk - 1)
        case measure => omega
        case rel =>
          obtain ⟨t', ht'⟩ := timersA_sim (h5.get 0 rfl).choose_spec
          refine ⟨k + 1, A', some g', cap', M ++ [((low : Int), dn)], by go_num, by simp [rA], by omega, by simp; omega, by rw [hnow', hnow], ⟨by rw [hn', hAr.n], fun x hx => hperm'.mem_iff.1 hx, fun x hx => ?_, ?_⟩, hperm', ?_⟩
          · rcases List.mem_append.1 hx with hx | hx
            · exact hAr.le x hx
            · rw [List.mem_singleton] at hx; subst hx; show dn ≤ 100; omega
          · exact (hperm'.map (·.1)).nodup_iff.1 ht'.ent_nodup
          · rw [armV_snoc]; simpa using h5
    · have hklz : ¬ (k : Int) < (len : Int) := by omega
      have hM48 : M.length ≤ 48 := by omega
      clear hA hk
      go_wp2
      go_loopg [11] len2 (fun gg i wr => ∃ (k : Nat) (A : TA), i = .int .i64 k ∧ k + gg = len2 ∧ A.now = 0 ∧ Armed A M ∧ A.ent.Perm M ∧ On [] w [timersA d A, rowR 32 5 g cp M.length (armV M)] wr)
      case atStart => exact ⟨0, A, rfl, by omega, hnow, hAr, hperm, h0⟩
      case round =>
        clear h0 hnow hAr hperm
        obtain ⟨k2, A, rfl, hk2, hnow, hAr, hperm, h0⟩ := hrel
        by_cases hkl2 : k2 < len2 ∧ k2 < 100
        · obtain ⟨hkl2, hk100⟩ := hkl2
          obtain ⟨ba, off, rfl, hok, hba, hc⟩ := cellsOf_arr hA2 (Mod.refl [] w) hkl2
          have cw1 := hc 1 (by omega)
          have cw2 := hc 2 (by omega)
          clear hc hA2 hkl
          generalize A0 k2 = ak at *
          obtain ⟨kind, cpu, to, id, n⟩ := ak
          simp only [Act14.vals, List.getElem?_cons_zero, List.getElem?_cons_succ, Nat.add_zero] at cw1 cw2
          have hk3 : decide ((k2 : Int) < 100) = true := decide_eq_true (by omega)
          have hk4 : (k2 : Int) < (len2 : Int) := by omega
          have hS := And.intro (h0.mod.at cw1 (by simp)) (h0.mod.at cw2 (by simp))
          go_wp2
          go_region_held3 (fun u => u.cell? ⟨ba, off + k2 * 5 + 1, none⟩ = some (.int .i64 cpu) ∧ u.cell? ⟨ba, off + k2 * 5 + 2, none⟩ = some (.int .i64 to)) (assumption) (first
            | (
              go_at_call 9
              refine ((h0.keep (u' := wr.drew) ((Mod.refl _ _).drew)).call 0 rfl (fun F hF => timers_Move hF cpu to)).mono ?_
              rintro e w3 ⟨rfl, h3⟩
              have hS3 := And.intro (h3.mod.at cw1 (by simp)) (h3.mod.at cw2 (by simp))
              ))
          go_wp2
          go_roundg (len2 - k2 - 1)
          case measure => omega
          case rel =>
            obtain ⟨t', ht'⟩ := timersA_sim (h0.get 0 rfl).choose_spec
            obtain ⟨p1, p2, p3⟩ := ht'.move_ent cpu to
            have p4 := p1.trans hperm
            exact ⟨k2 + 1, A.move cpu to, by go_num, by omega, by rw [p3, hnow], ⟨by rw [p2, hAr.n], fun x hx => p4.mem_iff.1 hx, hAr.le, hAr.nodup⟩, p4, h3⟩
        · have hne : ¬ ((k2 : Int) < (len2 : Int)) ∨ ((k2 : Int) < (len2 : Int) ∧ ¬ ((k2 : Int) < 100)) := by omega
          clear hkl2 hA2 hk2
          rcases hne with h4 | ⟨h3, h4⟩
          all_goals
            go_wp2
            have hent0 : ∀ x, x ∈ A.ent → 0 ≤ x.2 := fun _ _ => Nat.zero_le _
            go_loopg [12, 13] 101 (fun gg fd i wr => ∃ (j f : Nat) (A : TA), i = .int .i64 j ∧ fd = .int .i64 f ∧ j + gg = 101 ∧ A.now ≤ j ∧ Armed A M ∧ (∀ x, x ∈ A.ent → j ≤ x.2) ∧ f + A.ent.length = M.length ∧ On [] w [timersA d A, rowR 32 5 g cp M.length (armV M)] wr)
            case atStart => exact ⟨0, 0, A, rfl, rfl, by omega, by omega, hAr, hent0, by rw [hperm.length_eq]; omega, h0⟩
            case round =>
              clear hent0 h0 hperm hAr hnow
              obtain ⟨j, f, A, rfl, rfl, hj, hnow, hAr, hge, hf, h0⟩ := hrel
              by_cases hj2 : j ≤ 100
              · have hj3 : (j : Int) ≤ 100 := by omega
                have hgo : A.goE j = 0 := by unfold TA.goE rgoE; rw [if_neg (by omega)]
                have hgn : (A.go j).now = j := by show rgo A.now j = j; unfold rgo; rw [if_neg (by omega)]; simp
                have hge' : ∀ x, x ∈ (A.go j).ent → j ≤ x.2 := hge
                have hf' : f + (A.go j).ent.length = M.length := hf
                have hAr' : Armed (A.go j) M := ⟨hAr.n, hAr.sub, hAr.le, hAr.nodup⟩
                generalize hAg : A.go j = A1 at *
                go_wp2_with (
                  go_at_call 10
                  refine (h0.call 0 rfl (fun F hF => timers_Go hF j)).mono ?_
                  rw [hgo, hAg]
                  rintro e w3 ⟨rfl, h3⟩
                  )
                clear hAg hgo hge hf hAr h0 hnow
                go_loopg [12, 14] 3 (fun gg fd i wr => ∃ (c f : Nat) (A : TA), i = .int .i64 c ∧ fd = .int .i64 f ∧ c + gg = 3 ∧ A.now = j ∧ Armed A M ∧ (∀ x, x ∈ A.ent → j ≤ x.2) ∧ f + A.ent.length = M.length ∧ (∀ e : Nat, e < c → A.due e = []) ∧ On [] w [timersA d A, rowR 32 5 g cp M.length (armV M)] wr)
                case atStart => exact ⟨0, f, A1, rfl, rfl, by omega, hgn, hAr', hge', hf', by omega, h3⟩
                case round =>
                  clear h3 hAr' hge' hf' hgn
                  obtain ⟨c, f, A, rfl, rfl, hc, hnow, hAr, hge, hf, hdue, h0⟩ := hrel
                  by_cases hc3 : c < 3
                  · have hcz : (c : Int) < 3 := by omega
                    have hcn : c < A.n := by rw [hAr.n]; exact hc3
                    obtain ⟨_, _, hfew, _⟩ := timersA_facts (h0.get 0 rfl).choose_spec
                    have hdl : (A.due c).length ≤ 48 := Nat.le_trans (List.length_filter_le _ _) (hfew c hcn)
                    go_wp2
                    go_loopg [12, 15] 49 (fun gg fd i wr => ∃ (k f : Nat) (A : TA), i = .int .i64 k ∧ fd = .int .i64 f ∧ k + gg = 49 ∧ k + (A.due c).length ≤ 48 ∧ A.now = j ∧ Armed A M ∧ (∀ x, x ∈ A.ent → j ≤ x.2) ∧ f + A.ent.length = M.length ∧ (∀ e : Nat, e < c → A.due e = []) ∧ On [] w [timersA d A, rowR 32 5 g cp M.length (armV M)] wr)
                    case atStart => exact ⟨0, f, A, rfl, rfl, by omega, by omega, hnow, hAr, hge, hf, hdue, h0⟩
                    case round =>
                      clear h0 hnow hAr hge hf hdue hdl hfew
                      obtain ⟨k, f, A, rfl, rfl, hk, hkd, hnow, hAr, hge, hf, hdue, h0⟩ := hrel
                      have hcn : c < A.n := by rw [hAr.n]; exact hc3
                      have hk4 : decide ((k : Int) ≤ 48) = true := decide_eq_true (by omega)
                      have hkz : (k : Int) ≤ 48 := by omega
                      obtain ⟨t', ht'⟩ := timersA_sim (h0.get 0 rfl).choose_spec
                      have hi : A.is c := ⟨by omega, by omega⟩
                      by_cases hd : A.due c = []
                      · have hr : A.ready c = false := by unfold TA.ready; rw [hd]; simp
                        go_wp2_with (
                          go_at_call 11
                          refine (h0.tell 0 rfl (fun F hF => timers_Ready hF c)).mono ?_
                          rw [hr]
                          rintro e w4 ⟨rfl, h4, m4⟩
                          )
                        go_roundg (3 - c - 1)
                        case measure => omega
                        case rel => exact ⟨c + 1, f, A, by go_num, rfl, by omega, hnow, hAr, hge, hf, fun e he => by
                          by_cases x : e = c
                          · subst x; exact hd
                          · exact hdue e (by omega), h4⟩
                      · have hr : A.ready c = true := by
                          unfold TA.ready
                          rw [decide_eq_true hi]
                          cases hx : A.due c with
                          | nil => exact absurd hx hd
                          | cons _ _ => rfl
                        obtain ⟨f1, f2, f3, x, f4, f5, f6, f7, f8, f9⟩ := ht'.fire_ent hcn hd
                        have hx2 : x.2 = j := by have := hge x f4; omega
                        have hxM := hAr.sub x f4
                        have hle7 := f7.length_eq
                        simp only [List.length_cons] at hle7
                        have hsub : ∀ y, y ∈ (A.fire c).ent → y ∈ A.ent := fun y hy => f7.mem_iff.2 (List.mem_cons_of_mem _ hy)
                        obtain ⟨xi, xj⟩ := x
                        simp only at f5 f6 hx2
                        subst f5
                        generalize hAf : A.fire c = A2 at *
                        generalize hFv : A.fireV c = fv at *
                        go_wp2_with (first
                          | (
                            go_at_call 11
                            refine (h0.tell 0 rfl (fun F hF => timers_Ready hF c)).mono ?_
                            rw [hr]
                            rintro e w4 ⟨rfl, h4, m4⟩
                            )
                          | (
                            go_at_call 12
                            refine (h4.call 0 rfl (fun F hF => timers_Fire hF c)).mono ?_
                            rw [f1, hAf, hFv]
                            rintro e w5 ⟨rfl, h5⟩
                            obtain ⟨F5, hF5, hrow⟩ := h5.get 1 rfl
                            have hdd := law14_due g cp M w5 hrow hAr.nodup (fv, xj) hxM j
                            rw [decide_eq_true hx2] at hdd
                            )
                          | (
                            go_at_call 13
                            refine hdd.mono ?_
                            rintro e w6 ⟨rfl, k6, rfl⟩
                            )
                          )
                        go_roundg (49 - k - 1)
                        case measure => omega
                        case rel => exact ⟨k + 1, f + 1, A2, by go_num, by go_num, by omega, by omega, by rw [f3, hnow], ⟨by rw [f2, hAr.n], fun y hy => hAr.sub y (hsub y hy), hAr.le, hAr.nodup⟩, fun y hy => hge y (hsub y hy), by omega, fun e he => by rw [f9 e (by omega)]; exact hdue e he, h5.keep ((Mod.refl _ _).drewN _)⟩
                  · have hcz : ¬ (c : Int) < 3 := by omega
                    go_wp2
                    go_roundg (101 - j - 1)
                    case measure => omega
                    case rel =>
                      refine ⟨j + 1, f, A, by go_num, rfl, by omega, by omega, hAr, fun x hx => ?_, hf, h0⟩
                      obtain ⟨c', hc', hx'⟩ := ent_mem.1 hx
                      rw [hAr.n] at hc'
                      have hd := hdue c' (by omega)
                      have hge1 := hge x hx
                      apply Classical.byContradiction
                      intro hn
                      have : x ∈ A.due c' := List.mem_filter.2 ⟨hx', by simp; omega⟩
                      rw [hd] at this
                      cases this
              · have hj3 : ¬ (j : Int) ≤ 100 := by omega
                have hfe : A.ent = [] := by
                  cases hx : A.ent with
                  | nil => rfl
                  | cons x l =>
                    have h1 := hge x (by rw [hx]; exact List.mem_cons_self)
                    have h2 := hAr.le x (hAr.sub x (by rw [hx]; exact List.mem_cons_self))
                    omega
                rw [hfe] at hf
                have hfM : f = M.length := by simpa using hf
                subst hfM
                go_wp2_with (go_at_call 7; refine (timer_known _ (hT.keep h0.mod (by simp))).mono ?_; rintro e wk ⟨rfl, mk, _⟩)
                go_ret
                exact Rets.of rfl (h0.mod.trans mk (by simp)) trivial
end Go.Proofs.YthieionajemjhaaDoor
