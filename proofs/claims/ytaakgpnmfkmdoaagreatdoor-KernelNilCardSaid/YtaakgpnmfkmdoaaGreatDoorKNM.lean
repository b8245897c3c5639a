/- Several texts in one (each with its own sentence below). -/
import Derived.Test.YtaakgpnmfkmdoaaGreatDoorKFM
/- The walk over kernel.New. No condition but those named. -/
namespace Go.Proofs.YtaakgpnmfkmdoaaGreatDoor
set_option linter.unusedVariables false
set_option linter.unusedSimpArgs false
open Go.RowKit

def kf0 (n m : Nat) : Nat → Value := fun i => if i < 14 then .pointer none else if i = 14 then .slice none 0 0 else if i = 15 then .int .i64 n else if i = 16 then .int .u64 (uptoM n : Nat) else if i = 17 then .int .u64 (uptoM n : Nat) else if i = 18 then .int .i64 0 else if i = 19 then .int .i64 1073741824 else .map (some m)
theorem step_append_run {P : Program} {w w' : World} {ops : Array Oper} {o : Oper} {a : Act} {K : Act → World → Prop} {Q : Exit → Act → World → Prop} {E : Prop} (hgd : o.guard = none) (s x : Operand) (t : TypeId)
    (ho : o.op = .call { callee := .builtin .append, args := #[s, x], argTypes := #[t, t] }) {v u r : Value} (hs : a.eval s = v) (hx : a.eval x = u)
    (hr : (Builtin.append_ #[t, t] o.type #[v, u]).run P w = .ok r w') (h : K (a.put o.dst r) w') : if Region.wanted o (yielded ops a.tmps) = true then Oper.wp P o a w K Q else E := by
  have hw : Region.wanted o (yielded ops a.tmps) = true := by simp [Region.wanted, hgd]
  rw [if_pos hw]
  unfold Oper.wp execOp
  simp only [ho, resolve, invoke, builtin, Sem.run_bind, Sem.run_pure, Result.andThen_ok, List.map_toArray, List.map_cons, List.map_nil, hs, hx, hr]
  exact h
def kcellsJ (p : KP) (k : KT) (j : Nat) : Array Value := #[ptr p.th, ptr p.rq, ptr p.tm, ptr p.iq, ptr p.rt, ptr p.wk, ptr p.cb, ptr p.ob, ptr p.ct, ptr p.gt, ptr p.sp, ptr p.dk, ptr p.co, ptr p.mt, .slice (rA p.g) j p.cap, .int .i64 k.n, .int .u64 (k.online : Nat), .int .u64 (k.active : Nat), .int .i64 k.now, .int .i64 k.limit, .map (some p.ow)]
def kernJ (b : Nat) (p : KP) (k : KT) (j : Nat) (g : Option Nat) (cap : Nat) (D : Nat → Nat) : List Res :=
  [Res.blk b (.cells (kcellsJ { p with g := g, cap := cap, D := D } k j) 87 (0,0)), fmapR p.ow p.cnt (numF k.own), threadR p.th k.th, runqR p.rq k.rq, timersA p.tm k.tm, irqR p.iq k.iq, routeR p.rt k.rt, workR p.wk k.wk, callR p.cb k.cb, stashR p.ob k.ob, splitR p.ct k.ct, gateR p.gt k.gt, coresR p.co k.co, mtR p.mt k.mt, stopR p.sp k.sp, deskR p.dk k.dk]
    ++ famL 55 g cap j D (fun c => govR (D c) gov1)
set_option maxRecDepth 100000 in
set_option maxHeartbeats 4000000 in
theorem kernel_New (n : Nat) (h1 : 1 ≤ n) (h2 : n ≤ 64) (w : World) : Calls Tryz.prog 8 #[.int .i64 n] w (TurnsV (fun d : Nat => .tuple #[.pointer (some ⟨d, 0, none⟩), .int .i64 0]) (fun d => kernelR d (k0 n)) [] w) := by
  have hmk := fun w => run_makeMap (P := Tryz.prog) 82 w
  have hU := fun w => mask_Upto n w
  go_enter Tryz.func8, Tryz.ntmps8
  go_wp2_with (
        go_at_call 42
        refine (hU _).mono ?_
        rintro e w0 ⟨rfl, kk, rfl⟩
        have hA : On [] w [Res.blk (w.heap.size + 1) (.cells (kw (kf0 n w.heap.size)) 87 (0,0)), fmapR w.heap.size 0 (fun _ => none)] (((w.drewN kk).alloc (.map #[] 0)).alloc (.cells #[.pointer none, .pointer none, .pointer none, .pointer none, .pointer none, .pointer none, .pointer none, .pointer none, .pointer none, .pointer none, .pointer none, .pointer none, .pointer none, .pointer none, .slice none 0 0, .int .i64 n, .int .u64 (uptoM n : Nat), .int .u64 (uptoM n : Nat), .int .i64 0, .int .i64 1073741824, .map (some w.heap.size)] 87 (0,0))) := by
          have x1 := (((On.start w).keep (u' := w.drewN kk) ((Mod.refl _ _).drewN kk)).fmNew.alloc (.cells (kw (kf0 n w.heap.size)) 87 (0,0))).front
          rw [sizeNew, World.heap_drewN] at x1
          exact x1
        have HA0 := Lib.hid hA
        clear hA hU
        )
  generalize hkb : w.heap.size + 1 = kb at *
  generalize hmb : w.heap.size = mb at *
  generalize ((w.drewN kk).alloc (.map #[] 0)).alloc _ = u0 at *
  have HB := Lib.hid (And.intro hkb hmb)
  clear hkb hmb hmk
  go_wp2_with (first
 | (
        go_at_call 44
        refine (HA0.out.make (thread_New n h1 h2 _)).mono ?_
        rintro e w1 ⟨dth, rfl, hB⟩
        have HB0 := Lib.hid hB
        clear hB HA0 
        )
 | (go_at_call 43; refine (need_th _ _ _).mono ?_; rintro e w' ⟨rfl, rfl⟩)
 | (
        go_at_call 46
        refine (HB0.out.make (runq_New n h1 h2 _)).mono ?_
        rintro e w2 ⟨drq, rfl, hB⟩
        obtain ⟨v0, a0⟩ : ∃ v, _ = some v := ⟨_, hB.wCell 0 (by decide)⟩
        obtain ⟨v1, a1⟩ : ∃ v, _ = some v := ⟨_, hB.wCell 1 (by decide)⟩
        have b0 := hB.wFree 0
        have b1 := hB.wFree 1
        have HA2 := Lib.hid hB
        clear hB HB0
        )
 | (go_at_call 45; refine (need_rq _ _ _).mono ?_; rintro e w' ⟨rfl, rfl⟩)
 | (
        go_at_call 48
        refine (((HA2.out.wSet 0 (by decide) (.pointer (some ⟨dth, 0, none⟩))).wSet 1 (by decide) (.pointer (some ⟨drq, 0, none⟩))).make (timers_New n h1 h2 _)).mono ?_
        rintro e w3 ⟨dtm, rfl, hB⟩
        have HB2 := Lib.hid hB
        clear hB HA2 a0 a1 b0 b1
        )
 | (go_at_call 47; refine (need_tm _ _ _).mono ?_; rintro e w' ⟨rfl, rfl⟩)
 | (
        go_at_call 50
        refine (HB2.out.make (irq_New n h1 h2 _)).mono ?_
        rintro e w4 ⟨diq, rfl, hB⟩
        obtain ⟨v2, a2⟩ : ∃ v, _ = some v := ⟨_, hB.wCell 2 (by decide)⟩
        obtain ⟨v3, a3⟩ : ∃ v, _ = some v := ⟨_, hB.wCell 3 (by decide)⟩
        have b2 := hB.wFree 2
        have b3 := hB.wFree 3
        have HA4 := Lib.hid hB
        clear hB HB2
        )
 | (go_at_call 49; refine (need_iq _ _ _).mono ?_; rintro e w' ⟨rfl, rfl⟩)
 | (
        go_at_call 52
        refine (((HA4.out.wSet 2 (by decide) (.pointer (some ⟨dtm, 0, none⟩))).wSet 3 (by decide) (.pointer (some ⟨diq, 0, none⟩))).make (route_New n h1 h2 _)).mono ?_
        rintro e w5 ⟨drt, rfl, hB⟩
        have HB4 := Lib.hid hB
        clear hB HA4 a2 a3 b2 b3
        )
 | (go_at_call 51; refine (need_rt _ _ _).mono ?_; rintro e w' ⟨rfl, rfl⟩)
 | (
        go_at_call 54
        refine (HB4.out.make (work_New n h1 h2 _)).mono ?_
        rintro e w6 ⟨dwk, rfl, hB⟩
        obtain ⟨v4, a4⟩ : ∃ v, _ = some v := ⟨_, hB.wCell 4 (by decide)⟩
        obtain ⟨v5, a5⟩ : ∃ v, _ = some v := ⟨_, hB.wCell 5 (by decide)⟩
        have b4 := hB.wFree 4
        have b5 := hB.wFree 5
        have HA6 := Lib.hid hB
        clear hB HB4
        )
 | (go_at_call 53; refine (need_wk _ _ _).mono ?_; rintro e w' ⟨rfl, rfl⟩)
 | (
        go_at_call 56
        refine (((HA6.out.wSet 4 (by decide) (.pointer (some ⟨drt, 0, none⟩))).wSet 5 (by decide) (.pointer (some ⟨dwk, 0, none⟩))).make (call_New n h1 h2 _)).mono ?_
        rintro e w7 ⟨dcb, rfl, hB⟩
        have HB6 := Lib.hid hB
        clear hB HA6 a4 a5 b4 b5
        )
 | (go_at_call 55; refine (need_cb _ _ _).mono ?_; rintro e w' ⟨rfl, rfl⟩)
 | (
        go_at_call 58
        refine (HB6.out.make (stash_New n h1 h2 _)).mono ?_
        rintro e w8 ⟨dob, rfl, hB⟩
        obtain ⟨v6, a6⟩ : ∃ v, _ = some v := ⟨_, hB.wCell 6 (by decide)⟩
        obtain ⟨v7, a7⟩ : ∃ v, _ = some v := ⟨_, hB.wCell 7 (by decide)⟩
        have b6 := hB.wFree 6
        have b7 := hB.wFree 7
        have HA8 := Lib.hid hB
        clear hB HB6
        )
 | (go_at_call 57; refine (need_ob _ _ _).mono ?_; rintro e w' ⟨rfl, rfl⟩)
 | (
        go_at_call 60
        refine (((HA8.out.wSet 6 (by decide) (.pointer (some ⟨dcb, 0, none⟩))).wSet 7 (by decide) (.pointer (some ⟨dob, 0, none⟩))).make (splitx_New n h1 h2 _)).mono ?_
        rintro e w9 ⟨dct, rfl, hB⟩
        have HB8 := Lib.hid hB
        clear hB HA8 a6 a7 b6 b7
        )
 | (go_at_call 59; refine (need_ct _ _ _).mono ?_; rintro e w' ⟨rfl, rfl⟩)
 | (
        go_at_call 62
        refine (HB8.out.make (gatex_New n h1 h2 _)).mono ?_
        rintro e w10 ⟨dgt, rfl, hB⟩
        obtain ⟨v8, a8⟩ : ∃ v, _ = some v := ⟨_, hB.wCell 8 (by decide)⟩
        obtain ⟨v9, a9⟩ : ∃ v, _ = some v := ⟨_, hB.wCell 9 (by decide)⟩
        have b8 := hB.wFree 8
        have b9 := hB.wFree 9
        have HA10 := Lib.hid hB
        clear hB HB8
        )
 | (go_at_call 61; refine (need_gt _ _ _).mono ?_; rintro e w' ⟨rfl, rfl⟩)
 | (
        go_at_call 64
        refine (((HA10.out.wSet 8 (by decide) (.pointer (some ⟨dct, 0, none⟩))).wSet 9 (by decide) (.pointer (some ⟨dgt, 0, none⟩))).make (core_New n h1 h2 _)).mono ?_
        rintro e w11 ⟨dco, rfl, hB⟩
        have HB10 := Lib.hid hB
        clear hB HA10 a8 a9 b8 b9
        )
 | (go_at_call 63; refine (need_co _ _ _).mono ?_; rintro e w' ⟨rfl, rfl⟩)
 | (
        go_at_call 66
        refine (HB10.out.make (meter_New n h1 h2 _)).mono ?_
        rintro e w12 ⟨dmt, rfl, hB⟩
        obtain ⟨v10, a10⟩ : ∃ v, _ = some v := ⟨_, hB.wCell 10 (by decide)⟩
        obtain ⟨v11, a11⟩ : ∃ v, _ = some v := ⟨_, hB.wCell 11 (by decide)⟩
        have b10 := hB.wFree 10
        have b11 := hB.wFree 11
        have z10 := hB.size 0 rfl
        obtain ⟨v12, a12⟩ : ∃ v, _ = some v := ⟨_, hB.wCell 12 (by decide)⟩
        obtain ⟨v13, a13⟩ : ∃ v, _ = some v := ⟨_, hB.wCell 13 (by decide)⟩
        have b12 := hB.wFree 12
        have b13 := hB.wFree 13
        have HA12 := Lib.hid hB
        clear hB HB10
        )
 | (go_at_call 65; refine (need_mt _ _ _).mono ?_; rintro e w' ⟨rfl, rfl⟩))
  have hB0 := ((((((HA12.out.wSet 12 (by decide) (.pointer (some ⟨dco, 0, none⟩))).wSet 13 (by decide) (.pointer (some ⟨dmt, 0, none⟩))).wSet 10 (by decide) (.pointer (some ⟨w'.heap.size, 0, none⟩))).wSet 11 (by decide) (.pointer (some ⟨w'.heap.size + 1, 0, none⟩))).alloc (.cells #[.int .u64 0, .int .u64 0] 125 (0,0))).alloc (.cells #[.pointer none, .map none] 129 (0,0)))
  rw [sizeNew] at hB0
  rw [show ((((w'.setCell ⟨kb, 12, none⟩ (.pointer (some ⟨dco, 0, none⟩))).setCell ⟨kb, 13, none⟩ (.pointer (some ⟨dmt, 0, none⟩))).setCell ⟨kb, 10, none⟩ (.pointer (some ⟨w'.heap.size, 0, none⟩))).setCell ⟨kb, 11, none⟩ (.pointer (some ⟨w'.heap.size + 1, 0, none⟩))).heap.size = w'.heap.size by simp] at hB0
  have hB1 := hB0.as 14 rfl (P' := stopR w'.heap.size ⟨0, 0⟩) (fun F h => ⟨by constructor <;> simp, h⟩)
  have hB2 := hB1.as 15 rfl (P' := deskR (w'.heap.size + 1) sh0) (fun F h => ⟨none, none, h.1, h.2, rfl, rfl, by simp [qF], by simp [pF], by simp [pF], by constructor <;> simp [sh0]⟩)
  have hB3 := hB2.more (P := rowR 55 1 none 0 0 []) ⟨rfl, RAt.nil _ _ _⟩
  generalize hp : (KP.mk mb dth drq dtm diq drt dwk dcb dob dct dgt dco dmt w'.heap.size (w'.heap.size + 1) 0 none 0 (fun _ => 0)) = p at *
  have HK := Lib.hid (show On [] w (kernJ kb p (k0 n) 0 none 0 (fun _ => 0)) _ by subst hp; exact hB3)
  clear hB0 hB1 hB2 hB3 HA12 hp a10 a11 a12 a13 b10 b11 b12 b13
  clear z10 HB
  go_loopg [141] n (fun gg i wr => ∃ (j : Nat) (g : Option Nat) (cap : Nat) (D : Nat → Nat), i = .int .i64 j ∧ j + gg = n ∧ On [] w (kernJ kb p (k0 n) j g cap D) wr)
  case atStart => exact ⟨0, none, 0, fun _ => 0, rfl, by omega, HK.out⟩
  case round =>
    clear HK
    obtain ⟨j, g, cap, D, rfl, hj, hB⟩ := hrel
    by_cases hlt : j < n
    · have hltI : (j : Int) < n := by omega
      have c14 : wr.cell? ⟨kb, 14, none⟩ = some (.slice (rA g) j cap) := hB.cell 0 rfl 14
      have hN := fun k => ((hB.keep (u' := wr.drewN k) ((Mod.refl _ _).drewN k)).make (freq_New 100 1000 rfl _))
      have HB := Lib.hid hB
      clear hB
      go_wp2
      go_region_law (first
        | (
          go_simp
          go_at_call 68
          refine (hN _).mono ?_
          rintro e w2 ⟨x, rfl, hC⟩
          have c14 : w2.cell? ⟨kb, 14, none⟩ = some (.slice (rA g) j cap) := hC.cell 0 rfl 14
          have c14a := cellNew (.cells #[.pointer (some ⟨x, 0, none⟩)] 55 (0,0)) c14
          have hC2 := hC.keep (u' := w2.alloc (.cells #[.pointer (some ⟨x, 0, none⟩)] 55 (0,0))) ((Mod.refl _ _).alloc _)
          unfold kernJ at hC2
          obtain ⟨g', cap', w3, hrun, hD⟩ := hC2.famMore (P := Tryz.prog) (tt := 83) (bytes := 8) Tryz.underlying83 infoPG (by omega) (by omega) (b := w2.heap.size) (d := x) (heapNew _ _)
          have c3 : w3.cell? ⟨kb, 14, none⟩ = some (.slice (rA g) j cap) := hD.cell 0 rfl 14
          have f3 := hD.free 0 rfl 14
          have z3 := hD.size 0 rfl
          have HD := Lib.hid hD
          clear hC hC2 hN hD
          )
        | (go_simp; go_at_call 67; refine (need_gv _ _ _).mono ?_; rintro e w' ⟨rfl, rfl⟩)
        | (
          refine step_append_run rfl _ _ _ rfl (by first | rfl | (go_simp; rfl)) (by first | rfl | (go_simp; rfl)) (hrun _) ?_
          )
        )
      all_goals
        have hE := HD.out.set 0 rfl 14 (.slice (some ⟨g', 0, none⟩) (j + 1) cap')
        go_wp2
        go_roundg (gk - 1)
        case measure => omega
        case rel =>
          refine ⟨j + 1, some g', cap', gupd D j x, by go_num, by omega, ?_⟩
          have e : gupd (fun c => govR (D c) gov1) j (govR x gov1) = fun i => govR (gupd D j x i) gov1 := by
            funext i
            by_cases e : i = j
            · subst e; rw [gupd_same, gupd_same]
            · rw [gupd_ne _ _ e, gupd_ne _ _ e]
          rw [show gov0 100 1000 = gov1 from rfl, e] at hE
          exact hE
    · have hltI : ¬ (j : Int) < n := by omega
      obtain rfl : j = n := by omega
      have HB := Lib.hid hB
      clear hB
      go_wp2
      go_ret2
      refine ⟨kb, rfl, ?_⟩
      have hK : On [] w (kernL kb { p with g := g, cap := cap, D := D } (k0 j)) wr := by
        unfold kernL
        rw [List.append_nil]
        exact HB.out
      exact hK.kernel (k0_ok h1 h2)
end Go.Proofs.YtaakgpnmfkmdoaaGreatDoor
