/- The walk over package timer's New. No condition but those named. -/
import Derived.Test.YthieionajemjhaaDoorTimer5
namespace Go.Proofs.YthieionajemjhaaDoor
set_option linter.unusedVariables false
set_option linter.unusedSimpArgs false
open Go.RowKit
theorem infoPW : (Tryd.prog.info? 71).map (fun i => (i.zero, i.size, i.bytes)) = some (some (.pointer none), 1, 8) := by kernel_rfl
/-- The timers while they are made. -/
def madeL (d tb mw : Nat) (g : Option Nat) (cap j : Nat) (D : Nat → Nat) : List Res :=
  [Res.blk d (.cells #[.pointer (some ⟨tb, 0, none⟩), .slice (rA g) j cap, .map (some mw)] 70 (0,0)),
    slotR tb 48 [], mapR .i64 mw (duesV []), rowR 71 1 g cap j (ptrsV j D)] ++ (List.range j).map fun i => wheelR (D i) (sw0 0)
theorem ptrsV_succ (j : Nat) (D : Nat → Nat) (x : Nat) : ptrsV (j + 1) (upd D j x) = ptrsV j D ++ [.pointer (some ⟨x, 0, none⟩)] := by
  unfold ptrsV
  rw [List.range_succ, List.map_append]
  congr 1
  · refine List.map_congr_left fun i hi => ?_
    rw [upd_ne _ _ (by have := List.mem_range.1 hi; omega)]
  · simp [upd_same]
theorem wheels_succ (j : Nat) (D : Nat → Nat) (x : Nat) : ((List.range (j + 1)).map fun i => wheelR (upd D j x i) (sw0 0)) = ((List.range j).map fun i => wheelR (D i) (sw0 0)) ++ [wheelR x (sw0 0)] := by
  rw [List.range_succ, List.map_append]
  congr 1
  · refine List.map_congr_left fun i hi => ?_
    rw [upd_ne _ _ (by have := List.mem_range.1 hi; omega)]
  · simp [upd_same]
theorem timers_New_no (n : Int) (hn : ¬ (1 ≤ n ∧ n ≤ 64)) (w : World) : Calls Tryd.prog 6 #[.int .i64 n] w (Ret (.tuple #[.pointer none, .int .i64 2]) w) := by
  by_cases h1 : n < 1
  · clear hn
    go_enter Tryd.func6, Tryd.ntmps6
    go_wp2
    go_ret2
    exact Ret.of (rfl) (by repeat (first | exact Drew.refl _ | apply Drew.drewN | apply Drew.drew))
  · have h2 : 64 < n := by omega
    clear hn
    go_enter Tryd.func6, Tryd.ntmps6
    go_wp2
    go_ret2
    exact Ret.of (rfl) (by repeat (first | exact Drew.refl _ | apply Drew.drewN | apply Drew.drew))
set_option maxRecDepth 100000 in
set_option maxHeartbeats 1000000 in
theorem timers_New (n : Nat) (h1 : 1 ≤ n) (h2 : n ≤ 64) (w : World) : Calls Tryd.prog 6 #[.int .i64 n] w (TurnsV (fun d : Nat => .tuple #[.pointer (some ⟨d, 0, none⟩), .int .i64 0]) (fun d => timersA d (ta0 n)) [] w) := by
  have hS := (On.start w).make (slot_New 48 (by omega) (by omega) w)
  have hmk := fun w => run_makeMap (P := Tryd.prog) 67 w
  go_enter Tryd.func6, Tryd.ntmps6
  go_wp2_with (
    go_at_call 29
    refine hS.mono ?_
    rintro e w1 ⟨tb, rfl, hA⟩
    )
  have hB : On [] w (madeL (w1.heap.size + 1) tb w1.heap.size none 0 0 (fun _ => 0)) ((w1.alloc (.map #[] 0)).alloc (.cells #[.pointer (some ⟨tb, 0, none⟩), .slice none 0 0, .map (some w1.heap.size)] 70 (0,0))) := by
    have x1 := (hA.alloc (.map #[] 0)).as (P' := mapR .i64 w1.heap.size (duesV [])) 1 rfl (fun F hF => by
      obtain ⟨rfl, hF⟩ := hF
      exact ⟨rfl, #[], 0, hF, by simp [duesV], by simp [duesV], by simp, by simp⟩)
    have x2 := x1.alloc (.cells #[.pointer (some ⟨tb, 0, none⟩), .slice none 0 0, .map (some w1.heap.size)] 70 (0,0))
    have x3 := x2.front.more (P := rowR 71 1 none 0 0 []) ⟨rfl, RAt.nil _ _ _⟩
    simpa [madeL, ptrsV, rA] using x3
  generalize hd : w1.heap.size + 1 = d at *
  have hdz : (w1.alloc (.map #[] 0)).heap.size = d := by simp [hd]
  go_loopg [27] n (fun gg i wr => ∃ (j : Nat) (g : Option Nat) (cap : Nat) (D : Nat → Nat), i = .int .i64 j ∧ j + gg = n ∧ On [] w (madeL d tb w1.heap.size g cap j D) wr)
  case atStart => exact ⟨0, none, 0, _, rfl, by omega, hB⟩
  case round =>
    clear hB
    obtain ⟨j, g, cap, D, rfl, hj, hB⟩ := hrel
    by_cases hlt : j < n
    · have hltI : (j : Int) < n := by omega
      have hN := hB.make (wheelR_New wr)
      go_wp2_with (first
        | (
          go_at_call 30
          refine hN.mono ?_
          rintro e w2 ⟨dw, rfl, hC⟩
          have c1 := hC.cell 0 rfl 1
          have hC2 := hC.keep (u' := w2.alloc (.cells #[.pointer (some ⟨dw, 0, none⟩)] 71 (0,0))) ((Mod.refl _ _).alloc _)
          have c2 := hC2.cell 0 rfl 1
          obtain ⟨g', cap', w3, hrun, hD⟩ := hC2.rowAppend (P := Tryd.prog) (tt := 68) (bytes := 8) 3 rfl Tryd.underlying68 infoPW rfl (by omega) (by omega) (by omega) (b := w2.heap.size) (news := [.pointer (some ⟨dw, 0, none⟩)]) rfl (by simp [Value.oneCell']) (heapNew _ _)
          have c3 := hD.cell 0 rfl 1
          have f3 := hD.free 0 rfl 1
          have z3 := hD.size 0 rfl
          )
        | (
          at_builtin
          refine wpList_append_run rfl _ _ _ rfl rfl rfl (hrun _) ?_
          )
        )
      have hE := hD.set 0 rfl 1 (.slice (some ⟨g', 0, none⟩) (j + 1) cap')
      go_roundg (gk - 1)
      case measure => omega
      case rel =>
        refine ⟨j + 1, some g', cap', upd D j dw, by go_num, by omega, ?_⟩
        have e : madeL d tb w1.heap.size (some g') cap' (j + 1) (upd D j dw) = (((madeL d tb w1.heap.size g cap j D ++ [wheelR dw (sw0 0)]).set 3 (rowR 71 1 (some g') cap' (j + 1) (ptrsV j D ++ [Value.pointer (some ⟨dw, 0, none⟩)]))).set 0 (Res.blk d (Obj.cells ((#[Value.pointer (some ⟨tb, 0, none⟩), Value.slice (rA g) j cap, Value.map (some w1.heap.size)] : Array Value).setIfInBounds 1 (Value.slice (some ⟨g', 0, none⟩) (j + 1) cap')) 70 (0,0)))) := by
          simp [madeL, ptrsV_succ, wheels_succ, rA]
        rw [e]
        exact hE
    · have hltI : ¬ (j : Int) < n := by omega
      obtain rfl : j = n := by omega
      obtain ⟨F1, _, hr⟩ := hB.get 3 rfl
      cases g with
      | none => obtain ⟨_, h0, _⟩ := hr; omega
      | some gb =>
        clear hr
        go_wp2
        go_ret2
        exact ⟨d, rfl, hB.gains.imp fun F' h' => ⟨ts0 j, tsim0 h1 h2, ⟨tb, gb, cap, w1.heap.size, D⟩, h'⟩⟩
end Go.Proofs.YthieionajemjhaaDoor
