/- The law SplitPlays: its walk comes to true at every input. No condition. -/
import Derived.Test.YtiegnbdoidiffaaSplitKnown
import Derived.Test.YtiegnbdoidiffaaAct06
import Derived.Deep.RegionHeld3
import Derived.Test.YtiegnbdoidiffaaCalm
namespace Go.Proofs.Ytiegnbdoidiffaa
set_option linter.unusedVariables false
set_option linter.unusedSimpArgs false
open Go.RowKit

theorem cellsOf_arr {α : Type} {n : Nat} {vals : α → List Value} {ok : α → Prop} {w wr : World} {a : Option Addr} {len cap : Nat} {A : Nat → α} (hA : IsArr n vals ok w a len cap A) (m : Mod [] w wr) {k : Nat} (hk : k < len) :
    ∃ b off, a = some ⟨b, off, none⟩ ∧ ok (A k) ∧ b < w.heap.size ∧ ∀ j, j < n → wr.cell? ⟨b, off + k * n + j, none⟩ = (vals (A k))[j]? := by
  obtain ⟨_, _, h | ⟨b, off, ha, hb, h⟩⟩ := hA
  · omega
  · exact ⟨b, off, ha, (h k hk).1, hb, fun j hj => by rw [← (h k hk).2 j hj, Nat.add_assoc]; exact m.cell (p := ⟨b, off + (k * n + j), none⟩) hb (by simp)⟩

set_option maxRecDepth 100000 in
set_option maxHeartbeats 4000000 in
theorem SplitPlays_walk (w : World) (n : Int) (_hn : (Lit.int .i64 n).wf = true) (a : Option Addr) (len cap : Nat) (A : Nat → Act06) (hA : IsArr 4 Act06.vals Act06.ok w a len cap A) :
    Calls Try.prog 11 #[.int .i64 n, .slice a len cap] w (Rets (.bool true) [] w fun _ => True) := by
  by_cases hn : 1 ≤ n ∧ n ≤ 64
  · obtain ⟨h1, h2⟩ := hn
    obtain ⟨n, rfl⟩ := Int.eq_ofNat_of_zero_le (show 0 ≤ n by omega)
    have hlc := hA.1
    have hcm := hA.2.1
    unfold maxLen at hcm
    go_enter Try.func11, Try.ntmps11
    go_wp2_with (go_at_call 35; refine (split_New_ok n _ (by omega) (by omega)).mono ?_; rintro e w1 ⟨rfl, m1, hs1, x1⟩)
    go_wp2_with (go_at_call 40; refine (rsplit_New_ok n _ (by omega) (by omega)).mono ?_; rintro e w2 ⟨rfl, m2, hs2, r2⟩)
    go_loopg [9] len (fun g i wr => ∃ (k : Nat) (l : List Int), i = .int .i64 k ∧ k + g = len ∧ SplitAt 93 wr (w.heap.size + 1) w.heap.size l ∧ SplitAt 75 wr (w1.heap.size + 1) w1.heap.size l ∧ Mod [] w wr)
    case atStart => exact ⟨0, _, rfl, by omega, x1.keep m2 (by simp) (by simp), r2, m1.trans m2 (by simp)⟩
    case round =>
      obtain ⟨k, l, rfl, hk, x, r, m⟩ := hrel
      by_cases hkl : k < len ∧ k < 100
      · obtain ⟨hkl, hk2⟩ := hkl
        obtain ⟨ba, off, rfl, hok, hba, hc⟩ := cellsOf_arr hA m hkl
        have c0 := hc 0 (by omega)
        have c1 := hc 1 (by omega)
        have c2 := hc 2 (by omega)
        have c3 := hc 3 (by omega)
        clear hc hA x1 r2 m1 m2
        generalize A k = ak at *
        obtain ⟨cpu, to, z, fold⟩ := ak
        simp only [Act06.vals, List.getElem?_cons_zero, List.getElem?_cons_succ, Nat.add_zero] at c0 c1 c2 c3
        obtain ⟨o1, o2, o3⟩ := hok
        simp only at o1 o2 o3
        have z1 := i64bd o3
        clear o3 o1 o2
        have hk3 : decide ((k : Int) < 100) = true := decide_eq_true (by omega)
        cases fold
        · go_wp2
          have b0 : (wr.alloc (Obj.cells #[.int .i64 cpu, .int .i64 to, .int .i64 z, .bool false] 61)).cell? ⟨wr.heap.size, 0, none⟩ = some (.int .i64 cpu) := cellAt (heapNew _ _) 0
          have b2 : (wr.alloc (Obj.cells #[.int .i64 cpu, .int .i64 to, .int .i64 z, .bool false] 61)).cell? ⟨wr.heap.size, 2, none⟩ = some (.int .i64 z) := cellAt (heapNew _ _) 2
          have x3 := x.alloc (Obj.cells #[.int .i64 cpu, .int .i64 to, .int .i64 z, .bool false] 61)
          have r3 := r.alloc (Obj.cells #[.int .i64 cpu, .int .i64 to, .int .i64 z, .bool false] 61)
          have m3 := m.alloc (Obj.cells #[.int .i64 cpu, .int .i64 to, .int .i64 z, .bool false] 61)
          have hx := ltOf x.hb
          have hr := ltOf r.hb
          have hww := m.size
          generalize wr.alloc (Obj.cells #[.int .i64 cpu, .int .i64 to, .int .i64 z, .bool false] 61) = w3 at *
          generalize wr.heap.size = bb at *
          clear c0 c1 c2 c3 x r m
          refine wp_region_calm_lit (by kernel_rfl) (by kernel_rfl) (fun s u => (u.cell? ⟨bb, 0, none⟩ = some (.int .i64 cpu) ∧ u.cell? ⟨bb, 2, none⟩ = some (.int .i64 z)) ∧ SplitAt 93 u (w.heap.size + 1) w.heap.size (if s.getD 5 true = true then sAdd l cpu z else l) ∧ SplitAt 75 u (w1.heap.size + 1) w1.heap.size (if s.getD 11 true = true then sAdd l cpu z else l) ∧ Mod [] w u) (fun s hs => ⟨⟨b0, b2⟩, by rw [if_neg (by rw [hs 5 (by decide)]; decide)]; exact x3.same rfl, by rw [if_neg (by rw [hs 11 (by decide)]; decide)]; exact r3.same rfl, m3.drew⟩) ?_
          generalize hCC : (fun (s : Array Bool) (u : World) => (u.cell? ⟨bb, 0, none⟩ = some (.int .i64 cpu) ∧ u.cell? ⟨bb, 2, none⟩ = some (.int .i64 z)) ∧ SplitAt 93 u (w.heap.size + 1) w.heap.size (if s.getD 5 true = true then sAdd l cpu z else l) ∧ SplitAt 75 u (w1.heap.size + 1) w1.heap.size (if s.getD 11 true = true then sAdd l cpu z else l) ∧ Mod [] w u) = CC
          have hm : ∀ i, i ≠ 5 ∧ i ≠ 11 → CalmSkip CC i := by
            rintro i ⟨h5, h11⟩ s u _ hc
            rw [← hCC] at hc ⊢
            simp only [done_ne _ h5, done_ne _ h11]
            exact hc
          have hload : ∀ s u, CC s u → (u.cell? ⟨bb, 0, none⟩ = some (.int .i64 cpu) ∧ u.cell? ⟨bb, 2, none⟩ = some (.int .i64 z)) := by
            intro s u hc
            rw [← hCC] at hc
            exact hc.1
          have hcA : ∀ s u, s.getD 5 true = false → CC s u → Calls Try.prog 38 #[.pointer (some ⟨w.heap.size + 1, 0, none⟩), .int .i64 cpu, .int .i64 z] u (fun e u' => e = .returned (.int .i64 (sAddE l cpu z)) ∧ CC (s.setIfInBounds 5 true) u') := by
            intro s u hs hc
            rw [← hCC] at hc ⊢
            obtain ⟨⟨g0, g1⟩, gx, gr, gm⟩ := hc
            rw [if_neg (by simp [hs])] at gx
            refine (split_Add _ _ l cpu z z1 _ gx).mono ?_
            rintro e u' ⟨rfl, mm, xx⟩
            refine ⟨rfl, ⟨mm.at g0 (by simp; omega), mm.at g1 (by simp; omega)⟩, ?_, ?_, gm.trans mm (by simp)⟩
            · rw [if_pos (done_self _ _)]; exact xx
            · rw [done_ne _ (by decide)]; exact gr.keep mm (by simp; omega) (by simp; omega)
          have hcB : ∀ s u, s.getD 11 true = false → CC s u → Calls Try.prog 42 #[.pointer (some ⟨w1.heap.size + 1, 0, none⟩), .int .i64 cpu, .int .i64 z] u (fun e u' => e = .returned (.int .i64 (sAddE l cpu z)) ∧ CC (s.setIfInBounds 11 true) u') := by
            intro s u hs hc
            rw [← hCC] at hc ⊢
            obtain ⟨⟨g0, g1⟩, gx, gr, gm⟩ := hc
            rw [if_neg (by simp [hs])] at gr
            refine (rsplit_Add _ _ l cpu z z1 _ gr).mono ?_
            rintro e u' ⟨rfl, mm, xx⟩
            refine ⟨rfl, ⟨mm.at g0 (by simp; omega), mm.at g1 (by simp; omega)⟩, ?_, ?_, gm.trans mm (by simp; omega)⟩
            · rw [done_ne _ (by decide)]; exact gx.keep mm (by simp; omega) (by simp; omega)
            · rw [if_pos (done_self _ _)]; exact xx
          iterate 5 (first | (refine calm_pure (v := ?_) (by rfl) (fun w => ?_) (hm _ (by decide)) ?_; rotate_left; · (go_simp <;> with_reducible rfl)) | (refine calm_load (v := ?_) (by rfl) (fun s w hC => ?_) (hm _ (by decide)) ?_; rotate_left; · (have hl := hload s w hC; go_split_ands; go_simp <;> with_reducible rfl)) | (refine calm_skip (by rfl) (hm _ (by decide)) ?_)); simp only [Act.put, List.setIfInBounds_toArray, List.set_cons_zero, List.set_cons_succ, Nat.reduceAdd, Nat.zero_add]
          refine calm_call (by rfl) (fun w => ?_) (fun s u hs _ hc => hcA s u hs hc) ?_
          · go_simp
          simp only [Act.put, List.setIfInBounds_toArray, List.set_cons_zero, List.set_cons_succ, Nat.reduceAdd, Nat.zero_add]
          iterate 5 (first | (refine calm_pure (v := ?_) (by rfl) (fun w => ?_) (hm _ (by decide)) ?_; rotate_left; · (go_simp <;> with_reducible rfl)) | (refine calm_load (v := ?_) (by rfl) (fun s w hC => ?_) (hm _ (by decide)) ?_; rotate_left; · (have hl := hload s w hC; go_split_ands; go_simp <;> with_reducible rfl)) | (refine calm_skip (by rfl) (hm _ (by decide)) ?_)); simp only [Act.put, List.setIfInBounds_toArray, List.set_cons_zero, List.set_cons_succ, Nat.reduceAdd, Nat.zero_add]
          refine calm_call (by rfl) (fun w => ?_) (fun s u hs _ hc => hcB s u hs hc) ?_
          · go_simp
          simp only [Act.put, List.setIfInBounds_toArray, List.set_cons_zero, List.set_cons_succ, Nat.reduceAdd, Nat.zero_add]
          iterate 1 (first | (refine calm_pure (v := ?_) (by rfl) (fun w => ?_) (hm _ (by decide)) ?_; rotate_left; · (go_simp <;> with_reducible rfl)) | (refine calm_load (v := ?_) (by rfl) (fun s w hC => ?_) (hm _ (by decide)) ?_; rotate_left; · (have hl := hload s w hC; go_split_ands; go_simp <;> with_reducible rfl)) | (refine calm_skip (by rfl) (hm _ (by decide)) ?_)); simp only [Act.put, List.setIfInBounds_toArray, List.set_cons_zero, List.set_cons_succ, Nat.reduceAdd, Nat.zero_add]
          refine calm_nil ?_
          intro s w5 hall hc
          obtain ⟨⟨f0, _⟩, x5, r5, m6⟩ := hc
          rw [if_pos (hall 5 (by decide))] at x5
          rw [if_pos (hall 11 (by decide))] at r5
          clear hm hload hcA hcB hCC hall CC b0 b2 x3 r3 m3
          generalize sAdd l cpu z = l2 at *
          generalize sAddE l cpu z = ee at *
          have hrb : w5.cell? ⟨w1.heap.size + 1, 0, none⟩ = some (.slice (some ⟨w1.heap.size, 0, none⟩) l2.length l2.length) := cellAt r5.hb 0
          have hl64 := r5.le
          by_cases hin : 0 ≤ cpu ∧ cpu < l2.length
          · have hMay : mayE l2 cpu = 0 := by simp [mayE, hin]
            have hIs : isB l2 cpu = true := by simp [isB, hin]
            have hin' := hin
            obtain ⟨hi0, hi1⟩ := hin
            obtain ⟨c, rfl⟩ := Int.eq_ofNat_of_zero_le hi0
            have hGet : sGet l2 c = nth l2 c := by simp [sGet, hin']
            have hrr : w5.cell? ⟨w1.heap.size, c, none⟩ = some (.int .i64 (nth l2 c)) := (cellAt r5.hr c).trans (rowI_get (by omega))
            clear hin'
            go_wp2_with (go_at_call 39; refine (split_Sum _ _ l2 _ (by exact x5.same rfl)).mono ?_; rintro e w' ⟨rfl, k1, rfl⟩)
            go_wp2_with (go_at_call 43; refine (rsplit_Sum _ _ l2 _ (by exact r5.same rfl)).mono ?_; rintro e w' ⟨rfl, k2, rfl⟩)
            go_wp2_with (go_at_call 44; refine (split_Get _ _ l2 _ _ (by exact x5.same rfl)).mono ?_; rintro e w' ⟨rfl, k3, rfl⟩)
            obtain ⟨H, hH⟩ : ∃ H, H = w5.heap.size := ⟨_, rfl⟩
            refine wp_region_calm_lit (by kernel_rfl) (by kernel_rfl) (fun s u => (u.cell? ⟨bb, 0, none⟩ = some (.int .i64 c) ∧ u.cell? ⟨w1.heap.size + 1, 0, none⟩ = some (.slice (some ⟨w1.heap.size, 0, none⟩) l2.length l2.length)∧ u.cell? ⟨w1.heap.size, c, none⟩ = some (.int .i64 (nth l2 c))) ∧ SplitAt 93 u (w.heap.size + 1) w.heap.size l2 ∧ SplitAt 75 u (w1.heap.size + 1) w1.heap.size l2 ∧ Mod [] w u ∧ (s.getD 10 true = false → H = u.heap.size) ∧ (s.getD 10 true = true → u.heap[H]? = some (.cells (rowI .i64 l2) 2 (0,0)))) (fun s hs => ⟨⟨f0, hrb, hrr⟩, x5.same rfl, r5.same rfl, (m6.drewN _).drew, fun _ => hH, fun h => by rw [hs 10 (by decide)] at h; cases h⟩) ?_
            generalize hCC : (fun (s : Array Bool) (u : World) => (u.cell? ⟨bb, 0, none⟩ = some (.int .i64 c) ∧ u.cell? ⟨w1.heap.size + 1, 0, none⟩ = some (.slice (some ⟨w1.heap.size, 0, none⟩) l2.length l2.length)∧ u.cell? ⟨w1.heap.size, c, none⟩ = some (.int .i64 (nth l2 c))) ∧ SplitAt 93 u (w.heap.size + 1) w.heap.size l2 ∧ SplitAt 75 u (w1.heap.size + 1) w1.heap.size l2 ∧ Mod [] w u ∧ (s.getD 10 true = false → H = u.heap.size) ∧ (s.getD 10 true = true → u.heap[H]? = some (.cells (rowI .i64 l2) 2 (0,0)))) = CC
            have hm : ∀ i, i ≠ 10 → CalmSkip CC i := by
              rintro i h10 s u _ hc
              rw [← hCC] at hc ⊢
              simp only [done_ne _ h10]
              exact hc
            have hload : ∀ s u, CC s u → (u.cell? ⟨bb, 0, none⟩ = some (.int .i64 c) ∧ u.cell? ⟨w1.heap.size + 1, 0, none⟩ = some (.slice (some ⟨w1.heap.size, 0, none⟩) l2.length l2.length)∧ u.cell? ⟨w1.heap.size, c, none⟩ = some (.int .i64 (nth l2 c))) := by
              intro s u hc
              rw [← hCC] at hc
              exact hc.1
            have hcA : ∀ s u, s.getD 10 true = false → CC s u → Calls Try.prog 46 #[.pointer (some ⟨w.heap.size + 1, 0, none⟩)] u (fun e u' => e = .returned (.slice (some ⟨H, 0, none⟩) l2.length l2.length) ∧ CC (s.setIfInBounds 10 true) u') := by
              intro s u hs hc
              rw [← hCC] at hc ⊢
              obtain ⟨⟨g0, g1, g2⟩, gx, gr, gm, gh, _⟩ := hc
              refine (split_List _ _ l2 _ gx).mono ?_
              rintro e u' ⟨rfl, mm, xx⟩
              rw [← gh hs] at xx ⊢
              refine ⟨rfl, ⟨mm.at g0 (by simp), mm.at g1 (by simp), mm.at g2 (by simp)⟩, gx.keep mm (by simp) (by simp), gr.keep mm (by simp) (by simp), gm.trans mm (by simp), ?_, fun _ => xx⟩
              intro h; rw [done_self] at h; cases h
            have hcB : ∀ s u, s.getD 10 true = true → CC s u → Calls Try.prog 45 #[.slice (some ⟨H, 0, none⟩) l2.length l2.length, .slice (some ⟨w1.heap.size, 0, none⟩) l2.length l2.length] u (fun e u' => e = .returned (.bool true) ∧ CC (s.setIfInBounds 15 true) u') := by
              intro s u hs hc
              have hk := hm 15 (by decide)
              rw [← hCC] at hc ⊢
              obtain ⟨gc, gx, gr, gm, gh, gl⟩ := hc
              refine (same64 _ _ l2 l2 _ (by omega) (by omega) (gl hs) gr.hr).mono ?_
              rintro e u' ⟨rfl, j, rfl⟩
              refine ⟨by simp, gc, gx.same rfl, gr.same rfl, gm.drewN _, ?_, ?_⟩
              · rw [done_ne _ (by decide)]; exact gh
              · rw [done_ne _ (by decide)]; exact gl
            have hcC : ∀ s u, CC s u → Calls Try.prog 47 #[.pointer (some ⟨w1.heap.size + 1, 0, none⟩), .int .i64 c] u (fun e u' => e = .returned (.bool true) ∧ CC (s.setIfInBounds 24 true) u') := by
              intro s u hc
              rw [← hCC] at hc ⊢
              obtain ⟨gc, gx, gr, gm, gh, gl⟩ := hc
              refine (rsplit_Is _ _ l2 _ _ gr).mono ?_
              rintro e u' ⟨rfl, j, rfl⟩
              refine ⟨by rw [hIs], gc, gx.same rfl, gr.same rfl, gm.drewN _, ?_, ?_⟩
              · rw [done_ne _ (by decide)]; exact gh
              · rw [done_ne _ (by decide)]; exact gl
            iterate 10 (first | (refine calm_pure (v := ?_) (by rfl) (fun w => ?_) (hm _ (by decide)) ?_; rotate_left; · (go_simp <;> with_reducible rfl)) | (refine calm_load (v := ?_) (by rfl) (fun s w hC => ?_) (hm _ (by decide)) ?_; rotate_left; · (have hl := hload s w hC; go_split_ands; go_simp <;> with_reducible rfl)) | (refine calm_skip (by rfl) (hm _ (by decide)) ?_)); simp only [Act.put, List.setIfInBounds_toArray, List.set_cons_zero, List.set_cons_succ, Nat.reduceAdd, Nat.zero_add]
            refine calm_call (by rfl) (fun w => ?_) (fun s u hs _ hc => hcA s u hs hc) ?_
            · go_simp
            simp only [Act.put, List.setIfInBounds_toArray, List.set_cons_zero, List.set_cons_succ, Nat.reduceAdd, Nat.zero_add]
            iterate 4 (first | (refine calm_pure (v := ?_) (by rfl) (fun w => ?_) (hm _ (by decide)) ?_; rotate_left; · (go_simp <;> with_reducible rfl)) | (refine calm_load (v := ?_) (by rfl) (fun s w hC => ?_) (hm _ (by decide)) ?_; rotate_left; · (have hl := hload s w hC; go_split_ands; go_simp <;> with_reducible rfl)) | (refine calm_skip (by rfl) (hm _ (by decide)) ?_)); simp only [Act.put, List.setIfInBounds_toArray, List.set_cons_zero, List.set_cons_succ, Nat.reduceAdd, Nat.zero_add]
            refine calm_call (by rfl) (fun w => ?_) (fun s u hs hW hc => hcB s u (upOf (hW ⟨10, .data⟩ (by simp) rfl)) hc) ?_
            · go_simp
            simp only [Act.put, List.setIfInBounds_toArray, List.set_cons_zero, List.set_cons_succ, Nat.reduceAdd, Nat.zero_add]
            iterate 8 (first | (refine calm_pure (v := ?_) (by rfl) (fun w => ?_) (hm _ (by decide)) ?_; rotate_left; · (go_simp <;> with_reducible rfl)) | (refine calm_load (v := ?_) (by rfl) (fun s w hC => ?_) (hm _ (by decide)) ?_; rotate_left; · (have hl := hload s w hC; go_split_ands; go_simp <;> with_reducible rfl)) | (refine calm_skip (by rfl) (hm _ (by decide)) ?_)); simp only [Act.put, List.setIfInBounds_toArray, List.set_cons_zero, List.set_cons_succ, Nat.reduceAdd, Nat.zero_add]
            refine calm_call (by rfl) (fun w => ?_) (fun s u hs _ hc => hcC s u hc) ?_
            · go_simp
            simp only [Act.put, List.setIfInBounds_toArray, List.set_cons_zero, List.set_cons_succ, Nat.reduceAdd, Nat.zero_add]
            iterate 30 (first | (refine calm_pure (v := ?_) (by rfl) (fun w => ?_) (hm _ (by decide)) ?_; rotate_left; · (go_simp <;> with_reducible rfl)) | (refine calm_load (v := ?_) (by rfl) (fun s w hC => ?_) (hm _ (by decide)) ?_; rotate_left; · (have hl := hload s w hC; go_split_ands; go_simp <;> with_reducible rfl)) | (refine calm_skip (by rfl) (hm _ (by decide)) ?_)); simp only [Act.put, List.setIfInBounds_toArray, List.set_cons_zero, List.set_cons_succ, Nat.reduceAdd, Nat.zero_add]
            refine calm_nil ?_
            intro s w6 hall hc
            obtain ⟨_, x6, r6, m7, _, _⟩ := hc
            clear hm hload hcA hcB hcC hCC hall CC
            go_wp2
            go_roundg (gk - 1)
            case measure => omega
            case rel => exact ⟨k + 1, l2, by go_num, by omega, x6, r6, m7⟩
          · have hMay : mayE l2 cpu = 3 := by simp [mayE, hin]
            have hIs : isB l2 cpu = false := by simp only [isB]; exact decide_eq_false hin
            have hGet : sGet l2 cpu = 0 := by simp [sGet, hin]
            clear hin
            go_wp2_with (go_at_call 39; refine (split_Sum _ _ l2 _ (by exact x5.same rfl)).mono ?_; rintro e w' ⟨rfl, k1, rfl⟩)
            go_wp2_with (go_at_call 43; refine (rsplit_Sum _ _ l2 _ (by exact r5.same rfl)).mono ?_; rintro e w' ⟨rfl, k2, rfl⟩)
            go_wp2_with (go_at_call 44; refine (split_Get _ _ l2 _ _ (by exact x5.same rfl)).mono ?_; rintro e w' ⟨rfl, k3, rfl⟩)
            obtain ⟨H, hH⟩ : ∃ H, H = w5.heap.size := ⟨_, rfl⟩
            refine wp_region_calm_lit (by kernel_rfl) (by kernel_rfl) (fun s u => (u.cell? ⟨bb, 0, none⟩ = some (.int .i64 cpu) ∧ u.cell? ⟨w1.heap.size + 1, 0, none⟩ = some (.slice (some ⟨w1.heap.size, 0, none⟩) l2.length l2.length)) ∧ SplitAt 93 u (w.heap.size + 1) w.heap.size l2 ∧ SplitAt 75 u (w1.heap.size + 1) w1.heap.size l2 ∧ Mod [] w u ∧ (s.getD 10 true = false → H = u.heap.size) ∧ (s.getD 10 true = true → u.heap[H]? = some (.cells (rowI .i64 l2) 2 (0,0)))) (fun s hs => ⟨⟨f0, hrb⟩, x5.same rfl, r5.same rfl, (m6.drewN _).drew, fun _ => hH, fun h => by rw [hs 10 (by decide)] at h; cases h⟩) ?_
            generalize hCC : (fun (s : Array Bool) (u : World) => (u.cell? ⟨bb, 0, none⟩ = some (.int .i64 cpu) ∧ u.cell? ⟨w1.heap.size + 1, 0, none⟩ = some (.slice (some ⟨w1.heap.size, 0, none⟩) l2.length l2.length)) ∧ SplitAt 93 u (w.heap.size + 1) w.heap.size l2 ∧ SplitAt 75 u (w1.heap.size + 1) w1.heap.size l2 ∧ Mod [] w u ∧ (s.getD 10 true = false → H = u.heap.size) ∧ (s.getD 10 true = true → u.heap[H]? = some (.cells (rowI .i64 l2) 2 (0,0)))) = CC
            have hm : ∀ i, i ≠ 10 → CalmSkip CC i := by
              rintro i h10 s u _ hc
              rw [← hCC] at hc ⊢
              simp only [done_ne _ h10]
              exact hc
            have hload : ∀ s u, CC s u → (u.cell? ⟨bb, 0, none⟩ = some (.int .i64 cpu) ∧ u.cell? ⟨w1.heap.size + 1, 0, none⟩ = some (.slice (some ⟨w1.heap.size, 0, none⟩) l2.length l2.length)) := by
              intro s u hc
              rw [← hCC] at hc
              exact hc.1
            have hcA : ∀ s u, s.getD 10 true = false → CC s u → Calls Try.prog 46 #[.pointer (some ⟨w.heap.size + 1, 0, none⟩)] u (fun e u' => e = .returned (.slice (some ⟨H, 0, none⟩) l2.length l2.length) ∧ CC (s.setIfInBounds 10 true) u') := by
              intro s u hs hc
              rw [← hCC] at hc ⊢
              obtain ⟨⟨g0, g1⟩, gx, gr, gm, gh, _⟩ := hc
              refine (split_List _ _ l2 _ gx).mono ?_
              rintro e u' ⟨rfl, mm, xx⟩
              rw [← gh hs] at xx ⊢
              refine ⟨rfl, ⟨mm.at g0 (by simp), mm.at g1 (by simp)⟩, gx.keep mm (by simp) (by simp), gr.keep mm (by simp) (by simp), gm.trans mm (by simp), ?_, fun _ => xx⟩
              intro h; rw [done_self] at h; cases h
            have hcB : ∀ s u, s.getD 10 true = true → CC s u → Calls Try.prog 45 #[.slice (some ⟨H, 0, none⟩) l2.length l2.length, .slice (some ⟨w1.heap.size, 0, none⟩) l2.length l2.length] u (fun e u' => e = .returned (.bool true) ∧ CC (s.setIfInBounds 15 true) u') := by
              intro s u hs hc
              have hk := hm 15 (by decide)
              rw [← hCC] at hc ⊢
              obtain ⟨gc, gx, gr, gm, gh, gl⟩ := hc
              refine (same64 _ _ l2 l2 _ (by omega) (by omega) (gl hs) gr.hr).mono ?_
              rintro e u' ⟨rfl, j, rfl⟩
              refine ⟨by simp, gc, gx.same rfl, gr.same rfl, gm.drewN _, ?_, ?_⟩
              · rw [done_ne _ (by decide)]; exact gh
              · rw [done_ne _ (by decide)]; exact gl
            have hcC : ∀ s u, CC s u → Calls Try.prog 47 #[.pointer (some ⟨w1.heap.size + 1, 0, none⟩), .int .i64 cpu] u (fun e u' => e = .returned (.bool false) ∧ CC (s.setIfInBounds 24 true) u') := by
              intro s u hc
              rw [← hCC] at hc ⊢
              obtain ⟨gc, gx, gr, gm, gh, gl⟩ := hc
              refine (rsplit_Is _ _ l2 _ _ gr).mono ?_
              rintro e u' ⟨rfl, j, rfl⟩
              refine ⟨by rw [hIs], gc, gx.same rfl, gr.same rfl, gm.drewN _, ?_, ?_⟩
              · rw [done_ne _ (by decide)]; exact gh
              · rw [done_ne _ (by decide)]; exact gl
            iterate 10 (first | (refine calm_pure (v := ?_) (by rfl) (fun w => ?_) (hm _ (by decide)) ?_; rotate_left; · (go_simp <;> with_reducible rfl)) | (refine calm_load (v := ?_) (by rfl) (fun s w hC => ?_) (hm _ (by decide)) ?_; rotate_left; · (have hl := hload s w hC; go_split_ands; go_simp <;> with_reducible rfl)) | (refine calm_skip (by rfl) (hm _ (by decide)) ?_)); simp only [Act.put, List.setIfInBounds_toArray, List.set_cons_zero, List.set_cons_succ, Nat.reduceAdd, Nat.zero_add]
            refine calm_call (by rfl) (fun w => ?_) (fun s u hs _ hc => hcA s u hs hc) ?_
            · go_simp
            simp only [Act.put, List.setIfInBounds_toArray, List.set_cons_zero, List.set_cons_succ, Nat.reduceAdd, Nat.zero_add]
            iterate 4 (first | (refine calm_pure (v := ?_) (by rfl) (fun w => ?_) (hm _ (by decide)) ?_; rotate_left; · (go_simp <;> with_reducible rfl)) | (refine calm_load (v := ?_) (by rfl) (fun s w hC => ?_) (hm _ (by decide)) ?_; rotate_left; · (have hl := hload s w hC; go_split_ands; go_simp <;> with_reducible rfl)) | (refine calm_skip (by rfl) (hm _ (by decide)) ?_)); simp only [Act.put, List.setIfInBounds_toArray, List.set_cons_zero, List.set_cons_succ, Nat.reduceAdd, Nat.zero_add]
            refine calm_call (by rfl) (fun w => ?_) (fun s u hs hW hc => hcB s u (upOf (hW ⟨10, .data⟩ (by simp) rfl)) hc) ?_
            · go_simp
            simp only [Act.put, List.setIfInBounds_toArray, List.set_cons_zero, List.set_cons_succ, Nat.reduceAdd, Nat.zero_add]
            iterate 8 (first | (refine calm_pure (v := ?_) (by rfl) (fun w => ?_) (hm _ (by decide)) ?_; rotate_left; · (go_simp <;> with_reducible rfl)) | (refine calm_load (v := ?_) (by rfl) (fun s w hC => ?_) (hm _ (by decide)) ?_; rotate_left; · (have hl := hload s w hC; go_split_ands; go_simp <;> with_reducible rfl)) | (refine calm_skip (by rfl) (hm _ (by decide)) ?_)); simp only [Act.put, List.setIfInBounds_toArray, List.set_cons_zero, List.set_cons_succ, Nat.reduceAdd, Nat.zero_add]
            refine calm_call (by rfl) (fun w => ?_) (fun s u hs _ hc => hcC s u hc) ?_
            · go_simp
            simp only [Act.put, List.setIfInBounds_toArray, List.set_cons_zero, List.set_cons_succ, Nat.reduceAdd, Nat.zero_add]
            iterate 30 (first | (refine calm_pure (v := ?_) (by rfl) (fun w => ?_) (hm _ (by decide)) ?_; rotate_left; · (go_simp <;> with_reducible rfl)) | (refine calm_load (v := ?_) (by rfl) (fun s w hC => ?_) (hm _ (by decide)) ?_; rotate_left; · (have hl := hload s w hC; go_split_ands; go_simp <;> with_reducible rfl)) | (refine calm_skip (by rfl) (hm _ (by decide)) ?_)); simp only [Act.put, List.setIfInBounds_toArray, List.set_cons_zero, List.set_cons_succ, Nat.reduceAdd, Nat.zero_add]
            refine calm_nil ?_
            intro s w6 hall hc
            obtain ⟨_, x6, r6, m7, _, _⟩ := hc
            clear hm hload hcA hcB hcC hCC hall CC
            go_wp2
            go_roundg (gk - 1)
            case measure => omega
            case rel => exact ⟨k + 1, l2, by go_num, by omega, x6, r6, m7⟩
        · go_wp2
          have b0 : (wr.alloc (Obj.cells #[.int .i64 cpu, .int .i64 to, .int .i64 z, .bool true] 61)).cell? ⟨wr.heap.size, 0, none⟩ = some (.int .i64 cpu) := cellAt (heapNew _ _) 0
          have b2 : (wr.alloc (Obj.cells #[.int .i64 cpu, .int .i64 to, .int .i64 z, .bool true] 61)).cell? ⟨wr.heap.size, 1, none⟩ = some (.int .i64 to) := cellAt (heapNew _ _) 1
          have x3 := x.alloc (Obj.cells #[.int .i64 cpu, .int .i64 to, .int .i64 z, .bool true] 61)
          have r3 := r.alloc (Obj.cells #[.int .i64 cpu, .int .i64 to, .int .i64 z, .bool true] 61)
          have m3 := m.alloc (Obj.cells #[.int .i64 cpu, .int .i64 to, .int .i64 z, .bool true] 61)
          have hx := ltOf x.hb
          have hr := ltOf r.hb
          have hww := m.size
          generalize wr.alloc (Obj.cells #[.int .i64 cpu, .int .i64 to, .int .i64 z, .bool true] 61) = w3 at *
          generalize wr.heap.size = bb at *
          clear c0 c1 c2 c3 x r m
          refine wp_region_calm_lit (by kernel_rfl) (by kernel_rfl) (fun s u => (u.cell? ⟨bb, 0, none⟩ = some (.int .i64 cpu) ∧ u.cell? ⟨bb, 1, none⟩ = some (.int .i64 to)) ∧ SplitAt 93 u (w.heap.size + 1) w.heap.size (if s.getD 5 true = true then sFold l cpu to else l) ∧ SplitAt 75 u (w1.heap.size + 1) w1.heap.size (if s.getD 11 true = true then sFold l cpu to else l) ∧ Mod [] w u) (fun s hs => ⟨⟨b0, b2⟩, by rw [if_neg (by rw [hs 5 (by decide)]; decide)]; exact x3.same rfl, by rw [if_neg (by rw [hs 11 (by decide)]; decide)]; exact r3.same rfl, m3.drew⟩) ?_
          generalize hCC : (fun (s : Array Bool) (u : World) => (u.cell? ⟨bb, 0, none⟩ = some (.int .i64 cpu) ∧ u.cell? ⟨bb, 1, none⟩ = some (.int .i64 to)) ∧ SplitAt 93 u (w.heap.size + 1) w.heap.size (if s.getD 5 true = true then sFold l cpu to else l) ∧ SplitAt 75 u (w1.heap.size + 1) w1.heap.size (if s.getD 11 true = true then sFold l cpu to else l) ∧ Mod [] w u) = CC
          have hm : ∀ i, i ≠ 5 ∧ i ≠ 11 → CalmSkip CC i := by
            rintro i ⟨h5, h11⟩ s u _ hc
            rw [← hCC] at hc ⊢
            simp only [done_ne _ h5, done_ne _ h11]
            exact hc
          have hload : ∀ s u, CC s u → (u.cell? ⟨bb, 0, none⟩ = some (.int .i64 cpu) ∧ u.cell? ⟨bb, 1, none⟩ = some (.int .i64 to)) := by
            intro s u hc
            rw [← hCC] at hc
            exact hc.1
          have hcA : ∀ s u, s.getD 5 true = false → CC s u → Calls Try.prog 37 #[.pointer (some ⟨w.heap.size + 1, 0, none⟩), .int .i64 cpu, .int .i64 to] u (fun e u' => e = .returned (.int .i64 (sFoldE l cpu to)) ∧ CC (s.setIfInBounds 5 true) u') := by
            intro s u hs hc
            rw [← hCC] at hc ⊢
            obtain ⟨⟨g0, g1⟩, gx, gr, gm⟩ := hc
            rw [if_neg (by simp [hs])] at gx
            refine (split_Fold _ _ l cpu to _ gx).mono ?_
            rintro e u' ⟨rfl, mm, xx⟩
            refine ⟨rfl, ⟨mm.at g0 (by simp; omega), mm.at g1 (by simp; omega)⟩, ?_, ?_, gm.trans mm (by simp)⟩
            · rw [if_pos (done_self _ _)]; exact xx
            · rw [done_ne _ (by decide)]; exact gr.keep mm (by simp; omega) (by simp; omega)
          have hcB : ∀ s u, s.getD 11 true = false → CC s u → Calls Try.prog 41 #[.pointer (some ⟨w1.heap.size + 1, 0, none⟩), .int .i64 cpu, .int .i64 to] u (fun e u' => e = .returned (.int .i64 (sFoldE l cpu to)) ∧ CC (s.setIfInBounds 11 true) u') := by
            intro s u hs hc
            rw [← hCC] at hc ⊢
            obtain ⟨⟨g0, g1⟩, gx, gr, gm⟩ := hc
            rw [if_neg (by simp [hs])] at gr
            refine (rsplit_Fold _ _ l cpu to _ gr).mono ?_
            rintro e u' ⟨rfl, mm, xx⟩
            refine ⟨rfl, ⟨mm.at g0 (by simp; omega), mm.at g1 (by simp; omega)⟩, ?_, ?_, gm.trans mm (by simp; omega)⟩
            · rw [done_ne _ (by decide)]; exact gx.keep mm (by simp; omega) (by simp; omega)
            · rw [if_pos (done_self _ _)]; exact xx
          iterate 5 (first | (refine calm_pure (v := ?_) (by rfl) (fun w => ?_) (hm _ (by decide)) ?_; rotate_left; · (go_simp <;> with_reducible rfl)) | (refine calm_load (v := ?_) (by rfl) (fun s w hC => ?_) (hm _ (by decide)) ?_; rotate_left; · (have hl := hload s w hC; go_split_ands; go_simp <;> with_reducible rfl)) | (refine calm_skip (by rfl) (hm _ (by decide)) ?_)); simp only [Act.put, List.setIfInBounds_toArray, List.set_cons_zero, List.set_cons_succ, Nat.reduceAdd, Nat.zero_add]
          refine calm_call (by rfl) (fun w => ?_) (fun s u hs _ hc => hcA s u hs hc) ?_
          · go_simp
          simp only [Act.put, List.setIfInBounds_toArray, List.set_cons_zero, List.set_cons_succ, Nat.reduceAdd, Nat.zero_add]
          iterate 5 (first | (refine calm_pure (v := ?_) (by rfl) (fun w => ?_) (hm _ (by decide)) ?_; rotate_left; · (go_simp <;> with_reducible rfl)) | (refine calm_load (v := ?_) (by rfl) (fun s w hC => ?_) (hm _ (by decide)) ?_; rotate_left; · (have hl := hload s w hC; go_split_ands; go_simp <;> with_reducible rfl)) | (refine calm_skip (by rfl) (hm _ (by decide)) ?_)); simp only [Act.put, List.setIfInBounds_toArray, List.set_cons_zero, List.set_cons_succ, Nat.reduceAdd, Nat.zero_add]
          refine calm_call (by rfl) (fun w => ?_) (fun s u hs _ hc => hcB s u hs hc) ?_
          · go_simp
          simp only [Act.put, List.setIfInBounds_toArray, List.set_cons_zero, List.set_cons_succ, Nat.reduceAdd, Nat.zero_add]
          iterate 1 (first | (refine calm_pure (v := ?_) (by rfl) (fun w => ?_) (hm _ (by decide)) ?_; rotate_left; · (go_simp <;> with_reducible rfl)) | (refine calm_load (v := ?_) (by rfl) (fun s w hC => ?_) (hm _ (by decide)) ?_; rotate_left; · (have hl := hload s w hC; go_split_ands; go_simp <;> with_reducible rfl)) | (refine calm_skip (by rfl) (hm _ (by decide)) ?_)); simp only [Act.put, List.setIfInBounds_toArray, List.set_cons_zero, List.set_cons_succ, Nat.reduceAdd, Nat.zero_add]
          refine calm_nil ?_
          intro s w5 hall hc
          obtain ⟨⟨f0, _⟩, x5, r5, m6⟩ := hc
          rw [if_pos (hall 5 (by decide))] at x5
          rw [if_pos (hall 11 (by decide))] at r5
          clear hm hload hcA hcB hCC hall CC b0 b2 x3 r3 m3
          generalize sFold l cpu to = l2 at *
          generalize sFoldE l cpu to = ee at *
          have hrb : w5.cell? ⟨w1.heap.size + 1, 0, none⟩ = some (.slice (some ⟨w1.heap.size, 0, none⟩) l2.length l2.length) := cellAt r5.hb 0
          have hl64 := r5.le
          by_cases hin : 0 ≤ cpu ∧ cpu < l2.length
          · have hMay : mayE l2 cpu = 0 := by simp [mayE, hin]
            have hIs : isB l2 cpu = true := by simp [isB, hin]
            have hin' := hin
            obtain ⟨hi0, hi1⟩ := hin
            obtain ⟨c, rfl⟩ := Int.eq_ofNat_of_zero_le hi0
            have hGet : sGet l2 c = nth l2 c := by simp [sGet, hin']
            have hrr : w5.cell? ⟨w1.heap.size, c, none⟩ = some (.int .i64 (nth l2 c)) := (cellAt r5.hr c).trans (rowI_get (by omega))
            clear hin'
            go_wp2_with (go_at_call 39; refine (split_Sum _ _ l2 _ (by exact x5.same rfl)).mono ?_; rintro e w' ⟨rfl, k1, rfl⟩)
            go_wp2_with (go_at_call 43; refine (rsplit_Sum _ _ l2 _ (by exact r5.same rfl)).mono ?_; rintro e w' ⟨rfl, k2, rfl⟩)
            go_wp2_with (go_at_call 44; refine (split_Get _ _ l2 _ _ (by exact x5.same rfl)).mono ?_; rintro e w' ⟨rfl, k3, rfl⟩)
            obtain ⟨H, hH⟩ : ∃ H, H = w5.heap.size := ⟨_, rfl⟩
            refine wp_region_calm_lit (by kernel_rfl) (by kernel_rfl) (fun s u => (u.cell? ⟨bb, 0, none⟩ = some (.int .i64 c) ∧ u.cell? ⟨w1.heap.size + 1, 0, none⟩ = some (.slice (some ⟨w1.heap.size, 0, none⟩) l2.length l2.length)∧ u.cell? ⟨w1.heap.size, c, none⟩ = some (.int .i64 (nth l2 c))) ∧ SplitAt 93 u (w.heap.size + 1) w.heap.size l2 ∧ SplitAt 75 u (w1.heap.size + 1) w1.heap.size l2 ∧ Mod [] w u ∧ (s.getD 10 true = false → H = u.heap.size) ∧ (s.getD 10 true = true → u.heap[H]? = some (.cells (rowI .i64 l2) 2 (0,0)))) (fun s hs => ⟨⟨f0, hrb, hrr⟩, x5.same rfl, r5.same rfl, (m6.drewN _).drew, fun _ => hH, fun h => by rw [hs 10 (by decide)] at h; cases h⟩) ?_
            generalize hCC : (fun (s : Array Bool) (u : World) => (u.cell? ⟨bb, 0, none⟩ = some (.int .i64 c) ∧ u.cell? ⟨w1.heap.size + 1, 0, none⟩ = some (.slice (some ⟨w1.heap.size, 0, none⟩) l2.length l2.length)∧ u.cell? ⟨w1.heap.size, c, none⟩ = some (.int .i64 (nth l2 c))) ∧ SplitAt 93 u (w.heap.size + 1) w.heap.size l2 ∧ SplitAt 75 u (w1.heap.size + 1) w1.heap.size l2 ∧ Mod [] w u ∧ (s.getD 10 true = false → H = u.heap.size) ∧ (s.getD 10 true = true → u.heap[H]? = some (.cells (rowI .i64 l2) 2 (0,0)))) = CC
            have hm : ∀ i, i ≠ 10 → CalmSkip CC i := by
              rintro i h10 s u _ hc
              rw [← hCC] at hc ⊢
              simp only [done_ne _ h10]
              exact hc
            have hload : ∀ s u, CC s u → (u.cell? ⟨bb, 0, none⟩ = some (.int .i64 c) ∧ u.cell? ⟨w1.heap.size + 1, 0, none⟩ = some (.slice (some ⟨w1.heap.size, 0, none⟩) l2.length l2.length)∧ u.cell? ⟨w1.heap.size, c, none⟩ = some (.int .i64 (nth l2 c))) := by
              intro s u hc
              rw [← hCC] at hc
              exact hc.1
            have hcA : ∀ s u, s.getD 10 true = false → CC s u → Calls Try.prog 46 #[.pointer (some ⟨w.heap.size + 1, 0, none⟩)] u (fun e u' => e = .returned (.slice (some ⟨H, 0, none⟩) l2.length l2.length) ∧ CC (s.setIfInBounds 10 true) u') := by
              intro s u hs hc
              rw [← hCC] at hc ⊢
              obtain ⟨⟨g0, g1, g2⟩, gx, gr, gm, gh, _⟩ := hc
              refine (split_List _ _ l2 _ gx).mono ?_
              rintro e u' ⟨rfl, mm, xx⟩
              rw [← gh hs] at xx ⊢
              refine ⟨rfl, ⟨mm.at g0 (by simp), mm.at g1 (by simp), mm.at g2 (by simp)⟩, gx.keep mm (by simp) (by simp), gr.keep mm (by simp) (by simp), gm.trans mm (by simp), ?_, fun _ => xx⟩
              intro h; rw [done_self] at h; cases h
            have hcB : ∀ s u, s.getD 10 true = true → CC s u → Calls Try.prog 45 #[.slice (some ⟨H, 0, none⟩) l2.length l2.length, .slice (some ⟨w1.heap.size, 0, none⟩) l2.length l2.length] u (fun e u' => e = .returned (.bool true) ∧ CC (s.setIfInBounds 15 true) u') := by
              intro s u hs hc
              have hk := hm 15 (by decide)
              rw [← hCC] at hc ⊢
              obtain ⟨gc, gx, gr, gm, gh, gl⟩ := hc
              refine (same64 _ _ l2 l2 _ (by omega) (by omega) (gl hs) gr.hr).mono ?_
              rintro e u' ⟨rfl, j, rfl⟩
              refine ⟨by simp, gc, gx.same rfl, gr.same rfl, gm.drewN _, ?_, ?_⟩
              · rw [done_ne _ (by decide)]; exact gh
              · rw [done_ne _ (by decide)]; exact gl
            have hcC : ∀ s u, CC s u → Calls Try.prog 47 #[.pointer (some ⟨w1.heap.size + 1, 0, none⟩), .int .i64 c] u (fun e u' => e = .returned (.bool true) ∧ CC (s.setIfInBounds 24 true) u') := by
              intro s u hc
              rw [← hCC] at hc ⊢
              obtain ⟨gc, gx, gr, gm, gh, gl⟩ := hc
              refine (rsplit_Is _ _ l2 _ _ gr).mono ?_
              rintro e u' ⟨rfl, j, rfl⟩
              refine ⟨by rw [hIs], gc, gx.same rfl, gr.same rfl, gm.drewN _, ?_, ?_⟩
              · rw [done_ne _ (by decide)]; exact gh
              · rw [done_ne _ (by decide)]; exact gl
            iterate 10 (first | (refine calm_pure (v := ?_) (by rfl) (fun w => ?_) (hm _ (by decide)) ?_; rotate_left; · (go_simp <;> with_reducible rfl)) | (refine calm_load (v := ?_) (by rfl) (fun s w hC => ?_) (hm _ (by decide)) ?_; rotate_left; · (have hl := hload s w hC; go_split_ands; go_simp <;> with_reducible rfl)) | (refine calm_skip (by rfl) (hm _ (by decide)) ?_)); simp only [Act.put, List.setIfInBounds_toArray, List.set_cons_zero, List.set_cons_succ, Nat.reduceAdd, Nat.zero_add]
            refine calm_call (by rfl) (fun w => ?_) (fun s u hs _ hc => hcA s u hs hc) ?_
            · go_simp
            simp only [Act.put, List.setIfInBounds_toArray, List.set_cons_zero, List.set_cons_succ, Nat.reduceAdd, Nat.zero_add]
            iterate 4 (first | (refine calm_pure (v := ?_) (by rfl) (fun w => ?_) (hm _ (by decide)) ?_; rotate_left; · (go_simp <;> with_reducible rfl)) | (refine calm_load (v := ?_) (by rfl) (fun s w hC => ?_) (hm _ (by decide)) ?_; rotate_left; · (have hl := hload s w hC; go_split_ands; go_simp <;> with_reducible rfl)) | (refine calm_skip (by rfl) (hm _ (by decide)) ?_)); simp only [Act.put, List.setIfInBounds_toArray, List.set_cons_zero, List.set_cons_succ, Nat.reduceAdd, Nat.zero_add]
            refine calm_call (by rfl) (fun w => ?_) (fun s u hs hW hc => hcB s u (upOf (hW ⟨10, .data⟩ (by simp) rfl)) hc) ?_
            · go_simp
            simp only [Act.put, List.setIfInBounds_toArray, List.set_cons_zero, List.set_cons_succ, Nat.reduceAdd, Nat.zero_add]
            iterate 8 (first | (refine calm_pure (v := ?_) (by rfl) (fun w => ?_) (hm _ (by decide)) ?_; rotate_left; · (go_simp <;> with_reducible rfl)) | (refine calm_load (v := ?_) (by rfl) (fun s w hC => ?_) (hm _ (by decide)) ?_; rotate_left; · (have hl := hload s w hC; go_split_ands; go_simp <;> with_reducible rfl)) | (refine calm_skip (by rfl) (hm _ (by decide)) ?_)); simp only [Act.put, List.setIfInBounds_toArray, List.set_cons_zero, List.set_cons_succ, Nat.reduceAdd, Nat.zero_add]
            refine calm_call (by rfl) (fun w => ?_) (fun s u hs _ hc => hcC s u hc) ?_
            · go_simp
            simp only [Act.put, List.setIfInBounds_toArray, List.set_cons_zero, List.set_cons_succ, Nat.reduceAdd, Nat.zero_add]
            iterate 30 (first | (refine calm_pure (v := ?_) (by rfl) (fun w => ?_) (hm _ (by decide)) ?_; rotate_left; · (go_simp <;> with_reducible rfl)) | (refine calm_load (v := ?_) (by rfl) (fun s w hC => ?_) (hm _ (by decide)) ?_; rotate_left; · (have hl := hload s w hC; go_split_ands; go_simp <;> with_reducible rfl)) | (refine calm_skip (by rfl) (hm _ (by decide)) ?_)); simp only [Act.put, List.setIfInBounds_toArray, List.set_cons_zero, List.set_cons_succ, Nat.reduceAdd, Nat.zero_add]
            refine calm_nil ?_
            intro s w6 hall hc
            obtain ⟨_, x6, r6, m7, _, _⟩ := hc
            clear hm hload hcA hcB hcC hCC hall CC
            go_wp2
            go_roundg (gk - 1)
            case measure => omega
            case rel => exact ⟨k + 1, l2, by go_num, by omega, x6, r6, m7⟩
          · have hMay : mayE l2 cpu = 3 := by simp [mayE, hin]
            have hIs : isB l2 cpu = false := by simp only [isB]; exact decide_eq_false hin
            have hGet : sGet l2 cpu = 0 := by simp [sGet, hin]
            clear hin
            go_wp2_with (go_at_call 39; refine (split_Sum _ _ l2 _ (by exact x5.same rfl)).mono ?_; rintro e w' ⟨rfl, k1, rfl⟩)
            go_wp2_with (go_at_call 43; refine (rsplit_Sum _ _ l2 _ (by exact r5.same rfl)).mono ?_; rintro e w' ⟨rfl, k2, rfl⟩)
            go_wp2_with (go_at_call 44; refine (split_Get _ _ l2 _ _ (by exact x5.same rfl)).mono ?_; rintro e w' ⟨rfl, k3, rfl⟩)
            obtain ⟨H, hH⟩ : ∃ H, H = w5.heap.size := ⟨_, rfl⟩
            refine wp_region_calm_lit (by kernel_rfl) (by kernel_rfl) (fun s u => (u.cell? ⟨bb, 0, none⟩ = some (.int .i64 cpu) ∧ u.cell? ⟨w1.heap.size + 1, 0, none⟩ = some (.slice (some ⟨w1.heap.size, 0, none⟩) l2.length l2.length)) ∧ SplitAt 93 u (w.heap.size + 1) w.heap.size l2 ∧ SplitAt 75 u (w1.heap.size + 1) w1.heap.size l2 ∧ Mod [] w u ∧ (s.getD 10 true = false → H = u.heap.size) ∧ (s.getD 10 true = true → u.heap[H]? = some (.cells (rowI .i64 l2) 2 (0,0)))) (fun s hs => ⟨⟨f0, hrb⟩, x5.same rfl, r5.same rfl, (m6.drewN _).drew, fun _ => hH, fun h => by rw [hs 10 (by decide)] at h; cases h⟩) ?_
            generalize hCC : (fun (s : Array Bool) (u : World) => (u.cell? ⟨bb, 0, none⟩ = some (.int .i64 cpu) ∧ u.cell? ⟨w1.heap.size + 1, 0, none⟩ = some (.slice (some ⟨w1.heap.size, 0, none⟩) l2.length l2.length)) ∧ SplitAt 93 u (w.heap.size + 1) w.heap.size l2 ∧ SplitAt 75 u (w1.heap.size + 1) w1.heap.size l2 ∧ Mod [] w u ∧ (s.getD 10 true = false → H = u.heap.size) ∧ (s.getD 10 true = true → u.heap[H]? = some (.cells (rowI .i64 l2) 2 (0,0)))) = CC
            have hm : ∀ i, i ≠ 10 → CalmSkip CC i := by
              rintro i h10 s u _ hc
              rw [← hCC] at hc ⊢
              simp only [done_ne _ h10]
              exact hc
            have hload : ∀ s u, CC s u → (u.cell? ⟨bb, 0, none⟩ = some (.int .i64 cpu) ∧ u.cell? ⟨w1.heap.size + 1, 0, none⟩ = some (.slice (some ⟨w1.heap.size, 0, none⟩) l2.length l2.length)) := by
              intro s u hc
              rw [← hCC] at hc
              exact hc.1
            have hcA : ∀ s u, s.getD 10 true = false → CC s u → Calls Try.prog 46 #[.pointer (some ⟨w.heap.size + 1, 0, none⟩)] u (fun e u' => e = .returned (.slice (some ⟨H, 0, none⟩) l2.length l2.length) ∧ CC (s.setIfInBounds 10 true) u') := by
              intro s u hs hc
              rw [← hCC] at hc ⊢
              obtain ⟨⟨g0, g1⟩, gx, gr, gm, gh, _⟩ := hc
              refine (split_List _ _ l2 _ gx).mono ?_
              rintro e u' ⟨rfl, mm, xx⟩
              rw [← gh hs] at xx ⊢
              refine ⟨rfl, ⟨mm.at g0 (by simp), mm.at g1 (by simp)⟩, gx.keep mm (by simp) (by simp), gr.keep mm (by simp) (by simp), gm.trans mm (by simp), ?_, fun _ => xx⟩
              intro h; rw [done_self] at h; cases h
            have hcB : ∀ s u, s.getD 10 true = true → CC s u → Calls Try.prog 45 #[.slice (some ⟨H, 0, none⟩) l2.length l2.length, .slice (some ⟨w1.heap.size, 0, none⟩) l2.length l2.length] u (fun e u' => e = .returned (.bool true) ∧ CC (s.setIfInBounds 15 true) u') := by
              intro s u hs hc
              have hk := hm 15 (by decide)
              rw [← hCC] at hc ⊢
              obtain ⟨gc, gx, gr, gm, gh, gl⟩ := hc
              refine (same64 _ _ l2 l2 _ (by omega) (by omega) (gl hs) gr.hr).mono ?_
              rintro e u' ⟨rfl, j, rfl⟩
              refine ⟨by simp, gc, gx.same rfl, gr.same rfl, gm.drewN _, ?_, ?_⟩
              · rw [done_ne _ (by decide)]; exact gh
              · rw [done_ne _ (by decide)]; exact gl
            have hcC : ∀ s u, CC s u → Calls Try.prog 47 #[.pointer (some ⟨w1.heap.size + 1, 0, none⟩), .int .i64 cpu] u (fun e u' => e = .returned (.bool false) ∧ CC (s.setIfInBounds 24 true) u') := by
              intro s u hc
              rw [← hCC] at hc ⊢
              obtain ⟨gc, gx, gr, gm, gh, gl⟩ := hc
              refine (rsplit_Is _ _ l2 _ _ gr).mono ?_
              rintro e u' ⟨rfl, j, rfl⟩
              refine ⟨by rw [hIs], gc, gx.same rfl, gr.same rfl, gm.drewN _, ?_, ?_⟩
              · rw [done_ne _ (by decide)]; exact gh
              · rw [done_ne _ (by decide)]; exact gl
            iterate 10 (first | (refine calm_pure (v := ?_) (by rfl) (fun w => ?_) (hm _ (by decide)) ?_; rotate_left; · (go_simp <;> with_reducible rfl)) | (refine calm_load (v := ?_) (by rfl) (fun s w hC => ?_) (hm _ (by decide)) ?_; rotate_left; · (have hl := hload s w hC; go_split_ands; go_simp <;> with_reducible rfl)) | (refine calm_skip (by rfl) (hm _ (by decide)) ?_)); simp only [Act.put, List.setIfInBounds_toArray, List.set_cons_zero, List.set_cons_succ, Nat.reduceAdd, Nat.zero_add]
            refine calm_call (by rfl) (fun w => ?_) (fun s u hs _ hc => hcA s u hs hc) ?_
            · go_simp
            simp only [Act.put, List.setIfInBounds_toArray, List.set_cons_zero, List.set_cons_succ, Nat.reduceAdd, Nat.zero_add]
            iterate 4 (first | (refine calm_pure (v := ?_) (by rfl) (fun w => ?_) (hm _ (by decide)) ?_; rotate_left; · (go_simp <;> with_reducible rfl)) | (refine calm_load (v := ?_) (by rfl) (fun s w hC => ?_) (hm _ (by decide)) ?_; rotate_left; · (have hl := hload s w hC; go_split_ands; go_simp <;> with_reducible rfl)) | (refine calm_skip (by rfl) (hm _ (by decide)) ?_)); simp only [Act.put, List.setIfInBounds_toArray, List.set_cons_zero, List.set_cons_succ, Nat.reduceAdd, Nat.zero_add]
            refine calm_call (by rfl) (fun w => ?_) (fun s u hs hW hc => hcB s u (upOf (hW ⟨10, .data⟩ (by simp) rfl)) hc) ?_
            · go_simp
            simp only [Act.put, List.setIfInBounds_toArray, List.set_cons_zero, List.set_cons_succ, Nat.reduceAdd, Nat.zero_add]
            iterate 8 (first | (refine calm_pure (v := ?_) (by rfl) (fun w => ?_) (hm _ (by decide)) ?_; rotate_left; · (go_simp <;> with_reducible rfl)) | (refine calm_load (v := ?_) (by rfl) (fun s w hC => ?_) (hm _ (by decide)) ?_; rotate_left; · (have hl := hload s w hC; go_split_ands; go_simp <;> with_reducible rfl)) | (refine calm_skip (by rfl) (hm _ (by decide)) ?_)); simp only [Act.put, List.setIfInBounds_toArray, List.set_cons_zero, List.set_cons_succ, Nat.reduceAdd, Nat.zero_add]
            refine calm_call (by rfl) (fun w => ?_) (fun s u hs _ hc => hcC s u hc) ?_
            · go_simp
            simp only [Act.put, List.setIfInBounds_toArray, List.set_cons_zero, List.set_cons_succ, Nat.reduceAdd, Nat.zero_add]
            iterate 30 (first | (refine calm_pure (v := ?_) (by rfl) (fun w => ?_) (hm _ (by decide)) ?_; rotate_left; · (go_simp <;> with_reducible rfl)) | (refine calm_load (v := ?_) (by rfl) (fun s w hC => ?_) (hm _ (by decide)) ?_; rotate_left; · (have hl := hload s w hC; go_split_ands; go_simp <;> with_reducible rfl)) | (refine calm_skip (by rfl) (hm _ (by decide)) ?_)); simp only [Act.put, List.setIfInBounds_toArray, List.set_cons_zero, List.set_cons_succ, Nat.reduceAdd, Nat.zero_add]
            refine calm_nil ?_
            intro s w6 hall hc
            obtain ⟨_, x6, r6, m7, _, _⟩ := hc
            clear hm hload hcA hcB hcC hCC hall CC
            go_wp2
            go_roundg (gk - 1)
            case measure => omega
            case rel => exact ⟨k + 1, l2, by go_num, by omega, x6, r6, m7⟩
      · have hne : ¬ ((k : Int) < (len : Int)) ∨ ((k : Int) < (len : Int) ∧ ¬ ((k : Int) < 100)) := by omega
        clear hkl hA
        rcases hne with h4 | ⟨h3, h4⟩
        all_goals
          go_wp2_with (go_at_call 36; refine (known06 _).mono ?_; rintro e w7 ⟨rfl, m7, _⟩)
          go_ret
          exact Rets.of rfl (m.trans m7 (by simp)) trivial
  · have h4 : n < 1 ∨ 64 < n := by omega
    clear hn hA
    have hN := fun w => split_New_no n w h4
    have hR := fun w => rsplit_New_no n w h4
    rcases h4 with h4 | h4
    all_goals
      go_enter Try.func11, Try.ntmps11
      go_wp2_with (go_at_call 35; refine (hN _).mono ?_; rintro e w1 ⟨rfl, k1, rfl⟩)
      go_wp2_with (go_at_call 40; refine (hR _).mono ?_; rintro e w1 ⟨rfl, k2, rfl⟩)
      go_wp2_with (go_at_call 36; refine (known06 _).mono ?_; rintro e w7 ⟨rfl, m7, _⟩)
      go_ret
      exact Rets.of rfl (((Mod.refl _ _).drewN _).trans m7 (by simp)) trivial
end Go.Proofs.Ytiegnbdoidiffaa
