/- The law HotPlays: its walk comes to true at every input. No condition. -/
import Derived.Test.YtbelcmiljjndaaaHotBoth
namespace Go.Proofs.Ytbelcmiljjndaaa
set_option linter.unusedVariables false
set_option linter.unusedSimpArgs false
open Go.RowKit



set_option maxRecDepth 100000 in
set_option maxHeartbeats 4000000 in
theorem HotPlays_walk (w : World) (a : Option Addr) (len cap : Nat) (A : Nat → Act22) (hA : IsArr 5 Act22.vals Act22.ok w a len cap A) :
    Calls Try.prog 7 #[.slice a len cap] w (Rets (.bool true) [] w fun _ => True) := by
  have hlc := hA.1
  have hcm := hA.2.1
  unfold maxLen at hcm
  have x0 := Two.new w
  go_enter Try.func7, Try.ntmps7
  go_wp2
  go_loopg [5] len (fun gg i wr => ∃ (k : Nat) (s : SH), i = .int .i64 k ∧ k + gg = len ∧ Two w wr w.heap.size (w.heap.size + 1) s s [])
  case atStart => exact ⟨0, k0, rfl, by omega, x0⟩
  case round =>
    clear x0
    obtain ⟨k, s, rfl, hk, x⟩ := hrel
    by_cases hkl : k < len ∧ k < 200
    · obtain ⟨hkl, hk2⟩ := hkl
      obtain ⟨ba, off, rfl, hok, hba, hc⟩ := cellsOf_arr hA x.mod hkl
      have c0 := hc 0 (by omega)
      have c1 := hc 1 (by omega)
      have c2 := hc 2 (by omega)
      have c3 := hc 3 (by omega)
      have c4 := hc 4 (by omega)
      clear hc hA
      generalize A k = ak at *
      obtain ⟨kind, stage, up, cpu, by_⟩ := ak
      simp only [Act22.vals, List.getElem?_cons_zero, List.getElem?_cons_succ, Nat.add_zero] at c0 c1 c2 c3 c4
      obtain ⟨o1, o2, o3, o4⟩ := hok
      simp only at o1 o2 o3 o4
      have z1 : In64 kind := i64bd o1
      clear o1 o2 o3 o4
      obtain ⟨z2, z3⟩ := z1
      have hk3 : decide ((k : Int) < 200) = true := decide_eq_true (by omega)
      have xa := x.alloc (Obj.cells #[.int .i64 kind, .int .i64 stage, .bool up, .int .i64 cpu, .int .i64 by_] 63)
      clear x
      by_cases e0 : kind.tmod 5 = 0
      · have q0 : (kind.tmod 5 == 0) = true := by simp [e0]
        clear e0
        go_wp2_with fail
        generalize hs' : s.doPlan stage = s' at *
        have hbb : ∀ u s1 s2, Two w u w.heap.size (w.heap.size + 1) s1 s2 [(wr.heap.size, Obj.cells #[.int .i64 kind, .int .i64 stage, .bool up, .int .i64 cpu, .int .i64 by_] 63)] → u.cell? ⟨wr.heap.size, 1, none⟩ = some (.int .i64 stage) ∧ u.cell? ⟨wr.heap.size, 2, none⟩ = some (.bool up) ∧ u.cell? ⟨wr.heap.size, 3, none⟩ = some (.int .i64 cpu) ∧ u.cell? ⟨wr.heap.size, 4, none⟩ = some (.int .i64 by_) := fun u s1 s2 h => by
          have v := h.held (b := wr.heap.size) (o := Obj.cells #[.int .i64 kind, .int .i64 stage, .bool up, .int .i64 cpu, .int .i64 by_] 63) (by simp)
          exact ⟨cellAt v 1, cellAt v 2, cellAt v 3, cellAt v 4⟩
        clear c0 c1 c2 c3 c4
        generalize hO : wr.alloc (Obj.cells #[.int .i64 kind, .int .i64 stage, .bool up, .int .i64 cpu, .int .i64 by_] 63) = w3 at *
        clear hO
        generalize [(wr.heap.size, Obj.cells #[.int .i64 kind, .int .i64 stage, .bool up, .int .i64 cpu, .int .i64 by_] 63)] = X at *
        generalize wr.heap.size = bb at *
        obtain ⟨CC, hCC⟩ : ∃ CC : Array Bool → World → Prop, CC = (fun (z : Array Bool) (u : World) => Two w u w.heap.size (w.heap.size + 1) (if z.getD 3 true = true then s' else s) (if z.getD 7 true = true then s' else s) X) := ⟨_, rfl⟩
        refine wp_region_calm_lit (by kernel_rfl) (by kernel_rfl) CC (fun z hz => by rw [hCC]; simp only; rw [if_neg (by rw [hz 3 (by decide)]; decide), if_neg (by rw [hz 7 (by decide)]; decide)]; exact xa.drew) ?_
        have hm : ∀ i, i ≠ 3 ∧ i ≠ 7 → CalmSkip CC i := by
          rintro i ⟨h5, h11⟩ z u _ hc
          rw [hCC] at hc ⊢
          simp only [done_ne _ h5, done_ne _ h11]
          exact hc
        have hload : ∀ z u, CC z u → u.cell? ⟨bb, 1, none⟩ = some (.int .i64 stage) ∧ u.cell? ⟨bb, 2, none⟩ = some (.bool up) ∧ u.cell? ⟨bb, 3, none⟩ = some (.int .i64 cpu) ∧ u.cell? ⟨bb, 4, none⟩ = some (.int .i64 by_) := by
          intro z u hc
          rw [hCC] at hc
          exact hbb _ _ _ hc
        have hcA : ∀ z u, z.getD 3 true = false → CC z u → Calls Try.prog 12 #[.pointer (some ⟨w.heap.size, 0, none⟩), .int .i64 stage] u (fun e u' => e = .returned (.int .i64 (planE stage)) ∧ CC (z.setIfInBounds 3 true) u') := by
          intro z u hz hc
          rw [hCC] at hc ⊢
          simp only at hc ⊢
          rw [if_neg (by simp [hz])] at hc
          rw [if_pos (done_self _ _), done_ne _ (by decide), ← hs']
          rw [← hs'] at hc
          exact hc.callP (fun _ _ h => hot_Plan _ _ _ _ _ _ h)
        have hcB : ∀ z u, z.getD 7 true = false → CC z u → Calls Try.prog 31 #[.pointer (some ⟨w.heap.size + 1, 0, none⟩), .int .i64 stage] u (fun e u' => e = .returned (.int .i64 (planE stage)) ∧ CC (z.setIfInBounds 7 true) u') := by
          intro z u hz hc
          rw [hCC] at hc ⊢
          simp only at hc ⊢
          rw [if_neg (c := z.getD 7 true = true) (by simp [hz])] at hc
          rw [if_pos (c := (z.setIfInBounds 7 true).getD 7 true = true) (done_self _ _), done_ne _ (by decide), ← hs']
          rw [← hs'] at hc
          exact hc.callR (fun _ _ _ h => rhot_Fails _ _ _ _ _ _ _ h)
        iterate 3 (first | (refine calm_pure (v := ?_) (by rfl) (fun w => ?_) (hm _ (by decide)) ?_; rotate_left; · (go_simp <;> with_reducible rfl)) | (refine calm_load (v := ?_) (by rfl) (fun s w hUp hC => ?_) (hm _ (by decide)) ?_; rotate_left; · (have hl := hload s w hC; go_split_ands; go_simp <;> with_reducible rfl)) | (refine calm_skip (by rfl) (hm _ (by decide)) ?_)); simp only [Act.put, List.setIfInBounds_toArray, List.set_cons_zero, List.set_cons_succ, Nat.reduceAdd, Nat.zero_add]
        refine calm_call (by rfl) (fun w => ?_) (fun s u hs hUp hc => hcA s u hs hc) ?_
        · go_simp
        simp only [Act.put, List.setIfInBounds_toArray, List.set_cons_zero, List.set_cons_succ, Nat.reduceAdd, Nat.zero_add]
        iterate 3 (first | (refine calm_pure (v := ?_) (by rfl) (fun w => ?_) (hm _ (by decide)) ?_; rotate_left; · (go_simp <;> with_reducible rfl)) | (refine calm_load (v := ?_) (by rfl) (fun s w hUp hC => ?_) (hm _ (by decide)) ?_; rotate_left; · (have hl := hload s w hC; go_split_ands; go_simp <;> with_reducible rfl)) | (refine calm_skip (by rfl) (hm _ (by decide)) ?_)); simp only [Act.put, List.setIfInBounds_toArray, List.set_cons_zero, List.set_cons_succ, Nat.reduceAdd, Nat.zero_add]
        refine calm_call (by rfl) (fun w => ?_) (fun s u hs hUp hc => hcB s u hs hc) ?_
        · go_simp
        simp only [Act.put, List.setIfInBounds_toArray, List.set_cons_zero, List.set_cons_succ, Nat.reduceAdd, Nat.zero_add]
        iterate 1 (first | (refine calm_pure (v := ?_) (by rfl) (fun w => ?_) (hm _ (by decide)) ?_; rotate_left; · (go_simp <;> with_reducible rfl)) | (refine calm_load (v := ?_) (by rfl) (fun s w hUp hC => ?_) (hm _ (by decide)) ?_; rotate_left; · (have hl := hload s w hC; go_split_ands; go_simp <;> with_reducible rfl)) | (refine calm_skip (by rfl) (hm _ (by decide)) ?_)); simp only [Act.put, List.setIfInBounds_toArray, List.set_cons_zero, List.set_cons_succ, Nat.reduceAdd, Nat.zero_add]
        refine calm_nil ?_
        intro z w5 hall hc
        rw [hCC] at hc
        try simp only at hc
        rw [if_pos (hall 3 (by decide)), if_pos (hall 7 (by decide))] at hc
        clear hm hload hcA hcB hCC hall CC hbb xa hs'
        go_wp2
        have y9 := hc.drop
        clear hc
        have y10 := y9
        obtain ⟨q, pm, rq, g, cap', h1, h2, h3, h4⟩ := y9
        clear h3 h4
        have d0 := cellAt h2.hd 0
        have d1 := cellAt h2.hd 1
        have d2 := cellAt h2.hd 2
        have d3 := cellAt h2.hd 3
        simp only [List.getElem?_toArray, List.getElem?_cons_zero, List.getElem?_cons_succ] at d0 d1 d2 d3
        rcases rq with _ | ⟨ra, rb⟩
        · simp only [qP] at d0
          have hr : s'.run.isSome = false := by have := h2.hq; simp only [RReq] at this; simp [this]
          go_quiet (first | (go_at_call 36; exact Calls.quiet_of (hot_Busy _ _ _ s' _ (by exact h1.same rfl))) | (go_at_call 37; exact Calls.quiet_of (hot_Up _ _ _ s' _ (by exact h1.same rfl))) | (go_at_call 38; exact Calls.quiet_of (hot_Cpu _ _ _ s' _ (by exact h1.same rfl))) | (go_at_call 39; exact Calls.quiet_of (hot_By _ _ _ s' _ (by exact h1.same rfl))) | (go_at_call 40; exact Calls.quiet_of (hot_Over _ _ _ s' _ (by exact h1.same rfl))) | (go_at_call 41; exact Calls.quiet_of (rhot_Over _ _ _ _ s' _ (by exact h2.same rfl))))
          go_wp2
          go_roundg (gk - 1)
          case measure => omega
          case rel => exact ⟨k + 1, s', by go_num, by omega, y10.drewN _⟩
        · simp only [qP] at d0
          have hr : s'.run.isSome = true := by obtain ⟨r, h9, _⟩ := h2.hq; simp [h9]
          go_quiet (first | (go_at_call 36; exact Calls.quiet_of (hot_Busy _ _ _ s' _ (by exact h1.same rfl))) | (go_at_call 37; exact Calls.quiet_of (hot_Up _ _ _ s' _ (by exact h1.same rfl))) | (go_at_call 38; exact Calls.quiet_of (hot_Cpu _ _ _ s' _ (by exact h1.same rfl))) | (go_at_call 39; exact Calls.quiet_of (hot_By _ _ _ s' _ (by exact h1.same rfl))) | (go_at_call 40; exact Calls.quiet_of (hot_Over _ _ _ s' _ (by exact h1.same rfl))) | (go_at_call 41; exact Calls.quiet_of (rhot_Over _ _ _ _ s' _ (by exact h2.same rfl))))
          go_wp2
          go_roundg (gk - 1)
          case measure => omega
          case rel => exact ⟨k + 1, s', by go_num, by omega, y10.drewN _⟩
      by_cases e1 : kind.tmod 5 = 1
      · have q0 : (kind.tmod 5 == 0) = false := by simp [e1]
        have q1 : (kind.tmod 5 == 1) = true := by simp [e1]
        clear e0 e1
        go_wp2_with fail
        generalize hs' : s.begin_ up cpu by_ = s' at *
        have hbb : ∀ u s1 s2, Two w u w.heap.size (w.heap.size + 1) s1 s2 [(wr.heap.size, Obj.cells #[.int .i64 kind, .int .i64 stage, .bool up, .int .i64 cpu, .int .i64 by_] 63)] → u.cell? ⟨wr.heap.size, 1, none⟩ = some (.int .i64 stage) ∧ u.cell? ⟨wr.heap.size, 2, none⟩ = some (.bool up) ∧ u.cell? ⟨wr.heap.size, 3, none⟩ = some (.int .i64 cpu) ∧ u.cell? ⟨wr.heap.size, 4, none⟩ = some (.int .i64 by_) := fun u s1 s2 h => by
          have v := h.held (b := wr.heap.size) (o := Obj.cells #[.int .i64 kind, .int .i64 stage, .bool up, .int .i64 cpu, .int .i64 by_] 63) (by simp)
          exact ⟨cellAt v 1, cellAt v 2, cellAt v 3, cellAt v 4⟩
        clear c0 c1 c2 c3 c4
        generalize hO : wr.alloc (Obj.cells #[.int .i64 kind, .int .i64 stage, .bool up, .int .i64 cpu, .int .i64 by_] 63) = w3 at *
        clear hO
        generalize [(wr.heap.size, Obj.cells #[.int .i64 kind, .int .i64 stage, .bool up, .int .i64 cpu, .int .i64 by_] 63)] = X at *
        generalize wr.heap.size = bb at *
        obtain ⟨CC, hCC⟩ : ∃ CC : Array Bool → World → Prop, CC = (fun (z : Array Bool) (u : World) => Two w u w.heap.size (w.heap.size + 1) (if z.getD 7 true = true then s' else s) (if z.getD 15 true = true then s' else s) X) := ⟨_, rfl⟩
        refine wp_region_calm_lit (by kernel_rfl) (by kernel_rfl) CC (fun z hz => by rw [hCC]; simp only; rw [if_neg (by rw [hz 7 (by decide)]; decide), if_neg (by rw [hz 15 (by decide)]; decide)]; exact xa.drew) ?_
        have hm : ∀ i, i ≠ 7 ∧ i ≠ 15 → CalmSkip CC i := by
          rintro i ⟨h5, h11⟩ z u _ hc
          rw [hCC] at hc ⊢
          simp only [done_ne _ h5, done_ne _ h11]
          exact hc
        have hload : ∀ z u, CC z u → u.cell? ⟨bb, 1, none⟩ = some (.int .i64 stage) ∧ u.cell? ⟨bb, 2, none⟩ = some (.bool up) ∧ u.cell? ⟨bb, 3, none⟩ = some (.int .i64 cpu) ∧ u.cell? ⟨bb, 4, none⟩ = some (.int .i64 by_) := by
          intro z u hc
          rw [hCC] at hc
          exact hbb _ _ _ hc
        have hcA : ∀ z u, z.getD 7 true = false → CC z u → Calls Try.prog 13 #[.pointer (some ⟨w.heap.size, 0, none⟩), .bool up, .int .i64 cpu, .int .i64 by_] u (fun e u' => e = .returned (.int .i64 (s.beginE cpu by_)) ∧ CC (z.setIfInBounds 7 true) u') := by
          intro z u hz hc
          rw [hCC] at hc ⊢
          simp only at hc ⊢
          rw [if_neg (by simp [hz])] at hc
          rw [if_pos (done_self _ _), done_ne _ (by decide), ← hs']
          rw [← hs'] at hc
          exact hc.callP (fun _ _ h => hot_Begin _ _ _ _ _ _ _ _ h)
        have hcB : ∀ z u, z.getD 15 true = false → CC z u → Calls Try.prog 32 #[.pointer (some ⟨w.heap.size + 1, 0, none⟩), .bool up, .int .i64 cpu, .int .i64 by_] u (fun e u' => e = .returned (.int .i64 (s.beginE cpu by_)) ∧ CC (z.setIfInBounds 15 true) u') := by
          intro z u hz hc
          rw [hCC] at hc ⊢
          simp only at hc ⊢
          rw [if_neg (c := z.getD 15 true = true) (by simp [hz])] at hc
          rw [if_pos (c := (z.setIfInBounds 15 true).getD 15 true = true) (done_self _ _), done_ne _ (by decide), ← hs']
          rw [← hs'] at hc
          exact hc.callR (fun _ _ _ h => rhot_Begin _ _ _ _ _ _ _ _ _ h)
        iterate 7 (first | (refine calm_pure (v := ?_) (by rfl) (fun w => ?_) (hm _ (by decide)) ?_; rotate_left; · (go_simp <;> with_reducible rfl)) | (refine calm_load (v := ?_) (by rfl) (fun s w hUp hC => ?_) (hm _ (by decide)) ?_; rotate_left; · (have hl := hload s w hC; go_split_ands; go_simp <;> with_reducible rfl)) | (refine calm_skip (by rfl) (hm _ (by decide)) ?_)); simp only [Act.put, List.setIfInBounds_toArray, List.set_cons_zero, List.set_cons_succ, Nat.reduceAdd, Nat.zero_add]
        refine calm_call (by rfl) (fun w => ?_) (fun s u hs hUp hc => hcA s u hs hc) ?_
        · go_simp
        simp only [Act.put, List.setIfInBounds_toArray, List.set_cons_zero, List.set_cons_succ, Nat.reduceAdd, Nat.zero_add]
        iterate 7 (first | (refine calm_pure (v := ?_) (by rfl) (fun w => ?_) (hm _ (by decide)) ?_; rotate_left; · (go_simp <;> with_reducible rfl)) | (refine calm_load (v := ?_) (by rfl) (fun s w hUp hC => ?_) (hm _ (by decide)) ?_; rotate_left; · (have hl := hload s w hC; go_split_ands; go_simp <;> with_reducible rfl)) | (refine calm_skip (by rfl) (hm _ (by decide)) ?_)); simp only [Act.put, List.setIfInBounds_toArray, List.set_cons_zero, List.set_cons_succ, Nat.reduceAdd, Nat.zero_add]
        refine calm_call (by rfl) (fun w => ?_) (fun s u hs hUp hc => hcB s u hs hc) ?_
        · go_simp
        simp only [Act.put, List.setIfInBounds_toArray, List.set_cons_zero, List.set_cons_succ, Nat.reduceAdd, Nat.zero_add]
        iterate 1 (first | (refine calm_pure (v := ?_) (by rfl) (fun w => ?_) (hm _ (by decide)) ?_; rotate_left; · (go_simp <;> with_reducible rfl)) | (refine calm_load (v := ?_) (by rfl) (fun s w hUp hC => ?_) (hm _ (by decide)) ?_; rotate_left; · (have hl := hload s w hC; go_split_ands; go_simp <;> with_reducible rfl)) | (refine calm_skip (by rfl) (hm _ (by decide)) ?_)); simp only [Act.put, List.setIfInBounds_toArray, List.set_cons_zero, List.set_cons_succ, Nat.reduceAdd, Nat.zero_add]
        refine calm_nil ?_
        intro z w5 hall hc
        rw [hCC] at hc
        try simp only at hc
        rw [if_pos (hall 7 (by decide)), if_pos (hall 15 (by decide))] at hc
        clear hm hload hcA hcB hCC hall CC hbb xa hs'
        go_wp2
        have y9 := hc.drop
        clear hc
        have y10 := y9
        obtain ⟨q, pm, rq, g, cap', h1, h2, h3, h4⟩ := y9
        clear h3 h4
        have d0 := cellAt h2.hd 0
        have d1 := cellAt h2.hd 1
        have d2 := cellAt h2.hd 2
        have d3 := cellAt h2.hd 3
        simp only [List.getElem?_toArray, List.getElem?_cons_zero, List.getElem?_cons_succ] at d0 d1 d2 d3
        rcases rq with _ | ⟨ra, rb⟩
        · simp only [qP] at d0
          have hr : s'.run.isSome = false := by have := h2.hq; simp only [RReq] at this; simp [this]
          go_quiet (first | (go_at_call 36; exact Calls.quiet_of (hot_Busy _ _ _ s' _ (by exact h1.same rfl))) | (go_at_call 37; exact Calls.quiet_of (hot_Up _ _ _ s' _ (by exact h1.same rfl))) | (go_at_call 38; exact Calls.quiet_of (hot_Cpu _ _ _ s' _ (by exact h1.same rfl))) | (go_at_call 39; exact Calls.quiet_of (hot_By _ _ _ s' _ (by exact h1.same rfl))) | (go_at_call 40; exact Calls.quiet_of (hot_Over _ _ _ s' _ (by exact h1.same rfl))) | (go_at_call 41; exact Calls.quiet_of (rhot_Over _ _ _ _ s' _ (by exact h2.same rfl))))
          go_wp2
          go_roundg (gk - 1)
          case measure => omega
          case rel => exact ⟨k + 1, s', by go_num, by omega, y10.drewN _⟩
        · simp only [qP] at d0
          have hr : s'.run.isSome = true := by obtain ⟨r, h9, _⟩ := h2.hq; simp [h9]
          go_quiet (first | (go_at_call 36; exact Calls.quiet_of (hot_Busy _ _ _ s' _ (by exact h1.same rfl))) | (go_at_call 37; exact Calls.quiet_of (hot_Up _ _ _ s' _ (by exact h1.same rfl))) | (go_at_call 38; exact Calls.quiet_of (hot_Cpu _ _ _ s' _ (by exact h1.same rfl))) | (go_at_call 39; exact Calls.quiet_of (hot_By _ _ _ s' _ (by exact h1.same rfl))) | (go_at_call 40; exact Calls.quiet_of (hot_Over _ _ _ s' _ (by exact h1.same rfl))) | (go_at_call 41; exact Calls.quiet_of (rhot_Over _ _ _ _ s' _ (by exact h2.same rfl))))
          go_wp2
          go_roundg (gk - 1)
          case measure => omega
          case rel => exact ⟨k + 1, s', by go_num, by omega, y10.drewN _⟩
      by_cases e2 : kind.tmod 5 = 2
      · have q0 : (kind.tmod 5 == 0) = false := by simp [e2]
        have q1 : (kind.tmod 5 == 1) = false := by simp [e2]
        have q2 : (kind.tmod 5 == 2) = true := by simp [e2]
        clear e0 e1 e2
        obtain ⟨sa, sb, sc, hst⟩ := step_form s
        go_wp2_with (first | (go_at_call 14; refine (xa.callP (fun _ _ h => hot_Next _ _ _ _ _ h)).mono ?_; rw [hst]; rintro e w1 ⟨rfl, x1⟩; clear xa; have y1 := x1.alloc (stO sa sb sc); unfold stO at y1; clear x1) | (go_at_call 33; refine (y1.callR (fun _ _ _ h => rhot_Next _ _ _ _ _ _ h)).mono ?_; rw [hst]; rintro e w2 ⟨rfl, x2⟩; clear y1; have v1 := x2.held (b := w1.heap.size) (o := stO sa sb sc) (by simp [stO]); have a0 := cellAt v1 0; have a1 := cellAt v1 1; have a2 := cellAt v1 2; have a3 := ltOf v1; simp only [List.getElem?_toArray, List.getElem?_cons_zero, List.getElem?_cons_succ] at a0 a1 a2; have y2 := x2.alloc (Obj.cells #[.int .i64 sa, .bool sb, .bool sc] 64); clear x2))
        have y9 := y2.drop
        clear y2 c0 c1 c2 c3 c4
        generalize s.next = s' at y9
        have y10 := y9
        obtain ⟨q, pm, rq, g, cap', h1, h2, h3, h4⟩ := y9
        clear h3 h4
        have d0 := cellAt h2.hd 0
        have d1 := cellAt h2.hd 1
        have d2 := cellAt h2.hd 2
        have d3 := cellAt h2.hd 3
        simp only [List.getElem?_toArray, List.getElem?_cons_zero, List.getElem?_cons_succ] at d0 d1 d2 d3
        rcases rq with _ | ⟨ra, rb⟩
        · simp only [qP] at d0
          have hr : s'.run.isSome = false := by have := h2.hq; simp only [RReq] at this; simp [this]
          go_quiet (first | (go_at_call 36; exact Calls.quiet_of (hot_Busy _ _ _ s' _ (by exact h1.same rfl))) | (go_at_call 37; exact Calls.quiet_of (hot_Up _ _ _ s' _ (by exact h1.same rfl))) | (go_at_call 38; exact Calls.quiet_of (hot_Cpu _ _ _ s' _ (by exact h1.same rfl))) | (go_at_call 39; exact Calls.quiet_of (hot_By _ _ _ s' _ (by exact h1.same rfl))) | (go_at_call 40; exact Calls.quiet_of (hot_Over _ _ _ s' _ (by exact h1.same rfl))) | (go_at_call 41; exact Calls.quiet_of (rhot_Over _ _ _ _ s' _ (by exact h2.same rfl))))
          go_wp2
          go_roundg (gk - 1)
          case measure => omega
          case rel => exact ⟨k + 1, s', by go_num, by omega, y10.drewN _⟩
        · simp only [qP] at d0
          have hr : s'.run.isSome = true := by obtain ⟨r, h9, _⟩ := h2.hq; simp [h9]
          go_quiet (first | (go_at_call 36; exact Calls.quiet_of (hot_Busy _ _ _ s' _ (by exact h1.same rfl))) | (go_at_call 37; exact Calls.quiet_of (hot_Up _ _ _ s' _ (by exact h1.same rfl))) | (go_at_call 38; exact Calls.quiet_of (hot_Cpu _ _ _ s' _ (by exact h1.same rfl))) | (go_at_call 39; exact Calls.quiet_of (hot_By _ _ _ s' _ (by exact h1.same rfl))) | (go_at_call 40; exact Calls.quiet_of (hot_Over _ _ _ s' _ (by exact h1.same rfl))) | (go_at_call 41; exact Calls.quiet_of (rhot_Over _ _ _ _ s' _ (by exact h2.same rfl))))
          go_wp2
          go_roundg (gk - 1)
          case measure => omega
          case rel => exact ⟨k + 1, s', by go_num, by omega, y10.drewN _⟩
      by_cases e3 : kind.tmod 5 = 3
      · have q0 : (kind.tmod 5 == 0) = false := by simp [e3]
        have q1 : (kind.tmod 5 == 1) = false := by simp [e3]
        have q2 : (kind.tmod 5 == 2) = false := by simp [e3]
        have q3 : (kind.tmod 5 == 3) = true := by simp [e3]
        clear e0 e1 e2 e3
        go_wp2_with (first | (go_at_call 15; refine (xa.callP (fun _ _ h => hot_Done _ _ _ _ _ h)).mono ?_; rintro e w1 ⟨rfl, x1⟩; clear xa) | (go_at_call 34; refine (x1.callR (fun _ _ _ h => rhot_Done _ _ _ _ _ _ h)).mono ?_; rintro e w2 ⟨rfl, x2⟩; clear x1))
        have y9 := x2.drop
        clear x2 c0 c1 c2 c3 c4
        generalize s.done = s' at y9
        have y10 := y9
        obtain ⟨q, pm, rq, g, cap', h1, h2, h3, h4⟩ := y9
        clear h3 h4
        have d0 := cellAt h2.hd 0
        have d1 := cellAt h2.hd 1
        have d2 := cellAt h2.hd 2
        have d3 := cellAt h2.hd 3
        simp only [List.getElem?_toArray, List.getElem?_cons_zero, List.getElem?_cons_succ] at d0 d1 d2 d3
        rcases rq with _ | ⟨ra, rb⟩
        · simp only [qP] at d0
          have hr : s'.run.isSome = false := by have := h2.hq; simp only [RReq] at this; simp [this]
          go_quiet (first | (go_at_call 36; exact Calls.quiet_of (hot_Busy _ _ _ s' _ (by exact h1.same rfl))) | (go_at_call 37; exact Calls.quiet_of (hot_Up _ _ _ s' _ (by exact h1.same rfl))) | (go_at_call 38; exact Calls.quiet_of (hot_Cpu _ _ _ s' _ (by exact h1.same rfl))) | (go_at_call 39; exact Calls.quiet_of (hot_By _ _ _ s' _ (by exact h1.same rfl))) | (go_at_call 40; exact Calls.quiet_of (hot_Over _ _ _ s' _ (by exact h1.same rfl))) | (go_at_call 41; exact Calls.quiet_of (rhot_Over _ _ _ _ s' _ (by exact h2.same rfl))))
          go_wp2
          go_roundg (gk - 1)
          case measure => omega
          case rel => exact ⟨k + 1, s', by go_num, by omega, y10.drewN _⟩
        · simp only [qP] at d0
          have hr : s'.run.isSome = true := by obtain ⟨r, h9, _⟩ := h2.hq; simp [h9]
          go_quiet (first | (go_at_call 36; exact Calls.quiet_of (hot_Busy _ _ _ s' _ (by exact h1.same rfl))) | (go_at_call 37; exact Calls.quiet_of (hot_Up _ _ _ s' _ (by exact h1.same rfl))) | (go_at_call 38; exact Calls.quiet_of (hot_Cpu _ _ _ s' _ (by exact h1.same rfl))) | (go_at_call 39; exact Calls.quiet_of (hot_By _ _ _ s' _ (by exact h1.same rfl))) | (go_at_call 40; exact Calls.quiet_of (hot_Over _ _ _ s' _ (by exact h1.same rfl))) | (go_at_call 41; exact Calls.quiet_of (rhot_Over _ _ _ _ s' _ (by exact h2.same rfl))))
          go_wp2
          go_roundg (gk - 1)
          case measure => omega
          case rel => exact ⟨k + 1, s', by go_num, by omega, y10.drewN _⟩
      · have q0 : (kind.tmod 5 == 0) = false := by simpa using e0
        have q1 : (kind.tmod 5 == 1) = false := by simpa using e1
        have q2 : (kind.tmod 5 == 2) = false := by simpa using e2
        have q3 : (kind.tmod 5 == 3) = false := by simpa using e3
        clear e0 e1 e2 e3
        go_wp2_with (first | (go_at_call 16; refine (xa.callP (fun _ _ h => hot_End _ _ _ _ _ h)).mono ?_; rintro e w1 ⟨rfl, x1⟩; clear xa) | (go_at_call 35; refine (x1.callR (fun _ _ _ h => rhot_End _ _ _ _ _ _ h)).mono ?_; rintro e w2 ⟨rfl, x2⟩; clear x1))
        have y9 := x2.drop
        clear x2 c0 c1 c2 c3 c4
        generalize s.end_ = s' at y9
        have y10 := y9
        obtain ⟨q, pm, rq, g, cap', h1, h2, h3, h4⟩ := y9
        clear h3 h4
        have d0 := cellAt h2.hd 0
        have d1 := cellAt h2.hd 1
        have d2 := cellAt h2.hd 2
        have d3 := cellAt h2.hd 3
        simp only [List.getElem?_toArray, List.getElem?_cons_zero, List.getElem?_cons_succ] at d0 d1 d2 d3
        rcases rq with _ | ⟨ra, rb⟩
        · simp only [qP] at d0
          have hr : s'.run.isSome = false := by have := h2.hq; simp only [RReq] at this; simp [this]
          go_quiet (first | (go_at_call 36; exact Calls.quiet_of (hot_Busy _ _ _ s' _ (by exact h1.same rfl))) | (go_at_call 37; exact Calls.quiet_of (hot_Up _ _ _ s' _ (by exact h1.same rfl))) | (go_at_call 38; exact Calls.quiet_of (hot_Cpu _ _ _ s' _ (by exact h1.same rfl))) | (go_at_call 39; exact Calls.quiet_of (hot_By _ _ _ s' _ (by exact h1.same rfl))) | (go_at_call 40; exact Calls.quiet_of (hot_Over _ _ _ s' _ (by exact h1.same rfl))) | (go_at_call 41; exact Calls.quiet_of (rhot_Over _ _ _ _ s' _ (by exact h2.same rfl))))
          go_wp2
          go_roundg (gk - 1)
          case measure => omega
          case rel => exact ⟨k + 1, s', by go_num, by omega, y10.drewN _⟩
        · simp only [qP] at d0
          have hr : s'.run.isSome = true := by obtain ⟨r, h9, _⟩ := h2.hq; simp [h9]
          go_quiet (first | (go_at_call 36; exact Calls.quiet_of (hot_Busy _ _ _ s' _ (by exact h1.same rfl))) | (go_at_call 37; exact Calls.quiet_of (hot_Up _ _ _ s' _ (by exact h1.same rfl))) | (go_at_call 38; exact Calls.quiet_of (hot_Cpu _ _ _ s' _ (by exact h1.same rfl))) | (go_at_call 39; exact Calls.quiet_of (hot_By _ _ _ s' _ (by exact h1.same rfl))) | (go_at_call 40; exact Calls.quiet_of (hot_Over _ _ _ s' _ (by exact h1.same rfl))) | (go_at_call 41; exact Calls.quiet_of (rhot_Over _ _ _ _ s' _ (by exact h2.same rfl))))
          go_wp2
          go_roundg (gk - 1)
          case measure => omega
          case rel => exact ⟨k + 1, s', by go_num, by omega, y10.drewN _⟩
    · have hne : ¬ ((k : Int) < (len : Int)) ∨ ((k : Int) < (len : Int) ∧ ¬ ((k : Int) < 200)) := by omega
      clear hkl hA
      rcases hne with h4 | ⟨h3, h4⟩
      all_goals
        go_wp2_with (go_at_call 17; refine (known22 _).mono ?_; rintro e w7 ⟨rfl, m7, _⟩)
        go_ret
        exact Rets.of rfl (x.mod.trans m7 (by simp)) trivial
end Go.Proofs.Ytbelcmiljjndaaa
