/- The walk over DrillRolls: both dice roll the same numbers. -/
import Derived.Test.YtiegnbdoidiffaaDrillKnown
import Derived.Test.YtiegnbdoidiffaaArgs
import Derived.Test.YtiegnbdoidiffaaCalm
namespace Go.Proofs.Ytiegnbdoidiffaa
set_option linter.unusedVariables false
set_option linter.unusedSimpArgs false
open Go.RowKit
set_option maxRecDepth 100000 in
set_option maxHeartbeats 2000000 in
theorem DrillRolls_walk (w : World) (x : Int) (_hx : (Lit.int .u64 x).wf = true) (a : Option Addr) (len cap : Nat) (A : Nat → Int) (hA : IsArr 1 (fun z : Int => [Value.int .i64 z]) (fun z => (Lit.int .i64 z).wf = true) w a len cap A) :
    Calls Try.prog 6 #[.int .u64 x, .slice a len cap] w (Rets (.bool true) [] w fun _ => True) := by
  have hlc := hA.1
  have hcm := hA.2.1
  unfold maxLen at hcm
  go_enter Try.func6, Try.ntmps6
  go_wp2_with (go_at_call 26; refine (drill_New _ _).mono ?_; rintro e w1 ⟨rfl, m1, s1, x1⟩)
  go_loopg [7] len (fun gg i wr => ∃ (j : Nat) (y : Int), i = .int .i64 j ∧ j + gg = len ∧ DiceAt 82 wr w.heap.size y ∧ DiceAt 44 wr w1.heap.size y ∧ Mod [] w wr)
  case atStart => exact ⟨0, x, rfl, by omega, heapOld x1, heapNew _ _, m1.alloc _⟩
  case round =>
    obtain ⟨k, y, rfl, hk, hd1, hd2, m⟩ := hrel
    by_cases hlt : k < len ∧ k < 200
    · obtain ⟨hlt1, hlt2⟩ := hlt
      have hk3 : decide ((k : Int) < 200) = true := decide_eq_true (by omega)
      have hk4 : decide ((k : Int) < len) = true := decide_eq_true (by omega)
      obtain ⟨b, off, rfl, hok, hb, _⟩ := cellsOf_arr hA (Mod.refl [] w) hlt1
      have hcell : ∀ u, Mod [] w u → u.cell? ⟨b, off + k, none⟩ = some (.int .i64 (A k)) := by
        intro u mu
        obtain ⟨b', off', e, _, _, hc⟩ := cellsOf_arr hA mu hlt1
        cases e
        have := hc 0 (by omega)
        simpa using this
      clear hA
      generalize A k = p at *
      go_wp2_with fail
      have hs1' : w.heap.size < w1.heap.size := s1
      obtain ⟨CC, hCC⟩ : ∃ CC : Array Bool → World → Prop, CC = (fun (z : Array Bool) (u : World) => DiceAt 82 u w.heap.size (if z.getD 5 true = true then dN y p else y) ∧ DiceAt 44 u w1.heap.size (if z.getD 11 true = true then dN y p else y) ∧ Mod [] w u) := ⟨_, rfl⟩
      refine wp_region_calm_lit (by kernel_rfl) (by kernel_rfl) CC (fun z hz => by rw [hCC]; simp only; rw [if_neg (by rw [hz 5 (by decide)]; decide), if_neg (by rw [hz 11 (by decide)]; decide)]; exact ⟨hd1, hd2, m.drew⟩) ?_
      have hm : ∀ i, i ≠ 5 ∧ i ≠ 11 → CalmSkip CC i := by
        rintro i ⟨h5, h11⟩ z u _ hc
        rw [hCC] at hc ⊢
        simp only [done_ne _ h5, done_ne _ h11]
        exact hc
      have hload : ∀ z u, CC z u → u.cell? ⟨b, off + k, none⟩ = some (.int .i64 p) := by
        intro z u hc
        rw [hCC] at hc
        exact hcell u hc.2.2
      have hcA : ∀ z u, z.getD 5 true = false → CC z u → Calls Try.prog 27 #[.pointer (some ⟨w.heap.size, 0, none⟩), .int .i64 p] u (fun e u' => e = .returned (.int .i64 (dV y p)) ∧ CC (z.setIfInBounds 5 true) u') := by
        intro z u hz hc
        rw [hCC] at hc ⊢
        simp only at hc ⊢
        obtain ⟨c1, c2, c3⟩ := hc
        rw [if_neg (by simp [hz])] at c1
        rw [if_pos (c := (z.setIfInBounds 5 true).getD 5 true = true) (done_self _ _), done_ne _ (by decide)]
        refine (drill_Roll w.heap.size y p u c1).mono ?_
        rintro e u' ⟨rfl, mm, r⟩
        exact ⟨rfl, r, c2.keep mm (by simp; omega), c3.trans mm (by simp)⟩
      have hcB : ∀ z u, z.getD 11 true = false → CC z u → Calls Try.prog 28 #[.pointer (some ⟨w1.heap.size, 0, none⟩), .int .i64 p] u (fun e u' => e = .returned (.int .i64 (dV y p)) ∧ CC (z.setIfInBounds 11 true) u') := by
        intro z u hz hc
        rw [hCC] at hc ⊢
        simp only at hc ⊢
        obtain ⟨c1, c2, c3⟩ := hc
        rw [if_neg (by simp [hz])] at c2
        rw [if_pos (c := (z.setIfInBounds 11 true).getD 11 true = true) (done_self _ _), done_ne _ (by decide)]
        refine (rdrill_Roll w1.heap.size y p u c2).mono ?_
        rintro e u' ⟨rfl, mm, r⟩
        exact ⟨rfl, c1.keep mm (by simp; omega), r, c3.trans mm (by simp; omega)⟩
      iterate 5 (first | (refine calm_pure (v := ?_) (by rfl) (fun w => ?_) (hm _ (by decide)) ?_; rotate_left; · (go_simp <;> with_reducible rfl)) | (refine calm_load (v := ?_) (by rfl) (fun s w hUp hC => ?_) (hm _ (by decide)) ?_; rotate_left; · (have hl := hload s w hC; go_split_ands; go_simp <;> with_reducible rfl)) | (refine calm_skip (by rfl) (hm _ (by decide)) ?_)); simp only [Act.put, List.setIfInBounds_toArray, List.set_cons_zero, List.set_cons_succ, Nat.reduceAdd, Nat.zero_add]
      refine calm_call (by rfl) (fun w => ?_) (fun s u hs hUp hc => hcA s u hs hc) ?_
      · go_simp
      simp only [Act.put, List.setIfInBounds_toArray, List.set_cons_zero, List.set_cons_succ, Nat.reduceAdd, Nat.zero_add]
      iterate 5 (first | (refine calm_pure (v := ?_) (by rfl) (fun w => ?_) (hm _ (by decide)) ?_; rotate_left; · (go_simp <;> with_reducible rfl)) | (refine calm_load (v := ?_) (by rfl) (fun s w hUp hC => ?_) (hm _ (by decide)) ?_; rotate_left; · (have hl := hload s w hC; go_split_ands; go_simp <;> with_reducible rfl)) | (refine calm_skip (by rfl) (hm _ (by decide)) ?_)); simp only [Act.put, List.setIfInBounds_toArray, List.set_cons_zero, List.set_cons_succ, Nat.reduceAdd, Nat.zero_add]
      refine calm_call (by rfl) (fun w => ?_) (fun s u hs hUp hc => hcB s u hs hc) ?_
      · go_simp
      simp only [Act.put, List.setIfInBounds_toArray, List.set_cons_zero, List.set_cons_succ, Nat.reduceAdd, Nat.zero_add]
      iterate 1 (first | (refine calm_pure (v := ?_) (by rfl) (fun w => ?_) (hm _ (by decide)) ?_; rotate_left; · (go_simp <;> with_reducible rfl)) | (refine calm_load (v := ?_) (by rfl) (fun s w hUp hC => ?_) (hm _ (by decide)) ?_; rotate_left; · (have hl := hload s w hC; go_split_ands; go_simp <;> with_reducible rfl)) | (refine calm_skip (by rfl) (hm _ (by decide)) ?_)); simp only [Act.put, List.setIfInBounds_toArray, List.set_cons_zero, List.set_cons_succ, Nat.reduceAdd, Nat.zero_add]
      refine calm_nil ?_
      intro z w5 hall hc
      rw [hCC] at hc
      try simp only at hc
      obtain ⟨c1, c2, c3⟩ := hc
      rw [if_pos (hall 5 (by decide))] at c1
      rw [if_pos (hall 11 (by decide))] at c2
      clear hm hload hcA hcB hCC hall CC
      go_wp2
      go_roundg (gk - 1)
      case measure => omega
      case rel => exact ⟨k + 1, _, by go_num, by omega, c1, c2, c3⟩
    · have hne : ¬ (k < len) ∨ (k < len ∧ ¬ (k < 200)) := by omega
      clear hlt hA
      rcases hne with h1 | ⟨h1, h2⟩
      · have hk4 : decide ((k : Int) < len) = false := decide_eq_false (by omega)
        go_wp2_with (go_at_call 29; refine (drill_known _).mono ?_; rintro e w7 ⟨rfl, m7, _⟩)
        go_ret
        exact Rets.of rfl (m.trans m7 (by simp)) trivial
      · have hk4 : decide ((k : Int) < len) = true := decide_eq_true (by omega)
        have hk3 : decide ((k : Int) < 200) = false := decide_eq_false (by omega)
        go_wp2_with (go_at_call 29; refine (drill_known _).mono ?_; rintro e w7 ⟨rfl, m7, _⟩)
        go_ret
        exact Rets.of rfl (m.trans m7 (by simp)) trivial
end Go.Proofs.Ytiegnbdoidiffaa
