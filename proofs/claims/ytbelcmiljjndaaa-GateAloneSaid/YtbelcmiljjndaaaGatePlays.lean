/- The law GatePlays: its walk comes to true at every input. No condition. -/
import Derived.Test.YtbelcmiljjndaaaGateDo
import Derived.Test.YtbelcmiljjndaaaAct19
namespace Go.Proofs.Ytbelcmiljjndaaa
set_option linter.unusedVariables false
set_option linter.unusedSimpArgs false
open Go.RowKit

theorem act_len (s : SG) (k c : Int) : (s.act k c).l.length = s.l.length := by
  unfold SG.act
  split
  · unfold SG.enter; split <;> simp
  split
  · unfold SG.leave; split <;> simp
  split
  · unfold SG.want; split <;> rfl
  split
  · unfold SG.take; split <;> rfl
  · unfold SG.free; split <;> rfl

theorem Both.keep {S : List Nat} {w w' : World} {g b r rg rr : Nat} {s : SG} (h : Both w g b r rg rr s) (m : Mod S w w') (hS : ∀ k, k ∈ S → k ≠ g ∧ k ≠ b ∧ k ≠ r ∧ k ≠ rg ∧ k ≠ rr) : Both w' g b r rg rr s :=
  ⟨h.1.keep m (fun x => (hS _ x).1 rfl) (fun x => (hS _ x).2.1 rfl) (fun x => (hS _ x).2.2.1 rfl), h.2.1.keep m (fun x => (hS _ x).2.2.2.1 rfl) (fun x => (hS _ x).2.2.2.2 rfl), h.2.2⟩
theorem Both.same {w w' : World} {g b r rg rr : Nat} {s : SG} (h : Both w g b r rg rr s) (e : w'.heap = w.heap) : Both w' g b r rg rr s :=
  ⟨h.1.same e, h.2.1.same e, h.2.2⟩

set_option maxRecDepth 100000 in
set_option maxHeartbeats 4000000 in
theorem GatePlays_walk (w : World) (n : Int) (_hn : (Lit.int .i64 n).wf = true) (a : Option Addr) (len cap : Nat) (A : Nat → Act19) (hA : IsArr 2 Act19.vals Act19.ok w a len cap A) :
    Calls Try.prog 4 #[.int .i64 n, .slice a len cap] w (Rets (.bool true) [] w fun _ => True) := by
  by_cases hn : 1 ≤ n ∧ n ≤ 64
  · obtain ⟨h1, h2⟩ := hn
    obtain ⟨n, rfl⟩ := Int.eq_ofNat_of_zero_le (show 0 ≤ n by omega)
    have hlc := hA.1
    have hcm := hA.2.1
    unfold maxLen at hcm
    go_enter Try.func4, Try.ntmps4
    go_wp2_with (go_at_call 18; refine (gate_New_ok n _ (by omega) (by omega)).mono ?_; rintro e w1 ⟨g, b, r, rfl, m1, hb1, x1⟩)
    go_wp2_with (go_at_call 19; refine (rgate_New_ok n _ (by omega) (by omega)).mono ?_; rintro e w2 ⟨rg, rr, rfl, m2, hb2, r2⟩)
    have l1 := ltOf x1.hg
    have l2 := ltOf x1.sp.hb
    have l3 := ltOf x1.sp.hr
    have hB0 : Both w2 g b r rg rr ⟨List.replicate n 0, 0⟩ := ⟨x1.keep m2 (by simp) (by simp) (by simp), r2, by omega, by omega⟩
    have hge : w.heap.size ≤ g ∧ w.heap.size ≤ b ∧ w.heap.size ≤ r ∧ w.heap.size ≤ rg ∧ w.heap.size ≤ rr := by have := m1.size; omega
    go_loopg [9] len (fun gg i wr => ∃ (k : Nat) (s : SG), i = .int .i64 k ∧ k + gg = len ∧ Hid (s.l.length = n) ∧ Both wr g b r rg rr s ∧ Mod [] w wr)
    case atStart => exact ⟨0, _, rfl, by omega, by simp [Hid], hB0, m1.trans m2 (by simp)⟩
    case round =>
      obtain ⟨k, s, rfl, hk, hsl, hB, m⟩ := hrel
      clear x1 r2 m1 m2 hB0 l1 l2 l3 hb1 hb2
      by_cases hkl : k < len ∧ k < 150
      · obtain ⟨hkl, hk2⟩ := hkl
        obtain ⟨ba, off, rfl, hok, hba, hc⟩ := cellsOf_arr hA m hkl
        have c0 := hc 0 (by omega)
        have c1 := hc 1 (by omega)
        clear hc hA
        generalize A k = ak at *
        obtain ⟨kind, cpu⟩ := ak
        simp only [Act19.vals, List.getElem?_cons_zero, List.getElem?_cons_succ, Nat.add_zero] at c0 c1
        obtain ⟨o1, o2⟩ := hok
        simp only at o1 o2
        have z1 : In64 kind := i64bd o1
        clear o1 o2
        have hk3 : decide ((k : Int) < 150) = true := decide_eq_true (by omega)
        go_wp2_with fail
        have b0 : (wr.alloc (Obj.cells #[.int .i64 kind, .int .i64 cpu] 48)).cell? ⟨wr.heap.size, 0, none⟩ = some (.int .i64 kind) := cellAt (heapNew _ _) 0
        have b1 : (wr.alloc (Obj.cells #[.int .i64 kind, .int .i64 cpu] 48)).cell? ⟨wr.heap.size, 1, none⟩ = some (.int .i64 cpu) := cellAt (heapNew _ _) 1
        have hg := ltOf hB.1.hg
        have hb := ltOf hB.1.sp.hb
        have hr := ltOf hB.1.sp.hr
        have hrg := ltOf hB.2.1.hg
        have hrr := ltOf hB.2.1.hr
        have hww := m.size
        have hB3 := hB.keep ((Mod.refl [] wr).alloc (Obj.cells #[.int .i64 kind, .int .i64 cpu] 48)) (by simp)
        have m3 := m.alloc (Obj.cells #[.int .i64 kind, .int .i64 cpu] 48)
        generalize wr.alloc (Obj.cells #[.int .i64 kind, .int .i64 cpu] 48) = w3 at *
        generalize wr.heap.size = bb at *
        clear c0 c1 hB m
        have hsl' : (s.act kind cpu).l.length = n := by rw [act_len]; exact hsl.out
        generalize hs2 : s.act kind cpu = s2 at *
        obtain ⟨CC, hCC⟩ : ∃ CC : Array Bool → World → Prop, CC = (fun (z : Array Bool) (u : World) => (u.cell? ⟨bb, 0, none⟩ = some (.int .i64 kind) ∧ u.cell? ⟨bb, 1, none⟩ = some (.int .i64 cpu)) ∧ Both u g b r rg rr (if z.getD 3 true = true then s2 else s) ∧ Mod [] w u) := ⟨_, rfl⟩
        refine wp_region_calm_lit (by kernel_rfl) (by kernel_rfl) CC (fun z hz => by rw [hCC]; exact ⟨⟨b0, b1⟩, by rw [if_neg (by rw [hz 3 (by decide)]; decide)]; exact hB3.same rfl, m3.drew⟩) ?_
        have hm : ∀ i, i ≠ 3 → CalmSkip CC i := by
          rintro i h5 z u _ hc
          rw [hCC] at hc ⊢
          simp only [done_ne _ h5]
          exact hc
        have hload : ∀ z u, CC z u → u.cell? ⟨bb, 0, none⟩ = some (.int .i64 kind) ∧ u.cell? ⟨bb, 1, none⟩ = some (.int .i64 cpu) := by
          intro z u hc
          rw [hCC] at hc
          exact hc.1
        have hload2 : ∀ z u, z.getD 3 true = true → CC z u → u.cell? ⟨rg, 1, none⟩ = some (.int .i64 s2.st) ∧ True := by
          intro z u hz hc
          rw [hCC] at hc
          have := hc.2.1
          rw [if_pos hz] at this
          exact ⟨cellAt this.2.1.hg 1, trivial⟩
        have hcA : ∀ z u, z.getD 3 true = false → CC z u → Calls Try.prog 21 #[.pointer (some ⟨g, 0, none⟩), .pointer (some ⟨rg, 0, none⟩), .agg #[.int .i64 kind, .int .i64 cpu]] u (fun e u' => e = .returned (.bool true) ∧ CC (z.setIfInBounds 3 true) u') := by
          intro z u hz hc
          rw [hCC] at hc ⊢
          obtain ⟨⟨g0, g1⟩, gB, gm⟩ := hc
          rw [if_neg (by simp [hz])] at gB
          refine (do_any _ _ _ _ _ s kind cpu z1 _ gB).mono ?_
          rintro e u' ⟨rfl, mm, xx⟩
          refine ⟨rfl, ⟨mm.at g0 (by simp; omega), mm.at g1 (by simp; omega)⟩, ?_, gm.trans mm (by simp; omega)⟩
          rw [if_pos (done_self _ _), ← hs2]; exact xx
        have hcB : ∀ z u, z.getD 3 true = true → CC z u → Calls Try.prog 22 #[.pointer (some ⟨g, 0, none⟩)] u (fun e u' => e = .returned (.int .i64 s2.st) ∧ CC (z.setIfInBounds 7 true) u') := by
          intro z u hz hc
          rw [hCC] at hc ⊢
          have gB := hc.2.1
          rw [if_pos hz] at gB
          refine (gate_State _ _ _ s2 _ gB.1).mono ?_
          rintro e u' ⟨rfl, j, rfl⟩
          refine ⟨rfl, hc.1, ?_, hc.2.2.drewN _⟩
          rw [done_ne _ (by decide)]
          exact hc.2.1.same rfl
        have hcC : ∀ z u, z.getD 3 true = true → CC z u → Calls Try.prog 23 #[.pointer (some ⟨g, 0, none⟩)] u (fun e u' => e = .returned (.int .i64 s2.l.sum) ∧ CC (z.setIfInBounds 16 true) u') := by
          intro z u hz hc
          rw [hCC] at hc ⊢
          have gB := hc.2.1
          rw [if_pos hz] at gB
          refine (gate_Readers _ _ _ s2 _ gB.1).mono ?_
          rintro e u' ⟨rfl, j, rfl⟩
          refine ⟨rfl, hc.1, ?_, hc.2.2.drewN _⟩
          rw [done_ne _ (by decide)]
          exact hc.2.1.same rfl
        have hcD : ∀ z u, z.getD 3 true = true → CC z u → Calls Try.prog 24 #[.pointer (some ⟨rg, 0, none⟩)] u (fun e u' => e = .returned (.int .i64 s2.l.sum) ∧ CC (z.setIfInBounds 18 true) u') := by
          intro z u hz hc
          rw [hCC] at hc ⊢
          have gB := hc.2.1
          rw [if_pos hz] at gB
          refine (rgate_Readers _ _ s2 _ gB.2.1).mono ?_
          rintro e u' ⟨rfl, j, rfl⟩
          refine ⟨rfl, hc.1, ?_, hc.2.2.drewN _⟩
          rw [done_ne _ (by decide)]
          exact hc.2.1.same rfl
        iterate 3 (first | (refine calm_pure (v := ?_) (by rfl) (fun w => ?_) (hm _ (by decide)) ?_; rotate_left; · (go_simp <;> with_reducible rfl)) | (refine calm_load (v := ?_) (by rfl) (fun s w hUp hC => ?_) (hm _ (by decide)) ?_; rotate_left; · (have hl := hload s w hC; go_split_ands; go_simp <;> with_reducible rfl)) | (refine calm_skip (by rfl) (hm _ (by decide)) ?_)); simp only [Act.put, List.setIfInBounds_toArray, List.set_cons_zero, List.set_cons_succ, Nat.reduceAdd, Nat.zero_add]
        refine calm_call (by rfl) (fun w => ?_) (fun s u hs hUp hc => hcA s u hs hc) ?_
        · go_simp
        simp only [Act.put, List.setIfInBounds_toArray, List.set_cons_zero, List.set_cons_succ, Nat.reduceAdd, Nat.zero_add]
        iterate 3 (first | (refine calm_pure (v := ?_) (by rfl) (fun w => ?_) (hm _ (by decide)) ?_; rotate_left; · (go_simp <;> with_reducible rfl)) | (refine calm_load (v := ?_) (by rfl) (fun s w hUp hC => ?_) (hm _ (by decide)) ?_; rotate_left; · (have hl := hload s w hC; go_split_ands; go_simp <;> with_reducible rfl)) | (refine calm_skip (by rfl) (hm _ (by decide)) ?_)); simp only [Act.put, List.setIfInBounds_toArray, List.set_cons_zero, List.set_cons_succ, Nat.reduceAdd, Nat.zero_add]
        refine calm_call (by rfl) (fun w => ?_) (fun s u hs hUp hc => hcB s u (hUp 3 20 (by kernel_rfl)) hc) ?_
        · go_simp
        simp only [Act.put, List.setIfInBounds_toArray, List.set_cons_zero, List.set_cons_succ, Nat.reduceAdd, Nat.zero_add]
        iterate 3 (first | (refine calm_pure (v := ?_) (by rfl) (fun w => ?_) (hm _ (by decide)) ?_; rotate_left; · (go_simp <;> with_reducible rfl)) | (refine calm_load (v := ?_) (by rfl) (fun s w hUp hC => ?_) (hm _ (by decide)) ?_; rotate_left; · (have hl := hload s w hC; go_split_ands; go_simp <;> with_reducible rfl)) | (refine calm_skip (by rfl) (hm _ (by decide)) ?_)); simp only [Act.put, List.setIfInBounds_toArray, List.set_cons_zero, List.set_cons_succ, Nat.reduceAdd, Nat.zero_add]
        refine calm_load (v := ?_) (by rfl) (fun s w hUp hC => ?_) (hm _ (by decide)) ?_
        rotate_left
        · (have hl := hload2 s w (hUp 3 20 (by kernel_rfl)) hC; go_split_ands; go_simp <;> with_reducible rfl)
        simp only [Act.put, List.setIfInBounds_toArray, List.set_cons_zero, List.set_cons_succ, Nat.reduceAdd, Nat.zero_add]
        iterate 4 (first | (refine calm_pure (v := ?_) (by rfl) (fun w => ?_) (hm _ (by decide)) ?_; rotate_left; · (go_simp <;> with_reducible rfl)) | (refine calm_load (v := ?_) (by rfl) (fun s w hUp hC => ?_) (hm _ (by decide)) ?_; rotate_left; · (have hl := hload s w hC; go_split_ands; go_simp <;> with_reducible rfl)) | (refine calm_skip (by rfl) (hm _ (by decide)) ?_)); simp only [Act.put, List.setIfInBounds_toArray, List.set_cons_zero, List.set_cons_succ, Nat.reduceAdd, Nat.zero_add]
        refine calm_call (by rfl) (fun w => ?_) (fun s u hs hUp hc => hcC s u (hUp 3 20 (by kernel_rfl)) hc) ?_
        · go_simp
        simp only [Act.put, List.setIfInBounds_toArray, List.set_cons_zero, List.set_cons_succ, Nat.reduceAdd, Nat.zero_add]
        iterate 1 (first | (refine calm_pure (v := ?_) (by rfl) (fun w => ?_) (hm _ (by decide)) ?_; rotate_left; · (go_simp <;> with_reducible rfl)) | (refine calm_load (v := ?_) (by rfl) (fun s w hUp hC => ?_) (hm _ (by decide)) ?_; rotate_left; · (have hl := hload s w hC; go_split_ands; go_simp <;> with_reducible rfl)) | (refine calm_skip (by rfl) (hm _ (by decide)) ?_)); simp only [Act.put, List.setIfInBounds_toArray, List.set_cons_zero, List.set_cons_succ, Nat.reduceAdd, Nat.zero_add]
        refine calm_call (by rfl) (fun w => ?_) (fun s u hs hUp hc => hcD s u (hUp 3 20 (by kernel_rfl)) hc) ?_
        · go_simp
        simp only [Act.put, List.setIfInBounds_toArray, List.set_cons_zero, List.set_cons_succ, Nat.reduceAdd, Nat.zero_add]
        iterate 2 (first | (refine calm_pure (v := ?_) (by rfl) (fun w => ?_) (hm _ (by decide)) ?_; rotate_left; · (go_simp <;> with_reducible rfl)) | (refine calm_load (v := ?_) (by rfl) (fun s w hUp hC => ?_) (hm _ (by decide)) ?_; rotate_left; · (have hl := hload s w hC; go_split_ands; go_simp <;> with_reducible rfl)) | (refine calm_skip (by rfl) (hm _ (by decide)) ?_)); simp only [Act.put, List.setIfInBounds_toArray, List.set_cons_zero, List.set_cons_succ, Nat.reduceAdd, Nat.zero_add]
        refine calm_nil ?_
        intro z w5 hall hc
        rw [hCC] at hc
        obtain ⟨⟨f0, f1⟩, x5, m6⟩ := hc
        rw [if_pos (hall 3 (by decide))] at x5
        clear hm hload hload2 hcA hcB hcC hcD hCC hall CC b0 b1 m3 hs2
        have hsl2 := Lib.hid hsl'
        have ca : w5.cell? ⟨rg, 0, none⟩ = some (.slice (some ⟨rr, 0, none⟩) s2.l.length s2.l.length) := cellAt x5.2.1.hg 0
        by_cases hin : 0 ≤ cpu ∧ cpu < n
        · have hi1 := hin.1
          have hi2 := hin.2
          obtain ⟨c, rfl⟩ := Int.eq_ofNat_of_zero_le hin.1
          have hcl : c < s2.l.length := by omega
          have hcl' : (c : Int) < (s2.l.length : Int) := by omega
          have cc : w5.cell? ⟨rr, c, none⟩ = some (.int .i64 (nth s2.l c)) := (cellAt x5.2.1.hr c).trans (rowI_get (by omega))
          have hG : sGet s2.l c = nth s2.l c := if_pos ⟨by omega, by omega⟩
          clear hsl' hin
          go_wp2_with fail
          go_quiet (fail)
          go_wp2_with (go_at_call 25; refine (gate_On _ _ _ s2 _ _ (by exact x5.1.same rfl)).mono ?_; rintro e w' ⟨rfl, k1, rfl⟩)
          go_roundg (gk - 1)
          case measure => omega
          case rel => exact ⟨k + 1, s2, by go_num, by omega, hsl2, x5.same rfl, m6.drewN _⟩
        · have hG : sGet s2.l cpu = 0 := if_neg (by rw [hsl2.out]; exact hin)
          have hne : cpu < 0 ∨ (0 ≤ cpu ∧ ¬ (cpu < n)) := by omega
          clear hsl' hin
          rcases hne with h4 | ⟨h3, h4⟩
          all_goals
            go_wp2_with (go_at_call 25; refine (gate_On _ _ _ s2 _ _ (by exact x5.1.same rfl)).mono ?_; rintro e w' ⟨rfl, k1, rfl⟩)
            go_roundg (gk - 1)
            case measure => omega
            case rel => exact ⟨k + 1, s2, by go_num, by omega, hsl2, x5.same rfl, m6.drewN _⟩
      · have hne : ¬ ((k : Int) < (len : Int)) ∨ ((k : Int) < (len : Int) ∧ ¬ ((k : Int) < 150)) := by omega
        clear hkl hA
        rcases hne with h4 | ⟨h3, h4⟩
        all_goals
          go_wp2_with (go_at_call 20; refine (known19 _).mono ?_; rintro e w7 ⟨rfl, m7, _⟩)
          go_ret
          exact Rets.of rfl (m.trans m7 (by simp)) trivial
  · have h4 : n < 1 ∨ 64 < n := by omega
    clear hn hA
    have hN := fun w => gate_New_no n w h4
    have hR := fun w => rgate_New_no n w h4
    rcases h4 with h4 | h4
    all_goals
      go_enter Try.func4, Try.ntmps4
      go_wp2_with (go_at_call 18; refine (hN _).mono ?_; rintro e w1 ⟨rfl, k1, rfl⟩)
      go_wp2_with (go_at_call 19; refine (hR _).mono ?_; rintro e w1 ⟨rfl, k2, rfl⟩)
      go_wp2_with (go_at_call 20; refine (known19 _).mono ?_; rintro e w7 ⟨rfl, m7, _⟩)
      go_ret
      exact Rets.of rfl (((Mod.refl _ _).drewN _).trans m7 (by simp)) trivial
end Go.Proofs.Ytbelcmiljjndaaa
