/- One act to a gate of the program and to the document's: the answers are alike, and so are the gates behind it. -/
import Derived.Test.YtbelcmiljjndaaaGateKnown
import Derived.Test.YtbelcmiljjndaaaGateRef
import Derived.Test.YtbelcmiljjndaaaCalm
namespace Go.Proofs.Ytbelcmiljjndaaa
set_option linter.unusedVariables false
set_option linter.unusedSimpArgs false
open Go.RowKit

def SG.act (s : SG) (k c : Int) : SG := if k.tmod 5 = 0 then s.enter c else if k.tmod 5 = 1 then s.leave c else if k.tmod 5 = 2 then s.want else if k.tmod 5 = 3 then s.take else s.free

/-- Both gates are at s. -/
def Both (w : World) (g b r rg rr : Nat) (s : SG) : Prop := GateAt w g b r s ∧ RGateAt w rg rr s ∧ (rg ≠ g ∧ rg ≠ b ∧ rg ≠ r) ∧ (rr ≠ g ∧ rr ≠ b ∧ rr ≠ r)
def DoPost (g b r rg rr : Nat) (s' : SG) (w : World) (e : Ending) (w' : World) : Prop := e = .returned (.bool true) ∧ Mod [g, b, r, rg, rr] w w' ∧ Both w' g b r rg rr s'


set_option maxRecDepth 100000 in
set_option maxHeartbeats 2000000 in
theorem do_any (g b r rg rr : Nat) (s : SG) (k c : Int) (hk : In64 k) (w : World) (h : Both w g b r rg rr s) :
    Calls Try.prog 21 #[.pointer (some ⟨g, 0, none⟩), .pointer (some ⟨rg, 0, none⟩), .agg #[.int .i64 k, .int .i64 c]] w (DoPost g b r rg rr (s.act k c) w) := by
  obtain ⟨h1, h2, ⟨n1, n2, n3⟩, ⟨n4, n5, n6⟩⟩ := h
  obtain ⟨hk1, hk2⟩ := hk
  have x1 := h1.keep ((Mod.refl [] w).alloc (Obj.cells #[.int .i64 k, .int .i64 c] 48)) (by simp) (by simp) (by simp)
  have x2 := h2.keep ((Mod.refl [] w).alloc (Obj.cells #[.int .i64 k, .int .i64 c] 48)) (by simp) (by simp)
  by_cases e0 : k.tmod 5 = 0
  · have e20 : (k.tmod 5 == 0) = true := by simp [e0]
    have e21 : (k.tmod 5 == 1) = false := by simp [e0]
    have e22 : (k.tmod 5 == 2) = false := by simp [e0]
    have e23 : (k.tmod 5 == 3) = false := by simp [e0]
    have HS := Lib.hid (show s.act k c = s.enter c by simp [SG.act, e0])
    clear e0
    go_enter Try.func21, Try.ntmps21
    go_wp2_with fail
    have b1 : (w.alloc (Obj.cells #[.int .i64 k, .int .i64 c] 48)).cell? ⟨w.heap.size, 1, none⟩ = some (.int .i64 c) := cellAt (heapNew _ _) 1
    have hgs := ltOf h1.hg
    have hbs := ltOf h1.sp.hb
    have hrs := ltOf h1.sp.hr
    have hrgs := ltOf h2.hg
    have hrrs := ltOf h2.hr
    have m0 := (Mod.refl [g, b, r, rg, rr] w).alloc (Obj.cells #[.int .i64 k, .int .i64 c] 48)
    generalize w.alloc (Obj.cells #[.int .i64 k, .int .i64 c] 48) = w3 at *
    obtain ⟨CC, hCC⟩ : ∃ CC : Array Bool → World → Prop, CC = (fun (z : Array Bool) (u : World) => u.cell? ⟨w.heap.size, 1, none⟩ = some (.int .i64 c) ∧ GateAt u g b r (if z.getD 3 true = true then s.enter c else s) ∧ RGateAt u rg rr (if z.getD 7 true = true then s.enter c else s) ∧ Mod [g, b, r, rg, rr] w u) := ⟨_, rfl⟩
    refine wp_region_calm_lit (by kernel_rfl) (by kernel_rfl) CC (fun z hz => by rw [hCC]; exact ⟨b1, by rw [if_neg (by rw [hz 3 (by decide)]; decide)]; exact x1.same rfl, by rw [if_neg (by rw [hz 7 (by decide)]; decide)]; exact x2.same rfl, m0.drew⟩) ?_
    have hm : ∀ i, i ≠ 3 ∧ i ≠ 7 → CalmSkip CC i := by
      rintro i ⟨h5, h11⟩ z u _ hc
      rw [hCC] at hc ⊢
      simp only [done_ne _ h5, done_ne _ h11]
      exact hc
    have hload : ∀ z u, CC z u → u.cell? ⟨w.heap.size, 1, none⟩ = some (.int .i64 c) ∧ True := by
      intro z u hc
      rw [hCC] at hc
      exact ⟨hc.1, trivial⟩
    have hcA : ∀ z u, z.getD 3 true = false → CC z u → Calls Try.prog 28 #[.pointer (some ⟨g, 0, none⟩), .int .i64 c] u (fun e u' => e = .returned (.int .i64 (s.enterE c)) ∧ CC (z.setIfInBounds 3 true) u') := by
      intro z u hz hc
      rw [hCC] at hc ⊢
      obtain ⟨g0, gx, gr, gm⟩ := hc
      rw [if_neg (by simp [hz])] at gx
      refine (gate_Enter _ _ _ s c _ gx).mono ?_
      rintro e u' ⟨rfl, mm, xx⟩
      refine ⟨rfl, mm.at g0 (by simp; omega), ?_, ?_, gm.trans mm (by simp)⟩
      · rw [if_pos (done_self _ _)]; exact xx
      · rw [done_ne _ (by decide)]; exact gr.keep mm (by simp [n3]) (by simp [n6])
    have hcB : ∀ z u, z.getD 7 true = false → CC z u → Calls Try.prog 71 #[.pointer (some ⟨rg, 0, none⟩), .int .i64 c] u (fun e u' => e = .returned (.int .i64 (s.enterE c)) ∧ CC (z.setIfInBounds 7 true) u') := by
      intro z u hz hc
      rw [hCC] at hc ⊢
      obtain ⟨g0, gx, gr, gm⟩ := hc
      rw [if_neg (by simp [hz])] at gr
      refine (rgate_Enter _ _ s c _ gr).mono ?_
      rintro e u' ⟨rfl, mm, xx⟩
      refine ⟨rfl, mm.at g0 (by simp; omega), ?_, ?_, gm.trans mm (by simp)⟩
      · rw [done_ne _ (by decide)]; exact gx.keep mm (by simp [Ne.symm n1, Ne.symm n4]) (by simp [Ne.symm n2, Ne.symm n5]) (by simp [Ne.symm n3, Ne.symm n6])
      · rw [if_pos (done_self _ _)]; exact xx
    iterate 3 (first | (refine calm_pure (v := ?_) (by rfl) (fun w => ?_) (hm _ (by decide)) ?_; rotate_left; · (go_simp <;> with_reducible rfl)) | (refine calm_load (v := ?_) (by rfl) (fun s w hUp hC => ?_) (hm _ (by decide)) ?_; rotate_left; · (have hl := hload s w hC; go_split_ands; go_simp <;> with_reducible rfl)) | (refine calm_skip (by rfl) (hm _ (by decide)) ?_)); simp only [Act.put, List.setIfInBounds_toArray, List.set_cons_zero, List.set_cons_succ, Nat.reduceAdd, Nat.zero_add]
    refine calm_call (by rfl) (fun w => ?_) (fun s u hs _ hc => hcA s u hs hc) ?_
    · go_simp
    simp only [Act.put, List.setIfInBounds_toArray, List.set_cons_zero, List.set_cons_succ, Nat.reduceAdd, Nat.zero_add]
    iterate 3 (first | (refine calm_pure (v := ?_) (by rfl) (fun w => ?_) (hm _ (by decide)) ?_; rotate_left; · (go_simp <;> with_reducible rfl)) | (refine calm_load (v := ?_) (by rfl) (fun s w hUp hC => ?_) (hm _ (by decide)) ?_; rotate_left; · (have hl := hload s w hC; go_split_ands; go_simp <;> with_reducible rfl)) | (refine calm_skip (by rfl) (hm _ (by decide)) ?_)); simp only [Act.put, List.setIfInBounds_toArray, List.set_cons_zero, List.set_cons_succ, Nat.reduceAdd, Nat.zero_add]
    refine calm_call (by rfl) (fun w => ?_) (fun s u hs _ hc => hcB s u hs hc) ?_
    · go_simp
    simp only [Act.put, List.setIfInBounds_toArray, List.set_cons_zero, List.set_cons_succ, Nat.reduceAdd, Nat.zero_add]
    iterate 2 (first | (refine calm_pure (v := ?_) (by rfl) (fun w => ?_) (hm _ (by decide)) ?_; rotate_left; · (go_simp <;> with_reducible rfl)) | (refine calm_load (v := ?_) (by rfl) (fun s w hUp hC => ?_) (hm _ (by decide)) ?_; rotate_left; · (have hl := hload s w hC; go_split_ands; go_simp <;> with_reducible rfl)) | (refine calm_skip (by rfl) (hm _ (by decide)) ?_)); simp only [Act.put, List.setIfInBounds_toArray, List.set_cons_zero, List.set_cons_succ, Nat.reduceAdd, Nat.zero_add]
    refine calm_nil ?_
    intro z w5 hall hc
    rw [hCC] at hc
    obtain ⟨_, x5, r5, m6⟩ := hc
    rw [if_pos (hall 3 (by decide))] at x5
    rw [if_pos (hall 7 (by decide))] at r5
    clear hm hload hcA hcB hCC hall CC b1 m0
    go_wp2
    go_ret
    refine ⟨by simp, m6, ?_⟩
    rw [HS.out]
    exact ⟨x5, r5, ⟨n1, n2, n3⟩, ⟨n4, n5, n6⟩⟩
  by_cases e1 : k.tmod 5 = 1
  · have e20 : (k.tmod 5 == 0) = false := by simp [e1]
    have e21 : (k.tmod 5 == 1) = true := by simp [e1]
    have e22 : (k.tmod 5 == 2) = false := by simp [e1]
    have e23 : (k.tmod 5 == 3) = false := by simp [e1]
    have HS := Lib.hid (show s.act k c = s.leave c by simp [SG.act, e1])
    clear e0 e1
    go_enter Try.func21, Try.ntmps21
    go_wp2_with fail
    have b1 : (w.alloc (Obj.cells #[.int .i64 k, .int .i64 c] 48)).cell? ⟨w.heap.size, 1, none⟩ = some (.int .i64 c) := cellAt (heapNew _ _) 1
    have hgs := ltOf h1.hg
    have hbs := ltOf h1.sp.hb
    have hrs := ltOf h1.sp.hr
    have hrgs := ltOf h2.hg
    have hrrs := ltOf h2.hr
    have m0 := (Mod.refl [g, b, r, rg, rr] w).alloc (Obj.cells #[.int .i64 k, .int .i64 c] 48)
    generalize w.alloc (Obj.cells #[.int .i64 k, .int .i64 c] 48) = w3 at *
    obtain ⟨CC, hCC⟩ : ∃ CC : Array Bool → World → Prop, CC = (fun (z : Array Bool) (u : World) => u.cell? ⟨w.heap.size, 1, none⟩ = some (.int .i64 c) ∧ GateAt u g b r (if z.getD 3 true = true then s.leave c else s) ∧ RGateAt u rg rr (if z.getD 7 true = true then s.leave c else s) ∧ Mod [g, b, r, rg, rr] w u) := ⟨_, rfl⟩
    refine wp_region_calm_lit (by kernel_rfl) (by kernel_rfl) CC (fun z hz => by rw [hCC]; exact ⟨b1, by rw [if_neg (by rw [hz 3 (by decide)]; decide)]; exact x1.same rfl, by rw [if_neg (by rw [hz 7 (by decide)]; decide)]; exact x2.same rfl, m0.drew⟩) ?_
    have hm : ∀ i, i ≠ 3 ∧ i ≠ 7 → CalmSkip CC i := by
      rintro i ⟨h5, h11⟩ z u _ hc
      rw [hCC] at hc ⊢
      simp only [done_ne _ h5, done_ne _ h11]
      exact hc
    have hload : ∀ z u, CC z u → u.cell? ⟨w.heap.size, 1, none⟩ = some (.int .i64 c) ∧ True := by
      intro z u hc
      rw [hCC] at hc
      exact ⟨hc.1, trivial⟩
    have hcA : ∀ z u, z.getD 3 true = false → CC z u → Calls Try.prog 29 #[.pointer (some ⟨g, 0, none⟩), .int .i64 c] u (fun e u' => e = .returned (.int .i64 (s.leaveE c)) ∧ CC (z.setIfInBounds 3 true) u') := by
      intro z u hz hc
      rw [hCC] at hc ⊢
      obtain ⟨g0, gx, gr, gm⟩ := hc
      rw [if_neg (by simp [hz])] at gx
      refine (gate_Leave _ _ _ s c _ gx).mono ?_
      rintro e u' ⟨rfl, mm, xx⟩
      refine ⟨rfl, mm.at g0 (by simp; omega), ?_, ?_, gm.trans mm (by simp)⟩
      · rw [if_pos (done_self _ _)]; exact xx
      · rw [done_ne _ (by decide)]; exact gr.keep mm (by simp [n3]) (by simp [n6])
    have hcB : ∀ z u, z.getD 7 true = false → CC z u → Calls Try.prog 72 #[.pointer (some ⟨rg, 0, none⟩), .int .i64 c] u (fun e u' => e = .returned (.int .i64 (s.leaveE c)) ∧ CC (z.setIfInBounds 7 true) u') := by
      intro z u hz hc
      rw [hCC] at hc ⊢
      obtain ⟨g0, gx, gr, gm⟩ := hc
      rw [if_neg (by simp [hz])] at gr
      refine (rgate_Leave _ _ s c _ gr).mono ?_
      rintro e u' ⟨rfl, mm, xx⟩
      refine ⟨rfl, mm.at g0 (by simp; omega), ?_, ?_, gm.trans mm (by simp)⟩
      · rw [done_ne _ (by decide)]; exact gx.keep mm (by simp [Ne.symm n1, Ne.symm n4]) (by simp [Ne.symm n2, Ne.symm n5]) (by simp [Ne.symm n3, Ne.symm n6])
      · rw [if_pos (done_self _ _)]; exact xx
    iterate 3 (first | (refine calm_pure (v := ?_) (by rfl) (fun w => ?_) (hm _ (by decide)) ?_; rotate_left; · (go_simp <;> with_reducible rfl)) | (refine calm_load (v := ?_) (by rfl) (fun s w hUp hC => ?_) (hm _ (by decide)) ?_; rotate_left; · (have hl := hload s w hC; go_split_ands; go_simp <;> with_reducible rfl)) | (refine calm_skip (by rfl) (hm _ (by decide)) ?_)); simp only [Act.put, List.setIfInBounds_toArray, List.set_cons_zero, List.set_cons_succ, Nat.reduceAdd, Nat.zero_add]
    refine calm_call (by rfl) (fun w => ?_) (fun s u hs _ hc => hcA s u hs hc) ?_
    · go_simp
    simp only [Act.put, List.setIfInBounds_toArray, List.set_cons_zero, List.set_cons_succ, Nat.reduceAdd, Nat.zero_add]
    iterate 3 (first | (refine calm_pure (v := ?_) (by rfl) (fun w => ?_) (hm _ (by decide)) ?_; rotate_left; · (go_simp <;> with_reducible rfl)) | (refine calm_load (v := ?_) (by rfl) (fun s w hUp hC => ?_) (hm _ (by decide)) ?_; rotate_left; · (have hl := hload s w hC; go_split_ands; go_simp <;> with_reducible rfl)) | (refine calm_skip (by rfl) (hm _ (by decide)) ?_)); simp only [Act.put, List.setIfInBounds_toArray, List.set_cons_zero, List.set_cons_succ, Nat.reduceAdd, Nat.zero_add]
    refine calm_call (by rfl) (fun w => ?_) (fun s u hs _ hc => hcB s u hs hc) ?_
    · go_simp
    simp only [Act.put, List.setIfInBounds_toArray, List.set_cons_zero, List.set_cons_succ, Nat.reduceAdd, Nat.zero_add]
    iterate 2 (first | (refine calm_pure (v := ?_) (by rfl) (fun w => ?_) (hm _ (by decide)) ?_; rotate_left; · (go_simp <;> with_reducible rfl)) | (refine calm_load (v := ?_) (by rfl) (fun s w hUp hC => ?_) (hm _ (by decide)) ?_; rotate_left; · (have hl := hload s w hC; go_split_ands; go_simp <;> with_reducible rfl)) | (refine calm_skip (by rfl) (hm _ (by decide)) ?_)); simp only [Act.put, List.setIfInBounds_toArray, List.set_cons_zero, List.set_cons_succ, Nat.reduceAdd, Nat.zero_add]
    refine calm_nil ?_
    intro z w5 hall hc
    rw [hCC] at hc
    obtain ⟨_, x5, r5, m6⟩ := hc
    rw [if_pos (hall 3 (by decide))] at x5
    rw [if_pos (hall 7 (by decide))] at r5
    clear hm hload hcA hcB hCC hall CC b1 m0
    go_wp2
    go_ret
    refine ⟨by simp, m6, ?_⟩
    rw [HS.out]
    exact ⟨x5, r5, ⟨n1, n2, n3⟩, ⟨n4, n5, n6⟩⟩
  by_cases e2 : k.tmod 5 = 2
  · have e20 : (k.tmod 5 == 0) = false := by simp [e2]
    have e21 : (k.tmod 5 == 1) = false := by simp [e2]
    have e22 : (k.tmod 5 == 2) = true := by simp [e2]
    have e23 : (k.tmod 5 == 3) = false := by simp [e2]
    have HS := Lib.hid (show s.act k c = s.want by simp [SG.act, e2])
    clear e0 e1 e2
    go_enter Try.func21, Try.ntmps21
    go_wp2_with (first | (go_at_call 27; refine (gate_Want g b r s _ (by exact x1.same rfl)).mono ?_; rintro e w1 ⟨rfl, m1, y1⟩) | (go_at_call 73; refine (rgate_Want rg rr s _ (by exact x2.keep m1 (by simp [n1]) (by simp [n4]))).mono ?_; rintro e w2 ⟨rfl, m2, y2⟩))
    go_ret
    refine ⟨by simp, ?_, ?_⟩
    · exact (((Mod.refl _ w).alloc (Obj.cells #[.int .i64 k, .int .i64 c] 48)).trans m1 (by simp)).trans m2 (by simp)
    · rw [HS.out]
      exact ⟨y1.keep m2 (by simp [Ne.symm n1]) (by simp [Ne.symm n2]) (by simp [Ne.symm n3]), y2, ⟨n1, n2, n3⟩, ⟨n4, n5, n6⟩⟩
  by_cases e3 : k.tmod 5 = 3
  · have e20 : (k.tmod 5 == 0) = false := by simp [e3]
    have e21 : (k.tmod 5 == 1) = false := by simp [e3]
    have e22 : (k.tmod 5 == 2) = false := by simp [e3]
    have e23 : (k.tmod 5 == 3) = true := by simp [e3]
    have HS := Lib.hid (show s.act k c = s.take by simp [SG.act, e3])
    clear e0 e1 e2 e3
    go_enter Try.func21, Try.ntmps21
    go_wp2_with (first | (go_at_call 30; refine (gate_Take g b r s _ (by exact x1.same rfl)).mono ?_; rintro e w1 ⟨rfl, m1, y1⟩) | (go_at_call 74; refine (rgate_Take rg rr s _ (by exact x2.keep m1 (by simp [n1]) (by simp [n4]))).mono ?_; rintro e w2 ⟨rfl, m2, y2⟩))
    go_ret
    refine ⟨by simp, ?_, ?_⟩
    · exact (((Mod.refl _ w).alloc (Obj.cells #[.int .i64 k, .int .i64 c] 48)).trans m1 (by simp)).trans m2 (by simp)
    · rw [HS.out]
      exact ⟨y1.keep m2 (by simp [Ne.symm n1]) (by simp [Ne.symm n2]) (by simp [Ne.symm n3]), y2, ⟨n1, n2, n3⟩, ⟨n4, n5, n6⟩⟩
  · have e20 : (k.tmod 5 == 0) = false := by simpa using e0
    have e21 : (k.tmod 5 == 1) = false := by simpa using e1
    have e22 : (k.tmod 5 == 2) = false := by simpa using e2
    have e23 : (k.tmod 5 == 3) = false := by simpa using e3
    have HS := Lib.hid (show s.act k c = s.free by simp [SG.act, e0, e1, e2, e3])
    clear e0 e1 e2 e3
    go_enter Try.func21, Try.ntmps21
    go_wp2_with (first | (go_at_call 26; refine (gate_Free g b r s _ (by exact x1.same rfl)).mono ?_; rintro e w1 ⟨rfl, m1, y1⟩) | (go_at_call 75; refine (rgate_Free rg rr s _ (by exact x2.keep m1 (by simp [n1]) (by simp [n4]))).mono ?_; rintro e w2 ⟨rfl, m2, y2⟩))
    go_ret
    refine ⟨by simp, ?_, ?_⟩
    · exact (((Mod.refl _ w).alloc (Obj.cells #[.int .i64 k, .int .i64 c] 48)).trans m1 (by simp)).trans m2 (by simp)
    · rw [HS.out]
      exact ⟨y1.keep m2 (by simp [Ne.symm n1]) (by simp [Ne.symm n2]) (by simp [Ne.symm n3]), y2, ⟨n1, n2, n3⟩, ⟨n4, n5, n6⟩⟩
end Go.Proofs.Ytbelcmiljjndaaa
