/- Several texts in one (each with its own sentence below). -/
import Derived.Test.YtaakgpnmfkmdoaaGreatDoorKFM
import Derived.Test.YtaakgpnmfkmdoaaGreatDoorBaseM
import Derived.Laws.Tables
import Derived.Laws.Rows
/- The walk over a kernel's flags. No condition but those named. -/
namespace Go.Proofs.YtaakgpnmfkmdoaaGreatDoor
set_option linter.unusedVariables false
set_option linter.unusedSimpArgs false
open Go.RowKit

theorem results_one {fn : Func} {p : Tmp} {ty : TypeId} (h : fn.results = #[.cell p ty]) (tmps : Array Value) (P : Program) (w : World) :
    (results fn tmps).run P w = ((asAddr (tmps.getD p undef)).run P w).andThen fun a w₁ => (loadVar ty a).run P w₁ := by
  simp only [results, h]
  simp [Sem.run_bind, Result.andThen]
section
variable {F : List Nat} {w u : World} {b : Nat} {p : KP} {k : KT}
theorem list_len {t : CbT} (hok : t.ok) (cpu : Int) : (t.list cpu).length ≤ 32 := by
  unfold CbT.list
  split
  · rename_i hi
    have hc : cpu.toNat < t.n := by obtain ⟨h1, h2⟩ := hi; omega
    exact bx_len (hok.2.2.nodup _ hc) (fun x hx => hok.2.2.bd _ x hc hx)
  · simp
theorem wlist_len {t : WkT} (hok : t.ok) (cpu : Int) : (t.list cpu).length ≤ 32 := by
  unfold WkT.list
  split
  · rename_i hi
    have hc : (cpu + 1).toNat < t.n + 1 := by obtain ⟨h1, h2⟩ := hi; omega
    exact bx_len (hok.2.2.nodup _ hc) (fun x hx => hok.2.2.bd _ x hc hx)
  · simp
theorem modSetRow (w : World) (g : Nat) (cs : Array Value) : Mod [g] w (w.setRow g cs) := ⟨rfl, rfl, rfl, by simp, fun k hk hS => setRow_other w g k cs (by simpa using hS)⟩
theorem calm_store {P : Program} {ops : Array Oper} {md : Region.Mode} {C : Array Bool → World → Prop} {Q : Act → Prop} {i : Nat} {o : Oper} {rest : List Oper} {a : Act} (hw : Region.wanted o (yielded ops a.tmps) = true) (ty : TypeId) (x y : Operand) (ho : o.op = .store ty x y)
    (g : Nat) (cells : Array Value) (hx : a.eval x = .pointer (some ⟨g, 0, none⟩)) (hy : a.eval y = .agg cells) (hi : (P.info? ty).map (·.size) = some cells.size) (h1 : cells.all (·.oneCell') = true)
    (hr : ∀ s w, C s w → ∃ t old, w.heap[g]? = some (.cells old t (0, 0)) ∧ old.size = cells.size ∧ C (s.setIfInBounds i true) (w.setRow g cells)) (h : wpCalm P md ops C Q (i + 1) rest (a.put o.dst undef)) : wpCalm P md ops C Q i (o :: rest) a := by
  unfold wpCalm
  rw [if_pos hw]
  refine ⟨undef, fun s w hs hW hC => ?_, h⟩
  obtain ⟨t, old, h2, h3, h4⟩ := hr s w hC
  unfold execOp
  simp only [ho, hx, hy, Instr.storeAt, Instr.sureAddr, Sem.run_bind, Sem.run_pure, Result.andThen_ok, run_storeVar_row w g t ty old cells h2 hi h3 h1]
  exact ⟨rfl, h4⟩
set_option maxRecDepth 100000 in
set_option maxHeartbeats 2000000 in
theorem kernel_flags (hok : k.ok) (hA : On F w (kernL b p k) u) (cpu : Int) : Calls Tryz.prog 98 #[.pointer (some ⟨b, 0, none⟩), .int .i64 cpu] u (fun e u' => e = .returned (.agg (flagsV (k.flags cpu)).toArray) ∧ Mod [] u u') := by
  have hc0 : ∀ u', Mod [] u u' → u'.cell? ⟨b, 1, none⟩ = some (.pointer (some ⟨p.rq, 0, none⟩)) ∧ u'.cell? ⟨b, 2, none⟩ = some (.pointer (some ⟨p.tm, 0, none⟩)) ∧ u'.cell? ⟨b, 5, none⟩ = some (.pointer (some ⟨p.wk, 0, none⟩)) ∧ u'.cell? ⟨b, 6, none⟩ = some (.pointer (some ⟨p.cb, 0, none⟩)) ∧ u'.cell? ⟨b, 10, none⟩ = some (.pointer (some ⟨p.sp, 0, none⟩)) ∧ u'.cell? ⟨b, 11, none⟩ = some (.pointer (some ⟨p.dk, 0, none⟩)) ∧ u'.cell? ⟨b, 17, none⟩ = some (.int .u64 (k.active : Nat)) :=
    fun u' m => ⟨(hA.keep m).kC 1, (hA.keep m).kC 2, (hA.keep m).kC 5, (hA.keep m).kC 6, (hA.keep m).kC 10, (hA.keep m).kC 11, (hA.keep m).kC 17⟩
  have m0 : Mod [] u (u.alloc (.cells #[.bool false, .bool false, .bool false, .bool false, .bool false, .bool false, .bool false, .bool false, .bool false] 215 (0,0))) := (Mod.refl _ _).alloc _
  have hWa := fun u' (m : Mod [] u u') => kernel_waits (hA.keep m) cpu
  obtain ⟨F14, h14⟩ := hA.get 14 rfl
  obtain ⟨F15, h15⟩ := hA.get 15 rfl
  obtain ⟨F8, h8⟩ := hA.get 8 rfl
  obtain ⟨F4, h4⟩ := hA.get 4 rfl
  obtain ⟨F7, h7⟩ := hA.get 7 rfl
  obtain ⟨F3, h3⟩ := hA.get 3 rfl
  have hMu := fun u' (m : Mod [] u u') => stop_Must ((stopR p.sp k.sp).keep h14 m (by simp)) cpu
  have hHe := fun u' (m : Mod [] u u') => (stop_Held ((stopR p.sp k.sp).keep h14 m (by simp)) cpu).mono (fun e w h => (⟨h.1, h.2.mod⟩ : _ ∧ Mod [] _ _))
  have hBu := fun u' (m : Mod [] u u') => (deskx_Busy ((deskR p.dk k.dk).keep h15 m (by simp))).mono (fun e w h => (⟨h.1, h.2.mod⟩ : _ ∧ Mod [] _ _))
  have hBy := fun u' (m : Mod [] u u') => (deskx_By ((deskR p.dk k.dk).keep h15 m (by simp))).mono (fun e w h => (⟨h.1, h.2.mod⟩ : _ ∧ Mod [] _ _))
  have hHa := fun u' (m : Mod [] u u') => (mask_Has k.active hok.ac cpu u').mono (fun e w h => (⟨h.1, h.2.mod⟩ : _ ∧ Mod [] _ _))
  have hCa := fun u' (m : Mod [] u u') => call_Load ((callR p.cb k.cb).keep h8 m (by simp)) cpu
  have hTi := fun u' (m : Mod [] u u') => timers_Ready ((timersA p.tm k.tm).keep h4 m (by simp)) cpu
  have hWo := fun u' (m : Mod [] u u') => work_Load ((workR p.wk k.wk).keep h7 m (by simp)) cpu
  have hW2 := fun u' (m : Mod [] u u') => work_Load ((workR p.wk k.wk).keep h7 m (by simp)) (-1)
  have hRu := fun u' (m : Mod [] u u') => (runq_Load ((runqR p.rq k.rq).keep h3 m (by simp)) cpu).mono (fun e w h => (⟨h.1, h.2.mod⟩ : _ ∧ Mod [] _ _))
  have hl1 := list_len h8.1 cpu
  have hl2 := wlist_len h7.1 cpu
  have hl3 := wlist_len h7.1 (-1)
  have hfl : k.flags cpu = ⟨k.sp.must cpu, hasM k.sp.held cpu, k.dk.run.isSome && decide (k.dk.by_ = cpu), hasM k.active cpu, decide (0 < (k.cb.list cpu).length), (k.waits cpu).isSome, k.tm.ready cpu, decide (0 < (k.wk.list cpu).length + (k.wk.list (-1)).length), decide (0 < k.rq.load cpu)⟩ := rfl
  rw [hfl]
  simp only [flagsV]
  clear hfl hA h14 h15 h8 h4 h7 h3
  generalize k.sp.must cpu = f1 at *
  generalize hasM k.sp.held cpu = f2 at *
  generalize k.dk.run.isSome = f3 at *
  generalize k.dk.by_ = by_ at *
  generalize hasM k.active cpu = f4 at *
  generalize (k.cb.list cpu).length = n1 at *
  generalize (k.waits cpu).isSome = f5 at *
  generalize (k.waits cpu).getD 0 = wv at *
  generalize k.tm.ready cpu = f6 at *
  generalize (k.wk.list cpu).length = n2 at *
  generalize (k.wk.list (-1)).length = n3 at *
  generalize k.rq.load cpu = n4 at *
  have hwp : IntKind.i64.wrap ((n2 : Int) + n3) = (n2 : Int) + n3 := by first | (simp [IntKind.wrap, IntKind.bits]; omega) | (rw [show IntKind.i64.wrap ((n2 : Int) + n3) = wrap64 ((n2 : Int) + n3) by simp]; unfold wrap64; omega) | (simp; omega)
  cases f3
  · go_enter Tryz.func98, Tryz.ntmps98
    go_wp2_with (go_at_call 164; refine (hWa _ m0).mono ?_; rintro e v1 ⟨rfl, mx⟩; have m1 := m0.trans mx (by simp); have hR0 := mx.keep (heapNew u (.cells #[.bool false, .bool false, .bool false, .bool false, .bool false, .bool false, .bool false, .bool false, .bool false] 215 (0,0))) (by simp); clear mx)
    simp only [List.append_eq, List.cons_append, List.nil_append]
    obtain ⟨R, hR⟩ : ∃ R, R = u.heap.size := ⟨_, rfl⟩
    rw [← hR] at hR0 ⊢
    obtain ⟨CC, hCC⟩ : ∃ CC : Array Bool → World → Prop, CC = (fun (z : Array Bool) (v : World) => (v.cell? ⟨b, 1, none⟩ = some (.pointer (some ⟨p.rq, 0, none⟩)) ∧ v.cell? ⟨b, 2, none⟩ = some (.pointer (some ⟨p.tm, 0, none⟩)) ∧ v.cell? ⟨b, 5, none⟩ = some (.pointer (some ⟨p.wk, 0, none⟩)) ∧ v.cell? ⟨b, 6, none⟩ = some (.pointer (some ⟨p.cb, 0, none⟩)) ∧ v.cell? ⟨b, 10, none⟩ = some (.pointer (some ⟨p.sp, 0, none⟩)) ∧ v.cell? ⟨b, 11, none⟩ = some (.pointer (some ⟨p.dk, 0, none⟩)) ∧ v.cell? ⟨b, 17, none⟩ = some (.int .u64 (k.active : Nat))) ∧ Mod [] u v ∧ v.heap[R]? = some (.cells (if z.getD 76 true = true then #[.bool f1, .bool f2, .bool false, .bool f4, .bool (decide (0 < (n1 : Int))), .bool f5, .bool f6, .bool (decide (0 < (n2 : Int) + n3)), .bool (decide (0 < n4))] else #[.bool false, .bool false, .bool false, .bool false, .bool false, .bool false, .bool false, .bool false, .bool false]) 215 (0,0))) := ⟨_, rfl⟩
    refine wp_region_calm_lit (by kernel_rfl) (by kernel_rfl) CC (fun z hz => by rw [hCC]; exact ⟨hc0 _ m1.drew, m1.drew, by rw [if_neg (by rw [hz 76 (by decide)]; decide)]; exact hR0⟩) ?_
    have hm : ∀ i, i ≠ 76 → CalmSkip CC i := by
      rintro i h5 z v _ hc
      rw [hCC] at hc ⊢
      simp only [done_ne _ h5]
      exact hc
    have hload : ∀ z v, CC z v → v.cell? ⟨b, 1, none⟩ = some (.pointer (some ⟨p.rq, 0, none⟩)) ∧ v.cell? ⟨b, 2, none⟩ = some (.pointer (some ⟨p.tm, 0, none⟩)) ∧ v.cell? ⟨b, 5, none⟩ = some (.pointer (some ⟨p.wk, 0, none⟩)) ∧ v.cell? ⟨b, 6, none⟩ = some (.pointer (some ⟨p.cb, 0, none⟩)) ∧ v.cell? ⟨b, 10, none⟩ = some (.pointer (some ⟨p.sp, 0, none⟩)) ∧ v.cell? ⟨b, 11, none⟩ = some (.pointer (some ⟨p.dk, 0, none⟩)) ∧ v.cell? ⟨b, 17, none⟩ = some (.int .u64 (k.active : Nat)) := by
      intro z v hc
      rw [hCC] at hc
      exact hc.1
    have key : ∀ {fn : FuncId} {args : Array Value} {val : Value} (n : Nat) (hn : n ≠ 76) (H : ∀ v, Mod [] u v → Calls Tryz.prog fn args v (fun e v' => e = .returned val ∧ Mod [] v v')) (z : Array Bool) (v : World), CC z v → Calls Tryz.prog fn args v (fun e v' => e = .returned val ∧ CC (z.setIfInBounds n true) v') := by
      intro fn args val n hn H z v hc
      rw [hCC] at hc ⊢
      refine (H v hc.2.1).mono ?_
      rintro e v' ⟨rfl, mx⟩
      exact ⟨rfl, hc0 _ (hc.2.1.trans mx (by simp)), hc.2.1.trans mx (by simp), by simp only [done_ne _ hn]; exact mx.keep hc.2.2 (by simp)⟩
    clear m0 m1 hR0
    iterate 6 (first | (refine calm_pure (v := ?_) (by rfl) (fun w => ?_) (hm _ (by decide)) ?_; rotate_left; · (go_simp <;> with_reducible rfl)) | (refine calm_load (v := ?_) (by rfl) (fun s w hUp hC => ?_) (hm _ (by decide)) ?_; rotate_left; · (have hl := hload s w hC; go_split_ands; go_simp <;> with_reducible rfl)) | (refine calm_skip (by rfl) (hm _ (by decide)) ?_)); simp only [Act.put, List.setIfInBounds_toArray, List.set_cons_zero, List.set_cons_succ, Nat.reduceAdd, Nat.zero_add]
    refine calm_call (by rfl) (fun w => ?_) (fun s u hs hUp hc => key 6 (by decide) hMu s u hc) ?_
    · go_simp
    simp only [Act.put, List.setIfInBounds_toArray, List.set_cons_zero, List.set_cons_succ, Nat.reduceAdd, Nat.zero_add]
    iterate 6 (first | (refine calm_pure (v := ?_) (by rfl) (fun w => ?_) (hm _ (by decide)) ?_; rotate_left; · (go_simp <;> with_reducible rfl)) | (refine calm_load (v := ?_) (by rfl) (fun s w hUp hC => ?_) (hm _ (by decide)) ?_; rotate_left; · (have hl := hload s w hC; go_split_ands; go_simp <;> with_reducible rfl)) | (refine calm_skip (by rfl) (hm _ (by decide)) ?_)); simp only [Act.put, List.setIfInBounds_toArray, List.set_cons_zero, List.set_cons_succ, Nat.reduceAdd, Nat.zero_add]
    refine calm_call (by rfl) (fun w => ?_) (fun s u hs hUp hc => key 13 (by decide) hHe s u hc) ?_
    · go_simp
    simp only [Act.put, List.setIfInBounds_toArray, List.set_cons_zero, List.set_cons_succ, Nat.reduceAdd, Nat.zero_add]
    iterate 5 (first | (refine calm_pure (v := ?_) (by rfl) (fun w => ?_) (hm _ (by decide)) ?_; rotate_left; · (go_simp <;> with_reducible rfl)) | (refine calm_load (v := ?_) (by rfl) (fun s w hUp hC => ?_) (hm _ (by decide)) ?_; rotate_left; · (have hl := hload s w hC; go_split_ands; go_simp <;> with_reducible rfl)) | (refine calm_skip (by rfl) (hm _ (by decide)) ?_)); simp only [Act.put, List.setIfInBounds_toArray, List.set_cons_zero, List.set_cons_succ, Nat.reduceAdd, Nat.zero_add]
    refine calm_call (by rfl) (fun w => ?_) (fun s u hs hUp hc => key 19 (by decide) hBu s u hc) ?_
    · go_simp
    simp only [Act.put, List.setIfInBounds_toArray, List.set_cons_zero, List.set_cons_succ, Nat.reduceAdd, Nat.zero_add]
    iterate 1 (first | (refine calm_pure (v := ?_) (by rfl) (fun w => ?_) (hm _ (by decide)) ?_; rotate_left; · (go_simp <;> with_reducible rfl)) | (refine calm_load (v := ?_) (by rfl) (fun s w hUp hC => ?_) (hm _ (by decide)) ?_; rotate_left; · (have hl := hload s w hC; go_split_ands; go_simp <;> with_reducible rfl)) | (refine calm_skip (by rfl) (hm _ (by decide)) ?_)); simp only [Act.put, List.setIfInBounds_toArray, List.set_cons_zero, List.set_cons_succ, Nat.reduceAdd, Nat.zero_add]
    iterate 8 (first | (refine calm_pure (v := ?_) (by rfl) (fun w => ?_) (hm _ (by decide)) ?_; rotate_left; · (go_simp <;> with_reducible rfl)) | (refine calm_load (v := ?_) (by rfl) (fun s w hUp hC => ?_) (hm _ (by decide)) ?_; rotate_left; · (have hl := hload s w hC; go_split_ands; go_simp <;> with_reducible rfl)) | (refine calm_skip (by rfl) (hm _ (by decide)) ?_)); simp only [Act.put, List.setIfInBounds_toArray, List.set_cons_zero, List.set_cons_succ, Nat.reduceAdd, Nat.zero_add]
    iterate 1 (first | (refine calm_pure (v := ?_) (by rfl) (fun w => ?_) (hm _ (by decide)) ?_; rotate_left; · (go_simp <;> with_reducible rfl)) | (refine calm_load (v := ?_) (by rfl) (fun s w hUp hC => ?_) (hm _ (by decide)) ?_; rotate_left; · (have hl := hload s w hC; go_split_ands; go_simp <;> with_reducible rfl)) | (refine calm_skip (by rfl) (hm _ (by decide)) ?_)); simp only [Act.put, List.setIfInBounds_toArray, List.set_cons_zero, List.set_cons_succ, Nat.reduceAdd, Nat.zero_add]
    iterate 5 (first | (refine calm_pure (v := ?_) (by rfl) (fun w => ?_) (hm _ (by decide)) ?_; rotate_left; · (go_simp <;> with_reducible rfl)) | (refine calm_load (v := ?_) (by rfl) (fun s w hUp hC => ?_) (hm _ (by decide)) ?_; rotate_left; · (have hl := hload s w hC; go_split_ands; go_simp <;> with_reducible rfl)) | (refine calm_skip (by rfl) (hm _ (by decide)) ?_)); simp only [Act.put, List.setIfInBounds_toArray, List.set_cons_zero, List.set_cons_succ, Nat.reduceAdd, Nat.zero_add]
    refine calm_call (by rfl) (fun w => ?_) (fun s u hs hUp hc => key 35 (by decide) hHa s u hc) ?_
    · go_simp
    simp only [Act.put, List.setIfInBounds_toArray, List.set_cons_zero, List.set_cons_succ, Nat.reduceAdd, Nat.zero_add]
    iterate 6 (first | (refine calm_pure (v := ?_) (by rfl) (fun w => ?_) (hm _ (by decide)) ?_; rotate_left; · (go_simp <;> with_reducible rfl)) | (refine calm_load (v := ?_) (by rfl) (fun s w hUp hC => ?_) (hm _ (by decide)) ?_; rotate_left; · (have hl := hload s w hC; go_split_ands; go_simp <;> with_reducible rfl)) | (refine calm_skip (by rfl) (hm _ (by decide)) ?_)); simp only [Act.put, List.setIfInBounds_toArray, List.set_cons_zero, List.set_cons_succ, Nat.reduceAdd, Nat.zero_add]
    refine calm_call (by rfl) (fun w => ?_) (fun s u hs hUp hc => key 42 (by decide) hCa s u hc) ?_
    · go_simp
    simp only [Act.put, List.setIfInBounds_toArray, List.set_cons_zero, List.set_cons_succ, Nat.reduceAdd, Nat.zero_add]
    iterate 8 (first | (refine calm_pure (v := ?_) (by rfl) (fun w => ?_) (hm _ (by decide)) ?_; rotate_left; · (go_simp <;> with_reducible rfl)) | (refine calm_load (v := ?_) (by rfl) (fun s w hUp hC => ?_) (hm _ (by decide)) ?_; rotate_left; · (have hl := hload s w hC; go_split_ands; go_simp <;> with_reducible rfl)) | (refine calm_skip (by rfl) (hm _ (by decide)) ?_)); simp only [Act.put, List.setIfInBounds_toArray, List.set_cons_zero, List.set_cons_succ, Nat.reduceAdd, Nat.zero_add]
    refine calm_call (by rfl) (fun w => ?_) (fun s u hs hUp hc => key 51 (by decide) hTi s u hc) ?_
    · go_simp
    simp only [Act.put, List.setIfInBounds_toArray, List.set_cons_zero, List.set_cons_succ, Nat.reduceAdd, Nat.zero_add]
    iterate 6 (first | (refine calm_pure (v := ?_) (by rfl) (fun w => ?_) (hm _ (by decide)) ?_; rotate_left; · (go_simp <;> with_reducible rfl)) | (refine calm_load (v := ?_) (by rfl) (fun s w hUp hC => ?_) (hm _ (by decide)) ?_; rotate_left; · (have hl := hload s w hC; go_split_ands; go_simp <;> with_reducible rfl)) | (refine calm_skip (by rfl) (hm _ (by decide)) ?_)); simp only [Act.put, List.setIfInBounds_toArray, List.set_cons_zero, List.set_cons_succ, Nat.reduceAdd, Nat.zero_add]
    refine calm_call (by rfl) (fun w => ?_) (fun s u hs hUp hc => key 58 (by decide) hWo s u hc) ?_
    · go_simp
    simp only [Act.put, List.setIfInBounds_toArray, List.set_cons_zero, List.set_cons_succ, Nat.reduceAdd, Nat.zero_add]
    iterate 5 (first | (refine calm_pure (v := ?_) (by rfl) (fun w => ?_) (hm _ (by decide)) ?_; rotate_left; · (go_simp <;> with_reducible rfl)) | (refine calm_load (v := ?_) (by rfl) (fun s w hUp hC => ?_) (hm _ (by decide)) ?_; rotate_left; · (have hl := hload s w hC; go_split_ands; go_simp <;> with_reducible rfl)) | (refine calm_skip (by rfl) (hm _ (by decide)) ?_)); simp only [Act.put, List.setIfInBounds_toArray, List.set_cons_zero, List.set_cons_succ, Nat.reduceAdd, Nat.zero_add]
    refine calm_call (by rfl) (fun w => ?_) (fun s u hs hUp hc => key 64 (by decide) hW2 s u hc) ?_
    · go_simp
    simp only [Act.put, List.setIfInBounds_toArray, List.set_cons_zero, List.set_cons_succ, Nat.reduceAdd, Nat.zero_add]
    iterate 8 (first | (refine calm_pure (v := ?_) (by rfl) (fun w => ?_) (hm _ (by decide)) ?_; rotate_left; · (go_simp <;> with_reducible rfl)) | (refine calm_load (v := ?_) (by rfl) (fun s w hUp hC => ?_) (hm _ (by decide)) ?_; rotate_left; · (have hl := hload s w hC; go_split_ands; go_simp <;> with_reducible rfl)) | (refine calm_skip (by rfl) (hm _ (by decide)) ?_)); simp only [Act.put, List.setIfInBounds_toArray, List.set_cons_zero, List.set_cons_succ, Nat.reduceAdd, Nat.zero_add]
    refine calm_call (by rfl) (fun w => ?_) (fun s u hs hUp hc => key 73 (by decide) hRu s u hc) ?_
    · go_simp
    simp only [Act.put, List.setIfInBounds_toArray, List.set_cons_zero, List.set_cons_succ, Nat.reduceAdd, Nat.zero_add]
    iterate 2 (first | (refine calm_pure (v := ?_) (by rfl) (fun w => ?_) (hm _ (by decide)) ?_; rotate_left; · (go_simp <;> with_reducible rfl)) | (refine calm_load (v := ?_) (by rfl) (fun s w hUp hC => ?_) (hm _ (by decide)) ?_; rotate_left; · (have hl := hload s w hC; go_split_ands; go_simp <;> with_reducible rfl)) | (refine calm_skip (by rfl) (hm _ (by decide)) ?_)); simp only [Act.put, List.setIfInBounds_toArray, List.set_cons_zero, List.set_cons_succ, Nat.reduceAdd, Nat.zero_add]
    refine calm_store (by rfl) _ _ _ rfl R #[.bool f1, .bool f2, .bool false, .bool f4, .bool (decide (0 < (n1 : Int))), .bool f5, .bool f6, .bool (decide (0 < (n2 : Int) + n3)), .bool (decide (0 < n4))] (by rfl) (by first | rfl | (go_simp; done) | (go_simp; rfl) | (go_simp; rw [hwp]; omega) | (go_simp; omega)) (by kernel_rfl) (by simp [Value.oneCell']) ?_ ?_
    · intro z v hc
      rw [hCC] at hc ⊢
      obtain ⟨_, g2, g3⟩ := hc
      have m5 := g2.trans (modSetRow v R #[.bool f1, .bool f2, .bool false, .bool f4, .bool (decide (0 < (n1 : Int))), .bool f5, .bool f6, .bool (decide (0 < (n2 : Int) + n3)), .bool (decide (0 < n4))]) (by simp; omega)
      refine ⟨_, _, g3, by split <;> rfl, hc0 _ m5, m5, ?_⟩
      rw [if_pos (done_self _ _)]
      exact setRow_heap _ _ _ _ _ _ g3
    refine calm_nil ?_
    intro z v hall hc
    rw [hCC] at hc
    obtain ⟨_, g2, g3⟩ := hc
    rw [if_pos (hall 76 (by decide))] at g3
    clear hm hload key hCC hall CC hMu hHe hBu hBy hHa hCa hTi hWo hW2 hRu hc0 hWa
    go_wp2
    refine bodyPost_ret (results_cell_row rfl _ _ R _ _ (0,0) _ (by rfl) g3 Tryz.underlying215 rfl (by kernel_rfl)) rfl ?_
    refine ⟨?_, g2⟩
    simp; omega
  · go_enter Tryz.func98, Tryz.ntmps98
    go_wp2_with (go_at_call 164; refine (hWa _ m0).mono ?_; rintro e v1 ⟨rfl, mx⟩; have m1 := m0.trans mx (by simp); have hR0 := mx.keep (heapNew u (.cells #[.bool false, .bool false, .bool false, .bool false, .bool false, .bool false, .bool false, .bool false, .bool false] 215 (0,0))) (by simp); clear mx)
    simp only [List.append_eq, List.cons_append, List.nil_append]
    obtain ⟨R, hR⟩ : ∃ R, R = u.heap.size := ⟨_, rfl⟩
    rw [← hR] at hR0 ⊢
    obtain ⟨CC, hCC⟩ : ∃ CC : Array Bool → World → Prop, CC = (fun (z : Array Bool) (v : World) => (v.cell? ⟨b, 1, none⟩ = some (.pointer (some ⟨p.rq, 0, none⟩)) ∧ v.cell? ⟨b, 2, none⟩ = some (.pointer (some ⟨p.tm, 0, none⟩)) ∧ v.cell? ⟨b, 5, none⟩ = some (.pointer (some ⟨p.wk, 0, none⟩)) ∧ v.cell? ⟨b, 6, none⟩ = some (.pointer (some ⟨p.cb, 0, none⟩)) ∧ v.cell? ⟨b, 10, none⟩ = some (.pointer (some ⟨p.sp, 0, none⟩)) ∧ v.cell? ⟨b, 11, none⟩ = some (.pointer (some ⟨p.dk, 0, none⟩)) ∧ v.cell? ⟨b, 17, none⟩ = some (.int .u64 (k.active : Nat))) ∧ Mod [] u v ∧ v.heap[R]? = some (.cells (if z.getD 76 true = true then #[.bool f1, .bool f2, .bool (decide (by_ = cpu)), .bool f4, .bool (decide (0 < (n1 : Int))), .bool f5, .bool f6, .bool (decide (0 < (n2 : Int) + n3)), .bool (decide (0 < n4))] else #[.bool false, .bool false, .bool false, .bool false, .bool false, .bool false, .bool false, .bool false, .bool false]) 215 (0,0))) := ⟨_, rfl⟩
    refine wp_region_calm_lit (by kernel_rfl) (by kernel_rfl) CC (fun z hz => by rw [hCC]; exact ⟨hc0 _ m1.drew, m1.drew, by rw [if_neg (by rw [hz 76 (by decide)]; decide)]; exact hR0⟩) ?_
    have hm : ∀ i, i ≠ 76 → CalmSkip CC i := by
      rintro i h5 z v _ hc
      rw [hCC] at hc ⊢
      simp only [done_ne _ h5]
      exact hc
    have hload : ∀ z v, CC z v → v.cell? ⟨b, 1, none⟩ = some (.pointer (some ⟨p.rq, 0, none⟩)) ∧ v.cell? ⟨b, 2, none⟩ = some (.pointer (some ⟨p.tm, 0, none⟩)) ∧ v.cell? ⟨b, 5, none⟩ = some (.pointer (some ⟨p.wk, 0, none⟩)) ∧ v.cell? ⟨b, 6, none⟩ = some (.pointer (some ⟨p.cb, 0, none⟩)) ∧ v.cell? ⟨b, 10, none⟩ = some (.pointer (some ⟨p.sp, 0, none⟩)) ∧ v.cell? ⟨b, 11, none⟩ = some (.pointer (some ⟨p.dk, 0, none⟩)) ∧ v.cell? ⟨b, 17, none⟩ = some (.int .u64 (k.active : Nat)) := by
      intro z v hc
      rw [hCC] at hc
      exact hc.1
    have key : ∀ {fn : FuncId} {args : Array Value} {val : Value} (n : Nat) (hn : n ≠ 76) (H : ∀ v, Mod [] u v → Calls Tryz.prog fn args v (fun e v' => e = .returned val ∧ Mod [] v v')) (z : Array Bool) (v : World), CC z v → Calls Tryz.prog fn args v (fun e v' => e = .returned val ∧ CC (z.setIfInBounds n true) v') := by
      intro fn args val n hn H z v hc
      rw [hCC] at hc ⊢
      refine (H v hc.2.1).mono ?_
      rintro e v' ⟨rfl, mx⟩
      exact ⟨rfl, hc0 _ (hc.2.1.trans mx (by simp)), hc.2.1.trans mx (by simp), by simp only [done_ne _ hn]; exact mx.keep hc.2.2 (by simp)⟩
    clear m0 m1 hR0
    iterate 6 (first | (refine calm_pure (v := ?_) (by rfl) (fun w => ?_) (hm _ (by decide)) ?_; rotate_left; · (go_simp <;> with_reducible rfl)) | (refine calm_load (v := ?_) (by rfl) (fun s w hUp hC => ?_) (hm _ (by decide)) ?_; rotate_left; · (have hl := hload s w hC; go_split_ands; go_simp <;> with_reducible rfl)) | (refine calm_skip (by rfl) (hm _ (by decide)) ?_)); simp only [Act.put, List.setIfInBounds_toArray, List.set_cons_zero, List.set_cons_succ, Nat.reduceAdd, Nat.zero_add]
    refine calm_call (by rfl) (fun w => ?_) (fun s u hs hUp hc => key 6 (by decide) hMu s u hc) ?_
    · go_simp
    simp only [Act.put, List.setIfInBounds_toArray, List.set_cons_zero, List.set_cons_succ, Nat.reduceAdd, Nat.zero_add]
    iterate 6 (first | (refine calm_pure (v := ?_) (by rfl) (fun w => ?_) (hm _ (by decide)) ?_; rotate_left; · (go_simp <;> with_reducible rfl)) | (refine calm_load (v := ?_) (by rfl) (fun s w hUp hC => ?_) (hm _ (by decide)) ?_; rotate_left; · (have hl := hload s w hC; go_split_ands; go_simp <;> with_reducible rfl)) | (refine calm_skip (by rfl) (hm _ (by decide)) ?_)); simp only [Act.put, List.setIfInBounds_toArray, List.set_cons_zero, List.set_cons_succ, Nat.reduceAdd, Nat.zero_add]
    refine calm_call (by rfl) (fun w => ?_) (fun s u hs hUp hc => key 13 (by decide) hHe s u hc) ?_
    · go_simp
    simp only [Act.put, List.setIfInBounds_toArray, List.set_cons_zero, List.set_cons_succ, Nat.reduceAdd, Nat.zero_add]
    iterate 5 (first | (refine calm_pure (v := ?_) (by rfl) (fun w => ?_) (hm _ (by decide)) ?_; rotate_left; · (go_simp <;> with_reducible rfl)) | (refine calm_load (v := ?_) (by rfl) (fun s w hUp hC => ?_) (hm _ (by decide)) ?_; rotate_left; · (have hl := hload s w hC; go_split_ands; go_simp <;> with_reducible rfl)) | (refine calm_skip (by rfl) (hm _ (by decide)) ?_)); simp only [Act.put, List.setIfInBounds_toArray, List.set_cons_zero, List.set_cons_succ, Nat.reduceAdd, Nat.zero_add]
    refine calm_call (by rfl) (fun w => ?_) (fun s u hs hUp hc => key 19 (by decide) hBu s u hc) ?_
    · go_simp
    simp only [Act.put, List.setIfInBounds_toArray, List.set_cons_zero, List.set_cons_succ, Nat.reduceAdd, Nat.zero_add]
    iterate 1 (first | (refine calm_pure (v := ?_) (by rfl) (fun w => ?_) (hm _ (by decide)) ?_; rotate_left; · (go_simp <;> with_reducible rfl)) | (refine calm_load (v := ?_) (by rfl) (fun s w hUp hC => ?_) (hm _ (by decide)) ?_; rotate_left; · (have hl := hload s w hC; go_split_ands; go_simp <;> with_reducible rfl)) | (refine calm_skip (by rfl) (hm _ (by decide)) ?_)); simp only [Act.put, List.setIfInBounds_toArray, List.set_cons_zero, List.set_cons_succ, Nat.reduceAdd, Nat.zero_add]
    iterate 5 (first | (refine calm_pure (v := ?_) (by rfl) (fun w => ?_) (hm _ (by decide)) ?_; rotate_left; · (go_simp <;> with_reducible rfl)) | (refine calm_load (v := ?_) (by rfl) (fun s w hUp hC => ?_) (hm _ (by decide)) ?_; rotate_left; · (have hl := hload s w hC; go_split_ands; go_simp <;> with_reducible rfl)) | (refine calm_skip (by rfl) (hm _ (by decide)) ?_)); simp only [Act.put, List.setIfInBounds_toArray, List.set_cons_zero, List.set_cons_succ, Nat.reduceAdd, Nat.zero_add]
    refine calm_call (by rfl) (fun w => ?_) (fun s u hs hUp hc => key 26 (by decide) hBy s u hc) ?_
    · go_simp
    simp only [Act.put, List.setIfInBounds_toArray, List.set_cons_zero, List.set_cons_succ, Nat.reduceAdd, Nat.zero_add]
    iterate 3 (first | (refine calm_pure (v := ?_) (by rfl) (fun w => ?_) (hm _ (by decide)) ?_; rotate_left; · (go_simp <;> with_reducible rfl)) | (refine calm_load (v := ?_) (by rfl) (fun s w hUp hC => ?_) (hm _ (by decide)) ?_; rotate_left; · (have hl := hload s w hC; go_split_ands; go_simp <;> with_reducible rfl)) | (refine calm_skip (by rfl) (hm _ (by decide)) ?_)); simp only [Act.put, List.setIfInBounds_toArray, List.set_cons_zero, List.set_cons_succ, Nat.reduceAdd, Nat.zero_add]
    iterate 5 (first | (refine calm_pure (v := ?_) (by rfl) (fun w => ?_) (hm _ (by decide)) ?_; rotate_left; · (go_simp <;> with_reducible rfl)) | (refine calm_load (v := ?_) (by rfl) (fun s w hUp hC => ?_) (hm _ (by decide)) ?_; rotate_left; · (have hl := hload s w hC; go_split_ands; go_simp <;> with_reducible rfl)) | (refine calm_skip (by rfl) (hm _ (by decide)) ?_)); simp only [Act.put, List.setIfInBounds_toArray, List.set_cons_zero, List.set_cons_succ, Nat.reduceAdd, Nat.zero_add]
    refine calm_call (by rfl) (fun w => ?_) (fun s u hs hUp hc => key 35 (by decide) hHa s u hc) ?_
    · go_simp
    simp only [Act.put, List.setIfInBounds_toArray, List.set_cons_zero, List.set_cons_succ, Nat.reduceAdd, Nat.zero_add]
    iterate 6 (first | (refine calm_pure (v := ?_) (by rfl) (fun w => ?_) (hm _ (by decide)) ?_; rotate_left; · (go_simp <;> with_reducible rfl)) | (refine calm_load (v := ?_) (by rfl) (fun s w hUp hC => ?_) (hm _ (by decide)) ?_; rotate_left; · (have hl := hload s w hC; go_split_ands; go_simp <;> with_reducible rfl)) | (refine calm_skip (by rfl) (hm _ (by decide)) ?_)); simp only [Act.put, List.setIfInBounds_toArray, List.set_cons_zero, List.set_cons_succ, Nat.reduceAdd, Nat.zero_add]
    refine calm_call (by rfl) (fun w => ?_) (fun s u hs hUp hc => key 42 (by decide) hCa s u hc) ?_
    · go_simp
    simp only [Act.put, List.setIfInBounds_toArray, List.set_cons_zero, List.set_cons_succ, Nat.reduceAdd, Nat.zero_add]
    iterate 8 (first | (refine calm_pure (v := ?_) (by rfl) (fun w => ?_) (hm _ (by decide)) ?_; rotate_left; · (go_simp <;> with_reducible rfl)) | (refine calm_load (v := ?_) (by rfl) (fun s w hUp hC => ?_) (hm _ (by decide)) ?_; rotate_left; · (have hl := hload s w hC; go_split_ands; go_simp <;> with_reducible rfl)) | (refine calm_skip (by rfl) (hm _ (by decide)) ?_)); simp only [Act.put, List.setIfInBounds_toArray, List.set_cons_zero, List.set_cons_succ, Nat.reduceAdd, Nat.zero_add]
    refine calm_call (by rfl) (fun w => ?_) (fun s u hs hUp hc => key 51 (by decide) hTi s u hc) ?_
    · go_simp
    simp only [Act.put, List.setIfInBounds_toArray, List.set_cons_zero, List.set_cons_succ, Nat.reduceAdd, Nat.zero_add]
    iterate 6 (first | (refine calm_pure (v := ?_) (by rfl) (fun w => ?_) (hm _ (by decide)) ?_; rotate_left; · (go_simp <;> with_reducible rfl)) | (refine calm_load (v := ?_) (by rfl) (fun s w hUp hC => ?_) (hm _ (by decide)) ?_; rotate_left; · (have hl := hload s w hC; go_split_ands; go_simp <;> with_reducible rfl)) | (refine calm_skip (by rfl) (hm _ (by decide)) ?_)); simp only [Act.put, List.setIfInBounds_toArray, List.set_cons_zero, List.set_cons_succ, Nat.reduceAdd, Nat.zero_add]
    refine calm_call (by rfl) (fun w => ?_) (fun s u hs hUp hc => key 58 (by decide) hWo s u hc) ?_
    · go_simp
    simp only [Act.put, List.setIfInBounds_toArray, List.set_cons_zero, List.set_cons_succ, Nat.reduceAdd, Nat.zero_add]
    iterate 5 (first | (refine calm_pure (v := ?_) (by rfl) (fun w => ?_) (hm _ (by decide)) ?_; rotate_left; · (go_simp <;> with_reducible rfl)) | (refine calm_load (v := ?_) (by rfl) (fun s w hUp hC => ?_) (hm _ (by decide)) ?_; rotate_left; · (have hl := hload s w hC; go_split_ands; go_simp <;> with_reducible rfl)) | (refine calm_skip (by rfl) (hm _ (by decide)) ?_)); simp only [Act.put, List.setIfInBounds_toArray, List.set_cons_zero, List.set_cons_succ, Nat.reduceAdd, Nat.zero_add]
    refine calm_call (by rfl) (fun w => ?_) (fun s u hs hUp hc => key 64 (by decide) hW2 s u hc) ?_
    · go_simp
    simp only [Act.put, List.setIfInBounds_toArray, List.set_cons_zero, List.set_cons_succ, Nat.reduceAdd, Nat.zero_add]
    iterate 8 (first | (refine calm_pure (v := ?_) (by rfl) (fun w => ?_) (hm _ (by decide)) ?_; rotate_left; · (go_simp <;> with_reducible rfl)) | (refine calm_load (v := ?_) (by rfl) (fun s w hUp hC => ?_) (hm _ (by decide)) ?_; rotate_left; · (have hl := hload s w hC; go_split_ands; go_simp <;> with_reducible rfl)) | (refine calm_skip (by rfl) (hm _ (by decide)) ?_)); simp only [Act.put, List.setIfInBounds_toArray, List.set_cons_zero, List.set_cons_succ, Nat.reduceAdd, Nat.zero_add]
    refine calm_call (by rfl) (fun w => ?_) (fun s u hs hUp hc => key 73 (by decide) hRu s u hc) ?_
    · go_simp
    simp only [Act.put, List.setIfInBounds_toArray, List.set_cons_zero, List.set_cons_succ, Nat.reduceAdd, Nat.zero_add]
    iterate 2 (first | (refine calm_pure (v := ?_) (by rfl) (fun w => ?_) (hm _ (by decide)) ?_; rotate_left; · (go_simp <;> with_reducible rfl)) | (refine calm_load (v := ?_) (by rfl) (fun s w hUp hC => ?_) (hm _ (by decide)) ?_; rotate_left; · (have hl := hload s w hC; go_split_ands; go_simp <;> with_reducible rfl)) | (refine calm_skip (by rfl) (hm _ (by decide)) ?_)); simp only [Act.put, List.setIfInBounds_toArray, List.set_cons_zero, List.set_cons_succ, Nat.reduceAdd, Nat.zero_add]
    refine calm_store (by rfl) _ _ _ rfl R #[.bool f1, .bool f2, .bool (decide (by_ = cpu)), .bool f4, .bool (decide (0 < (n1 : Int))), .bool f5, .bool f6, .bool (decide (0 < (n2 : Int) + n3)), .bool (decide (0 < n4))] (by rfl) (by first | rfl | (go_simp; done) | (go_simp; rfl) | (go_simp; rw [hwp]; omega) | (go_simp; omega)) (by kernel_rfl) (by simp [Value.oneCell']) ?_ ?_
    · intro z v hc
      rw [hCC] at hc ⊢
      obtain ⟨_, g2, g3⟩ := hc
      have m5 := g2.trans (modSetRow v R #[.bool f1, .bool f2, .bool (decide (by_ = cpu)), .bool f4, .bool (decide (0 < (n1 : Int))), .bool f5, .bool f6, .bool (decide (0 < (n2 : Int) + n3)), .bool (decide (0 < n4))]) (by simp; omega)
      refine ⟨_, _, g3, by split <;> rfl, hc0 _ m5, m5, ?_⟩
      rw [if_pos (done_self _ _)]
      exact setRow_heap _ _ _ _ _ _ g3
    refine calm_nil ?_
    intro z v hall hc
    rw [hCC] at hc
    obtain ⟨_, g2, g3⟩ := hc
    rw [if_pos (hall 76 (by decide))] at g3
    clear hm hload key hCC hall CC hMu hHe hBu hBy hHa hCa hTi hWo hW2 hRu hc0 hWa
    go_wp2
    refine bodyPost_ret (results_cell_row rfl _ _ R _ _ (0,0) _ (by rfl) g3 Tryz.underlying215 rfl (by kernel_rfl)) rfl ?_
    refine ⟨?_, g2⟩
    simp; omega
end
end Go.Proofs.YtaakgpnmfkmdoaaGreatDoor
