/- The walk over drill.Script, which ranges over a function: the events that come of the dice, one behind the other. -/
import Derived.Test.YtiegnbdoidiffaaScript
namespace Go.Proofs.Ytiegnbdoidiffaa
set_option linter.unusedVariables false
set_option linter.unusedSimpArgs false
open Go.RowKit
attribute [local go_sem] Oper.semAt_some

theorem infoEv : (Try.prog.info? 48).map (fun i => (i.zero, i.size, i.bytes)) = some (some (.agg #[.int .i64 0, .int .i64 0, .int .i64 0, .int .u64 0, .int .i64 0]), 5, 40) := by kernel_rfl
theorem evC_form2 (y c : Int) : ∃ k u i m n : Int, evR y c = .agg #[.int .i64 k, .int .i64 u, .int .i64 i, .int .u64 m, .int .i64 n] := by
  unfold evR
  split
  · exact ⟨_, _, _, _, _, rfl⟩
  · exact ⟨_, _, _, _, _, rfl⟩
/-- What drill.Script and the document's hand back. -/
def okS (c n : Int) : Prop := rightC c ∧ 0 ≤ n ∧ n ≤ 600
instance (c n : Int) : Decidable (okS c n) := by unfold okS; infer_instance
def ScriptDo (c x : Int) (n : Nat) (w : World) (e : Ending) (w' : World) : Prop :=
  ∃ g cap, e = .returned (.tuple #[.slice (rA g) n cap, .int .i64 0]) ∧ Mod [] w w' ∧ RAt 48 5 w' g cap n (evs c x n) ∧ ∀ k, k ∈ rF g → w.heap.size ≤ k

set_option maxRecDepth 100000 in
set_option maxHeartbeats 2000000 in
theorem drill_Script (c x : Int) (n : Nat) (w : World) (h : okS c n) : Calls Try.prog 32 #[.int .i64 c, .int .u64 x, .int .i64 n] w (ScriptDo c x n w) := by
  obtain ⟨hc, h0, h1⟩ := h
  have hc2 := decide_eq_true hc
  have hn : n ≤ 600 := by omega
  refine (callsIn_wide (n := 3)).1 ?_
  refine callsIn_of_wp_marks Try.func32 rfl trivial ?_ rfl
  simp only [Try.ntmps32, List.size_toArray, List.length_cons, List.length_nil, Nat.reduceAdd, Nat.reduceSub, Array.replicate_succ, Array.replicate_zero, List.push_toArray, List.append_toArray, List.nil_append, List.cons_append]
  gi_wp2_with (first
    | (
      refine ⟨trivial, ?_⟩
      gi_at_call 48
      refine (callsIn_wide.2 (drill_right _ _)).mono ?_
      rintro e w' ⟨rfl, k1, rfl⟩
      )
    | (
      refine ⟨trivial, ?_⟩
      gi_at_call 26
      refine (callsIn_wide.2 (drill_New _ _)).mono ?_
      rintro e w1 ⟨rfl, m1, s1, x1⟩
      )
    | (
      refine ⟨trivial, ?_⟩
      gi_at_call 54
      refine (callsIn_wide.2 (drill_events _ _ _ _)).mono ?_
      rintro e w2 ⟨rfl, m2, s2, p0, p1, p2⟩
      )
    )
  have hs1 : w.heap.size + 1 < w1.heap.size := by simpa using s1
  have hB1 : w1.heap[w.heap.size]? = some (.cells #[.slice none 0 0] 50 (0,0)) := m1.keep (heapNew (w.drewN k1) _) (by simp)
  have x1' : DiceAt 82 w1 (w.heap.size + 1) x := by simpa using x1
  have M1 : Mod [] w w1 := Mod.trans (S := []) (T := []) (((Mod.refl _ _).drewN _).alloc _) m1 (by simp)
  have M2 : Mod [] w w2 := M1.trans m2 (by simp)
  have hB2 := m2.keep hB1 (by simp)
  have x2 := x1'.keep m2 (by simp)
  clear m1 s1 x1 m2 hB1 M1
  have hJ0 : ScJ w w.heap.size (w.heap.size + 1) w1.heap.size w2.heap.size c x n 0 0 w2 :=
    ⟨x2, p0, p1, p2, ⟨none, 0, hB2, RAt.nil _ _ _, by simp [rF]⟩, M2, by omega, by omega⟩
  refine wpIn_rangeFunc_counts (gf := 63) (lb := #[.pointer (some ⟨w1.heap.size + 2, 0, none⟩), .pointer (some ⟨w1.heap.size, 0, none⟩), .pointer (some ⟨w1.heap.size + 1, 0, none⟩)]) rfl (enters_of Try.func63 (by kernel_rfl) rfl) rfl
    n (fun i => evR (nX c x i) c) (fun i j W => ScJ w w.heap.size (w.heap.size + 1) w1.heap.size w2.heap.size c x n i j W) (w.heap.size + 1) (by omega)
    (fun i j W b o h hb => h.quiet (modPut W b o) (by simpa using hb))
    (fun o1 o2 => hJ0.quiet (S := []) (((Mod.refl _ _).alloc _).alloc _) (by simp))
    ?it ?round ?done
  case it =>
    intro l J Jm W hJ hS hY h0
    have h1 := hJ 0 W h0
    refine drill_events1 l w1.heap.size (w.heap.size + 1) c x n (by omega) J Jm W (fun i W h => ⟨(hJ i W h).dice, cellAt (hJ i W h).b0 0, cellAt (hJ i W h).b1 0⟩) (fun i W W' h m hd => hS i W W' h m ((hJ i W h).event m hd)) hY h0 (cellAt h1.b2 0)
  case round =>
    intro l i W hI hi hlt
    obtain ⟨k, u, a, m, z, he⟩ := evC_form2 (nX c x i) c
    simp only [he]
    gi_wp2
    refine ⟨(Mod.refl _ _).alloc _, fun o => ?_⟩
    have hne := hI.ne
    have m1 : Mod [w2.heap.size + 1] W ((W.alloc (.cells #[.int .i64 k, .int .i64 u, .int .i64 a, .int .u64 m, .int .i64 z] 48)).putObj (w2.heap.size + 1) o) :=
      Mod.trans (T := [w2.heap.size + 1]) ((Mod.refl _ _).alloc _) (modPut _ _ _) (by simp)
    have hI2 := hI.quiet m1 (by simp)
    have hE : ((W.alloc (.cells #[.int .i64 k, .int .i64 u, .int .i64 a, .int .u64 m, .int .i64 z] 48)).putObj (w2.heap.size + 1) o).heap[W.heap.size]? = some (.cells #[.int .i64 k, .int .i64 u, .int .i64 a, .int .u64 m, .int .i64 z] 48 (0,0)) :=
      (World.putObj_heap_other (by omega)).trans (heapNew _ _)
    have hD0 : ((W.alloc (.cells #[.int .i64 k, .int .i64 u, .int .i64 a, .int .u64 m, .int .i64 z] 48)).putObj (w2.heap.size + 1) o).heap[w2.heap.size]? = (W.alloc (.cells #[.int .i64 k, .int .i64 u, .int .i64 a, .int .u64 m, .int .i64 z] 48)).heap[w2.heap.size]? :=
      World.putObj_heap_other (by omega)
    rw [← hD0]
    have hsz := m1.size
    clear hD0 m1 hI
    generalize (W.alloc (.cells #[.int .i64 k, .int .i64 u, .int .i64 a, .int .u64 m, .int .i64 z] 48)).putObj (w2.heap.size + 1) o = W2 at *
    obtain ⟨g, cap, l1, l2, l3⟩ := hI2.list
    have c0 : W2.cell? ⟨w.heap.size, 0, none⟩ = some (.slice (rA g) i cap) := cellAt l1 0
    have e0 : W2.cell? ⟨W.heap.size, 0, none⟩ = some (.int .i64 k) := cellAt hE 0
    have e1 : W2.cell? ⟨W.heap.size, 1, none⟩ = some (.int .i64 u) := cellAt hE 1
    have e2 : W2.cell? ⟨W.heap.size, 2, none⟩ = some (.int .i64 a) := cellAt hE 2
    have e3 : W2.cell? ⟨W.heap.size, 3, none⟩ = some (.int .u64 m) := cellAt hE 3
    have e4 : W2.cell? ⟨W.heap.size, 4, none⟩ = some (.int .i64 z) := cellAt hE 4
    obtain ⟨j0, hi0, hi2⟩ := Option.map_eq_some_iff.1 infoEv
    simp only [Prod.mk.injEq] at hi2
    obtain ⟨i1, i2, i3⟩ := hi2
    obtain ⟨g', cap', w3, hrun, r1, r2, r3⟩ := RAt.append (P := Try.prog) (tt := 50) (l2.keep ((Mod.refl [] W2).alloc (.cells #[.int .i64 k, .int .i64 u, .int .i64 a, .int .u64 m, .int .i64 z] 48)) (by simp)) Try.underlying50 hi0 i1 i2 i3 rfl (by omega) (by omega) (by omega) (news := [.int .i64 k, .int .i64 u, .int .i64 a, .int .u64 m, .int .i64 z]) rfl (by simp [Value.oneCell']) (heapNew _ _)
    have mA : Mod (rF g) W2 w3 := Mod.trans (S := rF g) (T := rF g) ((Mod.refl _ _).alloc _) r2 (fun k hk => .inl hk)
    have hBg : w.heap.size ∉ rF g := fun h => by have := l3 _ h; omega
    have b3 := mA.keep l1 hBg
    have c3 := cellAt b3 0
    have f3 := freeAt b3 0
    have z3 := ltOf b3
    simp only [List.getElem?_toArray, List.getElem?_cons_zero] at c3
    gi_wp2_with (gi_at_builtin; refine wpListIn_append_run rfl _ _ _ rfl rfl rfl (hrun _) ?_)
    have hv : evs c x (i + 1) = evs c x i ++ [.int .i64 k, .int .i64 u, .int .i64 a, .int .u64 m, .int .i64 z] := by rw [evs, evC, he]; rfl
    have hg' : w2.heap.size + 2 ≤ g' := by
      rcases r3 with r3 | r3
      · exact l3 _ r3
      · simp at r3; omega
    have mC : ∀ v, Mod (w.heap.size :: rF g) W2 (w3.setCell ⟨w.heap.size, 0, none⟩ v) := fun v => (mA.mono (fun k hk => .inl (List.mem_cons_of_mem _ hk))).setCell (by simp) _
    have hn : ∀ a, a ≠ w.heap.size → a < w2.heap.size + 2 → a ∉ w.heap.size :: rF g := by
      intro a h1 h2 h3
      rcases List.mem_cons.1 h3 with h3 | h3
      · exact h1 h3
      · have := l3 _ h3; omega
    have hne2 := hI2.ne
    refine ⟨(mC _).block _ (by omega) (hn _ (by omega) (by omega)), (mC _).block _ (by omega) (hn _ (by omega) (by omega)), ?_⟩
    exact ⟨(mC _).keep hI2.dice (hn _ (by omega) (by omega)), (mC _).keep hI2.b0 (hn _ (by omega) (by omega)), (mC _).keep hI2.b1 (hn _ (by omega) (by omega)), (mC _).keep hI2.b2 (hn _ (by omega) (by omega)),
      ⟨some g', cap', (heapSet b3 0 _).trans (by simp; rfl), by rw [hv]; exact r1.keep ((Mod.refl [w.heap.size] w3).setCell (by simp) _) (by simp [rF]; omega), by simp [rF]; omega⟩,
      hI2.mod.trans (mC _) (fun k hk => by
        rcases List.mem_cons.1 hk with hk | hk
        · right; omega
        · right; have := l3 _ hk; omega), Nat.le_trans hI2.size (mC _).size, hne2⟩
  case done =>
    intro W hI hK
    obtain ⟨g, cap, l1, l2, l3⟩ := hI.list
    have q0 : W.cell? ⟨w.heap.size, 0, none⟩ = some (.slice (rA g) n cap) := cellAt l1 0
    gi_wp2
    have hne := hI.ne
    refine ⟨by simp, .inl ⟨_, _, rfl, run_takeDeferred hK, ?_⟩⟩
    have mP := modPut W w2.heap.size (.deferred none)
    refine ⟨_, results_tmp2 rfl _ _ _, g, cap, rfl, hI.mod.trans mP (by simp; omega), l2.keep mP (fun k hk => by have := l3 k hk; simp; omega), fun k hk => by have := l3 k hk; omega⟩

theorem okS_cases {c n : Int} (h : ¬ okS c n) : ¬ rightC c ∨ (rightC c ∧ n < 0) ∨ (rightC c ∧ 0 ≤ n ∧ 600 < n) := by
  unfold okS at h
  by_cases hc : rightC c
  · right
    by_cases h0 : n < 0
    · exact .inl ⟨hc, h0⟩
    · right
      refine ⟨hc, by omega, ?_⟩
      by_cases h1 : n ≤ 600
      · exact absurd ⟨hc, by omega, h1⟩ h
      · omega
  · exact .inl hc
set_option maxRecDepth 100000 in
set_option maxHeartbeats 2000000 in
theorem drill_Script_no (c x n : Int) (w : World) (h : ¬ okS c n) : Calls Try.prog 32 #[.int .i64 c, .int .u64 x, .int .i64 n] w (Ret (.tuple #[.slice none 0 0, .int .i64 2]) w) := by
  rcases okS_cases h with h | ⟨h, h1⟩ | ⟨h, h1, h2⟩
  · have hc2 := decide_eq_false h
    clear h
    go_enter Try.func32, Try.ntmps32
    go_wp2_with (go_at_call 48; refine (drill_right _ _).mono ?_; rintro e w' ⟨rfl, k1, rfl⟩)
    go_ret2
    exact Ret.of (rfl) (by repeat (first | exact Drew.refl _ | apply Drew.drewN | apply Drew.drew))
  all_goals
    have hc2 := decide_eq_true h
    clear h
    go_enter Try.func32, Try.ntmps32
    go_wp2_with (go_at_call 48; refine (drill_right _ _).mono ?_; rintro e w' ⟨rfl, k1, rfl⟩)
    go_ret2
    exact Ret.of (rfl) (by repeat (first | exact Drew.refl _ | apply Drew.drewN | apply Drew.drew))
set_option maxRecDepth 100000 in
set_option maxHeartbeats 2000000 in
theorem rdrill_Script_no (c x n : Int) (w : World) (h : ¬ okS c n) : Calls Try.prog 33 #[.int .i64 c, .int .u64 x, .int .i64 n] w (Ret (.tuple #[.slice none 0 0, .int .i64 2]) w) := by
  rcases okS_cases h with h | ⟨h, h1⟩ | ⟨h, h1, h2⟩
  · have h' : c < 1 ∨ (1 ≤ c ∧ 64 < c) := by unfold rightC at h; omega
    clear h
    rcases h' with h1 | ⟨h1, h2⟩
    all_goals
      go_enter Try.func33, Try.ntmps33
      go_wp2
      go_ret2
      exact Ret.of (rfl) (by repeat (first | exact Drew.refl _ | apply Drew.drewN | apply Drew.drew))
  all_goals
    obtain ⟨h3, h4⟩ := h
    go_enter Try.func33, Try.ntmps33
    go_wp2
    go_ret2
    exact Ret.of (rfl) (by repeat (first | exact Drew.refl _ | apply Drew.drewN | apply Drew.drew))
end Go.Proofs.Ytiegnbdoidiffaa
