/- A desk, and two desks, that a function made itself and hands on; a desk that is not there; the fixed calls of 'known' of layer 22; the law HotNil's walk. -/
import Derived.Test.YtbelcmiljjndaaaHotNext
namespace Go.Proofs.Ytbelcmiljjndaaa
set_option linter.unusedVariables false
set_option linter.unusedSimpArgs false
open Go.RowKit

/-- A desk all of whose blocks were made since w0; other blocks X that are known whole. -/
def DeskIn (w0 w : World) (d : Nat) (s : SH) (X : List (Nat × Obj)) : Prop :=
  ∃ q pm, DeskAt w d q pm s ∧ Mod [] w0 w ∧ (∀ k, k ∈ d :: (qF q ++ pF pm) → w0.heap.size ≤ k) ∧ ∀ p, p ∈ X → w.heap[p.1]? = some p.2 ∧ p.1 ∉ d :: (qF q ++ pF pm)
theorem DeskIn.drewN {w0 w : World} {d : Nat} {s : SH} {X : List (Nat × Obj)} (h : DeskIn w0 w d s X) (k : Nat) : DeskIn w0 (w.drewN k) d s X := by
  obtain ⟨q, pm, h1, h2, h3, h4⟩ := h
  exact ⟨q, pm, h1.same rfl, h2.drewN _, h3, h4⟩
theorem DeskIn.alloc {w0 w : World} {d : Nat} {s : SH} {X : List (Nat × Obj)} (h : DeskIn w0 w d s X) (o : Obj) : DeskIn w0 (w.alloc o) d s ((w.heap.size, o) :: X) := by
  obtain ⟨q, pm, h1, h2, h3, h4⟩ := h
  refine ⟨q, pm, h1.keep ((Mod.refl [] w).alloc o) (by simp), h2.alloc _, h3, ?_⟩
  intro p hp
  simp only [List.mem_cons] at hp
  rcases hp with rfl | hp
  · exact ⟨heapNew _ _, fun x => by have := h1.lt _ x; simp at this⟩
  · exact ⟨heapOld (h4 p hp).1, (h4 p hp).2⟩
theorem DeskIn.mod {w0 w : World} {d : Nat} {s : SH} {X : List (Nat × Obj)} (h : DeskIn w0 w d s X) : Mod [] w0 w := by
  obtain ⟨q, pm, h1, h2, h3⟩ := h
  exact h2
theorem DeskIn.ok {w0 w : World} {d : Nat} {s : SH} {X : List (Nat × Obj)} (h : DeskIn w0 w d s X) : s.ok := by
  obtain ⟨q, pm, h1, h2, h3⟩ := h
  exact h1.ok
theorem DeskIn.held {w0 w : World} {d : Nat} {s : SH} {X : List (Nat × Obj)} (h : DeskIn w0 w d s X) {b : Nat} {o : Obj} (hb : (b, o) ∈ X) : w.heap[b]? = some o := by
  obtain ⟨q, pm, h1, h2, h3, h4⟩ := h
  exact (h4 _ hb).1
def InPost (w0 : World) (d : Nat) (v : Value) (s' : SH) (X : List (Nat × Obj)) (e : Ending) (w' : World) : Prop := e = .returned v ∧ DeskIn w0 w' d s' X
theorem DeskIn.call {f : FuncId} {args : Array Value} {d : Nat} {v : Value} {s s' : SH} {X : List (Nat × Obj)} {w0 w : World} (h : DeskIn w0 w d s X) (hc : ∀ q pm, DeskAt w d q pm s → Calls Try.prog f args w (DeskDo d q pm v s' w)) : Calls Try.prog f args w (InPost w0 d v s' X) := by
  obtain ⟨q, pm, h1, h2, h3, hX⟩ := h
  refine (hc q pm h1).mono ?_
  rintro e w' ⟨q', pm', rfl, m, h4, h5⟩
  refine ⟨rfl, q', pm', h4, h2.trans m (fun k hk => .inr (h3 k hk)), ?_, ?_⟩
  · intro k hk
    simp only [List.mem_cons] at hk
    rcases hk with rfl | hk
    · exact h3 _ (by simp)
    · rcases h5 k hk with h5 | h5
      · exact h3 k (by simp only [List.mem_cons]; exact .inr h5)
      · exact Nat.le_trans h2.size h5
  · intro p hp
    obtain ⟨hp1, hp2⟩ := hX p hp
    refine ⟨m.keep hp1 hp2, ?_⟩
    have hlt := ltOf hp1
    intro hk
    simp only [List.mem_cons] at hk
    rcases hk with hk | hk
    · exact hp2 (by simp [hk])
    · rcases h5 _ hk with h5 | h5
      · exact hp2 (by simp only [List.mem_cons]; exact .inr h5)
      · omega
theorem DeskIn.read {f : FuncId} {args : Array Value} {d : Nat} {v : Value} {s : SH} {X : List (Nat × Obj)} {w0 w : World} (h : DeskIn w0 w d s X) (hc : ∀ q pm, DeskAt w d q pm s → Calls Try.prog f args w (Ret v w)) : Calls Try.prog f args w (Ret v w) := by
  obtain ⟨q, pm, h1, h2, h3, hX⟩ := h
  exact hc q pm h1

def k0 : SH := ⟨none, false, 0, 0, false, []⟩
theorem k0_ok : k0.ok := ⟨by simp [k0], by simp [k0], by simp [k0], by simp [k0]⟩
theorem DeskIn.new (w : World) : DeskIn w (w.alloc (Obj.cells #[.pointer none, .map none] 27)) w.heap.size k0 [] :=
  ⟨none, none, ⟨heapNew _ _, rfl, rfl, by simp [qF], by simp [pF], by simp [qF], k0_ok⟩, (Mod.refl _ _).alloc _, by simp [qF, pF], by simp⟩

theorem hot_Busy_nil (w : World) : Calls Try.prog 36 #[.pointer none] w (Ret (.bool false) w) := by
  go_enter Try.func36, Try.ntmps36
  go_wp2
  go_ret
  exact Ret.of (rfl) (by repeat (first | exact Drew.refl _ | apply Drew.drewN | apply Drew.drew))
theorem hot_may_nil (w : World) : Calls Try.prog 65 #[.pointer none] w (Ret (.int .i64 1) w) := by
  go_enter Try.func65, Try.ntmps65
  go_wp2
  go_ret
  exact Ret.of (rfl) (by repeat (first | exact Drew.refl _ | apply Drew.drewN | apply Drew.drew))
theorem hot_Up_nil (w : World) : Calls Try.prog 37 #[.pointer none] w (Ret (.bool false) w) := by
  go_enter Try.func37, Try.ntmps37
  go_wp2_with (go_at_call 36; refine (hot_Busy_nil _).mono ?_; rintro e w' ⟨rfl, k, rfl⟩)
  go_ret
  exact Ret.of (rfl) (by repeat (first | exact Drew.refl _ | apply Drew.drewN | apply Drew.drew))
theorem hot_Cpu_nil (w : World) : Calls Try.prog 38 #[.pointer none] w (Ret (.int .i64 0) w) := by
  go_enter Try.func38, Try.ntmps38
  go_wp2_with (go_at_call 36; refine (hot_Busy_nil _).mono ?_; rintro e w' ⟨rfl, k, rfl⟩)
  go_ret
  exact Ret.of (rfl) (by repeat (first | exact Drew.refl _ | apply Drew.drewN | apply Drew.drew))
theorem hot_By_nil (w : World) : Calls Try.prog 39 #[.pointer none] w (Ret (.int .i64 0) w) := by
  go_enter Try.func39, Try.ntmps39
  go_wp2_with (go_at_call 36; refine (hot_Busy_nil _).mono ?_; rintro e w' ⟨rfl, k, rfl⟩)
  go_ret
  exact Ret.of (rfl) (by repeat (first | exact Drew.refl _ | apply Drew.drewN | apply Drew.drew))
theorem hot_Over_nil (w : World) : Calls Try.prog 40 #[.pointer none] w (Ret (.bool false) w) := by
  go_enter Try.func40, Try.ntmps40
  go_wp2_with (go_at_call 36; refine (hot_Busy_nil _).mono ?_; rintro e w' ⟨rfl, k, rfl⟩)
  go_ret
  exact Ret.of (rfl) (by repeat (first | exact Drew.refl _ | apply Drew.drewN | apply Drew.drew))
theorem hot_Done_nil (w : World) : Calls Try.prog 15 #[.pointer none] w (Ret (.int .i64 1) w) := by
  go_enter Try.func15, Try.ntmps15
  go_wp2_with (go_at_call 65; refine (hot_may_nil _).mono ?_; rintro e w' ⟨rfl, k, rfl⟩)
  go_ret
  exact Ret.of (rfl) (by repeat (first | exact Drew.refl _ | apply Drew.drewN | apply Drew.drew))
theorem hot_End_nil (w : World) : Calls Try.prog 16 #[.pointer none] w (Ret (.tuple #[.int .i64 0, .int .i64 1]) w) := by
  go_enter Try.func16, Try.ntmps16
  go_wp2
  go_ret2
  exact Ret.of (rfl) (by repeat (first | exact Drew.refl _ | apply Drew.drewN | apply Drew.drew))
theorem hot_Plan_nil (k : Int) (w : World) : Calls Try.prog 12 #[.pointer none, .int .i64 k] w (Ret (.int .i64 1) w) := by
  go_enter Try.func12, Try.ntmps12
  go_wp2
  go_ret
  exact Ret.of (rfl) (by repeat (first | exact Drew.refl _ | apply Drew.drewN | apply Drew.drew))
theorem hot_Begin_nil (up : Bool) (c b : Int) (w : World) : Calls Try.prog 13 #[.pointer none, .bool up, .int .i64 c, .int .i64 b] w (Ret (.int .i64 1) w) := by
  go_enter Try.func13, Try.ntmps13
  go_wp2
  go_ret
  exact Ret.of (rfl) (by repeat (first | exact Drew.refl _ | apply Drew.drewN | apply Drew.drew))
theorem hot_Next_nil (w : World) : Calls Try.prog 14 #[.pointer none] w (Rets (.tuple #[.agg #[.int .i64 0, .bool false, .bool false], .int .i64 1]) [] w fun _ => True) := by
  go_enter Try.func14, Try.ntmps14
  go_wp2_with (go_at_call 65; refine (hot_may_nil _).mono ?_; rintro e w' ⟨rfl, k, rfl⟩)
  refine bodyPost_ret_by (v := .tuple #[.agg #[.int .i64 0, .bool false, .bool false], .int .i64 1]) ?_ rfl ?_
  · rw [results_cell_tmp rfl]; go_simp
  · refine Rets.of rfl ?_ trivial
    repeat (first | exact Mod.refl _ _ | apply Mod.alloc | apply Mod.drewN | refine Mod.setCell ?_ (by simp) _)

def k1 : SH := ⟨none, false, 0, 0, false, [1]⟩
def k2 : SH := ⟨some ⟨4, 0, false⟩, true, 3, 0, false, [1]⟩
def k3 : SH := ⟨some ⟨4, 0, false⟩, true, 3, 0, true, [1]⟩
def k4 : SH := ⟨some ⟨4, 1, false⟩, true, 3, 0, false, [1]⟩
def k5 : SH := ⟨some ⟨4, 1, true⟩, true, 3, 0, true, []⟩
def k6 : SH := ⟨some ⟨4, 1, true⟩, true, 3, 0, true, []⟩
def k7 : SH := ⟨some ⟨4, 0, true⟩, true, 3, 0, false, []⟩
def k8 : SH := ⟨none, false, 0, 0, false, []⟩
def stV (a : Int) (b c : Bool) : Value := .tuple #[.agg #[.int .i64 a, .bool b, .bool c], .int .i64 0]

def stO (a : Int) (b c : Bool) : Obj := Obj.cells #[.int .i64 a, .bool b, .bool c] 32
set_option maxRecDepth 100000 in
set_option maxHeartbeats 800000 in
theorem known22 (w : World) : Calls Try.prog 17 #[] w (Rets (.bool true) [] w fun _ => True) := by
  have x0 := DeskIn.new w
  go_enter Try.func17, Try.ntmps17
  go_wp2_with (go_at_call 12; refine (show Calls _ _ _ _ (InPost w w.heap.size (.int .i64 0) k1 []) from x0.call fun _ _ h => hot_Plan _ _ _ k0 1 _ h).mono ?_; rintro e w1 ⟨rfl, x1⟩; clear x0)
  refine (show Calls _ _ _ _ (InPost w w.heap.size (.int .i64 0) k2 []) from x1.call fun _ _ h => hot_Begin _ _ _ k1 true 3 0 _ h).mono ?_
  rintro e w2 ⟨rfl, x2⟩
  clear x1
  go_wp2_with (go_at_call 14; refine (show Calls _ _ _ _ (InPost w w.heap.size (stV 0 false false) k3 []) from x2.call fun _ _ h => hot_Next _ _ _ k2 _ h).mono ?_; rintro e w3 ⟨rfl, x3⟩; clear x2; have y3 := x3.alloc (stO 0 false false); clear x3; unfold stO at y3; unfold stV)
  refine (show Calls _ _ _ _ (InPost w w.heap.size (.int .i64 0) k4 _) from y3.call fun _ _ h => hot_Done _ _ _ k3 _ h).mono ?_
  rintro e w4 ⟨rfl, x4⟩
  clear y3
  go_wp2_with (first | (go_at_call 14; refine (show Calls _ _ _ _ (InPost w w.heap.size (stV 1 false true) k5 _) from x4.call fun _ _ h => hot_Next _ _ _ k4 _ h).mono ?_; rintro e w5 ⟨rfl, x5⟩; clear x4; have y5 := x5.alloc (stO 1 false true); clear x5; unfold stO at y5; unfold stV) | (go_at_call 14; refine (show Calls _ _ _ _ (InPost w w.heap.size (stV 0 true false) k6 _) from y5.call fun _ _ h => hot_Next _ _ _ k5 _ h).mono ?_; rintro e w6 ⟨rfl, x6⟩; clear y5; have y6 := x6.alloc (stO 0 true false); clear x6; unfold stO at y6; unfold stV))
  go_wp2_with (go_at_call 15; refine (show Calls _ _ _ _ (InPost w w.heap.size (.int .i64 0) k7 _) from y6.call fun _ _ h => hot_Done _ _ _ k6 _ h).mono ?_; rintro e w7 ⟨rfl, x7⟩; clear y6)
  go_wp2_with (go_at_call 16; refine (show Calls _ _ _ _ (InPost w w.heap.size (.tuple #[.int .i64 11, .int .i64 0]) k8 _) from x7.call fun _ _ h => hot_End _ _ _ k7 _ h).mono ?_; rintro e w8 ⟨rfl, x8⟩; clear x7; have z1 := x8.held (b := w3.heap.size) (o := stO 0 false false) (by simp [stO]); have z2 := x8.held (b := w5.heap.size) (o := stO 1 false true) (by simp [stO]); have z3 := x8.held (b := w6.heap.size) (o := stO 0 true false) (by simp [stO]); have a0 := cellAt z1 0; have a1 := cellAt z1 1; have a2 := cellAt z1 2; have b0 := cellAt z2 0; have b1 := cellAt z2 1; have b2 := cellAt z2 2; have c0 := cellAt z3 0; have c1 := cellAt z3 1; have c2 := cellAt z3 2; simp only [List.getElem?_toArray, List.getElem?_cons_zero, List.getElem?_cons_succ] at a0 a1 a2 b0 b1 b2 c0 c1 c2)
  go_wp2_with (go_at_call 36; refine (show Calls _ _ _ _ (Ret (.bool false) _) from x8.read fun _ _ h => hot_Busy _ _ _ k8 _ h).mono ?_; rintro e w9 ⟨rfl, kk, rfl⟩)
  go_ret
  exact Rets.of rfl (x8.mod.drewN _) trivial

set_option maxRecDepth 100000 in
set_option maxHeartbeats 800000 in
theorem HotNil_walk (w : World) (k : Int) (hk : (Lit.int .i64 k).wf = true) (up : Bool) : Calls Try.prog 8 #[.int .i64 k, .bool up] w (Rets (.bool true) [] w fun _ => True) := by
  go_enter Try.func8, Try.ntmps8
  go_wp2_with (first | (go_at_call 14; refine (hot_Next_nil _).mono ?_; rintro e w1 ⟨rfl, m1, _⟩) | (go_at_call 16; refine (hot_End_nil _).mono ?_; rintro e w' ⟨rfl, j1, rfl⟩) | (go_at_call 12; refine (hot_Plan_nil _ _).mono ?_; rintro e w' ⟨rfl, j2, rfl⟩) | (go_at_call 13; refine (hot_Begin_nil _ _ _ _).mono ?_; rintro e w' ⟨rfl, j3, rfl⟩) | (go_at_call 36; refine (hot_Busy_nil _).mono ?_; rintro e w' ⟨rfl, j4, rfl⟩) | (go_at_call 37; refine (hot_Up_nil _).mono ?_; rintro e w' ⟨rfl, j5, rfl⟩) | (go_at_call 38; refine (hot_Cpu_nil _).mono ?_; rintro e w' ⟨rfl, j6, rfl⟩) | (go_at_call 39; refine (hot_By_nil _).mono ?_; rintro e w' ⟨rfl, j7, rfl⟩) | (go_at_call 15; refine (hot_Done_nil _).mono ?_; rintro e w' ⟨rfl, j8, rfl⟩) | (go_at_call 40; refine (hot_Over_nil _).mono ?_; rintro e w' ⟨rfl, j9, rfl⟩) | (go_at_call 17; refine (known22 _).mono ?_; rintro e w2 ⟨rfl, m2, _⟩))
  go_ret
  refine Rets.of rfl (Mod.trans (S := []) ?_ m2 (by simp)) trivial
  exact (m1.alloc _).drewN _
end Go.Proofs.Ytbelcmiljjndaaa
