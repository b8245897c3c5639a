/- Two desks side by side, the program's and the document's, that a function made itself. No condition. -/
import Derived.Test.YtbelcmiljjndaaaHotTwo
import Derived.Test.YtbelcmiljjndaaaHotRefNext
import Derived.Test.YtbelcmiljjndaaaAct22
import Derived.Test.YtbelcmiljjndaaaCalm
namespace Go.Proofs.Ytbelcmiljjndaaa
set_option linter.unusedVariables false
set_option linter.unusedSimpArgs false
open Go.RowKit

/-- Two desks, the program's at s1 and the document's at s2, all of whose blocks were made since w0 and are apart; other blocks X that are known whole. -/
def Two (w0 w : World) (d rd : Nat) (s1 s2 : SH) (X : List (Nat × Obj)) : Prop :=
  ∃ q pm rq g cap, DeskAt w d q pm s1 ∧ RDeskAt w rd rq g cap s2 ∧ Mod [] w0 w ∧ (∀ k, k ∈ d :: (qF q ++ pF pm) → w0.heap.size ≤ k ∧ k ∉ rd :: (qF rq ++ lF g)) ∧ (∀ k, k ∈ rd :: (qF rq ++ lF g) → w0.heap.size ≤ k) ∧ ∀ p, p ∈ X → w.heap[p.1]? = some p.2 ∧ p.1 ∉ d :: (qF q ++ pF pm) ∧ p.1 ∉ rd :: (qF rq ++ lF g)
section
variable {w0 w : World} {d rd : Nat} {s1 s2 : SH} {X : List (Nat × Obj)}
theorem Two.drewN (h : Two w0 w d rd s1 s2 X) (k : Nat) : Two w0 (w.drewN k) d rd s1 s2 X := by
  obtain ⟨q, pm, rq, g, cap, h1, h2, h3, h4⟩ := h
  exact ⟨q, pm, rq, g, cap, h1.same rfl, h2.same rfl, h3.drewN _, h4⟩
theorem Two.drew (h : Two w0 w d rd s1 s2 X) : Two w0 w.drew d rd s1 s2 X := by
  obtain ⟨q, pm, rq, g, cap, h1, h2, h3, h4⟩ := h
  exact ⟨q, pm, rq, g, cap, h1.same rfl, h2.same rfl, h3.drew, h4⟩
theorem Two.drop (h : Two w0 w d rd s1 s2 X) : Two w0 w d rd s1 s2 [] := by
  obtain ⟨q, pm, rq, g, cap, h1, h2, h3, h4, h5, h6⟩ := h
  exact ⟨q, pm, rq, g, cap, h1, h2, h3, h4, h5, by simp⟩
theorem Two.mod (h : Two w0 w d rd s1 s2 X) : Mod [] w0 w := by
  obtain ⟨q, pm, rq, g, cap, h1, h2, h3, h4⟩ := h
  exact h3
theorem Two.held (h : Two w0 w d rd s1 s2 X) {b : Nat} {o : Obj} (hb : (b, o) ∈ X) : w.heap[b]? = some o := by
  obtain ⟨q, pm, rq, g, cap, h1, h2, h3, h4, h5, h6⟩ := h
  exact (h6 _ hb).1
theorem Two.alloc (h : Two w0 w d rd s1 s2 X) (o : Obj) : Two w0 (w.alloc o) d rd s1 s2 ((w.heap.size, o) :: X) := by
  obtain ⟨q, pm, rq, g, cap, h1, h2, h3, h4, h5, h6⟩ := h
  refine ⟨q, pm, rq, g, cap, h1.keep ((Mod.refl [] w).alloc o) (by simp), h2.keep ((Mod.refl [] w).alloc o) (by simp), h3.alloc _, h4, h5, ?_⟩
  intro p hp
  simp only [List.mem_cons] at hp
  rcases hp with rfl | hp
  · exact ⟨heapNew _ _, fun x => by have := h1.lt _ x; simp at this, fun x => by have := h2.lt _ x; simp at this⟩
  · exact ⟨heapOld (h6 p hp).1, (h6 p hp).2⟩
def TwoPost (w0 : World) (d rd : Nat) (v : Value) (s1 s2 : SH) (X : List (Nat × Obj)) (e : Ending) (w' : World) : Prop := e = .returned v ∧ Two w0 w' d rd s1 s2 X
theorem Two.callP {f : FuncId} {args : Array Value} {v : Value} {s' : SH} (h : Two w0 w d rd s1 s2 X) (hc : ∀ q pm, DeskAt w d q pm s1 → Calls Try.prog f args w (DeskDo d q pm v s' w)) : Calls Try.prog f args w (TwoPost w0 d rd v s' s2 X) := by
  obtain ⟨q, pm, rq, g, cap, h1, h2, h3, h4, h5, h6⟩ := h
  refine (hc q pm h1).mono ?_
  rintro e w' ⟨q', pm', rfl, m, y1, y2⟩
  have hmem : ∀ k, k ∈ d :: (qF q' ++ pF pm') → k ∈ d :: (qF q ++ pF pm) ∨ w.heap.size ≤ k := by
    intro k hk
    rw [List.mem_cons] at hk
    rcases hk with rfl | hk
    · exact .inl (by simp)
    · rcases y2 k hk with hk | hk
      · exact .inl (List.mem_cons.2 (.inr hk))
      · exact .inr hk
  refine ⟨rfl, q', pm', rq, g, cap, y1, h2.keep m (fun k hk hk1 => (h4 k hk1).2 hk), h3.trans m (fun k hk => .inr (h4 k hk).1), ?_, h5, ?_⟩
  · intro k hk
    rcases hmem k hk with hk | hk
    · exact h4 k hk
    · exact ⟨Nat.le_trans h3.size hk, fun hk2 => by have := h2.lt k hk2; omega⟩
  · intro p hp
    obtain ⟨p1, p2, p3⟩ := h6 p hp
    have hlt := ltOf p1
    refine ⟨m.keep p1 p2, fun hk => ?_, p3⟩
    rcases hmem _ hk with hk | hk
    · exact p2 hk
    · omega
theorem Two.callR {f : FuncId} {args : Array Value} {v : Value} {s' : SH} (h : Two w0 w d rd s1 s2 X) (hc : ∀ q g cap, RDeskAt w rd q g cap s2 → Calls Try.prog f args w (RDeskDo rd q g v s' w)) : Calls Try.prog f args w (TwoPost w0 d rd v s1 s' X) := by
  obtain ⟨q, pm, rq, g, cap, h1, h2, h3, h4, h5, h6⟩ := h
  refine (hc rq g cap h2).mono ?_
  rintro e w' ⟨q', g', cap', rfl, m, y1, y2⟩
  have hmem : ∀ k, k ∈ rd :: (qF q' ++ lF g') → k ∈ rd :: (qF rq ++ lF g) ∨ w.heap.size ≤ k := by
    intro k hk
    rw [List.mem_cons] at hk
    rcases hk with rfl | hk
    · exact .inl (by simp)
    · rcases y2 k hk with hk | hk
      · exact .inl (List.mem_cons.2 (.inr hk))
      · exact .inr hk
  refine ⟨rfl, q, pm, q', g', cap', h1.keep m (fun k hk hk1 => (h4 k hk).2 hk1), y1, h3.trans m (fun k hk => .inr (h5 k hk)), ?_, ?_, ?_⟩
  · intro k hk
    refine ⟨(h4 k hk).1, fun hk2 => ?_⟩
    rcases hmem k hk2 with hk3 | hk3
    · exact (h4 k hk).2 hk3
    · have := h1.lt k hk; omega
  · intro k hk
    rcases hmem k hk with hk | hk
    · exact h5 k hk
    · exact Nat.le_trans h3.size hk
  · intro p hp
    obtain ⟨p1, p2, p3⟩ := h6 p hp
    have hlt := ltOf p1
    refine ⟨m.keep p1 p3, p2, fun hk => ?_⟩
    rcases hmem _ hk with hk | hk
    · exact p3 hk
    · omega
end
theorem step_form (s : SH) : ∃ a b c, stepV s = .tuple #[.agg #[.int .i64 a, .bool b, .bool c], .int .i64 s.mayE] := by
  unfold stepV SH.step
  split
  · exact ⟨_, _, _, rfl⟩
  · split
    · exact ⟨_, _, _, rfl⟩
    · exact ⟨_, _, _, rfl⟩
theorem Two.new (w : World) : Two w ((w.alloc (Obj.cells #[.pointer none, .map none] 27)).alloc (Obj.cells #[.pointer none, .bool false, .int .i64 0, .int .i64 0, .bool false, .slice none 0 0] 61)) w.heap.size (w.heap.size + 1) k0 k0 [] := by
  refine ⟨none, none, none, none, 0, ⟨heapOld (heapNew _ _), rfl, rfl, by simp [qF], by simp [pF], by simp [qF], k0_ok⟩, ⟨heapNew' (by simp), rfl, ⟨rfl, rfl⟩, by simp [qF], by simp [lF], by simp [qF], k0_ok⟩, ((Mod.refl _ _).alloc _).alloc _, ?_, ?_, by simp⟩
  · simp [qF, pF, lF]
  · simp [qF, lF]
end Go.Proofs.Ytbelcmiljjndaaa
