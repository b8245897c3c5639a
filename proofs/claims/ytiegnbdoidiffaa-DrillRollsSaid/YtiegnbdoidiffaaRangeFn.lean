/- A law of my own for a range over a function whose rounds all go on and whose iterator writes one block d of memory: the invariant I i j: i rounds are over, the iterator has made j elements. -/
import Derived.RangeFuncRecord
import Derived.RangeFuncSeq
import Derived.OwnWalkIn
import Derived.Shelf.Abstract
import Derived.Test.YtiegnbdoidiffaaKit
namespace Go.Proofs.Ytiegnbdoidiffaa
set_option linter.unusedVariables false
set_option linter.unusedSimpArgs false
open Go.RowKit

theorem wpIn_rangeFunc_counts {P : Program} {g : Operand} {ps : Array Tmp} {assign body : Code} {Q : Exit → Act → World → Prop} {a : Act} {w : World}
    {gf : Nat} {lb : Array Value} (hg : a.eval g = .func (.func gf) #[] lb) (eg : ∀ args w, (callFunc gf args).run P w = .ok (.enter gf args) w) (hps : ps.size = 1)
    (N : Nat) (enc : Nat → Value) (I : Nat → Nat → World → Prop) (d : Nat) (hd : d < w.heap.size)
    (hput : ∀ i j W b o, I i j W → (b = w.heap.size ∨ b = w.heap.size + 1) → I i j (W.putObj b o))
    (hI0 : ∀ o1 o2, I 0 0 ((w.alloc o1).alloc o2))
    (hit : ∀ (l : Nat) (J Jm : Nat → World → Prop) (W : World), (∀ i W, J i W → I i i W) → (∀ i W W', J i W → Mod [d] W W' → I i (i + 1) W' → Jm i W') →
      (∀ i W, i < N → Jm i W → YieldAt Fence.wide 1 P l #[enc i] W fun e W' => e = .returned (.bool true) ∧ J (i + 1) W') → J 0 W →
      CallsIn Fence.wide 2 P gf (#[.func (.yield l) #[] #[]] ++ lb) W fun e W' => (∃ v, e = .returned v) ∧ J N W')
    (hround : ∀ l i W, I i (i + 1) W → i < N → w.heap.size + 1 < W.heap.size →
      assign.wpIn (Fence.wide.inRound l) 1 P (Exit.then (fun a₁ W₁ => Mod [] W W₁ ∧ ∀ o, body.wpIn (Fence.wide.inRound l) 1 P
        (fun e _ W3 => e = Exit.normal ∧ W3.heap[w.heap.size]? = W₁.heap[w.heap.size]? ∧ W3.heap[w.heap.size + 1]? = (W₁.putObj (w.heap.size + 1) o).heap[w.heap.size + 1]? ∧ I (i + 1) (i + 1) W3) a₁ (W₁.putObj (w.heap.size + 1) o)) (fun _ _ _ => False))
        { tmps := (ps.zip #[enc i]).foldl (fun t (p, v) => t.setIfInBounds p v) a.tmps, defers := [] } W)
    (hdone : ∀ W, I N N W → W.heap[w.heap.size]? = some (.deferred (some [])) → Q .normal { a with defers := { target := .collected w.heap.size, args := #[] } :: a.defers } W) :
    (Code.rangeFunc g ps assign body).wpIn Fence.wide 3 P Q a w := by
  refine wpIn_rangeFunc ?_
  intro fn hfn
  obtain ⟨rec, hrec⟩ : ∃ rec : LoopState → Option Code → Loop, rec = fun st pe => { state := st, pending := pe, fn, tmps := a.tmps, params := ps, assign, body, defers := w.heap.size } := ⟨_, rfl⟩
  obtain ⟨W1, hW1⟩ : ∃ W1, (w.alloc (.deferred (some []))).alloc (.loop (rec .ready none)) = W1 := ⟨_, rfl⟩
  have hL1 : W1.heap[w.heap.size + 1]? = some (.loop (rec .ready none)) := by
    rw [← hW1]; have := World.alloc_heap_new (w.alloc (.deferred (some []))) (.loop (rec .ready none)); rwa [World.size_alloc] at this
  have hK1 : W1.heap[w.heap.size]? = some (.deferred (some [])) := by
    rw [← hW1]; exact (Below.heap_alloc _ _ _ (by simp)).trans (World.alloc_heap_new w _)
  have hI1 : I 0 0 W1 := by rw [← hW1]; exact hI0 _ _
  refine ⟨w.heap.size + 1, [{ target := .collected w.heap.size, args := #[] }], W1, { target := .fn (.func gf) lb, args := #[.func (.yield (w.heap.size + 1)) #[] #[]] }, W1, gf,
    #[.func (.yield (w.heap.size + 1)) #[] #[]] ++ lb, W1, ?_, ?_, ?_, ?_, fun _ => by omega, ?_⟩
  · rw [← hW1, hrec]; exact run_enterLoop_outer _ _ _ _ _
  · simp only [resolve, hg]
    simp [go_sem]
  · intro f' hf'; trivial
  · simp [invoke, go_sem, eg]
  · refine (hit (w.heap.size + 1)
      (fun i W => I i i W ∧ W.heap[w.heap.size + 1]? = some (.loop (rec .ready none)) ∧ W.heap[w.heap.size]? = some (.deferred (some [])))
      (fun i W => I i (i + 1) W ∧ W.heap[w.heap.size + 1]? = some (.loop (rec .ready none)) ∧ W.heap[w.heap.size]? = some (.deferred (some [])))
      W1 (fun i W h => h.1) (fun i W W' h m h' => ⟨h', m.keep h.2.1 (by simp; omega), m.keep h.2.2 (by simp; omega)⟩) ?_ ⟨hI1, hL1, hK1⟩).mono ?_
    · rintro i W hlen ⟨hi, hl, hk⟩
      have hlt : w.heap.size + 1 < W.heap.size := (Array.getElem?_eq_some_iff.1 hl).1
      have hy := run_yield (P := P) (args := #[enc i]) hl (by rw [hrec]; exact hps.symm)
      rw [hrec] at hy
      refine ⟨fn, _, assign, body, hy, roundIn_of_wpIn (trivial : Fence.wide.fn fn) (wpIn_mono (hround (w.heap.size + 1) i W hi hlen hlt) ?_)⟩
      intro e a₁ W₁ h1
      cases e with
      | normal =>
        obtain ⟨m, hb⟩ := h1
        have hl1 := m.keep hl (by simp)
        have hk1 := m.keep hk (by simp)
        refine ⟨_, run_beginRound hl1 (by rw [hrec]), wpIn_mono (hb _) ?_⟩
        rintro e2 a2 W3 ⟨rfl, k0, k1, hI3⟩
        have hl3 : W3.heap[w.heap.size + 1]? = some (.loop { rec .ready none with state := .busy }) := k1.trans (World.putObj_heap_same (ltOf hl1))
        refine ⟨_, _, run_endRound none hl3, rfl, hput _ _ _ _ _ hI3 (.inr rfl), ?_, (World.putObj_heap_other (by omega)).trans (k0.trans hk1)⟩
        rw [World.putObj_heap_same (ltOf hl3), hrec]
        rfl
      | ret => exact h1.elim
      | exit id => exact h1.elim
      | goto t => exact h1.elim
      | panic ch => exact h1.elim
      | outgrown => exact h1.elim
    · rintro e W2 ⟨⟨v, rfl⟩, hi, hl, hk⟩
      have he := run_endLoop (P := P) hl (by rw [hrec]; simp)
      rw [hrec] at he
      exact ⟨none, _, he, hdone _ (hput _ _ _ _ _ hi (.inr rfl)) ((World.putObj_heap_other (by omega)).trans hk)⟩
/-- .. append onto a slice of structs, in such a walk. -/
theorem wpListIn_append_run {F : Fence} {n : Nat} {P : Program} {w w' : World} {ops : Array Oper} {rest : List Oper} {o : Oper} {a : Act} {Q : Exit → Act → World → Prop}
    (hgd : o.guard = none) (s x : Operand) (t : TypeId) (ho : o.op = .call { callee := .builtin .append, args := #[s, x], argTypes := #[t, t] }) {v u r : Value} (hs : a.eval s = v) (hx : a.eval x = u)
    (hr : (Builtin.append_ #[t, t] o.type #[v, u]).run P w = .ok r w') (h : wpListIn F n P ops Q rest (a.put o.dst r) w') : wpListIn F n P ops Q (o :: rest) a w := by
  refine wpListIn_plain hgd fun K hK => ?_
  unfold Oper.wpIn
  refine ⟨by simp [Oper.about, ho, resolve, Target.leads, Sem.run_pure], ?_⟩
  rw [Oper.semAt_plain F _ _ (by rw [ho]; intro c hc'; cases hc')]
  simp [execOp, ho, resolve, invoke, builtin, hs, hx, hr, Result.andThen]
  exact hK _ _ h
end Go.Proofs.Ytiegnbdoidiffaa
