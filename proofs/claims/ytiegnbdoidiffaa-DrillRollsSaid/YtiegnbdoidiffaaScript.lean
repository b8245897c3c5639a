/- The walk over drill.Script, which ranges over a function: the events that come of the dice, one behind the other. -/
import Derived.OwnWalkIn
import Derived.TacticsInMore
import Derived.LoopNIn
import Derived.LoopIn
import Derived.Test.YtiegnbdoidiffaaEventRef
import Derived.Test.YtiegnbdoidiffaaEventNo
import Derived.Test.YtiegnbdoidiffaaRows2
import Derived.Test.YtiegnbdoidiffaaRangeFn
namespace Go.Proofs.Ytiegnbdoidiffaa
set_option linter.unusedVariables false
set_option linter.unusedSimpArgs false
open Go.RowKit
attribute [local go_sem] Oper.semAt_some

theorem drill_Event (d : Nat) (x c : Int) (w : World) (h : DiceAt 82 w d x) : Calls Try.prog 30 #[.pointer (some ⟨d, 0, none⟩), .int .i64 c] w (Rets (evR x c) [d] w fun w' => DiceAt 82 w' d (evRN x c)) := by
  by_cases hc : rightC c
  · have h1 := drill_Event_yes d x c w h hc
    rwa [show evV x c = evR x c from (if_pos hc).symm, show evN x = evRN x c from (if_pos hc).symm] at h1
  · have h1 := drill_Event_no d x c w h hc
    have e1 : evR x c = ev0 := if_neg hc
    have e2 : evRN x c = x := if_neg hc
    rw [e1, e2]; exact h1
theorem rdrill_Event (d : Nat) (x c : Int) (w : World) (h : DiceAt 44 w d x) : Calls Try.prog 31 #[.pointer (some ⟨d, 0, none⟩), .int .i64 c] w (Rets (evR x c) [d] w fun w' => DiceAt 44 w' d (evRN x c)) := by
  by_cases hc : rightC c
  · have h1 := ref_Event_yes d x c w h hc
    rwa [show evV x c = evR x c from (if_pos hc).symm, show evN x = evRN x c from (if_pos hc).symm] at h1
  · have h1 := ref_Event_no d x c w h hc
    have e1 : evR x c = ev0 := if_neg hc
    have e2 : evRN x c = x := if_neg hc
    rw [e1, e2]; exact h1

/-- The dice's number behind i events; the cells of an event, of n events. -/
def nX (c x : Int) : Nat → Int
  | 0 => x
  | i + 1 => evRN (nX c x i) c
def evC (y c : Int) : List Value := (evR y c).cells.toList
def evs (c x : Int) : Nat → List Value
  | 0 => []
  | i + 1 => evs c x i ++ evC (nX c x i) c
theorem evC_len (y c : Int) : (evC y c).length = 5 := by
  unfold evC evR
  split <;> rfl
theorem evs_len (c x : Int) : ∀ n, (evs c x n).length = n * 5
  | 0 => rfl
  | n + 1 => by rw [evs, List.length_append, evs_len c x n, evC_len]; omega
theorem evs_take (c x : Int) {n : Nat} : ∀ {m : Nat}, n ≤ m → (evs c x m).take (n * 5) = evs c x n
  | 0, h => by
    have : n = 0 := by omega
    subst this; rfl
  | m + 1, h => by
    by_cases e : n = m + 1
    · subst e; rw [← evs_len c x (m + 1), List.take_length]
    · rw [evs, List.take_append_of_le_length (by rw [evs_len]; omega)]
      exact evs_take c x (by omega)
theorem evs_get (c x : Int) {i j : Nat} (hj : j < 5) : ∀ {n : Nat}, i < n → (evs c x n)[i * 5 + j]? = (evC (nX c x i) c)[j]?
  | n + 1, h => by
    by_cases e : i = n
    · subst e
      rw [evs, List.getElem?_append_right (by rw [evs_len]; omega), evs_len]
      congr 1; omega
    · rw [evs, List.getElem?_append_left (by rw [evs_len]; omega)]
      exact evs_get c x hj (by omega)

theorem drill_events (d : Nat) (c n : Int) (w : World) : Calls Try.prog 54 #[.pointer (some ⟨d, 0, none⟩), .int .i64 c, .int .i64 n] w
    (Rets (.func (.func 63) #[] #[.pointer (some ⟨w.heap.size + 2, 0, none⟩), .pointer (some ⟨w.heap.size, 0, none⟩), .pointer (some ⟨w.heap.size + 1, 0, none⟩)]) [] w fun w' => w.heap.size + 3 ≤ w'.heap.size ∧
      w'.heap[w.heap.size]? = some (.cells #[.pointer (some ⟨d, 0, none⟩)] 40 (0,0)) ∧ w'.heap[w.heap.size + 1]? = some (.cells #[.int .i64 c] 3 (0,0)) ∧ w'.heap[w.heap.size + 2]? = some (.cells #[.int .i64 n] 3 (0,0))) := by
  go_enter Try.func54, Try.ntmps54
  go_wp2
  go_ret
  refine Rets.of rfl (((Mod.refl _ _).alloc _).alloc _ |>.alloc _) ⟨by simp, heapOld (heapOld (heapNew _ _)), heapOld (heapNewAt _ (by simp)), heapNewAt _ (by simp)⟩

/-- What holds in the range's loop, i events being in the list, the dice having told j. -/
structure ScJ (w : World) (B d s D : Nat) (c x : Int) (n : Nat) (i j : Nat) (W : World) : Prop where
  dice : DiceAt 82 W d (nX c x j)
  b0 : W.heap[s]? = some (.cells #[.pointer (some ⟨d, 0, none⟩)] 40 (0,0))
  b1 : W.heap[s + 1]? = some (.cells #[.int .i64 c] 3 (0,0))
  b2 : W.heap[s + 2]? = some (.cells #[.int .i64 n] 3 (0,0))
  list : ∃ g cap, W.heap[B]? = some (.cells #[.slice (rA g) i cap] 50 (0,0)) ∧ RAt 48 5 W g cap i (evs c x i) ∧ ∀ k, k ∈ rF g → D + 2 ≤ k
  mod : Mod [] w W
  size : D ≤ W.heap.size
  ne : w.heap.size ≤ B ∧ B < d ∧ d < s ∧ s + 2 < D
theorem ScJ.keep {w : World} {B d s D : Nat} {c x : Int} {n : Nat} {i j k : Nat} {S : List Nat} {W W' : World} (h : ScJ w B d s D c x n i j W) (m : Mod S W W') (hS : ∀ a, a ∈ S → a = d ∨ a = D ∨ a = D + 1) (hd : DiceAt 82 W' d (nX c x k)) : ScJ w B d s D c x n i k W' := by
  have hne := h.ne
  have hsz := h.size
  obtain ⟨g, cap, l1, l2, l3⟩ := h.list
  have hn : ∀ a, a ≠ d → a ≠ D → a ≠ D + 1 → a ∉ S := fun a h1 h2 h3 h4 => by rcases hS a h4 with h | h | h <;> omega
  exact ⟨hd, m.keep h.b0 (hn _ (by omega) (by omega) (by omega)), m.keep h.b1 (hn _ (by omega) (by omega) (by omega)), m.keep h.b2 (hn _ (by omega) (by omega) (by omega)), ⟨g, cap, m.keep l1 (hn _ (by omega) (by omega) (by omega)), l2.keep m (fun k hk => by have := l3 k hk; exact hn _ (by omega) (by omega) (by omega)), l3⟩,
    h.mod.trans m (fun a ha => by right; rcases hS a ha with h | h | h <;> omega), Nat.le_trans hsz m.size, hne⟩
theorem ScJ.event {w : World} {B d s D : Nat} {c x : Int} {n : Nat} {i j k : Nat} {W W' : World} (h : ScJ w B d s D c x n i j W) (m : Mod [d] W W') (hd : DiceAt 82 W' d (nX c x k)) : ScJ w B d s D c x n i k W' :=
  h.keep m (by simp) hd
theorem ScJ.quiet {w : World} {B d s D : Nat} {c x : Int} {n : Nat} {i j : Nat} {S : List Nat} {W W' : World} (h : ScJ w B d s D c x n i j W) (m : Mod S W W') (hS : ∀ a, a ∈ S → a = D ∨ a = D + 1) : ScJ w B d s D c x n i j W' := by
  have hne := h.ne
  exact h.keep m (fun a ha => .inr (hS a ha)) (m.keep h.dice (fun hd => by rcases hS d hd with h | h <;> omega))
theorem modPut (W : World) (b : Nat) (o : Obj) : Mod [b] W (W.putObj b o) :=
  ⟨rfl, rfl, rfl, by simp, fun k hk hS => World.putObj_heap_other (by simpa using hS)⟩

set_option maxRecDepth 100000 in
set_option maxHeartbeats 1000000 in
/-- The iterator: for every loop whose rounds carry J on and hand back true. -/
theorem drill_events1 (l s d : Nat) (c x : Int) (n : Nat) (hn : n ≤ 1000000) (J Jm : Nat → World → Prop) (W : World)
    (hC : ∀ i W, J i W → DiceAt 82 W d (nX c x i) ∧ W.cell? ⟨s, 0, none⟩ = some (.pointer (some ⟨d, 0, none⟩)) ∧ W.cell? ⟨s + 1, 0, none⟩ = some (.int .i64 c))
    (hS : ∀ i W W', J i W → Mod [d] W W' → DiceAt 82 W' d (nX c x (i + 1)) → Jm i W')
    (hY : ∀ i W, i < n → Jm i W → YieldAt Fence.wide 1 Try.prog l #[evR (nX c x i) c] W fun e W' => e = .returned (.bool true) ∧ J (i + 1) W')
    (h0 : J 0 W) (h2 : W.cell? ⟨s + 2, 0, none⟩ = some (.int .i64 n)) :
    CallsIn Fence.wide 2 Try.prog 63 #[.func (.yield l) #[] #[], .pointer (some ⟨s + 2, 0, none⟩), .pointer (some ⟨s, 0, none⟩), .pointer (some ⟨s + 1, 0, none⟩)] W fun e W' => (∃ v, e = .returned v) ∧ J n W' := by
  refine callsIn_of_wp Try.func63 rfl trivial ?_ rfl
  simp only [Try.ntmps63, List.size_toArray, List.length_cons, List.length_nil, Nat.reduceAdd, Nat.reduceSub, Array.replicate_succ, Array.replicate_zero, List.push_toArray, List.append_toArray, List.nil_append, List.cons_append]
  gi_wp2
  gi_loopw [6] (fun p wr => ∃ i : Nat, p = .int .i64 i ∧ i ≤ n ∧ J i wr) (fun p _ => n - (intOf p).toNat)
  case atStart => exact ⟨0, rfl, by omega, h0⟩
  case round =>
    obtain ⟨i, rfl, hi, hJ⟩ := hrel
    obtain ⟨hd, c0, c1⟩ := hC i wr hJ
    by_cases hlt : i < n
    · have hlt2 : (i : Int) < n := by omega
      gi_wp2_with (refine ⟨trivial, ?_⟩; gi_at_call 30; refine (callsIn_wide.2 (drill_Event d _ c wr (by exact hd))).mono ?_; rintro e w2 ⟨rfl, m2, x2⟩; obtain ⟨fn, tmps, assign, body, hy, hR⟩ := hY i w2 hlt (hS i wr w2 hJ m2 x2))
      refine hR.mono ?_
      rintro e W3 ⟨rfl, hJ3⟩
      gi_wp2
      go_roundw
      case rel => exact ⟨i + 1, by simp, by omega, hJ3⟩
      case measure => simp [intOf]; omega
    · have hlt2 : ¬ (i : Int) < n := by omega
      obtain rfl : i = n := by omega
      gi_wp2
      go_end0
      exact ⟨⟨_, rfl⟩, hJ⟩
end Go.Proofs.Ytiegnbdoidiffaa
