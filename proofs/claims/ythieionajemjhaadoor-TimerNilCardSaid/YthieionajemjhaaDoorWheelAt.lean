/- A wheel of package wheel in memory: where its lists and its map lie, and what a store does to it. -/
import Derived.Test.YthieionajemjhaaDoorWheel
namespace Go.Proofs.YthieionajemjhaaDoor
set_option linter.unusedVariables false
set_option linter.unusedSimpArgs false
open Go.RowKit

/-- What a wheel holds: the tick, each id's due, and its 169 lists: 168 slots, the ready ones. -/
structure SW where
  now : Nat
  dues : List (Int × Nat)
  lists : Nat → List Int
def duesV (l : List (Int × Nat)) : List (Int × Value) := l.map (fun p => (p.1, Value.int .i64 (p.2 : Nat)))
def dfind : List (Int × Nat) → Int → Nat → Option (Nat × Nat)
  | [], _, _ => none
  | p :: m, i, j => if i = p.1 then some (j, p.2) else dfind m i (j + 1)
def dget (m : List (Int × Nat)) (i : Int) : Option Nat := (dfind m i 0).map (·.2)
def dput (m : List (Int × Nat)) (i : Int) (v : Nat) : List (Int × Nat) := match dfind m i 0 with | some (n, _) => m.set n (i, v) | none => m ++ [(i, v)]
def ddel (m : List (Int × Nat)) (i : Int) : List (Int × Nat) := match dfind m i 0 with | some (n, _) => m.eraseIdx n | none => m
theorem mfind_dues : ∀ (m : List (Int × Nat)) (i : Int) (j : Nat), mfind (duesV m) i j = (dfind m i j).map (fun p => (p.1, Value.int .i64 (p.2 : Nat)))
  | [], _, _ => rfl
  | p :: m, i, j => by
    show (if i = p.1 then some (j, Value.int .i64 (p.2 : Nat)) else mfind (duesV m) i (j + 1)) = _
    unfold dfind
    split
    · rfl
    · exact mfind_dues m i (j + 1)
theorem mget_dues (m : List (Int × Nat)) (i : Int) : mget (duesV m) i = (dget m i).map (fun v : Nat => Value.int .i64 v) := by
  unfold mget dget
  rw [mfind_dues]
  cases dfind m i 0 <;> rfl
theorem mput_dues (m : List (Int × Nat)) (i : Int) (v : Nat) : mput (duesV m) i (.int .i64 v) = duesV (dput m i v) := by
  unfold mput dput
  rw [mfind_dues]
  cases dfind m i 0 with
  | none => simp [duesV]
  | some p => simp [duesV]
theorem mdel_dues (m : List (Int × Nat)) (i : Int) : mdel (duesV m) i = duesV (ddel m i) := by
  unfold mdel ddel
  rw [mfind_dues]
  cases dfind m i 0 with
  | none => rfl
  | some p => simp only [Option.map_some, duesV]; exact (mapErase _ m p.1).symm

/-- One more list. -/
def upd {α : Type} (f : Nat → α) (k : Nat) (v : α) : Nat → α := fun j => if j = k then v else f j
theorem upd_same {α : Type} (f : Nat → α) (k : Nat) (v : α) : upd f k v k = v := if_pos rfl
theorem upd_ne {α : Type} (f : Nat → α) {k j : Nat} (v : α) (h : j ≠ k) : upd f k v j = f j := if_neg h

/-- The wheel at block d, its map at mb, its lists' blocks and rooms G. -/
structure WheelAt (w : World) (d mb : Nat) (G : Nat → Option Nat × Nat) (s : SW) : Prop where
  obj : ∃ cs : Array Value, w.heap[d]? = some (.cells cs 90 (0,0)) ∧ cs.size = 171 ∧ cs[0]? = some (.int .i64 s.now) ∧ cs[1]? = some (.map (some mb)) ∧ ∀ k, k ≤ 168 → cs[2 + k]? = some (.slice (lA (G k).1) (s.lists k).length (G k).2)
  map : MapAt .i64 w mb (duesV s.dues)
  list : ∀ k, k ≤ 168 → LAt w (G k).1 (G k).2 (s.lists k)
  ne : mb ≠ d
  own : ∀ k, k ≤ 168 → ∀ b, b ∈ lF (G k).1 → b ≠ d ∧ b ≠ mb
  apart : ∀ j k, j ≤ 168 → k ≤ 168 → j ≠ k → ∀ b, b ∈ lF (G j).1 → b ∉ lF (G k).1
/-- All blocks of a wheel. -/
def wBlocks (d mb : Nat) (G : Nat → Option Nat × Nat) : List Nat := d :: mb :: (List.range 169).flatMap (fun k => lF (G k).1)
theorem mem_wBlocks {d mb : Nat} {G : Nat → Option Nat × Nat} {b : Nat} : b ∈ wBlocks d mb G ↔ b = d ∨ b = mb ∨ ∃ k, k ≤ 168 ∧ b ∈ lF (G k).1 := by
  unfold wBlocks
  simp only [List.mem_cons, List.mem_flatMap, List.mem_range]
  constructor
  · rintro (h | h | ⟨k, h1, h2⟩)
    · exact .inl h
    · exact .inr (.inl h)
    · exact .inr (.inr ⟨k, by omega, h2⟩)
  · rintro (h | h | ⟨k, h1, h2⟩)
    · exact .inl h
    · exact .inr (.inl h)
    · exact .inr (.inr ⟨k, by omega, h2⟩)
theorem WheelAt.keep {S : List Nat} {w w' : World} {d mb : Nat} {G : Nat → Option Nat × Nat} {s : SW} (h : WheelAt w d mb G s) (m : Mod S w w') (hS : ∀ b, b ∈ wBlocks d mb G → b ∉ S) : WheelAt w' d mb G s := by
  obtain ⟨cs, h1, h2⟩ := h.obj
  exact ⟨⟨cs, m.keep h1 (hS _ (mem_wBlocks.2 (.inl rfl))), h2⟩, h.map.keep m (hS _ (mem_wBlocks.2 (.inr (.inl rfl)))), fun k hk => (h.list k hk).keep m (fun b hb => hS _ (mem_wBlocks.2 (.inr (.inr ⟨k, hk, hb⟩)))), h.ne, h.own, h.apart⟩
theorem WheelAt.same {w w' : World} {d mb : Nat} {G : Nat → Option Nat × Nat} {s : SW} (h : WheelAt w d mb G s) (e : w'.heap = w.heap) : WheelAt w' d mb G s := by
  obtain ⟨cs, h1, h2⟩ := h.obj
  exact ⟨⟨cs, by rw [e]; exact h1, h2⟩, h.map.same e, fun k hk => (h.list k hk).same e, h.ne, h.own, h.apart⟩
theorem WheelAt.lt {w : World} {d mb : Nat} {G : Nat → Option Nat × Nat} {s : SW} (h : WheelAt w d mb G s) : ∀ b, b ∈ wBlocks d mb G → b < w.heap.size := by
  intro b hb
  rcases mem_wBlocks.1 hb with rfl | rfl | ⟨k, hk, hb⟩
  · obtain ⟨cs, h1, _⟩ := h.obj
    exact ltOf h1
  · exact h.map.lt
  · exact (h.list k hk).lt b hb
theorem WheelAt.cellNow {w : World} {d mb : Nat} {G : Nat → Option Nat × Nat} {s : SW} (h : WheelAt w d mb G s) : w.cell? ⟨d, 0, none⟩ = some (.int .i64 s.now) := by
  obtain ⟨cs, h1, h2, h3, h4, h5⟩ := h.obj
  exact (cellAt h1 0).trans h3
theorem WheelAt.cellMap {w : World} {d mb : Nat} {G : Nat → Option Nat × Nat} {s : SW} (h : WheelAt w d mb G s) : w.cell? ⟨d, 1, none⟩ = some (.map (some mb)) := by
  obtain ⟨cs, h1, h2, h3, h4, h5⟩ := h.obj
  exact (cellAt h1 1).trans h4
theorem WheelAt.cellList {w : World} {d mb : Nat} {G : Nat → Option Nat × Nat} {s : SW} (h : WheelAt w d mb G s) {k : Nat} (hk : k ≤ 168) : w.cell? ⟨d, 2 + k, none⟩ = some (.slice (lA (G k).1) (s.lists k).length (G k).2) := by
  obtain ⟨cs, h1, h2, h3, h4, h5⟩ := h.obj
  exact (cellAt h1 (2 + k)).trans (h5 k hk)
theorem WheelAt.free {w : World} {d mb : Nat} {G : Nat → Option Nat × Nat} {s : SW} (h : WheelAt w d mb G s) (o : Nat) : w.frozen? ⟨d, o, none⟩ = false := by
  obtain ⟨cs, h1, _⟩ := h.obj
  exact freeAt h1 o

/-- Another list is stored. -/
theorem WheelAt.setList {S : List Nat} {w w1 : World} {d mb : Nat} {G : Nat → Option Nat × Nat} {s : SW} (h : WheelAt w d mb G s) {k : Nat} (hk : k ≤ 168) (m : Mod S w w1) (hS : ∀ b, b ∈ S → b ≠ d ∧ b ≠ mb ∧ ∀ j, j ≤ 168 → j ≠ k → b ∉ lF (G j).1) {g' : Option Nat} {cap' : Nat} {l' : List Int} (hL : LAt w1 g' cap' l') (hg : ∀ b, b ∈ lF g' → b ∈ lF (G k).1 ∨ w.heap.size ≤ b) :
    WheelAt (w1.setCell ⟨d, 2 + k, none⟩ (.slice (lA g') l'.length cap')) d mb (upd G k (g', cap')) { s with lists := upd s.lists k l' } := by
  obtain ⟨cs, h1, h2, h3, h4, h5⟩ := h.obj
  have hd1 := m.keep h1 (fun hd => (hS d hd).1 rfl)
  have hlt := h.lt
  have hgd : ∀ b, b ∈ lF g' → b ≠ d ∧ b ≠ mb ∧ ∀ j, j ≤ 168 → j ≠ k → b ∉ lF (G j).1 := by
    intro b hb
    rcases hg b hb with hb | hb
    · exact ⟨(h.own k hk b hb).1, (h.own k hk b hb).2, fun j hj hjk hbj => h.apart k j hk hj (Ne.symm hjk) b hb hbj⟩
    · refine ⟨?_, ?_, ?_⟩
      · rintro rfl; have := ltOf h1; omega
      · rintro rfl; have := h.map.lt; omega
      · intro j hj _ hbj; have := (h.list j hj).lt b hbj; omega
  have mc : Mod [d] w1 (w1.setCell ⟨d, 2 + k, none⟩ (.slice (lA g') l'.length cap')) := (Mod.refl _ _).setCell (by simp) _
  refine ⟨⟨_, heapSet hd1 (2 + k) _, by simp [h2], ?_, ?_, ?_⟩, ?_, ?_, h.ne, ?_, ?_⟩
  · rw [Array.getElem?_setIfInBounds_ne (by omega)]; exact h3
  · rw [Array.getElem?_setIfInBounds_ne (by omega)]; exact h4
  · intro j hj
    by_cases e : j = k
    · subst e
      simp only [upd_same]
      rw [Array.getElem?_setIfInBounds_self_of_lt (by omega)]
    · rw [Array.getElem?_setIfInBounds_ne (by omega)]; simp only [upd_ne _ _ e]; exact h5 j hj
  · exact (h.map.keep m (fun hb => (hS mb hb).2.1 rfl)).keep mc (by simp; exact h.ne)
  · intro j hj
    by_cases e : j = k
    · subst e
      simp only [upd_same]
      exact hL.keep mc (fun b hb => by simp; exact (hgd b hb).1)
    · simp only [upd_ne _ _ e]
      exact ((h.list j hj).keep m (fun b hb hbS => (hS b hbS).2.2 j hj e hb)).keep mc (fun b hb => by simp; exact (h.own j hj b hb).1)
  · intro j hj b hb
    by_cases e : j = k
    · subst e
      rw [upd_same] at hb
      exact ⟨(hgd b hb).1, (hgd b hb).2.1⟩
    · rw [upd_ne _ _ e] at hb
      exact h.own j hj b hb
  · intro i j hi hj hij b hb hb'
    by_cases e : i = k
    · subst e
      rw [upd_same] at hb
      rw [upd_ne _ _ (Ne.symm hij)] at hb'
      exact (hgd b hb).2.2 j hj (Ne.symm hij) hb'
    · rw [upd_ne _ _ e] at hb
      by_cases e' : j = k
      · subst e'
        rw [upd_same] at hb'
        exact (hgd b hb').2.2 i hi e hb
      · rw [upd_ne _ _ e'] at hb'
        exact h.apart i j hi hj hij b hb hb'
/-- What a call on a wheel does: it returns v; the wheel is s behind it, in old blocks of its own and new ones. -/
def WheelDo (d mb : Nat) (G : Nat → Option Nat × Nat) (v : Value) (s : SW) (w : World) (e : Ending) (w' : World) : Prop :=
  e = .returned v ∧ ∃ G', Mod (wBlocks d mb G) w w' ∧ WheelAt w' d mb G' s ∧ ∀ b, b ∈ wBlocks d mb G' → b ∈ wBlocks d mb G ∨ w.heap.size ≤ b
end Go.Proofs.YthieionajemjhaaDoor
