/- Things in memory: a thing holds on its own blocks alone; several things apart from each other; what a call on one of them leaves of the others. No condition. -/
import Derived.Test.YthieionajemjhaaDoorKit
namespace Go.Proofs.YthieionajemjhaaDoor
set_option linter.unusedVariables false
set_option linter.unusedSimpArgs false
open Go.RowKit

/-- A thing: what is so of its blocks F in a world; it stays so while they are not touched. -/
structure Res where
  holds : List Nat → World → Prop
  keep : ∀ {F S : List Nat} {w w' : World}, holds F w → Mod S w w' → (∀ b, b ∈ F → b ∉ S) → holds F w'
  lt : ∀ {F : List Nat} {w : World}, holds F w → ∀ b, b ∈ F → b < w.heap.size
/-- One block, known whole. -/
def Res.blk (b : Nat) (o : Obj) : Res where
  holds F w := F = [b] ∧ w.heap[b]? = some o
  keep h m hS := ⟨h.1, m.keep h.2 (hS _ (by rw [h.1]; exact List.mem_singleton_self _))⟩
  lt h b hb := by rw [h.1, List.mem_singleton] at hb; subst hb; exact ltOf h.2
def Res.ex {α : Type} (f : α → Res) : Res where
  holds F w := ∃ a, (f a).holds F w
  keep h m hS := h.elim fun a h => ⟨a, (f a).keep h m hS⟩
  lt h := h.elim fun a h => (f a).lt h
def Res.such (p : Prop) (P : Res) : Res where
  holds F w := p ∧ P.holds F w
  keep h m hS := ⟨h.1, P.keep h.2 m hS⟩
  lt h := P.lt h.2
/-- Things apart from each other. -/
def Stars : List Res → List Nat → World → Prop
  | [], F, _ => F = []
  | P :: l, F, w => ∃ F1 F2, F = F1 ++ F2 ∧ P.holds F1 w ∧ Stars l F2 w ∧ ∀ b, b ∈ F1 → b ∉ F2
theorem Stars.keep : ∀ {l : List Res} {F S : List Nat} {w w' : World}, Stars l F w → Mod S w w' → (∀ b, b ∈ F → b ∉ S) → Stars l F w'
  | [], _, _, _, _, h, _, _ => h
  | P :: l, _, _, _, _, ⟨F1, F2, e, h1, h2, h3⟩, m, hS => by
    subst e
    exact ⟨F1, F2, rfl, P.keep h1 m (fun b hb => hS b (List.mem_append_left _ hb)), h2.keep m (fun b hb => hS b (List.mem_append_right _ hb)), h3⟩
theorem Stars.lt : ∀ {l : List Res} {F : List Nat} {w : World}, Stars l F w → ∀ b, b ∈ F → b < w.heap.size
  | [], _, _, h, b, hb => by rw [show _ = _ from h] at hb; cases hb
  | P :: l, _, _, ⟨F1, F2, e, h1, h2, h3⟩, b, hb => by
    subst e
    rcases List.mem_append.1 hb with hb | hb
    · exact P.lt h1 b hb
    · exact h2.lt b hb
def Res.star (l : List Res) : Res := ⟨Stars l, Stars.keep, Stars.lt⟩

/-- What may come of a thing that lay in blocks F. -/
def Gain (P : Res) (F : List Nat) (w w' : World) : Prop := ∃ F', P.holds F' w' ∧ Mod F w w' ∧ ∀ b, b ∈ F' → b ∈ F ∨ w.heap.size ≤ b
/-- The call returns v and leaves P of a thing that lay in F. -/
def Turns (P : Res) (F : List Nat) (v : Value) (w : World) (e : Ending) (w' : World) : Prop := e = .returned v ∧ Gain P F w w'
/-- .. with a result that is told with what is left. -/
def TurnsV {α : Type} (v : α → Value) (P : α → Res) (F : List Nat) (w : World) (e : Ending) (w' : World) : Prop := ∃ x, e = .returned (v x) ∧ Gain (P x) F w w'
theorem Turns.v {P : Res} {F : List Nat} {v : Value} {w : World} {e : Ending} {w' : World} (h : Turns P F v w e w') : TurnsV (fun _ : Unit => v) (fun _ => P) F w e w' := ⟨(), h⟩

theorem Stars.frame : ∀ {l : List Res} {F : List Nat} {w : World} (k : Nat) {P : Res}, Stars l F w → l[k]? = some P →
    ∃ F1, P.holds F1 w ∧ (∀ b, b ∈ F1 → b ∈ F) ∧ ∀ {w' : World} {P' : Res}, Gain P' F1 w w' → ∃ F', Stars (l.set k P') F' w' ∧ ∀ b, b ∈ F' → b ∈ F ∨ w.heap.size ≤ b
  | [], _, _, _, _, _, hk => by simp at hk
  | Q :: l, _, w, 0, P, ⟨F1, F2, e, h1, h2, h3⟩, hk => by
    subst e
    cases hk
    refine ⟨F1, h1, fun b hb => List.mem_append_left _ hb, ?_⟩
    rintro w' P' ⟨F', g1, g2, g3⟩
    have hl := h2.lt
    refine ⟨F' ++ F2, ⟨F', F2, rfl, g1, h2.keep g2 (fun b hb hb' => h3 b hb' hb), fun b hb hb' => ?_⟩, fun b hb => ?_⟩
    · rcases g3 b hb with hb | hb
      · exact h3 b hb hb'
      · have := hl b hb'; omega
    · rcases List.mem_append.1 hb with hb | hb
      · rcases g3 b hb with hb | hb
        · exact .inl (List.mem_append_left _ hb)
        · exact .inr hb
      · exact .inl (List.mem_append_right _ hb)
  | Q :: l, _, w, k + 1, P, ⟨F1, F2, e, h1, h2, h3⟩, hk => by
    subst e
    obtain ⟨F3, p1, p2, p3⟩ := h2.frame k (by simpa using hk)
    have hl := Q.lt h1
    refine ⟨F3, p1, fun b hb => List.mem_append_right _ (p2 b hb), ?_⟩
    rintro w' P' ⟨F', g1, g2, g3⟩
    obtain ⟨F4, q1, q2⟩ := p3 ⟨F', g1, g2, g3⟩
    refine ⟨F1 ++ F4, ⟨F1, F4, rfl, Q.keep h1 g2 (fun b hb hb' => h3 b hb (p2 b hb')), q1, fun b hb hb' => ?_⟩, fun b hb => ?_⟩
    · rcases q2 b hb' with hb' | hb'
      · exact h3 b hb hb'
      · have := hl b hb; omega
    · rcases List.mem_append.1 hb with hb | hb
      · exact .inl (List.mem_append_left _ hb)
      · rcases q2 b hb with hb | hb
        · exact .inl (List.mem_append_right _ hb)
        · exact .inr hb
theorem Stars.append : ∀ {l m : List Res} {F : List Nat} {w : World}, Stars (l ++ m) F w ↔ ∃ F1 F2, F = F1 ++ F2 ∧ Stars l F1 w ∧ Stars m F2 w ∧ ∀ b, b ∈ F1 → b ∉ F2
  | [], m, F, w => by
    constructor
    · intro h; exact ⟨[], F, rfl, rfl, h, by simp⟩
    · rintro ⟨F1, F2, rfl, h1, h2, _⟩
      rw [show F1 = [] from h1]; exact h2
  | P :: l, m, F, w => by
    constructor
    · rintro ⟨F1, F2, rfl, h1, h2, h3⟩
      obtain ⟨F3, F4, rfl, p1, p2, p3⟩ := Stars.append.1 h2
      refine ⟨F1 ++ F3, F4, by simp, ⟨F1, F3, rfl, h1, p1, fun b hb hb' => h3 b hb (List.mem_append_left _ hb')⟩, p2, fun b hb hb' => ?_⟩
      rcases List.mem_append.1 hb with hb | hb
      · exact h3 b hb (List.mem_append_right _ hb')
      · exact p3 b hb hb'
    · rintro ⟨F1, F2, rfl, ⟨F3, F4, rfl, p0, p1, p2⟩, h2, h3⟩
      refine ⟨F3, F4 ++ F2, by simp, p0, Stars.append.2 ⟨F4, F2, rfl, p1, h2, fun b hb hb' => h3 b (List.mem_append_right _ hb) hb'⟩, fun b hb hb' => ?_⟩
      rcases List.mem_append.1 hb' with hb' | hb'
      · exact p2 b hb hb'
      · exact h3 b (List.mem_append_left _ hb) hb'
theorem Stars.perm {l m : List Res} (h : l.Perm m) : ∀ {F : List Nat} {w : World}, Stars l F w → ∃ F', Stars m F' w ∧ ∀ b, b ∈ F' ↔ b ∈ F := by
  induction h with
  | nil => intro F w h; exact ⟨F, h, fun _ => Iff.rfl⟩
  | cons P _ ih =>
    rintro F w ⟨F1, F2, rfl, h1, h2, h3⟩
    obtain ⟨F3, p1, p2⟩ := ih h2
    exact ⟨F1 ++ F3, ⟨F1, F3, rfl, h1, p1, fun b hb hb' => h3 b hb ((p2 b).1 hb')⟩, fun b => by simp [p2]⟩
  | swap P Q l =>
    rintro F w ⟨F1, F2, rfl, h1, ⟨F3, F4, rfl, p1, p2, p3⟩, h3⟩
    refine ⟨F3 ++ (F1 ++ F4), ⟨F3, F1 ++ F4, rfl, p1, ⟨F1, F4, rfl, h1, p2, fun b hb hb' => h3 b hb (List.mem_append_right _ hb')⟩, fun b hb hb' => ?_⟩, fun b => by simp; grind⟩
    rcases List.mem_append.1 hb' with hb' | hb'
    · exact h3 b hb' (List.mem_append_left _ hb)
    · exact p3 b hb hb'
  | trans _ _ ih1 ih2 =>
    intro F w h
    obtain ⟨F1, p1, p2⟩ := ih1 h
    obtain ⟨F2, q1, q2⟩ := ih2 p1
    exact ⟨F2, q1, fun b => (q2 b).trans (p2 b)⟩

theorem Stars.mem : ∀ {l : List Res} {F : List Nat} {w : World} {j : Nat} {Q : Res}, Stars l F w → l[j]? = some Q → ∃ F2, Q.holds F2 w ∧ ∀ b, b ∈ F2 → b ∈ F
  | [], _, _, _, _, _, hj => by simp at hj
  | P :: l, _, w, 0, Q, ⟨F1, F2, e, h1, h2, h3⟩, hj => by
    cases hj
    exact ⟨F1, h1, fun b hb => by rw [e]; exact List.mem_append_left _ hb⟩
  | P :: l, _, w, j + 1, Q, ⟨F1, F2, e, h1, h2, h3⟩, hj => by
    obtain ⟨F3, p1, p2⟩ := h2.mem (j := j) (by simpa using hj)
    exact ⟨F3, p1, fun b hb => by rw [e]; exact List.mem_append_right _ (p2 b hb)⟩
theorem Stars.apart : ∀ {l : List Res} {F : List Nat} {w : World} {i j : Nat} {P Q : Res}, Stars l F w → i < j → l[i]? = some P → l[j]? = some Q →
    ∃ F1 F2, P.holds F1 w ∧ Q.holds F2 w ∧ ∀ b, b ∈ F1 → b ∉ F2
  | [], _, _, _, _, _, _, _, _, hi, _ => by simp at hi
  | R :: l, _, w, 0, j + 1, P, Q, ⟨F1, F2, e, h1, h2, h3⟩, hij, hi, hj => by
    cases hi
    obtain ⟨F3, p1, p2⟩ := h2.mem (j := j) (by simpa using hj)
    exact ⟨F1, F3, h1, p1, fun b hb hb' => h3 b hb (p2 b hb')⟩
  | R :: l, _, w, i + 1, 0, P, Q, _, hij, _, _ => by omega
  | R :: l, _, w, i + 1, j + 1, P, Q, ⟨F1, F2, e, h1, h2, h3⟩, hij, hi, hj => h2.apart (i := i) (j := j) (by omega) (by simpa using hi) (by simpa using hj)

/-- Since w0, when they lay in F0, the things have become l. -/
def On (F0 : List Nat) (w0 : World) (l : List Res) (u : World) : Prop := ∃ F, Stars l F u ∧ Mod F0 w0 u ∧ ∀ b, b ∈ F → b ∈ F0 ∨ w0.heap.size ≤ b
section
variable {F0 : List Nat} {w0 u u' : World} {l : List Res}
theorem On.of {F : List Nat} (h : Stars l F u) : On F u l u := ⟨F, h, Mod.refl _ _, fun b hb => .inl hb⟩
theorem On.one {P : Res} {F : List Nat} (h : P.holds F u) : On F u [P] u := On.of ⟨F, [], by simp, h, rfl, by simp⟩
theorem On.start (w : World) : On [] w [] w := ⟨[], rfl, Mod.refl _ _, by simp⟩
theorem On.mod (h : On F0 w0 l u) : Mod F0 w0 u := h.choose_spec.2.1
theorem On.keep (h : On F0 w0 l u) (m : Mod [] u u') : On F0 w0 l u' := by
  obtain ⟨F, h1, h2, h3⟩ := h
  exact ⟨F, h1.keep m (by simp), h2.trans m (by simp), h3⟩
theorem On.gain (h : On F0 w0 l u) (k : Nat) {P P' : Res} (hk : l[k]? = some P) : ∃ F, P.holds F u ∧ (∀ b, b ∈ F → b ∈ F0 ∨ w0.heap.size ≤ b) ∧ ∀ {u' : World} {P' : Res}, Gain P' F u u' → On F0 w0 (l.set k P') u' := by
  obtain ⟨F, h1, h2, h3⟩ := h
  obtain ⟨F1, p1, p2, p3⟩ := h1.frame k hk
  refine ⟨F1, p1, fun b hb => h3 b (p2 b hb), fun {u' P'} g => ?_⟩
  obtain ⟨F', q1, q2⟩ := p3 g
  obtain ⟨F'', g1, g2, g3⟩ := g
  refine ⟨F', q1, h2.trans g2 (fun b hb => h3 b (p2 b hb)), fun b hb => ?_⟩
  rcases q2 b hb with hb | hb
  · exact h3 b hb
  · have := h2.size; exact .inr (by omega)
theorem On.get (h : On F0 w0 l u) (k : Nat) {P : Res} (hk : l[k]? = some P) : ∃ F, P.holds F u := by
  obtain ⟨F, h1, _⟩ := h.gain (P' := P) k hk
  exact ⟨F, h1⟩
theorem On.call {P : Program} {f : FuncId} {args : Array Value} {v : Value} {R R' : Res} (h : On F0 w0 l u) (k : Nat) (hk : l[k]? = some R) (hc : ∀ F, R.holds F u → Calls P f args u (Turns R' F v u)) :
    Calls P f args u (fun e u' => e = .returned v ∧ On F0 w0 (l.set k R') u') := by
  obtain ⟨F, h1, h2, h3⟩ := h.gain (P' := R') k hk
  refine (hc F h1).mono ?_
  rintro e u' ⟨rfl, g⟩
  exact ⟨rfl, h3 g⟩
theorem On.callV {P : Program} {f : FuncId} {args : Array Value} {α : Type} {v : α → Value} {R : Res} {R' : α → Res} (h : On F0 w0 l u) (k : Nat) (hk : l[k]? = some R) (hc : ∀ F, R.holds F u → Calls P f args u (TurnsV v R' F u)) :
    Calls P f args u (fun e u' => ∃ x, e = .returned (v x) ∧ On F0 w0 (l.set k (R' x)) u') := by
  obtain ⟨F, h1, h2, h3⟩ := h.gain (P' := R) k hk
  refine (hc F h1).mono ?_
  rintro e u' ⟨x, rfl, g⟩
  exact ⟨x, rfl, h3 g⟩
theorem On.ask {P : Program} {f : FuncId} {args : Array Value} {v : Value} {R : Res} (h : On F0 w0 l u) (k : Nat) (hk : l[k]? = some R) (hc : ∀ F, R.holds F u → Calls P f args u (Ret v u)) :
    Calls P f args u (fun e u' => e = .returned v ∧ On F0 w0 l u' ∧ Drew u u') := by
  obtain ⟨F, h1⟩ := h.get k hk
  refine (hc F h1).mono ?_
  rintro e u' ⟨rfl, d⟩
  exact ⟨rfl, h.keep d.mod, d⟩
/-- A call that makes a thing out of nothing. -/
theorem On.make {P : Program} {f : FuncId} {args : Array Value} {α : Type} {v : α → Value} {R' : α → Res} (h : On F0 w0 l u) (hc : Calls P f args u (TurnsV v R' [] u)) :
    Calls P f args u (fun e u' => ∃ x, e = .returned (v x) ∧ On F0 w0 (l ++ [R' x]) u') := by
  obtain ⟨F, h1, h2, h3⟩ := h
  refine hc.mono ?_
  rintro e u' ⟨x, rfl, F', g1, g2, g3⟩
  have hl := h1.lt
  have hs := h2.size
  refine ⟨x, rfl, F ++ F', Stars.append.2 ⟨F, F', rfl, h1.keep g2 (by simp), ⟨F', [], by simp, g1, rfl, by simp⟩, fun b hb hb' => ?_⟩, h2.trans g2 (by simp), fun b hb => ?_⟩
  · rcases g3 b hb' with hb' | hb'
    · cases hb'
    · have := hl b hb; omega
  · rcases List.mem_append.1 hb with hb | hb
    · exact h3 b hb
    · rcases g3 b hb with hb | hb
      · cases hb
      · exact .inr (by omega)
theorem On.alloc (h : On F0 w0 l u) (o : Obj) : On F0 w0 (l ++ [Res.blk u.heap.size o]) (u.alloc o) := by
  obtain ⟨F, h1, h2, h3⟩ := h
  have hl := h1.lt
  have hs := h2.size
  refine ⟨F ++ [u.heap.size], Stars.append.2 ⟨F, _, rfl, h1.keep (S := []) ((Mod.refl _ _).alloc _) (by simp), ⟨[u.heap.size], [], by simp, ⟨rfl, heapNew _ _⟩, rfl, by simp⟩, fun b hb hb' => ?_⟩, h2.alloc _, fun b hb => ?_⟩
  · rw [List.mem_singleton] at hb'; subst hb'; have := hl _ hb; omega
  · rcases List.mem_append.1 hb with hb | hb
    · exact h3 b hb
    · rw [List.mem_singleton] at hb; subst hb; exact .inr hs
theorem On.held (h : On F0 w0 l u) (k : Nat) {b : Nat} {o : Obj} (hk : l[k]? = some (Res.blk b o)) : u.heap[b]? = some o := by
  obtain ⟨F, h1⟩ := h.get k hk
  exact h1.2
theorem On.cell (h : On F0 w0 l u) (k : Nat) {b T : Nat} {cs : Array Value} (hk : l[k]? = some (Res.blk b (.cells cs T (0,0)))) (o : Nat) : u.cell? ⟨b, o, none⟩ = cs[o]? := cellAt (h.held k hk) o
theorem On.free (h : On F0 w0 l u) (k : Nat) {b T : Nat} {cs : Array Value} (hk : l[k]? = some (Res.blk b (.cells cs T (0,0)))) (o : Nat) : u.frozen? ⟨b, o, none⟩ = false := freeAt (h.held k hk) o
theorem On.size (h : On F0 w0 l u) (k : Nat) {b : Nat} {o : Obj} (hk : l[k]? = some (Res.blk b o)) : b < u.heap.size := ltOf (h.held k hk)
theorem On.ne (h : On F0 w0 l u) (i j : Nat) (hij : i < j) {a b : Nat} {o o' : Obj} (hi : l[i]? = some (Res.blk a o)) (hj : l[j]? = some (Res.blk b o')) : a ≠ b := by
  obtain ⟨F, h1, _⟩ := h
  obtain ⟨F1, F2, p1, p2, p3⟩ := h1.apart hij hi hj
  rw [p1.1, p2.1] at p3
  intro e
  exact p3 a (by simp) (by simp [e])
theorem blk_turn {b : Nat} {o o' : Obj} {F : List Nat} (h : (Res.blk b o).holds F u) (m : Mod [b] u u') (hb : u'.heap[b]? = some o') : Gain (Res.blk b o') F u u' := by
  obtain ⟨rfl, h2⟩ := h
  exact ⟨[b], ⟨rfl, hb⟩, m, fun b hb => .inl hb⟩
theorem On.turn (h : On F0 w0 l u) (k : Nat) {b : Nat} {o o' : Obj} (hk : l[k]? = some (Res.blk b o)) (m : Mod [b] u u') (hb : u'.heap[b]? = some o') : On F0 w0 (l.set k (Res.blk b o')) u' := by
  obtain ⟨F, h1, h2, h3⟩ := h.gain (P' := Res.blk b o') k hk
  exact h3 (blk_turn h1 m hb)
theorem On.set (h : On F0 w0 l u) (k : Nat) {b T : Nat} {cs : Array Value} (hk : l[k]? = some (Res.blk b (.cells cs T (0,0)))) (o : Nat) (v : Value) :
    On F0 w0 (l.set k (Res.blk b (.cells (cs.setIfInBounds o v) T (0,0)))) (u.setCell ⟨b, o, none⟩ v) :=
  h.turn k hk ((Mod.refl _ _).setCell (by simp) _) (heapSet (h.held k hk) o v)
/-- Things are told in another way. -/
theorem On.imp {m : List Res} (h : On F0 w0 l u) (hi : ∀ F, Stars l F u → ∃ F', Stars m F' u ∧ ∀ b, b ∈ F' → b ∈ F) : On F0 w0 m u := by
  obtain ⟨F, h1, h2, h3⟩ := h
  obtain ⟨F', p1, p2⟩ := hi F h1
  exact ⟨F', p1, h2, fun b hb => h3 b (p2 b hb)⟩
theorem On.perm {m : List Res} (h : On F0 w0 l u) (hp : l.Perm m) : On F0 w0 m u := h.imp fun F hF => by
  obtain ⟨F', p1, p2⟩ := hF.perm hp
  exact ⟨F', p1, fun b hb => (p2 b).1 hb⟩
/-- A thing is seen as another one. -/
theorem On.as (h : On F0 w0 l u) (k : Nat) {P P' : Res} (hk : l[k]? = some P) (hi : ∀ F, P.holds F u → P'.holds F u) : On F0 w0 (l.set k P') u := by
  obtain ⟨F, h1, h2, h3⟩ := h.gain (P' := P') k hk
  exact h3 ⟨F, hi F h1, Mod.refl _ _, fun b hb => .inl hb⟩
theorem On.ex (h : On F0 w0 l u) (k : Nat) {α : Type} {f : α → Res} (hk : l[k]? = some (Res.ex f)) : ∃ a, On F0 w0 (l.set k (f a)) u := by
  obtain ⟨F, h1, h2, h3⟩ := h.gain (P' := Res.ex f) k hk
  obtain ⟨a, ha⟩ := h1
  exact ⟨a, h3 ⟨F, ha, Mod.refl _ _, fun b hb => .inl hb⟩⟩
theorem On.such (h : On F0 w0 l u) (k : Nat) {p : Prop} {P : Res} (hk : l[k]? = some (Res.such p P)) : p ∧ On F0 w0 (l.set k P) u := by
  obtain ⟨F, h1, h2, h3⟩ := h.gain (P' := P) k hk
  exact ⟨h1.1, h3 ⟨F, h1.2, Mod.refl _ _, fun b hb => .inl hb⟩⟩
theorem Stars.drop : ∀ {l : List Res} {F : List Nat} {w : World} (k : Nat), Stars l F w → ∃ F', Stars (l.eraseIdx k) F' w ∧ ∀ b, b ∈ F' → b ∈ F
  | [], F, _, _, h => ⟨F, h, fun _ h => h⟩
  | P :: l, _, _, 0, ⟨F1, F2, e, h1, h2, h3⟩ => ⟨F2, h2, fun b hb => by rw [e]; exact List.mem_append_right _ hb⟩
  | P :: l, _, _, k + 1, ⟨F1, F2, e, h1, h2, h3⟩ => by
    obtain ⟨F3, p1, p2⟩ := h2.drop k
    subst e
    refine ⟨F1 ++ F3, ⟨F1, F3, rfl, h1, p1, fun b hb hb' => h3 b hb (p2 b hb')⟩, fun b hb => ?_⟩
    rcases List.mem_append.1 hb with hb | hb
    · exact List.mem_append_left _ hb
    · exact List.mem_append_right _ (p2 b hb)
theorem On.drop (h : On F0 w0 l u) (k : Nat) : On F0 w0 (l.eraseIdx k) u := h.imp fun F hF => hF.drop k
theorem On.take {m : List Res} (h : On F0 w0 (l ++ m) u) : On F0 w0 l u := h.imp fun F hF => by
  obtain ⟨F1, F2, rfl, h1, h2, h3⟩ := Stars.append.1 hF
  exact ⟨F1, h1, fun b hb => List.mem_append_left _ hb⟩
/-- A thing of several things is laid open. -/
theorem Stars.laid : ∀ {l m : List Res} {F : List Nat} {w : World}, Stars (Res.star m :: l) F w ↔ Stars (m ++ l) F w
  | l, m, F, w => by
    constructor
    · rintro ⟨F1, F2, e, h1, h2, h3⟩
      exact Stars.append.2 ⟨F1, F2, e, h1, h2, h3⟩
    · intro h
      obtain ⟨F1, F2, e, h1, h2, h3⟩ := Stars.append.1 h
      exact ⟨F1, F2, e, h1, h2, h3⟩
theorem On.laid {m : List Res} : On F0 w0 (Res.star m :: l) u ↔ On F0 w0 (m ++ l) u := by
  constructor
  · intro h; exact h.imp fun F hF => ⟨F, Stars.laid.1 hF, fun _ h => h⟩
  · intro h; exact h.imp fun F hF => ⟨F, Stars.laid.2 hF, fun _ h => h⟩
theorem set_perm : ∀ {l : List Res} {k : Nat} {P Q : Res}, l[k]? = some P → (l.set k Q).Perm (Q :: l.eraseIdx k)
  | [], _, _, _, h => by simp at h
  | R :: l, 0, _, _, h => by simp
  | R :: l, k + 1, P, Q, h => by
    have := set_perm (l := l) (k := k) (Q := Q) (by simpa using h)
    simp only [List.set_cons_succ, List.eraseIdx_cons_succ]
    exact (List.Perm.cons _ this).trans (List.Perm.swap _ _ _)
/-- A star in the list: its first thing stands in its place, the others behind all. -/
theorem On.spill (h : On F0 w0 l u) (k : Nat) {A : Res} {B : List Res} (hk : l[k]? = some (Res.star (A :: B))) : On F0 w0 (l.set k A ++ B) u := by
  have h1 : On F0 w0 (Res.star (A :: B) :: l.eraseIdx k) u := h.perm (by
    have := set_perm (Q := Res.star (A :: B)) hk
    have e : l.set k (Res.star (A :: B)) = l := by
      apply List.ext_getElem?
      intro j
      rw [List.getElem?_set]
      split
      · rename_i e; subst e; rw [hk]; simp; exact (List.getElem?_eq_some_iff.1 hk).1
      · rfl
    rwa [e] at this)
  have h2 := On.laid.1 h1
  refine h2.perm ?_
  have h3 := set_perm (l := l) (k := k) (Q := A) hk
  exact (List.Perm.cons _ List.perm_append_comm).trans (List.Perm.append_right _ h3.symm)
/-- A thing that has no block. -/
theorem On.more (h : On F0 w0 l u) {P : Res} (hP : P.holds [] u) : On F0 w0 (l ++ [P]) u := h.imp fun F hF =>
  ⟨F ++ [], Stars.append.2 ⟨F, [], rfl, hF, ⟨[], [], rfl, hP, rfl, by simp⟩, by simp⟩, by simp⟩
theorem On.front {P : Res} (h : On F0 w0 (l ++ [P]) u) : On F0 w0 (P :: l) u := h.perm (List.perm_append_singleton P l)
theorem On.gains (h : On F0 w0 l u) : Gain (Res.star l) F0 w0 u := by
  obtain ⟨F, h1, h2, h3⟩ := h
  exact ⟨F, h1, h2, h3⟩
theorem On.gain1 {P : Res} (h : On F0 w0 [P] u) : Gain P F0 w0 u := by
  obtain ⟨F, ⟨F1, F2, rfl, h1, rfl, _⟩, h2, h3⟩ := h
  exact ⟨F1, h1, h2, fun b hb => h3 b (by simp [hb])⟩
theorem On.turns {v v' : Value} (h : On F0 w0 l u) (e : v' = v) : Turns (Res.star l) F0 v w0 (.returned v') u := ⟨by rw [e], h.gains⟩
theorem Gain.imp {P P' : Res} {F : List Nat} {w w' : World} (h : Gain P F w w') (hi : ∀ F, P.holds F w' → P'.holds F w') : Gain P' F w w' := by
  obtain ⟨F', h1, h2, h3⟩ := h
  exact ⟨F', hi _ h1, h2, h3⟩
end
end Go.Proofs.YthieionajemjhaaDoor
