/- Small facts on the model's worlds that every text of this seat uses: a block known whole, what a call may have turned. No condition. -/
import Derived.Test.YthieionajemjhaaDoorRows
import Derived.WalkKit
import Derived.Outline
import Derived.Below
import Derived.Deep.QuietTactic
import Derived.BigQuiet
import Derived.RegionTactic
import Derived.BigRegion
import Derived.Lib.Hide
import Derived.Laws.CopyOwn
namespace Go.Proofs.YthieionajemjhaaDoor
set_option linter.unusedVariables false
set_option linter.unusedSimpArgs false
open Go.RowKit

theorem cellAt {w : World} {b T : Nat} {c : Array Value} (h : w.heap[b]? = some (.cells c T (0,0))) (o : Nat) : w.cell? ⟨b, o, none⟩ = c[o]? := by
  simp [World.cell?, h]
theorem freeAt {w : World} {b T : Nat} {c : Array Value} (h : w.heap[b]? = some (.cells c T (0,0))) (o : Nat) : w.frozen? ⟨b, o, none⟩ = false := by
  simp [World.frozen?, h]

theorem ltOf {w : World} {b : Nat} {o : Obj} (h : w.heap[b]? = some o) : b < w.heap.size := (Array.getElem?_eq_some_iff.1 h).1

theorem heapSet {w : World} {b T : Nat} {c : Array Value} (h : w.heap[b]? = some (.cells c T (0,0))) (o : Nat) (v : Value) :
    (w.setCell ⟨b, o, none⟩ v).heap[b]? = some (.cells (c.setIfInBounds o v) T (0,0)) := by
  simp [World.setCell, Array.getElem?_modify, h]

theorem heapSetW {u w : World} {b T : Nat} {c : Array Value} (e : u.heap = w.heap) (h : w.heap[b]? = some (.cells c T (0,0))) (o : Nat) (v : Value) :
    (u.setCell ⟨b, o, none⟩ v).heap[b]? = some (.cells (c.setIfInBounds o v) T (0,0)) := heapSet (by rw [e]; exact h) o v

theorem heapSetNe {w : World} {b k o : Nat} {v : Value} (hk : k ≠ b) : (w.setCell ⟨b, o, none⟩ v).heap[k]? = w.heap[k]? := by
  simp [World.setCell, Array.getElem?_modify, Ne.symm hk]

theorem heapNew (w : World) (o : Obj) : (w.alloc o).heap[w.heap.size]? = some o := by
  show (w.heap.push o)[w.heap.size]? = _; simp
theorem heapOld {w : World} {o : Obj} {k : Nat} {x : Obj} (h : w.heap[k]? = some x) : (w.alloc o).heap[k]? = some x := by
  have := ltOf h
  show (w.heap.push o)[k]? = _
  rw [Array.getElem?_push, if_neg (by omega)]; exact h
theorem sizeNew (w : World) (o : Obj) : (w.alloc o).heap.size = w.heap.size + 1 := by
  show (w.heap.push o).size = _; simp
theorem sizeSet (w : World) (a : Addr) (v : Value) : (w.setCell a v).heap.size = w.heap.size := by simp [World.setCell]

/-- Of what was there, only blocks of S may have turned. -/
structure Mod (S : List Nat) (w w' : World) : Prop where
  os : w'.os = w.os
  tape : w'.tape = w.tape
  output : w'.output = w.output
  size : w.heap.size ≤ w'.heap.size
  block : ∀ k, k < w.heap.size → k ∉ S → w'.heap[k]? = w.heap[k]?

theorem Mod.refl (S : List Nat) (w : World) : Mod S w w := ⟨rfl, rfl, rfl, Nat.le_refl _, fun _ _ _ => rfl⟩
/-- Two steps; the second one may turn what the first one made. -/
theorem Mod.trans {S T : List Nat} {a b c : World} (h : Mod S a b) (g : Mod T b c) (hT : ∀ k, k ∈ T → k ∈ S ∨ a.heap.size ≤ k) : Mod S a c :=
  ⟨g.os.trans h.os, g.tape.trans h.tape, g.output.trans h.output, Nat.le_trans h.size g.size, fun k hk hS => by
    rw [g.block k (Nat.lt_of_lt_of_le hk h.size) (fun hk' => (hT k hk').elim hS (by omega)), h.block k hk hS]⟩
theorem Mod.drew {S : List Nat} {a w : World} (h : Mod S a w) : Mod S a w.drew := ⟨h.os, h.tape, h.output, h.size, h.block⟩
theorem Mod.drewN {S : List Nat} {a w : World} (h : Mod S a w) (n : Nat) : Mod S a (w.drewN n) := ⟨h.os, h.tape, h.output, h.size, h.block⟩
theorem Mod.alloc {S : List Nat} {a w : World} (h : Mod S a w) (o : Obj) : Mod S a (w.alloc o) :=
  ⟨h.os, h.tape, h.output, by rw [sizeNew]; have := h.size; omega, fun k hk hS => by
    rw [← h.block k hk hS]; exact Below.heap_alloc _ _ _ (Nat.lt_of_lt_of_le hk h.size)⟩
theorem Mod.setCell {S : List Nat} {a w : World} (h : Mod S a w) {p : Addr} (hp : p.block ∈ S ∨ a.heap.size ≤ p.block) (v : Value) : Mod S a (w.setCell p v) :=
  ⟨h.os, h.tape, h.output, by rw [sizeSet]; exact h.size, fun k hk hS => by
    rw [← h.block k hk hS]; exact Below.heap_setCell _ _ _ _ (fun e => hp.elim (fun hp => hS (e ▸ hp)) (by omega))⟩
theorem Mod.mono {S T : List Nat} {a w : World} (h : Mod S a w) (hT : ∀ k, k ∈ S → k ∈ T ∨ a.heap.size ≤ k) : Mod T a w :=
  ⟨h.os, h.tape, h.output, h.size, fun k hk hS => h.block k hk (fun hk' => (hT k hk').elim hS (by omega))⟩
theorem Mod.below {S : List Nat} {a w : World} {B : Nat} (h : Mod S a w) (hB : B ≤ a.heap.size) (hS : ∀ k, k ∈ S → B ≤ k) : Below B a w :=
  ⟨h.os, h.tape, h.output, h.size, fun k hk => h.block k (by omega) (fun hk' => by have := hS k hk'; omega)⟩
theorem Below.mod {a w : World} {B : Nat} {S : List Nat} (h : Below B a w) (hB : a.heap.size ≤ B) : Mod S a w :=
  ⟨h.os, h.tape, h.output, h.size, fun k hk _ => h.block k (by omega)⟩
theorem Mod.keep {S : List Nat} {w w' : World} (h : Mod S w w') {k : Nat} {o : Obj} (hk : w.heap[k]? = some o) (hS : k ∉ S) : w'.heap[k]? = some o :=
  (h.block k (ltOf hk) hS).trans hk
theorem Mod.cell {S : List Nat} {w w' : World} (h : Mod S w w') {p : Addr} (hk : p.block < w.heap.size) (hS : p.block ∉ S) : w'.cell? p = w.cell? p :=
  World.cell?_of_block (w := w) (h.block _ hk hS)

theorem Mod.setRow {S : List Nat} {a w : World} (h : Mod S a w) {g : Nat} (hg : g ∈ S ∨ a.heap.size ≤ g) (cs : Array Value) : Mod S a (w.setRow g cs) :=
  ⟨h.os, h.tape, h.output, by have := h.size; simp [World.setRow]; omega, fun k hk hS => by
    rw [← h.block k hk hS]; exact setRow_other w g k cs (fun e => hg.elim (fun hp => hS (e ▸ hp)) (by omega))⟩

theorem Mod.undrew {S : List Nat} {a w : World} (h : Mod S a.drew w) : Mod S a w := ⟨h.os, h.tape, h.output, h.size, h.block⟩
theorem Mod.undrewN {S : List Nat} {a w : World} {k : Nat} (h : Mod S (a.drewN k) w) : Mod S a w := ⟨h.os, h.tape, h.output, h.size, h.block⟩
theorem ltOfCell {w : World} {p : Addr} {v : Value} (h : w.cell? p = some v) : p.block < w.heap.size := by
  unfold World.cell? at h
  split at h
  · rename_i hh; exact ltOf hh
  · cases h
/-- A cell of a block that is none of S reads as it did. -/
theorem Mod.at {S : List Nat} {w w' : World} (m : Mod S w w') {p : Addr} {v : Value} (h : w.cell? p = some v) (hS : p.block ∉ S) : w'.cell? p = some v :=
  (m.cell (ltOfCell h) hS).trans h
/-- .. and so does one behind a new block. -/
theorem cellNew {w : World} {p : Addr} {v : Value} (o : Obj) (h : w.cell? p = some v) : (w.alloc o).cell? p = some v :=
  ((Mod.refl [] w).alloc o).at h (by simp)

/-- Nothing has turned but the count of draws. -/
def Drew (w w' : World) : Prop := ∃ k, w' = w.drewN k
theorem Drew.refl (w : World) : Drew w w := ⟨0, rfl⟩
theorem Drew.drewN {w u : World} (h : Drew w u) (k : Nat) : Drew w (u.drewN k) := by
  obtain ⟨j, rfl⟩ := h
  exact ⟨j + k, by simp⟩
theorem Drew.drew {w u : World} (h : Drew w u) : Drew w u.drew := h.drewN 1
theorem Drew.trans {a b c : World} (h : Drew a b) (g : Drew b c) : Drew a c := by
  obtain ⟨k, rfl⟩ := g
  exact h.drewN k
theorem Drew.mod {S : List Nat} {a b : World} (h : Drew a b) : Mod S a b := by
  obtain ⟨k, rfl⟩ := h
  exact (Mod.refl _ _).drewN k
theorem Drew.heap {a b : World} (h : Drew a b) : b.heap = a.heap := by
  obtain ⟨k, rfl⟩ := h
  rfl

/-- The call returns v; nothing has turned but the count of draws. -/
def Ret (v : Value) (w : World) (e : Ending) (w' : World) : Prop := e = .returned v ∧ Drew w w'
/-- The call returns v, of what was there only S may have turned, and R holds then. -/
def Rets (v : Value) (S : List Nat) (w : World) (R : World → Prop) (e : Ending) (w' : World) : Prop := e = .returned v ∧ Mod S w w' ∧ R w'

theorem Ret.of {v u : Value} {w w' : World} (h : u = v) (hd : Drew w w') : Ret v w (.returned u) w' := ⟨by rw [h], hd⟩

theorem Rets.of {v u : Value} {S : List Nat} {w w' : World} {R : World → Prop} (h : u = v) (m : Mod S w w') (r : R w') : Rets v S w R (.returned u) w' := ⟨by rw [h], m, r⟩
theorem toNatAdd (n : Nat) : ((n : Int) + 1) = ((n + 1 : Nat) : Int) := by omega
theorem toNatSub {n : Nat} (h : 1 ≤ n) : ((n : Int) - 1) = ((n - 1 : Nat) : Int) := by omega

end Go.Proofs.YthieionajemjhaaDoor
