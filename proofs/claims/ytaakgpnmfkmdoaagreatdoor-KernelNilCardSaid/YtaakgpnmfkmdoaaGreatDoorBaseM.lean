/- Several texts in one (each with its own sentence below). -/
import Derived.Test.YtaakgpnmfkmdoaaGreatDoorProg
import Derived.KernelRfl
import Derived.WalkKit
import Derived.Outline
import Derived.Below
import Derived.Deep.QuietTactic
import Derived.BigQuiet
import Derived.RegionTactic
import Derived.BigRegion
import Derived.Lib.Hide
import Derived.Laws.CopyOwn
import Derived.Deep.LoopGhost
import Derived.Deep.OwnRows
import Derived.Laws.Bits64b
import Derived.Carry
import Derived.MapKept
import Derived.Deep.AppendLies
import Derived.Deep.Quiet
import Derived.Deep.MidRow
import Derived.ProofKit
import Derived.OpenShut
import Derived.ShutString
import Derived.ChangeOld
import Derived.Deep.Slices
import Derived.Maps.AppendAt
import Derived.Laws.OwnMore
/- Small facts on the model's worlds that every text of this seat uses: a block known whole, what a call may have turned. No condition. -/
namespace Go.Proofs.YtaakgpnmfkmdoaaGreatDoor
set_option linter.unusedVariables false
set_option linter.unusedSimpArgs false
open Go.RowKit

theorem cellAt {w : World} {b T : Nat} {c : Array Value} (h : w.heap[b]? = some (.cells c T (0,0))) (o : Nat) : w.cell? ⟨b, o, none⟩ = c[o]? := by
  simp [World.cell?, h]
theorem freeAt {w : World} {b T : Nat} {c : Array Value} (h : w.heap[b]? = some (.cells c T (0,0))) (o : Nat) : w.frozen? ⟨b, o, none⟩ = false := by
  simp [World.frozen?, h]

theorem ltOf {w : World} {b : Nat} {o : Obj} (h : w.heap[b]? = some o) : b < w.heap.size := (Array.getElem?_eq_some_iff.1 h).1

theorem heapSet {w : World} {b T : Nat} {c : Array Value} (h : w.heap[b]? = some (.cells c T (0,0))) (o : Nat) (v : Value) :
    (w.setCell ⟨b, o, none⟩ v).heap[b]? = some (.cells (c.setIfInBounds o v) T (0,0)) := by
  simp [World.setCell, Array.getElem?_modify, h]

theorem heapSetW {u w : World} {b T : Nat} {c : Array Value} (e : u.heap = w.heap) (h : w.heap[b]? = some (.cells c T (0,0))) (o : Nat) (v : Value) :
    (u.setCell ⟨b, o, none⟩ v).heap[b]? = some (.cells (c.setIfInBounds o v) T (0,0)) := heapSet (by rw [e]; exact h) o v

theorem heapSetNe {w : World} {b k o : Nat} {v : Value} (hk : k ≠ b) : (w.setCell ⟨b, o, none⟩ v).heap[k]? = w.heap[k]? := by
  simp [World.setCell, Array.getElem?_modify, Ne.symm hk]

theorem heapNew (w : World) (o : Obj) : (w.alloc o).heap[w.heap.size]? = some o := by
  show (w.heap.push o)[w.heap.size]? = _; simp
theorem heapOld {w : World} {o : Obj} {k : Nat} {x : Obj} (h : w.heap[k]? = some x) : (w.alloc o).heap[k]? = some x := by
  have := ltOf h
  show (w.heap.push o)[k]? = _
  rw [Array.getElem?_push, if_neg (by omega)]; exact h
theorem sizeNew (w : World) (o : Obj) : (w.alloc o).heap.size = w.heap.size + 1 := by
  show (w.heap.push o).size = _; simp
theorem sizeSet (w : World) (a : Addr) (v : Value) : (w.setCell a v).heap.size = w.heap.size := by simp [World.setCell]

/-- Of what was there, only blocks of S may have turned. -/
structure Mod (S : List Nat) (w w' : World) : Prop where
  os : w'.os = w.os
  tape : w'.tape = w.tape
  output : w'.output = w.output
  size : w.heap.size ≤ w'.heap.size
  block : ∀ k, k < w.heap.size → k ∉ S → w'.heap[k]? = w.heap[k]?

theorem Mod.refl (S : List Nat) (w : World) : Mod S w w := ⟨rfl, rfl, rfl, Nat.le_refl _, fun _ _ _ => rfl⟩
/-- Two steps; the second one may turn what the first one made. -/
theorem Mod.trans {S T : List Nat} {a b c : World} (h : Mod S a b) (g : Mod T b c) (hT : ∀ k, k ∈ T → k ∈ S ∨ a.heap.size ≤ k) : Mod S a c :=
  ⟨g.os.trans h.os, g.tape.trans h.tape, g.output.trans h.output, Nat.le_trans h.size g.size, fun k hk hS => by
    rw [g.block k (Nat.lt_of_lt_of_le hk h.size) (fun hk' => (hT k hk').elim hS (by omega)), h.block k hk hS]⟩
theorem Mod.drew {S : List Nat} {a w : World} (h : Mod S a w) : Mod S a w.drew := ⟨h.os, h.tape, h.output, h.size, h.block⟩
theorem Mod.drewN {S : List Nat} {a w : World} (h : Mod S a w) (n : Nat) : Mod S a (w.drewN n) := ⟨h.os, h.tape, h.output, h.size, h.block⟩
theorem Mod.alloc {S : List Nat} {a w : World} (h : Mod S a w) (o : Obj) : Mod S a (w.alloc o) :=
  ⟨h.os, h.tape, h.output, by rw [sizeNew]; have := h.size; omega, fun k hk hS => by
    rw [← h.block k hk hS]; exact Below.heap_alloc _ _ _ (Nat.lt_of_lt_of_le hk h.size)⟩
theorem Mod.setCell {S : List Nat} {a w : World} (h : Mod S a w) {p : Addr} (hp : p.block ∈ S ∨ a.heap.size ≤ p.block) (v : Value) : Mod S a (w.setCell p v) :=
  ⟨h.os, h.tape, h.output, by rw [sizeSet]; exact h.size, fun k hk hS => by
    rw [← h.block k hk hS]; exact Below.heap_setCell _ _ _ _ (fun e => hp.elim (fun hp => hS (e ▸ hp)) (by omega))⟩
theorem Mod.mono {S T : List Nat} {a w : World} (h : Mod S a w) (hT : ∀ k, k ∈ S → k ∈ T ∨ a.heap.size ≤ k) : Mod T a w :=
  ⟨h.os, h.tape, h.output, h.size, fun k hk hS => h.block k hk (fun hk' => (hT k hk').elim hS (by omega))⟩
theorem Mod.below {S : List Nat} {a w : World} {B : Nat} (h : Mod S a w) (hB : B ≤ a.heap.size) (hS : ∀ k, k ∈ S → B ≤ k) : Below B a w :=
  ⟨h.os, h.tape, h.output, h.size, fun k hk => h.block k (by omega) (fun hk' => by have := hS k hk'; omega)⟩
theorem Below.mod {a w : World} {B : Nat} {S : List Nat} (h : Below B a w) (hB : a.heap.size ≤ B) : Mod S a w :=
  ⟨h.os, h.tape, h.output, h.size, fun k hk _ => h.block k (by omega)⟩
theorem Mod.keep {S : List Nat} {w w' : World} (h : Mod S w w') {k : Nat} {o : Obj} (hk : w.heap[k]? = some o) (hS : k ∉ S) : w'.heap[k]? = some o :=
  (h.block k (ltOf hk) hS).trans hk
theorem Mod.cell {S : List Nat} {w w' : World} (h : Mod S w w') {p : Addr} (hk : p.block < w.heap.size) (hS : p.block ∉ S) : w'.cell? p = w.cell? p :=
  World.cell?_of_block (w := w) (h.block _ hk hS)

theorem Mod.setRow {S : List Nat} {a w : World} (h : Mod S a w) {g : Nat} (hg : g ∈ S ∨ a.heap.size ≤ g) (cs : Array Value) : Mod S a (w.setRow g cs) :=
  ⟨h.os, h.tape, h.output, by have := h.size; simp [World.setRow]; omega, fun k hk hS => by
    rw [← h.block k hk hS]; exact setRow_other w g k cs (fun e => hg.elim (fun hp => hS (e ▸ hp)) (by omega))⟩

theorem Mod.undrew {S : List Nat} {a w : World} (h : Mod S a.drew w) : Mod S a w := ⟨h.os, h.tape, h.output, h.size, h.block⟩
theorem Mod.undrewN {S : List Nat} {a w : World} {k : Nat} (h : Mod S (a.drewN k) w) : Mod S a w := ⟨h.os, h.tape, h.output, h.size, h.block⟩
theorem ltOfCell {w : World} {p : Addr} {v : Value} (h : w.cell? p = some v) : p.block < w.heap.size := by
  unfold World.cell? at h
  split at h
  · rename_i hh; exact ltOf hh
  · cases h
/-- A cell of a block that is none of S reads as it did. -/
theorem Mod.at {S : List Nat} {w w' : World} (m : Mod S w w') {p : Addr} {v : Value} (h : w.cell? p = some v) (hS : p.block ∉ S) : w'.cell? p = some v :=
  (m.cell (ltOfCell h) hS).trans h
/-- .. and so does one behind a new block. -/
theorem cellNew {w : World} {p : Addr} {v : Value} (o : Obj) (h : w.cell? p = some v) : (w.alloc o).cell? p = some v :=
  ((Mod.refl [] w).alloc o).at h (by simp)

/-- Nothing has turned but the count of draws. -/
def Drew (w w' : World) : Prop := ∃ k, w' = w.drewN k
theorem Drew.refl (w : World) : Drew w w := ⟨0, rfl⟩
theorem Drew.drewN {w u : World} (h : Drew w u) (k : Nat) : Drew w (u.drewN k) := by
  obtain ⟨j, rfl⟩ := h
  exact ⟨j + k, by simp⟩
theorem Drew.drew {w u : World} (h : Drew w u) : Drew w u.drew := h.drewN 1
theorem Drew.trans {a b c : World} (h : Drew a b) (g : Drew b c) : Drew a c := by
  obtain ⟨k, rfl⟩ := g
  exact h.drewN k
theorem Drew.mod {S : List Nat} {a b : World} (h : Drew a b) : Mod S a b := by
  obtain ⟨k, rfl⟩ := h
  exact (Mod.refl _ _).drewN k
theorem Drew.heap {a b : World} (h : Drew a b) : b.heap = a.heap := by
  obtain ⟨k, rfl⟩ := h
  rfl

/-- The call returns v; nothing has turned but the count of draws. -/
def Ret (v : Value) (w : World) (e : Ending) (w' : World) : Prop := e = .returned v ∧ Drew w w'
/-- The call returns v, of what was there only S may have turned, and R holds then. -/
def Rets (v : Value) (S : List Nat) (w : World) (R : World → Prop) (e : Ending) (w' : World) : Prop := e = .returned v ∧ Mod S w w' ∧ R w'

theorem Ret.of {v u : Value} {w w' : World} (h : u = v) (hd : Drew w w') : Ret v w (.returned u) w' := ⟨by rw [h], hd⟩

theorem Rets.of {v u : Value} {S : List Nat} {w w' : World} {R : World → Prop} (h : u = v) (m : Mod S w w') (r : R w') : Rets v S w R (.returned u) w' := ⟨by rw [h], m, r⟩
theorem toNatAdd (n : Nat) : ((n : Int) + 1) = ((n + 1 : Nat) : Int) := by omega
theorem toNatSub {n : Nat} (h : 1 ≤ n) : ((n : Int) - 1) = ((n - 1 : Nat) : Int) := by omega

end Go.Proofs.YtaakgpnmfkmdoaaGreatDoor

/- The walks over sums of two 64-bit numbers in packages num and davitref02: the sum, or that it does not fit. No condition but that the numbers are 64-bit ones. -/
namespace Go.Proofs.YtaakgpnmfkmdoaaGreatDoor
set_option linter.unusedVariables false
set_option linter.unusedSimpArgs false
open Go.RowKit

def In64 (n : Int) : Prop := -9223372036854775808 ≤ n ∧ n ≤ 9223372036854775807
instance instNum1 (n : Int) : Decidable (In64 n) := by unfold In64; infer_instance
def addV (a b : Int) : Int := if In64 (a + b) then a + b else 0
def addE (a b : Int) : Int := if In64 (a + b) then 0 else 16


theorem fit_yes (n : Int) (w : World) : Calls Tryz.prog 190 #[.int .i64 n, .bool true] w (Ret (.tuple #[.int .i64 n, .int .i64 0]) w) := by
  go_enter Tryz.func190, Tryz.ntmps190
  go_wp2
  go_ret2
  exact Ret.of (rfl) (by repeat (first | exact Drew.refl _ | apply Drew.drewN | apply Drew.drew))
theorem fit_no (n : Int) (w : World) : Calls Tryz.prog 190 #[.int .i64 n, .bool false] w (Ret (.tuple #[.int .i64 0, .int .i64 16]) w) := by
  go_enter Tryz.func190, Tryz.ntmps190
  go_wp2
  go_ret2
  exact Ret.of (rfl) (by repeat (first | exact Drew.refl _ | apply Drew.drewN | apply Drew.drew))

theorem numAdd (a b : Int) (w : World) (ha : In64 a) (hb : In64 b) : Calls Tryz.prog 284 #[.int .i64 a, .int .i64 b] w (Ret (.tuple #[.int .i64 (addV a b), .int .i64 (addE a b)]) w) := by
  obtain ⟨ha1, ha2⟩ := ha
  obtain ⟨hb1, hb2⟩ := hb
  by_cases h : In64 (a + b)
  · have hV : addV a b = a + b := by simp [addV, h]
    have hE : addE a b = 0 := by simp [addE, h]
    rw [hV, hE]
    clear hV hE
    obtain ⟨h1, h2⟩ := h
    by_cases hb0 : b < 0
    · have e1 : decide (a + b < a) = true := decide_eq_true (by omega)
      have e2 : decide (b < 0) = true := decide_eq_true hb0
      go_enter Tryz.func284, Tryz.ntmps284
      go_wp2_with (go_at_call 190; refine (fit_yes _ _).mono ?_; rintro e w' ⟨rfl, k, rfl⟩)
      go_ret2
      exact Ret.of (rfl) (by repeat (first | exact Drew.refl _ | apply Drew.drewN | apply Drew.drew))
    · have e1 : decide (a + b < a) = false := decide_eq_false (by omega)
      have e2 : decide (b < 0) = false := decide_eq_false hb0
      go_enter Tryz.func284, Tryz.ntmps284
      go_wp2_with (go_at_call 190; refine (fit_yes _ _).mono ?_; rintro e w' ⟨rfl, k, rfl⟩)
      go_ret2
      exact Ret.of (rfl) (by repeat (first | exact Drew.refl _ | apply Drew.drewN | apply Drew.drew))
  · have hV : addV a b = 0 := by simp [addV, h]
    have hE : addE a b = 16 := by simp [addE, h]
    rw [hV, hE]
    clear hV hE
    unfold In64 at h
    by_cases hb0 : b < 0
    · have e0 : wrap64 (a + b) = a + b + 18446744073709551616 := by unfold wrap64; omega
      have e1 : decide (wrap64 (a + b) < a) = false := decide_eq_false (by omega)
      have e2 : decide (b < 0) = true := decide_eq_true hb0
      clear e0
      go_enter Tryz.func284, Tryz.ntmps284
      go_wp2_with (go_at_call 190; refine (fit_no _ _).mono ?_; rintro e w' ⟨rfl, k, rfl⟩)
      go_ret2
      exact Ret.of (rfl) (by repeat (first | exact Drew.refl _ | apply Drew.drewN | apply Drew.drew))
    · have e0 : wrap64 (a + b) = a + b - 18446744073709551616 := by unfold wrap64; omega
      have e1 : decide (wrap64 (a + b) < a) = true := decide_eq_true (by omega)
      have e2 : decide (b < 0) = false := decide_eq_false hb0
      clear e0
      go_enter Tryz.func284, Tryz.ntmps284
      go_wp2_with (go_at_call 190; refine (fit_no _ _).mono ?_; rintro e w' ⟨rfl, k, rfl⟩)
      go_ret2
      exact Ret.of (rfl) (by repeat (first | exact Drew.refl _ | apply Drew.drewN | apply Drew.drew))


end Go.Proofs.YtaakgpnmfkmdoaaGreatDoor

/- Rows of whole numbers in memory, read and written by index. No condition. -/
namespace Go.Proofs.YtaakgpnmfkmdoaaGreatDoor
set_option linter.unusedVariables false
set_option linter.unusedSimpArgs false
open Go.RowKit

/-- Number i of a list; 0 behind its end. -/
def nth (l : List Int) (i : Nat) : Int := l.getD i 0
/-- The cells of a row that holds the whole numbers l. -/
def rowI (k : IntKind) (l : List Int) : Array Value := (l.map (Value.int k)).toArray
theorem rowI_size (k : IntKind) (l : List Int) : (rowI k l).size = l.length := by simp [rowI]
theorem rowI_get {k : IntKind} {l : List Int} {i : Nat} (h : i < l.length) : (rowI k l)[i]? = some (.int k (nth l i)) := by
  simp [rowI, nth, List.getD, h]
theorem rowI_set {k : IntKind} {l : List Int} (i : Nat) (v : Int) : (rowI k l).setIfInBounds i (.int k v) = rowI k (l.set i v) := by
  apply Array.ext_getElem?
  intro j
  rw [Array.getElem?_setIfInBounds]
  simp only [rowI, List.getElem?_toArray, List.getElem?_map, List.getElem?_set, List.size_toArray, List.length_map]
  by_cases e : i = j
  · subst e
    by_cases h : i < l.length <;> simp [h]
  · simp [e]
theorem rowI_made (k : IntKind) (n : Nat) : madeCells #[.int k 0] n = rowI k (List.replicate n 0) := by
  apply Array.ext_getElem?
  intro j
  by_cases h : j < n
  · simp [madeCells, rowI, Nat.mod_one, h]
  · simp [madeCells, rowI, h]
theorem nth_set {l : List Int} {i j : Nat} {v : Int} (h : i < l.length) : nth (l.set i v) j = if i = j then v else nth l j := by
  simp only [nth, List.getD, List.getElem?_set]
  by_cases e : i = j
  · subst e; simp [h]
  · simp [e]
theorem nth_rep (n i : Nat) : nth (List.replicate n 0) i = 0 := by
  simp only [nth, List.getD, List.getElem?_replicate]
  split <;> rfl
theorem sum_set : ∀ (l : List Int) (i : Nat) (v : Int), i < l.length → (l.set i v).sum = l.sum - nth l i + v
  | [], i, v, h => by simp at h
  | a :: l, 0, v, h => by simp [nth]; omega
  | a :: l, i + 1, v, h => by
    have := sum_set l i v (by simpa using h)
    simp only [List.set_cons_succ, List.sum_cons, this]
    simp [nth]
    omega

end Go.Proofs.YtaakgpnmfkmdoaaGreatDoor

/- Things in memory: a thing holds on its own blocks alone; several things apart from each other; what a call on one of them leaves of the others. No condition. -/
namespace Go.Proofs.YtaakgpnmfkmdoaaGreatDoor
set_option linter.unusedVariables false
set_option linter.unusedSimpArgs false
open Go.RowKit

/-- A thing: what is so of its blocks F in a world; it stays so while they are not touched. -/
structure Res where
  holds : List Nat → World → Prop
  keep : ∀ {F S : List Nat} {w w' : World}, holds F w → Mod S w w' → (∀ b, b ∈ F → b ∉ S) → holds F w'
  lt : ∀ {F : List Nat} {w : World}, holds F w → ∀ b, b ∈ F → b < w.heap.size
/-- One block, known whole. -/
def Res.blk (b : Nat) (o : Obj) : Res where
  holds F w := F = [b] ∧ w.heap[b]? = some o
  keep h m hS := ⟨h.1, m.keep h.2 (hS _ (by rw [h.1]; exact List.mem_singleton_self _))⟩
  lt h b hb := by rw [h.1, List.mem_singleton] at hb; subst hb; exact ltOf h.2
def Res.ex {α : Type} (f : α → Res) : Res where
  holds F w := ∃ a, (f a).holds F w
  keep h m hS := h.elim fun a h => ⟨a, (f a).keep h m hS⟩
  lt h := h.elim fun a h => (f a).lt h
def Res.such (p : Prop) (P : Res) : Res where
  holds F w := p ∧ P.holds F w
  keep h m hS := ⟨h.1, P.keep h.2 m hS⟩
  lt h := P.lt h.2
/-- Things apart from each other. -/
def Stars : List Res → List Nat → World → Prop
  | [], F, _ => F = []
  | P :: l, F, w => ∃ F1 F2, F = F1 ++ F2 ∧ P.holds F1 w ∧ Stars l F2 w ∧ ∀ b, b ∈ F1 → b ∉ F2
theorem Stars.keep : ∀ {l : List Res} {F S : List Nat} {w w' : World}, Stars l F w → Mod S w w' → (∀ b, b ∈ F → b ∉ S) → Stars l F w'
  | [], _, _, _, _, h, _, _ => h
  | P :: l, _, _, _, _, ⟨F1, F2, e, h1, h2, h3⟩, m, hS => by
    subst e
    exact ⟨F1, F2, rfl, P.keep h1 m (fun b hb => hS b (List.mem_append_left _ hb)), h2.keep m (fun b hb => hS b (List.mem_append_right _ hb)), h3⟩
theorem Stars.lt : ∀ {l : List Res} {F : List Nat} {w : World}, Stars l F w → ∀ b, b ∈ F → b < w.heap.size
  | [], _, _, h, b, hb => by rw [show _ = _ from h] at hb; cases hb
  | P :: l, _, _, ⟨F1, F2, e, h1, h2, h3⟩, b, hb => by
    subst e
    rcases List.mem_append.1 hb with hb | hb
    · exact P.lt h1 b hb
    · exact h2.lt b hb
def Res.star (l : List Res) : Res := ⟨Stars l, Stars.keep, Stars.lt⟩

/-- What may come of a thing that lay in blocks F. -/
def Gain (P : Res) (F : List Nat) (w w' : World) : Prop := ∃ F', P.holds F' w' ∧ Mod F w w' ∧ ∀ b, b ∈ F' → b ∈ F ∨ w.heap.size ≤ b
/-- The call returns v and leaves P of a thing that lay in F. -/
def Turns (P : Res) (F : List Nat) (v : Value) (w : World) (e : Ending) (w' : World) : Prop := e = .returned v ∧ Gain P F w w'
/-- .. with a result that is told with what is left. -/
def TurnsV {α : Type} (v : α → Value) (P : α → Res) (F : List Nat) (w : World) (e : Ending) (w' : World) : Prop := ∃ x, e = .returned (v x) ∧ Gain (P x) F w w'
theorem Turns.v {P : Res} {F : List Nat} {v : Value} {w : World} {e : Ending} {w' : World} (h : Turns P F v w e w') : TurnsV (fun _ : Unit => v) (fun _ => P) F w e w' := ⟨(), h⟩

theorem Stars.frame : ∀ {l : List Res} {F : List Nat} {w : World} (k : Nat) {P : Res}, Stars l F w → l[k]? = some P →
    ∃ F1, P.holds F1 w ∧ (∀ b, b ∈ F1 → b ∈ F) ∧ ∀ {w' : World} {P' : Res}, Gain P' F1 w w' → ∃ F', Stars (l.set k P') F' w' ∧ ∀ b, b ∈ F' → b ∈ F ∨ w.heap.size ≤ b
  | [], _, _, _, _, _, hk => by simp at hk
  | Q :: l, _, w, 0, P, ⟨F1, F2, e, h1, h2, h3⟩, hk => by
    subst e
    cases hk
    refine ⟨F1, h1, fun b hb => List.mem_append_left _ hb, ?_⟩
    rintro w' P' ⟨F', g1, g2, g3⟩
    have hl := h2.lt
    refine ⟨F' ++ F2, ⟨F', F2, rfl, g1, h2.keep g2 (fun b hb hb' => h3 b hb' hb), fun b hb hb' => ?_⟩, fun b hb => ?_⟩
    · rcases g3 b hb with hb | hb
      · exact h3 b hb hb'
      · have := hl b hb'; omega
    · rcases List.mem_append.1 hb with hb | hb
      · rcases g3 b hb with hb | hb
        · exact .inl (List.mem_append_left _ hb)
        · exact .inr hb
      · exact .inl (List.mem_append_right _ hb)
  | Q :: l, _, w, k + 1, P, ⟨F1, F2, e, h1, h2, h3⟩, hk => by
    subst e
    obtain ⟨F3, p1, p2, p3⟩ := h2.frame k (by simpa using hk)
    have hl := Q.lt h1
    refine ⟨F3, p1, fun b hb => List.mem_append_right _ (p2 b hb), ?_⟩
    rintro w' P' ⟨F', g1, g2, g3⟩
    obtain ⟨F4, q1, q2⟩ := p3 ⟨F', g1, g2, g3⟩
    refine ⟨F1 ++ F4, ⟨F1, F4, rfl, Q.keep h1 g2 (fun b hb hb' => h3 b hb (p2 b hb')), q1, fun b hb hb' => ?_⟩, fun b hb => ?_⟩
    · rcases q2 b hb' with hb' | hb'
      · exact h3 b hb hb'
      · have := hl b hb; omega
    · rcases List.mem_append.1 hb with hb | hb
      · exact .inl (List.mem_append_left _ hb)
      · rcases q2 b hb with hb | hb
        · exact .inl (List.mem_append_right _ hb)
        · exact .inr hb
theorem Stars.append : ∀ {l m : List Res} {F : List Nat} {w : World}, Stars (l ++ m) F w ↔ ∃ F1 F2, F = F1 ++ F2 ∧ Stars l F1 w ∧ Stars m F2 w ∧ ∀ b, b ∈ F1 → b ∉ F2
  | [], m, F, w => by
    constructor
    · intro h; exact ⟨[], F, rfl, rfl, h, by simp⟩
    · rintro ⟨F1, F2, rfl, h1, h2, _⟩
      rw [show F1 = [] from h1]; exact h2
  | P :: l, m, F, w => by
    constructor
    · rintro ⟨F1, F2, rfl, h1, h2, h3⟩
      obtain ⟨F3, F4, rfl, p1, p2, p3⟩ := Stars.append.1 h2
      refine ⟨F1 ++ F3, F4, by simp, ⟨F1, F3, rfl, h1, p1, fun b hb hb' => h3 b hb (List.mem_append_left _ hb')⟩, p2, fun b hb hb' => ?_⟩
      rcases List.mem_append.1 hb with hb | hb
      · exact h3 b hb (List.mem_append_right _ hb')
      · exact p3 b hb hb'
    · rintro ⟨F1, F2, rfl, ⟨F3, F4, rfl, p0, p1, p2⟩, h2, h3⟩
      refine ⟨F3, F4 ++ F2, by simp, p0, Stars.append.2 ⟨F4, F2, rfl, p1, h2, fun b hb hb' => h3 b (List.mem_append_right _ hb) hb'⟩, fun b hb hb' => ?_⟩
      rcases List.mem_append.1 hb' with hb' | hb'
      · exact p2 b hb hb'
      · exact h3 b (List.mem_append_left _ hb) hb'
theorem Stars.perm {l m : List Res} (h : l.Perm m) : ∀ {F : List Nat} {w : World}, Stars l F w → ∃ F', Stars m F' w ∧ ∀ b, b ∈ F' ↔ b ∈ F := by
  induction h with
  | nil => intro F w h; exact ⟨F, h, fun _ => Iff.rfl⟩
  | cons P _ ih =>
    rintro F w ⟨F1, F2, rfl, h1, h2, h3⟩
    obtain ⟨F3, p1, p2⟩ := ih h2
    exact ⟨F1 ++ F3, ⟨F1, F3, rfl, h1, p1, fun b hb hb' => h3 b hb ((p2 b).1 hb')⟩, fun b => by simp [p2]⟩
  | swap P Q l =>
    rintro F w ⟨F1, F2, rfl, h1, ⟨F3, F4, rfl, p1, p2, p3⟩, h3⟩
    refine ⟨F3 ++ (F1 ++ F4), ⟨F3, F1 ++ F4, rfl, p1, ⟨F1, F4, rfl, h1, p2, fun b hb hb' => h3 b hb (List.mem_append_right _ hb')⟩, fun b hb hb' => ?_⟩, fun b => by simp; grind⟩
    rcases List.mem_append.1 hb' with hb' | hb'
    · exact h3 b hb' (List.mem_append_left _ hb)
    · exact p3 b hb hb'
  | trans _ _ ih1 ih2 =>
    intro F w h
    obtain ⟨F1, p1, p2⟩ := ih1 h
    obtain ⟨F2, q1, q2⟩ := ih2 p1
    exact ⟨F2, q1, fun b => (q2 b).trans (p2 b)⟩

theorem Stars.mem : ∀ {l : List Res} {F : List Nat} {w : World} {j : Nat} {Q : Res}, Stars l F w → l[j]? = some Q → ∃ F2, Q.holds F2 w ∧ ∀ b, b ∈ F2 → b ∈ F
  | [], _, _, _, _, _, hj => by simp at hj
  | P :: l, _, w, 0, Q, ⟨F1, F2, e, h1, h2, h3⟩, hj => by
    cases hj
    exact ⟨F1, h1, fun b hb => by rw [e]; exact List.mem_append_left _ hb⟩
  | P :: l, _, w, j + 1, Q, ⟨F1, F2, e, h1, h2, h3⟩, hj => by
    obtain ⟨F3, p1, p2⟩ := h2.mem (j := j) (by simpa using hj)
    exact ⟨F3, p1, fun b hb => by rw [e]; exact List.mem_append_right _ (p2 b hb)⟩
theorem Stars.apart : ∀ {l : List Res} {F : List Nat} {w : World} {i j : Nat} {P Q : Res}, Stars l F w → i < j → l[i]? = some P → l[j]? = some Q →
    ∃ F1 F2, P.holds F1 w ∧ Q.holds F2 w ∧ ∀ b, b ∈ F1 → b ∉ F2
  | [], _, _, _, _, _, _, _, _, hi, _ => by simp at hi
  | R :: l, _, w, 0, j + 1, P, Q, ⟨F1, F2, e, h1, h2, h3⟩, hij, hi, hj => by
    cases hi
    obtain ⟨F3, p1, p2⟩ := h2.mem (j := j) (by simpa using hj)
    exact ⟨F1, F3, h1, p1, fun b hb hb' => h3 b hb (p2 b hb')⟩
  | R :: l, _, w, i + 1, 0, P, Q, _, hij, _, _ => by omega
  | R :: l, _, w, i + 1, j + 1, P, Q, ⟨F1, F2, e, h1, h2, h3⟩, hij, hi, hj => h2.apart (i := i) (j := j) (by omega) (by simpa using hi) (by simpa using hj)

/-- Since w0, when they lay in F0, the things have become l. -/
def On (F0 : List Nat) (w0 : World) (l : List Res) (u : World) : Prop := ∃ F, Stars l F u ∧ Mod F0 w0 u ∧ ∀ b, b ∈ F → b ∈ F0 ∨ w0.heap.size ≤ b
section
variable {F0 : List Nat} {w0 u u' : World} {l : List Res}
theorem On.of {F : List Nat} (h : Stars l F u) : On F u l u := ⟨F, h, Mod.refl _ _, fun b hb => .inl hb⟩
theorem On.one {P : Res} {F : List Nat} (h : P.holds F u) : On F u [P] u := On.of ⟨F, [], by simp, h, rfl, by simp⟩
theorem On.start (w : World) : On [] w [] w := ⟨[], rfl, Mod.refl _ _, by simp⟩
theorem On.mod (h : On F0 w0 l u) : Mod F0 w0 u := h.choose_spec.2.1
theorem On.keep (h : On F0 w0 l u) (m : Mod [] u u') : On F0 w0 l u' := by
  obtain ⟨F, h1, h2, h3⟩ := h
  exact ⟨F, h1.keep m (by simp), h2.trans m (by simp), h3⟩
theorem On.gain (h : On F0 w0 l u) (k : Nat) {P P' : Res} (hk : l[k]? = some P) : ∃ F, P.holds F u ∧ (∀ b, b ∈ F → b ∈ F0 ∨ w0.heap.size ≤ b) ∧ ∀ {u' : World} {P' : Res}, Gain P' F u u' → On F0 w0 (l.set k P') u' := by
  obtain ⟨F, h1, h2, h3⟩ := h
  obtain ⟨F1, p1, p2, p3⟩ := h1.frame k hk
  refine ⟨F1, p1, fun b hb => h3 b (p2 b hb), fun {u' P'} g => ?_⟩
  obtain ⟨F', q1, q2⟩ := p3 g
  obtain ⟨F'', g1, g2, g3⟩ := g
  refine ⟨F', q1, h2.trans g2 (fun b hb => h3 b (p2 b hb)), fun b hb => ?_⟩
  rcases q2 b hb with hb | hb
  · exact h3 b hb
  · have := h2.size; exact .inr (by omega)
theorem On.get (h : On F0 w0 l u) (k : Nat) {P : Res} (hk : l[k]? = some P) : ∃ F, P.holds F u := by
  obtain ⟨F, h1, _⟩ := h.gain (P' := P) k hk
  exact ⟨F, h1⟩
theorem On.call {P : Program} {f : FuncId} {args : Array Value} {v : Value} {R R' : Res} (h : On F0 w0 l u) (k : Nat) (hk : l[k]? = some R) (hc : ∀ F, R.holds F u → Calls P f args u (Turns R' F v u)) :
    Calls P f args u (fun e u' => e = .returned v ∧ On F0 w0 (l.set k R') u') := by
  obtain ⟨F, h1, h2, h3⟩ := h.gain (P' := R') k hk
  refine (hc F h1).mono ?_
  rintro e u' ⟨rfl, g⟩
  exact ⟨rfl, h3 g⟩
theorem On.callV {P : Program} {f : FuncId} {args : Array Value} {α : Type} {v : α → Value} {R : Res} {R' : α → Res} (h : On F0 w0 l u) (k : Nat) (hk : l[k]? = some R) (hc : ∀ F, R.holds F u → Calls P f args u (TurnsV v R' F u)) :
    Calls P f args u (fun e u' => ∃ x, e = .returned (v x) ∧ On F0 w0 (l.set k (R' x)) u') := by
  obtain ⟨F, h1, h2, h3⟩ := h.gain (P' := R) k hk
  refine (hc F h1).mono ?_
  rintro e u' ⟨x, rfl, g⟩
  exact ⟨x, rfl, h3 g⟩
theorem On.ask {P : Program} {f : FuncId} {args : Array Value} {v : Value} {R : Res} (h : On F0 w0 l u) (k : Nat) (hk : l[k]? = some R) (hc : ∀ F, R.holds F u → Calls P f args u (Ret v u)) :
    Calls P f args u (fun e u' => e = .returned v ∧ On F0 w0 l u' ∧ Drew u u') := by
  obtain ⟨F, h1⟩ := h.get k hk
  refine (hc F h1).mono ?_
  rintro e u' ⟨rfl, d⟩
  exact ⟨rfl, h.keep d.mod, d⟩
/-- A call that makes a thing out of nothing. -/
theorem On.make {P : Program} {f : FuncId} {args : Array Value} {α : Type} {v : α → Value} {R' : α → Res} (h : On F0 w0 l u) (hc : Calls P f args u (TurnsV v R' [] u)) :
    Calls P f args u (fun e u' => ∃ x, e = .returned (v x) ∧ On F0 w0 (l ++ [R' x]) u') := by
  obtain ⟨F, h1, h2, h3⟩ := h
  refine hc.mono ?_
  rintro e u' ⟨x, rfl, F', g1, g2, g3⟩
  have hl := h1.lt
  have hs := h2.size
  refine ⟨x, rfl, F ++ F', Stars.append.2 ⟨F, F', rfl, h1.keep g2 (by simp), ⟨F', [], by simp, g1, rfl, by simp⟩, fun b hb hb' => ?_⟩, h2.trans g2 (by simp), fun b hb => ?_⟩
  · rcases g3 b hb' with hb' | hb'
    · cases hb'
    · have := hl b hb; omega
  · rcases List.mem_append.1 hb with hb | hb
    · exact h3 b hb
    · rcases g3 b hb with hb | hb
      · cases hb
      · exact .inr (by omega)
theorem On.alloc (h : On F0 w0 l u) (o : Obj) : On F0 w0 (l ++ [Res.blk u.heap.size o]) (u.alloc o) := by
  obtain ⟨F, h1, h2, h3⟩ := h
  have hl := h1.lt
  have hs := h2.size
  refine ⟨F ++ [u.heap.size], Stars.append.2 ⟨F, _, rfl, h1.keep (S := []) ((Mod.refl _ _).alloc _) (by simp), ⟨[u.heap.size], [], by simp, ⟨rfl, heapNew _ _⟩, rfl, by simp⟩, fun b hb hb' => ?_⟩, h2.alloc _, fun b hb => ?_⟩
  · rw [List.mem_singleton] at hb'; subst hb'; have := hl _ hb; omega
  · rcases List.mem_append.1 hb with hb | hb
    · exact h3 b hb
    · rw [List.mem_singleton] at hb; subst hb; exact .inr hs
theorem On.held (h : On F0 w0 l u) (k : Nat) {b : Nat} {o : Obj} (hk : l[k]? = some (Res.blk b o)) : u.heap[b]? = some o := by
  obtain ⟨F, h1⟩ := h.get k hk
  exact h1.2
theorem On.cell (h : On F0 w0 l u) (k : Nat) {b T : Nat} {cs : Array Value} (hk : l[k]? = some (Res.blk b (.cells cs T (0,0)))) (o : Nat) : u.cell? ⟨b, o, none⟩ = cs[o]? := cellAt (h.held k hk) o
theorem On.free (h : On F0 w0 l u) (k : Nat) {b T : Nat} {cs : Array Value} (hk : l[k]? = some (Res.blk b (.cells cs T (0,0)))) (o : Nat) : u.frozen? ⟨b, o, none⟩ = false := freeAt (h.held k hk) o
theorem On.size (h : On F0 w0 l u) (k : Nat) {b : Nat} {o : Obj} (hk : l[k]? = some (Res.blk b o)) : b < u.heap.size := ltOf (h.held k hk)
theorem On.ne (h : On F0 w0 l u) (i j : Nat) (hij : i < j) {a b : Nat} {o o' : Obj} (hi : l[i]? = some (Res.blk a o)) (hj : l[j]? = some (Res.blk b o')) : a ≠ b := by
  obtain ⟨F, h1, _⟩ := h
  obtain ⟨F1, F2, p1, p2, p3⟩ := h1.apart hij hi hj
  rw [p1.1, p2.1] at p3
  intro e
  exact p3 a (by simp) (by simp [e])
theorem blk_turn {b : Nat} {o o' : Obj} {F : List Nat} (h : (Res.blk b o).holds F u) (m : Mod [b] u u') (hb : u'.heap[b]? = some o') : Gain (Res.blk b o') F u u' := by
  obtain ⟨rfl, h2⟩ := h
  exact ⟨[b], ⟨rfl, hb⟩, m, fun b hb => .inl hb⟩
theorem On.turn (h : On F0 w0 l u) (k : Nat) {b : Nat} {o o' : Obj} (hk : l[k]? = some (Res.blk b o)) (m : Mod [b] u u') (hb : u'.heap[b]? = some o') : On F0 w0 (l.set k (Res.blk b o')) u' := by
  obtain ⟨F, h1, h2, h3⟩ := h.gain (P' := Res.blk b o') k hk
  exact h3 (blk_turn h1 m hb)
theorem On.set (h : On F0 w0 l u) (k : Nat) {b T : Nat} {cs : Array Value} (hk : l[k]? = some (Res.blk b (.cells cs T (0,0)))) (o : Nat) (v : Value) :
    On F0 w0 (l.set k (Res.blk b (.cells (cs.setIfInBounds o v) T (0,0)))) (u.setCell ⟨b, o, none⟩ v) :=
  h.turn k hk ((Mod.refl _ _).setCell (by simp) _) (heapSet (h.held k hk) o v)
/-- Things are told in another way. -/
theorem On.imp {m : List Res} (h : On F0 w0 l u) (hi : ∀ F, Stars l F u → ∃ F', Stars m F' u ∧ ∀ b, b ∈ F' → b ∈ F) : On F0 w0 m u := by
  obtain ⟨F, h1, h2, h3⟩ := h
  obtain ⟨F', p1, p2⟩ := hi F h1
  exact ⟨F', p1, h2, fun b hb => h3 b (p2 b hb)⟩
theorem On.perm {m : List Res} (h : On F0 w0 l u) (hp : l.Perm m) : On F0 w0 m u := h.imp fun F hF => by
  obtain ⟨F', p1, p2⟩ := hF.perm hp
  exact ⟨F', p1, fun b hb => (p2 b).1 hb⟩
/-- A thing is seen as another one. -/
theorem On.as (h : On F0 w0 l u) (k : Nat) {P P' : Res} (hk : l[k]? = some P) (hi : ∀ F, P.holds F u → P'.holds F u) : On F0 w0 (l.set k P') u := by
  obtain ⟨F, h1, h2, h3⟩ := h.gain (P' := P') k hk
  exact h3 ⟨F, hi F h1, Mod.refl _ _, fun b hb => .inl hb⟩
theorem On.ex (h : On F0 w0 l u) (k : Nat) {α : Type} {f : α → Res} (hk : l[k]? = some (Res.ex f)) : ∃ a, On F0 w0 (l.set k (f a)) u := by
  obtain ⟨F, h1, h2, h3⟩ := h.gain (P' := Res.ex f) k hk
  obtain ⟨a, ha⟩ := h1
  exact ⟨a, h3 ⟨F, ha, Mod.refl _ _, fun b hb => .inl hb⟩⟩
theorem On.such (h : On F0 w0 l u) (k : Nat) {p : Prop} {P : Res} (hk : l[k]? = some (Res.such p P)) : p ∧ On F0 w0 (l.set k P) u := by
  obtain ⟨F, h1, h2, h3⟩ := h.gain (P' := P) k hk
  exact ⟨h1.1, h3 ⟨F, h1.2, Mod.refl _ _, fun b hb => .inl hb⟩⟩
theorem Stars.drop : ∀ {l : List Res} {F : List Nat} {w : World} (k : Nat), Stars l F w → ∃ F', Stars (l.eraseIdx k) F' w ∧ ∀ b, b ∈ F' → b ∈ F
  | [], F, _, _, h => ⟨F, h, fun _ h => h⟩
  | P :: l, _, _, 0, ⟨F1, F2, e, h1, h2, h3⟩ => ⟨F2, h2, fun b hb => by rw [e]; exact List.mem_append_right _ hb⟩
  | P :: l, _, _, k + 1, ⟨F1, F2, e, h1, h2, h3⟩ => by
    obtain ⟨F3, p1, p2⟩ := h2.drop k
    subst e
    refine ⟨F1 ++ F3, ⟨F1, F3, rfl, h1, p1, fun b hb hb' => h3 b hb (p2 b hb')⟩, fun b hb => ?_⟩
    rcases List.mem_append.1 hb with hb | hb
    · exact List.mem_append_left _ hb
    · exact List.mem_append_right _ (p2 b hb)
theorem On.drop (h : On F0 w0 l u) (k : Nat) : On F0 w0 (l.eraseIdx k) u := h.imp fun F hF => hF.drop k
theorem On.take {m : List Res} (h : On F0 w0 (l ++ m) u) : On F0 w0 l u := h.imp fun F hF => by
  obtain ⟨F1, F2, rfl, h1, h2, h3⟩ := Stars.append.1 hF
  exact ⟨F1, h1, fun b hb => List.mem_append_left _ hb⟩
/-- A thing of several things is laid open. -/
theorem Stars.laid : ∀ {l m : List Res} {F : List Nat} {w : World}, Stars (Res.star m :: l) F w ↔ Stars (m ++ l) F w
  | l, m, F, w => by
    constructor
    · rintro ⟨F1, F2, e, h1, h2, h3⟩
      exact Stars.append.2 ⟨F1, F2, e, h1, h2, h3⟩
    · intro h
      obtain ⟨F1, F2, e, h1, h2, h3⟩ := Stars.append.1 h
      exact ⟨F1, F2, e, h1, h2, h3⟩
theorem On.laid {m : List Res} : On F0 w0 (Res.star m :: l) u ↔ On F0 w0 (m ++ l) u := by
  constructor
  · intro h; exact h.imp fun F hF => ⟨F, Stars.laid.1 hF, fun _ h => h⟩
  · intro h; exact h.imp fun F hF => ⟨F, Stars.laid.2 hF, fun _ h => h⟩
theorem set_perm : ∀ {l : List Res} {k : Nat} {P Q : Res}, l[k]? = some P → (l.set k Q).Perm (Q :: l.eraseIdx k)
  | [], _, _, _, h => by simp at h
  | R :: l, 0, _, _, h => by simp
  | R :: l, k + 1, P, Q, h => by
    have := set_perm (l := l) (k := k) (Q := Q) (by simpa using h)
    simp only [List.set_cons_succ, List.eraseIdx_cons_succ]
    exact (List.Perm.cons _ this).trans (List.Perm.swap _ _ _)
/-- A star in the list: its first thing stands in its place, the others behind all. -/
theorem On.spill (h : On F0 w0 l u) (k : Nat) {A : Res} {B : List Res} (hk : l[k]? = some (Res.star (A :: B))) : On F0 w0 (l.set k A ++ B) u := by
  have h1 : On F0 w0 (Res.star (A :: B) :: l.eraseIdx k) u := h.perm (by
    have := set_perm (Q := Res.star (A :: B)) hk
    have e : l.set k (Res.star (A :: B)) = l := by
      apply List.ext_getElem?
      intro j
      rw [List.getElem?_set]
      split
      · rename_i e; subst e; rw [hk]; simp; exact (List.getElem?_eq_some_iff.1 hk).1
      · rfl
    rwa [e] at this)
  have h2 := On.laid.1 h1
  refine h2.perm ?_
  have h3 := set_perm (l := l) (k := k) (Q := A) hk
  exact (List.Perm.cons _ List.perm_append_comm).trans (List.Perm.append_right _ h3.symm)
/-- A thing that has no block. -/
theorem On.more (h : On F0 w0 l u) {P : Res} (hP : P.holds [] u) : On F0 w0 (l ++ [P]) u := h.imp fun F hF =>
  ⟨F ++ [], Stars.append.2 ⟨F, [], rfl, hF, ⟨[], [], rfl, hP, rfl, by simp⟩, by simp⟩, by simp⟩
theorem On.front {P : Res} (h : On F0 w0 (l ++ [P]) u) : On F0 w0 (P :: l) u := h.perm (List.perm_append_singleton P l)
theorem On.gains (h : On F0 w0 l u) : Gain (Res.star l) F0 w0 u := by
  obtain ⟨F, h1, h2, h3⟩ := h
  exact ⟨F, h1, h2, h3⟩
theorem On.gain1 {P : Res} (h : On F0 w0 [P] u) : Gain P F0 w0 u := by
  obtain ⟨F, ⟨F1, F2, rfl, h1, rfl, _⟩, h2, h3⟩ := h
  exact ⟨F1, h1, h2, fun b hb => h3 b (by simp [hb])⟩
theorem On.turns {v v' : Value} (h : On F0 w0 l u) (e : v' = v) : Turns (Res.star l) F0 v w0 (.returned v') u := ⟨by rw [e], h.gains⟩
theorem Gain.imp {P P' : Res} {F : List Nat} {w w' : World} (h : Gain P F w w') (hi : ∀ F, P.holds F w' → P'.holds F w') : Gain P' F w w' := by
  obtain ⟨F', h1, h2, h3⟩ := h
  exact ⟨F', hi _ h1, h2, h3⟩
end
end Go.Proofs.YtaakgpnmfkmdoaaGreatDoor

/- The walks over package mask and davitref01: a mask is a natural number below 2 to the 64. -/
namespace Go.Proofs.YtaakgpnmfkmdoaaGreatDoor
set_option linter.unusedVariables false
set_option linter.unusedSimpArgs false
open Go.RowKit

theorem wrapU (n : Nat) (h : n < 2 ^ 64) : IntKind.u64.wrap (n : Int) = n := by
  unfold IntKind.wrap
  simp only [IntKind.bits, IntKind.signed]
  simp; omega
theorem pow_lt {i : Nat} (h : i < 64) : 2 ^ i < 2 ^ 64 := Nat.pow_lt_pow_right (by omega) h
theorem mask_And (a b : Nat) (w : World) (ha : a < 2 ^ 64) (hb : b < 2 ^ 64) : Calls Tryz.prog 269 #[.int .u64 a, .int .u64 b] w (Ret (.int .u64 (a &&& b : Nat)) w) := by
  have hB := Lib.hid (bits_and_u64_nat a b ha hb)
  go_enter Tryz.func269, Tryz.ntmps269
  go_wp2
  go_ret
  exact Ret.of (by rw [← hB.out]; rfl) (by repeat (first | exact Drew.refl _ | apply Drew.drewN | apply Drew.drew))
theorem mask_one (a : Nat) (w : World) (ha : a < 64) : Calls Tryz.prog 81 #[.int .i64 a] w (Ret (.int .u64 (2 ^ a : Nat)) w) := by
  have hW := wrapU (2 ^ a) (pow_lt ha)
  rw [Int.natCast_pow] at hW
  have HW := Lib.hid hW
  clear hW
  go_enter Tryz.func81, Tryz.ntmps81
  go_wp2
  go_ret
  exact Ret.of (by rw [Int.natCast_pow, ← HW.out]; rfl) (by repeat (first | exact Drew.refl _ | apply Drew.drewN | apply Drew.drew))
theorem testBit_int (a i : Nat) : (((a : Int) / 2 ^ i).tmod 2 == 1) = a.testBit i := by
  rw [Nat.testBit_eq_decide_div_mod_eq]
  have h : ((a : Int) / 2 ^ i) = ((a / 2 ^ i : Nat) : Int) := by simp
  rw [h]
  generalize a / 2 ^ i = q
  rw [Int.tmod_eq_emod_of_nonneg (by omega)]
  by_cases e : q % 2 = 1
  · simp only [e, decide_true]
    have : (q : Int) % 2 = 1 := by omega
    rw [this]; rfl
  · simp only [e, decide_false]
    have : (q : Int) % 2 = 0 := by omega
    rw [this]; rfl
theorem rmask_Has (a i : Nat) (w : World) (hi : i < 64) : Calls Tryz.prog 24 #[.int .u64 a, .int .i64 i] w (Ret (.bool (a.testBit i)) w) := by
  have HT := Lib.hid (testBit_int a i)
  go_enter Tryz.func24, Tryz.ntmps24
  go_wp2
  go_ret
  exact Ret.of (by rw [← HT.out]; rfl) (by repeat (first | exact Drew.refl _ | apply Drew.drewN | apply Drew.drew))
theorem add_pow {a i : Nat} (h : a.testBit i = false) : a + 2 ^ i = a ||| 2 ^ i := by
  have h0 : a / 2 ^ i % 2 = 0 := by
    rw [Nat.testBit_eq_decide_div_mod_eq] at h
    have := of_decide_eq_false h
    omega
  have hp : 0 < 2 ^ i := Nat.pow_pos (by omega)
  have hlo : a % 2 ^ i < 2 ^ i := Nat.mod_lt _ hp
  have ha : a = 2 ^ (i + 1) * (a / 2 ^ i / 2) + a % 2 ^ i := by
    have h1 := Nat.div_add_mod a (2 ^ i)
    have h2 := Nat.div_add_mod (a / 2 ^ i) 2
    rw [Nat.pow_succ, Nat.mul_assoc]
    rw [h0] at h2
    have h3 : 2 * (a / 2 ^ i / 2) = a / 2 ^ i := by omega
    rw [h3]; omega
  generalize a % 2 ^ i = lo at *
  generalize a / 2 ^ i / 2 = hi at *
  subst ha
  have h1 : 2 ^ i + lo = 2 ^ i ||| lo := by have := Nat.two_pow_add_eq_or_of_lt hlo 1; simpa using this
  have h2 : lo < 2 ^ (i + 1) := by rw [Nat.pow_succ]; omega
  have h3 : 2 ^ i + lo < 2 ^ (i + 1) := by rw [Nat.pow_succ]; omega
  rw [Nat.add_assoc, Nat.add_comm lo, Nat.two_pow_add_eq_or_of_lt h3, Nat.two_pow_add_eq_or_of_lt h2, h1, Nat.or_assoc, Nat.or_comm lo]
theorem rmask_With (a i : Nat) (w : World) (ha : a < 2 ^ 64) (hi : i < 64) : Calls Tryz.prog 23 #[.int .u64 a, .int .i64 i] w (Ret (.int .u64 (a ||| 2 ^ i : Nat)) w) := by
  cases hb : a.testBit i
  · have h1 : IntKind.u64.wrap ((a : Int) + IntKind.u64.wrap (2 ^ i)) = ((a ||| 2 ^ i : Nat) : Int) := by
      have h2 := wrapU (2 ^ i) (pow_lt hi)
      rw [Int.natCast_pow] at h2
      rw [show (2 : Int) ^ i = ((2 : Nat) : Int) ^ i from rfl, h2, ← Int.natCast_pow, ← Int.natCast_add, add_pow hb]
      exact wrapU _ (Nat.or_lt_two_pow ha (pow_lt hi))
    have H1 := Lib.hid h1
    clear h1
    go_enter Tryz.func23, Tryz.ntmps23
    go_wp2_with (go_at_call 24; refine (rmask_Has a i _ hi).mono ?_; rw [hb]; rintro e w' ⟨rfl, k, rfl⟩)
    go_ret
    exact Ret.of (by rw [← H1.out]; rfl) (by repeat (first | exact Drew.refl _ | apply Drew.drewN | apply Drew.drew))
  · have h1 : a ||| 2 ^ i = a := by
      apply Nat.eq_of_testBit_eq
      intro j
      rw [Nat.testBit_or, Nat.testBit_two_pow]
      by_cases e : i = j
      · subst e; simp [hb]
      · simp [e]
    rw [h1]
    clear h1
    go_enter Tryz.func23, Tryz.ntmps23
    go_wp2_with (go_at_call 24; refine (rmask_Has a i _ hi).mono ?_; rw [hb]; rintro e w' ⟨rfl, k, rfl⟩)
    go_ret
    exact Ret.of (rfl) (by repeat (first | exact Drew.refl _ | apply Drew.drewN | apply Drew.drew))
end Go.Proofs.YtaakgpnmfkmdoaaGreatDoor

/- Maps whose keys are whole numbers: what a lookup, a store, delete and len do to the list of a map's entries. No condition. -/
namespace Go.Proofs.YtaakgpnmfkmdoaaGreatDoor
set_option linter.unusedVariables false
set_option linter.unusedSimpArgs false
open Go.RowKit

/-- The first entry of a key, with its place. -/
def mfind : List (Int × Value) → Int → Nat → Option (Nat × Value)
  | [], _, _ => none
  | p :: m, i, j => if i = p.1 then some (j, p.2) else mfind m i (j + 1)
def mget (m : List (Int × Value)) (i : Int) : Option Value := (mfind m i 0).map (·.2)
def mput (m : List (Int × Value)) (i : Int) (v : Value) : List (Int × Value) := match mfind m i 0 with | some (n, _) => m.set n (i, v) | none => m ++ [(i, v)]
def mdel (m : List (Int × Value)) (i : Int) : List (Int × Value) := match mfind m i 0 with | some (n, _) => m.eraseIdx n | none => m

/-- The entries of a map's block are those of m. -/
structure Ents (kk : IntKind) (es : Array MapEntry) (clk : Nat) (m : List (Int × Value)) : Prop where
  eq : es.toList.map (fun e => (e.key, e.val)) = m.map (fun p => (Value.int kk p.1, p.2))
  nodup : (m.map (·.1)).Nodup
  born : (es.toList.map (·.born)).Nodup
  lt : ∀ e ∈ es.toList, e.born < clk

/-- Block b is a map with the entries m. -/
def MapAt (kk : IntKind) (w : World) (b : Nat) (m : List (Int × Value)) : Prop := ∃ es clk, w.heap[b]? = some (.map es clk) ∧ Ents kk es clk m

theorem MapAt.keep {kk : IntKind} {S : List Nat} {w w' : World} {b : Nat} {m : List (Int × Value)} (h : MapAt kk w b m) (mm : Mod S w w') (hb : b ∉ S) : MapAt kk w' b m := by
  obtain ⟨es, clk, h1, h2⟩ := h
  exact ⟨es, clk, mm.keep h1 hb, h2⟩
theorem MapAt.same {kk : IntKind} {w w' : World} {b : Nat} {m : List (Int × Value)} (h : MapAt kk w b m) (e : w'.heap = w.heap) : MapAt kk w' b m := by
  obtain ⟨es, clk, h1, h2⟩ := h
  exact ⟨es, clk, by rw [e]; exact h1, h2⟩
theorem MapAt.new (kk : IntKind) (w : World) : MapAt kk (w.alloc (.map #[] 0)) w.heap.size [] :=
  ⟨#[], 0, heapNew _ _, by simp, by simp, by simp, by simp⟩
theorem MapAt.lt {kk : IntKind} {w : World} {b : Nat} {m : List (Int × Value)} (h : MapAt kk w b m) : b < w.heap.size := by
  obtain ⟨es, clk, h1, h2⟩ := h
  exact ltOf h1

theorem mfind_shift : ∀ (m : List (Int × Value)) (i : Int) (j : Nat), mfind m i j = (mfind m i 0).map (fun p => (p.1 + j, p.2))
  | [], i, j => rfl
  | p :: m, i, j => by
    unfold mfind
    split
    · simp
    · rw [mfind_shift m i (j + 1), mfind_shift m i (0 + 1)]
      cases mfind m i 0 <;> simp; omega

theorem mfind_some : ∀ {m : List (Int × Value)} {i : Int} {n : Nat} {v : Value}, mfind m i 0 = some (n, v) → m[n]? = some (i, v)
  | [], i, n, v, h => by simp [mfind] at h
  | p :: m, i, n, v, h => by
    unfold mfind at h
    split at h
    · rename_i e
      simp at h
      obtain ⟨rfl, rfl⟩ := h
      simp [e]
    · rw [mfind_shift] at h
      cases hm : mfind m i 0 with
      | none => simp [hm] at h
      | some q =>
        obtain ⟨a, b⟩ := q
        simp [hm] at h
        obtain ⟨rfl, rfl⟩ := h
        simpa using mfind_some hm
theorem mfind_none : ∀ {m : List (Int × Value)} {i : Int}, mfind m i 0 = none ↔ i ∉ m.map (·.1)
  | [], i => by simp [mfind]
  | p :: m, i => by
    unfold mfind
    split
    · rename_i e; simp [e]
    · rename_i e
      rw [mfind_shift]
      have := mfind_none (m := m) (i := i)
      cases hm : mfind m i 0 <;> simp_all

theorem findNow_eq (kk : IntKind) (i : Int) : ∀ (es : List MapEntry) (m : List (Int × Value)) (j : Nat), es.map (fun e => (e.key, e.val)) = m.map (fun p => (Value.int kk p.1, p.2)) → Instr.findNow (.int kk) (.int kk i) es j = some (mfind m i j)
  | [], [], j, h => rfl
  | [], p :: m, j, h => by simp at h
  | e :: es, [], j, h => by simp at h
  | e :: es, p :: m, j, h => by
    simp only [List.map_cons, List.cons.injEq, Prod.mk.injEq] at h
    obtain ⟨⟨h1, h2⟩, h3⟩ := h
    have ih := findNow_eq kk i es m (j + 1) h3
    unfold Instr.findNow mfind
    rw [h1, h2]
    simp only [Instr.sameNow, if_true]
    by_cases e : i = p.1
    · simp [e]
    · have : (i == p.1) = false := by simpa using e
      simp [this, e, ih]

section
variable {P : Program} {w : World} {b : Nat} {kk : IntKind} {m : List (Int × Value)} {t k e : TypeId}

theorem run_checkKey (he : P.underlying k = some (.int kk)) (x : Bool) (n : Nat) (v : Value) (w : World) : (Instr.checkKey x (n + 1) k v).run P w = .ok () w := by
  simp [Instr.checkKey, run_underlying he]

theorem map_lookup (h : MapAt kk w b m) (ht : P.underlying t = some (.map k e)) (hk : P.underlying k = some (.int kk)) (i : Int) {z : Value} (hz : ∀ w, (zeroValue e).run P w = .ok z w) :
    (Instr.lookup t (.map (some b)) (.int kk i) false).run P w = .ok ((mget m i).getD z) w := by
  obtain ⟨es, clk, hb, he⟩ := h
  have hc := fun x => run_checkKey (P := P) hk x 9999 (.int kk i) w
  have hf := findNow_eq kk i es.toList m 0 he.eq
  cases hm : mfind m i 0 with
  | none =>
    rw [hm] at hf
    simp [Instr.lookup, run_underlying ht, getObj, Sem.run, hb, hc, Instr.findKey, run_underlying hk, hf, hz, mget, hm]
  | some q =>
    rw [hm] at hf
    simp [Instr.lookup, run_underlying ht, getObj, Sem.run, hb, hc, Instr.findKey, run_underlying hk, hf, hz, mget, hm]
theorem map_lookup_nil (ht : P.underlying t = some (.map k e)) (hk : P.underlying k = some (.int kk)) (i : Int) {z : Value} (hz : ∀ w, (zeroValue e).run P w = .ok z w) (w : World) :
    (Instr.lookup t (.map none) (.int kk i) false).run P w = .ok z w := by
  have hc := fun x => run_checkKey (P := P) hk x 9999 (.int kk i) w
  simp [Instr.lookup, run_underlying ht, hc, Instr.findKey, run_underlying hk, Instr.findNow, hz]
theorem map_lookup2 (h : MapAt kk w b m) (ht : P.underlying t = some (.map k e)) (hk : P.underlying k = some (.int kk)) (i : Int) {z : Value} (hz : ∀ w, (zeroValue e).run P w = .ok z w) :
    (Instr.lookup t (.map (some b)) (.int kk i) true).run P w = .ok (.tuple #[(mget m i).getD z, .bool (mget m i).isSome]) w := by
  obtain ⟨es, clk, hb, he⟩ := h
  have hc := fun x => run_checkKey (P := P) hk x 9999 (.int kk i) w
  have hf := findNow_eq kk i es.toList m 0 he.eq
  cases hm : mfind m i 0 with
  | none =>
    rw [hm] at hf
    simp [Instr.lookup, run_underlying ht, getObj, Sem.run, hb, hc, Instr.findKey, run_underlying hk, hf, hz, mget, hm]
  | some q =>
    rw [hm] at hf
    simp [Instr.lookup, run_underlying ht, getObj, Sem.run, hb, hc, Instr.findKey, run_underlying hk, hf, hz, mget, hm]

/-- The world with another map in block b. -/
def setBlk (w : World) (b : Nat) (o : Obj) : World := { w with heap := w.heap.setIfInBounds b o }
theorem Mod.setBlk {S : List Nat} {a w : World} (h : Mod S a w) {b : Nat} (hb : b ∈ S ∨ a.heap.size ≤ b) (o : Obj) : Mod S a (setBlk w b o) :=
  ⟨h.os, h.tape, h.output, by have := h.size; show _ ≤ (w.heap.setIfInBounds b o).size; simpa using this, fun k hk hS => by
    show (w.heap.setIfInBounds b o)[k]? = _
    have hne : b ≠ k := fun q => by subst q; exact hb.elim hS (by omega)
    rw [Array.getElem?_setIfInBounds, if_neg hne, h.block k hk hS]⟩
theorem heapBlk {w : World} {b : Nat} {o : Obj} (h : b < w.heap.size) : (setBlk w b o).heap[b]? = some o := by
  show (w.heap.setIfInBounds b o)[b]? = _
  rw [Array.getElem?_setIfInBounds, if_pos rfl, if_pos h]

theorem mfind_lt {m : List (Int × Value)} {i : Int} {n : Nat} {v : Value} (h : mfind m i 0 = some (n, v)) : n < m.length := by
  have := mfind_some h
  exact (List.getElem?_eq_some_iff.1 this).1

theorem map_update (h : MapAt kk w b m) (ht : P.underlying t = some (.map k e)) (hk : P.underlying k = some (.int kk)) (i : Int) (v : Value) :
    ∃ w1, (Instr.mapUpdate t (.map (some b)) (.int kk i) v).run P w = .ok () w1 ∧ Mod [b] w w1 ∧ MapAt kk w1 b (mput m i v) := by
  obtain ⟨es, clk, hb, he⟩ := h
  have hl := ltOf hb
  have hc := fun x => run_checkKey (P := P) hk x 9999 (.int kk i) w
  have hf := findNow_eq kk i es.toList m 0 he.eq
  have hlen : es.toList.length = m.length := by have := congrArg List.length he.eq; simpa using this
  cases hm : mfind m i 0 with
  | none =>
    rw [hm] at hf
    refine ⟨setBlk w b (.map (es.push { key := .int kk i, val := v, born := clk }) (clk + 1)), ?_, (Mod.refl _ _).setBlk (by simp) _, _, _, heapBlk hl, ?_⟩
    · simp [Instr.mapUpdate, run_underlying ht, getObj, setObj, Sem.run, hb, hc, Instr.findKey, run_underlying hk, hf, setBlk]
    · have hn := mfind_none.1 hm
      refine ⟨?_, ?_, ?_, ?_⟩
      · simp only [mput, hm, Array.toList_push, List.map_append, he.eq, List.map_cons, List.map_nil]
      · simp only [mput, hm, List.map_append, List.map_cons, List.map_nil]
        refine List.nodup_append.2 ⟨he.nodup, by simp, ?_⟩
        intro x hx y hy e
        simp only [List.mem_singleton] at hy
        exact hn (hy ▸ e ▸ hx)
      · simp only [Array.toList_push, List.map_append, List.map_cons, List.map_nil]
        refine List.nodup_append.2 ⟨he.born, by simp, ?_⟩
        intro x hx y hy
        simp only [List.mem_singleton] at hy
        subst hy
        obtain ⟨z, hz, rfl⟩ := List.mem_map.1 hx
        exact Nat.ne_of_lt (he.lt z hz)
      · intro x hx
        simp only [Array.toList_push, List.mem_append, List.mem_singleton] at hx
        rcases hx with hx | rfl
        · exact Nat.lt_succ_of_lt (he.lt x hx)
        · exact Nat.lt_succ_self _
  | some q =>
    obtain ⟨n, v0⟩ := q
    rw [hm] at hf
    have hn := mfind_some hm
    have hn2 := mfind_lt hm
    have hne : ∃ e0, es[n]? = some e0 ∧ e0.key = .int kk i := by
      have h5 := congrArg (fun l => l[n]?) he.eq
      simp only [List.getElem?_map, hn, Option.map_some, Array.getElem?_toList] at h5
      cases h6 : es[n]? with
      | none => simp [h6] at h5
      | some e0 => simp [h6] at h5; exact ⟨e0, rfl, h5.1⟩
    obtain ⟨e0, he0, hk0⟩ := hne
    have hS := Go.MapKept.stamped_modify (es := es) (clock := clk) (by
      refine ⟨he.lt, he.born, ?_⟩
      have h7 : es.toList.map (·.key) = (m.map (·.1)).map (Value.int kk) := by
        have := congrArg (List.map Prod.fst) he.eq
        simpa [Function.comp_def] using this
      rw [h7, List.Nodup, List.pairwise_map]
      exact he.nodup.imp (fun h9 e9 => h9 (by cases e9; rfl))) n (fun e => { e with key := .int kk i, val := v }) (fun _ _ => rfl) (fun e _ h9 => by rw [he0] at h9; cases h9; simp [hk0])
    refine ⟨setBlk w b (.map (es.modify n fun e => { e with key := .int kk i, val := v }) clk), ?_, (Mod.refl _ _).setBlk (by simp) _, _, _, heapBlk hl, ?_⟩
    · have hkt : ((es[n]?).map (·.key)).getD (.int kk i) = .int kk i := by simp [he0, hk0]
      simp [Instr.mapUpdate, run_underlying ht, getObj, setObj, Sem.run, hb, hc, Instr.findKey, run_underlying hk, hf, setBlk, he0, hk0, Instr.keyThatStays, Instr.sameBits]
    · refine ⟨?_, ?_, hS.2.1, hS.1⟩
      · simp only [mput, hm]
        apply List.ext_getElem?
        intro j
        have h5 := congrArg (fun l => l[j]?) he.eq
        simp only [List.getElem?_map, Array.getElem?_toList] at h5
        simp only [List.getElem?_map, Array.getElem?_toList, Array.getElem?_modify, List.getElem?_set]
        by_cases hj : n = j
        · subst hj
          simp [he0, hn2]
        · simp only [hj, if_false]
          simpa using h5
      · simp only [mput, hm]
        have : (m.set n (i, v)).map (·.1) = m.map (·.1) := by
          apply List.ext_getElem?
          intro j
          simp only [List.getElem?_map, List.getElem?_set]
          by_cases hj : n = j
          · subst hj; simp [hn2]
            have := List.getElem?_eq_some_iff.1 hn
            obtain ⟨_, h9⟩ := this
            simp [h9]
          · simp [hj]
        rw [this]; exact he.nodup

theorem mapErase {α β : Type} (f : α → β) : ∀ (l : List α) (n : Nat), (l.eraseIdx n).map f = (l.map f).eraseIdx n
  | [], n => by simp
  | a :: l, 0 => by simp
  | a :: l, n + 1 => by simp [mapErase f l n]
theorem map_delete (h : MapAt kk w b m) (ht : P.underlying t = some (.map k e)) (hk : P.underlying k = some (.int kk)) (i : Int) :
    ∃ w1, (∀ ty, (Builtin.delete_ #[t, k] ty #[.map (some b), .int kk i]).run P w = .ok (.tuple #[]) w1) ∧ Mod [b] w w1 ∧ MapAt kk w1 b (mdel m i) := by
  obtain ⟨es, clk, hb, he⟩ := h
  have hl := ltOf hb
  have hc := fun x => run_checkKey (P := P) hk x 9999 (.int kk i) w
  have hf := findNow_eq kk i es.toList m 0 he.eq
  have hlen : es.size = m.length := by have := congrArg List.length he.eq; simpa using this
  cases hm : mfind m i 0 with
  | none =>
    rw [hm] at hf
    refine ⟨setBlk w b (.map es clk), fun ty => ?_, (Mod.refl _ _).setBlk (by simp) _, _, _, heapBlk hl, ?_⟩
    · simp [Builtin.delete_, run_underlying ht, getObj, setObj, Sem.run, hb, hc, Instr.findKey, run_underlying hk, hf, setBlk]
    · simp only [mdel, hm]; exact he
  | some q =>
    obtain ⟨n, v0⟩ := q
    rw [hm] at hf
    have hn2 := mfind_lt hm
    refine ⟨setBlk w b (.map (es.eraseIdxIfInBounds n) clk), fun ty => ?_, (Mod.refl _ _).setBlk (by simp) _, _, _, heapBlk hl, ?_⟩
    · simp [Builtin.delete_, run_underlying ht, getObj, setObj, Sem.run, hb, hc, Instr.findKey, run_underlying hk, hf, setBlk]
    · have hE : (es.eraseIdxIfInBounds n).toList = es.toList.eraseIdx n := by
        unfold Array.eraseIdxIfInBounds
        rw [dif_pos (by omega)]; simp
      have hs : (es.eraseIdxIfInBounds n).toList.Sublist es.toList := by rw [hE]; exact List.eraseIdx_sublist _ _
      refine ⟨?_, ?_, (hs.map _).nodup he.born, fun x hx => he.lt x (hs.subset hx)⟩
      · simp only [mdel, hm]
        rw [hE, mapErase, he.eq, mapErase]
      · simp only [mdel, hm]
        exact ((List.eraseIdx_sublist _ _).map _).nodup he.nodup
theorem map_delete_nil (ht : P.underlying t = some (.map k e)) (hk : P.underlying k = some (.int kk)) (i : Int) (w : World) (ty : TypeId) :
    (Builtin.delete_ #[t, k] ty #[.map none, .int kk i]).run P w = .ok (.tuple #[]) w := by
  have hc := fun x => run_checkKey (P := P) hk x 9999 (.int kk i) w
  simp [Builtin.delete_, run_underlying ht, hc]
end
end Go.Proofs.YtaakgpnmfkmdoaaGreatDoor

/- Slices of structs (or of anything of more than one cell) that one object owns: nil, or a block of cells with room behind; what append does. No condition but those named. -/
namespace Go.Proofs.YtaakgpnmfkmdoaaGreatDoor
set_option linter.unusedVariables false
set_option linter.unusedSimpArgs false
open Go.RowKit

def rA : Option Nat → Option Addr
  | none => none
  | some g => some ⟨g, 0, none⟩
def rF : Option Nat → List Nat
  | none => []
  | some g => [g]
/-- The slice with block g and capacity cap of elements of sz cells of type T holds n elements, whose cells are xs. -/
def RAt (T : TypeId) (sz : Nat) (w : World) (g : Option Nat) (cap n : Nat) (xs : List Value) : Prop :=
  xs.length = n * sz ∧ match g with
  | none => n = 0 ∧ cap = 0
  | some g => ∃ cur : Array Value, w.heap[g]? = some (.cells cur T (0,0)) ∧ n ≤ cap ∧ cap ≤ maxLen ∧ cur.size = cap * sz ∧ cur.toList.take (n * sz) = xs
theorem RAt.nil (T : TypeId) (sz : Nat) (w : World) : RAt T sz w none 0 0 [] := ⟨by simp, rfl, rfl⟩
theorem RAt.keep {T : TypeId} {sz : Nat} {S : List Nat} {w w' : World} {g : Option Nat} {cap n : Nat} {xs : List Value} (h : RAt T sz w g cap n xs) (m : Mod S w w') (hS : ∀ k, k ∈ rF g → k ∉ S) : RAt T sz w' g cap n xs := by
  cases g with
  | none => exact h
  | some g =>
    obtain ⟨h0, cur, h1, h2⟩ := h
    exact ⟨h0, cur, m.keep h1 (hS g (by simp [rF])), h2⟩
theorem RAt.same {T : TypeId} {sz : Nat} {w w' : World} {g : Option Nat} {cap n : Nat} {xs : List Value} (h : RAt T sz w g cap n xs) (e : w'.heap = w.heap) : RAt T sz w' g cap n xs := by
  cases g with
  | none => exact h
  | some g =>
    obtain ⟨h0, cur, h1, h2⟩ := h
    exact ⟨h0, cur, by rw [e]; exact h1, h2⟩
theorem RAt.lt {T : TypeId} {sz : Nat} {w : World} {g : Option Nat} {cap n : Nat} {xs : List Value} (h : RAt T sz w g cap n xs) : ∀ k, k ∈ rF g → k < w.heap.size := by
  cases g with
  | none => simp [rF]
  | some g =>
    obtain ⟨h0, cur, h1, h2⟩ := h
    intro k hk
    simp [rF] at hk
    subst hk
    exact ltOf h1
theorem RAt.cap {T : TypeId} {sz : Nat} {w : World} {g : Option Nat} {cap n : Nat} {xs : List Value} (h : RAt T sz w g cap n xs) : n ≤ cap ∧ cap ≤ maxLen := by
  cases g with
  | none => obtain ⟨_, rfl, rfl⟩ := h; simp
  | some g =>
    obtain ⟨h0, cur, h1, h2, h3, _⟩ := h
    exact ⟨h2, h3⟩
/-- It has a block, where it holds something; cell j of it. -/
theorem RAt.cell {T : TypeId} {sz : Nat} {w : World} {g : Option Nat} {cap n : Nat} {xs : List Value} (h : RAt T sz w g cap n xs) {j : Nat} {v : Value} (hj : xs[j]? = some v) : ∃ b, g = some b ∧ w.cell? ⟨b, j, none⟩ = some v := by
  have hlt : j < xs.length := (List.getElem?_eq_some_iff.1 hj).1
  cases g with
  | none =>
    obtain ⟨h0, rfl, rfl⟩ := h
    omega
  | some g =>
    obtain ⟨h0, cur, h1, h2, h3, h4, h5⟩ := h
    refine ⟨g, rfl, (cellAt h1 j).trans ?_⟩
    have hlt2 : j < n * sz := by omega
    rw [← h5, List.getElem?_take, if_pos hlt2] at hj
    simpa using hj
theorem RAt.owns {T : TypeId} {sz : Nat} {w : World} {g : Option Nat} {cap n : Nat} {xs : List Value} (h : RAt T sz w g cap n xs) : w.ownsRow 0 T sz (.slice (rA g) n cap) n xs := by
  refine ⟨h.1, ?_⟩
  cases g with
  | none => obtain ⟨_, rfl, rfl⟩ := h; exact .inl ⟨rfl, rfl⟩
  | some g =>
    obtain ⟨h0, cur, h1, h2, h3, h4, h5⟩ := h
    exact .inr ⟨g, cap, cur, rfl, by omega, h1, h2, h3, by omega, h5⟩

/-- append of one element. -/
theorem RAt.append {P : Program} {T tt : TypeId} {sz bytes : Nat} {w : World} {g : Option Nat} {cap n : Nat} {xs : List Value} (h : RAt T sz w g cap n xs) (hT : P.underlying tt = some (.slice T)) {i : TypeInfo} {z : Value} (hi : P.info? T = some i) (hz : i.zero = some z) (hs : i.size = sz) (hb : i.bytes = bytes) (hzs : z.cells.size = sz) (hsz : 0 < sz) (hl : n < 1000000) (hbb : bytes ≤ 1000) {b : Nat} {news : List Value} (hnl : news.length = sz) (h1 : ∀ u ∈ news, u.oneCell' = true)
    (hbk : w.heap[b]? = some (.cells news.toArray T (0,0))) :
    ∃ g' cap' w', (∀ ty, (Builtin.append_ #[tt, tt] ty #[.slice (rA g) n cap, .slice (some ⟨b, 0, none⟩) 1 1]).run P w = .ok (.slice (some ⟨g', 0, none⟩) (n + 1) cap') w') ∧
      RAt T sz w' (some g') cap' (n + 1) (xs ++ news) ∧ Mod (rF g) w w' ∧ (g' ∈ rF g ∨ g' = w.heap.size) := by
  have hbytes : (n + 1) * bytes ≤ 140737488355328 := by
    have : (n + 1) * bytes ≤ 1000000 * 1000 := Nat.mul_le_mul (by omega) hbb
    omega
  have hx := fun ty => run_append_lies (P := P) w tt ty 0 T i z sz bytes hT hi hz hs hb hzs hsz _ _ _ h.owns ⟨b, 0, none⟩ 1 1 news (by omega) (by
    intro j u hj
    rw [show Addr.add ⟨b, 0, none⟩ j = ⟨b, j, none⟩ by simp [Addr.add]; exact fun h => h.symm]
    rw [cellAt hbk j]
    simpa using hj) h1 (by omega) (by unfold maxLen; omega) hbytes (by omega) _ rfl
  obtain ⟨g', cap', w', hr, h2, h3, h4, h5⟩ := hx 0
  refine ⟨g', cap', w', ?_, ?_, ?_, ?_⟩
  · intro ty
    have : (Builtin.append_ #[tt, tt] ty #[.slice (rA g) n cap, .slice (some ⟨b, 0, none⟩) 1 1]) = (Builtin.append_ #[tt, tt] 0 #[.slice (rA g) n cap, .slice (some ⟨b, 0, none⟩) 1 1]) := rfl
    rw [this]; exact hr
  · refine ⟨by have := h.1; rw [List.length_append, this, hnl, Nat.add_mul, Nat.one_mul], ?_⟩
    rcases h2.2 with ⟨hv, h0⟩ | ⟨g2, cap2, cur, hv, _, q1, q2, q3, q4, q5⟩
    · omega
    · cases hv
      exact ⟨cur, q1, q2, q3, by omega, q5⟩
  · have hB : (Value.slice (rA g) n cap).ownBlock = g := by cases g <;> rfl
    rw [hB] at h3
    refine ⟨h3.os, h3.tape, h3.output, h3.size, fun k hk hS => h3.block k hk ?_⟩
    rintro rfl
    exact hS (by simp [rF])
  · have hB : (Value.slice (rA g) n cap).ownBlock = g := by cases g <;> rfl
    rw [hB] at h4
    rcases h4 with rfl | rfl
    · exact .inl (by simp [rF])
    · exact .inr rfl
end Go.Proofs.YtaakgpnmfkmdoaaGreatDoor

/- Maps and rows as things in memory. No condition but those named. -/
namespace Go.Proofs.YtaakgpnmfkmdoaaGreatDoor
set_option linter.unusedVariables false
set_option linter.unusedSimpArgs false
open Go.RowKit

def mapR (kk : IntKind) (b : Nat) (m : List (Int × Value)) : Res where
  holds F w := F = [b] ∧ MapAt kk w b m
  keep h m hS := ⟨h.1, h.2.keep m (hS _ (by rw [h.1]; exact List.mem_singleton_self _))⟩
  lt h b hb := by rw [h.1, List.mem_singleton] at hb; subst hb; exact h.2.lt
def rowR (T : TypeId) (sz : Nat) (g : Option Nat) (cap n : Nat) (xs : List Value) : Res where
  holds F w := F = rF g ∧ RAt T sz w g cap n xs
  keep h m hS := ⟨h.1, h.2.keep m (by rw [← h.1]; exact hS)⟩
  lt h b hb := h.2.lt b (by rw [← h.1]; exact hb)
section
variable {F0 : List Nat} {w0 u u' : World} {l : List Res}
/-- append of one element to a row. -/
theorem On.rowAppend {P : Program} {T tt : TypeId} {sz bytes : Nat} (h : On F0 w0 l u) (k : Nat) {g : Option Nat} {cap n : Nat} {xs : List Value} (hk : l[k]? = some (rowR T sz g cap n xs)) (hT : P.underlying tt = some (.slice T)) {z : Value} (hI : (P.info? T).map (fun i => (i.zero, i.size, i.bytes)) = some (some z, sz, bytes)) (hzs : z.cells.size = sz) (hsz : 0 < sz) (hl : n < 1000000) (hbb : bytes ≤ 1000) {b : Nat} {news : List Value} (hnl : news.length = sz) (h1 : ∀ u ∈ news, u.oneCell' = true)
    (hbk : u.heap[b]? = some (.cells news.toArray T (0,0))) :
    ∃ g' cap' u', (∀ ty, (Builtin.append_ #[tt, tt] ty #[.slice (rA g) n cap, .slice (some ⟨b, 0, none⟩) 1 1]).run P u = .ok (.slice (some ⟨g', 0, none⟩) (n + 1) cap') u') ∧ On F0 w0 (l.set k (rowR T sz (some g') cap' (n + 1) (xs ++ news))) u' := by
  obtain ⟨i, hi, hi2⟩ := Option.map_eq_some_iff.1 hI
  simp only [Prod.mk.injEq] at hi2
  obtain ⟨i1, i2, i3⟩ := hi2
  have hw : ∀ g' cap', ∃ F, (rowR T sz g cap n xs).holds F u ∧ ∀ {u' : World}, Gain (rowR T sz (some g') cap' (n + 1) (xs ++ news)) F u u' → On F0 w0 (l.set k (rowR T sz (some g') cap' (n + 1) (xs ++ news))) u' := by
    intro g' cap'
    obtain ⟨F, p1, p2, p3⟩ := h.gain (P' := rowR T sz (some g') cap' (n + 1) (xs ++ news)) k hk
    exact ⟨F, p1, fun hg => p3 hg⟩
  obtain ⟨F1, ⟨rfl, hr⟩, _, _⟩ := h.gain (P' := rowR T sz g cap n xs) k hk
  obtain ⟨g', cap', u', hrun, x1, x2, x3⟩ := hr.append hT hi i1 i2 i3 hzs hsz hl hbb hnl h1 hbk
  obtain ⟨F2, ⟨rfl, _⟩, h3⟩ := hw g' cap'
  refine ⟨g', cap', u', hrun, h3 ⟨_, ⟨rfl, x1⟩, x2, fun b hb => ?_⟩⟩
  simp [rF] at hb
  subst hb
  rcases x3 with x3 | x3
  · exact .inl x3
  · exact .inr (by omega)
end
end Go.Proofs.YtaakgpnmfkmdoaaGreatDoor

/- Slices of int that one object owns: nil, or a block of cells with room behind; what append does; the walks over davitref03's Has and Without. -/
namespace Go.Proofs.YtaakgpnmfkmdoaaGreatDoor
set_option linter.unusedVariables false
set_option linter.unusedSimpArgs false
open Go.RowKit

def lA : Option Nat → Option Addr
  | none => none
  | some g => some ⟨g, 0, none⟩
def lF : Option Nat → List Nat
  | none => []
  | some g => [g]
/-- The slice with block g and capacity cap is the list l. -/
def LAt (w : World) (g : Option Nat) (cap : Nat) (l : List Int) : Prop :=
  match g with
  | none => l = [] ∧ cap = 0
  | some g => ∃ cur : Array Value, w.heap[g]? = some (.cells cur 3 (0,0)) ∧ l.length ≤ cap ∧ cap ≤ maxLen ∧ cur.size = cap ∧ cur.toList.take l.length = l.map (Value.int .i64)
theorem LAt.keep {S : List Nat} {w w' : World} {g : Option Nat} {cap : Nat} {l : List Int} (h : LAt w g cap l) (m : Mod S w w') (hS : ∀ k, k ∈ lF g → k ∉ S) : LAt w' g cap l := by
  cases g with
  | none => exact h
  | some g =>
    obtain ⟨cur, h1, h2⟩ := h
    exact ⟨cur, m.keep h1 (hS g (by simp [lF])), h2⟩
theorem LAt.same {w w' : World} {g : Option Nat} {cap : Nat} {l : List Int} (h : LAt w g cap l) (e : w'.heap = w.heap) : LAt w' g cap l := by
  cases g with
  | none => exact h
  | some g =>
    obtain ⟨cur, h1, h2⟩ := h
    exact ⟨cur, by rw [e]; exact h1, h2⟩
theorem LAt.lt {w : World} {g : Option Nat} {cap : Nat} {l : List Int} (h : LAt w g cap l) : ∀ k, k ∈ lF g → k < w.heap.size := by
  cases g with
  | none => simp [lF]
  | some g =>
    obtain ⟨cur, h1, h2⟩ := h
    intro k hk
    simp [lF] at hk
    subst hk
    exact ltOf h1
theorem LAt.cap {w : World} {g : Option Nat} {cap : Nat} {l : List Int} (h : LAt w g cap l) : l.length ≤ cap ∧ cap ≤ maxLen := by
  cases g with
  | none => obtain ⟨rfl, rfl⟩ := h; simp
  | some g =>
    obtain ⟨cur, h1, h2, h3, _⟩ := h
    exact ⟨h2, h3⟩
theorem LAt.cell {w : World} {g : Option Nat} {cap : Nat} {l : List Int} (h : LAt w g cap l) {i : Nat} (hi : i < l.length) : ∃ b, g = some b ∧ w.cell? ⟨b, i, none⟩ = some (.int .i64 (nth l i)) := by
  cases g with
  | none => obtain ⟨rfl, rfl⟩ := h; simp at hi
  | some g =>
    obtain ⟨cur, h1, h2, h3, h4, h5⟩ := h
    refine ⟨g, rfl, (cellAt h1 i).trans ?_⟩
    have h6 := congrArg (fun x => x[i]?) h5
    simp only [List.getElem?_take, hi, if_true, List.getElem?_map, Array.getElem?_toList] at h6
    rw [h6, List.getElem?_eq_getElem hi]
    simp [nth, List.getD, hi]

theorem LAt.owns {w : World} {g : Option Nat} {cap : Nat} {l : List Int} (h : LAt w g cap l) : w.ownsRow 0 3 1 (.slice (lA g) l.length cap) l.length (l.map (Value.int .i64)) := by
  refine ⟨by simp, ?_⟩
  cases g with
  | none => obtain ⟨rfl, rfl⟩ := h; exact .inl ⟨rfl, rfl⟩
  | some g =>
    obtain ⟨cur, h1, h2, h3, h4, h5⟩ := h
    exact .inr ⟨g, cap, cur, rfl, by omega, h1, h2, h3, by omega, by rw [Nat.mul_one]; exact h5⟩

theorem infoInt : (Tryz.prog.info? 3).map (fun i => (i.zero, i.size, i.bytes)) = some (some (.int .i64 0), 1, 8) := by kernel_rfl

/-- append of one number. -/
theorem LAt.append {w : World} {g : Option Nat} {cap : Nat} {l : List Int} (h : LAt w g cap l) (hl : l.length < 1000000) {b : Nat} {k : Int} (hb : w.heap[b]? = some (.cells #[.int .i64 k] 3 (0,0))) :
    ∃ g' cap' w', (∀ ty, (Builtin.append_ #[143, 143] ty #[.slice (lA g) l.length cap, .slice (some ⟨b, 0, none⟩) 1 1]).run Tryz.prog w = .ok (.slice (some ⟨g', 0, none⟩) (l.length + 1) cap') w') ∧
      LAt w' (some g') cap' (l ++ [k]) ∧ Mod (lF g) w w' ∧ (g' ∈ lF g ∨ g' = w.heap.size) := by
  have hI := infoInt
  obtain ⟨i, hi, hi2⟩ := Option.map_eq_some_iff.1 hI
  simp only [Prod.mk.injEq] at hi2
  obtain ⟨i1, i2, i3⟩ := hi2
  have hx := fun ty => run_append_lies (P := Tryz.prog) w 143 ty 0 3 i (.int .i64 0) 1 8 Tryz.underlying143 hi i1 i2 i3 rfl (by omega) _ _ _ h.owns ⟨b, 0, none⟩ 1 1 [.int .i64 k] rfl (World.news_of_block hb) (by simp [Value.oneCell']) (by omega) (by unfold maxLen; omega) (by omega) (by omega) _ rfl
  obtain ⟨g', cap', w', hr, h2, h3, h4, h5⟩ := hx 0
  refine ⟨g', cap', w', ?_, ?_, ?_, ?_⟩
  · intro ty
    have : (Builtin.append_ #[143, 143] ty #[.slice (lA g) l.length cap, .slice (some ⟨b, 0, none⟩) 1 1]) = (Builtin.append_ #[143, 143] 0 #[.slice (lA g) l.length cap, .slice (some ⟨b, 0, none⟩) 1 1]) := rfl
    rw [this]; exact hr
  · rcases h2.2 with ⟨hv, h0⟩ | ⟨g2, cap2, cur, hv, _, q1, q2, q3, q4, q5⟩
    · omega
    · cases hv
      refine ⟨cur, q1, by simpa using q2, q3, by omega, ?_⟩
      rw [Nat.mul_one] at q5
      simpa using q5
  · have hB : (Value.slice (lA g) l.length cap).ownBlock = g := by cases g <;> rfl
    rw [hB] at h3
    refine ⟨h3.os, h3.tape, h3.output, h3.size, fun k hk hS => h3.block k hk ?_⟩
    rintro rfl
    exact hS (by simp [lF])
  · have hB : (Value.slice (lA g) l.length cap).ownBlock = g := by cases g <;> rfl
    rw [hB] at h4
    rcases h4 with rfl | rfl
    · exact .inl (by simp [lF])
    · exact .inr rfl

theorem lA_some (b : Nat) : lA (some b) = some ⟨b, 0, none⟩ := rfl
/-- append at a plain region's list, by its run. -/
theorem wpList_append_run {P : Program} {w w' : World} {ops : Array Oper} {rest : List Oper} {o : Oper} {a : Act} {Q : Exit → Act → World → Prop} (hgd : o.guard = none) (s x : Operand) (t : TypeId)
    (ho : o.op = .call { callee := .builtin .append, args := #[s, x], argTypes := #[t, t] }) {v u r : Value} (hs : a.eval s = v) (hx : a.eval x = u)
    (hr : (Builtin.append_ #[t, t] o.type #[v, u]).run P w = .ok r w') (h : wpList P ops Q rest (a.put o.dst r) w') : wpList P ops Q (o :: rest) a w :=
  wpList_plain hgd fun _ hK => by
    unfold Oper.wp execOp
    simp only [ho, resolve, invoke, builtin, Sem.run_bind, Sem.run_pure, Result.andThen_ok, List.map_toArray, List.map_cons, List.map_nil, hs, hx, hr]
    exact hK _ _ h
/-- .. onto a list that an object owns. -/
theorem wpList_append_LAt {w : World} {ops : Array Oper} {rest : List Oper} {o : Oper} {a : Act} {Q : Exit → Act → World → Prop} (hgd : o.guard = none) (s x : Operand)
    (ho : o.op = .call { callee := .builtin .append, args := #[s, x], argTypes := #[143, 143] }) {g : Option Nat} {cap : Nat} {l : List Int} (h : LAt w g cap l) (hl : l.length < 1000000) {b : Nat} {k : Int} (hb : w.heap[b]? = some (.cells #[.int .i64 k] 3 (0,0)))
    (hs : a.eval s = .slice (lA g) l.length cap) (hx : a.eval x = .slice (some ⟨b, 0, none⟩) 1 1)
    (hK : ∀ g' cap' w', LAt w' (some g') cap' (l ++ [k]) → Mod (lF g) w w' → (g' ∈ lF g ∨ g' = w.heap.size) → wpList Tryz.prog ops Q rest (a.put o.dst (.slice (some ⟨g', 0, none⟩) (l.length + 1) cap')) w') : wpList Tryz.prog ops Q (o :: rest) a w := by
  obtain ⟨g', cap', w', hrun, h1, h2, h3⟩ := h.append hl hb
  exact wpList_append_run hgd s x _ ho hs hx (hrun _) (hK g' cap' w' h1 h2 h3)
end Go.Proofs.YtaakgpnmfkmdoaaGreatDoor

/- A region that draws its order and holds calls that write: one walk of the text's order serves every order, if of each operation it is shown what it does in every world that the operations ahead of it or behind it may have left. No condition. -/
namespace Go.Proofs.YtaakgpnmfkmdoaaGreatDoor
set_option linter.unusedVariables false
set_option linter.unusedSimpArgs false
open Go.RowKit

section
variable {P : Program} {ops : Array Oper} {md : Region.Mode} {C : Array Bool → World → Prop}

/-- What is asked once an operation has yielded this: the value v, and a world of C'. -/
def calmUpon (P : Program) (C' : World → Prop) (v : Value) : Result Next → Prop
  | .ok (.value u) w' => u = v ∧ C' w'
  | .ok .skip w' => v = undef ∧ C' w'
  | .ok (.enter f args) w' => Calls P f args w' (fun e w'' => e = .returned v ∧ C' w'')
  | _ => False

/-- All that operation o waits for has come up. -/
def Waited (md : Region.Mode) (o : Oper) (s : Array Bool) : Prop := ∀ e ∈ o.after, Region.binds md e = true → s.getD e.on false = true
/-- Operation i waits for operation j, at once or through others. -/
def beforeB (md : Region.Mode) (ops : Array Oper) : Nat → Nat → Nat → Bool
  | 0, _, _ => false
  | n + 1, i, j => match ops[i]? with
    | none => false
    | some o => o.after.any fun e => Region.binds md e && (e.on == j || beforeB md ops n e.on j)
/-- All that operation i waits for has come up. -/
def UpTo (md : Region.Mode) (ops : Array Oper) (i : Nat) (s : Array Bool) : Prop := ∀ j n, beforeB md ops n i j = true → s.getD j true = true
/-- What has come up came up behind all that it waits for. -/
def Closed (md : Region.Mode) (ops : Array Oper) (s : Array Bool) : Prop := ∀ j o, ops[j]? = some o → s.getD j false = true → Waited md o s

theorem upOf {s : Array Bool} {j : Nat} (h : s.getD j false = true) : s.getD j true = true := by
  simp only [Array.getD_eq_getD_getElem?] at *
  cases hh : s[j]? <;> simp_all
theorem closed_up {s : Array Bool} (hc : Closed md ops s) : ∀ (n i : Nat) (o : Oper), ops[i]? = some o → Waited md o s → ∀ j, beforeB md ops n i j = true → s.getD j true = true
  | 0, _, _, _, _, _, h => by simp [beforeB] at h
  | n + 1, i, o, ho, hW, j, h => by
    unfold beforeB at h
    rw [ho] at h
    simp only [Array.any_eq_true] at h
    obtain ⟨x, hx, h⟩ := h
    simp only [Bool.and_eq_true, Bool.or_eq_true, beq_iff_eq] at h
    obtain ⟨hb, h⟩ := h
    have hup := hW _ (Array.getElem_mem hx) hb
    rcases h with h | h
    · rw [← h]; exact upOf hup
    · cases ho' : ops[(o.after[x]).on]? with
      | none => 
        cases n with
        | zero => simp [beforeB] at h
        | succ n => unfold beforeB at h; rw [ho'] at h; cases h
      | some o' => exact closed_up hc n _ o' ho' (hc _ o' ho' hup) j h
theorem closed_set {s : Array Bool} {i : Nat} (hc : Closed md ops s) (hW : ∀ o, ops[i]? = some o → Waited md o s) : Closed md ops (s.setIfInBounds i true) := by
  have mono : ∀ j, s.getD j false = true → (s.setIfInBounds i true).getD j false = true := by
    intro j hj
    by_cases e : i = j
    · subst e
      simp only [Array.getD_eq_getD_getElem?, Array.getElem?_setIfInBounds] at *
      simp only [if_true]
      split
      · rfl
      · rename_i h; simp [Array.getElem?_eq_none (Nat.le_of_not_lt h)] at hj
    · simp only [Array.getD_eq_getD_getElem?, Array.getElem?_setIfInBounds, if_neg e] at *
      exact hj
  intro j o ho hj e he hb
  by_cases hji : i = j
  · subst hji
    exact mono _ (hW o ho e he hb)
  · have hj' : s.getD j false = true := by
      simp only [Array.getD_eq_getD_getElem?, Array.getElem?_setIfInBounds, if_neg hji] at *
      exact hj
    exact mono _ (hc j o ho hj' e he hb)

/-- Operation i yields v in every world of the class in which it has not come up yet. -/
def CalmAt (P : Program) (md : Region.Mode) (ops : Array Oper) (C : Array Bool → World → Prop) (i : Nat) (o : Oper) (a : Act) (v : Value) : Prop :=
  ∀ s w, s.getD i true = false → UpTo md ops i s → C s w → calmUpon P (C (s.setIfInBounds i true)) v ((execOp a.eval o).run P w)
/-- .. and, passed over, leaves the class. -/
def CalmSkip (C : Array Bool → World → Prop) (i : Nat) : Prop := ∀ s w, s.getD i true = false → C s w → C (s.setIfInBounds i true) w

/-- The walk in the text's order. -/
def wpCalm (P : Program) (md : Region.Mode) (ops : Array Oper) (C : Array Bool → World → Prop) (Q : Act → Prop) : Nat → List Oper → Act → Prop
  | _, [], a => Q a
  | i, o :: rest, a => if Region.wanted o (yielded ops a.tmps) then ∃ v, CalmAt P md ops C i o a v ∧ wpCalm P md ops C Q (i + 1) rest (a.put o.dst v) else CalmSkip C i ∧ wpCalm P md ops C Q (i + 1) rest (a.put o.dst undef)

def cOp (P : Program) (md : Region.Mode) (ops : Array Oper) (C : Array Bool → World → Prop) (i : Nat) (K : Act → Prop) (a : Act) : Prop :=
  match ops[i]? with
  | none => CalmSkip C i ∧ K a
  | some o => if Region.wanted o (yielded ops a.tmps) then ∃ v, CalmAt P md ops C i o a v ∧ K (a.put o.dst v) else CalmSkip C i ∧ K (a.put o.dst undef)

theorem cOp_mono {i : Nat} {a : Act} {K K' : Act → Prop} (h : ∀ a, K a → K' a) (hh : cOp P md ops C i K a) : cOp P md ops C i K' a := by
  unfold cOp at *
  split
  · rename_i ho; simp only [ho] at hh; exact ⟨hh.1, h _ hh.2⟩
  · rename_i o ho
    simp only [ho] at hh
    split
    · rename_i hw; simp only [hw, if_true] at hh; obtain ⟨v, h1, h2⟩ := hh; exact ⟨v, h1, h _ h2⟩
    · rename_i hw; simp only [hw] at hh; exact ⟨hh.1, h _ hh.2⟩

def wpAnyC (P : Program) (md : Region.Mode) (ops : Array Oper) (C : Array Bool → World → Prop) (Q : Act → Prop) : Nat → Array Bool → Act → Prop
  | 0, listed, a => Region.ready md ops listed = [] ∧ (∀ i, i < ops.size → listed.getD i true = true) ∧ Q a
  | fuel + 1, listed, a =>
    (Region.ready md ops listed = [] → False) ∧
    ∀ i ∈ Region.ready md ops listed, cOp P md ops C i (wpAnyC P md ops C Q fuel (listed.setIfInBounds i true)) a

theorem wpOp_of_cOp {i : Nat} {a : Act} {K : Act → Prop} {K' : Act → World → Prop} {Q' : Exit → Act → World → Prop} {w : World} {s : Array Bool} (hs : s.getD i true = false) (hW : UpTo md ops i s) (hC : C s w) (h : ∀ a w', C (s.setIfInBounds i true) w' → K a → K' a w') (hh : cOp P md ops C i K a) : wpOp P ops Q' i K' a w := by
  unfold cOp at hh
  unfold wpOp
  split
  · rename_i ho; simp only [ho] at hh; exact h _ _ (hh.1 s w hs hC) hh.2
  · rename_i o ho
    simp only [ho] at hh
    split
    · rename_i hw
      simp only [hw, if_true] at hh
      obtain ⟨v, h1, h2⟩ := hh
      left
      have h3 := h1 s w hs hW hC
      unfold Oper.wp
      generalize (execOp a.eval o).run P w = r at *
      cases r with
      | ok n w' =>
        cases n <;> simp only [calmUpon] at h3 <;> simp only [Oper.upon]
        case value u =>
          obtain ⟨e1, e2⟩ := h3
          rw [e1]
          exact h _ _ e2 h2
        case skip =>
          obtain ⟨e1, e2⟩ := h3
          rw [← e1]
          exact h _ _ e2 h2
        case enter f args =>
          exact h3.mono fun e w'' ⟨he, hw''⟩ => by subst he; exact h _ _ hw'' h2
      | halt x w' => simp only [calmUpon] at h3
    · rename_i hw; simp only [hw] at hh; exact h _ _ (hh.1 s w hs hC) hh.2

theorem ready_waited {i : Nat} {listed : Array Bool} (h : i ∈ Region.ready md ops listed) : ∀ o, ops[i]? = some o → Waited md o listed := by
  intro o ho
  obtain ⟨_, o', ho', hall⟩ := mem_ready.1 h
  rw [ho] at ho'
  cases ho'
  exact hall
theorem ready_up {i : Nat} {listed : Array Bool} (hc : Closed md ops listed) (h : i ∈ Region.ready md ops listed) : UpTo md ops i listed := by
  intro j n hj
  obtain ⟨_, o, ho, hall⟩ := mem_ready.1 h
  exact closed_up hc n i o ho hall j hj
theorem ready_not {i : Nat} {listed : Array Bool} (h : i ∈ Region.ready md ops listed) : listed.getD i true = false := (mem_ready.1 h).1

theorem wpAny_of_calm {Q : Act → Prop} {Q' : Exit → Act → World → Prop} (hQ : ∀ a s w, (∀ i, i < ops.size → s.getD i true = true) → C s w → Q a → Q' .normal a w) : ∀ (fuel : Nat) (listed : Array Bool) (a : Act) (w : World), Closed md ops listed → C listed w →
    wpAnyC P md ops C Q fuel listed a → wpAny P md ops Q' fuel listed a w
  | 0, _, _, _, _, hw, h => ⟨h.1, hQ _ _ _ h.2.1 hw h.2.2⟩
  | fuel + 1, _, _, _, hcl, hw, h => ⟨fun h0 => (h.1 h0).elim, fun i hi => wpOp_of_cOp (ready_not hi) (ready_up hcl hi) hw (fun a' w' hw' => wpAny_of_calm hQ fuel _ a' w' (closed_set hcl (ready_waited hi)) hw') (h.2 i hi)⟩

def YieldsC (P : Program) (md : Region.Mode) (ops : Array Oper) (C : Array Bool → World → Prop) (i : Nat) (o : Oper) (v : Value) (a : Act) : Prop :=
  (Region.wanted o (yielded ops a.tmps) = true ∧ CalmAt P md ops C i o a v) ∨
  (Region.wanted o (yielded ops a.tmps) = false ∧ v = undef ∧ CalmSkip C i)

theorem YieldsC.cOp {i : Nat} {o : Oper} {v : Value} {a : Act} (hi : ops[i]? = some o) (hy : YieldsC P md ops C i o v a) {K : Act → Prop} (h : K (a.put o.dst v)) : cOp P md ops C i K a := by
  unfold Go.Proofs.YtaakgpnmfkmdoaaGreatDoor.cOp
  simp only [hi]
  rcases hy with ⟨hw, hv⟩ | ⟨hw, rfl, hs⟩
  · simp only [hw, if_true]; exact ⟨v, hv, h⟩
  · simp only [hw, Bool.false_eq_true, if_false]; exact ⟨hs, h⟩

theorem YieldsC.of_same {i : Nat} {o : Oper} {v : Value} {a a' : Act} (hy : YieldsC P md ops C i o v a) (he : execOp a'.eval o = execOp a.eval o)
    (hw : Region.wanted o (yielded ops a'.tmps) = Region.wanted o (yielded ops a.tmps)) : YieldsC P md ops C i o v a' := by
  unfold YieldsC CalmAt at *
  rw [he, hw]
  exact hy

theorem yieldsC_of_cOp {i : Nat} {o : Oper} {a : Act} {K : Act → Prop} (hi : ops[i]? = some o) (h : cOp P md ops C i K a) : ∃ v, YieldsC P md ops C i o v a ∧ K (a.put o.dst v) := by
  unfold cOp at h
  simp only [hi] at h
  by_cases hw : Region.wanted o (yielded ops a.tmps) = true
  · simp only [hw, if_true] at h
    obtain ⟨v, h1, h2⟩ := h
    exact ⟨v, .inl ⟨hw, h1⟩, h2⟩
  · simp only [hw] at h
    exact ⟨undef, .inr ⟨by simpa using hw, rfl, h.1⟩, h.2⟩

theorem cOp_put {i j : Nat} {oi oj : Oper} {v : Value} (hj : ops[j]? = some oj) (hap : oi.apart ops oj = true)
    (hsi : ∀ cs b, oi.op ≠ .select cs b) (hsj : ∀ cs b, oj.op ≠ .select cs b) {K : Act → Prop} {a : Act}
    (hy : YieldsC P md ops C i oi v a) (h : cOp P md ops C j K (a.put oi.dst v)) :
    cOp P md ops C j (fun a' => YieldsC P md ops C i oi v a' ∧ K (a'.put oi.dst v)) a := by
  obtain ⟨h1, h2, h3⟩ := Oper.apart_spec hap
  have keep : ∀ (a : Act), YieldsC P md ops C i oi v a → ∀ u, YieldsC P md ops C i oi v (a.put oj.dst u) := fun a hy u =>
    hy.of_same (execOp_put oi hsi a oj.dst u h3) (wanted_put oi a oj.dst u h3)
  unfold cOp at *
  simp only [hj] at *
  rw [wanted_put oj a oi.dst v h1] at h
  split
  · rename_i hw
    simp only [hw, if_true] at h
    obtain ⟨u, hu, hn⟩ := h
    refine ⟨u, fun s w hs hW hw' => ?_, keep a hy u, by rw [← Act.put_comm a v u h2]; exact hn⟩
    have := hu s w hs hW hw'
    rwa [execOp_put oj hsj a oi.dst v h1] at this
  · rename_i hw
    simp only [hw] at h
    exact ⟨h.1, keep a hy _, by rw [← Act.put_comm a v undef h2]; exact h.2⟩

theorem wpAnyC_first {Q : Act → Prop} {i : Nat} {oi : Oper} {v : Value} (hi : ops[i]? = some oi) (hsel : ∀ (j : Nat) (o : Oper) cs b, ops[j]? = some o → o.op ≠ .select cs b) :
    ∀ (fuel : Nat) (listed : Array Bool) (a : Act),
      (∀ j oj, ops[j]? = some oj → j ≠ i → listed.getD j true = false → (∀ e ∈ oj.after, Region.binds md e = true → e.on ≠ i) → oi.apart ops oj = true) →
      i ∈ Region.ready md ops listed → YieldsC P md ops C i oi v a →
      wpAnyC P md ops C Q fuel (listed.setIfInBounds i true) (a.put oi.dst v) → wpAnyC P md ops C Q (fuel + 1) listed a := by
  intro fuel
  induction fuel with
  | zero =>
    intro listed a _ hr hy H
    refine ⟨fun h => (by rw [h] at hr; cases hr), fun j hj => ?_⟩
    by_cases hji : j = i
    · subst hji; exact hy.cOp hi H
    · have := ready_mono hj hji
      rw [H.1] at this
      cases this
  | succ fuel ih =>
    intro listed a hfree hr hy H
    refine ⟨fun h => (by rw [h] at hr; cases hr), fun j hj => ?_⟩
    by_cases hji : j = i
    · subst hji; exact hy.cOp hi H
    · have h1 := H.2 j (ready_mono hj hji)
      obtain ⟨hjun, oj, hoj, hall⟩ := mem_ready.1 hj
      have hnot : ∀ e ∈ oj.after, Region.binds md e = true → e.on ≠ i := fun e he hb heq => by
        have h1 := hall e he hb
        have h0 := (mem_ready.1 hr).1
        rw [heq] at h1
        rcases Nat.lt_or_ge i listed.size with h' | h'
        · simp [h'] at h0 h1; rw [h0] at h1; cases h1
        · simp [Array.getElem?_eq_none h'] at h1
      have h2 := cOp_put hoj (hfree j oj hoj hji hjun hnot) (fun cs b => hsel i oi cs b hi) (fun cs b => hsel j oj cs b hoj) hy h1
      have hfree' : ∀ k ok, ops[k]? = some ok → k ≠ i → (listed.setIfInBounds j true).getD k true = false →
          (∀ e ∈ ok.after, Region.binds md e = true → e.on ≠ i) → oi.apart ops ok = true := fun k ok hk hki hun hno => by
        refine hfree k ok hk hki ?_ hno
        by_cases hjk : j = k
        · subst hjk; exact hjun
        · rw [getD_set_ne true hjk] at hun; exact hun
      refine cOp_mono (fun a' h3 => ih (listed.setIfInBounds j true) a' hfree' (ready_mono hr (Ne.symm hji)) h3.1 ?_) h2
      rw [Array.setIfInBounds_comm _ _ hji]
      exact h3.2

theorem wpAnyC_lex {Q : Act → Prop} (hs : Region.noSelect ops = true) : ∀ (l : List Oper) (k : Nat) (listed : Array Bool) (a : Act), (∀ j, l[j]? = ops[k + j]?) → (∀ j, j < k → j < ops.size → listed.getD j true = true) → listed.size = ops.size →
    Region.lexFrom md ops l.length k listed = true → wpCalm P md ops C Q k l a → wpAnyC P md ops C Q l.length listed a
  | [], k, listed, _, hl, hk, _, hB, h => ⟨by simpa [Region.lexFrom] using hB, fun i hi => hk i (by
      have h0 := (hl 0).symm
      simp at h0
      omega) hi, h⟩
  | o :: l, k, listed, a, hl, hk, hz, hB, h => by
    have h0 : ops[k]? = some o := by simpa using (hl 0).symm
    simp only [List.length_cons, Region.lexFrom, Bool.and_eq_true] at hB
    obtain ⟨⟨hr, hf⟩, hB'⟩ := hB
    have hst : cOp P md ops C k (wpCalm P md ops C Q (k + 1) l) a := by unfold cOp; simp only [h0]; exact h
    obtain ⟨v, hy, hK⟩ := yieldsC_of_cOp h0 hst
    refine wpAnyC_first h0 (Region.noSelect_spec hs) l.length listed a (Region.free_spec h0 hf) (by simpa using hr) hy
      (wpAnyC_lex hs l (k + 1) _ _ (fun j => by have := hl (j + 1); simpa [Nat.add_assoc, Nat.add_comm 1 j] using this) (fun j hj hjs => ?_) (by simpa using hz) hB' hK)
    by_cases e : k = j
    · subst e; simp [Array.getD, hz, hjs]
    · rw [getD_set_ne true e]; exact hk j (by omega) hjs

/-- One walk of the text's order serves every order. What stands behind the region is asked in every world that the class lets in when all operations have come up. -/
theorem wp_region_calm {id : Nat} {Q : Exit → Act → World → Prop} {a : Act} {w : World} (hm : P.follows .mixedOrders = true) (hB : Region.lexB .any ops = true) (C : Array Bool → World → Prop) (hC : C (Array.replicate ops.size false) { w with drawn := w.drawn + 1 })
    (h : wpCalm P .any ops C (fun a' => ∀ s w', (∀ i, i < ops.size → s.getD i true = true) → C s w' → Q .normal a' w') 0 ops.toList a) : (Code.region id ops true).wp P Q a w := by
  simp only [Region.lexB, Bool.and_eq_true] at hB
  refine wp_region_any hm (wpAny_of_calm (C := C) (Q := fun a' => ∀ s w', (∀ i, i < ops.size → s.getD i true = true) → C s w' → Q .normal a' w') (fun _ s w' hs hw' h => h s w' hs hw') _ _ _ _ (fun j o ho hj => by simp [Array.getD_eq_getD_getElem?, Array.getElem?_replicate] at hj; split at hj <;> simp_all) hC ?_)
  have := wpAnyC_lex (C := C) (md := .any) hB.1 ops.toList 0 (Array.replicate ops.size false) a (by simp) (by omega) (by simp) (by simpa using hB.2) h
  simpa using this

theorem wp_region_calm_lit {id : Nat} {l : List Oper} {Q : Exit → Act → World → Prop} {a : Act} {w : World} (hm : P.follows .mixedOrders = true) (hB : Region.lexB .any l.toArray = true) (C : Array Bool → World → Prop) (hC : ∀ s : Array Bool, (∀ i, i < l.length → s.getD i true = false) → C s w.drew)
    (h : wpCalm P .any l.toArray C (fun a' => ∀ s w', (∀ i, i < l.length → s.getD i true = true) → C s w' → Q .normal a' w') 0 l a) : (Code.region id l.toArray true).wp P Q a w :=
  wp_region_calm hm hB C (hC _ (fun i hi => by simp [Array.getD, hi])) (by simpa using h)

variable {Q : Act → Prop} {i : Nat} {o : Oper} {rest : List Oper} {a : Act}
theorem calm_pure {v : Value} (hw : Region.wanted o (yielded ops a.tmps) = true) (hr : ∀ w, (execOp a.eval o).run P w = .ok (.value v) w) (hm : CalmSkip C i) (h : wpCalm P md ops C Q (i + 1) rest (a.put o.dst v)) : wpCalm P md ops C Q i (o :: rest) a := by
  unfold wpCalm
  rw [if_pos hw]
  exact ⟨v, fun s w hs _ hc => by rw [hr]; exact ⟨rfl, hm s w hs hc⟩, h⟩
theorem calm_load {v : Value} (hw : Region.wanted o (yielded ops a.tmps) = true) (hr : ∀ s w, UpTo md ops i s → C s w → (execOp a.eval o).run P w = .ok (.value v) w) (hm : CalmSkip C i) (h : wpCalm P md ops C Q (i + 1) rest (a.put o.dst v)) : wpCalm P md ops C Q i (o :: rest) a := by
  unfold wpCalm
  rw [if_pos hw]
  exact ⟨v, fun s w hs hW hc => by rw [hr s w hW hc]; exact ⟨rfl, hm s w hs hc⟩, h⟩
theorem calm_skip (hw : Region.wanted o (yielded ops a.tmps) = false) (hm : CalmSkip C i) (h : wpCalm P md ops C Q (i + 1) rest (a.put o.dst undef)) : wpCalm P md ops C Q i (o :: rest) a := by
  unfold wpCalm
  rw [if_neg (by simp [hw])]
  exact ⟨hm, h⟩
theorem calm_call {f : FuncId} {args : Array Value} {v : Value} (hw : Region.wanted o (yielded ops a.tmps) = true) (hr : ∀ w, (execOp a.eval o).run P w = .ok (.enter f args) w)
    (hc : ∀ s w, s.getD i true = false → UpTo md ops i s → C s w → Calls P f args w (fun e w'' => e = .returned v ∧ C (s.setIfInBounds i true) w'')) (h : wpCalm P md ops C Q (i + 1) rest (a.put o.dst v)) : wpCalm P md ops C Q i (o :: rest) a := by
  unfold wpCalm
  rw [if_pos hw]
  exact ⟨v, fun s w hs hW hC => by rw [hr]; exact hc s w hs hW hC, h⟩
theorem calm_nil (h : Q a) : wpCalm P md ops C Q i [] a := h
theorem done_self (s : Array Bool) (i : Nat) : (s.setIfInBounds i true).getD i true = true := by
  simp only [Array.getD_eq_getD_getElem?, Array.getElem?_setIfInBounds]
  split <;> simp_all
  split <;> rfl
theorem done_ne (s : Array Bool) {i j : Nat} (h : i ≠ j) : (s.setIfInBounds i true).getD j true = s.getD j true := getD_set_ne true h
end
end Go.Proofs.YtaakgpnmfkmdoaaGreatDoor

/- How a slice that came in reads for a walk: its first len elements, each written out as its cells. No condition. -/
namespace Go.Proofs.YtaakgpnmfkmdoaaGreatDoor
set_option linter.unusedVariables false
set_option linter.unusedSimpArgs false
open Go.ChangeShapes Go.WideShapes Go.ChangeAt Go.RowKit Go.Deep

/-- A slice that came in: it has no elements; or element i lies in the n cells from off + i * n on of block b: the values of A i. -/
def IsArr {α : Type} (n : Nat) (vals : α → List Value) (ok : α → Prop) (w : World) (a : Option Addr) (len cap : Nat) (A : Nat → α) : Prop :=
  len ≤ cap ∧ cap ≤ maxLen ∧ (len = 0 ∨ ∃ b off, a = some ⟨b, off, none⟩ ∧ b < w.heap.size ∧ ∀ i, i < len → ok (A i) ∧ ∀ j, j < n → w.cell? ⟨b, off + (i * n + j), none⟩ = (vals (A i))[j]?)

/-- .. read later, in a world in which all old blocks are as they were. -/
theorem IsArr.later {α : Type} {n : Nat} {vals : α → List Value} {ok : α → Prop} {w w' : World} {a : Option Addr} {len cap : Nat} {A : Nat → α} (h : IsArr n vals ok w a len cap A) (m : Mod [] w w') : IsArr n vals ok w' a len cap A := by
  obtain ⟨h1, h2, h3⟩ := h
  refine ⟨h1, h2, ?_⟩
  rcases h3 with h3 | ⟨b, off, h3, hb, h4⟩
  · exact .inl h3
  · refine .inr ⟨b, off, h3, Nat.lt_of_lt_of_le hb m.size, fun i hi => ⟨(h4 i hi).1, fun j hj => ?_⟩⟩
    rw [← (h4 i hi).2 j hj]
    exact m.cell (p := ⟨b, off + (i * n + j), none⟩) hb (by simp)

theorem cellsOf_arr {α : Type} {n : Nat} {vals : α → List Value} {ok : α → Prop} {w wr : World} {a : Option Addr} {len cap : Nat} {A : Nat → α} (hA : IsArr n vals ok w a len cap A) (m : Mod [] w wr) {k : Nat} (hk : k < len) :
    ∃ b off, a = some ⟨b, off, none⟩ ∧ ok (A k) ∧ b < w.heap.size ∧ ∀ j, j < n → wr.cell? ⟨b, off + k * n + j, none⟩ = (vals (A k))[j]? := by
  obtain ⟨_, _, h | ⟨b, off, ha, hb, h⟩⟩ := hA
  · omega
  · exact ⟨b, off, ha, (h k hk).1, hb, fun j hj => by rw [← (h k hk).2 j hj, Nat.add_assoc]; exact m.cell (p := ⟨b, off + (k * n + j), none⟩) hb (by simp)⟩

section
variable {H : Type} {enc : TypeId × Value → H} {P : Program} {w : World} {spare : Nat → Bool} {held : Bool}

theorem isArr_of {α : Type} [Inhabited α] {t e : TypeId} {fuel : Nat} {a : Option Addr} {len cap : Nat} {x : DataW H × List MemPlace} (ht : P.underlying t = some (.slice e)) {n : Nat} (hn : P.cellsOf e = n) (hpos : 0 < n)
    (vals : α → List Value) (ok : α → Prop) (elem : ∀ m cs y, DataW.trod enc P w 0 spare held m e cs = some y → ∃ z, cs = vals z ∧ ok z)
    (h : DataW.trod enc P w 0 spare held fuel t [.slice a len cap] = some x) : ∃ A, IsArr n vals ok w a len cap A := by
  rcases open_slice ht h with ⟨h0, _⟩ | ⟨a', len', cap', m, nf, D, Pl, hcs, _, hl, hm, hmm, _, hx⟩
  · simp at h0
    obtain ⟨rfl, rfl, rfl⟩ := h0
    exact ⟨fun _ => default, Nat.le_refl _, Nat.zero_le _, .inl rfl⟩
  · simp at hcs
    obtain ⟨rfl, rfl, rfl⟩ := hcs
    have hlm : len ≤ m := by rw [hmm]; split <;> omega
    obtain ⟨A, hA⟩ := choose_lt (α := α) (p := fun i z => ok z ∧ ∀ j, j < n → w.cell? ((a'.add (i * n)).add j) = (vals z)[j]?) (fun i (hi : i < len) => by
      obtain ⟨cs', h1, h2⟩ := hx i (by omega)
      obtain ⟨z, rfl, hz⟩ := elem _ _ _ h2
      rw [hn] at h1
      obtain ⟨_, hlen, hcell⟩ := World.cells?_some h1
      refine ⟨z, hz, fun j hj => ?_⟩
      have := hcell j hj
      simpa using this)
    refine ⟨A, hl, hm, ?_⟩
    by_cases h0 : len = 0
    · exact .inl h0
    · have hc0 := (hA 0 (by omega)).2 0 hpos
      obtain ⟨cs', h1, h2⟩ := hx 0 (by omega)
      obtain ⟨z, rfl, hz⟩ := elem _ _ _ h2
      rw [hn] at h1
      obtain ⟨_, hlen, hcell⟩ := World.cells?_some h1
      have hc := hcell 0 hpos
      have hsome : ∃ v, w.cell? a' = some v := by
        have : 0 < (vals z).length := by omega
        refine ⟨(vals z)[0], ?_⟩
        simp only [Nat.zero_mul, Addr.add, if_true] at hc
        rw [hc]; simp [this]
      obtain ⟨v, hv⟩ := hsome
      have hspot := World.cell?_spot hv
      obtain ⟨b, off, spot⟩ := a'
      simp only at hspot
      subst hspot
      have hb : b < w.heap.size := by
        unfold World.cell? at hv
        split at hv
        · rename_i hh; exact ltOf hh
        · cases hv
      refine .inr ⟨b, off, rfl, hb, fun i hi => ⟨(hA i hi).1, fun j hj => ?_⟩⟩
      rw [← (hA i hi).2 j hj, add_add]
      unfold Addr.add
      split <;> simp_all

theorem elem_bool {e : TypeId} (he : P.underlying e = some .bool) : ∀ m cs y, DataW.trod enc P w 0 spare held m e cs = some y → ∃ z : Bool, cs = [.bool z] ∧ True := fun _ _ _ h => by
  obtain ⟨b, h1, _⟩ := DataW.trod_bool he h
  exact ⟨b, h1, trivial⟩
theorem elem_int {e : TypeId} {k : IntKind} (he : P.underlying e = some (.int k)) : ∀ m cs y, DataW.trod enc P w 0 spare held m e cs = some y → ∃ z : Int, cs = [.int k z] ∧ (Lit.int k z).wf = true := fun _ _ _ h => by
  obtain ⟨b, h1, _, h2⟩ := DataW.trod_int he h
  exact ⟨b, h1, h2⟩
theorem elem_string {e : TypeId} (he : P.underlying e = some .string) : ∀ m cs y, DataW.trod enc P w 0 spare held m e cs = some y → ∃ z : ByteArray, cs = [.string z] ∧ z.size ≤ maxLen := fun _ _ _ h => by
  obtain ⟨b, h1, _, h2⟩ := DataW.trod_string he h
  exact ⟨b, h1, h2⟩
end

/-- The kinds of fields that a flat struct has. -/
inductive FK where
  | i (k : IntKind)
  | b
  | s
def FK.ok : FK → Value → Prop
  | .i k, v => ∃ n, v = .int k n ∧ (Lit.int k n).wf = true
  | .b, v => ∃ x, v = .bool x
  | .s, v => ∃ s : ByteArray, v = .string s ∧ s.size ≤ maxLen
def FK.desc : FK → TypeDesc → Prop
  | .i k, d => d = .int k
  | .b, d => d = .bool
  | .s, d => d = .string

/-- A struct all of whose fields are one cell each: its cells, one by one. -/
theorem flat {H : Type} {enc : TypeId × Value → H} {P : Program} {w : World} {spare : Nat → Bool} {held : Bool} {e : TypeId} {fs : Array Field} {m : Nat} {cs : List Value} {y : DataW H × List MemPlace} (he : P.underlying e = some (.struct fs)) (ks : List FK)
    (hn : P.cellsOf e = ks.length) (hs : fs.size = ks.length) (hf : ∀ (i : Nat) (k : FK), ks[i]? = some k → ∃ f : Field, fs[i]? = some f ∧ f.offset = i ∧ P.cellsOf f.type = 1 ∧ ∃ d, P.underlying f.type = some d ∧ k.desc d)
    (h : DataW.trod enc P w 0 spare held m e cs = some y) : cs.length = ks.length ∧ ∀ (i : Nat) (k : FK), ks[i]? = some k → ∃ v, cs[i]? = some v ∧ k.ok v := by
  obtain ⟨xs, n, _, _, hl, hx, hg⟩ := DataW.trod_struct he h
  rw [hn] at hl
  refine ⟨hl, fun i k hk => ?_⟩
  obtain ⟨f, hfi, ho, hc, d, hd, hkd⟩ := hf i k hk
  have hi : i < ks.length := (List.getElem?_eq_some_iff.1 hk).1
  have hr := hg i f hfi
  rw [ho, hc, List.getElem?_eq_getElem (by omega)] at hr
  have hcs : (cs.drop i).take 1 = [cs[i]'(by omega)] := by
    rw [List.drop_eq_getElem_cons (show i < cs.length by omega)]; rfl
  rw [hcs] at hr
  refine ⟨cs[i]'(by omega), List.getElem?_eq_getElem (by omega), ?_⟩
  cases k with
  | i k =>
    have hd' : P.underlying f.type = some (.int k) := by rw [hd, show d = .int k from hkd]
    obtain ⟨b, h1, _, h2⟩ := DataW.trod_int hd' hr
    exact ⟨b, by simpa using h1, h2⟩
  | b =>
    have hd' : P.underlying f.type = some .bool := by rw [hd, show d = .bool from hkd]
    obtain ⟨b, h1, _⟩ := DataW.trod_bool hd' hr
    exact ⟨b, by simpa using h1⟩
  | s =>
    have hd' : P.underlying f.type = some .string := by rw [hd, show d = .string from hkd]
    obtain ⟨b, h1, _, h2⟩ := DataW.trod_string hd' hr
    exact ⟨b, by simpa using h1, h2⟩

theorem i64bd {z : Int} (h : (Lit.int .i64 z).wf = true) : -9223372036854775808 ≤ z ∧ z ≤ 9223372036854775807 := by
  simpa [Lit.wf, IntKind.min, IntKind.max, IntKind.signed, IntKind.bits] using h
theorem u64bd {z : Int} (h : (Lit.int .u64 z).wf = true) : 0 ≤ z ∧ z ≤ 18446744073709551615 := by
  simpa [Lit.wf, IntKind.min, IntKind.max, IntKind.signed, IntKind.bits] using h
end Go.Proofs.YtaakgpnmfkmdoaaGreatDoor

/- append of a part of a slice whose elements are of more than one cell. No condition but those named. -/
namespace Go.Proofs.YtaakgpnmfkmdoaaGreatDoor
set_option linter.unusedVariables false
set_option linter.unusedSimpArgs false
open Go.RowKit

/-- At address a lie n elements with the cells xs. -/
def SrcAt (w : World) (sz : Nat) (a : Option Addr) (n : Nat) (xs : List Value) : Prop :=
  xs.length = n * sz ∧ (∀ u ∈ xs, u.oneCell' = true) ∧ ((a = none ∧ n = 0) ∨ ∃ b o, a = some ⟨b, o, none⟩ ∧ ∀ j u, xs[j]? = some u → w.cell? ⟨b, o + j, none⟩ = some u)
theorem SrcAt.keep {S : List Nat} {w w' : World} {sz : Nat} {b : Nat} {o : Nat} {n : Nat} {xs : List Value} (h : SrcAt w sz (some ⟨b, o, none⟩) n xs) (m : Mod S w w') (hS : b ∉ S) : SrcAt w' sz (some ⟨b, o, none⟩) n xs := by
  obtain ⟨h1, h2, h3⟩ := h
  refine ⟨h1, h2, .inr ⟨b, o, rfl, fun j u hj => ?_⟩⟩
  rcases h3 with ⟨e, _⟩ | ⟨b', o', e, h3⟩
  · cases e
  · cases e
    exact m.at (h3 j u hj) hS
/-- append of a part of a slice. -/
theorem RAt.appendSrc {P : Program} {T tt : TypeId} {sz bytes : Nat} {w : World} {g : Option Nat} {cap n : Nat} {xs : List Value} (h : RAt T sz w g cap n xs) (hT : P.underlying tt = some (.slice T)) {i : TypeInfo} {z : Value} (hi : P.info? T = some i) (hz : i.zero = some z) (hs : i.size = sz) (hb : i.bytes = bytes) (hzs : z.cells.size = sz) (hsz : 0 < sz) (hbb : bytes ≤ 1000)
    {a : Option Addr} {n2 c2 : Nat} {ys : List Value} (hsrc : SrcAt w sz a n2 ys) (hl : n + n2 < 1000000) (hc2 : a = none → c2 = 0) :
    ∃ g' cap' w', (∀ ty, (Builtin.append_ #[tt, tt] ty #[.slice (rA g) n cap, .slice a n2 c2]).run P w = .ok (.slice (rA g') (n + n2) cap') w') ∧
      RAt T sz w' g' cap' (n + n2) (xs ++ ys) ∧ Mod (rF g) w w' ∧ ∀ b, b ∈ rF g' → b ∈ rF g ∨ b = w.heap.size := by
  obtain ⟨h1, h2, h3⟩ := hsrc
  have hbytes : (n + n2) * bytes ≤ 140737488355328 := by
    have : (n + n2) * bytes ≤ 1000000 * 1000 := Nat.mul_le_mul (by omega) hbb
    omega
  rcases h3 with ⟨rfl, rfl⟩ | ⟨b2, o2, rfl, h3⟩
  · have e : ys = [] := List.eq_nil_of_length_eq_zero (by omega)
    subst e
    have := hc2 rfl
    subst this
    refine ⟨g, cap, w, fun ty => ?_, by simpa using h, Mod.refl _ _, fun b hb => .inl hb⟩
    exact run_append_owned_none (P := P) w 0 tt ty T i sz hT hi _ _ _ h.owns
  · obtain ⟨v', w', hr, x2, x3, x4, x5⟩ := run_append_own_at (P := P) (w := w) 0 tt 0 T i z sz bytes hT hi hz hs hb hzs hsz _ _ _ h.owns ⟨b2, o2, none⟩ n2 c2 ys h1 (by
      intro j u hj
      have := h3 j u hj
      rw [show Addr.add ⟨b2, o2, none⟩ j = ⟨b2, o2 + j, none⟩ by cases j <;> simp [Addr.add]]
      exact this) h2 (by unfold maxLen; omega) hbytes (by omega)
    have hB : (Value.slice (rA g) n cap).ownBlock = g := by cases g <;> rfl
    rw [hB] at x3 x5
    have hm : Mod (rF g) w w' := ⟨x3.os, x3.tape, x3.output, x3.size, fun k hk hS => x3.block k hk (by rintro rfl; exact hS (by simp [rF]))⟩
    have hrun : ∀ ty, (Builtin.append_ #[tt, tt] ty #[.slice (rA g) n cap, .slice (some ⟨b2, o2, none⟩) n2 c2]).run P w = .ok v' w' := by
      intro ty
      have : (Builtin.append_ #[tt, tt] ty #[.slice (rA g) n cap, .slice (some ⟨b2, o2, none⟩) n2 c2]) = (Builtin.append_ #[tt, tt] 0 #[.slice (rA g) n cap, .slice (some ⟨b2, o2, none⟩) n2 c2]) := rfl
      rw [this]; exact hr
    have hxl := h.1
    rcases x2.2 with ⟨hv, h0⟩ | ⟨g3, cap3, cur, hv, _, q1, q2, q3, q4, q5⟩
    · subst hv
      have e0 : n = 0 := by omega
      have e00 : n2 = 0 := by omega
      subst e0 e00
      have e1 : xs = [] := List.eq_nil_of_length_eq_zero (by omega)
      have e2 : ys = [] := List.eq_nil_of_length_eq_zero (by omega)
      subst e1 e2
      exact ⟨none, 0, w', hrun, RAt.nil _ _ _, hm, by simp [rF]⟩
    · subst hv
      refine ⟨some g3, cap3, w', hrun, ⟨by rw [List.length_append, hxl, h1, Nat.add_mul], cur, q1, q2, q3, by omega, q5⟩, hm, ?_⟩
      intro b hb
      simp [rF] at hb
      subst hb
      rcases x5 with e | e
      · have e' : some b = g := e
        left; rw [← e']; simp [rF]
      · have e' : some b = some w.heap.size := e
        right; simpa using e'
end Go.Proofs.YtaakgpnmfkmdoaaGreatDoor
