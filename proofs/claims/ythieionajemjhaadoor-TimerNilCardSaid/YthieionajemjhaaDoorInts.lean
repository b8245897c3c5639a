/- Slices of int that one object owns: nil, or a block of cells with room behind; what append does; the walks over davitref03's Has and Without. -/
import Derived.Test.YthieionajemjhaaDoorRow
import Derived.Deep.AppendLies
import Derived.Deep.LoopGhost
namespace Go.Proofs.YthieionajemjhaaDoor
set_option linter.unusedVariables false
set_option linter.unusedSimpArgs false
open Go.RowKit

def lA : Option Nat → Option Addr
  | none => none
  | some g => some ⟨g, 0, none⟩
def lF : Option Nat → List Nat
  | none => []
  | some g => [g]
/-- The slice with block g and capacity cap is the list l. -/
def LAt (w : World) (g : Option Nat) (cap : Nat) (l : List Int) : Prop :=
  match g with
  | none => l = [] ∧ cap = 0
  | some g => ∃ cur : Array Value, w.heap[g]? = some (.cells cur 3 (0,0)) ∧ l.length ≤ cap ∧ cap ≤ maxLen ∧ cur.size = cap ∧ cur.toList.take l.length = l.map (Value.int .i64)
theorem LAt.keep {S : List Nat} {w w' : World} {g : Option Nat} {cap : Nat} {l : List Int} (h : LAt w g cap l) (m : Mod S w w') (hS : ∀ k, k ∈ lF g → k ∉ S) : LAt w' g cap l := by
  cases g with
  | none => exact h
  | some g =>
    obtain ⟨cur, h1, h2⟩ := h
    exact ⟨cur, m.keep h1 (hS g (by simp [lF])), h2⟩
theorem LAt.same {w w' : World} {g : Option Nat} {cap : Nat} {l : List Int} (h : LAt w g cap l) (e : w'.heap = w.heap) : LAt w' g cap l := by
  cases g with
  | none => exact h
  | some g =>
    obtain ⟨cur, h1, h2⟩ := h
    exact ⟨cur, by rw [e]; exact h1, h2⟩
theorem LAt.lt {w : World} {g : Option Nat} {cap : Nat} {l : List Int} (h : LAt w g cap l) : ∀ k, k ∈ lF g → k < w.heap.size := by
  cases g with
  | none => simp [lF]
  | some g =>
    obtain ⟨cur, h1, h2⟩ := h
    intro k hk
    simp [lF] at hk
    subst hk
    exact ltOf h1
theorem LAt.cap {w : World} {g : Option Nat} {cap : Nat} {l : List Int} (h : LAt w g cap l) : l.length ≤ cap ∧ cap ≤ maxLen := by
  cases g with
  | none => obtain ⟨rfl, rfl⟩ := h; simp
  | some g =>
    obtain ⟨cur, h1, h2, h3, _⟩ := h
    exact ⟨h2, h3⟩
theorem LAt.cell {w : World} {g : Option Nat} {cap : Nat} {l : List Int} (h : LAt w g cap l) {i : Nat} (hi : i < l.length) : ∃ b, g = some b ∧ w.cell? ⟨b, i, none⟩ = some (.int .i64 (nth l i)) := by
  cases g with
  | none => obtain ⟨rfl, rfl⟩ := h; simp at hi
  | some g =>
    obtain ⟨cur, h1, h2, h3, h4, h5⟩ := h
    refine ⟨g, rfl, (cellAt h1 i).trans ?_⟩
    have h6 := congrArg (fun x => x[i]?) h5
    simp only [List.getElem?_take, hi, if_true, List.getElem?_map, Array.getElem?_toList] at h6
    rw [h6, List.getElem?_eq_getElem hi]
    simp [nth, List.getD, hi]

theorem LAt.owns {w : World} {g : Option Nat} {cap : Nat} {l : List Int} (h : LAt w g cap l) : w.ownsRow 0 3 1 (.slice (lA g) l.length cap) l.length (l.map (Value.int .i64)) := by
  refine ⟨by simp, ?_⟩
  cases g with
  | none => obtain ⟨rfl, rfl⟩ := h; exact .inl ⟨rfl, rfl⟩
  | some g =>
    obtain ⟨cur, h1, h2, h3, h4, h5⟩ := h
    exact .inr ⟨g, cap, cur, rfl, by omega, h1, h2, h3, by omega, by rw [Nat.mul_one]; exact h5⟩

theorem infoInt : (Tryd.prog.info? 3).map (fun i => (i.zero, i.size, i.bytes)) = some (some (.int .i64 0), 1, 8) := by kernel_rfl

/-- append of one number. -/
theorem LAt.append {w : World} {g : Option Nat} {cap : Nat} {l : List Int} (h : LAt w g cap l) (hl : l.length < 1000000) {b : Nat} {k : Int} (hb : w.heap[b]? = some (.cells #[.int .i64 k] 3 (0,0))) :
    ∃ g' cap' w', (∀ ty, (Builtin.append_ #[49, 49] ty #[.slice (lA g) l.length cap, .slice (some ⟨b, 0, none⟩) 1 1]).run Tryd.prog w = .ok (.slice (some ⟨g', 0, none⟩) (l.length + 1) cap') w') ∧
      LAt w' (some g') cap' (l ++ [k]) ∧ Mod (lF g) w w' ∧ (g' ∈ lF g ∨ g' = w.heap.size) := by
  have hI := infoInt
  obtain ⟨i, hi, hi2⟩ := Option.map_eq_some_iff.1 hI
  simp only [Prod.mk.injEq] at hi2
  obtain ⟨i1, i2, i3⟩ := hi2
  have hx := fun ty => run_append_lies (P := Tryd.prog) w 49 ty 0 3 i (.int .i64 0) 1 8 Tryd.underlying49 hi i1 i2 i3 rfl (by omega) _ _ _ h.owns ⟨b, 0, none⟩ 1 1 [.int .i64 k] rfl (World.news_of_block hb) (by simp [Value.oneCell']) (by omega) (by unfold maxLen; omega) (by omega) (by omega) _ rfl
  obtain ⟨g', cap', w', hr, h2, h3, h4, h5⟩ := hx 0
  refine ⟨g', cap', w', ?_, ?_, ?_, ?_⟩
  · intro ty
    have : (Builtin.append_ #[49, 49] ty #[.slice (lA g) l.length cap, .slice (some ⟨b, 0, none⟩) 1 1]) = (Builtin.append_ #[49, 49] 0 #[.slice (lA g) l.length cap, .slice (some ⟨b, 0, none⟩) 1 1]) := rfl
    rw [this]; exact hr
  · rcases h2.2 with ⟨hv, h0⟩ | ⟨g2, cap2, cur, hv, _, q1, q2, q3, q4, q5⟩
    · omega
    · cases hv
      refine ⟨cur, q1, by simpa using q2, q3, by omega, ?_⟩
      rw [Nat.mul_one] at q5
      simpa using q5
  · have hB : (Value.slice (lA g) l.length cap).ownBlock = g := by cases g <;> rfl
    rw [hB] at h3
    refine ⟨h3.os, h3.tape, h3.output, h3.size, fun k hk hS => h3.block k hk ?_⟩
    rintro rfl
    exact hS (by simp [lF])
  · have hB : (Value.slice (lA g) l.length cap).ownBlock = g := by cases g <;> rfl
    rw [hB] at h4
    rcases h4 with rfl | rfl
    · exact .inl (by simp [lF])
    · exact .inr rfl

theorem lA_some (b : Nat) : lA (some b) = some ⟨b, 0, none⟩ := rfl
/-- append at a plain region's list, by its run. -/
theorem wpList_append_run {P : Program} {w w' : World} {ops : Array Oper} {rest : List Oper} {o : Oper} {a : Act} {Q : Exit → Act → World → Prop} (hgd : o.guard = none) (s x : Operand) (t : TypeId)
    (ho : o.op = .call { callee := .builtin .append, args := #[s, x], argTypes := #[t, t] }) {v u r : Value} (hs : a.eval s = v) (hx : a.eval x = u)
    (hr : (Builtin.append_ #[t, t] o.type #[v, u]).run P w = .ok r w') (h : wpList P ops Q rest (a.put o.dst r) w') : wpList P ops Q (o :: rest) a w :=
  wpList_plain hgd fun _ hK => by
    unfold Oper.wp execOp
    simp only [ho, resolve, invoke, builtin, Sem.run_bind, Sem.run_pure, Result.andThen_ok, List.map_toArray, List.map_cons, List.map_nil, hs, hx, hr]
    exact hK _ _ h
/-- .. onto a list that an object owns. -/
theorem wpList_append_LAt {w : World} {ops : Array Oper} {rest : List Oper} {o : Oper} {a : Act} {Q : Exit → Act → World → Prop} (hgd : o.guard = none) (s x : Operand)
    (ho : o.op = .call { callee := .builtin .append, args := #[s, x], argTypes := #[49, 49] }) {g : Option Nat} {cap : Nat} {l : List Int} (h : LAt w g cap l) (hl : l.length < 1000000) {b : Nat} {k : Int} (hb : w.heap[b]? = some (.cells #[.int .i64 k] 3 (0,0)))
    (hs : a.eval s = .slice (lA g) l.length cap) (hx : a.eval x = .slice (some ⟨b, 0, none⟩) 1 1)
    (hK : ∀ g' cap' w', LAt w' (some g') cap' (l ++ [k]) → Mod (lF g) w w' → (g' ∈ lF g ∨ g' = w.heap.size) → wpList Tryd.prog ops Q rest (a.put o.dst (.slice (some ⟨g', 0, none⟩) (l.length + 1) cap')) w') : wpList Tryd.prog ops Q (o :: rest) a w := by
  obtain ⟨g', cap', w', hrun, h1, h2, h3⟩ := h.append hl hb
  exact wpList_append_run hgd s x _ ho hs hx (hrun _) (hK g' cap' w' h1 h2 h3)
end Go.Proofs.YthieionajemjhaaDoor
