/- Maps whose keys are whole numbers: what a lookup, a store, delete and len do to the list of a map's entries. No condition. -/
import Derived.Test.YthieionajemjhaaDoorKit
import Derived.Carry
import Derived.MapKept
namespace Go.Proofs.YthieionajemjhaaDoor
set_option linter.unusedVariables false
set_option linter.unusedSimpArgs false
open Go.RowKit

/-- The first entry of a key, with its place. -/
def mfind : List (Int × Value) → Int → Nat → Option (Nat × Value)
  | [], _, _ => none
  | p :: m, i, j => if i = p.1 then some (j, p.2) else mfind m i (j + 1)
def mget (m : List (Int × Value)) (i : Int) : Option Value := (mfind m i 0).map (·.2)
def mput (m : List (Int × Value)) (i : Int) (v : Value) : List (Int × Value) := match mfind m i 0 with | some (n, _) => m.set n (i, v) | none => m ++ [(i, v)]
def mdel (m : List (Int × Value)) (i : Int) : List (Int × Value) := match mfind m i 0 with | some (n, _) => m.eraseIdx n | none => m

/-- The entries of a map's block are those of m. -/
structure Ents (kk : IntKind) (es : Array MapEntry) (clk : Nat) (m : List (Int × Value)) : Prop where
  eq : es.toList.map (fun e => (e.key, e.val)) = m.map (fun p => (Value.int kk p.1, p.2))
  nodup : (m.map (·.1)).Nodup
  born : (es.toList.map (·.born)).Nodup
  lt : ∀ e ∈ es.toList, e.born < clk

/-- Block b is a map with the entries m. -/
def MapAt (kk : IntKind) (w : World) (b : Nat) (m : List (Int × Value)) : Prop := ∃ es clk, w.heap[b]? = some (.map es clk) ∧ Ents kk es clk m

theorem MapAt.keep {kk : IntKind} {S : List Nat} {w w' : World} {b : Nat} {m : List (Int × Value)} (h : MapAt kk w b m) (mm : Mod S w w') (hb : b ∉ S) : MapAt kk w' b m := by
  obtain ⟨es, clk, h1, h2⟩ := h
  exact ⟨es, clk, mm.keep h1 hb, h2⟩
theorem MapAt.same {kk : IntKind} {w w' : World} {b : Nat} {m : List (Int × Value)} (h : MapAt kk w b m) (e : w'.heap = w.heap) : MapAt kk w' b m := by
  obtain ⟨es, clk, h1, h2⟩ := h
  exact ⟨es, clk, by rw [e]; exact h1, h2⟩
theorem MapAt.new (kk : IntKind) (w : World) : MapAt kk (w.alloc (.map #[] 0)) w.heap.size [] :=
  ⟨#[], 0, heapNew _ _, by simp, by simp, by simp, by simp⟩
theorem MapAt.lt {kk : IntKind} {w : World} {b : Nat} {m : List (Int × Value)} (h : MapAt kk w b m) : b < w.heap.size := by
  obtain ⟨es, clk, h1, h2⟩ := h
  exact ltOf h1

theorem mfind_shift : ∀ (m : List (Int × Value)) (i : Int) (j : Nat), mfind m i j = (mfind m i 0).map (fun p => (p.1 + j, p.2))
  | [], i, j => rfl
  | p :: m, i, j => by
    unfold mfind
    split
    · simp
    · rw [mfind_shift m i (j + 1), mfind_shift m i (0 + 1)]
      cases mfind m i 0 <;> simp; omega

theorem mfind_some : ∀ {m : List (Int × Value)} {i : Int} {n : Nat} {v : Value}, mfind m i 0 = some (n, v) → m[n]? = some (i, v)
  | [], i, n, v, h => by simp [mfind] at h
  | p :: m, i, n, v, h => by
    unfold mfind at h
    split at h
    · rename_i e
      simp at h
      obtain ⟨rfl, rfl⟩ := h
      simp [e]
    · rw [mfind_shift] at h
      cases hm : mfind m i 0 with
      | none => simp [hm] at h
      | some q =>
        obtain ⟨a, b⟩ := q
        simp [hm] at h
        obtain ⟨rfl, rfl⟩ := h
        simpa using mfind_some hm
theorem mfind_none : ∀ {m : List (Int × Value)} {i : Int}, mfind m i 0 = none ↔ i ∉ m.map (·.1)
  | [], i => by simp [mfind]
  | p :: m, i => by
    unfold mfind
    split
    · rename_i e; simp [e]
    · rename_i e
      rw [mfind_shift]
      have := mfind_none (m := m) (i := i)
      cases hm : mfind m i 0 <;> simp_all

theorem findNow_eq (kk : IntKind) (i : Int) : ∀ (es : List MapEntry) (m : List (Int × Value)) (j : Nat), es.map (fun e => (e.key, e.val)) = m.map (fun p => (Value.int kk p.1, p.2)) → Instr.findNow (.int kk) (.int kk i) es j = some (mfind m i j)
  | [], [], j, h => rfl
  | [], p :: m, j, h => by simp at h
  | e :: es, [], j, h => by simp at h
  | e :: es, p :: m, j, h => by
    simp only [List.map_cons, List.cons.injEq, Prod.mk.injEq] at h
    obtain ⟨⟨h1, h2⟩, h3⟩ := h
    have ih := findNow_eq kk i es m (j + 1) h3
    unfold Instr.findNow mfind
    rw [h1, h2]
    simp only [Instr.sameNow, if_true]
    by_cases e : i = p.1
    · simp [e]
    · have : (i == p.1) = false := by simpa using e
      simp [this, e, ih]

section
variable {P : Program} {w : World} {b : Nat} {kk : IntKind} {m : List (Int × Value)} {t k e : TypeId}

theorem run_checkKey (he : P.underlying k = some (.int kk)) (x : Bool) (n : Nat) (v : Value) (w : World) : (Instr.checkKey x (n + 1) k v).run P w = .ok () w := by
  simp [Instr.checkKey, run_underlying he]

theorem map_lookup (h : MapAt kk w b m) (ht : P.underlying t = some (.map k e)) (hk : P.underlying k = some (.int kk)) (i : Int) {z : Value} (hz : ∀ w, (zeroValue e).run P w = .ok z w) :
    (Instr.lookup t (.map (some b)) (.int kk i) false).run P w = .ok ((mget m i).getD z) w := by
  obtain ⟨es, clk, hb, he⟩ := h
  have hc := fun x => run_checkKey (P := P) hk x 9999 (.int kk i) w
  have hf := findNow_eq kk i es.toList m 0 he.eq
  cases hm : mfind m i 0 with
  | none =>
    rw [hm] at hf
    simp [Instr.lookup, run_underlying ht, getObj, Sem.run, hb, hc, Instr.findKey, run_underlying hk, hf, hz, mget, hm]
  | some q =>
    rw [hm] at hf
    simp [Instr.lookup, run_underlying ht, getObj, Sem.run, hb, hc, Instr.findKey, run_underlying hk, hf, hz, mget, hm]
theorem map_lookup_nil (ht : P.underlying t = some (.map k e)) (hk : P.underlying k = some (.int kk)) (i : Int) {z : Value} (hz : ∀ w, (zeroValue e).run P w = .ok z w) (w : World) :
    (Instr.lookup t (.map none) (.int kk i) false).run P w = .ok z w := by
  have hc := fun x => run_checkKey (P := P) hk x 9999 (.int kk i) w
  simp [Instr.lookup, run_underlying ht, hc, Instr.findKey, run_underlying hk, Instr.findNow, hz]
theorem map_lookup2 (h : MapAt kk w b m) (ht : P.underlying t = some (.map k e)) (hk : P.underlying k = some (.int kk)) (i : Int) {z : Value} (hz : ∀ w, (zeroValue e).run P w = .ok z w) :
    (Instr.lookup t (.map (some b)) (.int kk i) true).run P w = .ok (.tuple #[(mget m i).getD z, .bool (mget m i).isSome]) w := by
  obtain ⟨es, clk, hb, he⟩ := h
  have hc := fun x => run_checkKey (P := P) hk x 9999 (.int kk i) w
  have hf := findNow_eq kk i es.toList m 0 he.eq
  cases hm : mfind m i 0 with
  | none =>
    rw [hm] at hf
    simp [Instr.lookup, run_underlying ht, getObj, Sem.run, hb, hc, Instr.findKey, run_underlying hk, hf, hz, mget, hm]
  | some q =>
    rw [hm] at hf
    simp [Instr.lookup, run_underlying ht, getObj, Sem.run, hb, hc, Instr.findKey, run_underlying hk, hf, hz, mget, hm]

/-- The world with another map in block b. -/
def setBlk (w : World) (b : Nat) (o : Obj) : World := { w with heap := w.heap.setIfInBounds b o }
theorem Mod.setBlk {S : List Nat} {a w : World} (h : Mod S a w) {b : Nat} (hb : b ∈ S ∨ a.heap.size ≤ b) (o : Obj) : Mod S a (setBlk w b o) :=
  ⟨h.os, h.tape, h.output, by have := h.size; show _ ≤ (w.heap.setIfInBounds b o).size; simpa using this, fun k hk hS => by
    show (w.heap.setIfInBounds b o)[k]? = _
    have hne : b ≠ k := fun q => by subst q; exact hb.elim hS (by omega)
    rw [Array.getElem?_setIfInBounds, if_neg hne, h.block k hk hS]⟩
theorem heapBlk {w : World} {b : Nat} {o : Obj} (h : b < w.heap.size) : (setBlk w b o).heap[b]? = some o := by
  show (w.heap.setIfInBounds b o)[b]? = _
  rw [Array.getElem?_setIfInBounds, if_pos rfl, if_pos h]

theorem mfind_lt {m : List (Int × Value)} {i : Int} {n : Nat} {v : Value} (h : mfind m i 0 = some (n, v)) : n < m.length := by
  have := mfind_some h
  exact (List.getElem?_eq_some_iff.1 this).1

theorem map_update (h : MapAt kk w b m) (ht : P.underlying t = some (.map k e)) (hk : P.underlying k = some (.int kk)) (i : Int) (v : Value) :
    ∃ w1, (Instr.mapUpdate t (.map (some b)) (.int kk i) v).run P w = .ok () w1 ∧ Mod [b] w w1 ∧ MapAt kk w1 b (mput m i v) := by
  obtain ⟨es, clk, hb, he⟩ := h
  have hl := ltOf hb
  have hc := fun x => run_checkKey (P := P) hk x 9999 (.int kk i) w
  have hf := findNow_eq kk i es.toList m 0 he.eq
  have hlen : es.toList.length = m.length := by have := congrArg List.length he.eq; simpa using this
  cases hm : mfind m i 0 with
  | none =>
    rw [hm] at hf
    refine ⟨setBlk w b (.map (es.push { key := .int kk i, val := v, born := clk }) (clk + 1)), ?_, (Mod.refl _ _).setBlk (by simp) _, _, _, heapBlk hl, ?_⟩
    · simp [Instr.mapUpdate, run_underlying ht, getObj, setObj, Sem.run, hb, hc, Instr.findKey, run_underlying hk, hf, setBlk]
    · have hn := mfind_none.1 hm
      refine ⟨?_, ?_, ?_, ?_⟩
      · simp only [mput, hm, Array.toList_push, List.map_append, he.eq, List.map_cons, List.map_nil]
      · simp only [mput, hm, List.map_append, List.map_cons, List.map_nil]
        refine List.nodup_append.2 ⟨he.nodup, by simp, ?_⟩
        intro x hx y hy e
        simp only [List.mem_singleton] at hy
        exact hn (hy ▸ e ▸ hx)
      · simp only [Array.toList_push, List.map_append, List.map_cons, List.map_nil]
        refine List.nodup_append.2 ⟨he.born, by simp, ?_⟩
        intro x hx y hy
        simp only [List.mem_singleton] at hy
        subst hy
        obtain ⟨z, hz, rfl⟩ := List.mem_map.1 hx
        exact Nat.ne_of_lt (he.lt z hz)
      · intro x hx
        simp only [Array.toList_push, List.mem_append, List.mem_singleton] at hx
        rcases hx with hx | rfl
        · exact Nat.lt_succ_of_lt (he.lt x hx)
        · exact Nat.lt_succ_self _
  | some q =>
    obtain ⟨n, v0⟩ := q
    rw [hm] at hf
    have hn := mfind_some hm
    have hn2 := mfind_lt hm
    have hne : ∃ e0, es[n]? = some e0 ∧ e0.key = .int kk i := by
      have h5 := congrArg (fun l => l[n]?) he.eq
      simp only [List.getElem?_map, hn, Option.map_some, Array.getElem?_toList] at h5
      cases h6 : es[n]? with
      | none => simp [h6] at h5
      | some e0 => simp [h6] at h5; exact ⟨e0, rfl, h5.1⟩
    obtain ⟨e0, he0, hk0⟩ := hne
    have hS := Go.MapKept.stamped_modify (es := es) (clock := clk) (by
      refine ⟨he.lt, he.born, ?_⟩
      have h7 : es.toList.map (·.key) = (m.map (·.1)).map (Value.int kk) := by
        have := congrArg (List.map Prod.fst) he.eq
        simpa [Function.comp_def] using this
      rw [h7, List.Nodup, List.pairwise_map]
      exact he.nodup.imp (fun h9 e9 => h9 (by cases e9; rfl))) n (fun e => { e with key := .int kk i, val := v }) (fun _ _ => rfl) (fun e _ h9 => by rw [he0] at h9; cases h9; simp [hk0])
    refine ⟨setBlk w b (.map (es.modify n fun e => { e with key := .int kk i, val := v }) clk), ?_, (Mod.refl _ _).setBlk (by simp) _, _, _, heapBlk hl, ?_⟩
    · have hkt : ((es[n]?).map (·.key)).getD (.int kk i) = .int kk i := by simp [he0, hk0]
      simp [Instr.mapUpdate, run_underlying ht, getObj, setObj, Sem.run, hb, hc, Instr.findKey, run_underlying hk, hf, setBlk, he0, hk0, Instr.keyThatStays, Instr.sameBits]
    · refine ⟨?_, ?_, hS.2.1, hS.1⟩
      · simp only [mput, hm]
        apply List.ext_getElem?
        intro j
        have h5 := congrArg (fun l => l[j]?) he.eq
        simp only [List.getElem?_map, Array.getElem?_toList] at h5
        simp only [List.getElem?_map, Array.getElem?_toList, Array.getElem?_modify, List.getElem?_set]
        by_cases hj : n = j
        · subst hj
          simp [he0, hn2]
        · simp only [hj, if_false]
          simpa using h5
      · simp only [mput, hm]
        have : (m.set n (i, v)).map (·.1) = m.map (·.1) := by
          apply List.ext_getElem?
          intro j
          simp only [List.getElem?_map, List.getElem?_set]
          by_cases hj : n = j
          · subst hj; simp [hn2]
            have := List.getElem?_eq_some_iff.1 hn
            obtain ⟨_, h9⟩ := this
            simp [h9]
          · simp [hj]
        rw [this]; exact he.nodup

theorem mapErase {α β : Type} (f : α → β) : ∀ (l : List α) (n : Nat), (l.eraseIdx n).map f = (l.map f).eraseIdx n
  | [], n => by simp
  | a :: l, 0 => by simp
  | a :: l, n + 1 => by simp [mapErase f l n]
theorem map_delete (h : MapAt kk w b m) (ht : P.underlying t = some (.map k e)) (hk : P.underlying k = some (.int kk)) (i : Int) :
    ∃ w1, (∀ ty, (Builtin.delete_ #[t, k] ty #[.map (some b), .int kk i]).run P w = .ok (.tuple #[]) w1) ∧ Mod [b] w w1 ∧ MapAt kk w1 b (mdel m i) := by
  obtain ⟨es, clk, hb, he⟩ := h
  have hl := ltOf hb
  have hc := fun x => run_checkKey (P := P) hk x 9999 (.int kk i) w
  have hf := findNow_eq kk i es.toList m 0 he.eq
  have hlen : es.size = m.length := by have := congrArg List.length he.eq; simpa using this
  cases hm : mfind m i 0 with
  | none =>
    rw [hm] at hf
    refine ⟨setBlk w b (.map es clk), fun ty => ?_, (Mod.refl _ _).setBlk (by simp) _, _, _, heapBlk hl, ?_⟩
    · simp [Builtin.delete_, run_underlying ht, getObj, setObj, Sem.run, hb, hc, Instr.findKey, run_underlying hk, hf, setBlk]
    · simp only [mdel, hm]; exact he
  | some q =>
    obtain ⟨n, v0⟩ := q
    rw [hm] at hf
    have hn2 := mfind_lt hm
    refine ⟨setBlk w b (.map (es.eraseIdxIfInBounds n) clk), fun ty => ?_, (Mod.refl _ _).setBlk (by simp) _, _, _, heapBlk hl, ?_⟩
    · simp [Builtin.delete_, run_underlying ht, getObj, setObj, Sem.run, hb, hc, Instr.findKey, run_underlying hk, hf, setBlk]
    · have hE : (es.eraseIdxIfInBounds n).toList = es.toList.eraseIdx n := by
        unfold Array.eraseIdxIfInBounds
        rw [dif_pos (by omega)]; simp
      have hs : (es.eraseIdxIfInBounds n).toList.Sublist es.toList := by rw [hE]; exact List.eraseIdx_sublist _ _
      refine ⟨?_, ?_, (hs.map _).nodup he.born, fun x hx => he.lt x (hs.subset hx)⟩
      · simp only [mdel, hm]
        rw [hE, mapErase, he.eq, mapErase]
      · simp only [mdel, hm]
        exact ((List.eraseIdx_sublist _ _).map _).nodup he.nodup
theorem map_delete_nil (ht : P.underlying t = some (.map k e)) (hk : P.underlying k = some (.int kk)) (i : Int) (w : World) (ty : TypeId) :
    (Builtin.delete_ #[t, k] ty #[.map none, .int kk i]).run P w = .ok (.tuple #[]) w := by
  have hc := fun x => run_checkKey (P := P) hk x 9999 (.int kk i) w
  simp [Builtin.delete_, run_underlying ht, hc]
end
end Go.Proofs.YthieionajemjhaaDoor
