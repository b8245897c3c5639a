/- Several texts in one (each with its own sentence below). -/
import Derived.Test.YtaakgpnmfkmdoaaGreatDoorKAM
import Derived.Test.YtaakgpnmfkmdoaaGreatDoorBaseM
import Derived.Test.YtaakgpnmfkmdoaaGreatDoorKBM
import Derived.Lib.TrailingZeros
import Derived.Shelf.Lays
import Derived.Test.YtaakgpnmfkmdoaaGreatDoorProg
import Derived.Shelf.Bits.Mul64
import Derived.Test.YtaakgpnmfkmdoaaGreatDoorTimerM
import Derived.OwnWalk
import Derived.Test.YtaakgpnmfkmdoaaGreatDoorKCM
import Derived.Deep.RegionHeld3
/- A queue with priorities as one list of (priority, id) in the order of coming; its levels. No program in sight. -/
namespace Go.Proofs.YtaakgpnmfkmdoaaGreatDoor
set_option linter.unusedVariables false
set_option linter.unusedSimpArgs false
open Go.RowKit

abbrev PQ := List (Nat × Int)
/-- The ids of one priority, in order. -/
def lvl (L : PQ) (p : Nat) : List Int := (L.filter fun x => decide (x.1 = p)).map (·.2)
def downs : List Nat := [7, 6, 5, 4, 3, 2, 1, 0]
def listP (L : PQ) : List Int := downs.flatMap (lvl L)
def prioP (L : PQ) (id : Int) : Option Nat := (L.find? fun x => decide (x.2 = id)).map (·.1)
def outP (L : PQ) (id : Int) : PQ := L.filter fun x => !decide (x.2 = id)
def pushE (most : Nat) (L : PQ) (p id : Int) : Int := if p < 0 ∨ 8 ≤ p then 2 else if (prioP L id).isSome then 6 else if most ≤ L.length then 5 else 0
def pushP (most : Nat) (L : PQ) (p id : Int) : PQ := if pushE most L p id = 0 then L ++ [(p.toNat, id)] else L
def dropPE (L : PQ) (id : Int) : Int := if (prioP L id).isSome then 0 else 4
def backP (L : PQ) (id : Int) : PQ := match prioP L id with | some p => outP L id ++ [(p, id)] | none => L
def topP (L : PQ) : Int := nth (listP L) 0
def topE (L : PQ) : Int := if L = [] then 12 else 0
def turnP (L : PQ) : PQ := if L = [] then L else backP L (topP L)
/-- No id twice, all priorities below 8. -/
structure PQ.ok (L : PQ) : Prop where
  nodup : (L.map (·.2)).Nodup
  lt : ∀ x, x ∈ L → x.1 < 8
theorem lvl_append (L M : PQ) (p : Nat) : lvl (L ++ M) p = lvl L p ++ lvl M p := by simp [lvl]
theorem mem_lvl {L : PQ} {p : Nat} {id : Int} : id ∈ lvl L p ↔ (p, id) ∈ L := by
  unfold lvl
  simp only [List.mem_map, List.mem_filter, decide_eq_true_eq]
  constructor
  · rintro ⟨x, ⟨h1, h2⟩, rfl⟩; rw [← h2]; exact h1
  · intro h; exact ⟨_, ⟨h, rfl⟩, rfl⟩
theorem prioP_some {L : PQ} (h : L.ok) {id : Int} {p : Nat} : prioP L id = some p ↔ (p, id) ∈ L := by
  unfold prioP
  constructor
  · intro hh
    obtain ⟨x, h1, rfl⟩ := Option.map_eq_some_iff.1 hh
    have h2 := List.find?_some h1
    have h3 := List.mem_of_find?_eq_some h1
    simp at h2
    rw [← h2]; exact h3
  · intro hm
    cases hf : L.find? fun x => decide (x.2 = id) with
    | none =>
      have := List.find?_eq_none.1 hf _ hm
      simp at this
    | some x =>
      have h2 := List.find?_some hf
      have h3 := List.mem_of_find?_eq_some hf
      simp at h2
      obtain ⟨a, b⟩ := x
      simp only at h2
      subst h2
      have : a = p := by
        have hn := h.nodup
        rw [List.Nodup, List.pairwise_map] at hn
        apply Classical.byContradiction
        intro hne
        rcases List.mem_iff_getElem.1 h3 with ⟨i, hi, ei⟩
        rcases List.mem_iff_getElem.1 hm with ⟨j, hj, ej⟩
        have hij : i ≠ j := by rintro rfl; rw [ei] at ej; cases ej; exact hne rfl
        have hp := List.pairwise_iff_getElem.1 hn
        rcases Nat.lt_or_gt_of_ne hij with hlt | hlt
        · have := hp i j hi hj hlt; rw [ei, ej] at this; exact this rfl
        · have := hp j i hj hi hlt; rw [ei, ej] at this; exact this rfl
      rw [this]; rfl
theorem prioP_none {L : PQ} {id : Int} : prioP L id = none ↔ id ∉ L.map (·.2) := by
  unfold prioP
  rw [Option.map_eq_none_iff, List.find?_eq_none]
  constructor
  · intro h hm
    obtain ⟨x, hx, rfl⟩ := List.mem_map.1 hm
    have := h x hx
    simp at this
  · intro h x hx e
    simp at e
    exact h (List.mem_map.2 ⟨x, hx, e⟩)
theorem outP_lvl (L : PQ) (id : Int) (p : Nat) : lvl (outP L id) p = (lvl L p).filter fun x => !decide (x = id) := by
  unfold lvl outP
  rw [List.filter_map, List.filter_filter, List.filter_filter]
  congr 1
  refine List.filter_congr fun x _ => ?_
  simp [Bool.and_comm]
theorem lvl_nodup {L : PQ} (h : L.ok) (p : Nat) : (lvl L p).Nodup := by
  have := h.nodup
  unfold lvl
  exact (List.filter_sublist.map _).nodup this
theorem outP_ok {L : PQ} (h : L.ok) (id : Int) : (outP L id : PQ).ok :=
  ⟨(List.filter_sublist.map _).nodup h.nodup, fun x hx => h.lt x (List.mem_filter.1 hx).1⟩
theorem push_ok {L : PQ} (h : L.ok) {p : Nat} {id : Int} (hp : p < 8) (hn : prioP L id = none) : PQ.ok (L ++ [(p, id)]) := by
  refine ⟨?_, fun x hx => ?_⟩
  · rw [List.map_append]
    exact List.nodup_append.2 ⟨h.nodup, by simp, by rintro x hx y hy rfl; simp at hy; exact prioP_none.1 hn (hy ▸ hx)⟩
  · rcases List.mem_append.1 hx with hx | hx
    · exact h.lt x hx
    · rw [List.mem_singleton] at hx; subst hx; exact hp
theorem listP_len : ∀ (K : PQ), (∀ x, x ∈ K → x.1 < 8) → (listP K).length = K.length := by
    intro K
    unfold listP
    induction K with
    | nil => intro _; rfl
    | cons x K ih =>
      intro hK
      have h1 := ih (fun y hy => hK y (List.mem_cons_of_mem _ hy))
      have h2 := hK x List.mem_cons_self
      have hc : ∀ p, (lvl (x :: K) p).length = (lvl K p).length + if x.1 = p then 1 else 0 := by
        intro p
        unfold lvl
        by_cases e : x.1 = p
        · rw [List.filter_cons_of_pos (by simpa using e), if_pos e]; simp
        · rw [List.filter_cons_of_neg (by simpa using e), if_neg e]; simp
      simp only [downs, List.flatMap_cons, List.flatMap_nil, List.length_append, List.length_nil, hc] at h1 ⊢
      rw [List.length_cons, ← h1]
      have h3 : x.1 = 0 ∨ x.1 = 1 ∨ x.1 = 2 ∨ x.1 = 3 ∨ x.1 = 4 ∨ x.1 = 5 ∨ x.1 = 6 ∨ x.1 = 7 := by omega
      rcases h3 with e | e | e | e | e | e | e | e <;> rw [e] <;> simp <;> omega
theorem listP_mem {L : PQ} (h : L.ok) {x : Int} : x ∈ listP L ↔ (prioP L x).isSome = true := by
  unfold listP
  rw [List.mem_flatMap]
  constructor
  · rintro ⟨p, _, hp⟩
    rw [(prioP_some h).2 (mem_lvl.1 hp)]; rfl
  · intro hx
    obtain ⟨p, hp⟩ := Option.isSome_iff_exists.1 hx
    have hm := (prioP_some h).1 hp
    have h8 := h.lt _ hm
    refine ⟨p, ?_, mem_lvl.2 hm⟩
    simp [downs]; simp at h8; omega
end Go.Proofs.YtaakgpnmfkmdoaaGreatDoor

/- A map in memory as a function from numbers: what a lookup, a store, a deletion and len do. No condition but those named. -/
namespace Go.Proofs.YtaakgpnmfkmdoaaGreatDoor
set_option linter.unusedVariables false
set_option linter.unusedSimpArgs false
open Go.RowKit

theorem mget_nil (i : Int) : mget [] i = none := rfl
theorem mget_cons (p : Int × Value) (m : List (Int × Value)) (i : Int) : mget (p :: m) i = if i = p.1 then some p.2 else mget m i := by
  unfold mget
  rw [mfind]
  split
  · rfl
  · rw [mfind_shift]; cases mfind m i 0 <;> rfl
theorem mfind_cons (p : Int × Value) (m : List (Int × Value)) (i : Int) : mfind (p :: m) i 0 = if i = p.1 then some (0, p.2) else (mfind m i 0).map fun q => (q.1 + 1, q.2) := by
  rw [mfind]
  split
  · rfl
  · rw [mfind_shift]
theorem mput_cons (p : Int × Value) (m : List (Int × Value)) (i : Int) (v : Value) : mput (p :: m) i v = if i = p.1 then (i, v) :: m else p :: mput m i v := by
  unfold mput
  rw [mfind_cons]
  by_cases e : i = p.1
  · rw [if_pos e, if_pos e]; rfl
  · rw [if_neg e, if_neg e]
    cases mfind m i 0 <;> simp
theorem mdel_cons (p : Int × Value) (m : List (Int × Value)) (i : Int) : mdel (p :: m) i = if i = p.1 then m else p :: mdel m i := by
  unfold mdel
  rw [mfind_cons]
  by_cases e : i = p.1
  · rw [if_pos e, if_pos e]; rfl
  · rw [if_neg e, if_neg e]
    cases mfind m i 0 <;> simp
theorem mget_put : ∀ (m : List (Int × Value)) (i : Int) (v : Value) (j : Int), mget (mput m i v) j = if j = i then some v else mget m j
  | [], i, v, j => by
    show mget [(i, v)] j = _
    rw [mget_cons, mget_nil]
  | p :: m, i, v, j => by
    rw [mput_cons]
    split
    · rename_i e
      rw [mget_cons, mget_cons]
      subst e
      by_cases h : j = p.1 <;> simp [h]
    · rename_i e
      rw [mget_cons, mget_cons, mget_put m i v j]
      by_cases h : j = p.1
      · subst h
        rw [if_pos rfl, if_neg (fun x => e x.symm), if_pos rfl]
      · rw [if_neg h, if_neg h]
theorem mput_len : ∀ (m : List (Int × Value)) (i : Int) (v : Value), (mput m i v).length = if (mget m i).isSome then m.length else m.length + 1
  | [], i, v => rfl
  | p :: m, i, v => by
    rw [mput_cons, mget_cons]
    split
    · simp
    · rw [List.length_cons, mput_len m i v]
      split <;> simp
theorem mget_key {m : List (Int × Value)} {i : Int} : (mget m i).isSome = true ↔ i ∈ m.map (·.1) := by
  induction m with
  | nil => simp [mget_nil]
  | cons p m ih =>
    rw [mget_cons, List.map_cons, List.mem_cons]
    by_cases e : i = p.1
    · simp [e]
    · rw [if_neg e, ih]; simp [e]
theorem mget_del : ∀ (m : List (Int × Value)), (m.map (·.1)).Nodup → ∀ (i j : Int), mget (mdel m i) j = if j = i then none else mget m j
  | [], _, i, j => by
    show mget [] j = _
    rw [mget_nil]; simp
  | p :: m, hn, i, j => by
    rw [List.map_cons, List.nodup_cons] at hn
    rw [mdel_cons]
    split
    · rename_i e
      subst e
      rw [mget_cons]
      by_cases h : j = p.1
      · subst h
        rw [if_pos rfl]
        cases hm : mget m p.1 with
        | none => rfl
        | some v => exact absurd (mget_key.1 (by rw [hm]; rfl)) hn.1
      · rw [if_neg h, if_neg h]
    · rename_i e
      rw [mget_cons, mget_cons, mget_del m hn.2 i j]
      by_cases h : j = p.1
      · subst h
        rw [if_pos rfl, if_neg (fun x => e x.symm), if_pos rfl]
      · rw [if_neg h, if_neg h]
theorem mdel_len : ∀ (m : List (Int × Value)) (i : Int), (mdel m i).length = if (mget m i).isSome then m.length - 1 else m.length
  | [], i => rfl
  | p :: m, i => by
    rw [mdel_cons, mget_cons]
    split
    · simp
    · rw [List.length_cons, mdel_len m i]
      split
      · rename_i h
        have : m ≠ [] := by rintro rfl; simp [mget_nil] at h
        have := List.length_pos_iff.2 this
        simp; omega
      · simp
theorem MapAt.nodup {w : World} {b : Nat} {m : List (Int × Value)} (h : MapAt .i64 w b m) : (m.map (·.1)).Nodup := by
  obtain ⟨es, clk, h1, h2⟩ := h
  exact h2.nodup
/-- The map at block b has n entries; it maps i to f i. -/
def FMapAt (w : World) (b n : Nat) (f : Int → Option Value) : Prop := ∃ m, MapAt .i64 w b m ∧ m.length = n ∧ ∀ i, mget m i = f i
theorem FMapAt.keep {S : List Nat} {w w' : World} {b n : Nat} {f : Int → Option Value} (h : FMapAt w b n f) (mm : Mod S w w') (hb : b ∉ S) : FMapAt w' b n f := by
  obtain ⟨m, h1, h2⟩ := h
  exact ⟨m, h1.keep mm hb, h2⟩
theorem FMapAt.lt {w : World} {b n : Nat} {f : Int → Option Value} (h : FMapAt w b n f) : b < w.heap.size := by
  obtain ⟨m, h1, h2⟩ := h
  exact h1.lt
theorem FMapAt.new (w : World) : FMapAt (w.alloc (.map #[] 0)) w.heap.size 0 (fun _ => none) := ⟨[], MapAt.new _ _, rfl, fun i => rfl⟩
def fput (f : Int → Option Value) (i : Int) (v : Value) : Int → Option Value := fun j => if j = i then some v else f j
def fdel (f : Int → Option Value) (i : Int) : Int → Option Value := fun j => if j = i then none else f j
def fmapR (b n : Nat) (f : Int → Option Value) : Res where
  holds F w := F = [b] ∧ FMapAt w b n f
  keep h m hS := ⟨h.1, h.2.keep m (hS _ (by rw [h.1]; exact List.mem_singleton_self _))⟩
  lt h b hb := by rw [h.1, List.mem_singleton] at hb; subst hb; exact h.2.lt
section
variable {P : Program} {w u : World} {b n : Nat} {f : Int → Option Value} {t k e : TypeId}
theorem fm_lookup (h : FMapAt w b n f) (ht : P.underlying t = some (.map k e)) (hk : P.underlying k = some (.int .i64)) (i : Int) {z : Value} (hz : ∀ w, (zeroValue e).run P w = .ok z w) :
    (Instr.lookup t (.map (some b)) (.int .i64 i) false).run P w = .ok ((f i).getD z) w := by
  obtain ⟨m, h1, h2, h3⟩ := h
  rw [← h3 i]
  exact map_lookup h1 ht hk i hz
theorem fm_lookup2 (h : FMapAt w b n f) (ht : P.underlying t = some (.map k e)) (hk : P.underlying k = some (.int .i64)) (i : Int) {z : Value} (hz : ∀ w, (zeroValue e).run P w = .ok z w) :
    (Instr.lookup t (.map (some b)) (.int .i64 i) true).run P w = .ok (.tuple #[(f i).getD z, .bool (f i).isSome]) w := by
  obtain ⟨m, h1, h2, h3⟩ := h
  rw [← h3 i]
  exact map_lookup2 h1 ht hk i hz
theorem fm_len (h : FMapAt w b n f) (ht : P.underlying t = some (.map k e)) (ty : TypeId) : (Builtin.len_ #[t] ty #[.map (some b)]).run P w = .ok (.int .i64 n) w := by
  obtain ⟨m, ⟨es, clk, hb, he⟩, h2, h3⟩ := h
  have hlen : es.size = n := by have := congrArg List.length he.eq; simp at this; omega
  rw [← hlen]
  simp [Builtin.len_, run_underlying ht, getObj, Sem.run, hb]
  try rfl
variable {F0 : List Nat} {w0 : World} {l : List Res}
theorem On.fmPut (h : On F0 w0 l u) (q : Nat) (hq : l[q]? = some (fmapR b n f)) (ht : P.underlying t = some (.map k e)) (hk : P.underlying k = some (.int .i64)) (i : Int) (v : Value) :
    ∃ w1, (Instr.mapUpdate t (.map (some b)) (.int .i64 i) v).run P u = .ok () w1 ∧ On F0 w0 (l.set q (fmapR b (if (f i).isSome then n else n + 1) (fput f i v))) w1 := by
  obtain ⟨F1, ⟨rfl, m, h1, h2, h3⟩, _, h5⟩ := h.gain (P' := fmapR b n f) q hq
  obtain ⟨w1, hrun, m1, x1⟩ := map_update (P := P) h1 ht hk i v
  refine ⟨w1, hrun, h5 ⟨[b], ⟨rfl, _, x1, ?_, fun j => ?_⟩, m1, fun b hb => .inl hb⟩⟩
  · rw [mput_len, h3, h2]
  · rw [mget_put, h3]; rfl
theorem On.fmDel (h : On F0 w0 l u) (q : Nat) (hq : l[q]? = some (fmapR b n f)) (ht : P.underlying t = some (.map k e)) (hk : P.underlying k = some (.int .i64)) (i : Int) :
    ∃ w1, (∀ ty, (Builtin.delete_ #[t, k] ty #[.map (some b), .int .i64 i]).run P u = .ok (.tuple #[]) w1) ∧ On F0 w0 (l.set q (fmapR b (if (f i).isSome then n - 1 else n) (fdel f i))) w1 := by
  obtain ⟨F1, ⟨rfl, m, h1, h2, h3⟩, _, h5⟩ := h.gain (P' := fmapR b n f) q hq
  obtain ⟨w1, hrun, m1, x1⟩ := map_delete (P := P) h1 ht hk i
  refine ⟨w1, hrun, h5 ⟨[b], ⟨rfl, _, x1, ?_, fun j => ?_⟩, m1, fun b hb => .inl hb⟩⟩
  · rw [mdel_len, h3, h2]
  · rw [mget_del _ h1.nodup, h3]; rfl
theorem On.fm (h : On F0 w0 l u) (q : Nat) (hq : l[q]? = some (fmapR b n f)) : FMapAt u b n f := by
  obtain ⟨F, h1⟩ := h.get q hq
  exact h1.2
theorem On.fmNew (h : On F0 w0 l u) : On F0 w0 (l ++ [fmapR u.heap.size 0 (fun _ => none)]) (u.alloc (.map #[] 0)) := by
  have := h.alloc (.map #[] 0)
  refine this.imp fun F hF => ?_
  obtain ⟨F1, F2, rfl, h1, ⟨F3, F4, e2, ⟨h2, h3⟩, rfl, _⟩, h4⟩ := Stars.append.1 hF
  have hF4 : F2 = F3 := by simpa using e2
  subst hF4
  refine ⟨F1 ++ F2, Stars.append.2 ⟨F1, F2, rfl, h1, ⟨F2, [], by simp, ⟨h2, [], ⟨#[], 0, h3, by simp, by simp, by simp, by simp⟩, rfl, fun i => rfl⟩, rfl, by simp⟩, h4⟩, fun b hb => hb⟩
end
/-- Numbers by numbers, pointers by numbers. -/
def numF (g : Int → Option Int) : Int → Option Value := fun i => (g i).map (Value.int .i64)
def ptrF (g : Int → Option Nat) : Int → Option Value := fun i => (g i).map fun b => .pointer (some ⟨b, 0, none⟩)
def oput {α : Type} (g : Int → Option α) (i : Int) (v : α) : Int → Option α := fun j => if j = i then some v else g j
def odel {α : Type} (g : Int → Option α) (i : Int) : Int → Option α := fun j => if j = i then none else g j
theorem numF_put (g : Int → Option Int) (i v : Int) : fput (numF g) i (.int .i64 v) = numF (oput g i v) := by
  funext j; unfold fput numF oput; split <;> rfl
theorem numF_del (g : Int → Option Int) (i : Int) : fdel (numF g) i = numF (odel g i) := by
  funext j; unfold fdel numF odel; split <;> rfl
theorem ptrF_put (g : Int → Option Nat) (i : Int) (v : Nat) : fput (ptrF g) i (.pointer (some ⟨v, 0, none⟩)) = ptrF (oput g i v) := by
  funext j; unfold fput ptrF oput; split <;> rfl
theorem ptrF_del (g : Int → Option Nat) (i : Int) : fdel (ptrF g) i = ptrF (odel g i) := by
  funext j; unfold fdel ptrF odel; split <;> rfl
theorem numF_some (g : Int → Option Int) (i : Int) : (numF g i).isSome = (g i).isSome := by unfold numF; cases g i <;> rfl
theorem ptrF_some (g : Int → Option Nat) (i : Int) : (ptrF g i).isSome = (g i).isSome := by unfold ptrF; cases g i <;> rfl
theorem numF_none : numF (fun _ => none) = fun _ => none := rfl
theorem ptrF_none : ptrF (fun _ => none) = fun _ => none := rfl
end Go.Proofs.YtaakgpnmfkmdoaaGreatDoor

/- The numbers from 1 on of which something is so, rising; the places of the bits of a mask, rising. No program in sight. -/
namespace Go.Proofs.YtaakgpnmfkmdoaaGreatDoor
set_option linter.unusedVariables false
set_option linter.unusedSimpArgs false
open Go.RowKit

/-- Of the first j numbers from 1 on those of which p is so. -/
def upList (p : Nat → Bool) : Nat → List Int
  | 0 => []
  | j + 1 => if p (j + 1) = true then upList p j ++ [((j : Int) + 1)] else upList p j
theorem upList_len (p : Nat → Bool) : ∀ j, (upList p j).length ≤ j
  | 0 => by simp [upList]
  | j + 1 => by
    have := upList_len p j
    unfold upList
    split
    · rw [List.length_append]; simp; omega
    · omega
theorem mem_upList {p : Nat → Bool} {x : Int} : ∀ {j : Nat}, x ∈ upList p j ↔ ∃ k : Nat, x = k ∧ 1 ≤ k ∧ k ≤ j ∧ p k = true
  | 0 => by
    simp [upList]; intro k _ h1 h2; omega
  | j + 1 => by
    unfold upList
    split
    · rename_i h
      rw [List.mem_append, mem_upList, List.mem_singleton]
      constructor
      · rintro (⟨k, h1, h2, h3, h4⟩ | rfl)
        · exact ⟨k, h1, h2, by omega, h4⟩
        · exact ⟨j + 1, by omega, by omega, by omega, h⟩
      · rintro ⟨k, h1, h2, h3, h4⟩
        by_cases e : k = j + 1
        · subst e; right; omega
        · left; exact ⟨k, h1, h2, by omega, h4⟩
    · rename_i h
      rw [mem_upList]
      constructor
      · rintro ⟨k, h1, h2, h3, h4⟩; exact ⟨k, h1, h2, by omega, h4⟩
      · rintro ⟨k, h1, h2, h3, h4⟩
        refine ⟨k, h1, h2, ?_, h4⟩
        by_cases e : k = j + 1
        · subst e; exact absurd h4 h
        · omega
theorem upList_congr {p q : Nat → Bool} : ∀ {j : Nat}, (∀ k, 1 ≤ k → k ≤ j → p k = q k) → upList p j = upList q j
  | 0, _ => rfl
  | j + 1, h => by
    unfold upList
    rw [upList_congr (fun k h1 h2 => h k h1 (by omega)), h (j + 1) (by omega) (by omega)]
/-- The cores of a mask, rising. -/
def listM (m : Nat) : List Int := ((List.range 64).filter fun i => m.testBit i).map fun (i : Nat) => (i : Int)
theorem mem_listM {m : Nat} {x : Int} : x ∈ listM m ↔ ∃ i : Nat, x = i ∧ i < 64 ∧ m.testBit i = true := by
  unfold listM
  simp only [List.mem_map, List.mem_filter, List.mem_range]
  constructor
  · rintro ⟨i, ⟨h1, h2⟩, rfl⟩; exact ⟨i, rfl, h1, h2⟩
  · rintro ⟨i, rfl, h1, h2⟩; exact ⟨i, ⟨h1, h2⟩, rfl⟩
theorem listM_len (m : Nat) : (listM m).length ≤ 64 := by
  unfold listM
  rw [List.length_map]
  have := List.length_filter_le (fun i => m.testBit i) (List.range 64)
  simpa using this
theorem filter_first {p q : Nat → Bool} {k : Nat} (hp : p k = true) (h0 : ∀ j, j < k → p j = false) (hq : ∀ j, q j = (p j && decide (j ≠ k))) : ∀ n, (List.range n).filter p = if k < n then k :: (List.range n).filter q else []
  | 0 => by simp
  | n + 1 => by
    rw [List.range_succ, List.filter_append, List.filter_append, filter_first hp h0 hq n]
    by_cases h1 : k < n
    · rw [if_pos h1, if_pos (by omega), List.cons_append]
      congr 2
      simp only [List.filter_cons, List.filter_nil]
      rw [hq n, decide_eq_true (show n ≠ k by omega), Bool.and_true]
    · rw [if_neg h1]
      by_cases h2 : k = n
      · subst h2
        rw [if_pos (by omega)]
        have e1 : (List.range k).filter q = [] := by
          rw [List.filter_eq_nil_iff]
          intro a ha
          rw [hq a, h0 a (List.mem_range.1 ha)]; simp
        have e2 : q k = false := by rw [hq k]; simp
        simp [hp, e1, e2]
      · rw [if_neg (by omega)]
        have : p n = false := h0 n (by omega)
        simp [this]
/-- The lowest bit of a mask is struck. -/
theorem lowest {m : Nat} (h0 : m ≠ 0) (hm : m < 2 ^ 64) : Lib.ctz 64 m < 64 ∧ m.testBit (Lib.ctz 64 m) = true ∧ (∀ j, j < Lib.ctz 64 m → m.testBit j = false) ∧ ∀ j, (m &&& (m - 1)).testBit j = (m.testBit j && decide (j ≠ Lib.ctz 64 m)) := by
  have hc : Lib.ctz 64 m = Lib.ctzFrom 64 m := by unfold Lib.ctz; rw [if_neg h0]
  obtain ⟨t, ht, hk⟩ := Lib.ctzFrom_spec 64 m (by omega) hm
  rw [hc]
  generalize Lib.ctzFrom 64 m = k at *
  have hb : ∀ j, m.testBit j = (decide (k ≤ j) && (2 * t + 1).testBit (j - k)) := by
    intro j
    rw [ht, Nat.mul_comm, Nat.testBit_mul_two_pow]
  have hpos : 0 < 2 ^ k := Nat.pow_pos (by omega)
  have hm1 : m - 1 = 2 ^ k * (2 * t) + (2 ^ k - 1) := by
    rw [ht, Nat.mul_add, Nat.mul_one]; omega
  have hb1 : ∀ j, (m - 1).testBit j = if j < k then true else (2 * t).testBit (j - k) := by
    intro j
    rw [hm1, Nat.testBit_two_pow_mul_add _ (by omega)]
    split
    · rename_i h; rw [Nat.testBit_two_pow_sub_one]; simp [h]
    · rfl
  refine ⟨hk, ?_, ?_, ?_⟩
  · rw [hb k]; simp
  · intro j hj; rw [hb j]; simp; omega
  · intro j
    rw [Nat.testBit_and, hb j, hb1 j]
    by_cases h : j < k
    · have : ¬ k ≤ j := by omega
      simp [this]
    · rw [if_neg h]
      by_cases e : j = k
      · subst e; simp
      · have h2 : ∃ d, j - k = d + 1 := ⟨j - k - 1, by omega⟩
        obtain ⟨d, hd⟩ := h2
        rw [hd]
        have a1 : (2 * t + 1).testBit (d + 1) = t.testBit d := by rw [Nat.testBit_succ]; congr 1; omega
        have a2 : (2 * t).testBit (d + 1) = t.testBit d := by rw [Nat.testBit_succ]; congr 1; omega
        rw [a1, a2, decide_eq_true (show k ≤ j by omega), decide_eq_true e]
        simp
theorem listM_step {m : Nat} (h0 : m ≠ 0) (hm : m < 2 ^ 64) : listM m = (Lib.ctz 64 m : Int) :: listM (m &&& (m - 1)) := by
  obtain ⟨h1, h2, h3, h4⟩ := lowest h0 hm
  unfold listM
  rw [filter_first (p := fun i => m.testBit i) (q := fun i => (m &&& (m - 1)).testBit i) h2 h3 h4 64, if_pos h1, List.map_cons]
theorem listM_zero : listM 0 = [] := by
  unfold listM
  have : (List.range 64).filter (fun i => Nat.testBit 0 i) = [] := by rw [List.filter_eq_nil_iff]; intro a _; simp
  rw [this]; rfl
theorem listM_nil {m : Nat} (hm : m < 2 ^ 64) (h : listM m = []) : m = 0 := by
  apply Classical.byContradiction
  intro h0
  rw [listM_step h0 hm] at h
  cases h
end Go.Proofs.YtaakgpnmfkmdoaaGreatDoor

/- The walks over num.within and num.Later. No condition but those named. -/
namespace Go.Proofs.YtaakgpnmfkmdoaaGreatDoor
set_option linter.unusedVariables false
set_option linter.unusedSimpArgs false
open Go.RowKit

def laterOk (a b : Int) : Prop := (0 ≤ a ∧ a ≤ 1152921504606846976) ∧ (0 ≤ b ∧ b ≤ 1073741824)
instance instNum21 (a b : Int) : Decidable (laterOk a b) := by unfold laterOk; infer_instance
def laterE (a b : Int) : Int := if ¬ laterOk a b then 2 else if a ≤ 1152921504606846976 - b then 0 else 16
def laterV (a b : Int) : Int := if laterE a b = 0 then a + b else 0
theorem num_within (n m : Int) (w : World) : Calls Tryz.prog 189 #[.int .i64 n, .int .i64 m] w (Ret (.bool (decide (0 ≤ n ∧ n ≤ m))) w) := by
  by_cases h : 0 ≤ n
  · go_enter Tryz.func189, Tryz.ntmps189
    go_wp2
    go_ret
    exact Ret.of (by simp [h]) (by repeat (first | exact Drew.refl _ | apply Drew.drewN | apply Drew.drew))
  · have e : decide (0 ≤ n ∧ n ≤ m) = false := by simp; omega
    rw [e]
    have h' : n < 0 := by omega
    go_enter Tryz.func189, Tryz.ntmps189
    go_wp2
    go_ret
    exact Ret.of (by simp) (by repeat (first | exact Drew.refl _ | apply Drew.drewN | apply Drew.drew))
theorem num_Later (a b : Int) (w : World) : Calls Tryz.prog 105 #[.int .i64 a, .int .i64 b] w (Ret (.tuple #[.int .i64 (laterV a b), .int .i64 (laterE a b)]) w) := by
  have hA := fun w => num_within a 1152921504606846976 w
  have hB := fun w => num_within b 1073741824 w
  by_cases h : laterOk a b
  · obtain ⟨⟨h1, h2⟩, h3, h4⟩ := id h
    rw [decide_eq_true ⟨h1, h2⟩] at hA
    rw [decide_eq_true ⟨h3, h4⟩] at hB
    by_cases hs : a ≤ 1152921504606846976 - b
    · have e1 : laterE a b = 0 := by unfold laterE; rw [if_neg (by simpa using h), if_pos hs]
      rw [show laterV a b = a + b from if_pos e1, e1]
      have hF := fun w => fit_yes (a + b) w
      clear e1 h
      go_enter Tryz.func105, Tryz.ntmps105
      go_wp2_with (first
        | (go_at_call 189; refine (hA _).mono ?_; clear hA; rintro e w' ⟨rfl, k, rfl⟩)
        | (go_at_call 189; refine (hB _).mono ?_; rintro e w' ⟨rfl, k, rfl⟩)
        | (go_at_call 190; refine (hF _).mono ?_; rintro e w' ⟨rfl, k, rfl⟩))
      go_ret2
      exact Ret.of (rfl) (by repeat (first | exact Drew.refl _ | apply Drew.drewN | apply Drew.drew))
    · have e1 : laterE a b = 16 := by unfold laterE; rw [if_neg (by simpa using h), if_neg hs]
      rw [show laterV a b = 0 from if_neg (by rw [e1]; decide), e1]
      have hF := fun w => fit_no (a + b) w
      have hs' : 1152921504606846976 - b < a := by omega
      have hd : decide (a ≤ 1152921504606846976 - b) = false := decide_eq_false hs
      have hF : ∀ w, Calls Tryz.prog 190 #[.int .i64 (a + b), .bool (decide (a ≤ 1152921504606846976 - b))] w (Ret (.tuple #[.int .i64 0, .int .i64 16]) w) := by rw [hd]; exact hF
      clear e1 h hs hd hs'
      go_enter Tryz.func105, Tryz.ntmps105
      go_wp2_with (first
        | (go_at_call 189; refine (hA _).mono ?_; clear hA; rintro e w' ⟨rfl, k, rfl⟩)
        | (go_at_call 189; refine (hB _).mono ?_; rintro e w' ⟨rfl, k, rfl⟩)
        | (go_at_call 190; refine (hF _).mono ?_; rintro e w' ⟨rfl, k, rfl⟩))
      go_ret2
      exact Ret.of (rfl) (by repeat (first | exact Drew.refl _ | apply Drew.drewN | apply Drew.drew))
  · have e1 : laterE a b = 2 := if_pos h
    rw [show laterV a b = 0 from if_neg (by rw [e1]; decide), e1]
    by_cases ha : 0 ≤ a ∧ a ≤ 1152921504606846976
    · have hb : ¬ (0 ≤ b ∧ b ≤ 1073741824) := fun hb => h ⟨ha, hb⟩
      rw [decide_eq_true ha] at hA
      rw [decide_eq_false hb] at hB
      clear e1 h ha hb
      go_enter Tryz.func105, Tryz.ntmps105
      go_wp2_with (first
        | (go_at_call 189; refine (hA _).mono ?_; clear hA; rintro e w' ⟨rfl, k, rfl⟩)
        | (go_at_call 189; refine (hB _).mono ?_; rintro e w' ⟨rfl, k, rfl⟩))
      go_ret2
      exact Ret.of (rfl) (by repeat (first | exact Drew.refl _ | apply Drew.drewN | apply Drew.drew))
    · rw [decide_eq_false ha] at hA
      clear e1 h ha
      go_enter Tryz.func105, Tryz.ntmps105
      go_wp2_with (go_at_call 189; refine (hA _).mono ?_; rintro e w' ⟨rfl, k, rfl⟩)
      go_ret2
      exact Ret.of (rfl) (by repeat (first | exact Drew.refl _ | apply Drew.drewN | apply Drew.drew))
end Go.Proofs.YtaakgpnmfkmdoaaGreatDoor

/- The walk over bits.Div64 where the high half is 0. No condition but those named. -/
namespace Go.Proofs.YtaakgpnmfkmdoaaGreatDoor
set_option linter.unusedVariables false
set_option linter.unusedSimpArgs false
open Go.RowKit

theorem div64_low (lo y : Nat) (hl : lo < 2 ^ 64) (hy0 : 0 < y) (hy : y < 2 ^ 64) (w : World) : Calls Tryz.prog 339 #[.int .u64 0, .int .u64 (lo : Nat), .int .u64 (y : Nat)] w (Ret (.tuple #[.int .u64 (lo / y : Nat), .int .u64 (lo % y : Nat)]) w) := by
  have h0 : ((y : Int) == 0) = false := by simp; omega
  have h1 : (y : Int) ≠ 0 := by omega
  have h2 : (0 : Int) < y := by omega
  have h3 : ¬ (y : Int) ≤ 0 := by omega
  have hq : lo / y ≤ lo := Nat.div_le_self _ _
  have hr : lo % y < y := Nat.mod_lt _ hy0
  go_enter Tryz.func339, Tryz.ntmps339
  go_wp2
  go_quiet (fail)
  go_wp2
  go_ret2
  refine ⟨?_, by repeat (first | exact Drew.refl _ | apply Drew.drewN | apply Drew.drew)⟩
  show Ending.returned (.tuple #[.int .u64 (IntKind.u64.wrap ((lo : Int) / y)), .int .u64 ((lo : Int) % y)]) = _
  have e1 : ((lo : Int) / y) = ((lo / y : Nat) : Int) := by simp
  rw [e1, wrapU _ (by omega)]
  simp
end Go.Proofs.YtaakgpnmfkmdoaaGreatDoor

/- The library's 64 bit product at this program: tables of numbers and one comparison a function (printed by the kit's lay-plain tool). No condition. -/
namespace Go.Proofs
open Go.Shelf
def YtaakgpnmfkmdoaaGreatDoor.mulL_ren : Go.Shelf.Ren := ⟨fun | 264 => 338 | n => n, fun | 53 => 28 | 46 => 150 | n => n, fun | n => n⟩
theorem YtaakgpnmfkmdoaaGreatDoor.mulL : Go.Proofs.Lays.n264 Tryz.prog YtaakgpnmfkmdoaaGreatDoor.mulL_ren := {
  mixed := by kernel_rfl
  f264 := Tryz.func338.trans (congrArg some (by kernel_rfl))
  t46 := Tryz.underlying150
  a46 := Tryz.isAgg150
  z46 := Tryz.sizeOf150
  v46 := Tryz.zeroValue150
  t53 := Tryz.underlying28
  a53 := Tryz.isAgg28
  z53 := Tryz.sizeOf28
  v53 := Tryz.zeroValue28 }
end Go.Proofs

/- The walks over num.Percent and num.Scale. No condition but those named. -/
namespace Go.Proofs.YtaakgpnmfkmdoaaGreatDoor
set_option linter.unusedVariables false
set_option linter.unusedSimpArgs false
open Go.RowKit

theorem mul64 (x y : Nat) (h : x * y < 18446744073709551616) (hx : x < 18446744073709551616) (hy : y < 18446744073709551616) (w : World) :
    Calls Tryz.prog 338 #[.int .u64 x, .int .u64 y] w (Ret (.tuple #[.int .u64 0, .int .u64 (x * y : Nat)]) w) := by
  refine (show Calls Tryz.prog 338 #[.int .u64 x, .int .u64 y] w _ from Any.bits_Mul64 mulL x y hx hy w).mono ?_
  rintro e w' ⟨rfl, rfl⟩
  refine Ret.of ?_ (Drew.refl _)
  rw [Nat.div_eq_of_lt h, Nat.mod_eq_of_lt h]
  rfl
def pctV (a b : Int) : Int := if a < 1 ∨ b < 1 then 0 else if b ≤ a then 100 else ((a.toNat * 100 / b.toNat : Nat) : Int)
theorem pctV_bd (a b : Int) : 0 ≤ pctV a b ∧ pctV a b ≤ 100 := by
  unfold pctV
  split
  · omega
  · split
    · omega
    · have : a.toNat * 100 / b.toNat ≤ 100 := Nat.div_le_of_le_mul (Nat.mul_le_mul_right 100 (by omega))
      generalize a.toNat * 100 / b.toNat = q at *
      omega
theorem num_Percent (a b : Int) (ha : a < 1125899906842624) (hb : In64 b) (w : World) : Calls Tryz.prog 340 #[.int .i64 a, .int .i64 b] w (Ret (.int .i64 (pctV a b)) w) := by
  obtain ⟨hb1, hb2⟩ := hb
  by_cases h0 : a < 1
  · rw [show pctV a b = 0 from if_pos (.inl h0)]
    go_enter Tryz.func340, Tryz.ntmps340
    go_wp2
    go_ret
    exact Ret.of (rfl) (by repeat (first | exact Drew.refl _ | apply Drew.drewN | apply Drew.drew))
  by_cases h1 : b < 1
  · rw [show pctV a b = 0 from if_pos (.inr h1)]
    go_enter Tryz.func340, Tryz.ntmps340
    go_wp2
    go_ret
    exact Ret.of (rfl) (by repeat (first | exact Drew.refl _ | apply Drew.drewN | apply Drew.drew))
  by_cases h2 : b ≤ a
  · rw [show pctV a b = 100 from by unfold pctV; rw [if_neg (by omega), if_pos h2]]
    go_enter Tryz.func340, Tryz.ntmps340
    go_wp2
    go_ret
    exact Ret.of (rfl) (by repeat (first | exact Drew.refl _ | apply Drew.drewN | apply Drew.drew))
  have hB := (pctV_bd a b).2
  have e0 : pctV a b = ((a.toNat * 100 / b.toNat : Nat) : Int) := by unfold pctV; rw [if_neg (by omega), if_neg h2]
  rw [e0] at hB ⊢
  obtain ⟨x, rfl⟩ := Int.eq_ofNat_of_zero_le (show 0 ≤ a by omega)
  obtain ⟨y, rfl⟩ := Int.eq_ofNat_of_zero_le (show 0 ≤ b by omega)
  simp only [Int.toNat_natCast] at hB ⊢
  have hM := fun w => mul64 x 100 (by omega) (by omega) (by omega) w
  have hD := fun w => div64_low (x * 100) y (by omega) (by omega) (by omega) w
  clear e0
  generalize x * 100 / y = q at *
  generalize x * 100 % y = r at *
  generalize x * 100 = p at *
  have hx : x < 1125899906842624 := by omega
  go_enter Tryz.func340, Tryz.ntmps340
  go_wp2_with (first
    | (go_at_call 338; refine (hM _).mono ?_; rintro e w' ⟨rfl, k, rfl⟩)
    | (go_at_call 339; refine (hD _).mono ?_; rintro e w' ⟨rfl, k2, rfl⟩))
  go_ret
  exact Ret.of (rfl) (by repeat (first | exact Drew.refl _ | apply Drew.drewN | apply Drew.drew))
def scaleV (low high p : Int) : Int := if high < low ∨ p < 1 then low else if 100 ≤ p then high else low + (((high - low).toNat * p.toNat / 100 : Nat) : Int)
theorem num_Scale (low high p : Int) (h1 : 0 ≤ low) (h2 : low ≤ 1000000) (h3 : 0 ≤ high) (h4 : high ≤ 1000000) (w : World) : Calls Tryz.prog 309 #[.int .i64 low, .int .i64 high, .int .i64 p] w (Ret (.int .i64 (scaleV low high p)) w) := by
  by_cases a1 : high < low
  · rw [show scaleV low high p = low from if_pos (.inl a1)]
    go_enter Tryz.func309, Tryz.ntmps309
    go_wp2
    go_ret
    exact Ret.of (rfl) (by repeat (first | exact Drew.refl _ | apply Drew.drewN | apply Drew.drew))
  by_cases a2 : p < 1
  · rw [show scaleV low high p = low from if_pos (.inr a2)]
    go_enter Tryz.func309, Tryz.ntmps309
    go_wp2
    go_ret
    exact Ret.of (rfl) (by repeat (first | exact Drew.refl _ | apply Drew.drewN | apply Drew.drew))
  by_cases a3 : 100 ≤ p
  · rw [show scaleV low high p = high from by unfold scaleV; rw [if_neg (by omega), if_pos a3]]
    go_enter Tryz.func309, Tryz.ntmps309
    go_wp2
    go_ret
    exact Ret.of (rfl) (by repeat (first | exact Drew.refl _ | apply Drew.drewN | apply Drew.drew))
  have e0 : scaleV low high p = low + (((high - low).toNat * p.toNat / 100 : Nat) : Int) := by unfold scaleV; rw [if_neg (by omega), if_neg a3]
  rw [e0]
  clear e0
  obtain ⟨x, rfl⟩ := Int.eq_ofNat_of_zero_le h1
  obtain ⟨d, rfl⟩ : ∃ d : Nat, high = x + d := ⟨(high - x).toNat, by omega⟩
  obtain ⟨y, rfl⟩ := Int.eq_ofNat_of_zero_le (show 0 ≤ p by omega)
  have hd : ((x : Int) + d - x).toNat = d := by omega
  rw [hd, Int.toNat_natCast]
  clear hd
  have hp1 : d * y ≤ d * 100 := Nat.mul_le_mul_left _ (by omega)
  have hM := fun w => mul64 d y (by omega) (by omega) (by omega) w
  have hD := fun w => div64_low (d * y) 100 (by omega) (by omega) (by omega) w
  have hq : d * y / 100 ≤ 1000000 := by omega
  generalize d * y / 100 = q at *
  generalize d * y % 100 = r at *
  generalize d * y = z at *
  have e1 : (x : Int) + d - x = d := by omega
  go_enter Tryz.func309, Tryz.ntmps309
  go_wp2_with (first
    | (go_at_call 338; refine (hM _).mono ?_; rintro e w' ⟨rfl, k, rfl⟩)
    | (go_at_call 339; refine (hD _).mono ?_; rintro e w' ⟨rfl, k2, rfl⟩))
  go_ret
  exact Ret.of (rfl) (by repeat (first | exact Drew.refl _ | apply Drew.drewN | apply Drew.drew))
end Go.Proofs.YtaakgpnmfkmdoaaGreatDoor

/- The frequency governor of a core (package freq) in memory; the walks over right, New, Set, Limits. No condition but those named. -/
namespace Go.Proofs.YtaakgpnmfkmdoaaGreatDoor
set_option linter.unusedVariables false
set_option linter.unusedSimpArgs false
open Go.RowKit

structure GovS where
  low : Int
  high : Int
  busy : Nat → Int
  all : Nat → Int
  at' : Nat
def rightG (a b : Int) : Bool := decide (1 ≤ a ∧ b ≤ 100000 ∧ a ≤ b)
def GovS.ok (g : GovS) : Prop := (1 ≤ g.low ∧ g.high ≤ 100000 ∧ g.low ≤ g.high) ∧ (∀ i, 0 ≤ g.busy i ∧ g.busy i ≤ g.all i ∧ g.all i ≤ 1099511627776) ∧ g.at' < 4
def govV (g : GovS) (i : Nat) : List Value := [.int .i64 (g.busy i), .int .i64 (g.all i)]
def govObj (g : GovS) : Obj := .cells (blkV [.int .i64 g.low, .int .i64 g.high] 4 (govV g) [.int .i64 (g.at' : Nat)]) 212 (0,0)
def govR (b : Nat) (g : GovS) : Res := Res.such g.ok (Res.blk b (govObj g))
def gov0 (low high : Int) : GovS := ⟨low, high, fun _ => 0, fun _ => 0, 0⟩
def GovS.setE (g : GovS) (low high : Int) : Int := if rightG low high then 0 else 2
def GovS.set (g : GovS) (low high : Int) : GovS := if rightG low high then { g with low := low, high := high } else g
section
variable {F : List Nat} {w u : World} {b : Nat} {g : GovS}
theorem gov_view (h : (govR b g).holds F w) : g.ok ∧ On F w [Res.blk b (govObj g)] w := ⟨h.1, On.one h.2⟩
theorem On.gov (h : On F w [Res.blk b (govObj g)] u) (hok : g.ok) : Gain (govR b g) F w u := h.gain1.imp fun F' h' => ⟨hok, h'⟩
theorem On.govLow (h : On F w [Res.blk b (govObj g)] u) : u.cell? ⟨b, 0, none⟩ = some (.int .i64 g.low) := by
  rw [h.cell 0 rfl 0]; exact blkV_pre (by simp)
theorem On.govHigh (h : On F w [Res.blk b (govObj g)] u) : u.cell? ⟨b, 1, none⟩ = some (.int .i64 g.high) := by
  rw [h.cell 0 rfl 1]; exact blkV_pre (by simp)
theorem On.govAt (h : On F w [Res.blk b (govObj g)] u) : u.cell? ⟨b, 10, none⟩ = some (.int .i64 (g.at' : Nat)) := by
  rw [h.cell 0 rfl 10]; exact blkV_post (k := 2) (f := govV g) (fun _ => rfl) (j := 0) rfl
theorem On.govC (h : On F w [Res.blk b (govObj g)] u) {i : Nat} (hi : i < 4) (j : Nat) (hj : j < 2) {o : Nat} (ho : o = 2 + (i * 2 + j)) : u.cell? ⟨b, o, none⟩ = (govV g i)[j]? := by
  rw [h.cell 0 rfl o]; exact blkV_get (k := 2) (f := govV g) (fun _ => rfl) hi hj ho
theorem freq_right (low high : Int) (w : World) : Calls Tryz.prog 96 #[.int .i64 low, .int .i64 high] w (Ret (.bool (rightG low high)) w) := by
  unfold rightG
  by_cases h1 : 1 ≤ low
  · by_cases h2 : high ≤ 100000
    · go_enter Tryz.func96, Tryz.ntmps96
      go_wp2
      go_ret
      exact Ret.of (by simp [h1, h2]) (by repeat (first | exact Drew.refl _ | apply Drew.drewN | apply Drew.drew))
    · have e : decide (1 ≤ low ∧ high ≤ 100000 ∧ low ≤ high) = false := by simp; omega
      rw [e]
      have h2' : 100000 < high := by omega
      go_enter Tryz.func96, Tryz.ntmps96
      go_wp2
      go_ret
      exact Ret.of (by simp) (by repeat (first | exact Drew.refl _ | apply Drew.drewN | apply Drew.drew))
  · have e : decide (1 ≤ low ∧ high ≤ 100000 ∧ low ≤ high) = false := by simp; omega
    rw [e]
    have h1' : low < 1 := by omega
    go_enter Tryz.func96, Tryz.ntmps96
    go_wp2
    go_ret
    exact Ret.of (by simp) (by repeat (first | exact Drew.refl _ | apply Drew.drewN | apply Drew.drew))
theorem freq_Limits (h : (govR b g).holds F w) : Calls Tryz.prog 308 #[.pointer (some ⟨b, 0, none⟩)] w (Ret (.tuple #[.int .i64 g.low, .int .i64 g.high]) w) := by
  obtain ⟨hok, hA⟩ := gov_view h
  have c0 := hA.govLow
  have c1 := hA.govHigh
  clear hA h hok
  generalize g.low = x at *
  generalize g.high = y at *
  go_enter Tryz.func308, Tryz.ntmps308
  go_wp2
  go_quiet (fail)
  go_wp2
  go_ret2
  exact Ret.of (rfl) (by repeat (first | exact Drew.refl _ | apply Drew.drewN | apply Drew.drew))
theorem freq_Set (h : (govR b g).holds F w) (low high : Int) : Calls Tryz.prog 234 #[.pointer (some ⟨b, 0, none⟩), .int .i64 low, .int .i64 high] w (Turns (govR b (g.set low high)) F (.int .i64 (g.setE low high)) w) := by
  obtain ⟨hok, hA⟩ := gov_view h
  have hR := fun w => freq_right low high w
  have c0 := hA.govLow
  have c1 := hA.govHigh
  have f0 : w.frozen? ⟨b, 0, none⟩ = false := hA.free 0 rfl 0
  have f1 : w.frozen? ⟨b, 1, none⟩ = false := hA.free 0 rfl 1
  have HA := Lib.hid hA
  unfold GovS.set GovS.setE
  cases hr : rightG low high
  · rw [hr] at hR
    simp only [Bool.false_eq_true, if_false]
    clear hA h hr
    go_enter Tryz.func234, Tryz.ntmps234
    go_wp2_with (go_at_call 96; refine (hR _).mono ?_; rintro e w' ⟨rfl, k, rfl⟩)
    go_ret
    exact ⟨rfl, (HA.out.keep ((Mod.refl _ _).drewN _)).gov hok⟩
  · have hr2 : 1 ≤ low ∧ high ≤ 100000 ∧ low ≤ high := of_decide_eq_true hr
    rw [hr] at hR
    simp only [if_true]
    clear hA h hr
    replace hr2 := Lib.hid hr2
    go_enter Tryz.func234, Tryz.ntmps234
    go_wp2_with (go_at_call 96; refine (hR _).mono ?_; rintro e w' ⟨rfl, k, rfl⟩)
    go_ret
    refine ⟨rfl, On.gov ?_ ⟨hr2.out, hok.2⟩⟩
    have x := ((HA.out.keep (u' := w.drewN k) ((Mod.refl _ _).drewN _)).set 0 rfl 0 (.int .i64 low))
    rw [blkV_setPre (by simp)] at x
    have y := x.set 0 rfl 1 (.int .i64 high)
    rw [blkV_setPre (by simp)] at y
    exact y
theorem freq_New (low high : Int) (hr : rightG low high = true) (w : World) : Calls Tryz.prog 68 #[.int .i64 low, .int .i64 high] w (TurnsV (fun d : Nat => .tuple #[.pointer (some ⟨d, 0, none⟩), .int .i64 0]) (fun d => govR d (gov0 low high)) [] w) := by
  have hR := fun w => freq_right low high w
  rw [hr] at hR
  have hr2 : 1 ≤ low ∧ high ≤ 100000 ∧ low ≤ high := of_decide_eq_true hr
  replace hr2 := Lib.hid hr2
  clear hr
  go_enter Tryz.func68, Tryz.ntmps68
  go_wp2_with (go_at_call 96; refine (hR _).mono ?_; rintro e w' ⟨rfl, k, rfl⟩)
  go_ret2
  refine ⟨w.heap.size, by simp, ?_⟩
  exact On.gov (((On.start w).keep ((Mod.refl [] w).drewN k)).alloc (govObj (gov0 low high))) ⟨hr2.out, fun i => ⟨Int.le_refl _, Int.le_refl _, by show (0 : Int) ≤ _; decide⟩, by show 0 < 4; decide⟩
end
end Go.Proofs.YtaakgpnmfkmdoaaGreatDoor

/- Queues of cores, threads, works, calls, objects, meters, ways to rest, in plain words: what each holds and what is done to it. No program in sight but the words of other layers. -/
namespace Go.Proofs.YtaakgpnmfkmdoaaGreatDoor
set_option linter.unusedVariables false
set_option linter.unusedSimpArgs false
open Go.RowKit

/-- The least number from 1 on that is not one of some; most + 1 if there is none. -/
def lowOf (most : Nat) (p : Nat → Bool) : Nat := ((List.range most).find? fun k => !p (k + 1)).getD most + 1
theorem lowOf_spec (most : Nat) (p : Nat → Bool) : 1 ≤ lowOf most p ∧ lowOf most p ≤ most + 1 ∧ (lowOf most p ≤ most → p (lowOf most p) = false) ∧ ∀ m, 1 ≤ m → m < lowOf most p → p m = true := by
  unfold lowOf
  cases hf : (List.range most).find? (fun k => !p (k + 1)) with
  | none =>
    refine ⟨by omega, by simp, fun h => by simp at h; omega, fun m h1 h2 => ?_⟩
    have := List.find?_eq_none.1 hf (m - 1) (List.mem_range.2 (by simp at h2; omega))
    rw [show m - 1 + 1 = m by omega] at this
    simpa using this
  | some k =>
    obtain ⟨h1, i, h2, h3, h4⟩ := List.find?_eq_some_iff_getElem.1 hf
    have hi : k = i := by simpa using h3.symm
    simp only [List.length_range] at h2
    simp only [Option.getD_some]
    refine ⟨by omega, by omega, fun _ => by simpa using h1, fun m hm hlt => ?_⟩
    have := h4 (m - 1) (by omega)
    simp at this
    rwa [show m - 1 + 1 = m by omega] at this
theorem lowOf_ids {most : Nat} {ids : List Nat} (h : SlotOk most ids) {p : Nat → Bool} (hp : ∀ m, 1 ≤ m → m ≤ most → (p m = true ↔ m ∈ ids)) : lowOf most p = lowN ids ∧ (ids.length = most ↔ most < lowOf most p) := by
  obtain ⟨a1, a2, a3, a4⟩ := lowOf_spec most p
  obtain ⟨b1, b2⟩ := lowN_spec ids
  have hlen := h.len
  have key : IsLow ids (lowOf most p) := by
    refine ⟨a1, fun hm => ?_, fun m h1 h2 => ?_⟩
    · have hb := h.bd _ hm
      have := (hp _ hb.1 hb.2).2 hm
      rw [a3 hb.2] at this
      cases this
    · exact (hp m h1 (by omega)).1 (a4 m h1 h2)
  have e := key.unique b1
  refine ⟨e, ?_⟩
  constructor
  · intro hl
    apply Classical.byContradiction
    intro hn
    have h2 : ∀ m, 1 ≤ m → m ≤ most → m ∈ ids := by
      intro m hm hm2
      apply Classical.byContradiction
      intro hne
      have := sub_len (m :: ids) ((List.range most).map (· + 1)) (List.nodup_cons.2 ⟨hne, h.nodup⟩) (fun x hx => by
        have hb : 1 ≤ x ∧ x ≤ most := by
          rcases List.mem_cons.1 hx with rfl | hx
          · exact ⟨hm, hm2⟩
          · exact h.bd x hx
        exact List.mem_map.2 ⟨x - 1, List.mem_range.2 (by omega), by omega⟩)
      simp at this
      omega
    exact key.2.1 (h2 _ a1 (by omega))
  · intro hl
    have := sub_len ((List.range most).map (· + 1)) ids (by
      refine List.Pairwise.map _ (fun a b hab h => hab (by omega)) (List.nodup_range)) (fun x hx => by
      obtain ⟨k, hk, rfl⟩ := List.mem_map.1 hx
      exact key.2.2 (k + 1) (by omega) (by have := List.mem_range.1 hk; omega))
    simp at this
    omega

/-- A queue by priorities for each core. -/
structure RQ where
  n : Nat
  q : Nat → PQ
def RQ.is (r : RQ) (cpu : Int) : Prop := 0 ≤ cpu ∧ cpu < r.n
instance instLayersA1 (r : RQ) (cpu : Int) : Decidable (r.is cpu) := by unfold RQ.is; infer_instance
def RQ.whr (r : RQ) (id : Int) : Option Nat := (List.range r.n).find? fun c => (prioP (r.q c) id).isSome
def RQ.at (r : RQ) (cpu : Int) : PQ := r.q cpu.toNat
def RQ.putQ (r : RQ) (c : Nat) (L : PQ) : RQ := { r with q := gupd r.q c L }
def RQ.putE (r : RQ) (cpu p id : Int) : Int := if ¬ r.is cpu then 3 else if (r.whr id).isSome then 6 else pushE 32 (r.at cpu) p id
def RQ.put (r : RQ) (cpu p id : Int) : RQ := if r.putE cpu p id = 0 then r.putQ cpu.toNat (pushP 32 (r.at cpu) p id) else r
def RQ.pickE (r : RQ) (cpu : Int) : Int := if ¬ r.is cpu then 3 else topE (r.at cpu)
def RQ.pickV (r : RQ) (cpu : Int) : Int := if r.pickE cpu = 0 then topP (r.at cpu) else 0
def RQ.pick (r : RQ) (cpu : Int) : RQ := if r.pickE cpu = 0 then r.putQ cpu.toNat (turnP (r.at cpu)) else r
def RQ.takeE (r : RQ) (id : Int) : Int := if (r.whr id).isSome then 0 else 4
def RQ.take (r : RQ) (id : Int) : RQ := match r.whr id with | some c => r.putQ c (outP (r.q c) id) | none => r
def RQ.back (r : RQ) (id : Int) : RQ := match r.whr id with | some c => r.putQ c (backP (r.q c) id) | none => r
def RQ.load (r : RQ) (cpu : Int) : Int := if r.is cpu then ((r.at cpu).length : Nat) else 0
def RQ.list (r : RQ) (cpu : Int) : List Int := if r.is cpu then listP (r.at cpu) else []
def bestL (load : Int → Int) (better : Int → Int → Bool) (a : Int) (l : List Int) : Int := l.foldl (fun a c => if better (load c) (load a) then c else a) a
def RQ.some_ (r : RQ) (m : Nat) : List Int := listM (m &&& uptoM r.n)
def RQ.bestE (r : RQ) (m : Nat) : Int := if r.some_ m = [] then 12 else 0
def RQ.bestV (r : RQ) (m : Nat) (better : Int → Int → Bool) : Int := if r.some_ m = [] then 0 else bestL r.load better (nth (r.some_ m) 0) (r.some_ m)
def moreB (a b : Int) : Bool := decide (b < a)
def lessB (a b : Int) : Bool := decide (a < b)

/-- A thread; threads by their numbers. -/
structure ThS where
  prio : Int
  mask : Nat
  cpu : Int
  forced : Bool
  sleeps : Bool
  timer : Int
def th0 : ThS := ⟨0, 0, 0, false, false, 0⟩
structure ThT where
  n : Nat
  t : Int → Option ThS
def ThT.right (t : ThT) (m : Nat) : Bool := decide (m ≠ 0) && decide (andnM m (uptoM t.n) = 0)
def ThT.low (t : ThT) : Nat := lowOf 32 fun i => (t.t i).isSome
def ThT.spawnE (t : ThT) (p : Int) (m : Nat) : Int := if p < 0 ∨ 8 ≤ p ∨ t.right m = false then 2 else if 32 < t.low then 5 else 0
def ThT.spawnV (t : ThT) (p : Int) (m : Nat) : Int := if t.spawnE p m = 0 then t.low else 0
def ThT.spawn (t : ThT) (p : Int) (m : Nat) : ThT := if t.spawnE p m = 0 then { t with t := oput t.t t.low ⟨p, m, 0, false, false, 0⟩ } else t
def ThT.getE (t : ThT) (id : Int) : Int := if (t.t id).isSome then 0 else 4
def ThT.get (t : ThT) (id : Int) : ThS := (t.t id).getD th0
def ThT.put (t : ThT) (id : Int) (x : ThS) : ThT := { t with t := oput t.t id x }
def ThT.exit (t : ThT) (id : Int) : ThT := { t with t := odel t.t id }
def ThT.aimE (t : ThT) (id : Int) (m : Nat) : Int := if t.getE id ≠ 0 then 4 else if t.right m then 0 else 2
def ThT.aim (t : ThT) (id : Int) (m : Nat) : ThT := if t.aimE id m = 0 then t.put id { t.get id with mask := m } else t
def ThT.placeE (t : ThT) (id cpu : Int) : Int := if t.getE id ≠ 0 then 4 else if cpu < 0 ∨ (t.n : Int) ≤ cpu then 3 else 0
def ThT.place (t : ThT) (id cpu : Int) (f : Bool) : ThT := if t.placeE id cpu = 0 then t.put id { t.get id with cpu := cpu, forced := f } else t
def ThT.sleepE (t : ThT) (id : Int) : Int := if t.getE id ≠ 0 then 4 else if (t.get id).sleeps then 6 else 0
def ThT.sleep (t : ThT) (id tm : Int) : ThT := if t.sleepE id = 0 then t.put id { t.get id with sleeps := true, timer := tm } else t
def ThT.wakeE (t : ThT) (id : Int) : Int := if t.getE id ≠ 0 then 4 else if (t.get id).sleeps then 0 else 6
def ThT.wakeV (t : ThT) (id : Int) : Int := if t.wakeE id = 0 then (t.get id).timer else 0
def ThT.wake (t : ThT) (id : Int) : ThT := if t.wakeE id = 0 then t.put id { t.get id with sleeps := false, timer := 0 } else t
def ThT.list (t : ThT) : List Int := upList (fun i => (t.t i).isSome) 32

/-- Works: list 0 is no core's, list c + 1 is core c's. -/
structure WkT where
  n : Nat
  q : Nat → List Int
def WkT.is (t : WkT) (cpu from_ : Int) : Prop := from_ ≤ cpu ∧ cpu < t.n
instance instLayersA2 (t : WkT) (cpu from_ : Int) : Decidable (t.is cpu from_) := by unfold WkT.is; infer_instance
def WkT.at (t : WkT) (cpu : Int) : List Int := t.q (cpu + 1).toNat
def WkT.whr (t : WkT) (id : Int) : Option Nat := (List.range (t.n + 1)).find? fun i => decide (id ∈ t.q i)
def WkT.low (t : WkT) : Nat := lowOf 32 fun i => (t.whr i).isSome
def WkT.putQ (t : WkT) (i : Nat) (l : List Int) : WkT := { t with q := gupd t.q i l }
def WkT.queueE (t : WkT) (cpu : Int) : Int := if ¬ t.is cpu (-1) then 3 else if 32 < t.low then 5 else 0
def WkT.queueV (t : WkT) (cpu : Int) : Int := if t.queueE cpu = 0 then t.low else 0
def WkT.queue (t : WkT) (cpu : Int) : WkT := if t.queueE cpu = 0 then t.putQ (cpu + 1).toNat (t.at cpu ++ [(t.low : Int)]) else t
/-- The list from which a core takes. -/
def WkT.from_ (t : WkT) (cpu : Int) : Nat := if t.at cpu = [] then 0 else (cpu + 1).toNat
def WkT.takeE (t : WkT) (cpu : Int) : Int := if ¬ t.is cpu 0 then 3 else if t.q (t.from_ cpu) = [] then 12 else 0
def WkT.takeV (t : WkT) (cpu : Int) : Int := if t.takeE cpu = 0 then nth (t.q (t.from_ cpu)) 0 else 0
def WkT.take (t : WkT) (cpu : Int) : WkT := if t.takeE cpu = 0 then t.putQ (t.from_ cpu) (t.q (t.from_ cpu)).tail else t
def WkT.unbindE (t : WkT) (cpu : Int) : Int := if ¬ t.is cpu 0 then 3 else if t.at cpu = [] then 12 else 0
def WkT.unbindV (t : WkT) (cpu : Int) : Int := if t.unbindE cpu = 0 then nth (t.at cpu) 0 else 0
def WkT.unbind (t : WkT) (cpu : Int) : WkT := if t.unbindE cpu = 0 then (t.putQ (cpu + 1).toNat (t.at cpu).tail).putQ 0 (t.q 0 ++ [nth (t.at cpu) 0]) else t
def WkT.has (t : WkT) (id : Int) : Bool := (t.whr id).isSome
def WkT.list (t : WkT) (cpu : Int) : List Int := if t.is cpu (-1) then t.at cpu else []

/-- Calls. -/
structure CbT where
  n : Nat
  q : Nat → List Int
def CbT.is (t : CbT) (cpu : Int) : Prop := 0 ≤ cpu ∧ cpu < t.n
instance instLayersA3 (t : CbT) (cpu : Int) : Decidable (t.is cpu) := by unfold CbT.is; infer_instance
def CbT.at (t : CbT) (cpu : Int) : List Int := t.q cpu.toNat
def CbT.whr (t : CbT) (id : Int) : Option Nat := (List.range t.n).find? fun i => decide (id ∈ t.q i)
def CbT.low (t : CbT) : Nat := lowOf 32 fun i => (t.whr i).isSome
def CbT.putQ (t : CbT) (i : Nat) (l : List Int) : CbT := { t with q := gupd t.q i l }
def CbT.sendE (t : CbT) (cpu : Int) : Int := if ¬ t.is cpu then 3 else if 32 < t.low then 5 else 0
def CbT.sendV (t : CbT) (cpu : Int) : Int := if t.sendE cpu = 0 then t.low else 0
def CbT.send (t : CbT) (cpu : Int) : CbT := if t.sendE cpu = 0 then t.putQ cpu.toNat (t.at cpu ++ [(t.low : Int)]) else t
def CbT.takeE (t : CbT) (cpu : Int) : Int := if ¬ t.is cpu then 3 else if t.at cpu = [] then 12 else 0
def CbT.takeV (t : CbT) (cpu : Int) : Int := if t.takeE cpu = 0 then nth (t.at cpu) 0 else 0
def CbT.take (t : CbT) (cpu : Int) : CbT := if t.takeE cpu = 0 then t.putQ cpu.toNat (t.at cpu).tail else t
def CbT.moveE (t : CbT) (a b : Int) : Int := if ¬ t.is a ∨ ¬ t.is b then 3 else if a = b then 2 else if t.at a = [] then 12 else 0
def CbT.moveV (t : CbT) (a b : Int) : Int := if t.moveE a b = 0 then nth (t.at a) 0 else 0
def CbT.move (t : CbT) (a b : Int) : CbT := if t.moveE a b = 0 then (t.putQ a.toNat (t.at a).tail).putQ b.toNat (t.at b ++ [nth (t.at a) 0]) else t
def CbT.has (t : CbT) (id : Int) : Bool := (t.whr id).isSome
def CbT.list (t : CbT) (cpu : Int) : List Int := if t.is cpu then t.at cpu else []

/-- Objects in pages: of each page a bit for each object that is taken. -/
def pgAt (pg : Nat → Nat) : Option Nat := ((List.range 12).find? fun i => decide (pg i ≠ 0) && decide (pg i ≠ 255)).or ((List.range 12).find? fun i => decide (pg i = 0))
def pgBit (x : Nat) : Nat := ((List.range 8).find? fun k => !x.testBit k).getD 8
def pgTakeE (pg : Nat → Nat) : Int := if (pgAt pg).isSome then 0 else 5
def pgTakeV (pg : Nat → Nat) : Int := match pgAt pg with | some i => (i * 8 + pgBit (pg i) + 1 : Nat) | none => 0
def pgTake (pg : Nat → Nat) : Nat → Nat := match pgAt pg with | some i => gupd pg i (pg i ||| 2 ^ pgBit (pg i)) | none => pg
def pgOut (pg : Nat → Nat) (id : Int) : Bool := decide (1 ≤ id ∧ id ≤ 96) && (pg ((id - 1).toNat / 8)).testBit ((id - 1).toNat % 8)
def pgGive (pg : Nat → Nat) (id : Int) : Nat → Nat := if pgOut pg id then gupd pg ((id - 1).toNat / 8) (pg ((id - 1).toNat / 8) ^^^ 2 ^ ((id - 1).toNat % 8)) else pg
structure StT where
  n : Nat
  pg : Nat → Nat
  kept : Nat → List Int
def StT.is (t : StT) (cpu : Int) : Prop := 0 ≤ cpu ∧ cpu < t.n
instance instLayersA4 (t : StT) (cpu : Int) : Decidable (t.is cpu) := by unfold StT.is; infer_instance
def StT.one (t : StT) (c : Nat) : StT := if pgTakeE t.pg = 0 then { t with pg := pgTake t.pg, kept := gupd t.kept c (t.kept c ++ [pgTakeV t.pg]) } else t
def StT.fill (t : StT) (c : Nat) : StT := if t.kept c = [] then (t.one c).one c else t
def StT.allocE (t : StT) (cpu : Int) : Int := if ¬ t.is cpu then 3 else if (t.fill cpu.toNat).kept cpu.toNat = [] then 5 else 0
def StT.allocV (t : StT) (cpu : Int) : Int := if t.allocE cpu = 0 then nth ((t.fill cpu.toNat).kept cpu.toNat) (((t.fill cpu.toNat).kept cpu.toNat).length - 1) else 0
def StT.alloc (t : StT) (cpu : Int) : StT := if t.is cpu then { t.fill cpu.toNat with kept := gupd (t.fill cpu.toNat).kept cpu.toNat ((t.fill cpu.toNat).kept cpu.toNat).dropLast } else t
def StT.back (t : StT) (c many : Nat) : StT := { t with pg := ((t.kept c).take many).foldl pgGive t.pg, kept := gupd t.kept c ((t.kept c).drop many) }
def StT.has (t : StT) (id : Int) : Bool := pgOut t.pg id && !(List.range t.n).any fun c => decide (id ∈ t.kept c)
def StT.giveE (t : StT) (cpu id : Int) : Int := if ¬ t.is cpu then 3 else if t.has id then 0 else 4
def StT.room (t : StT) (c : Nat) : StT := if 4 ≤ (t.kept c).length then t.back c 2 else t
def StT.give (t : StT) (cpu id : Int) : StT := if t.giveE cpu id = 0 then { t.room cpu.toNat with kept := gupd (t.room cpu.toNat).kept cpu.toNat ((t.room cpu.toNat).kept cpu.toNat ++ [id]) } else t
def StT.drain (t : StT) (cpu : Int) : StT := if t.is cpu then t.back cpu.toNat (t.kept cpu.toNat).length else t
def StT.keptL (t : StT) (cpu : Int) : List Int := if t.is cpu then t.kept cpu.toNat else []

/-- What cores cost: column 0 the ticks of work, 1 to 8 those of the ways to rest, 9 the energy. -/
structure MtT where
  n : Nat
  c : Nat → Nat → Int
def MtT.is (t : MtT) (cpu : Int) : Prop := 0 ≤ cpu ∧ cpu < t.n
instance instLayersA5 (t : MtT) (cpu : Int) : Decidable (t.is cpu) := by unfold MtT.is; infer_instance
def mtIn (n : Int) : Prop := 0 ≤ n ∧ n ≤ 2147483648
instance instLayersA6 (n : Int) : Decidable (mtIn n) := by unfold mtIn; infer_instance
def mePayE (x : Nat → Int) (ticks power : Int) : Int := if ¬ mtIn ticks ∨ ¬ mtIn power then 2 else if 4611686018427387904 < x 9 + ticks * power then 16 else 0
def mePay (x : Nat → Int) (j : Nat) (ticks power : Int) : Nat → Int := if mePayE x ticks power = 0 then gupd (gupd x 9 (x 9 + ticks * power)) j (wr (x j + ticks)) else x
def MtT.at (t : MtT) (cpu : Int) : Nat → Int := t.c cpu.toNat
def MtT.put (t : MtT) (i : Nat) (x : Nat → Int) : MtT := { t with c := gupd t.c i x }
def MtT.workE (t : MtT) (cpu ticks power : Int) : Int := if ¬ t.is cpu then 3 else mePayE (t.at cpu) ticks power
def MtT.work (t : MtT) (cpu ticks power : Int) : MtT := if t.is cpu then t.put cpu.toNat (mePay (t.at cpu) 0 ticks power) else t
def MtT.restE (t : MtT) (cpu way ticks power : Int) : Int := if ¬ t.is cpu then 3 else if way < 0 ∨ 8 ≤ way then 3 else mePayE (t.at cpu) ticks power
def MtT.rest (t : MtT) (cpu way ticks power : Int) : MtT := if t.is cpu ∧ ¬ (way < 0 ∨ 8 ≤ way) then t.put cpu.toNat (mePay (t.at cpu) (1 + way.toNat) ticks power) else t

/-- Ways to rest. -/
def ways : List (Int × Int × Int) := [(0, 0, 100), (2, 10, 60), (10, 50, 25), (50, 400, 5)]
def wayOf (i : Nat) : Int × Int × Int := ways.getD i (0, 0, 0)
def chooseW (rest limit : Int) : Int := if 50 ≤ limit ∧ 400 ≤ rest then 3 else if 10 ≤ limit ∧ 50 ≤ rest then 2 else if 2 ≤ limit ∧ 10 ≤ rest then 1 else 0
def predictW (now due : Int) (known : Bool) : Int := if known = false then 1073741824 else if now < 0 ∨ due ≤ now then 0 else min (due - now) 1073741824

/-- A governor's frequency. -/
def GovS.busyV (g : GovS) : Int := pctV (g.busy 0 + g.busy 1 + g.busy 2 + g.busy 3) (g.all 0 + g.all 1 + g.all 2 + g.all 3)
def GovS.freqV (g : GovS) : Int := scaleV g.low g.high g.busyV
def GovS.feedE (g : GovS) (b a : Int) : Int := if b < 0 ∨ a < b ∨ 1099511627776 < a then 2 else 0
def GovS.feed (g : GovS) (b a : Int) : GovS := if g.feedE b a = 0 then { g with busy := gupd g.busy g.at' b, all := gupd g.all g.at' a, at' := (g.at' + 1) % 4 } else g
def GovS.feedV (g : GovS) (b a : Int) : Int := if g.feedE b a = 0 then (g.feed b a).freqV else 0
end Go.Proofs.YtaakgpnmfkmdoaaGreatDoor

/- The walks over package affin: Choose, Wrong. No condition but those named. -/
namespace Go.Proofs.YtaakgpnmfkmdoaaGreatDoor
set_option linter.unusedVariables false
set_option linter.unusedSimpArgs false
open Go.RowKit
def fromM (want active : Nat) : Nat := if want &&& active = 0 then active else want &&& active
def forcedM (want active : Nat) : Bool := decide (active ≠ 0) && decide (want &&& active = 0)
def chooseV (want active : Nat) (near : Int) : Int := if active = 0 then 0 else if hasM (fromM want active) near then near else firstM (nextM (fromM want active) near)
def chooseE (want active : Nat) (near : Int) : Int := if active = 0 then 12 else if hasM (fromM want active) near then 0 else firstE (nextM (fromM want active) near)
set_option maxRecDepth 100000 in
theorem affin_Choose (want active : Nat) (hw : want < 2 ^ 64) (ha : active < 2 ^ 64) (near : Int) (hn : In64 near) (w : World) (hT : Tab w) :
    Calls Tryz.prog 197 #[.int .u64 want, .int .u64 active, .int .i64 near] w (Ret (.tuple #[.int .i64 (chooseV want active near), .bool (forcedM want active), .int .i64 (chooseE want active near)]) w) := by
  by_cases h0 : active = 0
  · subst h0
    have e1 : chooseV want 0 near = 0 := if_pos rfl
    have e2 : chooseE want 0 near = 12 := if_pos rfl
    have e3 : forcedM want 0 = false := rfl
    rw [e1, e2, e3]
    go_enter Tryz.func197, Tryz.ntmps197
    go_wp2
    go_ret3
    exact Ret.of (rfl) (by repeat (first | exact Drew.refl _ | apply Drew.drewN | apply Drew.drew))
  · have hne : ((active : Int) == 0) = false := by simp; omega
    have hA := fun w => mask_And want active w hw ha
    have hlt : want &&& active < 2 ^ 64 := Nat.and_lt_two_pow _ ha
    have e1 : chooseV want active near = if hasM (fromM want active) near then near else firstM (nextM (fromM want active) near) := if_neg h0
    have e2 : chooseE want active near = if hasM (fromM want active) near then 0 else firstE (nextM (fromM want active) near) := if_neg h0
    have e3 : forcedM want active = decide (want &&& active = 0) := by unfold forcedM; rw [decide_eq_true h0]; rfl
    have hfl : fromM want active < 2 ^ 64 := by unfold fromM; split <;> assumption
    have hH := fun w => mask_Has (fromM want active) hfl near w
    have hX := fun w hT => mask_Next (fromM want active) hfl near hn w hT
    have hfz : (want &&& active = 0 ∧ fromM want active = active) ∨ (¬ want &&& active = 0 ∧ fromM want active = want &&& active) := by
      unfold fromM
      by_cases e : want &&& active = 0
      · exact .inl ⟨e, if_pos e⟩
      · exact .inr ⟨e, if_neg e⟩
    cases hh : hasM (fromM want active) near
    · rw [hh] at e1 e2 hH
      rw [e1, e2, e3]
      simp only [Bool.false_eq_true, if_false]
      generalize firstM (nextM (fromM want active) near) = a at *
      generalize firstE (nextM (fromM want active) near) = b at *
      rcases hfz with ⟨z1, z2⟩ | ⟨z1, z2⟩
      · rw [z2] at hH hX
        rw [decide_eq_true z1]
        rw [z1] at hA
        clear e1 e2 e3 hh hfl z1 z2 h0
        go_enter Tryz.func197, Tryz.ntmps197
        go_wp2_with (first
          | (go_at_call 269; refine (hA _).mono ?_; rintro e w' ⟨rfl, k, rfl⟩)
          | (go_at_call 13; refine (hH _).mono ?_; rintro e w' ⟨rfl, k2, rfl⟩)
          | (go_at_call 270; refine (hX _ (hT.drewN _)).mono ?_; rintro e w' ⟨rfl, k3, rfl⟩))
        go_ret3
        exact Ret.of (rfl) (by repeat (first | exact Drew.refl _ | apply Drew.drewN | apply Drew.drew))
      · rw [z2] at hH hX
        rw [decide_eq_false z1]
        have hne2 : (((want &&& active : Nat) : Int) == 0) = false := by simp; omega
        generalize want &&& active = both at *
        clear e1 e2 e3 hh hfl z1 z2 h0
        go_enter Tryz.func197, Tryz.ntmps197
        go_wp2_with (first
          | (go_at_call 269; refine (hA _).mono ?_; rintro e w' ⟨rfl, k, rfl⟩)
          | (go_at_call 13; refine (hH _).mono ?_; rintro e w' ⟨rfl, k2, rfl⟩)
          | (go_at_call 270; refine (hX _ (hT.drewN _)).mono ?_; rintro e w' ⟨rfl, k3, rfl⟩))
        go_ret3
        exact Ret.of (rfl) (by repeat (first | exact Drew.refl _ | apply Drew.drewN | apply Drew.drew))
    · rw [hh] at e1 e2 hH
      rw [e1, e2, e3]
      simp only [if_true]
      rcases hfz with ⟨z1, z2⟩ | ⟨z1, z2⟩
      · rw [z2] at hH
        rw [decide_eq_true z1]
        rw [z1] at hA
        clear e1 e2 e3 hh hfl z1 z2 h0 hX
        go_enter Tryz.func197, Tryz.ntmps197
        go_wp2_with (first
          | (go_at_call 269; refine (hA _).mono ?_; rintro e w' ⟨rfl, k, rfl⟩)
          | (go_at_call 13; refine (hH _).mono ?_; rintro e w' ⟨rfl, k2, rfl⟩))
        go_ret3
        exact Ret.of (rfl) (by repeat (first | exact Drew.refl _ | apply Drew.drewN | apply Drew.drew))
      · rw [z2] at hH
        rw [decide_eq_false z1]
        have hne2 : (((want &&& active : Nat) : Int) == 0) = false := by simp; omega
        generalize want &&& active = both at *
        clear e1 e2 e3 hh hfl z1 z2 h0 hX
        go_enter Tryz.func197, Tryz.ntmps197
        go_wp2_with (first
          | (go_at_call 269; refine (hA _).mono ?_; rintro e w' ⟨rfl, k, rfl⟩)
          | (go_at_call 13; refine (hH _).mono ?_; rintro e w' ⟨rfl, k2, rfl⟩))
        go_ret3
        exact Ret.of (rfl) (by repeat (first | exact Drew.refl _ | apply Drew.drewN | apply Drew.drew))
end Go.Proofs.YtaakgpnmfkmdoaaGreatDoor

/- The walk over affin.Wrong. No condition but those named. -/
namespace Go.Proofs.YtaakgpnmfkmdoaaGreatDoor
set_option linter.unusedVariables false
set_option linter.unusedSimpArgs false
open Go.RowKit

def wrongF (active m : Nat) (c : Int) (f : Bool) : Bool := if hasM active c = false then true else if hasM m c = false ∧ m &&& active ≠ 0 then true else f == hasM m c
set_option maxRecDepth 100000 in
theorem affin_Wrong (active m : Nat) (ha : active < 2 ^ 64) (hm : m < 2 ^ 64) (id c : Int) (f : Bool) (w : World) : Calls Tryz.prog 203 #[.int .u64 active, .agg #[.int .i64 id, .int .u64 m, .int .i64 c, .bool f]] w (Nothing (.bool (wrongF active m c f)) w) := by
  have h1 := fun w => mask_Has m hm c w
  have h2 := fun w => mask_Has active ha c w
  have h3 := fun w => mask_And m active w hm ha
  obtain ⟨v, hv⟩ : ∃ v, v = wrongF active m c f := ⟨_, rfl⟩
  rw [← hv]
  unfold wrongF at hv
  cases b1 : hasM active c
  · rw [b1] at h2 hv
    simp at hv
    subst hv
    clear b1 h3
    generalize hasM m c = x at *
    go_enter Tryz.func203, Tryz.ntmps203
    go_wp2_with (first
      | (go_at_call 13; refine (h1 _).mono ?_; clear h1; rintro e w' ⟨rfl, k, rfl⟩)
      | (go_at_call 13; refine (h2 _).mono ?_; rintro e w' ⟨rfl, k2, rfl⟩))
    go_ret
    refine ⟨rfl, ?_⟩
    repeat (first | with_reducible exact Mod.refl _ _ | with_reducible apply Mod.alloc | with_reducible apply Mod.drewN | with_reducible apply Mod.drew | with_reducible refine Mod.setCell ?_ (by first | (simp; done) | (simp; omega)) _)
  · rw [b1] at h2 hv
    rw [if_neg (by decide)] at hv
    cases b2 : hasM m c
    · rw [b2] at h1 hv
      by_cases h0 : m &&& active = 0
      · rw [h0] at h3
        rw [if_neg (by simp [h0])] at hv
        subst hv
        clear b1 b2 h0
        go_enter Tryz.func203, Tryz.ntmps203
        go_wp2_with (first
          | (go_at_call 13; refine (h1 _).mono ?_; clear h1; rintro e w' ⟨rfl, k, rfl⟩)
          | (go_at_call 13; refine (h2 _).mono ?_; rintro e w' ⟨rfl, k2, rfl⟩)
          | (go_at_call 269; refine (h3 _).mono ?_; rintro e w' ⟨rfl, k3, rfl⟩))
        go_ret
        refine ⟨by simp, ?_⟩
        repeat (first | with_reducible exact Mod.refl _ _ | with_reducible apply Mod.alloc | with_reducible apply Mod.drewN | with_reducible apply Mod.drew | with_reducible refine Mod.setCell ?_ (by first | (simp; done) | (simp; omega)) _)
      · rw [if_pos ⟨rfl, h0⟩] at hv
        subst hv
        have hne : (((m &&& active : Nat) : Int) == 0) = false := by simp; omega
        generalize m &&& active = y at *
        clear b1 b2 h0
        go_enter Tryz.func203, Tryz.ntmps203
        go_wp2_with (first
          | (go_at_call 13; refine (h1 _).mono ?_; clear h1; rintro e w' ⟨rfl, k, rfl⟩)
          | (go_at_call 13; refine (h2 _).mono ?_; rintro e w' ⟨rfl, k2, rfl⟩)
          | (go_at_call 269; refine (h3 _).mono ?_; rintro e w' ⟨rfl, k3, rfl⟩))
        go_ret
        refine ⟨rfl, ?_⟩
        repeat (first | with_reducible exact Mod.refl _ _ | with_reducible apply Mod.alloc | with_reducible apply Mod.drewN | with_reducible apply Mod.drew | with_reducible refine Mod.setCell ?_ (by first | (simp; done) | (simp; omega)) _)
    · rw [b2] at h1 hv
      rw [if_neg (by simp)] at hv
      subst hv
      clear b1 b2 h3
      go_enter Tryz.func203, Tryz.ntmps203
      go_wp2_with (first
        | (go_at_call 13; refine (h1 _).mono ?_; clear h1; rintro e w' ⟨rfl, k, rfl⟩)
        | (go_at_call 13; refine (h2 _).mono ?_; rintro e w' ⟨rfl, k2, rfl⟩))
      go_ret
      refine ⟨by simp, ?_⟩
      repeat (first | with_reducible exact Mod.refl _ _ | with_reducible apply Mod.alloc | with_reducible apply Mod.drewN | with_reducible apply Mod.drew | with_reducible refine Mod.setCell ?_ (by first | (simp; done) | (simp; omega)) _)
end Go.Proofs.YtaakgpnmfkmdoaaGreatDoor

/- A kernel in plain words: what all its parts hold, what an event does, what it is answered. No program in sight but the words of its layers. -/
namespace Go.Proofs.YtaakgpnmfkmdoaaGreatDoor
set_option linter.unusedVariables false
set_option linter.unusedSimpArgs false
open Go.RowKit

structure RecS where
  kind : Int
  cpu : Int
  id : Int
  n : Int
  why : Int
deriving DecidableEq
structure EvS where
  kind : Int
  cpu : Int
  id : Int
  mask : Nat
  n : Int
structure KT where
  n : Nat
  th : ThT
  rq : RQ
  tm : TA
  iq : IT
  rt : RT
  wk : WkT
  cb : CbT
  ob : StT
  ct : List Int
  gt : SG
  sp : ST
  dk : SH
  co : CT
  mt : MtT
  gv : Nat → GovS
  online : Nat
  active : Nat
  now : Int
  limit : Int
  own : Int → Option Int
def ansL (id why : Int) : List RecS := [⟨1, 0, if why = 0 then id else 0, 0, why⟩]
def KT.is (k : KT) (cpu : Int) : Prop := 0 ≤ cpu ∧ cpu < k.n
instance instKernelA1 (k : KT) (cpu : Int) : Decidable (k.is cpu) := by unfold KT.is; infer_instance
def KT.ofE (k : KT) (cpu : Int) : Int := if ¬ k.is cpu then 3 else if hasM k.active cpu then 0 else 9
def KT.putT (k : KT) (id near : Int) : KT :=
  { k with th := k.th.place id (chooseV (k.th.get id).mask k.active near) (forcedM (k.th.get id).mask k.active), rq := k.rq.put (chooseV (k.th.get id).mask k.active near) (k.th.get id).prio id }
def KT.mendB (k : KT) (id : Int) : Bool := (k.th.get id).sleeps || !wrongF k.active (k.th.get id).mask (k.th.get id).cpu (k.th.get id).forced
def KT.mend (k : KT) (id : Int) : KT := if k.mendB id then k else ({ k with rq := k.rq.take id } : KT).putT id (k.th.get id).cpu
def IT.get (t : IT) (i : Int) : IrqS := if irqIs i then t.at i else irq0
def KT.lead (k : KT) (i near : Int) : KT := { k with rt := k.rt.set i (chooseV (k.iq.get i).mask k.active near) }
def KT.aim (k : KT) (i : Int) : KT := if wrongF k.active (k.iq.get i).mask (k.rt.of i) (!hasM (k.iq.get i).mask (k.rt.of i)) then k.lead i (k.rt.of i) else k
/-- The meter has a core's ticks. -/
def KT.meet (k : KT) (c : Nat) (x : CoreS) (ticks : Int) : KT :=
  { k with co := k.co.take c, gv := gupd k.gv c ((k.gv c).feed (k.co.takeB c) (k.co.takeS c)), mt := if x.idle then k.mt.rest c x.way ticks (wayOf x.way.toNat).2.2 else k.mt.work c ticks ((k.gv c).feedV (k.co.takeB c) (k.co.takeS c)) }
def KT.meetAt (k : KT) (ticks : Int) (c : Nat) : KT := if (k.co.c c).power then k.meet c (k.co.c c) ticks else k
def KT.meets (k : KT) (ticks : Int) : Nat → KT
  | 0 => k
  | j + 1 => (k.meets ticks j).meetAt ticks j
def KT.tickE (k : KT) (d : Int) : Int := if laterE k.now d ≠ 0 then laterE k.now d else k.tm.goE (laterV k.now d)
def KT.tick (k : KT) (d : Int) : KT := if laterE k.now d ≠ 0 then k else { k.meets d k.n with now := laterV k.now d, tm := k.tm.go (laterV k.now d) }
def KT.spawn (k : KT) (p : Int) (m : Nat) : KT := if k.th.spawnE p m = 0 then ({ k with th := k.th.spawn p m } : KT).putT (k.th.spawnV p m) (k.th.spawnV p m % k.n) else k
def KT.quiet (k : KT) (t : Int) : KT := { k with tm := k.tm.cancel t, own := odel k.own t }
def KT.wake (k : KT) (id : Int) : KT := ({ k with th := k.th.wake id } : KT).putT id ((k.th.wake id).get id).cpu
def KT.sleepC (k : KT) (x : ThS) : Int := if hasM k.active x.cpu then x.cpu else firstM k.active
def KT.sleepE (k : KT) (id : Int) (x : ThS) (d : Int) : Int := if laterE k.now d ≠ 0 then laterE k.now d else if k.tm.armE (k.sleepC x) (laterV k.now d) ≠ 0 then k.tm.armE (k.sleepC x) (laterV k.now d) else k.th.sleepE id
def KT.sleepV (k : KT) (x : ThS) (d : Int) : Int := if laterE k.now d ≠ 0 then 0 else if k.tm.armE (k.sleepC x) (laterV k.now d) ≠ 0 then 0 else k.tm.armV (k.sleepC x) (laterV k.now d)
def KT.sleep (k : KT) (id : Int) (x : ThS) (d : Int) : KT :=
  if laterE k.now d ≠ 0 then k else if k.tm.armE (k.sleepC x) (laterV k.now d) ≠ 0 then k else
  { k with tm := k.tm.arm (k.sleepC x) (laterV k.now d), own := oput k.own (k.tm.armV (k.sleepC x) (laterV k.now d)) id, rq := k.rq.take id, th := k.th.sleep id (k.tm.armV (k.sleepC x) (laterV k.now d)) }
def KT.exit (k : KT) (id : Int) (x : ThS) : KT := let k' : KT := if x.sleeps then k.quiet x.timer else { k with rq := k.rq.take id }; { k' with th := k'.th.exit id }
def KT.threadedL (k : KT) (e : EvS) : List RecS :=
  if k.th.getE e.id ≠ 0 then ansL 0 4 else if e.kind = 9 then ansL (k.th.get e.id).cpu 0 else if e.kind = 4 then ansL 0 0 else if e.kind = 8 then ansL 0 (k.th.aimE e.id e.mask)
  else if (k.th.get e.id).sleeps ≠ decide (e.kind = 7) then ansL 0 6 else if e.kind = 6 then ansL (k.sleepV (k.th.get e.id) e.n) (k.sleepE e.id (k.th.get e.id) e.n) else if e.kind = 5 then ansL 0 (k.rq.takeE e.id) else ansL 0 0
def KT.threaded (k : KT) (e : EvS) : KT :=
  if k.th.getE e.id ≠ 0 then k else if e.kind = 9 then k else if e.kind = 4 then k.exit e.id (k.th.get e.id) else if e.kind = 8 then (if k.th.aimE e.id e.mask = 0 then ({ k with th := k.th.aim e.id e.mask } : KT).mend e.id else k)
  else if (k.th.get e.id).sleeps ≠ decide (e.kind = 7) then k else if e.kind = 6 then k.sleep e.id (k.th.get e.id) e.n else if e.kind = 5 then { k with rq := k.rq.back e.id } else (k.quiet (k.th.get e.id).timer).wake e.id
def KT.irqE (k : KT) (e : EvS) : Int :=
  if e.kind = 12 then k.iq.reqE e.id e.mask else if e.kind = 13 then k.iq.wantE e.id else if e.kind = 14 then k.iq.aimE e.id e.mask else if e.kind = 15 then k.iq.hushE e.id true else if e.kind = 16 then k.iq.hushE e.id false else k.iq.wantE e.id
def KT.irq (k : KT) (e : EvS) : KT :=
  if e.kind = 12 then (if k.iq.reqE e.id e.mask = 0 then ({ k with iq := k.iq.req e.id e.mask } : KT).lead e.id (e.id % k.n) else k)
  else if e.kind = 13 then (if k.iq.wantE e.id = 0 then { k with iq := k.iq.free e.id, rt := k.rt.off e.id } else k)
  else if e.kind = 14 then (if k.iq.aimE e.id e.mask = 0 then ({ k with iq := k.iq.aim e.id e.mask } : KT).aim e.id else k)
  else if e.kind = 15 then { k with iq := k.iq.hush e.id true } else if e.kind = 16 then { k with iq := k.iq.hush e.id false } else { k with iq := k.iq.raise e.id }
def KT.armE (k : KT) (cpu d : Int) : Int := if laterE k.now d ≠ 0 then laterE k.now d else k.tm.armE cpu (laterV k.now d)
def KT.armV (k : KT) (cpu d : Int) : Int := if laterE k.now d ≠ 0 then 0 else k.tm.armV cpu (laterV k.now d)
def KT.arm (k : KT) (cpu d : Int) : KT := if laterE k.now d ≠ 0 then k else { k with tm := k.tm.arm cpu (laterV k.now d) }
def KT.placedL (k : KT) (e : EvS) : List RecS :=
  if k.ofE e.cpu ≠ 0 then ansL 0 (k.ofE e.cpu) else if e.kind = 10 then ansL (k.armV e.cpu e.n) (k.armE e.cpu e.n) else if e.kind = 18 then ansL (k.wk.queueV e.cpu) (k.wk.queueE e.cpu)
  else if e.kind = 20 then ansL (k.cb.sendV e.cpu) (k.cb.sendE e.cpu) else if e.kind = 21 then ansL (k.ob.allocV e.cpu) (k.ob.allocE e.cpu) else if e.kind = 22 then ansL 0 (k.ob.giveE e.cpu e.id) else ansL 0 (k.gt.enterE e.cpu)
def KT.placed (k : KT) (e : EvS) : KT :=
  if k.ofE e.cpu ≠ 0 then k else if e.kind = 10 then k.arm e.cpu e.n else if e.kind = 18 then { k with wk := k.wk.queue e.cpu }
  else if e.kind = 20 then { k with cb := k.cb.send e.cpu } else if e.kind = 21 then { k with ob := k.ob.alloc e.cpu } else if e.kind = 22 then { k with ob := k.ob.give e.cpu e.id } else { k with gt := k.gt.enter e.cpu }
def KT.cancelE (k : KT) (id : Int) : Int := if (k.tm.whr id).isNone then 4 else if 0 < (k.own id).getD 0 then 6 else k.tm.cancelE id
def KT.cancel (k : KT) (id : Int) : KT := if k.cancelE id = 0 then { k with tm := k.tm.cancel id } else k
def KT.flushE (id : Int) : Int := if id < 1 ∨ 32 < id then 2 else 0
def KT.flushV (k : KT) (id : Int) : Int := if id < 1 ∨ 32 < id then 0 else if k.wk.has id then 1 else 0
def limE (d : Int) : Int := if d < 0 ∨ 1073741824 < d then 2 else 0
def KT.lim (k : KT) (d : Int) : KT := if limE d = 0 then { k with limit := d } else k
def KT.speedE (a b : Int) : Int := if rightG a b then 0 else 2
def KT.speed (k : KT) (a b : Int) : KT := { k with gv := fun c => if c < k.n then (k.gv c).set a b else k.gv c }
def KT.planE (s : Int) : Int := if s < 0 ∨ 10 ≤ s then 3 else Go.Proofs.YtaakgpnmfkmdoaaGreatDoor.planE s
def KT.plan (k : KT) (s : Int) : KT := if s < 0 ∨ 10 ≤ s then k else { k with dk := k.dk.doPlan s }
def KT.balFrom (k : KT) : Int := k.rq.bestV k.active moreB
def KT.balTo (k : KT) : Int := k.rq.bestV k.active lessB
def KT.balId (k : KT) : Option Int := if k.rq.load k.balFrom - k.rq.load k.balTo < 2 then none else (k.rq.list k.balFrom).reverse.find? fun id => hasM (k.th.get id).mask k.balTo
def KT.balV (k : KT) : Int := k.balId.getD 0
def KT.bal (k : KT) : KT := match k.balId with
  | none => k
  | some id => { k with rq := (k.rq.take id).put k.balTo (k.th.get id).prio id, th := k.th.place id k.balTo false }
def KT.reqE (k : KT) (up : Bool) (cpu : Int) : Int :=
  if ¬ k.is cpu then 3 else if k.dk.run.isSome then 7 else if up = true ∧ hasM k.online cpu = true then 8 else if up = false ∧ hasM k.online cpu = false then 9 else if up = false ∧ (listM k.online).length = 1 then 10
  else k.dk.beginE cpu (firstM (lessM k.active cpu))
def KT.reqOk (k : KT) (up : Bool) (cpu : Int) : Bool := decide (k.is cpu) && !k.dk.run.isSome && !(up && hasM k.online cpu) && !(!up && !hasM k.online cpu) && !(!up && decide ((listM k.online).length = 1))
def KT.req (k : KT) (up : Bool) (cpu : Int) : KT := if k.reqOk up cpu then { k with gt := k.gt.want, dk := k.dk.begin_ up cpu (firstM (lessM k.active cpu)) } else k
def KT.waits (k : KT) (cpu : Int) : Option Int := (k.rt.onL cpu 16).find? fun i => k.iq.ready i
def KT.flags (k : KT) (cpu : Int) : FlagsS where
  stop := k.sp.must cpu
  held := hasM k.sp.held cpu
  hot := k.dk.run.isSome && decide (k.dk.by_ = cpu)
  active := hasM k.active cpu
  call := decide (0 < (k.cb.list cpu).length)
  irq := (k.waits cpu).isSome
  timer := k.tm.ready cpu
  work := decide (0 < (k.wk.list cpu).length + (k.wk.list (-1)).length)
  thread := decide (0 < k.rq.load cpu)
def KT.did (k : KT) (cpu : Int) : KT := { k with ct := sAdd k.ct cpu 1 }
def KT.fireId (k : KT) (cpu : Int) : Int := k.tm.fireV cpu
def KT.fireWho (k : KT) (cpu : Int) : Int := (k.own (k.fireId cpu)).getD 0
def KT.fire (k : KT) (cpu : Int) : KT :=
  let k' : KT := { k with tm := k.tm.fire cpu, own := odel k.own (k.fireId cpu) }
  ((if 0 < k.fireWho cpu then k'.wake (k.fireWho cpu) else k') : KT).did cpu
def KT.lie (k : KT) (cpu : Int) : KT := { k with co := k.co.rest cpu (chooseW (predictW k.now (k.tm.nextV cpu) (decide (k.tm.nextE cpu = 0))) k.limit) k.now }
def KT.thingL (k : KT) (cpu what : Int) : List RecS :=
  if what = 4 then [⟨6, cpu, k.cb.takeV cpu, 0, 0⟩] else if what = 5 then [⟨4, cpu, (k.waits cpu).getD 0, 0, 0⟩] else if what = 6 then [⟨3, cpu, k.fireId cpu, k.fireWho cpu, 0⟩] else if what = 7 then [⟨5, cpu, k.wk.takeV cpu, 0, 0⟩] else [⟨2, cpu, k.rq.pickV cpu, 0, 0⟩]
def KT.thing (k : KT) (cpu what : Int) : KT :=
  if what = 4 then ({ k with cb := k.cb.take cpu } : KT).did cpu else if what = 5 then ({ k with iq := k.iq.clear ((k.waits cpu).getD 0) } : KT).did cpu else if what = 6 then k.fire cpu else if what = 7 then ({ k with wk := k.wk.take cpu } : KT).did cpu else ({ k with rq := k.rq.pick cpu } : KT).did cpu
/-- A stage's number, whether it is undone, whether it fails. -/
def SH.stK (s : SH) : Int := match s.run with | none => 0 | some r => if r.over then 0 else r.k
def SH.stU (s : SH) : Bool := match s.run with | none => false | some r => if r.over then false else r.back
def SH.stF (s : SH) : Bool := match s.run with | none => false | some r => if r.over then false else s.failsNow r
def KT.undo (k : KT) (up : Bool) (st cpu : Int) : KT := if st = 1 then (if up then { k with co := k.co.pow cpu false } else { k with active := withM k.active cpu }) else k
def KT.come (k : KT) (st cpu : Int) : KT :=
  if st = 1 then { k with co := k.co.pow cpu true } else if st = 2 then { k with ob := k.ob.drain cpu } else
  let k1 : KT := { k with online := withM k.online cpu, active := withM k.active cpu }
  let k2 := k1.th.list.foldl KT.mend k1
  (idsOfI k2.iq).foldl KT.aim k2
where idsOfI (t : IT) : List Int := ((List.range 16).filter fun i => (t.c i).wanted).map fun (i : Nat) => (i : Int)
def KT.emptyB (k : KT) (cpu : Int) : Bool := decide (k.rq.list cpu = [])
def KT.empty (k : KT) (cpu : Int) : KT := if k.rq.list cpu = [] then k else ({ k with rq := k.rq.take (nth (k.rq.list cpu) 0) } : KT).putT (nth (k.rq.list cpu) 0) cpu
def KT.haltB (k : KT) : Bool := k.sp.on && k.sp.ready
def KT.halt (k : KT) (cpu by_ : Int) : KT :=
  if k.sp.on = false then { k with sp := k.sp.begin' (lessM (withM k.active cpu) by_) } else if k.sp.ready = false then k else
  let k1 := (k.rt.onL cpu 16).foldl (fun k i => k.lead i cpu) k
  { k1 with sp := k1.sp.free }
def KT.leaveB (k : KT) (st cpu by_ : Int) : Bool :=
  if st = 2 then k.emptyB cpu else if st = 3 then decide (k.tm.moveE cpu by_ ≠ 0) else if st = 4 then decide (k.wk.unbindE cpu ≠ 0) else if st = 5 then decide (k.cb.moveE cpu by_ ≠ 0) else if st = 6 then k.haltB else true
def KT.leave (k : KT) (st cpu by_ : Int) : KT :=
  if st = 1 then { k with active := lessM k.active cpu } else if st = 2 then k.empty cpu else if st = 3 then { k with tm := k.tm.move cpu by_ } else if st = 4 then { k with wk := k.wk.unbind cpu } else if st = 5 then { k with cb := k.cb.move cpu by_ }
  else if st = 6 then k.halt cpu by_ else if st = 7 then { k with ob := k.ob.drain cpu } else if st = 8 then { k with ct := sFold k.ct cpu by_ } else { k with online := lessM k.online cpu, co := k.co.pow cpu false }
def KT.stageB (k : KT) (st : Int) (undo : Bool) (cpu by_ : Int) : Bool := if undo then true else if st = 0 then decide (k.gt.takeE = 0) else if k.dk.up then true else k.leaveB st cpu by_
def KT.stage (k : KT) (st : Int) (undo : Bool) (cpu by_ : Int) : KT := if undo then k.undo k.dk.up st cpu else if st = 0 then { k with gt := k.gt.take } else if k.dk.up then k.come st cpu else k.leave st cpu by_
/-- A step of a request, up to its end. -/
def KT.turn1 (k : KT) (by_ : Int) : KT :=
  let k1 : KT := { k with dk := k.dk.next }
  if k.dk.stF then k1 else
  let k2 := k1.stage k.dk.stK k.dk.stU k.dk.cpu by_
  if k1.stageB k.dk.stK k.dk.stU k.dk.cpu by_ then { k2 with dk := k2.dk.done } else k2
def KT.turnL (k : KT) (by_ : Int) : List RecS := if (k.turn1 by_).dk.over then [⟨7, k.dk.cpu, 0, 0, (k.turn1 by_).dk.endV⟩] else []
def KT.turn (k : KT) (by_ : Int) : KT := if (k.turn1 by_).dk.over then { k.turn1 by_ with dk := (k.turn1 by_).dk.end_, gt := (k.turn1 by_).gt.free } else k.turn1 by_
def KT.what (k : KT) (cpu : Int) : Int := nextC (if k.co.is cpu then k.co.at cpu else core0) (k.flags cpu)
def KT.step0 (k : KT) (cpu : Int) : KT := if (if k.co.is cpu then k.co.at cpu else core0).power then { k with co := k.co.count cpu (decide (k.what cpu ≠ 0 ∧ k.what cpu ≠ 9)) } else k
def KT.stepL (k : KT) (cpu : Int) : List RecS :=
  if k.what cpu = 0 ∨ k.what cpu = 1 ∨ k.what cpu = 2 ∨ k.what cpu = 9 then [] else if k.what cpu = 3 then (k.step0 cpu).turnL cpu else (k.step0 cpu).thingL cpu (k.what cpu)
def KT.step (k : KT) (cpu : Int) : KT :=
  if k.what cpu = 0 then k.step0 cpu else if k.what cpu = 1 then { k.step0 cpu with co := (k.step0 cpu).co.wake cpu k.now } else if k.what cpu = 2 then { k.step0 cpu with sp := k.sp.ack cpu }
  else if k.what cpu = 3 then (k.step0 cpu).turn cpu else if k.what cpu = 9 then (k.step0 cpu).lie cpu else (k.step0 cpu).thing cpu (k.what cpu)
def KT.doL (k : KT) (e : EvS) : List RecS :=
  if e.kind = 1 then (if ¬ k.is e.cpu then ansL 0 3 else k.stepL e.cpu) else if e.kind = 2 then ansL 0 (k.tickE e.n) else if e.kind = 3 then ansL (k.th.spawnV e.id e.mask) (k.th.spawnE e.id e.mask)
  else if 4 ≤ e.kind ∧ e.kind ≤ 9 then k.threadedL e else if 12 ≤ e.kind ∧ e.kind ≤ 17 then ansL 0 (k.irqE e)
  else if e.kind = 18 ∧ e.cpu = -1 then ansL (k.wk.queueV (-1)) (k.wk.queueE (-1)) else if e.kind = 10 ∨ e.kind = 18 ∨ (20 ≤ e.kind ∧ e.kind ≤ 22) ∨ e.kind = 26 then k.placedL e
  else if e.kind = 23 ∨ e.kind = 24 then ansL 0 (k.reqE (decide (e.kind = 23)) e.cpu)
  else if e.kind = 11 then ansL 0 (k.cancelE e.id) else if e.kind = 19 then ansL (k.flushV e.id) (KT.flushE e.id) else if e.kind = 25 then ansL 0 (KT.planE e.n) else if e.kind = 27 then ansL 0 (k.gt.leaveE e.cpu)
  else if e.kind = 28 then ansL 0 (limE e.n) else if e.kind = 29 then ansL 0 (KT.speedE e.id e.n) else if e.kind = 30 then ansL k.balV 0 else ansL 0 2
def KT.doK (k : KT) (e : EvS) : KT :=
  if e.kind = 1 then (if ¬ k.is e.cpu then k else k.step e.cpu) else if e.kind = 2 then k.tick e.n else if e.kind = 3 then k.spawn e.id e.mask
  else if 4 ≤ e.kind ∧ e.kind ≤ 9 then k.threaded e else if 12 ≤ e.kind ∧ e.kind ≤ 17 then k.irq e
  else if e.kind = 18 ∧ e.cpu = -1 then { k with wk := k.wk.queue (-1) } else if e.kind = 10 ∨ e.kind = 18 ∨ (20 ≤ e.kind ∧ e.kind ≤ 22) ∨ e.kind = 26 then k.placed e
  else if e.kind = 23 ∨ e.kind = 24 then k.req (decide (e.kind = 23)) e.cpu
  else if e.kind = 11 then k.cancel e.id else if e.kind = 19 then k else if e.kind = 25 then k.plan e.n else if e.kind = 27 then { k with gt := k.gt.leave e.cpu }
  else if e.kind = 28 then k.lim e.n else if e.kind = 29 then k.speed e.id e.n else if e.kind = 30 then k.bal else k
def kt0 (n : Nat) : KT where
  n := n
  th := ⟨n, fun _ => none⟩
  rq := ⟨n, fun _ => []⟩
  tm := ta0 n
  iq := it0 n
  rt := rt0 n
  wk := ⟨n, fun _ => []⟩
  cb := ⟨n, fun _ => []⟩
  ob := ⟨n, fun _ => 0, fun _ => []⟩
  ct := List.replicate n 0
  gt := ⟨List.replicate n 0, 0⟩
  sp := ⟨0, 0⟩
  dk := ⟨none, false, 0, 0, false, []⟩
  co := ct0 n
  mt := ⟨n, fun _ _ => 0⟩
  gv := fun _ => gov0 100 1000
  online := uptoM n
  active := uptoM n
  now := 0
  limit := 1073741824
  own := fun _ => none
end Go.Proofs.YtaakgpnmfkmdoaaGreatDoor

/- A slice of pointers to things that are apart: reading one, calling on one, one more. No condition but those named. -/
namespace Go.Proofs.YtaakgpnmfkmdoaaGreatDoor
set_option linter.unusedVariables false
set_option linter.unusedSimpArgs false
open Go.RowKit

def ptV (n : Nat) (D : Nat → Nat) : List Value := (List.range n).map fun i => .pointer (some ⟨D i, 0, none⟩)
/-- The things by themselves. -/
def thingsL (n : Nat) (R : Nat → Res) : List Res := (List.range n).map R
def famL (T : TypeId) (g : Option Nat) (cap n : Nat) (D : Nat → Nat) (R : Nat → Res) : List Res := rowR T 1 g cap n (ptV n D) :: thingsL n R
theorem thingsL_set (n : Nat) (R : Nat → Res) (c : Nat) (x : Res) : (thingsL n R).set c x = thingsL n (gupd R c x) := by
  unfold thingsL
  apply List.ext_getElem?
  intro j
  rw [List.getElem?_set]
  simp only [List.getElem?_map, List.length_map, List.length_range]
  by_cases e : c = j
  · subst e
    by_cases hc : c < n
    · simp [hc, gupd_same]
    · simp [hc]
  · rw [if_neg e]
    by_cases hj : j < n
    · simp [hj, gupd_ne _ _ (fun x => e x.symm)]
    · simp [hj]
theorem thingsL_get {n : Nat} {R : Nat → Res} {c : Nat} (hc : c < n) : (thingsL n R)[c]? = some (R c) := by simp [thingsL, hc]
theorem thingsL_congr {n : Nat} {R R' : Nat → Res} (h : ∀ i, i < n → R i = R' i) : thingsL n R = thingsL n R' := List.map_congr_left (fun i hi => h i (List.mem_range.1 hi))
theorem ptV_get {n : Nat} {D : Nat → Nat} {c : Nat} (hc : c < n) : (ptV n D)[c]? = some (.pointer (some ⟨D c, 0, none⟩)) := by simp [ptV, hc]
theorem things_succ (f : Nat → Nat → Res) (j x : Nat) (D : Nat → Nat) : thingsL (j + 1) (fun i => f i (gupd D j x i)) = thingsL j (fun i => f i (D i)) ++ [f j x] := by
  unfold thingsL
  rw [List.range_succ, List.map_append, List.map_cons, List.map_nil, gupd_same]
  congr 1
  exact List.map_congr_left (fun i hi => by rw [gupd_ne _ _ (by have := List.mem_range.1 hi; omega)])
theorem ptV_succ (j x : Nat) (D : Nat → Nat) : ptV (j + 1) (gupd D j x) = ptV j D ++ [.pointer (some ⟨x, 0, none⟩)] := by
  unfold ptV
  rw [List.range_succ, List.map_append, List.map_cons, List.map_nil, gupd_same]
  congr 1
  exact List.map_congr_left (fun i hi => by rw [gupd_ne _ _ (by have := List.mem_range.1 hi; omega)])
section
variable {F0 : List Nat} {w0 u : World} {pre post : List Res} {T : TypeId} {g : Option Nat} {cap n k : Nat} {D : Nat → Nat} {R : Nat → Res}
theorem fam_get (hk : k = pre.length) {c : Nat} (hc : c < n) : (pre ++ famL T g cap n D R ++ post)[k + 1 + c]? = some (R c) := by
  subst hk
  unfold famL
  rw [List.append_assoc, List.getElem?_append_right (by omega), List.getElem?_append_left (by simp [thingsL]; omega)]
  rw [show pre.length + 1 + c - pre.length = c + 1 by omega, List.getElem?_cons_succ]
  exact thingsL_get hc
theorem fam_set (hk : k = pre.length) {c : Nat} (hc : c < n) (x : Res) : (pre ++ famL T g cap n D R ++ post).set (k + 1 + c) x = pre ++ famL T g cap n D (gupd R c x) ++ post := by
  subst hk
  unfold famL
  rw [List.append_assoc, List.set_append_right _ _ (by omega), List.set_append_left _ _ (by simp [thingsL]; omega)]
  rw [show pre.length + 1 + c - pre.length = c + 1 by omega, List.set_cons_succ, thingsL_set, List.append_assoc]
theorem fam_row (hk : k = pre.length) : (pre ++ famL T g cap n D R ++ post)[k]? = some (rowR T 1 g cap n (ptV n D)) := by
  subst hk
  unfold famL
  rw [List.append_assoc, List.getElem?_append_right (by omega)]
  simp
theorem On.famPtr (h : On F0 w0 (pre ++ famL T g cap n D R ++ post) u) (hk : k = pre.length) {c : Nat} (hc : c < n) : ∃ b, g = some b ∧ u.cell? ⟨b, c, none⟩ = some (.pointer (some ⟨D c, 0, none⟩)) := by
  obtain ⟨F1, _, hr⟩ := h.get k (fam_row hk)
  exact hr.cell (ptV_get hc)
theorem On.famCap (h : On F0 w0 (pre ++ famL T g cap n D R ++ post) u) (hk : k = pre.length) : n ≤ cap ∧ cap ≤ maxLen := by
  obtain ⟨F1, _, hr⟩ := h.get k (fam_row hk)
  exact hr.cap
theorem On.famHas (h : On F0 w0 (pre ++ famL T g cap n D R ++ post) u) (hk : k = pre.length) {c : Nat} (hc : c < n) : ∃ F1, (R c).holds F1 u := h.get _ (fam_get hk hc)
theorem On.famDo {P : Program} {f : FuncId} {args : Array Value} {v : Value} {x : Res} (h : On F0 w0 (pre ++ famL T g cap n D R ++ post) u) (hk : k = pre.length) {c : Nat} (hc : c < n) (hh : ∀ F1, (R c).holds F1 u → Calls P f args u (Turns x F1 v u)) :
    Calls P f args u (fun e u' => e = .returned v ∧ On F0 w0 (pre ++ famL T g cap n D (gupd R c x) ++ post) u') := by
  have := h.call _ (fam_get hk hc) hh
  rw [fam_set hk hc] at this
  exact this
/-- One more thing: its pointer lies in a block of its own, it stands last. -/
theorem On.famMore {P : Program} {tt : TypeId} {x : Res} (h : On F0 w0 (pre ++ famL T g cap n D R ++ [x]) u) (hT : P.underlying tt = some (.slice T)) {bytes : Nat} (hI : (P.info? T).map (fun i => (i.zero, i.size, i.bytes)) = some (some (.pointer none), 1, bytes)) (hbb : bytes ≤ 1000) (hn : n < 1000000) {d b : Nat}
    (hbk : u.heap[b]? = some (.cells #[.pointer (some ⟨d, 0, none⟩)] T (0,0))) :
    ∃ g' cap' u', (∀ ty, (Builtin.append_ #[tt, tt] ty #[.slice (rA g) n cap, .slice (some ⟨b, 0, none⟩) 1 1]).run P u = .ok (.slice (some ⟨g', 0, none⟩) (n + 1) cap') u') ∧ On F0 w0 (pre ++ famL T (some g') cap' (n + 1) (gupd D n d) (gupd R n x)) u' := by
  obtain ⟨g', cap', u', hrun, h2⟩ := h.rowAppend (P := P) (tt := tt) (z := .pointer none) pre.length (fam_row rfl) hT hI rfl (by omega) hn hbb (news := [.pointer (some ⟨d, 0, none⟩)]) rfl (by simp [Value.oneCell']) hbk
  refine ⟨g', cap', u', hrun, ?_⟩
  have e1 : ptV n D ++ [.pointer (some ⟨d, 0, none⟩)] = ptV (n + 1) (gupd D n d) := by
    unfold ptV
    rw [List.range_succ, List.map_append, List.map_cons, List.map_nil, gupd_same]
    congr 1
    exact List.map_congr_left (fun i hi => by rw [gupd_ne _ _ (by have := List.mem_range.1 hi; omega)])
  have e2 : thingsL n R ++ [x] = thingsL (n + 1) (gupd R n x) := by
    unfold thingsL
    rw [List.range_succ, List.map_append, List.map_cons, List.map_nil, gupd_same]
    congr 1
    exact List.map_congr_left (fun i hi => by rw [gupd_ne _ _ (by have := List.mem_range.1 hi; omega)])
  unfold famL at h2 ⊢
  rw [← e1, ← e2]
  rw [List.append_assoc, List.set_append_right _ _ (by omega)] at h2
  simpa using h2
end
end Go.Proofs.YtaakgpnmfkmdoaaGreatDoor

/- The walks over the queue's Push, Pop, Turn. No condition but those named. -/
namespace Go.Proofs.YtaakgpnmfkmdoaaGreatDoor
set_option linter.unusedVariables false
set_option linter.unusedSimpArgs false
open Go.RowKit

def qPushE (m : Nat) (l : List Int) (x : Int) : Int := if x ∈ l then 6 else if l.length = m then 5 else 0
def qPush (m : Nat) (l : List Int) (x : Int) : List Int := if qPushE m l x = 0 then l ++ [x] else l
def qTurnE (l : List Int) : Int := frontE l
def qTurn (m : Nat) (l : List Int) : List Int := if l = [] then l else qPush m l.tail (frontV l)
section
variable {F : List Nat} {w u : World} {b r m f : Nat} {R l : List Int}
theorem On.fifoSet (h : On F w (fifoL b r m f R l) u) (i : Nat) (x : Int) : On F w [Res.blk b (fifoObj r m f l.length), Res.blk r (ringObj (R.set i x))] (u.setCell ⟨r, i, none⟩ (.int .i64 x)) := by
  have := h.set 1 rfl i (.int .i64 x)
  rw [rowI_set] at this
  exact this
theorem fifo_Push (h : (fifoR b m l).holds F w) (x : Int) : Calls Tryz.prog 134 #[.pointer (some ⟨b, 0, none⟩), .int .i64 x] w (Turns (fifoR b m (qPush m l x)) F (.int .i64 (qPushE m l x)) w) := by
  have hH := fifo_Has h x
  obtain ⟨r, f, R, hq, hr, hA⟩ := fifo_view h
  have hfit := hr.fits
  have hf := hr.first
  have hRl := hr.len
  obtain ⟨h1, h2⟩ := id hq
  by_cases hx : x ∈ l
  · have e1 : qPushE m l x = 6 := if_pos hx
    rw [show qPush m l x = l from if_neg (by rw [e1]; decide), e1]
    rw [decide_eq_true hx] at hH
    clear e1
    go_enter Tryz.func134, Tryz.ntmps134
    go_wp2_with (
      go_at_call 218
      refine hH.mono ?_
      rintro e w1 ⟨rfl, m1⟩
      have hB := hA.keep m1
      have c0 : w1.cell? ⟨b, 0, none⟩ = some (.slice (some ⟨r, 0, none⟩) m m) := hB.cell 0 rfl 0
      have c1 : w1.cell? ⟨b, 1, none⟩ = some (.int .i64 (f : Nat)) := hB.cell 0 rfl 1
      have c2 : w1.cell? ⟨b, 2, none⟩ = some (.int .i64 (l.length : Nat)) := hB.cell 0 rfl 2
      have f2 : w1.frozen? ⟨b, 2, none⟩ = false := hB.free 0 rfl 2
      have hO := Lib.hid hB
      clear hB
      )
    go_ret
    exact ⟨rfl, hO.out.fifo hq hr⟩
  · rw [decide_eq_false hx] at hH
    by_cases hfull : l.length = m
    · have e1 : qPushE m l x = 5 := by unfold qPushE; rw [if_neg hx, if_pos hfull]
      rw [show qPush m l x = l from if_neg (by rw [e1]; decide), e1]
      clear e1
      have hne : ((l.length : Int) == m) = true := by simp [hfull]
      go_enter Tryz.func134, Tryz.ntmps134
      go_wp2_with (
        go_at_call 218
        refine hH.mono ?_
        rintro e w1 ⟨rfl, m1⟩
        have hB := hA.keep m1
        have c0 : w1.cell? ⟨b, 0, none⟩ = some (.slice (some ⟨r, 0, none⟩) m m) := hB.cell 0 rfl 0
        have c1 : w1.cell? ⟨b, 1, none⟩ = some (.int .i64 (f : Nat)) := hB.cell 0 rfl 1
        have c2 : w1.cell? ⟨b, 2, none⟩ = some (.int .i64 (l.length : Nat)) := hB.cell 0 rfl 2
        have f2 : w1.frozen? ⟨b, 2, none⟩ = false := hB.free 0 rfl 2
        have hO := Lib.hid hB
        clear hB
        )
      go_quiet (fail)
      go_wp2
      go_ret
      exact ⟨rfl, (hO.out.keep ((Mod.refl _ _).drewN _)).fifo hq hr⟩
    · have e1 : qPushE m l x = 0 := by unfold qPushE; rw [if_neg hx, if_neg hfull]
      rw [show qPush m l x = l ++ [x] from if_pos e1, e1]
      clear e1
      have hne : ((l.length : Int) == m) = false := by simp; omega
      have hlt : l.length < m := by omega
      have hpl : (f + l.length) % m < m := Nat.mod_lt _ (by omega)
      have hpush := Lib.hid (hr.push hlt x)
      go_enter Tryz.func134, Tryz.ntmps134
      go_wp2_with (
        go_at_call 218
        refine hH.mono ?_
        rintro e w1 ⟨rfl, m1⟩
        have hB := hA.keep m1
        have c0 : w1.cell? ⟨b, 0, none⟩ = some (.slice (some ⟨r, 0, none⟩) m m) := hB.cell 0 rfl 0
        have c1 : w1.cell? ⟨b, 1, none⟩ = some (.int .i64 (f : Nat)) := hB.cell 0 rfl 1
        have c2 : w1.cell? ⟨b, 2, none⟩ = some (.int .i64 (l.length : Nat)) := hB.cell 0 rfl 2
        have f2 : w1.frozen? ⟨b, 2, none⟩ = false := hB.free 0 rfl 2
        have hO := Lib.hid hB
        clear hB
        )
      go_quiet (fail)
      have d0 : w1.cell? ⟨r, (f + l.length) % m, none⟩ = some (.int .i64 (nth R ((f + l.length) % m))) := by
        rw [hO.out.cell 1 rfl _]; exact rowI_get (by omega)
      have d1 : w1.frozen? ⟨r, (f + l.length) % m, none⟩ = false := hO.out.free 1 rfl _
      have hbr : b ≠ r := hO.out.ne 0 1 (by decide) rfl rfl
      have hrb : r ≠ b := Ne.symm hbr
      have hat := fun k => fifo_at hq hr (hO.out.keep ((Mod.refl [] w1).drewN k)) l.length (by omega)
      generalize hp : (f + l.length) % m = p at *
      replace hp := Lib.hid hp
      have hpI : (p : Int) < m := by omega
      go_wp2
      go_region_held3 (fun u => u.cell? ⟨b, 0, none⟩ = some (.slice (some ⟨r, 0, none⟩) m m) ∧ u.cell? ⟨b, 2, none⟩ = some (.int .i64 (l.length : Nat))) (exact ⟨by first | assumption | exact (Mod.setCell (S := [r]) (Mod.refl _ _) (.inl (by simp)) _).at (by assumption) (by simpa using hbr), by first | assumption | exact (Mod.setCell (S := [r]) (Mod.refl _ _) (.inl (by simp)) _).at (by assumption) (by simpa using hbr)⟩) (first
        | (
          go_at_call 219
          refine (hat _).mono ?_
          rintro e w4 ⟨rfl, k4, rfl⟩
          ))
      go_wp2
      go_ret
      refine ⟨rfl, ?_⟩
      refine On.fifo (f := f) (R := R.set p x) (r := r) ?_ hq hpush.out
      have x1 := (hO.out.keep (u' := w1.drewN (nq + 1 + k4)) ((Mod.refl _ _).drewN _)).fifoSet p x
      have x2 := x1.set 0 rfl 2 (.int .i64 ((l.length : Int) + 1))
      simpa [fifoL, fifoObj] using x2
theorem fifo_Pop (h : (fifoR b m l).holds F w) : Calls Tryz.prog 255 #[.pointer (some ⟨b, 0, none⟩)] w (Turns (fifoR b m l.tail) F (.tuple #[.int .i64 (frontV l), .int .i64 (frontE l)]) w) := by
  have hH := fifo_Front h
  obtain ⟨r, f, R, hq, hr, hA⟩ := fifo_view h
  obtain ⟨h1, h2⟩ := id hq
  have hf := hr.first
  have c0 : w.cell? ⟨b, 0, none⟩ = some (.slice (some ⟨r, 0, none⟩) m m) := hA.cell 0 rfl 0
  have c1 : w.cell? ⟨b, 1, none⟩ = some (.int .i64 (f : Nat)) := hA.cell 0 rfl 1
  have c2 : w.cell? ⟨b, 2, none⟩ = some (.int .i64 (l.length : Nat)) := hA.cell 0 rfl 2
  have f1 : w.frozen? ⟨b, 1, none⟩ = false := hA.free 0 rfl 1
  have f2 : w.frozen? ⟨b, 2, none⟩ = false := hA.free 0 rfl 2
  have hO := Lib.hid hA
  cases l with
  | nil =>
    rw [show frontE [] = 12 from rfl, show frontV [] = 0 from rfl] at *
    clear hA h
    go_enter Tryz.func255, Tryz.ntmps255
    go_wp2_with (go_at_call 258; refine hH.mono ?_; rintro e w' ⟨rfl, k, rfl⟩)
    go_ret2
    exact ⟨rfl, (hO.out.keep ((Mod.refl _ _).drewN _)).fifo hq hr⟩
  | cons x l =>
    rw [show frontE (x :: l) = 0 from rfl] at *
    have hat := fun k => fifo_at hq hr (hA.keep ((Mod.refl [] w).drewN k)) 1 (by omega)
    have hlen : (x :: l).length = l.length + 1 := rfl
    have hfit := hr.fits
    rw [hlen] at hfit
    rw [hlen] at c2
    have hpop := Lib.hid hr.pop
    generalize frontV (x :: l) = y at *
    generalize (f + 1) % m = p at *
    show Calls _ _ _ _ (Turns (fifoR b m l) _ _ _)
    clear hA h hr hlen
    have hbig : l.length < 1000000 := by omega
    generalize hn : l.length = n at *
    replace hn := Lib.hid hn
    go_enter Tryz.func255, Tryz.ntmps255
    go_wp2_with (first
      | (go_at_call 258; refine hH.mono ?_; rintro e w' ⟨rfl, k, rfl⟩)
      | (go_at_call 219; refine (hat _).mono ?_; rintro e w' ⟨rfl, k2, rfl⟩))
    go_ret2
    refine ⟨by simp, ?_⟩
    refine On.fifo (f := p) (R := R) (r := r) ?_ hq hpop.out
    have x1 := (hO.out.keep (u' := w.drewN (k + k2)) ((Mod.refl _ _).drewN _)).set 0 rfl 1 (.int .i64 (p : Nat))
    have x2 := x1.set 0 rfl 2 (.int .i64 (n : Nat))
    have hn2 := hn.out
    subst hn2
    simpa [fifoL, fifoObj] using x2
theorem fifo_Turn (h : (fifoR b m l).holds F w) : Calls Tryz.prog 307 #[.pointer (some ⟨b, 0, none⟩)] w (Turns (fifoR b m (qTurn m l)) F (.int .i64 (if l = [] then 12 else qPushE m l.tail (frontV l))) w) := by
  have hP := (On.one h).call 0 rfl (fun F1 h1 => fifo_Pop h1)
  by_cases hl : l = []
  · rw [show qTurn m l = l from if_pos hl, if_pos hl]
    rw [show frontE l = 12 from if_pos hl] at hP
    subst hl
    generalize frontV ([] : List Int) = y at *
    go_enter Tryz.func307, Tryz.ntmps307
    go_wp2_with (go_at_call 255; refine hP.mono ?_; rintro e w' ⟨rfl, hB⟩)
    go_ret
    exact ⟨rfl, hB.gain1⟩
  · rw [show qTurn m l = qPush m l.tail (frontV l) from if_neg hl, if_neg hl]
    rw [show frontE l = 0 from if_neg hl] at hP
    generalize frontV l = y at *
    go_enter Tryz.func307, Tryz.ntmps307
    go_wp2_with (first
      | (go_at_call 255; refine hP.mono ?_; rintro e w1 ⟨rfl, hB⟩; have hQ := hB.call 0 rfl (fun F1 h1 => fifo_Push h1 y); clear hP)
      | (go_at_call 134; refine hQ.mono ?_; rintro e w2 ⟨rfl, hC⟩))
    go_ret
    exact ⟨rfl, hC.gain1⟩
end
end Go.Proofs.YtaakgpnmfkmdoaaGreatDoor

/- The walk over the queue's Drop. No condition but those named. -/
namespace Go.Proofs.YtaakgpnmfkmdoaaGreatDoor
set_option linter.unusedVariables false
set_option linter.unusedSimpArgs false
open Go.RowKit

def qDropE (l : List Int) (x : Int) : Int := if x ∈ l then 0 else 4
theorem erase_idx : ∀ (l : List Int) (x : Int) (k : Nat), k < l.length → nth l k = x → (∀ i, i < k → nth l i ≠ x) → l.eraseIdx k = l.erase x
  | [], _, _, h, _, _ => by simp at h
  | a :: l, x, 0, _, h2, _ => by
    have : a = x := by simpa [nth] using h2
    subst this; simp
  | a :: l, x, k + 1, h1, h2, h3 => by
    have h0 : a ≠ x := by have := h3 0 (by omega); simpa [nth] using this
    have ih := erase_idx l x k (by simpa using h1) (by simpa [nth] using h2) (fun i hi => by have := h3 (i + 1) (by omega); simpa [nth] using this)
    rw [List.eraseIdx_cons_succ, ih, List.erase_cons_tail (by simpa using h0)]
section
variable {F : List Nat} {w u : World} {b r m f : Nat} {R l : List Int}
theorem fifo_atL (n : Nat) (R' : List Int) (hm1 : 1 ≤ m) (hm2 : m ≤ 1024) (hf : f < m) (hA : On F w [Res.blk b (fifoObj r m f n), Res.blk r (ringObj R')] u) (i : Nat) (hi : i ≤ m) : Calls Tryz.prog 219 #[.pointer (some ⟨b, 0, none⟩), .int .i64 i] u (Ret (.int .i64 ((f + i) % m : Nat)) u) := by
  have c0 : u.cell? ⟨b, 0, none⟩ = some (.slice (some ⟨r, 0, none⟩) m m) := hA.cell 0 rfl 0
  have c1 : u.cell? ⟨b, 1, none⟩ = some (.int .i64 (f : Nat)) := hA.cell 0 rfl 1
  clear hA
  have hm0 : (m : Int) ≠ 0 := by omega
  have hm3 : (0 : Int) < m := by omega
  go_enter Tryz.func219, Tryz.ntmps219
  go_wp2
  go_quiet (fail)
  go_wp2
  go_ret
  refine ⟨?_, by repeat (first | exact Drew.refl _ | apply Drew.drewN | apply Drew.drew)⟩
  show Ending.returned (Value.int .i64 (((f : Int) + i) % m)) = _
  simp
set_option maxRecDepth 100000 in
set_option maxHeartbeats 1000000 in
theorem fifo_Drop (h : (fifoR b m l).holds F w) (x : Int) : Calls Tryz.prog 305 #[.pointer (some ⟨b, 0, none⟩), .int .i64 x] w (Turns (fifoR b m (l.erase x)) F (.int .i64 (qDropE l x)) w) := by
  have hL := fifo_List h
  obtain ⟨r, f, R, hq, hr, hA⟩ := fifo_view h
  have hfit := hr.fits
  have hf := hr.first
  have hRl := hr.len
  obtain ⟨h1, h2⟩ := id hq
  have hrw := hA.size 1 rfl
  have hbw := hA.size 0 rfl
  by_cases hx : x ∈ l
  · rw [show qDropE l x = 0 from if_pos hx]
    have hl0 : l ≠ [] := by rintro rfl; simp at hx
    go_enter Tryz.func305, Tryz.ntmps305
    go_wp2_with (first
      | (
        go_at_call 239
        refine hL.mono ?_
        rintro e w1 ⟨a, c, rfl, m1, hs⟩
        obtain ⟨rfl, rfl, h4⟩ := hs.resolve_left (fun h => hl0 h.1)
        have hI := index_any (some ⟨w.heap.size, 0, none⟩) l.length l x w1 (.inr ⟨_, rfl, fun j hj => by rw [cellAt h4 j]; exact rowI_get hj⟩) (by omega)
        have hH := Lib.hid (And.intro m1 h4)
        clear hL m1 h4
        )
      | (
        go_at_call 316
        refine hI.mono ?_
        rintro e w2 ⟨k, rfl, hD, hk⟩
        obtain ⟨k, rfl, hkl, hkx, hkn⟩ := hk.resolve_left (fun h => by obtain ⟨i, hi, e⟩ := nth_mem_iff.1 hx; exact h.2 i hi e)
        have hkI : (0 : Int) ≤ k := by omega
        clear hI
        ))
    obtain ⟨m1, h4⟩ := hH.out
    have m2 : Mod [] w w2 := Mod.trans (S := []) (T := []) m1 hD.mod (by simp)
    have g2 : w2.heap[w.heap.size]? = some (ringObj l) := by rw [hD.heap]; exact h4
    have hB := hA.keep m2
    have hE := erase_idx l x k hkl hkx hkn
    have hSt := Shift.start hr hkl
    clear hH m1 h4 hD m2 hkn hkx hx hl0
    generalize hg : w.heap.size = g at *
    have hgr : g ≠ r := by omega
    have hgb : g ≠ b := by omega
    clear hg
    obtain ⟨n, hn⟩ : ∃ n, l.length = n := ⟨_, rfl⟩
    have hB2 : On F w [Res.blk b (fifoObj r m f n), Res.blk r (ringObj R)] w2 := by rw [← hn]; exact hB
    clear hB hA h hrw hbw
    rw [hn] at hfit hkl
    replace hE := Lib.hid hE
    replace hn := Lib.hid hn
    go_loopg [7] (n - 1 - k) (fun gg i wr => ∃ (j : Nat) (R' : List Int), i = .int .i64 j ∧ k ≤ j ∧ j + gg + 1 = n ∧ Shift R' m f l k j ∧ On F w [Res.blk b (fifoObj r m f n), Res.blk r (ringObj R')] wr ∧ wr.heap[g]? = some (ringObj l))
    case atStart => exact ⟨k, R, rfl, Nat.le_refl _, by omega, hSt, hB2, g2⟩
    case round =>
      clear hB2 hSt g2
      obtain ⟨j, R', rfl, hkj, hj, hSt, hB, g2⟩ := hrel
      have c0 : wr.cell? ⟨b, 0, none⟩ = some (.slice (some ⟨r, 0, none⟩) m m) := hB.cell 0 rfl 0
      have c2 : wr.cell? ⟨b, 2, none⟩ = some (.int .i64 (n : Nat)) := hB.cell 0 rfl 2
      have f2 : wr.frozen? ⟨b, 2, none⟩ = false := hB.free 0 rfl 2
      have hbr : b ≠ r := hB.ne 0 1 (by decide) rfl rfl
      have hrb : r ≠ b := Ne.symm hbr
      have hbig : n < 1000000 := by omega
      by_cases hlt : j + 1 < n
      · have hltI : (j : Int) + 1 < l.length := by have := hn.out; omega
        have hltN : j + 1 < l.length := by have := hn.out; omega
        have hj0 : (0 : Int) ≤ (j : Int) + 1 := by omega
        have hjw : IntKind.i64.wrap ((j : Int) + 1) = (j : Int) + 1 := by rw [IntKind.wrap_i64]; omega
        have hjs : (j : Int) < 1000000 := by omega
        have hls : l.length < 1000000 := by have := hn.out; omega
        have hjt : ((j : Int) + 1).toNat = j + 1 := by omega
        have hlen := hSt.len
        have hpl : (f + j) % m < m := Nat.mod_lt _ (by omega)
        have d0 : wr.cell? ⟨r, (f + j) % m, none⟩ = some (.int .i64 (nth R' ((f + j) % m))) := by
          rw [hB.cell 1 rfl _]; exact rowI_get (by omega)
        have d1 : wr.frozen? ⟨r, (f + j) % m, none⟩ = false := hB.free 1 rfl _
        have gc : wr.cell? ⟨g, j + 1, none⟩ = some (.int .i64 (nth l (j + 1))) := by
          rw [cellAt g2 (j + 1)]; exact rowI_get (by rw [hn.out]; exact hlt)
        have hat := fun q => fifo_atL n R' h1 h2 hf (hB.keep ((Mod.refl [] wr).drewN q)) j (by omega)
        have hNext := Lib.hid (hSt.step hf (by rw [hn.out]; exact hfit) hkj (by rw [hn.out]; exact hlt))
        have hO := Lib.hid hB
        have hG := Lib.hid g2
        clear hSt hB g2
        generalize (f + j) % m = p at *
        generalize nth l (j + 1) = y at *
        have hpI : (p : Int) < m := by omega
        go_wp2
        go_region_held3 (fun u => u.cell? ⟨b, 0, none⟩ = some (.slice (some ⟨r, 0, none⟩) m m) ∧ u.cell? ⟨g, j + 1, none⟩ = some (.int .i64 y)) (exact ⟨by first | assumption | exact (Mod.setCell (S := [r]) (Mod.refl _ _) (.inl (by simp)) _).at (by assumption) (by simpa using hbr), by first | assumption | exact (Mod.setCell (S := [r]) (Mod.refl _ _) (.inl (by simp)) _).at (by assumption) (by simpa using hgr)⟩) (first
          | (
            go_at_call 219
            refine (hat _).mono ?_
            rintro e w4 ⟨rfl, k4, rfl⟩
            ))
        go_wp2
        go_roundg (gk - 1)
        case measure => omega
        case rel =>
          refine ⟨j + 1, R'.set p y, by go_num, by omega, by omega, hNext.out, ?_, ?_⟩
          · have x1 := (hO.out.keep (u' := wr.drewN (1 + k4)) ((Mod.refl _ _).drewN _)).set 1 rfl p (.int .i64 y)
            rw [rowI_set] at x1
            first
              | exact x1
              | (refine On.keep (u := (wr.drewN (1 + k4)).setCell ⟨r, p, none⟩ (.int .i64 y)) x1 ?_; exact Mod.refl _ _)
          · rw [heapSetNe hgr]; exact hG.out
      · have hltI : ¬ (j : Int) + 1 < l.length := by have := hn.out; omega
        have hDone := Lib.hid (hSt.done hf (by rw [hn.out]; exact hfit) (by rw [hn.out]; exact hkl) (by rw [hn.out]; omega))
        have hO := Lib.hid hB
        clear hSt hB g2
        have hn1 : (l.eraseIdx k).length = n - 1 := by rw [List.length_eraseIdx_of_lt (by rw [hn.out]; exact hkl), hn.out]
        have hN1 := Lib.hid hn1
        clear hn1
        go_wp2
        go_ret
        refine ⟨rfl, ?_⟩
        rw [← hE.out]
        refine On.fifo (f := f) (R := R') (r := r) ?_ hq hDone.out
        unfold fifoL
        rw [hN1.out]
        have x1 := hO.out.set 0 rfl 2 (.int .i64 ((n - 1 : Nat) : Int))
        have e : ((n : Int) - 1) = ((n - 1 : Nat) : Int) := by omega
        rw [e]
        simpa [fifoObj] using x1
  · rw [show qDropE l x = 4 from if_neg hx, List.erase_of_not_mem hx]
    go_enter Tryz.func305, Tryz.ntmps305
    go_wp2_with (first
      | (
        go_at_call 239
        refine hL.mono ?_
        rintro e w1 ⟨a, c, rfl, m1, hs⟩
        have hI := index_any a c l x w1 (by
          rcases hs with ⟨h1, _⟩ | ⟨_, h2, h3⟩
          · exact .inl h1
          · exact .inr ⟨_, h2, fun j hj => by rw [cellAt h3 j]; exact rowI_get hj⟩) (by omega)
        have hH := Lib.hid m1
        clear hL m1 hs
        )
      | (
        go_at_call 316
        refine hI.mono ?_
        rintro e w2 ⟨k, rfl, hD, hk⟩
        obtain rfl : k = -1 := by
          rcases hk with h | ⟨j, _, h1, h2, _⟩
          · exact h.1
          · exact absurd (nth_mem_iff.2 ⟨j, h1, h2⟩) hx
        clear hI hk
        ))
    go_ret
    exact ⟨rfl, (hA.keep (Mod.trans (S := []) (T := []) hH.out hD.mod (by simp))).fifo hq hr⟩
end
end Go.Proofs.YtaakgpnmfkmdoaaGreatDoor

/- What cores cost (package meter) in memory; the walks over New, find, within, pay, Work, Rest. No condition but those named. -/
namespace Go.Proofs.YtaakgpnmfkmdoaaGreatDoor
set_option linter.unusedVariables false
set_option linter.unusedSimpArgs false
open Go.RowKit

def meV (x : Nat → Int) : List Value := (List.range 10).map fun j => .int .i64 (x j)
theorem meV_len (x : Nat → Int) : (meV x).length = 10 := by simp [meV]
theorem meV_get (x : Nat → Int) {j : Nat} (hj : j < 10) : (meV x)[j]? = some (.int .i64 (x j)) := by simp [meV, hj]
theorem meV_set (x : Nat → Int) {j : Nat} (hj : j < 10) (v : Int) : (meV x).set j (.int .i64 v) = meV (gupd x j v) := by
  unfold meV
  apply List.ext_getElem?
  intro i
  rw [List.getElem?_set]
  simp only [List.getElem?_map, List.length_map, List.length_range]
  by_cases e : j = i
  · subst e; simp [hj, gupd_same]
  · rw [if_neg e]
    by_cases hi : i < 10
    · simp [hi, gupd_ne _ _ (fun q => e q.symm)]
    · simp [hi]
def meOk (x : Nat → Int) : Prop := (∀ j, In64 (x j)) ∧ 0 ≤ x 9 ∧ x 9 ≤ 4611686018427387904
def MtT.ok (t : MtT) : Prop := 1 ≤ t.n ∧ t.n ≤ 64 ∧ ∀ i, meOk (t.c i)
def mtL (b r : Nat) (t : MtT) : List Res := [Res.blk b (.cells #[.slice (some ⟨r, 0, none⟩) t.n t.n] 206 (0,0)), Res.blk r (.cells (blkV [] t.n (fun i => meV (t.c i)) []) 326 (0,0))]
def mtR (b : Nat) (t : MtT) : Res := Res.such t.ok (Res.ex fun r : Nat => Res.star (mtL b r t))
def mt0 (n : Nat) : MtT := ⟨n, fun _ _ => 0⟩
theorem in64_pow {a b : Int} (h1 : mtIn a) (h2 : mtIn b) : 0 ≤ a * b ∧ a * b ≤ 4611686018427387904 := by
  obtain ⟨a1, a2⟩ := h1
  obtain ⟨b1, b2⟩ := h2
  have h := Int.mul_le_mul a2 b2 b1 (by omega)
  exact ⟨Int.mul_nonneg a1 b1, by omega⟩
section
variable {F : List Nat} {w u : World} {b r : Nat} {t : MtT}
theorem mt_view (h : (mtR b t).holds F w) : ∃ r, t.ok ∧ On F w (mtL b r t) w := by
  obtain ⟨hok, r, h⟩ := h
  exact ⟨r, hok, On.of h⟩
theorem On.mt (h : On F w (mtL b r t) u) (hok : t.ok) : Gain (mtR b t) F w u := h.gains.imp fun F' h' => ⟨hok, r, h'⟩
theorem On.mtC (h : On F w (mtL b r t) u) {i j : Nat} (hi : i < t.n) (hj : j < 10) {o : Nat} (ho : o = i * 10 + j) : u.cell? ⟨r, o, none⟩ = some (.int .i64 (t.c i j)) := by
  rw [h.cell 1 rfl o, blkV_get (k := 10) (fun i => meV_len _) hi hj (by simpa using ho)]
  exact meV_get _ hj
theorem On.mtSet (h : On F w (mtL b r t) u) {i j : Nat} (hi : i < t.n) (hj : j < 10) (v : Int) {o : Nat} (ho : o = i * 10 + j) : On F w (mtL b r (t.put i (gupd (t.c i) j v))) (u.setCell ⟨r, o, none⟩ (.int .i64 v)) := by
  have := h.set 1 rfl o (.int .i64 v)
  rw [blkV_set (k := 10) (fun i => meV_len _) hi hj _ (by simpa using ho), meV_set _ hj] at this
  have e : gupd (fun i => meV (t.c i)) i (meV (gupd (t.c i) j v)) = fun x => meV ((t.put i (gupd (t.c i) j v)).c x) := by
    funext x
    by_cases e : x = i
    · subst e; rw [gupd_same]; show _ = meV (gupd t.c x _ x); rw [gupd_same]
    · rw [gupd_ne _ _ e]; show _ = meV (gupd t.c i _ x); rw [gupd_ne _ _ e]
  rw [e] at this
  exact this
theorem mtPut_put (t : MtT) (i : Nat) (x y : Nat → Int) : (t.put i x).put i y = t.put i y := by
  unfold MtT.put
  simp only [MtT.mk.injEq, true_and]
  funext j
  by_cases e : j = i
  · subst e; rw [gupd_same, gupd_same]
  · rw [gupd_ne _ _ e, gupd_ne _ _ e, gupd_ne _ _ e]
theorem mtPut_self (t : MtT) (i : Nat) : t.put i (t.c i) = t := by
  cases t with
  | mk n c =>
    show MtT.mk n (gupd c i (c i)) = _
    congr 1
    funext x
    by_cases e : x = i
    · subst e; exact gupd_same _ _ _
    · exact gupd_ne _ _ e
theorem mePay_ok {x : Nat → Int} (h : meOk x) (j : Nat) (hj : j < 9) (a p : Int) : meOk (mePay x j a p) := by
  unfold mePay
  split
  · rename_i e
    unfold mePayE at e
    split at e
    · omega
    · rename_i h1
      split at e
      · omega
      · rename_i h2
        have h3 : mtIn a ∧ mtIn p := by
          constructor <;> (apply Classical.byContradiction; intro q; simp [q] at h1)
        have h4 := in64_pow h3.1 h3.2
        obtain ⟨h5, h6, h7⟩ := h
        refine ⟨fun i => ?_, ?_, ?_⟩
        · by_cases e1 : i = j
          · subst e1; rw [gupd_same]; exact wr_in _
          · rw [gupd_ne _ _ e1]
            by_cases e2 : i = 9
            · subst e2; rw [gupd_same]; unfold In64; omega
            · rw [gupd_ne _ _ e2]; exact h5 i
        · rw [gupd_ne _ _ (by omega), gupd_same]; omega
        · rw [gupd_ne _ _ (by omega), gupd_same]; omega
  · exact h
theorem mtPut_ok (h : t.ok) (i : Nat) {x : Nat → Int} (hx : meOk x) : (t.put i x).ok := by
  refine ⟨h.1, h.2.1, fun j => ?_⟩
  show meOk (gupd t.c i x j)
  by_cases e : j = i
  · subst e; rw [gupd_same]; exact hx
  · rw [gupd_ne _ _ e]; exact h.2.2 j
theorem meter_within (n : Int) (w : World) : Calls Tryz.prog 311 #[.int .i64 n] w (Ret (.bool (decide (mtIn n))) w) := by
  unfold mtIn
  by_cases h : 0 ≤ n
  · go_enter Tryz.func311, Tryz.ntmps311
    go_wp2
    go_ret
    exact Ret.of (by simp [h]) (by repeat (first | exact Drew.refl _ | apply Drew.drewN | apply Drew.drew))
  · have e : decide (0 ≤ n ∧ n ≤ 2147483648) = false := by simp; omega
    rw [e]
    have h' : n < 0 := by omega
    go_enter Tryz.func311, Tryz.ntmps311
    go_wp2
    go_ret
    exact Ret.of (by simp) (by repeat (first | exact Drew.refl _ | apply Drew.drewN | apply Drew.drew))
theorem meter_find (h : On F w (mtL b r t) u) (cpu : Int) : Calls Tryz.prog 263 #[.pointer (some ⟨b, 0, none⟩), .int .i64 cpu] u (Ret (.tuple #[.pointer (if t.is cpu then some ⟨r, cpu.toNat * 10, none⟩ else none), .int .i64 (if t.is cpu then 0 else 3)]) u) := by
  have c0 : u.cell? ⟨b, 0, none⟩ = some (.slice (some ⟨r, 0, none⟩) t.n t.n) := h.cell 0 rfl 0
  by_cases hi : t.is cpu
  · rw [if_pos hi, if_pos hi]
    obtain ⟨h1, h2⟩ := hi
    obtain ⟨c, rfl⟩ := Int.eq_ofNat_of_zero_le h1
    simp only [Int.toNat_natCast]
    clear h
    go_enter Tryz.func263, Tryz.ntmps263
    go_wp2
    go_ret2
    exact Ret.of (by simp) (by repeat (first | exact Drew.refl _ | apply Drew.drewN | apply Drew.drew))
  · rw [if_neg hi, if_neg hi]
    have h2 : cpu < 0 ∨ (¬ cpu < 0 ∧ (t.n : Int) ≤ cpu) := by unfold MtT.is at hi; omega
    clear h hi
    rcases h2 with h2 | ⟨h1, h2⟩
    all_goals
      go_enter Tryz.func263, Tryz.ntmps263
      go_wp2
      go_ret2
      exact Ret.of (rfl) (by repeat (first | exact Drew.refl _ | apply Drew.drewN | apply Drew.drew))
set_option maxRecDepth 100000 in
set_option maxHeartbeats 1000000 in
theorem meter_pay (h : On F w (mtL b r t) u) (hok : t.ok) {c j : Nat} (hc : c < t.n) (hj : j < 9) (o : Nat) (ho : o = c * 10 + j) (a p : Int) : Calls Tryz.prog 264 #[.pointer (some ⟨r, c * 10, none⟩), .pointer (some ⟨r, o, none⟩), .int .i64 a, .int .i64 p] u (fun e u' => e = .returned (.int .i64 (mePayE (t.c c) a p)) ∧ On F w (mtL b r (t.put c (mePay (t.c c) j a p))) u') := by
  have hA := fun w => meter_within a w
  have hP := fun w => meter_within p w
  have hx := hok.2.2 c
  have c9 := h.mtC hc (j := 9) (by decide) (o := c * 10 + 9) rfl
  have cj := h.mtC hc (j := j) (by omega) (o := o) ho
  have f9 : u.frozen? ⟨r, c * 10 + 9, none⟩ = false := h.free 1 rfl _
  have fj : u.frozen? ⟨r, o, none⟩ = false := h.free 1 rfl _
  have hself := mtPut_self t c
  unfold mePay
  by_cases h1 : mtIn a
  case neg =>
    have e : mePayE (t.c c) a p = 2 := by unfold mePayE; rw [if_pos (.inl h1)]
    rw [e, if_neg (by decide), hself]
    rw [decide_eq_false h1] at hA
    clear hP hself h1 e cj
    have H := Lib.hid h
    clear h
    go_enter Tryz.func264, Tryz.ntmps264
    go_wp2_with (go_at_call 311; refine (hA _).mono ?_; rintro e w' ⟨rfl, k, rfl⟩)
    go_ret
    exact ⟨rfl, H.out.keep ((Mod.refl _ _).drewN _)⟩
  rw [decide_eq_true h1] at hA
  by_cases h2 : mtIn p
  case neg =>
    have e : mePayE (t.c c) a p = 2 := by unfold mePayE; rw [if_pos (.inr h2)]
    rw [e, if_neg (by decide), hself]
    rw [decide_eq_false h2] at hP
    clear hself h2 e cj h1
    have H := Lib.hid h
    clear h
    go_enter Tryz.func264, Tryz.ntmps264
    go_wp2_with (first
      | (go_at_call 311; refine (hA _).mono ?_; clear hA; rintro e w' ⟨rfl, k, rfl⟩)
      | (go_at_call 311; refine (hP _).mono ?_; rintro e w' ⟨rfl, k2, rfl⟩))
    go_ret
    exact ⟨rfl, H.out.keep (by first | exact (Mod.refl _ _).drewN _ | exact Mod.refl _ _)⟩
  rw [decide_eq_true h2] at hP
  have hb := in64_pow h1 h2
  obtain ⟨hb1, hb2⟩ := hb
  have hw : IntKind.i64.wrap (a * p) = a * p := by rw [IntKind.wrap_i64]; omega
  obtain ⟨hx1, hx2, hx3⟩ := hx
  have hN := fun w => numAdd (t.c c 9) (a * p) w (hx1 9) ⟨by omega, by omega⟩
  have hE : mePayE (t.c c) a p = if 4611686018427387904 < t.c c 9 + a * p then 16 else 0 := by unfold mePayE; rw [if_neg (by simp [h1, h2])]
  by_cases hs : 4611686018427387904 < t.c c 9 + a * p
  · rw [if_pos hs] at hE
    rw [hE, if_neg (by decide), hself]
    have H := Lib.hid h
    clear h hself h1 h2 cj hE hok
    by_cases hi : In64 (t.c c 9 + a * p)
    · rw [show addV (t.c c 9) (a * p) = t.c c 9 + a * p from if_pos hi, show addE (t.c c 9) (a * p) = 0 from if_pos hi] at hN
      obtain ⟨hi1, hi2⟩ := hi
      generalize t.c c 9 = x at *
      generalize hz : a * p = z at *
      go_enter Tryz.func264, Tryz.ntmps264
      go_wp2_with (first
        | (go_at_call 311; refine (hA _).mono ?_; clear hA; rintro e w' ⟨rfl, k, rfl⟩)
        | (go_at_call 311; refine (hP _).mono ?_; rintro e w' ⟨rfl, k2, rfl⟩)
        | (go_at_call 284; refine (hN _).mono ?_; rintro e w' ⟨rfl, k3, rfl⟩))
      go_ret
      exact ⟨rfl, H.out.keep (by first | exact (Mod.refl _ _).drewN _ | exact Mod.refl _ _)⟩
    · rw [show addV (t.c c 9) (a * p) = 0 from if_neg hi, show addE (t.c c 9) (a * p) = 16 from if_neg hi] at hN
      generalize t.c c 9 = x at *
      generalize hz : a * p = z at *
      clear hi
      go_enter Tryz.func264, Tryz.ntmps264
      go_wp2_with (first
        | (go_at_call 311; refine (hA _).mono ?_; clear hA; rintro e w' ⟨rfl, k, rfl⟩)
        | (go_at_call 311; refine (hP _).mono ?_; rintro e w' ⟨rfl, k2, rfl⟩)
        | (go_at_call 284; refine (hN _).mono ?_; rintro e w' ⟨rfl, k3, rfl⟩))
      go_ret
      exact ⟨rfl, H.out.keep (by first | exact (Mod.refl _ _).drewN _ | exact Mod.refl _ _)⟩
  · rw [if_neg hs] at hE
    rw [hE, if_pos rfl]
    have hi : In64 (t.c c 9 + a * p) := ⟨by omega, by omega⟩
    rw [show addV (t.c c 9) (a * p) = t.c c 9 + a * p from if_pos hi, show addE (t.c c 9) (a * p) = 0 from if_pos hi] at hN
    obtain ⟨hi1, hi2⟩ := hi
    have hpp := mtPut_put t c
    have H := Lib.hid h
    have ewr : IntKind.i64.wrap (t.c c j + a) = wr (t.c c j + a) := rfl
    subst ho
    have h9j : ¬ (9 = j) := by omega
    have hj9 : ¬ (j = 9) := by omega
    have HP := Lib.hid hpp
    clear h hself h1 h2 hE hok hpp
    have hfin : ∀ k, On F w (mtL b r (t.put c (gupd (gupd (t.c c) 9 (t.c c 9 + a * p)) j (wr (t.c c j + a))))) (((u.drewN k).setCell ⟨r, c * 10 + 9, none⟩ (.int .i64 (t.c c 9 + a * p))).setCell ⟨r, c * 10 + j, none⟩ (.int .i64 (wr (t.c c j + a)))) := by
      intro k
      have q := ((H.out.keep (u' := u.drewN k) ((Mod.refl _ _).drewN _)).mtSet hc (j := 9) (by decide) (t.c c 9 + a * p) (o := c * 10 + 9) rfl).mtSet hc (j := j) (by omega) (wr (t.c c j + a)) rfl
      rw [HP.out] at q
      have e : (t.put c (gupd (t.c c) 9 (t.c c 9 + a * p))).c c = gupd (t.c c) 9 (t.c c 9 + a * p) := gupd_same _ _ _
      rw [e] at q
      exact q
    replace hfin := Lib.hid hfin
    generalize t.c c j = y at *
    generalize t.c c 9 = x at *
    generalize hz : a * p = z at *
    have hyw := wr_in (y + a)
    generalize wr (y + a) = yw at *
    go_enter Tryz.func264, Tryz.ntmps264
    go_wp2_with (first
      | (go_at_call 311; refine (hA _).mono ?_; clear hA; rintro e w' ⟨rfl, k, rfl⟩)
      | (go_at_call 311; refine (hP _).mono ?_; rintro e w' ⟨rfl, k2, rfl⟩)
      | (go_at_call 284; refine (hN _).mono ?_; rintro e w' ⟨rfl, k3, rfl⟩))
    go_ret
    refine ⟨rfl, ?_⟩
    first
      | exact hfin.out _
      | simpa [ewr] using hfin.out _
theorem meter_Work (h : (mtR b t).holds F w) (cpu a p : Int) : Calls Tryz.prog 194 #[.pointer (some ⟨b, 0, none⟩), .int .i64 cpu, .int .i64 a, .int .i64 p] w (Turns (mtR b (t.work cpu a p)) F (.int .i64 (t.workE cpu a p)) w) := by
  obtain ⟨r, hok, hA⟩ := mt_view h
  have hF := meter_find hA cpu
  unfold MtT.work MtT.workE
  by_cases hi : t.is cpu
  · rw [if_pos hi, if_neg (by simpa using hi)]
    rw [if_pos hi, if_pos hi] at hF
    obtain ⟨h1, h2⟩ := hi
    obtain ⟨c, rfl⟩ := Int.eq_ofNat_of_zero_le h1
    simp only [MtT.at, Int.toNat_natCast] at *
    have hc : c < t.n := by omega
    have hp := fun k => meter_pay (hA.keep (u' := w.drewN k) ((Mod.refl _ _).drewN k)) hok hc (j := 0) (by omega) (c * 10) rfl a p
    have hok2 := mtPut_ok hok c (mePay_ok (hok.2.2 c) 0 (by omega) a p)
    clear h hA
    go_enter Tryz.func194, Tryz.ntmps194
    go_wp2_with (first
      | (go_at_call 263; refine hF.mono ?_; rintro e w' ⟨rfl, k, rfl⟩)
      | (go_at_call 264; refine (hp _).mono ?_; rintro e w2 ⟨rfl, hB⟩))
    go_ret
    exact ⟨rfl, hB.mt hok2⟩
  · rw [if_neg hi, if_pos hi]
    rw [if_neg hi, if_neg hi] at hF
    clear h hi
    go_enter Tryz.func194, Tryz.ntmps194
    go_wp2_with (go_at_call 263; refine hF.mono ?_; rintro e w' ⟨rfl, k, rfl⟩)
    go_ret
    exact ⟨rfl, (hA.keep ((Mod.refl _ _).drewN k)).mt hok⟩
theorem meter_Rest (h : (mtR b t).holds F w) (cpu way a p : Int) : Calls Tryz.prog 193 #[.pointer (some ⟨b, 0, none⟩), .int .i64 cpu, .int .i64 way, .int .i64 a, .int .i64 p] w (Turns (mtR b (t.rest cpu way a p)) F (.int .i64 (t.restE cpu way a p)) w) := by
  obtain ⟨r, hok, hA⟩ := mt_view h
  have hF := meter_find hA cpu
  by_cases hi : t.is cpu
  · rw [if_pos hi, if_pos hi] at hF
    by_cases hw : way < 0 ∨ 8 ≤ way
    · rw [show t.rest cpu way a p = t from if_neg (fun x => x.2 hw), show t.restE cpu way a p = 3 by unfold MtT.restE; rw [if_neg (fun x => x hi), if_pos hw]]
      have hB := Lib.hid (fun k => (hA.keep (u' := w.drewN k) ((Mod.refl _ _).drewN k)).mt hok)
      clear h hA
      have h2 : way < 0 ∨ (¬ way < 0 ∧ 8 ≤ way) := by omega
      clear hw
      rcases h2 with h2 | ⟨h1, h2⟩
      all_goals
        go_enter Tryz.func193, Tryz.ntmps193
        go_wp2_with (go_at_call 263; refine hF.mono ?_; rintro e w' ⟨rfl, k, rfl⟩)
        go_ret
        exact ⟨rfl, hB.out _⟩
    · rw [show t.rest cpu way a p = _ from if_pos ⟨hi, hw⟩, show t.restE cpu way a p = mePayE (t.at cpu) a p by unfold MtT.restE; rw [if_neg (fun x => x hi), if_neg hw]]
      obtain ⟨h1, h2⟩ := hi
      obtain ⟨c, rfl⟩ := Int.eq_ofNat_of_zero_le h1
      obtain ⟨v, rfl⟩ := Int.eq_ofNat_of_zero_le (show 0 ≤ way by omega)
      simp only [MtT.at, Int.toNat_natCast] at *
      have hc : c < t.n := by omega
      have hv : v < 8 := by omega
      have hvI : (v : Int) < 8 := by omega
      have hp := fun k => meter_pay (hA.keep (u' := w.drewN k) ((Mod.refl _ _).drewN k)) hok hc (j := 1 + v) (by omega) (c * 10 + 1 + v) (by omega) a p
      have hok2 := mtPut_ok hok c (mePay_ok (hok.2.2 c) (1 + v) (by omega) a p)
      clear h hA hw
      go_enter Tryz.func193, Tryz.ntmps193
      go_wp2_with (first
        | (go_at_call 263; refine hF.mono ?_; rintro e w' ⟨rfl, k, rfl⟩)
        | (go_at_call 264; refine (hp _).mono ?_; rintro e w2 ⟨rfl, hB⟩))
      go_ret
      exact ⟨rfl, hB.mt hok2⟩
  · rw [show t.rest cpu way a p = t from if_neg (fun x => hi x.1), show t.restE cpu way a p = 3 from if_pos hi]
    rw [if_neg hi, if_neg hi] at hF
    clear h hi
    go_enter Tryz.func193, Tryz.ntmps193
    go_wp2_with (go_at_call 263; refine hF.mono ?_; rintro e w' ⟨rfl, k, rfl⟩)
    go_ret
    exact ⟨rfl, (hA.keep ((Mod.refl _ _).drewN k)).mt hok⟩
end
theorem infoMe : (Tryz.prog.info? 326).map (fun i => (i.zero.map Value.cells, i.size)) = some (some (meV fun _ => 0).toArray, 10) := by kernel_rfl
theorem infoMeB : ((Tryz.prog.info? 326).map (fun i => decide (i.bytes ≤ 1000))) = some true := by kernel_rfl
theorem make_mts (n : Nat) (h2 : n ≤ 64) (w : World) : (Instr.makeSlice 204 (.int .i64 n) (.int .i64 n)).run Tryz.prog w = .ok (.slice (some ⟨w.heap.size, 0, none⟩) n n) (w.alloc (.cells (blkV [] n (fun _ => meV fun _ => 0) []) 326 (0,0))) := by
  obtain ⟨i, hi, hzz⟩ := Option.map_eq_some_iff.1 infoMe
  obtain ⟨i2, hi2, hb⟩ := Option.map_eq_some_iff.1 infoMeB
  have : i2 = i := by rw [hi] at hi2; exact (Option.some.inj hi2).symm
  subst this
  simp only [Prod.mk.injEq] at hzz
  obtain ⟨hz, hs⟩ := hzz
  obtain ⟨z, hz1, hz2⟩ := Option.map_eq_some_iff.1 hz
  have hb2 := of_decide_eq_true hb
  have := Go.run_make (P := Tryz.prog) w 204 326 i2 z Tryz.underlying204 hi hz1 .i64 .i64 n n (by omega) (by omega) (by have : (i2.bytes : Int) * n ≤ 1000 * 64 := Int.mul_le_mul (by omega) (by omega) (by omega) (by omega); omega) (by omega)
  rw [this, Int.toNat_natCast, hs, hz2]
  rw [made_grid' (meV fun _ => 0) 10 (meV_len _) (by decide) n]
theorem mt0_ok {n : Nat} (h1 : 1 ≤ n) (h2 : n ≤ 64) : (mt0 n).ok := ⟨h1, h2, fun i => ⟨fun j => in64_0, Int.le_refl _, by show (0 : Int) ≤ _; decide⟩⟩
theorem meter_New (n : Nat) (h1 : 1 ≤ n) (h2 : n ≤ 64) (w : World) : Calls Tryz.prog 66 #[.int .i64 n] w (TurnsV (fun d : Nat => .tuple #[.pointer (some ⟨d, 0, none⟩), .int .i64 0]) (fun d => mtR d (mt0 n)) [] w) := by
  have hmk := fun w => make_mts n h2 w
  have hB : On [] w (mtL (w.heap.size + 1) w.heap.size (mt0 n)) ((w.alloc (.cells (blkV [] n (fun _ => meV fun _ => 0) []) 326 (0,0))).alloc (.cells #[.slice (some ⟨w.heap.size, 0, none⟩) n n] 206 (0,0))) := by
    have x1 := (On.start w).alloc (.cells (blkV [] n (fun _ => meV fun _ => 0) []) 326 (0,0))
    have x2 := (x1.alloc (.cells #[.slice (some ⟨w.heap.size, 0, none⟩) n n] 206 (0,0))).front
    simpa [mtL, mt0] using x2
  have hlen : (w.alloc (.cells (blkV [] n (fun _ => meV fun _ => 0) []) 326 (0,0))).heap.size = w.heap.size + 1 := sizeNew _ _
  have HB := Lib.hid hB
  clear hB
  go_enter Tryz.func66, Tryz.ntmps66
  go_wp2
  go_ret2
  refine ⟨w.heap.size + 1, by simp, ?_⟩
  exact On.mt HB.out (mt0_ok h1 h2)
end Go.Proofs.YtaakgpnmfkmdoaaGreatDoor

/- The walks over the governor: Busy, Freq, Feed. No condition but those named. -/
namespace Go.Proofs.YtaakgpnmfkmdoaaGreatDoor
set_option linter.unusedVariables false
set_option linter.unusedSimpArgs false
open Go.RowKit

def sumN (f : Nat → Int) : Nat → Int
  | 0 => 0
  | j + 1 => sumN f j + f j
theorem sumN_bd {f : Nat → Int} (h : ∀ i, 0 ≤ f i ∧ f i ≤ 1099511627776) : ∀ j : Nat, 0 ≤ sumN f j ∧ sumN f j ≤ 1099511627776 * j
  | 0 => by simp [sumN]
  | j + 1 => by
    have := sumN_bd h j
    have := h j
    unfold sumN
    omega
theorem govV_index (g : GovS) {i : Nat} (hi : i < 4) (w : World) : (Instr.index 210 (.agg (gridV 4 (govV g)).toArray) (.int .i64 i)).run Tryz.prog w = .ok (.agg #[.int .i64 (g.busy i), .int .i64 (g.all i)]) w := by
  have h1 : ((i : Nat) : Int) < 4 := by omega
  have hu := Tryz.underlying210
  have e := grid_extract (f := govV g) (k := 2) (fun _ => rfl) hi
  simp [Instr.index, asIntOf, Sem.run_bind, run_underlying hu, part, Tryz.isAgg209, Tryz.sizeOf209, h1, Result.andThen]
  rw [if_pos hi]
  have e2 := e
  simp at e2
  rw [e2]
  rfl
section
variable {F : List Nat} {w u : World} {b : Nat} {g : GovS}
theorem gov_range (h : On F w [Res.blk b (govObj g)] u) : u.rangeAt b 2 (gridV 4 (govV g)) ∧ (Tryz.prog.info? 210).map (·.size) = some (gridV 4 (govV g)).length := by
  constructor
  · intro j v hj
    have hl := gridV_len (k := 2) (f := govV g) (fun _ => rfl) 4
    have hlt : j < 8 := by have := (List.getElem?_eq_some_iff.1 hj).1; omega
    have h1 := h.govC (i := j / 2) (by omega) (j % 2) (by omega) (o := 2 + j) (by omega)
    have h2 := gridV_get (k := 2) (f := govV g) (fun _ => rfl) (i := j / 2) (j := j % 2) (by omega) 4 (by omega)
    have e : j / 2 * 2 + j % 2 = j := by omega
    rw [e, hj] at h2
    rw [h1, ← h2]
  · have : (Tryz.prog.info? 210).map (·.size) = some 8 := by kernel_rfl
    rw [this, gridV_len (k := 2) (fun _ => rfl)]
set_option maxRecDepth 100000 in
set_option maxHeartbeats 1000000 in
theorem freq_Busy (h : (govR b g).holds F w) : Calls Tryz.prog 310 #[.pointer (some ⟨b, 0, none⟩)] w (fun e w' => e = .returned (.int .i64 g.busyV) ∧ Mod [] w w') := by
  obtain ⟨hok, hA⟩ := gov_view h
  obtain ⟨hrg, hinf⟩ := gov_range hA
  have hrg := fun (w' : World) (m : Mod [] w w') => (gov_range (hA.keep m)).1
  have hix := fun (i : Nat) (hi : i < 4) (w : World) => govV_index g hi w
  have hbd := fun j => sumN_bd (f := g.busy) (fun i => ⟨(hok.2.1 i).1, by have := hok.2.1 i; omega⟩) j
  have had := fun j => sumN_bd (f := g.all) (fun i => ⟨by have := hok.2.1 i; omega, by have := hok.2.1 i; omega⟩) j
  have hpc := fun w => num_Percent (sumN g.busy 4) (sumN g.all 4) (by have := hbd 4; omega) ⟨by have := had 4; omega, by have := had 4; omega⟩ w
  have hV : pctV (sumN g.busy 4) (sumN g.all 4) = g.busyV := by
    unfold GovS.busyV
    simp [sumN]
  rw [hV] at hpc
  generalize g.busyV = V at *
  generalize hAA : gridV 4 (govV g) = A at *
  have hb1 := fun i => hok.2.1 i
  clear hA h hok hAA hV
  go_enter Tryz.func310, Tryz.ntmps310
  go_wp2_with (refine wpList_load_mid rfl 210 _ rfl b 2 rfl A _ (hrg _ (by repeat (first | with_reducible exact Mod.refl _ _ | with_reducible apply Mod.alloc | with_reducible apply Mod.drewN))) Tryz.underlying210 rfl hinf ?_)
  clear hrg hinf
  go_loopg [12] 4 (fun gg i wr => ∃ j : Nat, i = .int .i64 j ∧ j + gg = 4 ∧ wr.heap[w.heap.size]? = some (.cells #[.int .i64 (sumN g.busy j), .int .i64 (sumN g.all j)] 209 (0,0)) ∧ Mod [] w wr)
  case atStart => exact ⟨0, rfl, by omega, heapNew _ _, (Mod.refl _ _).alloc _⟩
  case round =>
    obtain ⟨j, rfl, hj, hS, m⟩ := hrel
    have c0 : wr.cell? ⟨w.heap.size, 0, none⟩ = some (.int .i64 (sumN g.busy j)) := cellAt hS 0
    have c1 : wr.cell? ⟨w.heap.size, 1, none⟩ = some (.int .i64 (sumN g.all j)) := cellAt hS 1
    have f0 : wr.frozen? ⟨w.heap.size, 0, none⟩ = false := freeAt hS 0
    have f1 : wr.frozen? ⟨w.heap.size, 1, none⟩ = false := freeAt hS 1
    have s0 := ltOf hS
    by_cases hlt : j < 4
    · have hltI : (j : Int) < 4 := by omega
      have hx := fun w => hix j hlt w
      have e1 : sumN g.busy (j + 1) = sumN g.busy j + g.busy j := rfl
      have e2 : sumN g.all (j + 1) = sumN g.all j + g.all j := rfl
      obtain ⟨b1, b2⟩ := hbd j
      obtain ⟨a1, a2⟩ := had j
      obtain ⟨x1, x2, x3⟩ := hb1 j
      have HE := Lib.hid (And.intro e1 e2)
      have HS := Lib.hid hS
      clear hix hbd had hb1 e1 e2 hS hpc
      generalize sumN g.busy j = sb at *
      generalize sumN g.all j = sa at *
      generalize g.busy j = y at *
      generalize g.all j = z at *
      have hne : ¬ (wr.heap.size = w.heap.size) := by omega
      have hne2 : ¬ (w.heap.size = wr.heap.size) := by omega
      go_wp2
      go_roundg (gk - 1)
      case measure => omega
      case rel =>
        refine ⟨j + 1, by go_num, by omega, ?_, ?_⟩
        · rw [HE.out.1, HE.out.2]
          have := heapOld (o := Obj.cells #[.int .i64 y, .int .i64 z] 209 (0,0)) (heapSet (heapSet HS.out 0 (.int .i64 (sb + y))) 1 (.int .i64 (sa + z)))
          simpa using this
        · exact ((m.setCell (.inr (Nat.le_refl _)) _).setCell (.inr (Nat.le_refl _)) _).alloc _
    · obtain rfl : j = 4 := by omega
      have HS := Lib.hid hS
      clear hix hbd had hb1 hS
      generalize sumN g.busy 4 = sb at *
      generalize sumN g.all 4 = sa at *
      go_wp2_with (go_at_call 340; refine (hpc _).mono ?_; rintro e w' ⟨rfl, k, rfl⟩)
      go_ret
      exact ⟨rfl, m.drewN _⟩
theorem freq_Freq (h : (govR b g).holds F w) : Calls Tryz.prog 262 #[.pointer (some ⟨b, 0, none⟩)] w (fun e w' => e = .returned (.int .i64 g.freqV) ∧ Mod [] w w') := by
  have hL := freq_Limits h
  have hB := fun w' (m : Mod [] w w') => freq_Busy ((govR b g).keep h m (by simp))
  obtain ⟨⟨h1, h2, h3⟩, _⟩ := h.1
  have hS := fun w => num_Scale g.low g.high g.busyV (by omega) (by omega) (by omega) (by omega) w
  unfold GovS.freqV
  generalize scaleV g.low g.high g.busyV = V at *
  clear h h1 h2 h3
  go_enter Tryz.func262, Tryz.ntmps262
  go_wp2_with (first
    | (go_at_call 308; refine hL.mono ?_; rintro e w' ⟨rfl, k, rfl⟩)
    | (go_at_call 310; refine (hB _ (by repeat (first | with_reducible exact Mod.refl _ _ | with_reducible apply Mod.alloc | with_reducible apply Mod.drewN))).mono ?_; rintro e w2 ⟨rfl, m2⟩)
    | (go_at_call 309; refine (hS _).mono ?_; rintro e w' ⟨rfl, k3, rfl⟩))
  go_ret
  exact ⟨rfl, (m2.undrewN).drewN _⟩
theorem On.govFeed (h : On F w [Res.blk b (govObj g)] u) {i : Nat} (hi : i < 4) (x y : Int) : On F w [Res.blk b (govObj { g with busy := gupd g.busy i x, all := gupd g.all i y })] ((u.setCell ⟨b, 2 + i * 2, none⟩ (.int .i64 x)).setCell ⟨b, 2 + i * 2 + 1, none⟩ (.int .i64 y)) := by
  have q := h.set 0 rfl (2 + i * 2) (.int .i64 x)
  rw [blkV_set (k := 2) (f := govV g) (pre := [.int .i64 g.low, .int .i64 g.high]) (fun _ => rfl) hi (j := 0) (by decide) _ (o := 2 + i * 2) (by simp)] at q
  have hl2 : ∀ j, (gupd (govV g) i ((govV g i).set 0 (.int .i64 x)) j).length = 2 := by
    intro j; unfold gupd; split <;> rfl
  have q2 := q.set 0 rfl (2 + i * 2 + 1) (.int .i64 y)
  rw [blkV_set (k := 2) (pre := [.int .i64 g.low, .int .i64 g.high]) hl2 hi (j := 1) (by decide) _ (o := 2 + i * 2 + 1) (by simp; omega)] at q2
  have e : gupd (gupd (govV g) i ((govV g i).set 0 (.int .i64 x))) i ((gupd (govV g) i ((govV g i).set 0 (.int .i64 x)) i).set 1 (.int .i64 y)) = govV { g with busy := gupd g.busy i x, all := gupd g.all i y } := by
    funext j
    by_cases e : j = i
    · subst e; simp [gupd_same, govV]
    · simp [gupd_ne _ _ e, govV]
  rw [e] at q2
  exact q2
theorem On.govAt' (h : On F w [Res.blk b (govObj g)] u) (n : Nat) : On F w [Res.blk b (govObj { g with at' := n })] (u.setCell ⟨b, 10, none⟩ (.int .i64 (n : Nat))) := by
  have q := h.set 0 rfl 10 (.int .i64 (n : Nat))
  rw [blkV_setPost (k := 2) (n := 4) (f := govV g) (pre := [.int .i64 g.low, .int .i64 g.high]) (fun _ => rfl) (j := 0) _ (o := 10) (by simp)] at q
  exact q
theorem feed_ok (hok : g.ok) (x y : Int) : (g.feed x y).ok := by
  unfold GovS.feed
  split
  · rename_i e
    unfold GovS.feedE at e
    split at e
    · omega
    · rename_i h1
      refine ⟨hok.1, fun i => ?_, Nat.mod_lt _ (by decide)⟩
      show 0 ≤ gupd g.busy g.at' x i ∧ gupd g.busy g.at' x i ≤ gupd g.all g.at' y i ∧ gupd g.all g.at' y i ≤ _
      by_cases e2 : i = g.at'
      · subst e2; rw [gupd_same, gupd_same]; omega
      · rw [gupd_ne _ _ e2, gupd_ne _ _ e2]; exact hok.2.1 i
  · exact hok
set_option maxRecDepth 100000 in
set_option maxHeartbeats 1000000 in
theorem freq_Feed (h : (govR b g).holds F w) (x y : Int) : Calls Tryz.prog 192 #[.pointer (some ⟨b, 0, none⟩), .int .i64 x, .int .i64 y] w (Turns (govR b (g.feed x y)) F (.tuple #[.int .i64 (g.feedV x y), .int .i64 (g.feedE x y)]) w) := by
  obtain ⟨hok, hA⟩ := gov_view h
  have hok2 := feed_ok hok x y
  by_cases h1 : x < 0 ∨ y < x ∨ 1099511627776 < y
  · have e : g.feedE x y = 2 := if_pos h1
    rw [show g.feed x y = g by unfold GovS.feed; rw [if_neg (by rw [e]; decide)], show g.feedV x y = 0 by unfold GovS.feedV; rw [if_neg (by rw [e]; decide)], e]
    have h2 : x < 0 ∨ (¬ x < 0 ∧ y < x) ∨ (¬ x < 0 ∧ ¬ y < x ∧ 1099511627776 < y) := by omega
    have H := Lib.hid (hA.gov hok)
    clear h hA h1 e hok2
    rcases h2 with h2 | ⟨h2, h3⟩ | ⟨h2, h3, h4⟩
    all_goals
      go_enter Tryz.func192, Tryz.ntmps192
      go_wp2
      go_ret2
      exact ⟨rfl, H.out⟩
  · have e : g.feedE x y = 0 := if_neg h1
    have eF : g.feed x y = { g with busy := gupd g.busy g.at' x, all := gupd g.all g.at' y, at' := (g.at' + 1) % 4 } := if_pos e
    rw [show g.feedV x y = (g.feed x y).freqV from if_pos e, e]
    have c10 := hA.govAt
    have hat := hok.2.2
    have hfr := fun w' (hg : Gain (govR b (g.feed x y)) F w w') => freq_Freq hg.choose_spec.1
    have f10 : w.frozen? ⟨b, 10, none⟩ = false := hA.free 0 rfl 10
    have d0 := hA.govC hat 0 (by decide) (o := 2 + g.at' * 2) rfl
    have d1 := hA.govC hat 1 (by decide) (o := 2 + g.at' * 2 + 1) rfl
    have q0 : w.frozen? ⟨b, 2 + g.at' * 2, none⟩ = false := hA.free 0 rfl _
    have q1 : w.frozen? ⟨b, 2 + g.at' * 2 + 1, none⟩ = false := hA.free 0 rfl _
    simp only [govV, List.getElem?_cons_zero, List.getElem?_cons_succ] at d0 d1
    have h2 : ¬ x < 0 := by omega
    have h3 : ¬ y < x := by omega
    have h4 : ¬ 1099511627776 < y := by omega
    have HA := Lib.hid hA
    have HEF := Lib.hid eF
    generalize (g.feed x y).freqV = V at *
    clear h hA h1 e eF
    go_enter Tryz.func192, Tryz.ntmps192
    go_wp2
    go_region
    have hB : On F w [Res.blk b (govObj { g with busy := gupd g.busy g.at' x, all := gupd g.all g.at' y })] (((w.setCell ⟨b, 2 + g.at' * 2, none⟩ (.int .i64 x)).setCell ⟨b, 2 + g.at' * 2 + 1, none⟩ (.int .i64 y)).drew) := (HA.out.govFeed hat x y).keep (Mod.refl _ _).drew
    have k10 := hB.govAt
    have g10 : (((w.setCell ⟨b, 2 + g.at' * 2, none⟩ (.int .i64 x)).setCell ⟨b, 2 + g.at' * 2 + 1, none⟩ (.int .i64 y)).drew).frozen? ⟨b, 10, none⟩ = false := hB.free 0 rfl 10
    have hC := hB.govAt' ((g.at' + 1) % 4)
    have hfr2 := hfr _ (by rw [HEF.out]; rw [HEF.out] at hok2; exact hC.gov hok2)
    have hF2 := hC.gov (by rw [HEF.out] at hok2; exact hok2)
    have z10 := hB.size 0 rfl
    clear hB hC hfr c10 f10 d0 d1 q0 q1
    generalize ((w.setCell ⟨b, 2 + g.at' * 2, none⟩ (.int .i64 x)).setCell ⟨b, 2 + g.at' * 2 + 1, none⟩ (.int .i64 y)).drew = W1 at *
    have eA : (((g.at' + 1) % 4 : Nat) : Int) = ((g.at' : Nat) + 1 : Int) % 4 := by omega
    rw [eA] at hfr2 hF2
    clear eA
    have HF2 := Lib.hid hF2
    clear hF2
    dsimp only at *
    generalize g.at' = at0 at *
    go_wp2_with (go_at_call 262; refine hfr2.mono ?_; rintro e w2 ⟨rfl, m2⟩)
    go_ret2
    rw [HEF.out]
    obtain ⟨F', q1, q2, q3⟩ := HF2.out
    exact ⟨rfl, F', (govR b _).keep q1 m2 (by simp), q2.trans m2 (by simp), q3⟩
end
end Go.Proofs.YtaakgpnmfkmdoaaGreatDoor

/- Ways to rest (package idle); the walks over Predict and Choose at the table. No condition but those named. -/
namespace Go.Proofs.YtaakgpnmfkmdoaaGreatDoor
set_option linter.unusedVariables false
set_option linter.unusedSimpArgs false
open Go.RowKit

theorem idle_Predict (now due : Int) (hn : In64 now) (hd : In64 due) (known : Bool) (w : World) : Calls Tryz.prog 179 #[.int .i64 now, .int .i64 due, .bool known] w (Ret (.int .i64 (predictW now due known)) w) := by
  obtain ⟨hn1, hn2⟩ := hn
  obtain ⟨hd1, hd2⟩ := hd
  unfold predictW
  cases known
  · rw [if_pos rfl]
    go_enter Tryz.func179, Tryz.ntmps179
    go_wp2
    go_ret
    exact Ret.of (rfl) (by repeat (first | exact Drew.refl _ | apply Drew.drewN | apply Drew.drew))
  · rw [if_neg (by decide)]
    by_cases h1 : now < 0
    · rw [if_pos (.inl h1)]
      go_enter Tryz.func179, Tryz.ntmps179
      go_wp2
      go_ret
      exact Ret.of (rfl) (by repeat (first | exact Drew.refl _ | apply Drew.drewN | apply Drew.drew))
    by_cases h2 : due ≤ now
    · rw [if_pos (.inr h2)]
      go_enter Tryz.func179, Tryz.ntmps179
      go_wp2
      go_ret
      exact Ret.of (rfl) (by repeat (first | exact Drew.refl _ | apply Drew.drewN | apply Drew.drew))
    rw [if_neg (by omega)]
    have e : min (due - now) 1073741824 = if due - now ≤ 1073741824 then due - now else 1073741824 := by
      split <;> omega
    rw [e]
    by_cases h3 : due - now ≤ 1073741824
    · rw [if_pos h3]
      go_enter Tryz.func179, Tryz.ntmps179
      go_wp2
      go_ret
      refine ⟨?_, by repeat (first | exact Drew.refl _ | apply Drew.drewN | apply Drew.drew)⟩
      first | rfl | simp [h3] | (simp; omega)
    · rw [if_neg h3]
      go_enter Tryz.func179, Tryz.ntmps179
      go_wp2
      go_ret
      refine ⟨?_, by repeat (first | exact Drew.refl _ | apply Drew.drewN | apply Drew.drew)⟩
      first | rfl | simp [h3] | (simp; omega)
/-- The table lies at a. -/
def WaysAt (w : World) (g : Nat) : Prop := ∀ i, i < 4 → w.cell? ⟨g, i * 3, none⟩ = some (.int .i64 (wayOf i).1) ∧ w.cell? ⟨g, i * 3 + 1, none⟩ = some (.int .i64 (wayOf i).2.1) ∧ w.cell? ⟨g, i * 3 + 2, none⟩ = some (.int .i64 (wayOf i).2.2)
theorem idle_Table (w : World) : Calls Tryz.prog 182 #[] w (fun e w' => ∃ g, e = .returned (.slice (some ⟨g, 0, none⟩) 4 4) ∧ Mod [] w w' ∧ w.heap.size ≤ g ∧ WaysAt w' g) := by
  go_enter Tryz.func182, Tryz.ntmps182
  go_wp2
  go_ret
  refine ⟨w.heap.size, rfl, ?_, Nat.le_refl _, ?_⟩
  · repeat (first | with_reducible exact Mod.refl _ _ | with_reducible apply Mod.alloc | with_reducible apply Mod.drewN | with_reducible apply Mod.drew | with_reducible refine Mod.setCell ?_ (by first | (simp; done) | (simp; omega)) _)
  · intro i hi
    have h : i = 0 ∨ i = 1 ∨ i = 2 ∨ i = 3 := by omega
    rcases h with rfl | rfl | rfl | rfl <;> refine ⟨?_, ?_, ?_⟩ <;> simp [wayOf, ways]
end Go.Proofs.YtaakgpnmfkmdoaaGreatDoor
