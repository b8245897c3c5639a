/- Rows of whole numbers in memory, read and written by index. No condition. -/
import Derived.Test.YthieionajemjhaaDoorNum
import Derived.Deep.LoopGhost
import Derived.Deep.OwnRows
namespace Go.Proofs.YthieionajemjhaaDoor
set_option linter.unusedVariables false
set_option linter.unusedSimpArgs false
open Go.RowKit

/-- Number i of a list; 0 behind its end. -/
def nth (l : List Int) (i : Nat) : Int := l.getD i 0
/-- The cells of a row that holds the whole numbers l. -/
def rowI (k : IntKind) (l : List Int) : Array Value := (l.map (Value.int k)).toArray
theorem rowI_size (k : IntKind) (l : List Int) : (rowI k l).size = l.length := by simp [rowI]
theorem rowI_get {k : IntKind} {l : List Int} {i : Nat} (h : i < l.length) : (rowI k l)[i]? = some (.int k (nth l i)) := by
  simp [rowI, nth, List.getD, h]
theorem rowI_set {k : IntKind} {l : List Int} (i : Nat) (v : Int) : (rowI k l).setIfInBounds i (.int k v) = rowI k (l.set i v) := by
  apply Array.ext_getElem?
  intro j
  rw [Array.getElem?_setIfInBounds]
  simp only [rowI, List.getElem?_toArray, List.getElem?_map, List.getElem?_set, List.size_toArray, List.length_map]
  by_cases e : i = j
  · subst e
    by_cases h : i < l.length <;> simp [h]
  · simp [e]
theorem rowI_made (k : IntKind) (n : Nat) : madeCells #[.int k 0] n = rowI k (List.replicate n 0) := by
  apply Array.ext_getElem?
  intro j
  by_cases h : j < n
  · simp [madeCells, rowI, Nat.mod_one, h]
  · simp [madeCells, rowI, h]
theorem nth_set {l : List Int} {i j : Nat} {v : Int} (h : i < l.length) : nth (l.set i v) j = if i = j then v else nth l j := by
  simp only [nth, List.getD, List.getElem?_set]
  by_cases e : i = j
  · subst e; simp [h]
  · simp [e]
theorem nth_rep (n i : Nat) : nth (List.replicate n 0) i = 0 := by
  simp only [nth, List.getD, List.getElem?_replicate]
  split <;> rfl
theorem sum_set : ∀ (l : List Int) (i : Nat) (v : Int), i < l.length → (l.set i v).sum = l.sum - nth l i + v
  | [], i, v, h => by simp at h
  | a :: l, 0, v, h => by simp [nth]; omega
  | a :: l, i + 1, v, h => by
    have := sum_set l i v (by simpa using h)
    simp only [List.set_cons_succ, List.sum_cons, this]
    simp [nth]
    omega

end Go.Proofs.YthieionajemjhaaDoor
