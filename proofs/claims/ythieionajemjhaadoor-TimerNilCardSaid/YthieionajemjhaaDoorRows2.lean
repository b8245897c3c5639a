/- Slices of structs (or of anything of more than one cell) that one object owns: nil, or a block of cells with room behind; what append does. No condition but those named. -/
import Derived.Test.YthieionajemjhaaDoorRow
import Derived.Deep.AppendLies
import Derived.Deep.LoopGhost
namespace Go.Proofs.YthieionajemjhaaDoor
set_option linter.unusedVariables false
set_option linter.unusedSimpArgs false
open Go.RowKit

def rA : Option Nat → Option Addr
  | none => none
  | some g => some ⟨g, 0, none⟩
def rF : Option Nat → List Nat
  | none => []
  | some g => [g]
/-- The slice with block g and capacity cap of elements of sz cells of type T holds n elements, whose cells are xs. -/
def RAt (T : TypeId) (sz : Nat) (w : World) (g : Option Nat) (cap n : Nat) (xs : List Value) : Prop :=
  xs.length = n * sz ∧ match g with
  | none => n = 0 ∧ cap = 0
  | some g => ∃ cur : Array Value, w.heap[g]? = some (.cells cur T (0,0)) ∧ n ≤ cap ∧ cap ≤ maxLen ∧ cur.size = cap * sz ∧ cur.toList.take (n * sz) = xs
theorem RAt.nil (T : TypeId) (sz : Nat) (w : World) : RAt T sz w none 0 0 [] := ⟨by simp, rfl, rfl⟩
theorem RAt.keep {T : TypeId} {sz : Nat} {S : List Nat} {w w' : World} {g : Option Nat} {cap n : Nat} {xs : List Value} (h : RAt T sz w g cap n xs) (m : Mod S w w') (hS : ∀ k, k ∈ rF g → k ∉ S) : RAt T sz w' g cap n xs := by
  cases g with
  | none => exact h
  | some g =>
    obtain ⟨h0, cur, h1, h2⟩ := h
    exact ⟨h0, cur, m.keep h1 (hS g (by simp [rF])), h2⟩
theorem RAt.same {T : TypeId} {sz : Nat} {w w' : World} {g : Option Nat} {cap n : Nat} {xs : List Value} (h : RAt T sz w g cap n xs) (e : w'.heap = w.heap) : RAt T sz w' g cap n xs := by
  cases g with
  | none => exact h
  | some g =>
    obtain ⟨h0, cur, h1, h2⟩ := h
    exact ⟨h0, cur, by rw [e]; exact h1, h2⟩
theorem RAt.lt {T : TypeId} {sz : Nat} {w : World} {g : Option Nat} {cap n : Nat} {xs : List Value} (h : RAt T sz w g cap n xs) : ∀ k, k ∈ rF g → k < w.heap.size := by
  cases g with
  | none => simp [rF]
  | some g =>
    obtain ⟨h0, cur, h1, h2⟩ := h
    intro k hk
    simp [rF] at hk
    subst hk
    exact ltOf h1
theorem RAt.cap {T : TypeId} {sz : Nat} {w : World} {g : Option Nat} {cap n : Nat} {xs : List Value} (h : RAt T sz w g cap n xs) : n ≤ cap ∧ cap ≤ maxLen := by
  cases g with
  | none => obtain ⟨_, rfl, rfl⟩ := h; simp
  | some g =>
    obtain ⟨h0, cur, h1, h2, h3, _⟩ := h
    exact ⟨h2, h3⟩
/-- It has a block, where it holds something; cell j of it. -/
theorem RAt.cell {T : TypeId} {sz : Nat} {w : World} {g : Option Nat} {cap n : Nat} {xs : List Value} (h : RAt T sz w g cap n xs) {j : Nat} {v : Value} (hj : xs[j]? = some v) : ∃ b, g = some b ∧ w.cell? ⟨b, j, none⟩ = some v := by
  have hlt : j < xs.length := (List.getElem?_eq_some_iff.1 hj).1
  cases g with
  | none =>
    obtain ⟨h0, rfl, rfl⟩ := h
    omega
  | some g =>
    obtain ⟨h0, cur, h1, h2, h3, h4, h5⟩ := h
    refine ⟨g, rfl, (cellAt h1 j).trans ?_⟩
    have hlt2 : j < n * sz := by omega
    rw [← h5, List.getElem?_take, if_pos hlt2] at hj
    simpa using hj
theorem RAt.owns {T : TypeId} {sz : Nat} {w : World} {g : Option Nat} {cap n : Nat} {xs : List Value} (h : RAt T sz w g cap n xs) : w.ownsRow 0 T sz (.slice (rA g) n cap) n xs := by
  refine ⟨h.1, ?_⟩
  cases g with
  | none => obtain ⟨_, rfl, rfl⟩ := h; exact .inl ⟨rfl, rfl⟩
  | some g =>
    obtain ⟨h0, cur, h1, h2, h3, h4, h5⟩ := h
    exact .inr ⟨g, cap, cur, rfl, by omega, h1, h2, h3, by omega, h5⟩

/-- append of one element. -/
theorem RAt.append {P : Program} {T tt : TypeId} {sz bytes : Nat} {w : World} {g : Option Nat} {cap n : Nat} {xs : List Value} (h : RAt T sz w g cap n xs) (hT : P.underlying tt = some (.slice T)) {i : TypeInfo} {z : Value} (hi : P.info? T = some i) (hz : i.zero = some z) (hs : i.size = sz) (hb : i.bytes = bytes) (hzs : z.cells.size = sz) (hsz : 0 < sz) (hl : n < 1000000) (hbb : bytes ≤ 1000) {b : Nat} {news : List Value} (hnl : news.length = sz) (h1 : ∀ u ∈ news, u.oneCell' = true)
    (hbk : w.heap[b]? = some (.cells news.toArray T (0,0))) :
    ∃ g' cap' w', (∀ ty, (Builtin.append_ #[tt, tt] ty #[.slice (rA g) n cap, .slice (some ⟨b, 0, none⟩) 1 1]).run P w = .ok (.slice (some ⟨g', 0, none⟩) (n + 1) cap') w') ∧
      RAt T sz w' (some g') cap' (n + 1) (xs ++ news) ∧ Mod (rF g) w w' ∧ (g' ∈ rF g ∨ g' = w.heap.size) := by
  have hbytes : (n + 1) * bytes ≤ 140737488355328 := by
    have : (n + 1) * bytes ≤ 1000000 * 1000 := Nat.mul_le_mul (by omega) hbb
    omega
  have hx := fun ty => run_append_lies (P := P) w tt ty 0 T i z sz bytes hT hi hz hs hb hzs hsz _ _ _ h.owns ⟨b, 0, none⟩ 1 1 news (by omega) (by
    intro j u hj
    rw [show Addr.add ⟨b, 0, none⟩ j = ⟨b, j, none⟩ by simp [Addr.add]; exact fun h => h.symm]
    rw [cellAt hbk j]
    simpa using hj) h1 (by omega) (by unfold maxLen; omega) hbytes (by omega) _ rfl
  obtain ⟨g', cap', w', hr, h2, h3, h4, h5⟩ := hx 0
  refine ⟨g', cap', w', ?_, ?_, ?_, ?_⟩
  · intro ty
    have : (Builtin.append_ #[tt, tt] ty #[.slice (rA g) n cap, .slice (some ⟨b, 0, none⟩) 1 1]) = (Builtin.append_ #[tt, tt] 0 #[.slice (rA g) n cap, .slice (some ⟨b, 0, none⟩) 1 1]) := rfl
    rw [this]; exact hr
  · refine ⟨by have := h.1; rw [List.length_append, this, hnl, Nat.add_mul, Nat.one_mul], ?_⟩
    rcases h2.2 with ⟨hv, h0⟩ | ⟨g2, cap2, cur, hv, _, q1, q2, q3, q4, q5⟩
    · omega
    · cases hv
      exact ⟨cur, q1, q2, q3, by omega, q5⟩
  · have hB : (Value.slice (rA g) n cap).ownBlock = g := by cases g <;> rfl
    rw [hB] at h3
    refine ⟨h3.os, h3.tape, h3.output, h3.size, fun k hk hS => h3.block k hk ?_⟩
    rintro rfl
    exact hS (by simp [rF])
  · have hB : (Value.slice (rA g) n cap).ownBlock = g := by cases g <;> rfl
    rw [hB] at h4
    rcases h4 with rfl | rfl
    · exact .inl (by simp [rF])
    · exact .inr rfl
end Go.Proofs.YthieionajemjhaaDoor
