/- The document's wheel: where it lies, and the walks over it. -/
import Derived.Test.YthieionajemjhaaDoorWheelInv2
import Derived.Test.YthieionajemjhaaDoorRows3
namespace Go.Proofs.YthieionajemjhaaDoor
set_option linter.unusedVariables false
set_option linter.unusedSimpArgs false
open Go.RowKit

def itemsV (L : List (Int × Nat)) : List Value := L.flatMap (fun p => [Value.int .i64 p.1, Value.int .i64 (p.2 : Nat)])
theorem itemsV_len : ∀ (L : List (Int × Nat)), (itemsV L).length = L.length * 2
  | [] => rfl
  | p :: L => by
    show ([_, _] ++ itemsV L).length = _
    rw [List.length_append, itemsV_len L]
    simp; omega
theorem itemsV_append (L M : List (Int × Nat)) : itemsV (L ++ M) = itemsV L ++ itemsV M := by simp [itemsV]
theorem itemsV_one : ∀ (L : List (Int × Nat)) (u : Value), u ∈ itemsV L → u.oneCell' = true := by
  intro L u hu
  obtain ⟨p, _, hp⟩ := List.mem_flatMap.1 hu
  simp at hp
  rcases hp with rfl | rfl <;> rfl
def nthP (L : List (Int × Nat)) (i : Nat) : Int × Nat := L.getD i (0, 0)
theorem nthP_mem {L : List (Int × Nat)} {i : Nat} (h : i < L.length) : nthP L i ∈ L := by
  have : nthP L i = L[i] := by simp [nthP, List.getD, h]
  rw [this]; exact List.getElem_mem h
theorem takeP {L : List (Int × Nat)} {i : Nat} (h : i < L.length) : L.take (i + 1) = L.take i ++ [nthP L i] := by
  rw [List.take_add_one, List.getElem?_eq_getElem h]
  simp [nthP, List.getD, h]
theorem itemsV_drop : ∀ (L : List (Int × Nat)) (i : Nat), (itemsV L).drop (i * 2) = itemsV (L.drop i)
  | L, 0 => by simp
  | [], i + 1 => by simp [itemsV]
  | p :: L, i + 1 => by
    have : (itemsV (p :: L)).drop ((i + 1) * 2) = (itemsV L).drop (i * 2) := by
      show ((Value.int .i64 p.1) :: (Value.int .i64 (p.2 : Nat)) :: itemsV L).drop ((i + 1) * 2) = _
      rw [show (i + 1) * 2 = i * 2 + 1 + 1 by omega]
      rfl
    rw [this, itemsV_drop L i]; rfl
theorem itemsV_take (L : List (Int × Nat)) (i : Nat) (h : i ≤ L.length) : (itemsV L).take (i * 2) = itemsV (L.take i) := by
  have h1 : itemsV L = itemsV (L.take i) ++ itemsV (L.drop i) := by rw [← itemsV_append, List.take_append_drop]
  rw [h1]
  have h2 : (itemsV (L.take i)).length = i * 2 := by rw [itemsV_len, List.length_take, Nat.min_eq_left h]
  rw [List.take_append_of_le_length (by omega), List.take_of_length_le (by omega)]
theorem itemsV_at {L : List (Int × Nat)} {i : Nat} (h : i < L.length) : (itemsV L)[i * 2]? = some (.int .i64 (nthP L i).1) ∧ (itemsV L)[i * 2 + 1]? = some (.int .i64 ((nthP L i).2 : Nat)) := by
  have h1 := itemsV_drop L i
  have h2 : L.drop i = nthP L i :: L.drop (i + 1) := by
    rw [List.drop_eq_getElem_cons h]
    simp [nthP, List.getD, h]
  rw [h2] at h1
  have h3 : ∀ k, (itemsV L)[i * 2 + k]? = (itemsV (nthP L i :: L.drop (i + 1)))[k]? := by
    intro k
    rw [← h1, List.getElem?_drop]
  exact ⟨h3 0, h3 1⟩

/-- The document's wheel at block d. -/
structure RWAt (w : World) (d : Nat) (g : Option Nat) (cap : Nat) (now : Nat) (L : List (Int × Nat)) : Prop where
  obj : w.heap[d]? = some (.cells #[.int .i64 now, .slice (rA g) L.length cap] 56 (0,0))
  row : RAt 102 2 w g cap L.length (itemsV L)
  ne : ∀ b, b ∈ rF g → b ≠ d
def rwBlocks (d : Nat) (g : Option Nat) : List Nat := d :: rF g
theorem RWAt.keep {S : List Nat} {w w' : World} {d : Nat} {g : Option Nat} {cap now : Nat} {L : List (Int × Nat)} (h : RWAt w d g cap now L) (m : Mod S w w') (hS : ∀ b, b ∈ rwBlocks d g → b ∉ S) : RWAt w' d g cap now L :=
  ⟨m.keep h.obj (hS d List.mem_cons_self), h.row.keep m (fun b hb => hS b (List.mem_cons_of_mem _ hb)), h.ne⟩
theorem RWAt.same {w w' : World} {d : Nat} {g : Option Nat} {cap now : Nat} {L : List (Int × Nat)} (h : RWAt w d g cap now L) (e : w'.heap = w.heap) : RWAt w' d g cap now L :=
  ⟨by rw [e]; exact h.obj, h.row.same e, h.ne⟩
theorem RWAt.lt {w : World} {d : Nat} {g : Option Nat} {cap now : Nat} {L : List (Int × Nat)} (h : RWAt w d g cap now L) : ∀ b, b ∈ rwBlocks d g → b < w.heap.size := by
  intro b hb
  rcases List.mem_cons.1 hb with rfl | hb
  · exact ltOf h.obj
  · exact h.row.lt b hb
/-- Item i of a list, in memory. -/
theorem RWAt.item {w : World} {d : Nat} {g : Option Nat} {cap now : Nat} {L : List (Int × Nat)} (h : RWAt w d g cap now L) {i : Nat} (hi : i < L.length) : ∃ b, g = some b ∧ w.cell? ⟨b, i * 2, none⟩ = some (.int .i64 (nthP L i).1) ∧ w.cell? ⟨b, i * 2 + 1, none⟩ = some (.int .i64 ((nthP L i).2 : Nat)) := by
  obtain ⟨e1, e2⟩ := itemsV_at hi
  obtain ⟨b, hb, h1⟩ := h.row.cell e1
  obtain ⟨b', hb', h2⟩ := h.row.cell e2
  rw [hb] at hb'
  cases hb'
  exact ⟨b, hb, h1, h2⟩
def findI (L : List (Int × Nat)) (id : Int) : Int := match dfind L id 0 with | some (n, _) => n | none => -1
theorem dfind_at : ∀ {m : List (Int × Nat)} {i : Int} {j k : Nat}, (∀ q, q < k → (nthP m q).1 ≠ i) → k < m.length → (nthP m k).1 = i → dfind m i j = some (j + k, (nthP m k).2)
  | [], i, j, k, _, h, _ => by simp at h
  | p :: m, i, j, 0, _, _, h => by
    unfold dfind
    have : nthP (p :: m) 0 = p := rfl
    rw [this] at h ⊢
    rw [if_pos h.symm]; rfl
  | p :: m, i, j, k + 1, h0, h1, h => by
    unfold dfind
    have e : ∀ q, nthP (p :: m) (q + 1) = nthP m q := fun q => by simp [nthP]
    have hp := h0 0 (by omega)
    have : nthP (p :: m) 0 = p := rfl
    rw [this] at hp
    rw [if_neg (fun x => hp x.symm)]
    rw [e] at h ⊢
    rw [dfind_at (k := k) (fun q hq => by rw [← e]; exact h0 (q + 1) (by omega)) (by simpa using h1) h]
    congr 2; omega
theorem dfind_not : ∀ {m : List (Int × Nat)} {i : Int} {j : Nat}, (∀ q, q < m.length → (nthP m q).1 ≠ i) → dfind m i j = none
  | [], i, j, _ => rfl
  | p :: m, i, j, h0 => by
    unfold dfind
    have hp := h0 0 (by simp)
    have : nthP (p :: m) 0 = p := rfl
    rw [this] at hp
    rw [if_neg (fun x => hp x.symm)]
    exact dfind_not (fun q hq => by
      have e : nthP (p :: m) (q + 1) = nthP m q := by simp [nthP]
      rw [← e]; exact h0 (q + 1) (by simpa using hq))
theorem rA_some (b : Nat) : rA (some b) = some ⟨b, 0, none⟩ := rfl
set_option maxRecDepth 100000 in
theorem rwheel_Find (d : Nat) (g : Option Nat) (cap now : Nat) (L : List (Int × Nat)) (w : World) (h : RWAt w d g cap now L) (id : Int) : Calls Tryd.prog 46 #[.pointer (some ⟨d, 0, none⟩), .int .i64 id] w (Ret (.int .i64 (findI L id)) w) := by
  have c0 : w.cell? ⟨d, 0, none⟩ = some (.int .i64 now) := cellAt h.obj 0
  have c1 : w.cell? ⟨d, 1, none⟩ = some (.slice (rA g) L.length cap) := cellAt h.obj 1
  have hcap := h.row.cap
  unfold maxLen at hcap
  obtain ⟨hcap1, hcap2⟩ := hcap
  have hIt := fun i (hi : i < L.length) => h.item hi
  clear h
  go_enter Tryd.func46, Tryd.ntmps46
  go_wp2
  go_loopg [5] L.length (fun gg i wr => ∃ j : Nat, i = .int .i64 j ∧ j + gg = L.length ∧ (∀ q, q < j → (nthP L q).1 ≠ id) ∧ w = wr)
  case atStart => exact ⟨0, rfl, by omega, fun q hq => by omega, rfl⟩
  case round =>
    obtain ⟨j, rfl, hj, hq, rfl⟩ := hrel
    by_cases hjl : j < L.length
    · obtain ⟨b, rfl, cj, cj2⟩ := hIt j hjl
      rw [rA_some] at *
      by_cases e : (nthP L j).1 = id
      · have hD : findI L id = j := by unfold findI; rw [dfind_at hq hjl e]; simp
        have HD := Lib.hid hD
        rw [e] at cj
        clear hD e hq cj2 hIt
        go_wp2
        go_ret
        exact Ret.of (by rw [HD.out]; rfl) (by repeat (first | exact Drew.refl _ | apply Drew.drewN | apply Drew.drew))
      · have e' : ((nthP L j).1 == id) = false := by simpa using e
        have hq' : ∀ q, q < j + 1 → (nthP L q).1 ≠ id := fun q h => by
          by_cases e2 : q = j
          · exact e2 ▸ e
          · exact hq q (by omega)
        clear hq
        generalize (nthP L j).1 = x at *
        clear cj2 hIt
        go_wp2
        go_roundg (gk - 1)
        case measure => omega
        case rel => exact ⟨j + 1, by go_num, by omega, hq', rfl⟩
    · have hD : findI L id = -1 := by unfold findI; rw [dfind_not (fun q hq' => hq q (by omega))]
      have HD := Lib.hid hD
      clear hD hq hIt
      go_wp2
      go_ret
      exact Ret.of (by rw [HD.out]; rfl) (by repeat (first | exact Drew.refl _ | apply Drew.drewN | apply Drew.drew))
end Go.Proofs.YthieionajemjhaaDoor
