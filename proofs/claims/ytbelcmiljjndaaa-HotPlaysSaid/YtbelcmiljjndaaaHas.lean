/- The walks over davitref03's Has and Without. -/
import Derived.Test.YtbelcmiljjndaaaInts
namespace Go.Proofs.Ytbelcmiljjndaaa
set_option linter.unusedVariables false
set_option linter.unusedSimpArgs false
open Go.RowKit

theorem nth_mem {l : List Int} {i : Nat} (h : i < l.length) : nth l i ∈ l := by
  have : nth l i = l[i] := by simp [nth, List.getD, h]
  rw [this]; exact List.getElem_mem h
theorem mem_nth {l : List Int} {k : Int} (h : k ∈ l) : ∃ i, i < l.length ∧ nth l i = k := by
  obtain ⟨i, hi, e⟩ := List.getElem_of_mem h
  exact ⟨i, hi, by simp [nth, List.getD, hi, e]⟩
theorem take_nth {l : List Int} {i : Nat} (h : i < l.length) : l.take (i + 1) = l.take i ++ [nth l i] := by
  rw [List.take_add_one, List.getElem?_eq_getElem h]
  simp [nth, List.getD, h]
def without (l : List Int) (k : Int) : List Int := l.filter (fun x => decide (x ≠ k))
theorem without_nth_ne {l : List Int} {i : Nat} {k : Int} (h : i < l.length) (e : nth l i ≠ k) : without (l.take (i + 1)) k = without (l.take i) k ++ [nth l i] := by
  rw [take_nth h]; simp [without, e]
theorem without_nth_eq {l : List Int} {i : Nat} {k : Int} (h : i < l.length) (e : nth l i = k) : without (l.take (i + 1)) k = without (l.take i) k := by
  rw [take_nth h]; simp [without, e]
theorem without_len (l : List Int) (k : Int) : (without l k).length ≤ l.length := List.length_filter_le _ _

theorem has_any (g : Option Nat) (cap : Nat) (l : List Int) (k : Int) (w : World) (h : LAt w g cap l) : Calls Try.prog 80 #[.slice (lA g) l.length cap, .int .i64 k] w (Ret (.bool (decide (k ∈ l))) w) := by
  have hc := h.cap
  unfold maxLen at hc
  obtain ⟨hc1, hc2⟩ := hc
  go_enter Try.func80, Try.ntmps80
  go_wp2
  go_loopg [5] l.length (fun gg i wr => ∃ j : Nat, i = .int .i64 j ∧ j + gg = l.length ∧ (∀ q, q < j → nth l q ≠ k) ∧ w = wr)
  case atStart => exact ⟨0, rfl, by omega, fun q hq => by omega, rfl⟩
  case round =>
    obtain ⟨j, rfl, hj, hq, rfl⟩ := hrel
    by_cases hjl : j < l.length
    · obtain ⟨b, rfl, cj⟩ := h.cell hjl
      rw [lA_some]
      by_cases e : nth l j = k
      · have hD : decide (k ∈ l) = true := decide_eq_true (e ▸ nth_mem hjl)
        have HD := Lib.hid hD
        have e' : (nth l j == k) = true := by simpa using e
        clear hD e hq
        go_wp2
        go_ret
        exact Ret.of (by rw [HD.out]; rfl) (by repeat (first | exact Drew.refl _ | apply Drew.drewN | apply Drew.drew))
      · have e' : (nth l j == k) = false := by simpa using e
        have hq' : ∀ q, q < j + 1 → nth l q ≠ k := fun q h => by
          by_cases e2 : q = j
          · exact e2 ▸ e
          · exact hq q (by omega)
        clear e hq
        go_wp2
        go_roundg (gk - 1)
        case measure => omega
        case rel => exact ⟨j + 1, by go_num, by omega, hq', rfl⟩
    · have hD : decide (k ∈ l) = false := decide_eq_false (fun x => by
        obtain ⟨i, hi, e⟩ := mem_nth x
        exact hq i (by omega) e)
      have HD := Lib.hid hD
      clear hD hq
      go_wp2
      go_ret
      exact Ret.of (by rw [HD.out]; rfl) (by repeat (first | exact Drew.refl _ | apply Drew.drewN | apply Drew.drew))

/-- Without made a new list. -/
def WithoutDo (l : List Int) (k : Int) (w : World) (e : Ending) (w' : World) : Prop :=
  ∃ g' cap', e = .returned (.slice (lA g') (without l k).length cap') ∧ LAt w' g' cap' (without l k) ∧ Mod [] w w' ∧ ∀ b, b ∈ lF g' → w.heap.size ≤ b

set_option maxRecDepth 100000 in
theorem without_any (g : Option Nat) (cap : Nat) (l : List Int) (k : Int) (w : World) (h : LAt w g cap l) (hm : l.length < 1000000) : Calls Try.prog 84 #[.slice (lA g) l.length cap, .int .i64 k] w (WithoutDo l k w) := by
  have hc := h.cap
  unfold maxLen at hc
  obtain ⟨hc1, hc2⟩ := hc
  go_enter Try.func84, Try.ntmps84
  go_wp2
  go_loopg [5, 6] l.length (fun gg out i wr => ∃ (j : Nat) (g' : Option Nat) (cap' : Nat), i = .int .i64 j ∧ j + gg = l.length ∧ out = .slice (lA g') (without (l.take j) k).length cap' ∧ LAt wr g' cap' (without (l.take j) k) ∧ Mod [] w wr ∧ ∀ b, b ∈ lF g' → w.heap.size ≤ b)
  case atStart => exact ⟨0, none, 0, rfl, by omega, rfl, ⟨rfl, rfl⟩, Mod.refl _ _, by simp [lF]⟩
  case round =>
    obtain ⟨j, g', cap', rfl, hj, rfl, hL, m, hg'⟩ := hrel
    by_cases hjl : j < l.length
    · obtain ⟨b, rfl, cj'⟩ := h.cell hjl
      have cj := m.at cj' (by simp)
      rw [lA_some]
      by_cases e : nth l j = k
      · have e' : (nth l j == k) = true := by simpa using e
        have hW := without_nth_eq hjl e
        clear e cj'
        go_wp2
        go_roundg (gk - 1)
        case measure => omega
        case rel => exact ⟨j + 1, g', cap', by go_num, by omega, by rw [hW], by rw [hW]; exact hL, m, hg'⟩
      · have e' : (nth l j == k) = false := by simpa using e
        have hW := without_nth_ne hjl e
        have hlen : (without (l.take j) k).length < 1000000 := by
          have := without_len (l.take j) k
          have : (l.take j).length ≤ l.length := by simp; omega
          omega
        have hlt := hL.lt
        obtain ⟨g2, cap2, w2, hrun, hL2, m2, hg2⟩ := (hL.keep ((Mod.refl [] wr).alloc (Obj.cells #[.int .i64 (nth l j)] 3)) (by simp)).append hlen (heapNew _ _)
        have m3 : Mod [] w w2 := (m.alloc _).trans m2 (fun b hb => .inr (hg' b hb))
        rw [sizeNew] at hg2
        have hms := m.size
        clear e cj' hL
        go_wp2_with (at_builtin; refine wpList_append_run rfl _ _ _ rfl rfl rfl (hrun _) ?_)
        go_roundg (gk - 1)
        case measure => omega
        case rel =>
          refine ⟨j + 1, some g2, cap2, by go_num, by omega, by rw [hW]; simp [lA], by rw [hW]; exact hL2, m3, ?_⟩
          intro b hb
          simp [lF] at hb
          subst hb
          rcases hg2 with hg2 | hg2
          · exact hg' _ hg2
          · omega
    · have hT : l.take j = l := List.take_of_length_le (by omega)
      rw [hT] at hL ⊢
      go_wp2
      go_ret
      exact ⟨g', cap', rfl, hL, m, hg'⟩
end Go.Proofs.Ytbelcmiljjndaaa
