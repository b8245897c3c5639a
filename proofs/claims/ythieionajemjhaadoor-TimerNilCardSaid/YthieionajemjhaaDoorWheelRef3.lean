/- The walks over the document's wheel: Drop, Add. -/
import Derived.Test.YthieionajemjhaaDoorWheelRef2
namespace Go.Proofs.YthieionajemjhaaDoor
set_option linter.unusedVariables false
set_option linter.unusedSimpArgs false
open Go.RowKit

theorem infoItem : (Tryd.prog.info? 102).map (fun i => (i.zero, i.size, i.bytes)) = some (some (.agg #[.int .i64 0, .int .i64 0]), 2, 16) := by kernel_rfl
/-- append of items. -/
theorem items_append {w : World} {g : Option Nat} {cap : Nat} {L : List (Int × Nat)} (h : RAt 102 2 w g cap L.length (itemsV L)) {a : Option Addr} {n2 c2 : Nat} {M : List (Int × Nat)} (hn : n2 = M.length) (hsrc : SrcAt w 2 a n2 (itemsV M)) (hl : L.length + n2 < 1000000) (hc2 : a = none → c2 = 0) :
    ∃ g' cap' w', (∀ ty, (Builtin.append_ #[54, 54] ty #[.slice (rA g) L.length cap, .slice a n2 c2]).run Tryd.prog w = .ok (.slice (rA g') (L.length + n2) cap') w') ∧
      RAt 102 2 w' g' cap' (L ++ M).length (itemsV (L ++ M)) ∧ Mod (rF g) w w' ∧ ∀ b, b ∈ rF g' → b ∈ rF g ∨ b = w.heap.size := by
  have hI := infoItem
  obtain ⟨i, hi, hi2⟩ := Option.map_eq_some_iff.1 hI
  simp only [Prod.mk.injEq] at hi2
  obtain ⟨i1, i2, i3⟩ := hi2
  have := h.appendSrc (P := Tryd.prog) Tryd.underlying54 hi i1 i2 i3 rfl (by omega) (by omega) hsrc hl hc2
  rw [List.length_append, itemsV_append, ← hn]
  exact this
/-- A part of a list, in memory. -/
theorem src_part {w : World} {b cap : Nat} {L : List (Int × Nat)} (h : RAt 102 2 w (some b) cap L.length (itemsV L)) (i n : Nat) (hn : i + n ≤ L.length) : SrcAt w 2 (some ⟨b, i * 2, none⟩) n (itemsV ((L.drop i).take n)) := by
  refine ⟨by rw [itemsV_len, List.length_take, List.length_drop, Nat.min_eq_left (by omega)], itemsV_one _, .inr ⟨b, i * 2, rfl, fun j u hj => ?_⟩⟩
  rw [← itemsV_take _ _ (by rw [List.length_drop]; omega), ← itemsV_drop, List.getElem?_take] at hj
  split at hj
  · rw [List.getElem?_drop] at hj
    obtain ⟨b', e, hc⟩ := h.cell hj
    cases e
    exact hc
  · cases hj
theorem dfind_lt {m : List (Int × Nat)} {i : Int} {n v : Nat} (h : dfind m i 0 = some (n, v)) : n < m.length := by
  have hx : ∀ (m : List (Int × Nat)) (j : Nat), dfind m i j = some (n, v) → n < j + m.length := by
    intro m
    induction m with
    | nil => intro j h; cases h
    | cons p m ih =>
      intro j h
      unfold dfind at h
      split at h
      · simp at h
        simp; omega
      · have := ih (j + 1) h
        simp; omega
  have := hx m 0 h
  omega
def RWDo (d : Nat) (g : Option Nat) (v : Value) (now : Nat) (L : List (Int × Nat)) (w : World) (e : Ending) (w' : World) : Prop :=
  e = .returned v ∧ ∃ g' cap', Mod [d] w w' ∧ RWAt w' d g' cap' now L ∧ ∀ b, b ∈ rF g' → b ∈ rF g ∨ w.heap.size ≤ b
/-- Drop: the errno; the list behind it. -/
def rdropE (L : List (Int × Nat)) (id : Int) : Int := if (dget L id).isSome then 0 else 4
set_option maxRecDepth 100000 in
set_option maxHeartbeats 2000000 in
theorem rwheel_Drop (d : Nat) (g : Option Nat) (cap now : Nat) (L : List (Int × Nat)) (w : World) (h : RWAt w d g cap now L) (id : Int) (hm : L.length < 1000000) : Calls Tryd.prog 66 #[.pointer (some ⟨d, 0, none⟩), .int .i64 id] w (RWDo d g (.int .i64 (rdropE L id)) now (ddel L id) w) := by
  have c0 : w.cell? ⟨d, 0, none⟩ = some (.int .i64 now) := cellAt h.obj 0
  have c1 : w.cell? ⟨d, 1, none⟩ = some (.slice (rA g) L.length cap) := cellAt h.obj 1
  have hcap := h.row.cap
  unfold maxLen at hcap
  obtain ⟨hcap1, hcap2⟩ := hcap
  have hF := rwheel_Find d g cap now L w h id
  unfold rdropE ddel dget
  unfold findI at hF
  cases hd : dfind L id 0 with
  | none =>
    rw [hd] at hF
    simp only [Option.map_none, Option.isSome_none] at *
    have hh := h
    clear hd
    go_enter Tryd.func66, Tryd.ntmps66
    go_wp2_with (go_at_call 46; refine hF.mono ?_; rintro e w' ⟨rfl, k, rfl⟩)
    go_ret
    exact ⟨rfl, g, cap, (Mod.refl _ _).drewN _, hh.same rfl, fun b hb => .inl hb⟩
  | some p =>
    obtain ⟨n, v⟩ := p
    rw [hd] at hF
    simp only [Option.map_some, Option.isSome_some] at *
    have hn := dfind_lt hd
    obtain ⟨b, rfl, _⟩ := h.item hn
    rw [rA_some] at *
    have hE : L.eraseIdx n = L.take n ++ L.drop (n + 1) := List.eraseIdx_eq_take_drop_succ L n
    rw [hE]
    have hn0 : decide ((n : Int) < 0) = false := decide_eq_false (by omega)
    have hn1 : n + 1 ≤ L.length := hn
    have ha1 := fun k => items_append (w := w.drewN k) (g := none) (cap := 0) (L := []) (RAt.nil 102 2 (w.drewN k)) (M := L.take n) (n2 := n) (a := some ⟨b, 0, none⟩) (c2 := cap) (by rw [List.length_take]; omega) (by have := src_part (h.row.same (w' := w.drewN k) rfl) 0 n (by omega); simpa using this) (by show 0 + n < _; omega) (by simp)
    simp only [List.length_nil, Nat.zero_add, List.nil_append] at ha1
    clear hd hE
    have hob := Lib.hid h.obj
    have hlt0 := ltOf h.obj
    by_cases hcn : cap = n + 1
    · have hsr : ∀ u, RAt 102 2 u (some b) cap L.length (itemsV L) → SrcAt u 2 (some ⟨b, 0, none⟩) 0 (itemsV (L.drop (n + 1))) := by
        intro u hu
        have := src_part hu 0 0 (by omega)
        rw [List.drop_of_length_le (show L.length ≤ n + 1 by omega)]
        simpa using this
      subst hcn
      go_enter Tryd.func66, Tryd.ntmps66
      go_wp2_with (first
        | (
          go_at_call 46
          refine hF.mono ?_
          rintro e w' ⟨rfl, k, rfl⟩
          obtain ⟨g1, cap1, w1, hrun1, x1, m1, n1⟩ := ha1 k
          have m1' : Mod [] w w1 := m1.undrewN
          have hlt : (L.take n).length = n := by rw [List.length_take]; omega
          have hsrc := hsr w1 (h.row.keep m1' (by simp))
          obtain ⟨g2, cap2, w2, hrun2, x2, m2, n2⟩ := items_append x1 (M := L.drop (n + 1)) (n2 := 0) (c2 := 0) (by have := @List.length_drop _ (n + 1) L; omega) hsrc (by omega) (by simp)
          rw [hlt] at hrun2
          obtain ⟨N, hN⟩ : ∃ N, N = n + (0) := ⟨_, rfl⟩
          rw [← hN] at hrun2
          have hN2 : N = (L.take n ++ L.drop (n + 1)).length := by rw [List.length_append, List.length_take, List.length_drop]; omega
          have HN := Lib.hid hN2
          clear hN hN2
          have hg1 : ∀ b, b ∈ rF g1 → w.heap.size ≤ b := fun b hb => (n1 b hb).elim (by simp [rF]) (fun e => by rw [e]; exact Nat.le_refl _)
          have m2' : Mod [] w w2 := m1'.trans m2 (fun b hb => .inr (hg1 b hb))
          have m1s := m1'.size
          have c1' := m1'.at c1 (by simp)
          have q2 := m2'.keep h.obj (by simp)
          have c2' := cellAt q2 1
          have f2' := freeAt q2 1
          have z2' := ltOf q2
          simp only [List.getElem?_toArray, List.getElem?_cons_zero, List.getElem?_cons_succ] at c2'
          have HX := Lib.hid (And.intro x2 (And.intro m2' (And.intro n2 hg1)))
          clear x1 m1 n1 m1' hsrc x2 m2 n2 hg1 m2' q2 ha1
          )
        | (
          at_builtin
          refine wpList_append_run rfl _ _ _ rfl rfl rfl (hrun1 _) ?_
          clear hrun1
          )
        | (
          at_builtin
          refine wpList_append_run rfl _ _ _ rfl rfl rfl (hrun2 _) ?_
          clear hrun2
          )
        )
      go_ret
      obtain ⟨x2, m2', n2, hg1⟩ := HX.out
      rw [HN.out]
      have hdl := hlt0
      have hgn : ∀ b, b ∈ rF g2 → w.heap.size ≤ b := fun b hb => (n2 b hb).elim (hg1 b) (fun e => by rw [e]; exact m1s)
      have mc : Mod [d] w2 (w2.setCell ⟨d, 1, none⟩ (.slice (rA g2) (L.take n ++ L.drop (n + 1)).length cap2)) := (Mod.refl _ _).setCell (by simp) _
      have hnd : ∀ b, b ∈ rF g2 → b ≠ d := fun b hb e => by have := hgn b hb; omega
      refine ⟨rfl, g2, cap2, (m2'.mono (by simp)).setCell (by simp) _, ⟨?_, x2.keep mc (fun b hb => by simp; exact hnd b hb), hnd⟩, fun b hb => .inr (hgn b hb)⟩
      rw [heapSet (m2'.keep hob.out (by simp))]
      simp
    · have hcn2 : n + 1 < cap := by omega
      have hsr : ∀ u, RAt 102 2 u (some b) cap L.length (itemsV L) → SrcAt u 2 (some ⟨b, (n + 1) * 2, none⟩) (L.length - (n + 1)) (itemsV (L.drop (n + 1))) := by
        intro u hu
        have := src_part hu (n + 1) (L.length - (n + 1)) (by omega)
        rwa [List.take_of_length_le (by rw [List.length_drop]; omega)] at this
      go_enter Tryd.func66, Tryd.ntmps66
      go_wp2_with (first
        | (
          go_at_call 46
          refine hF.mono ?_
          rintro e w' ⟨rfl, k, rfl⟩
          obtain ⟨g1, cap1, w1, hrun1, x1, m1, n1⟩ := ha1 k
          have m1' : Mod [] w w1 := m1.undrewN
          have hlt : (L.take n).length = n := by rw [List.length_take]; omega
          have hsrc := hsr w1 (h.row.keep m1' (by simp))
          obtain ⟨g2, cap2, w2, hrun2, x2, m2, n2⟩ := items_append x1 (M := L.drop (n + 1)) (n2 := L.length - (n + 1)) (c2 := cap - (n + 1)) (by have := @List.length_drop _ (n + 1) L; omega) hsrc (by omega) (by simp)
          rw [hlt] at hrun2
          obtain ⟨N, hN⟩ : ∃ N, N = n + (L.length - (n + 1)) := ⟨_, rfl⟩
          rw [← hN] at hrun2
          have hN2 : N = (L.take n ++ L.drop (n + 1)).length := by rw [List.length_append, List.length_take, List.length_drop]; omega
          have HN := Lib.hid hN2
          clear hN hN2
          have hg1 : ∀ b, b ∈ rF g1 → w.heap.size ≤ b := fun b hb => (n1 b hb).elim (by simp [rF]) (fun e => by rw [e]; exact Nat.le_refl _)
          have m2' : Mod [] w w2 := m1'.trans m2 (fun b hb => .inr (hg1 b hb))
          have m1s := m1'.size
          have c1' := m1'.at c1 (by simp)
          have q2 := m2'.keep h.obj (by simp)
          have c2' := cellAt q2 1
          have f2' := freeAt q2 1
          have z2' := ltOf q2
          simp only [List.getElem?_toArray, List.getElem?_cons_zero, List.getElem?_cons_succ] at c2'
          have HX := Lib.hid (And.intro x2 (And.intro m2' (And.intro n2 hg1)))
          clear x1 m1 n1 m1' hsrc x2 m2 n2 hg1 m2' q2 ha1
          )
        | (
          at_builtin
          refine wpList_append_run rfl _ _ _ rfl rfl rfl (hrun1 _) ?_
          clear hrun1
          )
        | (
          at_builtin
          refine wpList_append_run rfl _ _ _ rfl rfl rfl (hrun2 _) ?_
          clear hrun2
          )
        )
      go_ret
      obtain ⟨x2, m2', n2, hg1⟩ := HX.out
      rw [HN.out]
      have hdl := hlt0
      have hgn : ∀ b, b ∈ rF g2 → w.heap.size ≤ b := fun b hb => (n2 b hb).elim (hg1 b) (fun e => by rw [e]; exact m1s)
      have mc : Mod [d] w2 (w2.setCell ⟨d, 1, none⟩ (.slice (rA g2) (L.take n ++ L.drop (n + 1)).length cap2)) := (Mod.refl _ _).setCell (by simp) _
      have hnd : ∀ b, b ∈ rF g2 → b ≠ d := fun b hb e => by have := hgn b hb; omega
      refine ⟨rfl, g2, cap2, (m2'.mono (by simp)).setCell (by simp) _, ⟨?_, x2.keep mc (fun b hb => by simp; exact hnd b hb), hnd⟩, fun b hb => .inr (hgn b hb)⟩
      rw [heapSet (m2'.keep hob.out (by simp))]
      simp
end Go.Proofs.YthieionajemjhaaDoor
