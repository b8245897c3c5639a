/- The walks over the document's wheel: New, Go, Next, When, List, Due. -/
import Derived.Test.YthieionajemjhaaDoorWheelRef
import Derived.Test.YthieionajemjhaaDoorWheelInts
namespace Go.Proofs.YthieionajemjhaaDoor
set_option linter.unusedVariables false
set_option linter.unusedSimpArgs false
open Go.RowKit

set_option maxRecDepth 100000 in
theorem rwheel_New (n : Nat) (ht : tickOk n) (w : World) : Calls Tryd.prog 37 #[.int .i64 n] w (fun e w' => ∃ d, e = .returned (.tuple #[.pointer (some ⟨d, 0, none⟩), .int .i64 0]) ∧ RWAt w' d none 0 n [] ∧ Mod [] w w' ∧ w.heap.size ≤ d) := by
  have h1 := ht.1
  have h2 := ht.2
  clear ht
  go_enter Tryd.func37, Tryd.ntmps37
  go_wp2
  go_ret2
  refine ⟨w.heap.size, rfl, ⟨heapNew _ _, RAt.nil _ _ _, by simp [rF]⟩, ?_, Nat.le_refl _⟩
  repeat (first | with_reducible exact Mod.refl _ _ | with_reducible apply Mod.alloc | with_reducible apply Mod.drewN | with_reducible apply Mod.drew | with_reducible refine Mod.setCell ?_ (by first | (simp; done) | (simp; omega)) _)
set_option maxRecDepth 100000 in
theorem rwheel_New_no (t : Int) (ht : ¬ tickOk t) (w : World) : Calls Tryd.prog 37 #[.int .i64 t] w (Ret (.tuple #[.pointer none, .int .i64 2]) w) := by
  have hc : t < 0 ∨ (0 ≤ t ∧ 1152921504606846976 < t) := by unfold tickOk at ht; omega
  clear ht
  rcases hc with h1 | ⟨h1, h2⟩
  all_goals
    go_enter Tryd.func37, Tryd.ntmps37
    go_wp2
    go_ret2
    exact Ret.of (rfl) (by repeat (first | exact Drew.refl _ | apply Drew.drewN | apply Drew.drew))
/-- Go: the errno; the tick. -/
def rgoE (now : Nat) (t : Int) : Int := if t < now ∨ 1152921504606846976 < t then 2 else 0
def rgo (now : Nat) (t : Int) : Nat := if t < now ∨ 1152921504606846976 < t then now else t.toNat
set_option maxRecDepth 100000 in
theorem rwheel_Go (d : Nat) (g : Option Nat) (cap now : Nat) (L : List (Int × Nat)) (w : World) (h : RWAt w d g cap now L) (t : Int) : Calls Tryd.prog 67 #[.pointer (some ⟨d, 0, none⟩), .int .i64 t] w (Rets (.int .i64 (rgoE now t)) [d] w fun w' => RWAt w' d g cap (rgo now t) L) := by
  have c0 : w.cell? ⟨d, 0, none⟩ = some (.int .i64 now) := cellAt h.obj 0
  have c1 : w.cell? ⟨d, 1, none⟩ = some (.slice (rA g) L.length cap) := cellAt h.obj 1
  have hcap := h.row.cap
  unfold maxLen at hcap
  obtain ⟨hcap1, hcap2⟩ := hcap
  have f0 : w.frozen? ⟨d, 0, none⟩ = false := freeAt h.obj 0
  unfold rgoE rgo
  by_cases ht : t < now
  · rw [if_pos (.inl ht), if_pos (.inl ht)]
    go_enter Tryd.func67, Tryd.ntmps67
    go_wp2
    go_ret
    exact Rets.of rfl (Mod.refl _ _) h
  · by_cases ht2 : 1152921504606846976 < t
    · rw [if_pos (.inr ht2), if_pos (.inr ht2)]
      go_enter Tryd.func67, Tryd.ntmps67
      go_wp2
      go_ret
      exact Rets.of rfl (Mod.refl _ _) h
    · rw [if_neg (by omega), if_neg (by omega)]
      obtain ⟨n, rfl⟩ := Int.eq_ofNat_of_zero_le (show 0 ≤ t by omega)
      have e : ((n : Nat) : Int).toNat = n := by omega
      rw [e]
      clear e
      go_enter Tryd.func67, Tryd.ntmps67
      go_wp2
      go_ret
      have mc : Mod [d] w (w.setCell ⟨d, 0, none⟩ (.int .i64 n)) := (Mod.refl _ _).setCell (by simp) _
      refine Rets.of rfl mc ⟨?_, h.row.keep mc (fun b hb => by simp; exact h.ne b hb), h.ne⟩
      rw [heapSet h.obj]; simp
def rnextV (L : List (Int × Nat)) : Nat := (nthP L 0).2
def rnextE (L : List (Int × Nat)) : Int := if L = [] then 12 else 0
set_option maxRecDepth 100000 in
theorem rwheel_Next (d : Nat) (g : Option Nat) (cap now : Nat) (L : List (Int × Nat)) (w : World) (h : RWAt w d g cap now L) : Calls Tryd.prog 45 #[.pointer (some ⟨d, 0, none⟩)] w (Ret (.tuple #[.int .i64 (rnextV L), .int .i64 (rnextE L)]) w) := by
  have c0 : w.cell? ⟨d, 0, none⟩ = some (.int .i64 now) := cellAt h.obj 0
  have c1 : w.cell? ⟨d, 1, none⟩ = some (.slice (rA g) L.length cap) := cellAt h.obj 1
  have hcap := h.row.cap
  unfold maxLen at hcap
  obtain ⟨hcap1, hcap2⟩ := hcap
  unfold rnextE rnextV
  by_cases hL : L = []
  · subst hL
    rw [if_pos rfl]
    have e : ((nthP [] 0).2 : Int) = 0 := rfl
    rw [e]
    simp only [List.length_nil] at c1
    clear e h hcap1
    go_enter Tryd.func45, Tryd.ntmps45
    go_wp2
    go_ret2
    exact Ret.of (rfl) (by repeat (first | exact Drew.refl _ | apply Drew.drewN | apply Drew.drew))
  · rw [if_neg hL]
    have hl : 0 < L.length := List.length_pos_iff.2 hL
    obtain ⟨b, rfl, cj, cj2⟩ := h.item hl
    rw [rA_some] at *
    simp only [Nat.zero_mul, Nat.zero_add] at cj cj2
    clear hL h
    generalize (nthP L 0).2 = x at *
    go_enter Tryd.func45, Tryd.ntmps45
    go_wp2
    go_ret2
    exact Ret.of (rfl) (by repeat (first | exact Drew.refl _ | apply Drew.drewN | apply Drew.drew))
set_option maxRecDepth 100000 in
theorem rwheel_When (d : Nat) (g : Option Nat) (cap now : Nat) (L : List (Int × Nat)) (w : World) (h : RWAt w d g cap now L) (id : Int) : Calls Tryd.prog 48 #[.pointer (some ⟨d, 0, none⟩), .int .i64 id] w (Ret (.tuple #[.int .i64 ((dget L id).getD 0 : Nat), .bool (dget L id).isSome]) w) := by
  have c0 : w.cell? ⟨d, 0, none⟩ = some (.int .i64 now) := cellAt h.obj 0
  have c1 : w.cell? ⟨d, 1, none⟩ = some (.slice (rA g) L.length cap) := cellAt h.obj 1
  have hcap := h.row.cap
  unfold maxLen at hcap
  obtain ⟨hcap1, hcap2⟩ := hcap
  have hF := rwheel_Find d g cap now L w h id
  unfold dget
  unfold findI at hF
  cases hd : dfind L id 0 with
  | none =>
    rw [hd] at hF
    simp only [Option.map_none, Option.getD_none, Option.isSome_none] at *
    clear h hd
    go_enter Tryd.func48, Tryd.ntmps48
    go_wp2_with (go_at_call 46; refine hF.mono ?_; rintro e w' ⟨rfl, k, rfl⟩)
    go_ret2
    exact Ret.of (rfl) (by repeat (first | exact Drew.refl _ | apply Drew.drewN | apply Drew.drew))
  | some p =>
    obtain ⟨n, v⟩ := p
    rw [hd] at hF
    simp only [Option.map_some, Option.getD_some, Option.isSome_some] at *
    have hn : n < L.length ∧ (nthP L n).2 = v := by
      have hx : ∀ (m : List (Int × Nat)) (j : Nat), dfind m id j = some (n, v) → ∃ q, n = j + q ∧ q < m.length ∧ (nthP m q).2 = v := by
        intro m
        induction m with
        | nil => intro j h; cases h
        | cons p m ih =>
          intro j h
          unfold dfind at h
          split at h
          · simp at h
            exact ⟨0, by omega, by simp, h.2⟩
          · obtain ⟨q, a1, a2, a3⟩ := ih (j + 1) h
            exact ⟨q + 1, by omega, by simp; omega, by simpa [nthP] using a3⟩
      obtain ⟨q, a1, a2, a3⟩ := hx L 0 hd
      rw [show n = q by omega]
      exact ⟨a2, a3⟩
    obtain ⟨hn1, hn2⟩ := hn
    obtain ⟨b, rfl, cj, cj2⟩ := h.item hn1
    rw [hn2] at cj2
    rw [rA_some] at *
    clear h hd hn2 cj
    go_enter Tryd.func48, Tryd.ntmps48
    go_wp2_with (go_at_call 46; refine hF.mono ?_; rintro e w' ⟨rfl, k, rfl⟩)
    go_ret2
    exact Ret.of (rfl) (by repeat (first | exact Drew.refl _ | apply Drew.drewN | apply Drew.drew))
/-- The call made a new slice of ints. -/
def IntsDo (l : List Int) (w : World) (e : Ending) (w' : World) : Prop :=
  ∃ g' cap', e = .returned (.slice (lA g') l.length cap') ∧ LAt w' g' cap' l ∧ Mod [] w w' ∧ ∀ b, b ∈ lF g' → w.heap.size ≤ b
def idsOf (L : List (Int × Nat)) : List Int := L.map (·.1)
set_option maxRecDepth 100000 in
theorem rwheel_List (d : Nat) (g : Option Nat) (cap now : Nat) (L : List (Int × Nat)) (w : World) (h : RWAt w d g cap now L) (hm : L.length < 1000000) : Calls Tryd.prog 49 #[.pointer (some ⟨d, 0, none⟩)] w (IntsDo (idsOf L) w) := by
  have c0 : w.cell? ⟨d, 0, none⟩ = some (.int .i64 now) := cellAt h.obj 0
  have c1 : w.cell? ⟨d, 1, none⟩ = some (.slice (rA g) L.length cap) := cellAt h.obj 1
  have hcap := h.row.cap
  unfold maxLen at hcap
  obtain ⟨hcap1, hcap2⟩ := hcap
  have hbl := h.lt
  go_enter Tryd.func49, Tryd.ntmps49
  go_wp2
  go_loopg [3, 4] L.length (fun gg out i wr => ∃ (j : Nat) (g' : Option Nat) (cap' : Nat), i = .int .i64 j ∧ j + gg = L.length ∧ out = .slice (lA g') (idsOf (L.take j)).length cap' ∧ LAt wr g' cap' (idsOf (L.take j)) ∧ Mod [] w wr ∧ ∀ b, b ∈ lF g' → w.heap.size ≤ b)
  case atStart => exact ⟨0, none, 0, rfl, by omega, rfl, ⟨rfl, rfl⟩, Mod.refl _ _, by simp [lF]⟩
  case round =>
    obtain ⟨j, g', cap', rfl, hj, rfl, hL, m, hg'⟩ := hrel
    have c1' := m.at c1 (by simp)
    by_cases hjl : j < L.length
    · obtain ⟨b, rfl, cj', _⟩ := h.item hjl
      have cj := m.at cj' (by simp)
      rw [rA_some] at *
      have hW : idsOf (L.take (j + 1)) = idsOf (L.take j) ++ [(nthP L j).1] := by rw [takeP hjl]; simp [idsOf]
      have hlen : (idsOf (L.take j)).length < 1000000 := by simp [idsOf]; omega
      obtain ⟨g2, cap2, w2, hrun, hL2, m2, hg2⟩ := (hL.keep ((Mod.refl [] wr).alloc (Obj.cells #[.int .i64 (nthP L j).1] 3)) (by simp)).append hlen (heapNew _ _)
      have m3 : Mod [] w w2 := (m.alloc _).trans m2 (fun b hb => .inr (hg' b hb))
      rw [sizeNew] at hg2
      have hms := m.size
      clear cj' hL c1
      go_wp2_with (at_builtin; refine wpList_append_run rfl _ _ _ rfl rfl rfl (hrun _) ?_)
      go_roundg (gk - 1)
      case measure => omega
      case rel =>
        refine ⟨j + 1, some g2, cap2, by go_num, by omega, by rw [hW]; simp [lA], by rw [hW]; exact hL2, m3, ?_⟩
        intro b hb
        simp [lF] at hb
        subst hb
        rcases hg2 with hg2 | hg2
        · exact hg' _ hg2
        · omega
    · have hT : L.take j = L := List.take_of_length_le (by omega)
      rw [hT] at hL ⊢
      go_wp2
      go_ret
      exact ⟨g', cap', rfl, hL, m, hg'⟩
def dueL (now : Nat) (L : List (Int × Nat)) : List (Int × Nat) := L.filter (fun p => decide (p.2 ≤ now))
set_option maxRecDepth 100000 in
theorem rwheel_Due (d : Nat) (g : Option Nat) (cap now : Nat) (L : List (Int × Nat)) (w : World) (h : RWAt w d g cap now L) (hm : L.length < 1000000) : Calls Tryd.prog 50 #[.pointer (some ⟨d, 0, none⟩)] w (IntsDo (idsOf (dueL now L)) w) := by
  have c0 : w.cell? ⟨d, 0, none⟩ = some (.int .i64 now) := cellAt h.obj 0
  have c1 : w.cell? ⟨d, 1, none⟩ = some (.slice (rA g) L.length cap) := cellAt h.obj 1
  have hcap := h.row.cap
  unfold maxLen at hcap
  obtain ⟨hcap1, hcap2⟩ := hcap
  have hbl := h.lt
  go_enter Tryd.func50, Tryd.ntmps50
  go_wp2
  go_loopg [3, 4] L.length (fun gg out i wr => ∃ (j : Nat) (g' : Option Nat) (cap' : Nat), i = .int .i64 j ∧ j + gg = L.length ∧ out = .slice (lA g') (idsOf (dueL now (L.take j))).length cap' ∧ LAt wr g' cap' (idsOf (dueL now (L.take j))) ∧ Mod [] w wr ∧ ∀ b, b ∈ lF g' → w.heap.size ≤ b)
  case atStart => exact ⟨0, none, 0, rfl, by omega, rfl, ⟨rfl, rfl⟩, Mod.refl _ _, by simp [lF]⟩
  case round =>
    obtain ⟨j, g', cap', rfl, hj, rfl, hL, m, hg'⟩ := hrel
    have c1' := m.at c1 (by simp)
    have c0' := m.at c0 (by simp)
    by_cases hjl : j < L.length
    · obtain ⟨b, rfl, cj', ck'⟩ := h.item hjl
      have cj := m.at cj' (by simp)
      have ck := m.at ck' (by simp)
      rw [rA_some] at *
      by_cases hd : (nthP L j).2 ≤ now
      · have hW : idsOf (dueL now (L.take (j + 1))) = idsOf (dueL now (L.take j)) ++ [(nthP L j).1] := by rw [takeP hjl]; simp [idsOf, dueL, hd]
        have hlen : (idsOf (dueL now (L.take j))).length < 1000000 := by
          have : (dueL now (L.take j)).length ≤ (L.take j).length := List.length_filter_le _ _
          simp [idsOf] at *; omega
        have happ := fun nq => (hL.keep (((Mod.refl [] wr).drewN nq).alloc (Obj.cells #[.int .i64 (nthP L j).1] 3)) (by simp)).append hlen (heapNew _ _)
        have hms := m.size
        have hd2 : decide (((nthP L j).2 : Int) ≤ (now : Int)) = true := decide_eq_true (by omega)
        clear cj' hL c1 ck' c0
        generalize (nthP L j).2 = v at *
        go_wp2
        go_quiet (fail)
        obtain ⟨g2, cap2, w2, hrun, hL2, m2, hg2⟩ := happ nq
        have m3 : Mod [] w w2 := ((m.drewN nq).alloc _).trans m2 (fun b hb => .inr (hg' b hb))
        rw [sizeNew] at hg2
        clear happ
        go_wp2_with (at_builtin; refine wpList_append_run rfl _ _ _ rfl rfl rfl (hrun _) ?_)
        go_roundg (gk - 1)
        case measure => omega
        case rel =>
          refine ⟨j + 1, some g2, cap2, by go_num, by omega, by rw [hW]; simp [lA], by rw [hW]; exact hL2, m3, ?_⟩
          intro b hb
          simp [lF] at hb
          subst hb
          rcases hg2 with hg2 | hg2
          · exact hg' _ hg2
          · have : (wr.drewN nq).heap.size = wr.heap.size := rfl
            omega
      · have hW : idsOf (dueL now (L.take (j + 1))) = idsOf (dueL now (L.take j)) := by rw [takeP hjl]; simp [idsOf, dueL, hd]
        have hd2 : decide (((nthP L j).2 : Int) ≤ (now : Int)) = false := decide_eq_false (by omega)
        clear cj' c1 ck' c0
        generalize (nthP L j).2 = v at *
        go_wp2
        go_quiet (fail)
        go_wp2
        go_roundg (gk - 1)
        case measure => omega
        case rel => exact ⟨j + 1, g', cap', by go_num, by omega, by rw [hW], by rw [hW]; exact hL.same rfl, m.drewN _, hg'⟩
    · have hT : L.take j = L := List.take_of_length_le (by omega)
      rw [hT] at hL ⊢
      go_wp2
      go_ret
      exact ⟨g', cap', rfl, hL, m, hg'⟩
end Go.Proofs.YthieionajemjhaaDoor
