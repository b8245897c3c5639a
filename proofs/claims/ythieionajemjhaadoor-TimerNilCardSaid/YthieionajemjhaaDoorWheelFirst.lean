/- The walk over a wheel's first: the first list that holds something. -/
import Derived.Test.YthieionajemjhaaDoorWheelGo2
import Derived.Deep.MidRow
import Derived.WalkMore
namespace Go.Proofs.YthieionajemjhaaDoor
set_option linter.unusedVariables false
set_option linter.unusedSimpArgs false
open Go.RowKit
/-- The number of the first list that holds something: the ready ones, then the slots; the last slot if there is none. -/
def SW.firstK (s : SW) : Nat := if s.lists 168 ≠ [] then 168 else ((List.range 168).find? (fun k => !(s.lists k).isEmpty)).getD 167
theorem firstK_le (s : SW) : s.firstK ≤ 168 := by
  unfold SW.firstK
  split
  · omega
  · cases h : (List.range 168).find? (fun k => !(s.lists k).isEmpty) with
    | none => simp
    | some k => have := List.mem_range.1 (List.mem_of_find?_eq_some h); simp; omega
theorem firstK_at {s : SW} {k : Nat} (hr : s.lists 168 = []) (hk : k < 168) (h0 : ∀ j, j < k → s.lists j = []) (h : s.lists k ≠ []) : s.firstK = k := by
  unfold SW.firstK
  rw [if_neg (by simp [hr])]
  have : (List.range 168).find? (fun k => !(s.lists k).isEmpty) = some k := by
    rw [List.find?_eq_some_iff_getElem]
    refine ⟨by simpa using h, k, by simpa using hk, by simp, ?_⟩
    intro j hj
    simp [h0 j hj]
  rw [this]; rfl
theorem firstK_none {s : SW} (hr : s.lists 168 = []) (h0 : ∀ j, j < 168 → s.lists j = []) : s.firstK = 167 := by
  unfold SW.firstK
  rw [if_neg (by simp [hr])]
  have : (List.range 168).find? (fun k => !(s.lists k).isEmpty) = none := by
    rw [List.find?_eq_none]
    intro k hk
    have := h0 k (List.mem_range.1 hk)
    simp [this]
  rw [this]; rfl
/-- The slice value of list k. -/
def slV (G : Nat → Option Nat × Nat) (s : SW) (k : Nat) : Value := .slice (lA (G k).1) (s.lists k).length (G k).2
def slotsV (G : Nat → Option Nat × Nat) (s : SW) : List Value := (List.range 168).map (slV G s)
theorem slotsV_get {G : Nat → Option Nat × Nat} {s : SW} {k : Nat} (h : k < 168) : (slotsV G s)[k]? = some (slV G s k) := by
  simp [slotsV, h]
theorem wheel_loadSlots {w : World} {d mb : Nat} {G : Nat → Option Nat × Nat} {s : SW} (h : WheelAt w d mb G s) : (Instr.loadAt 88 (.pointer (some ⟨d, 2, none⟩))).run Tryd.prog w = .ok (.agg (slotsV G s).toArray) w := by
  refine run_loadAt_mid w d 2 88 (slotsV G s) _ ?_ Tryd.underlying88 rfl ?_
  · intro j v hj
    have hlt : j < 168 := by have := (List.getElem?_eq_some_iff.1 hj).1; simpa [slotsV] using this
    rw [slotsV_get hlt] at hj
    simp at hj
    rw [← hj]
    exact h.cellList (by omega)
  · have : (Tryd.prog.info? 88).map (·.size) = some 168 := by kernel_rfl
    rw [this]; simp [slotsV]
def lvV (G : Nat → Option Nat × Nat) (s : SW) (lv : Nat) : Array Value := #[slV G s (lv * 8), slV G s (lv * 8 + 1), slV G s (lv * 8 + 2), slV G s (lv * 8 + 3), slV G s (lv * 8 + 4), slV G s (lv * 8 + 5), slV G s (lv * 8 + 6), slV G s (lv * 8 + 7)]
theorem wheel_indexLv {G : Nat → Option Nat × Nat} {s : SW} {lv : Nat} (h : lv < 21) (w : World) : (Instr.index 88 (.agg (slotsV G s).toArray) (.int .i64 lv)).run Tryd.prog w = .ok (.agg (lvV G s lv)) w := by
  have h1 : ((lv : Nat) : Int) < 21 := by omega
  have hu := Tryd.underlying88
  have e : ((slotsV G s).toArray.extract (lv * 8) (lv * 8 + 8)) = lvV G s lv := by
    apply Array.ext_getElem?
    intro j
    rw [Array.getElem?_extract]
    by_cases hj : j < 8
    · have : lv * 8 + j < 168 := by omega
      simp only [List.size_toArray, List.getElem?_toArray]
      rw [if_pos (by simp [slotsV]; omega), slotsV_get this]
      unfold lvV
      match j, hj with
      | 0, _ => rfl
      | 1, _ => rfl
      | 2, _ => rfl
      | 3, _ => rfl
      | 4, _ => rfl
      | 5, _ => rfl
      | 6, _ => rfl
      | 7, _ => rfl
    · rw [if_neg (by simp [slotsV]; omega)]
      unfold lvV
      simp; omega
  have h0 : ((lv : Nat) : Int).toNat = lv := by omega
  simp [Instr.index, asIntOf, Sem.run_bind, run_underlying hu, part, Tryd.isAgg87, Tryd.sizeOf87, h1, Result.andThen]
  rw [if_pos h]
  have e2 := e
  simp at e2
  rw [e2]
theorem wheel_indexAt {G : Nat → Option Nat × Nat} {s : SW} (lv : Nat) {j : Nat} (h : j < 8) (w : World) : (Instr.index 87 (.agg (lvV G s lv)) (.int .i64 j)).run Tryd.prog w = .ok (slV G s (lv * 8 + j)) w := by
  have h1 : ((j : Nat) : Int) < 8 := by omega
  have hu := Tryd.underlying87
  have e : (lvV G s lv)[j]? = some (slV G s (lv * 8 + j)) := by
    unfold lvV
    match j, h with
    | 0, _ => rfl
    | 1, _ => rfl
    | 2, _ => rfl
    | 3, _ => rfl
    | 4, _ => rfl
    | 5, _ => rfl
    | 6, _ => rfl
    | 7, _ => rfl
  simp [Instr.index, asIntOf, Sem.run_bind, run_underlying hu, part, Tryd.isAgg49, Tryd.sizeOf49, h1, Result.andThen, e]
  intro hh
  omega

set_option maxRecDepth 100000 in
set_option maxHeartbeats 2000000 in
theorem wheel_first (d mb : Nat) (G : Nat → Option Nat × Nat) (s : SW) (w : World) (h : WheelAt w d mb G s) :
    Calls Tryd.prog 68 #[.pointer (some ⟨d, 0, none⟩)] w (Rets (slV G s s.firstK) [] w fun _ => True) := by
  have cR : w.cell? ⟨d, 170, none⟩ = some (.slice (lA (G 168).1) (s.lists 168).length (G 168).2) := h.cellList (k := 168) (by omega)
  by_cases hr : s.lists 168 = []
  case neg =>
    have hK : s.firstK = 168 := if_pos hr
    rw [hK]
    have hlen : 0 < (s.lists 168).length := List.length_pos_iff.2 hr
    unfold slV
    clear hK hr
    go_enter Tryd.func68, Tryd.ntmps68
    go_wp2
    go_step3
    go_wp2
    rw [Exit.noGoto_ret]
    go_ret
    exact Rets.of rfl (Mod.refl _ _) trivial
  have hrl : (s.lists 168).length = 0 := by rw [hr]; rfl
  rw [hrl] at cR
  have hrg : w.rangeAt d 2 (slotsV G s) := by
    intro j v hj
    have hlt : j < 168 := by have := (List.getElem?_eq_some_iff.1 hj).1; simpa [slotsV] using this
    rw [slotsV_get hlt] at hj
    simp at hj
    rw [← hj]
    exact h.cellList (by omega)
  have hinf : (Tryd.prog.info? 88).map (·.size) = some (slotsV G s).length := by
    have : (Tryd.prog.info? 88).map (·.size) = some 168 := by kernel_rfl
    rw [this]; simp [slotsV]
  have hix := fun lv hlv w => wheel_indexLv (G := G) (s := s) (lv := lv) hlv w
  have hat : ∀ {k : Nat}, k < 168 → (∀ j, j < k → s.lists j = []) → s.lists k ≠ [] → s.firstK = k := fun h1 h2 h3 => firstK_at hr h1 h2 h3
  have hnone := fun h => firstK_none (s := s) hr h
  clear hr
  go_enter Tryd.func68, Tryd.ntmps68
  go_wp2
  go_step3
  go_wp2
  go_step3
  go_wp2_with (refine wpList_load_mid rfl 88 _ rfl d 2 rfl (slotsV G s) _ hrg Tryd.underlying88 rfl hinf ?_)
  clear hrg hinf
  go_loopg [3, 20] 21 (fun gg out i wr => ∃ lv : Nat, i = .int .i64 lv ∧ lv + gg = 21 ∧ (∀ k, k < lv * 8 → s.lists k = []) ∧ (0 < lv → out = slV G s (lv * 8 - 1)) ∧ Mod [] w wr)
  case atStart => exact ⟨0, rfl, by omega, fun k hk => by omega, fun h => by omega, Mod.refl _ _⟩
  case round =>
    obtain ⟨lv, rfl, hl, hE, ho, m⟩ := hrel
    by_cases hlt : lv < 21
    · have hlt2 : (lv : Int) < 21 := by omega
      have hx := fun w => hix lv hlt w
      have hy := fun j hj w => wheel_indexAt (G := G) (s := s) lv (j := j) hj w
      have hlv : lvV G s lv = #[slV G s (lv * 8), slV G s (lv * 8 + 1), slV G s (lv * 8 + 2), slV G s (lv * 8 + 3), slV G s (lv * 8 + 4), slV G s (lv * 8 + 5), slV G s (lv * 8 + 6), slV G s (lv * 8 + 7)] := rfl
      rw [hlv] at hx
      rw [hlv] at hy
      clear hix hlv
      simp only [slV] at hx hy ho
      go_wp2
      go_loopg [3, 24] 8 (fun gg out i wi => ∃ j : Nat, i = .int .i64 j ∧ j + gg = 8 ∧ (∀ k, k < lv * 8 + j → s.lists k = []) ∧ (0 < lv * 8 + j → out = .slice (lA (G (lv * 8 + j - 1)).1) (s.lists (lv * 8 + j - 1)).length (G (lv * 8 + j - 1)).2) ∧ Mod [] w wi)
      case atStart =>
        refine ⟨0, rfl, by omega, hE, fun h0 => ho (by omega), ?_⟩
        refine Mod.trans (S := []) (T := [wr.heap.size]) m ?_ (by simp; exact m.size)
        repeat (first | with_reducible exact Mod.refl _ _ | with_reducible apply Mod.alloc | with_reducible apply Mod.drewN | with_reducible apply Mod.drew | with_reducible refine Mod.setCell ?_ (by first | (simp; done) | (simp; omega)) _)
      case round =>
        obtain ⟨j, rfl, hj, hE2, ho2, m2⟩ := hrel
        by_cases hj8 : j < 8
        · have hj82 : (j : Int) < 8 := by omega
          have hyj := fun w => hy j hj8 w
          clear hy hx
          by_cases hne : s.lists (lv * 8 + j) = []
          · have hl0 : (s.lists (lv * 8 + j)).length = 0 := by rw [hne]; rfl
            rw [hl0] at hyj
            go_wp2
            go_roundg (8 - j - 1)
            case measure => omega
            case rel =>
              refine ⟨j + 1, by go_num, by omega, fun k hk => ?_, fun _ => ?_, m2⟩
              · by_cases e : k = lv * 8 + j
                · rw [e]; exact hne
                · exact hE2 k (by omega)
              · rw [show lv * 8 + (j + 1) - 1 = lv * 8 + j by omega, hl0]
          · have hl0 : 0 < (s.lists (lv * 8 + j)).length := List.length_pos_iff.2 hne
            have hK := hat (k := lv * 8 + j) (by omega) hE2 hne
            have HK := Lib.hid hK
            clear hK
            go_wp2
            rw [Exit.noGoto_ret]
            go_ret
            exact Rets.of (by rw [HK.out]; rfl) m2 trivial
        · have hj88 : j = 8 := by omega
          subst hj88
          clear hy hx
          go_wp2
          go_roundg (21 - lv - 1)
          case measure => omega
          case rel =>
            refine ⟨lv + 1, by go_num, by omega, fun k hk => hE2 k (by omega), fun _ => ?_, m2⟩
            rw [show (lv + 1) * 8 - 1 = lv * 8 + 8 - 1 by omega]
            exact ho2 (by omega)
    · have hl21 : lv = 21 := by omega
      subst hl21
      have hK := hnone (fun k hk => hE k (by omega))
      have ho2 := ho (by omega)
      have HK := Lib.hid hK
      simp only [slV] at ho2
      subst ho2
      clear hK ho
      go_wp2
      rw [Exit.noGoto_ret]
      go_ret
      exact Rets.of (by rw [HK.out]; rfl) m trivial
end Go.Proofs.YthieionajemjhaaDoor
