/- The walk over a wheel's Next. -/
import Derived.Test.YthieionajemjhaaDoorWheelSorted
import Derived.Deep.RegionHeld3
namespace Go.Proofs.YthieionajemjhaaDoor
set_option linter.unusedVariables false
set_option linter.unusedSimpArgs false
open Go.RowKit
/-- What Next tells. -/
def SW.firstL (s : SW) : List Int := sortW s (s.lists s.firstK)
def SW.nextE (s : SW) : Int := if s.dues = [] then 12 else 0
def SW.nextV (s : SW) : Nat := if s.dues = [] then 0 else dueW s (nth s.firstL 0)
theorem wheel_lenrun {w : World} {d mb : Nat} {G : Nat → Option Nat × Nat} {s : SW} (h : WheelAt w d mb G s) : (Builtin.len_ #[86] 3 #[.map (some mb)]).run Tryd.prog w = .ok (.int .i64 s.dues.length) w := by
  obtain ⟨es, clk, hb, he⟩ := h.map
  have hlen : es.size = s.dues.length := by have := congrArg List.length he.eq; simpa [duesV] using this
  rw [← hlen]
  simp [Builtin.len_, getObj, Sem.run, hb]
  rfl
set_option maxRecDepth 100000 in
set_option maxHeartbeats 2000000 in
theorem wheel_Next (d mb : Nat) (G : Nat → Option Nat × Nat) (s : SW) (w : World) (h : WheelAt w d mb G s) (hM : ∀ k, (s.lists k).length < 1000000) (hne : s.dues ≠ [] → s.lists s.firstK ≠ []) :
    Calls Tryd.prog 43 #[.pointer (some ⟨d, 0, none⟩)] w (Rets (.tuple #[.int .i64 s.nextV, .int .i64 s.nextE]) [] w fun _ => True) := by
  have cM := h.cellMap
  have hl := wheel_lenrun h
  by_cases hd : s.dues = []
  · have hE : s.nextE = 12 := if_pos hd
    have hV : s.nextV = 0 := if_pos hd
    rw [hE, hV]
    have h0 : s.dues.length = 0 := by rw [hd]; rfl
    rw [h0] at hl
    clear hE hV hd h0
    go_enter Tryd.func43, Tryd.ntmps43
    go_wp2
    go_ret2
    exact Rets.of rfl (Mod.refl _ _) trivial
  · have hE : s.nextE = 0 := if_neg hd
    have hV : s.nextV = dueW s (nth s.firstL 0) := if_neg hd
    rw [hE, hV]
    have h0 : 0 < s.dues.length := List.length_pos_iff.2 hd
    have hfl := hne hd
    have hk := firstK_le s
    have hKl := (h.list s.firstK hk)
    have hpos : 0 < (sortW s (s.lists s.firstK)).length := by rw [sortW_len]; exact List.length_pos_iff.2 hfl
    have hMk := hM s.firstK
    have hln : 0 < (s.lists s.firstK).length := List.length_pos_iff.2 hfl
    have hFst := fun w' hh => wheel_first d mb G s w' hh
    have hSrt := fun w' (hh : WheelAt w' d mb G s) => wheel_sorted d mb G s (G s.firstK).1 (G s.firstK).2 (s.lists s.firstK) w' hh (hh.list s.firstK hk) hMk
    unfold slV at hFst
    unfold SW.firstL
    have hdw : ∃ v : Nat, dueW s (nth (sortW s (s.lists s.firstK)) 0) = v := ⟨_, rfl⟩
    obtain ⟨v, hv⟩ := hdw
    rw [hv]
    have hlk := fun w' (hh : WheelAt w' d mb G s) => dues_lookup hh (nth (sortW s (s.lists s.firstK)) 0)
    rw [hv] at hlk
    have hne2 : sortW s (s.lists s.firstK) ≠ [] := List.length_pos_iff.1 hpos
    clear hE hV hd hM hne hfl hKl hv
    generalize sortW s (s.lists s.firstK) = sl at *
    generalize (s.lists s.firstK).length = ln at *
    generalize hid : nth sl 0 = id at *
    have HID := Lib.hid hid
    clear hid
    generalize (G s.firstK).1 = gk1 at *
    generalize (G s.firstK).2 = gk2 at *
    go_enter Tryd.func43, Tryd.ntmps43
    go_wp2_with fail
    refine wp_region_held_drew (S := fun u => u.cell? ⟨d, 1, none⟩ = some (.map (some mb)) ∧ WheelAt u d mb G s) (by kernel_rfl) ⟨cM, h.same rfl⟩ (fun hHeld => ?_)
    refine wpAnyH_take (i := 0) (v := ?_) rfl (by kernel_rfl) (by kernel_rfl) (by kernel_rfl) (fun _ _ _ h => h) (Or.inl ⟨by rfl, ?_⟩) (by assumption) ?_
    rotate_left
    · intro w hSw; (try dsimp only at hSw); (go_simp <;> with_reducible rfl)
    try simp only [Act.put, List.setIfInBounds_toArray, List.set_cons_zero, List.set_cons_succ]
    refine wpAnyH_take (i := 1) (v := ?_) rfl (by kernel_rfl) (by kernel_rfl) (by kernel_rfl) (fun _ _ _ h => h) (Or.inl ⟨by rfl, ?_⟩) (by assumption) ?_
    rotate_left
    · intro w hSw; (try dsimp only at hSw); (go_simp <;> with_reducible rfl)
    try simp only [Act.put, List.setIfInBounds_toArray, List.set_cons_zero, List.set_cons_succ]
    refine wpAnyH_take (i := 2) (v := ?_) rfl (by kernel_rfl) (by kernel_rfl) (by kernel_rfl) (fun _ _ _ h => h) (Or.inl ⟨by rfl, ?_⟩) (by assumption) ?_
    rotate_left
    · intro w hSw; (try dsimp only at hSw); (go_simp <;> with_reducible rfl)
    try simp only [Act.put, List.setIfInBounds_toArray, List.set_cons_zero, List.set_cons_succ]
    refine wpAnyH_take (i := 3) (v := ?_) rfl (by kernel_rfl) (by kernel_rfl) (by kernel_rfl) (fun _ _ _ h => h) (Or.inl ⟨by rfl, ?_⟩) (by assumption) ?_
    rotate_left
    · intro w hSw; (try dsimp only at hSw); (go_simp <;> with_reducible rfl)
    try simp only [Act.put, List.setIfInBounds_toArray, List.set_cons_zero, List.set_cons_succ]
    refine wpAnyH_take (i := 4) (v := ?_) rfl (by kernel_rfl) (by kernel_rfl) (by kernel_rfl) (fun _ _ _ h => h) (Or.inl ⟨by rfl, ?_⟩) (by assumption) ?_
    rotate_left
    · intro w hSw; (try dsimp only at hSw); (go_simp <;> with_reducible rfl)
    try simp only [Act.put, List.setIfInBounds_toArray, List.set_cons_zero, List.set_cons_succ]
    refine wpAnyH_take (i := 5) (v := ?_) rfl (by kernel_rfl) (by kernel_rfl) (by kernel_rfl) (fun _ _ _ h => h) (Or.inl ⟨by rfl, ?_⟩) (by assumption) ?_
    rotate_left
    · intro w hSw; (try dsimp only at hSw); (go_simp <;> with_reducible rfl)
    try simp only [Act.put, List.setIfInBounds_toArray, List.set_cons_zero, List.set_cons_succ]
    refine wpAnyH_ready (rs := [6]) (by kernel_rfl) (by simp) ?_
    refine AllReadyH.cons rfl (fun K hK => ?_) AllReadyH.nil
    go_simp
    refine (hFst _ (by exact h.same rfl)).mono ?_
    rintro e w6 ⟨rfl, m6, _⟩
    have hk6 : w6.cell? ⟨d, 1, none⟩ = some (.map (some mb)) ∧ WheelAt w6 d mb G s := ⟨m6.undrew.at cM (by simp), h.keep m6.undrew (by simp)⟩
    refine hK.out _ _ (hk6) (fun hHeld => ?_)
    clear hK K
    try simp only [Act.put, List.setIfInBounds_toArray, List.set_cons_zero, List.set_cons_succ]
    refine wpAnyH_ready (rs := [7]) (by kernel_rfl) (by simp) ?_
    refine AllReadyH.cons rfl (fun K hK => ?_) AllReadyH.nil
    go_simp
    refine (hSrt _ (by exact hk6.2)).mono ?_
    rintro e w7 ⟨a7, cap7, rfl, m7, x7, _⟩
    have hk7 : w7.cell? ⟨d, 1, none⟩ = some (.map (some mb)) ∧ WheelAt w7 d mb G s := ⟨m7.at hk6.1 (by simp), hk6.2.keep m7 (by simp)⟩
    have hl7 := hlk w7 hk7.2
    obtain ⟨b7, rfl, hb7, hc7⟩ : ∃ b, a7 = some ⟨b, 0, none⟩ ∧ b < w7.heap.size ∧ ∀ j, j < sl.length → w7.cell? ⟨b, j, none⟩ = some (.int .i64 (nth sl j)) := x7.resolve_left hne2
    have c7 := hc7 0 hpos
    rw [HID.out] at c7
    clear hc7 x7
    refine hK.out _ _ (hk7) (fun hHeld => ?_)
    clear hK K
    try simp only [Act.put, List.setIfInBounds_toArray, List.set_cons_zero, List.set_cons_succ]
    refine wpAnyH_ready (rs := [8]) (by kernel_rfl) (by simp) ?_
    refine AllReadyH.cons rfl (fun K hK => ?_) AllReadyH.nil
    go_simp
    refine hK.out _ _ (hk7) (fun hHeld => ?_)
    clear hK K
    try simp only [Act.put, List.setIfInBounds_toArray, List.set_cons_zero, List.set_cons_succ]
    refine wpAnyH_ready (rs := [9]) (by kernel_rfl) (by simp) ?_
    refine AllReadyH.cons rfl (fun K hK => ?_) AllReadyH.nil
    go_simp
    refine hK.out _ _ (hk7) (fun hHeld => ?_)
    clear hK K
    try simp only [Act.put, List.setIfInBounds_toArray, List.set_cons_zero, List.set_cons_succ]
    refine wpAnyH_ready (rs := [10]) (by kernel_rfl) (by simp) ?_
    refine AllReadyH.cons rfl (fun K hK => ?_) AllReadyH.nil
    go_simp
    refine hK.out _ _ (hk7) (fun hHeld => ?_)
    clear hK K
    try simp only [Act.put, List.setIfInBounds_toArray, List.set_cons_zero, List.set_cons_succ]
    refine wpAnyH_ready (rs := [11]) (by kernel_rfl) (by simp) ?_
    refine AllReadyH.cons rfl (fun K hK => ?_) AllReadyH.nil
    go_simp
    refine hK.out _ _ (hk7) (fun hHeld => ?_)
    clear hK K
    try simp only [Act.put, List.setIfInBounds_toArray, List.set_cons_zero, List.set_cons_succ]
    refine wpAnyH_ready (rs := [12]) (by kernel_rfl) (by simp) ?_
    refine AllReadyH.cons rfl (fun K hK => ?_) AllReadyH.nil
    go_simp
    refine hK.out _ _ (hk7) (fun hHeld => ?_)
    clear hK K
    try simp only [Act.put, List.setIfInBounds_toArray, List.set_cons_zero, List.set_cons_succ]
    refine wpAnyH_done (by kernel_rfl) ?_ _
    go_wp2
    go_ret2
    refine Rets.of rfl ?_ trivial
    exact (m6.undrew).trans m7 (by simp)
end Go.Proofs.YthieionajemjhaaDoor
