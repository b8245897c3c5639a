/- The walks over package timer: Cancel, Arm, Go. No condition but those named. -/
import Derived.Test.YthieionajemjhaaDoorTimer3
namespace Go.Proofs.YthieionajemjhaaDoor
set_option linter.unusedVariables false
set_option linter.unusedSimpArgs false
open Go.RowKit
section
variable {F : List Nat} {w : World} {d : Nat} {A : TA}
set_option maxRecDepth 100000 in
set_option maxHeartbeats 1000000 in
theorem timers_Cancel (h : (timersA d A).holds F w) (id : Int) : Calls Tryd.prog 28 #[.pointer (some ⟨d, 0, none⟩), .int .i64 id] w (Turns (timersA d (A.cancel id)) F (.int .i64 (A.cancelE id)) w) := by
  obtain ⟨t, p, hs, hA⟩ := timersA_view h
  obtain ⟨k0, k1, k2⟩ := hA.tcells
  have hW := timers_Where_at k2 hA.tmap id
  unfold TA.cancelE TA.cancel
  rw [hs.whrE id]
  cases hd : dget t.whr id with
  | none =>
    rw [hd] at hW
    have hg := fun k => (hA.keep (u' := w.drewN k) ((Mod.refl _ _).drewN k)).timers hs
    clear hd hA
    go_enter Tryd.func28, Tryd.ntmps28
    go_wp2_with (go_at_call 18; refine hW.mono ?_; rintro e w' ⟨rfl, k, rfl⟩)
    go_ret
    exact ⟨rfl, hg _⟩
  | some c =>
    rw [hd] at hW
    have hc := hs.lt hd
    have hcn : c < t.n := by rw [hs.n]; exact hc
    have hcz : (c : Int) < (t.n : Int) := by omega
    obtain ⟨hm1, hm2⟩ := hs.mem hd
    have hdr := hs.dropE hd
    have hsim := hs.sim c hc
    have hfin := hs.cancel hd
    obtain ⟨m, rfl⟩ := Int.eq_ofNat_of_zero_le (show 0 ≤ id by omega)
    simp only [Int.toNat_natCast] at hm2
    clear hm1 hd
    go_enter Tryd.func28, Tryd.ntmps28
    go_wp2_with (go_at_call 18; refine hW.mono ?_; rintro e w' ⟨rfl, k, rfl⟩)
    obtain ⟨w1, hrun, hB⟩ := (hA.keep (u' := w.drewN k) ((Mod.refl _ _).drewN k)).tdel m
    clear hA k0 k1 k2 hW
    obtain ⟨k0, k1, k2⟩ := hB.tcells
    rw [hrun]
    go_wp2_with (first
      | (
        go_at_call 54
        refine (hB.call 1 rfl (fun F1 h1 => slot_Give _ _ _ _ _ h1 m hm2)).mono ?_
        rintro e w2 ⟨rfl, hC⟩
        clear hB k0 k1 k2
        have hC : On F w (timersL d p { t with whr := ddel t.whr m, ids := t.ids.erase m }) w2 := hC
        obtain ⟨k0, k1, k2⟩ := hC.tcells
        obtain ⟨hcap1, hcap2⟩ := hC.tcap
        have kp := hC.tptr hcn
        )
      | (
        go_at_call 34
        refine (hC.twheelDo hcn (fun F1 h1 => wheelR_Drop h1 hsim m)).mono ?_
        rintro e w3 ⟨rfl, hD⟩
        )
      )
    go_ret
    exact ⟨rfl, On.timers (t := t.cancel c m) hD hfin⟩
set_option maxRecDepth 100000 in
set_option maxHeartbeats 1000000 in
theorem timers_Arm (h : (timersA d A).holds F w) (hT : Tab w) (hF : tzL_ren.g 1 ∉ F) (cpu due : Int) : Calls Tryd.prog 8 #[.pointer (some ⟨d, 0, none⟩), .int .i64 cpu, .int .i64 due] w (Turns (timersA d (A.arm cpu due)) F (.tuple #[.int .i64 (A.armV cpu due), .int .i64 (A.armE cpu due)]) w) := by
  obtain ⟨t, p, hs, hA⟩ := timersA_view h
  obtain ⟨k0, k1, k2⟩ := hA.tcells
  have hmay := timers_may1 (w := w) _ _ _ k1 cpu
  rw [hs.n] at hmay
  have mA : ∀ k, Mod [] w ((w.alloc (.cells #[.int .i64 cpu] 3 (0,0))).drewN k) := fun k => ((Mod.refl _ _).alloc _).drewN k
  unfold TA.arm TA.armV
  have hB := fun k => hA.keep (mA k)
  by_cases hi : A.is cpu
  case neg =>
    have hE : A.armE cpu due = 3 := by unfold TA.armE; rw [if_pos hi]
    rw [hE]
    rw [if_neg (show ¬ (0 ≤ cpu ∧ cpu < (A.n : Int)) from hi)] at hmay
    have hg := fun k => (hB k).timers hs
    clear hA hi hE hB
    go_enter Tryd.func8, Tryd.ntmps8
    go_wp2_with (go_at_call 31; refine hmay.mono ?_; rintro e w' ⟨rfl, k, rfl⟩)
    go_ret2
    exact ⟨rfl, hg _⟩
  obtain ⟨hi1, hi2⟩ := hi
  rw [if_pos ⟨hi1, hi2⟩] at hmay
  by_cases hd : tickOk due
  case neg =>
    have hE : A.armE cpu due = 2 := by unfold TA.armE; rw [if_neg (fun x => x ⟨hi1, hi2⟩), if_pos hd]
    rw [hE]
    have hg := fun k => (hB k).timers hs
    have hd2 : due < 0 ∨ (0 ≤ due ∧ 1152921504606846976 < due) := by unfold tickOk at hd; omega
    clear hA hE hB hd
    rcases hd2 with hd2 | ⟨hd1, hd2⟩
    all_goals
      go_enter Tryd.func8, Tryd.ntmps8
      go_wp2_with (go_at_call 31; refine hmay.mono ?_; rintro e w' ⟨rfl, k, rfl⟩)
      go_ret2
      exact ⟨rfl, hg _⟩
  have hd1 := hd.1
  have hd2 := hd.2
  have hfull := hs.full
  have hlow := hs.low
  have k0' := cellNew (.cells #[.int .i64 cpu] 3 (0,0)) k0
  by_cases hf : 48 < A.low
  · have hE : A.armE cpu due = 5 := by unfold TA.armE; rw [if_neg (fun x => x ⟨hi1, hi2⟩), if_neg (fun x => x hd), if_pos hf]
    rw [hE]
    have hg := fun k => (hB k).timers hs
    have hl := hfull.2 hf
    have hq := fun k => ((hB k).get 1 rfl)
    have hTk := fun k => slot_Take_full _ _ _ _ _ (hq k).choose_spec hl
    clear hA hE hB hfull hq hd
    go_enter Tryd.func8, Tryd.ntmps8
    go_wp2_with (first
      | (go_at_call 31; refine hmay.mono ?_; rintro e w' ⟨rfl, k, rfl⟩)
      | (go_at_call 32; refine (hTk _).mono ?_; rintro e w' ⟨rfl, k3, rfl⟩))
    go_ret2
    exact ⟨rfl, hg _⟩
  · have hE : A.armE cpu due = 0 := by unfold TA.armE; rw [if_neg (fun x => x ⟨hi1, hi2⟩), if_neg (fun x => x hd), if_neg hf]
    rw [hE]
    obtain ⟨c, rfl⟩ := Int.eq_ofNat_of_zero_le hi1
    have hc : c < A.n := by omega
    have hcn : c < t.n := by rw [hs.n]; exact hc
    have hcz : (c : Int) < (t.n : Int) := by omega
    have hl : t.ids.length ≠ 48 := fun x => hf (hfull.1 x)
    have hle : lowN t.ids ≤ 48 := by rw [← hlow]; omega
    have hfin := hs.arm hc hd hle
    have hadd := hs.addE hc hs.lowNone hd
    have hsim := hs.sim c hc
    have hlen := hs.len hc
    rw [if_pos rfl, if_pos rfl, hlow]
    have hTk := fun k => hT.keep (mA k) (by simp)
    have hFl : ∀ b, b ∈ F → b < w.heap.size := fun b hb => (timersA d A).lt h b hb
    have htl := hT.lt
    simp only [Int.toNat_natCast]
    clear hA hE hfull hlow hf hi1 k1 k2 hd
    go_enter Tryd.func8, Tryd.ntmps8
    go_wp2_with (first
      | (go_at_call 31; refine hmay.mono ?_; rintro e w' ⟨rfl, k, rfl⟩)
      | (
        go_at_call 32
        refine ((hB k).call 1 rfl (fun F1 h1 => slot_Take _ _ _ _ _ h1 (hTk k) hl)).mono ?_
        rintro e w2 ⟨rfl, hC⟩
        clear hB k0 k0' hTk
        have hC : On F w (timersL d p { t with ids := lowN t.ids :: t.ids }) w2 := hC
        obtain ⟨k0, k1, k2⟩ := hC.tcells
        obtain ⟨w3, hrun, hD⟩ := hC.tput (lowN t.ids) c
        obtain ⟨j0, j1, j2⟩ := hD.tcells
        obtain ⟨hcap1, hcap2⟩ := hD.tcap
        have kp := hD.tptr hcn
        clear hC
        )
      | (
        go_at_call 33
        refine (hD.twheelDo hcn (fun F1 h1 => wheelR_Add h1 hsim (by omega) (lowN t.ids) due)).mono ?_
        rintro e w4 ⟨rfl, hG⟩
        )
      )
    go_ret2
    exact ⟨rfl, On.timers (t := t.arm c due) hG hfin⟩
end
end Go.Proofs.YthieionajemjhaaDoor
