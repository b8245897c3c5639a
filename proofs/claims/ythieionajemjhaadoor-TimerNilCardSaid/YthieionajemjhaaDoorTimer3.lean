/- The walks over package timer: Next, List, Load, Ready, Cancel. No condition but those named. -/
import Derived.Test.YthieionajemjhaaDoorTimer2
namespace Go.Proofs.YthieionajemjhaaDoor
set_option linter.unusedVariables false
set_option linter.unusedSimpArgs false
open Go.RowKit
section
variable {F : List Nat} {w : World} {d : Nat} {A : TA}
set_option maxRecDepth 100000 in
theorem timers_Next (h : (timersA d A).holds F w) (cpu : Int) : Calls Tryd.prog 16 #[.pointer (some ⟨d, 0, none⟩), .int .i64 cpu] w (fun e w' => e = .returned (.tuple #[.int .i64 (A.nextV cpu), .int .i64 (A.nextE cpu)]) ∧ Mod [] w w') := by
  obtain ⟨t, p, hs, hA⟩ := timersA_view h
  obtain ⟨k0, k1, k2⟩ := hA.tcells
  have hmay := timers_may1 (w := w) _ _ _ k1 cpu
  rw [hs.n] at hmay k1
  unfold TA.nextV TA.nextE
  by_cases hi : A.is cpu
  · rw [if_neg (fun x => x hi), if_neg (fun x => x hi)]
    obtain ⟨hi1, hi2⟩ := hi
    rw [if_pos ⟨hi1, hi2⟩] at hmay
    obtain ⟨c, rfl⟩ := Int.eq_ofNat_of_zero_le hi1
    have hc : c < A.n := by omega
    have hcn : c < t.n := by rw [hs.n]; exact hc
    obtain ⟨hcap1, hcap2⟩ := hA.tcap
    rw [hs.n] at hcap1
    have mA : ∀ k, Mod [] w ((w.alloc (.cells #[.int .i64 (c : Int)] 3 (0,0))).drewN k) := fun k => ((Mod.refl _ _).alloc _).drewN k
    have hB := fun k => hA.keep (mA k)
    have kp := cellNew (.cells #[.int .i64 (c : Int)] 3 (0,0)) (hA.tptr hcn)
    have k1' := cellNew (.cells #[.int .i64 (c : Int)] 3 (0,0)) k1
    have hsim := hs.sim c hc
    have hlen := hs.len hc
    have hq := fun k => (hB k).twheel hcn
    have hN := fun k => wheelR_Next (hq k).choose_spec hsim (by omega)
    simp only [Int.toNat_natCast]
    clear hA hB hq hi1
    generalize (rnextV (A.L c) : Int) = v at *
    generalize rnextE (A.L c) = ee at *
    go_enter Tryd.func16, Tryd.ntmps16
    go_wp2_with (first
      | (go_at_call 31; refine hmay.mono ?_; rintro e w' ⟨rfl, k, rfl⟩)
      | (go_at_call 43; refine (hN _).mono ?_; rintro e w2 ⟨rfl, m2⟩))
    go_ret2
    exact ⟨rfl, (mA k).trans m2 (by simp)⟩
  · rw [if_pos hi, if_pos hi]
    rw [if_neg (show ¬ (0 ≤ cpu ∧ cpu < (A.n : Int)) from hi)] at hmay
    clear hA hi
    go_enter Tryd.func16, Tryd.ntmps16
    go_wp2_with (go_at_call 31; refine hmay.mono ?_; rintro e w' ⟨rfl, k, rfl⟩)
    go_ret2
    exact ⟨rfl, ((Mod.refl _ _).alloc _).drewN _⟩
set_option maxRecDepth 100000 in
theorem timers_List (h : (timersA d A).holds F w) (cpu : Int) : Calls Tryd.prog 26 #[.pointer (some ⟨d, 0, none⟩), .int .i64 cpu] w (NewInts (A.list cpu) w) := by
  obtain ⟨t, p, hs, hA⟩ := timersA_view h
  obtain ⟨k0, k1, k2⟩ := hA.tcells
  have hmay := timers_may1 (w := w) _ _ _ k1 cpu
  rw [hs.n] at hmay k1
  unfold TA.list
  by_cases hi : A.is cpu
  · rw [if_pos hi]
    obtain ⟨hi1, hi2⟩ := hi
    rw [if_pos ⟨hi1, hi2⟩] at hmay
    obtain ⟨c, rfl⟩ := Int.eq_ofNat_of_zero_le hi1
    have hc : c < A.n := by omega
    have hcn : c < t.n := by rw [hs.n]; exact hc
    obtain ⟨hcap1, hcap2⟩ := hA.tcap
    rw [hs.n] at hcap1
    have mA : ∀ k, Mod [] w ((w.alloc (.cells #[.int .i64 (c : Int)] 3 (0,0))).drewN k) := fun k => ((Mod.refl _ _).alloc _).drewN k
    have hB := fun k => hA.keep (mA k)
    have kp := cellNew (.cells #[.int .i64 (c : Int)] 3 (0,0)) (hA.tptr hcn)
    have k1' := cellNew (.cells #[.int .i64 (c : Int)] 3 (0,0)) k1
    have hsim := hs.sim c hc
    have hlen := hs.len hc
    have hq := fun k => (hB k).twheel hcn
    have hN := fun k => wheelR_List (hq k).choose_spec hsim (by omega)
    simp only [Int.toNat_natCast]
    clear hA hB hq hi1
    generalize idsOf (A.L c) = v at *
    go_enter Tryd.func26, Tryd.ntmps26
    go_wp2_with (first
      | (go_at_call 31; refine hmay.mono ?_; rintro e w' ⟨rfl, k, rfl⟩)
      | (go_at_call 52; refine (hN _).mono ?_; rintro e w2 ⟨a2, c2, rfl, m2, i2, n2⟩))
    go_ret
    exact ⟨a2, c2, rfl, (mA k).trans m2 (by simp), i2, fun b o e => by have := n2 b o e; simp at this; omega⟩
  · rw [if_neg hi]
    rw [if_neg (show ¬ (0 ≤ cpu ∧ cpu < (A.n : Int)) from hi)] at hmay
    clear hA hi
    go_enter Tryd.func26, Tryd.ntmps26
    go_wp2_with (go_at_call 31; refine hmay.mono ?_; rintro e w' ⟨rfl, k, rfl⟩)
    go_ret
    exact ⟨none, 0, rfl, ((Mod.refl _ _).alloc _).drewN _, .inl rfl, fun b o e => by cases e⟩
set_option maxRecDepth 100000 in
theorem timers_Load (h : (timersA d A).holds F w) (cpu : Int) : Calls Tryd.prog 24 #[.pointer (some ⟨d, 0, none⟩), .int .i64 cpu] w (fun e w' => e = .returned (.int .i64 (A.list cpu).length) ∧ Mod [] w w') := by
  obtain ⟨t, p, hs, hA⟩ := timersA_view h
  obtain ⟨k0, k1, k2⟩ := hA.tcells
  have hmay := timers_may1 (w := w) _ _ _ k1 cpu
  rw [hs.n] at hmay k1
  unfold TA.list
  by_cases hi : A.is cpu
  · rw [if_pos hi]
    obtain ⟨hi1, hi2⟩ := hi
    rw [if_pos ⟨hi1, hi2⟩] at hmay
    obtain ⟨c, rfl⟩ := Int.eq_ofNat_of_zero_le hi1
    have hc : c < A.n := by omega
    have hcn : c < t.n := by rw [hs.n]; exact hc
    obtain ⟨hcap1, hcap2⟩ := hA.tcap
    rw [hs.n] at hcap1
    have mA : ∀ k, Mod [] w ((w.alloc (.cells #[.int .i64 (c : Int)] 3 (0,0))).drewN k) := fun k => ((Mod.refl _ _).alloc _).drewN k
    have hB := fun k => hA.keep (mA k)
    have kp := cellNew (.cells #[.int .i64 (c : Int)] 3 (0,0)) (hA.tptr hcn)
    have k1' := cellNew (.cells #[.int .i64 (c : Int)] 3 (0,0)) k1
    have hsim := hs.sim c hc
    have hlen := hs.len hc
    have hq := fun k => (hB k).twheel hcn
    have hN := fun k => wheelR_Len (hq k).choose_spec hsim
    simp only [Int.toNat_natCast]
    have hle : (idsOf (A.L c)).length = (A.L c).length := by simp [idsOf]
    rw [hle]
    clear hA hB hq hi1 hle
    generalize ((A.L c).length : Int) = v at *
    go_enter Tryd.func24, Tryd.ntmps24
    go_wp2_with (first
      | (go_at_call 31; refine hmay.mono ?_; rintro e w' ⟨rfl, k, rfl⟩)
      | (go_at_call 51; refine (hN _).mono ?_; rintro e w2 ⟨rfl, k2, rfl⟩))
    go_ret
    exact ⟨rfl, ((Mod.refl _ _).alloc _).drewN _⟩
  · rw [if_neg hi]
    rw [if_neg (show ¬ (0 ≤ cpu ∧ cpu < (A.n : Int)) from hi)] at hmay
    clear hA hi
    go_enter Tryd.func24, Tryd.ntmps24
    go_wp2_with (go_at_call 31; refine hmay.mono ?_; rintro e w' ⟨rfl, k, rfl⟩)
    go_ret
    exact ⟨rfl, ((Mod.refl _ _).alloc _).drewN _⟩
set_option maxRecDepth 100000 in
theorem timers_Ready (h : (timersA d A).holds F w) (cpu : Int) : Calls Tryd.prog 11 #[.pointer (some ⟨d, 0, none⟩), .int .i64 cpu] w (fun e w' => e = .returned (.bool (A.ready cpu)) ∧ Mod [] w w') := by
  obtain ⟨t, p, hs, hA⟩ := timersA_view h
  obtain ⟨k0, k1, k2⟩ := hA.tcells
  have hmay := timers_may1 (w := w) _ _ _ k1 cpu
  rw [hs.n] at hmay k1
  unfold TA.ready TA.due
  by_cases hi : A.is cpu
  · rw [decide_eq_true hi]
    obtain ⟨hi1, hi2⟩ := hi
    rw [if_pos ⟨hi1, hi2⟩] at hmay
    obtain ⟨c, rfl⟩ := Int.eq_ofNat_of_zero_le hi1
    have hc : c < A.n := by omega
    have hcn : c < t.n := by rw [hs.n]; exact hc
    obtain ⟨hcap1, hcap2⟩ := hA.tcap
    rw [hs.n] at hcap1
    have mA : ∀ k, Mod [] w ((w.alloc (.cells #[.int .i64 (c : Int)] 3 (0,0))).drewN k) := fun k => ((Mod.refl _ _).alloc _).drewN k
    have hB := fun k => hA.keep (mA k)
    have kp := cellNew (.cells #[.int .i64 (c : Int)] 3 (0,0)) (hA.tptr hcn)
    have k1' := cellNew (.cells #[.int .i64 (c : Int)] 3 (0,0)) k1
    have hsim := hs.sim c hc
    have hlen := hs.len hc
    have hq := fun k => (hB k).twheel hcn
    have hN := fun k => wheelR_Due (hq k).choose_spec hsim (by omega)
    rw [hs.now c hc] at hN
    simp only [Int.toNat_natCast]
    have hle : (true && !(dueL A.now (A.L c)).isEmpty) = decide ((0 : Int) < (idsOf (dueL A.now (A.L c))).length) := by
      cases dueL A.now (A.L c) <;> simp [idsOf]
    rw [hle]
    clear hA hB hq hi1 hle
    generalize idsOf (dueL A.now (A.L c)) = v at *
    go_enter Tryd.func11, Tryd.ntmps11
    go_wp2_with (first
      | (go_at_call 31; refine hmay.mono ?_; rintro e w' ⟨rfl, k, rfl⟩)
      | (go_at_call 36; refine (hN _).mono ?_; rintro e w2 ⟨a2, c2, rfl, m2, i2, n2⟩))
    go_ret
    exact ⟨by simp, (mA k).trans m2 (by simp)⟩
  · rw [decide_eq_false hi]
    rw [if_neg (show ¬ (0 ≤ cpu ∧ cpu < (A.n : Int)) from hi)] at hmay
    clear hA hi
    go_enter Tryd.func11, Tryd.ntmps11
    go_wp2_with (go_at_call 31; refine hmay.mono ?_; rintro e w' ⟨rfl, k, rfl⟩)
    go_ret
    exact ⟨by simp, ((Mod.refl _ _).alloc _).drewN _⟩
end
end Go.Proofs.YthieionajemjhaaDoor
