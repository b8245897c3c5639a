/- The walks over package timer: Where, When, Now, Next, List, Load, Ready, Cancel, Arm. No condition but those named. -/
import Derived.Test.YthieionajemjhaaDoorTimer
namespace Go.Proofs.YthieionajemjhaaDoor
set_option linter.unusedVariables false
set_option linter.unusedSimpArgs false
open Go.RowKit

theorem mayE1 (n : Nat) (c : Int) : mayE n [c] = if 0 ≤ c ∧ c < n then 0 else 3 := by simp [mayE]
theorem mayE2 (n : Nat) (c d : Int) : mayE n [c, d] = if (0 ≤ c ∧ c < n) ∧ (0 ≤ d ∧ d < n) then 0 else 3 := by simp [mayE]
theorem ints_new1 (w : World) (c : Int) (T : TypeId) : IsInts (w.alloc (.cells #[.int .i64 c] T (0,0))) (some ⟨w.heap.size, 0, none⟩) [c] :=
  .inr ⟨_, rfl, by simp, fun j hj => by
    obtain rfl : j = 0 := by simpa using hj
    exact cellAt (heapNew _ _) 0⟩
theorem ints_new2 (w : World) (c d : Int) (T : TypeId) : IsInts (w.alloc (.cells #[.int .i64 c, .int .i64 d] T (0,0))) (some ⟨w.heap.size, 0, none⟩) [c, d] :=
  .inr ⟨_, rfl, by simp, fun j hj => by
    have hj2 : j = 0 ∨ j = 1 := by simp at hj; omega
    rcases hj2 with rfl | rfl
    · exact cellAt (heapNew _ _) 0
    · exact cellAt (heapNew _ _) 1⟩
section
variable {F : List Nat} {w : World} {d : Nat} {A : TA}
/-- The call asks of one core. -/
theorem timers_may1 (n cap : Nat) (g : Option Addr) (c1 : w.cell? ⟨d, 1, none⟩ = some (.slice g n cap)) (c : Int) :
    Calls Tryd.prog 31 #[.pointer (some ⟨d, 0, none⟩), .slice (some ⟨w.heap.size, 0, none⟩) 1 1] (w.alloc (.cells #[.int .i64 c] 3 (0,0))) (Ret (.int .i64 (if 0 ≤ c ∧ c < n then 0 else 3)) (w.alloc (.cells #[.int .i64 c] 3 (0,0)))) := by
  have := timers_may d n cap g (w.alloc (.cells #[.int .i64 c] 3 (0,0))) (cellNew _ c1) (some ⟨w.heap.size, 0, none⟩) 1 [c] (by simp) (ints_new1 w c _)
  rwa [mayE1] at this
theorem timers_Where_at {mw : Nat} {m : List (Int × Nat)} (c2 : w.cell? ⟨d, 2, none⟩ = some (.map (some mw))) (hm : MapAt .i64 w mw (duesV m)) (id : Int) :
    Calls Tryd.prog 18 #[.pointer (some ⟨d, 0, none⟩), .int .i64 id] w (Ret (.tuple #[.int .i64 ((dget m id).getD 0 : Nat), .bool (dget m id).isSome]) w) := by
  have hlk := whr_lookup2 hm id
  generalize (((dget m id).getD 0 : Nat) : Int) = x at *
  generalize (dget m id).isSome = b at *
  go_enter Tryd.func18, Tryd.ntmps18
  go_wp2
  go_ret2
  exact Ret.of (rfl) (by repeat (first | exact Drew.refl _ | apply Drew.drewN | apply Drew.drew))
theorem timers_Where (h : (timersA d A).holds F w) (id : Int) : Calls Tryd.prog 18 #[.pointer (some ⟨d, 0, none⟩), .int .i64 id] w (Ret (.tuple #[.int .i64 (A.whereV id), .bool (A.whr id).isSome]) w) := by
  obtain ⟨t, p, hs, hA⟩ := timersA_view h
  have := timers_Where_at hA.tcells.2.2 hA.tmap id
  unfold TA.whereV
  rwa [hs.whrE id]
set_option maxRecDepth 100000 in
theorem timers_When (h : (timersA d A).holds F w) (id : Int) : Calls Tryd.prog 20 #[.pointer (some ⟨d, 0, none⟩), .int .i64 id] w (Ret (.tuple #[.int .i64 (A.whenV id), .bool (A.whr id).isSome]) w) := by
  obtain ⟨t, p, hs, hA⟩ := timersA_view h
  obtain ⟨k0, k1, k2⟩ := hA.tcells
  have hW := timers_Where_at k2 hA.tmap id
  unfold TA.whenV
  rw [hs.whrE id]
  cases hd : dget t.whr id with
  | none =>
    rw [hd] at hW
    clear hd hA
    go_enter Tryd.func20, Tryd.ntmps20
    go_wp2_with (go_at_call 18; refine hW.mono ?_; rintro e w' ⟨rfl, k, rfl⟩)
    go_ret2
    exact Ret.of (rfl) (by repeat (first | exact Drew.refl _ | apply Drew.drewN | apply Drew.drew))
  | some c =>
    rw [hd] at hW
    have hc := hs.lt hd
    have hcn : c < t.n := by rw [hs.n]; exact hc
    obtain ⟨hcap1, hcap2⟩ := hA.tcap
    have kp := hA.tptr hcn
    obtain ⟨F1, hw1⟩ := hA.twheel hcn
    have hwhen := fun k => wheelR_When (w := w.drewN k) ((wheelR _ _).keep (S := []) hw1 ((Mod.refl _ _).drewN k) (by simp)) (hs.sim c hc) id
    obtain ⟨v, hv⟩ := Option.isSome_iff_exists.1 ((hs.whr id c).1 hd).2
    rw [hv] at hwhen
    have hcz : (c : Int) < (t.n : Int) := by omega
    simp only [Option.getD_some, Option.isSome_some] at hwhen hW ⊢
    rw [hv]
    clear hd hA hw1 hv
    go_enter Tryd.func20, Tryd.ntmps20
    go_wp2_with (first
      | (go_at_call 18; refine hW.mono ?_; rintro e w' ⟨rfl, k, rfl⟩)
      | (go_at_call 47; refine (hwhen _).mono ?_; rintro e w' ⟨rfl, k2, rfl⟩))
    go_ret2
    exact Ret.of (rfl) (by repeat (first | exact Drew.refl _ | apply Drew.drewN | apply Drew.drew))
set_option maxRecDepth 100000 in
theorem timers_Now (h : (timersA d A).holds F w) : Calls Tryd.prog 27 #[.pointer (some ⟨d, 0, none⟩)] w (Ret (.int .i64 A.now) w) := by
  obtain ⟨t, p, hs, hA⟩ := timersA_view h
  obtain ⟨k0, k1, k2⟩ := hA.tcells
  have hcn : 0 < t.n := by rw [hs.n]; exact hs.n1
  obtain ⟨hcap1, hcap2⟩ := hA.tcap
  have kp := hA.tptr hcn
  obtain ⟨F1, hw1⟩ := hA.twheel hcn
  have hnow := wheelR_Now hw1
  rw [hs.now 0 hs.n1] at hnow
  have hcz : (0 : Int) < (t.n : Int) := by omega
  clear hA hw1
  go_enter Tryd.func27, Tryd.ntmps27
  go_wp2_with (go_at_call 53; refine hnow.mono ?_; rintro e w' ⟨rfl, k, rfl⟩)
  go_ret
  exact Ret.of (rfl) (by repeat (first | exact Drew.refl _ | apply Drew.drewN | apply Drew.drew))
end
end Go.Proofs.YthieionajemjhaaDoor
