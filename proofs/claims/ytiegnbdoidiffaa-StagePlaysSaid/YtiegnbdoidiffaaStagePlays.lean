/- The law StagePlays: its walk comes to true at every input. No condition. -/
import Derived.Test.YtiegnbdoidiffaaStageKnown
import Derived.Test.YtiegnbdoidiffaaStageRef
namespace Go.Proofs.Ytiegnbdoidiffaa
open Go.RowKit

set_option maxRecDepth 100000 in
theorem StagePlays_walk (w : World) (n : Int) (_hn : (Lit.int .i64 n).wf = true) (a : Option Addr) (len cap : Nat) (A : Nat → Bool) (hA : IsArr 1 (fun z => [.bool z]) (fun _ => True) w a len cap A) :
    Calls Try.prog 3 #[.int .i64 n, .slice a len cap] w (Rets (.bool true) [] w fun _ => True) := by
  by_cases hn : 1 ≤ n ∧ n ≤ 64
  · obtain ⟨h1, h2⟩ := hn
    obtain ⟨n, rfl⟩ := Int.eq_ofNat_of_zero_le (show 0 ≤ n by omega)
    obtain ⟨hlc, hcm, hA⟩ := hA
    unfold maxLen at hcm
    go_enter Try.func3, Try.ntmps3
    go_wp2_with (go_at_call 13; refine (New_ok n _ (by omega) (by omega)).mono ?_; rintro e w1 ⟨rfl, m1, hs1, x1⟩)
    go_wp2_with (go_at_call 14; refine (rNew_ok n _ (by omega) (by omega)).mono ?_; rintro e w2 ⟨rfl, m2, hs2, r2⟩)
    go_loopg [9] len (fun g i wr => ∃ (k : Nat) (s : SRun), i = .int .i64 k ∧ k + g = len ∧ XRun wr w.heap.size s ∧ RRun wr (w1.heap.size + 1) w1.heap.size s ∧ Mod [] w wr)
    case atStart => exact ⟨0, _, rfl, by omega, x1.keep m2 (by simp), r2, m1.trans m2 (by simp)⟩
    case round =>
      obtain ⟨k, s, rfl, hk, x, r, m⟩ := hrel
      have hs1' : w.heap.size < w1.heap.size := by omega
      by_cases hkl : k < len ∧ k < 200
      · obtain ⟨hkl, hk2⟩ := hkl
        have hc : ∃ b off, a = some ⟨b, off, none⟩ ∧ wr.cell? ⟨b, off + k, none⟩ = some (.bool (A k)) := by
          rcases hA with hA | ⟨b, off, ha, hb, hA⟩
          · omega
          · exact ⟨b, off, ha, by have := (hA k hkl).2 0 (by omega); simp only [Nat.mul_one, Nat.add_zero, List.getElem?_cons_zero] at this; rw [← this]; exact m.cell (p := ⟨b, off + k, none⟩) hb (by simp)⟩
        obtain ⟨b, off, rfl, hc⟩ := hc
        clear hA hs1 hs2 x1 r2 m1 m2
        cases hAk : A k
        all_goals
          rw [hAk] at hc
          clear hAk
        · go_wp2_with (go_at_call 18; refine (Fail_any _ _ _ x).mono ?_; rintro e w3 ⟨rfl, m3, x3⟩)
          have r3 := r.keep m3 (by simp; omega) (by simp; omega)
          go_wp2_with (go_at_call 19; refine (rFail_any _ _ _ _ r3).mono ?_; rintro e w4 ⟨rfl, m4, r4⟩)
          have x4 := x3.keep m4 (by simp; omega)
          go_wp2_with (go_at_call 20; refine (At_any _ _ _ x4).mono ?_; rintro e w5 ⟨rfl, k5, rfl⟩)
          go_wp2_with (go_at_call 21; refine (rAt_any (w1.heap.size + 1) w1.heap.size s.fail (w4.drewN k5) r4).mono ?_; rintro e w5 ⟨rfl, k6, rfl⟩)
          go_wp2_with (go_at_call 22; refine (Why_any w.heap.size s.fail (w4.drewN (k5 + k6)) x4).mono ?_; rintro e w5 ⟨rfl, k7, rfl⟩)
          go_wp2_with (go_at_call 23; refine (rWhy_any (w1.heap.size + 1) w1.heap.size s.fail (w4.drewN (k5 + k6 + k7)) r4).mono ?_; rintro e w5 ⟨rfl, k8, rfl⟩)
          go_wp2_with (go_at_call 24; refine (Many_any w.heap.size s.fail (w4.drewN (k5 + k6 + k7 + k8)) x4).mono ?_; rintro e w5 ⟨rfl, k9, rfl⟩)
          go_wp2_with (go_at_call 25; refine (rMany_any (w1.heap.size + 1) w1.heap.size s.fail (w4.drewN (k5 + k6 + k7 + k8 + k9)) r4).mono ?_; rintro e w5 ⟨rfl, k10, rfl⟩)
          go_roundg (gk - 1)
          case measure => omega
          case rel => exact ⟨k + 1, s.fail, by go_num, by omega, x4, r4, ((m.trans m3 (by simp)).trans m4 (by simp; omega)).drewN _⟩
        · go_wp2_with (go_at_call 16; refine (Done_any _ _ _ x).mono ?_; rintro e w3 ⟨rfl, m3, x3⟩)
          have r3 := r.keep m3 (by simp; omega) (by simp; omega)
          go_wp2_with (go_at_call 17; refine (rDone_any _ _ _ _ r3).mono ?_; rintro e w4 ⟨rfl, m4, r4⟩)
          have x4 := x3.keep m4 (by simp; omega)
          go_wp2_with (go_at_call 20; refine (At_any _ _ _ x4).mono ?_; rintro e w5 ⟨rfl, k5, rfl⟩)
          go_wp2_with (go_at_call 21; refine (rAt_any (w1.heap.size + 1) w1.heap.size s.done (w4.drewN k5) r4).mono ?_; rintro e w5 ⟨rfl, k6, rfl⟩)
          go_wp2_with (go_at_call 22; refine (Why_any w.heap.size s.done (w4.drewN (k5 + k6)) x4).mono ?_; rintro e w5 ⟨rfl, k7, rfl⟩)
          go_wp2_with (go_at_call 23; refine (rWhy_any (w1.heap.size + 1) w1.heap.size s.done (w4.drewN (k5 + k6 + k7)) r4).mono ?_; rintro e w5 ⟨rfl, k8, rfl⟩)
          go_wp2_with (go_at_call 24; refine (Many_any w.heap.size s.done (w4.drewN (k5 + k6 + k7 + k8)) x4).mono ?_; rintro e w5 ⟨rfl, k9, rfl⟩)
          go_wp2_with (go_at_call 25; refine (rMany_any (w1.heap.size + 1) w1.heap.size s.done (w4.drewN (k5 + k6 + k7 + k8 + k9)) r4).mono ?_; rintro e w5 ⟨rfl, k10, rfl⟩)
          go_roundg (gk - 1)
          case measure => omega
          case rel => exact ⟨k + 1, s.done, by go_num, by omega, x4, r4, ((m.trans m3 (by simp)).trans m4 (by simp; omega)).drewN _⟩
      · have hne : ¬ ((k : Int) < (len : Int)) ∨ ((k : Int) < (len : Int) ∧ ¬ ((k : Int) < 200)) := by omega
        clear hkl hA
        rcases hne with h4 | ⟨h3, h4⟩
        all_goals
          go_wp2_with (go_at_call 15; refine (known21 _).mono ?_; rintro e w7 ⟨rfl, m7, _⟩)
          go_ret
          exact Rets.of rfl (m.trans m7 (by simp)) trivial
  · have h4 : n < 1 ∨ 64 < n := by omega
    clear hn hA
    have hN := fun w => New_no n w h4
    have hR := fun w => rNew_no n w h4
    rcases h4 with h4 | h4
    all_goals
      go_enter Try.func3, Try.ntmps3
      go_wp2_with (go_at_call 13; refine (hN _).mono ?_; rintro e w1 ⟨rfl, k1, rfl⟩)
      go_wp2_with (go_at_call 14; refine (hR _).mono ?_; rintro e w1 ⟨rfl, k2, rfl⟩)
      go_wp2_with (go_at_call 15; refine (known21 _).mono ?_; rintro e w7 ⟨rfl, m7, _⟩)
      go_ret
      exact Rets.of rfl (((Mod.refl _ _).drewN _).trans m7 (by simp)) trivial
end Go.Proofs.Ytiegnbdoidiffaa
