/- The walk over davitref26.Same at two equal lists of events: it says yes. -/
import Derived.Test.YtiegnbdoidiffaaScriptRef
namespace Go.Proofs.Ytiegnbdoidiffaa
set_option linter.unusedVariables false
set_option linter.unusedSimpArgs false
open Go.RowKit

/-- The cells of an event are five whole numbers. -/
theorem evC_form (y c : Int) : ∃ k u i m n : Int, evC y c = [.int .i64 k, .int .i64 u, .int .i64 i, .int .u64 m, .int .i64 n] := by
  unfold evC evR
  split
  · exact ⟨_, _, _, _, _, rfl⟩
  · exact ⟨_, _, _, _, _, rfl⟩
theorem evs_cell {c x : Int} {n : Nat} {w : World} {g : Option Nat} {cap : Nat} (h : RAt 48 5 w g cap n (evs c x n)) {i : Nat} (hi : i < n) {k u a m z : Int} (he : evC (nX c x i) c = [.int .i64 k, .int .i64 u, .int .i64 a, .int .u64 m, .int .i64 z]) :
    ∃ b, g = some b ∧ w.cell? ⟨b, i * 5, none⟩ = some (.int .i64 k) ∧ w.cell? ⟨b, i * 5 + 1, none⟩ = some (.int .i64 u) ∧ w.cell? ⟨b, i * 5 + 2, none⟩ = some (.int .i64 a) ∧ w.cell? ⟨b, i * 5 + 3, none⟩ = some (.int .u64 m) ∧ w.cell? ⟨b, i * 5 + 4, none⟩ = some (.int .i64 z) := by
  have hg := fun j (hj : j < 5) => evs_get c x hj hi
  simp only [he] at hg
  obtain ⟨b, rfl, h0⟩ := h.cell (j := i * 5) (by simpa using hg 0 (by omega))
  have hh : ∀ j v, j < 5 → ([.int .i64 k, .int .i64 u, .int .i64 a, .int .u64 m, .int .i64 z] : List Value)[j]? = some v → w.cell? ⟨b, i * 5 + j, none⟩ = some v := by
    intro j v hj hv
    obtain ⟨b', e, h'⟩ := h.cell (j := i * 5 + j) (by rw [hg j hj]; exact hv)
    cases e; exact h'
  exact ⟨b, rfl, h0, hh 1 _ (by omega) rfl, hh 2 _ (by omega) rfl, hh 3 _ (by omega) rfl, hh 4 _ (by omega) rfl⟩

set_option maxRecDepth 100000 in
set_option maxHeartbeats 1000000 in
theorem ref_Same (c x : Int) (n : Nat) (hn : n ≤ 1000000) (g1 g2 : Option Nat) (cap1 cap2 : Nat) (w : World) (h1 : RAt 48 5 w g1 cap1 n (evs c x n)) (h2 : RAt 48 5 w g2 cap2 n (evs c x n)) :
    Calls Try.prog 34 #[.slice (rA g1) n cap1, .slice (rA g2) n cap2] w (Ret (.bool true) w) := by
  have hc1 := h1.cap
  have hc2 := h2.cap
  unfold maxLen at hc1 hc2
  obtain ⟨c11, c12⟩ := hc1
  obtain ⟨c21, c22⟩ := hc2
  go_enter Try.func34, Try.ntmps34
  go_wp2
  go_loopg [5] n (fun gg i wr => ∃ j : Nat, i = .int .i64 j ∧ j + gg = n ∧ Drew w wr)
  case atStart => exact ⟨0, rfl, by omega, Drew.refl _⟩
  case round =>
    obtain ⟨j, rfl, hj, hD⟩ := hrel
    obtain ⟨kd, rfl⟩ := hD
    by_cases hlt : j < n
    · obtain ⟨k, u, a, m, z, he⟩ := evC_form (nX c x j) c
      obtain ⟨b1, rfl, p0, p1, p2, p3, p4⟩ := evs_cell h1 hlt he
      obtain ⟨b2, rfl, q0, q1, q2, q3, q4⟩ := evs_cell h2 hlt he
      simp only [rA]
      have hlt2 : (j : Int) < n := by omega
      clear h1 h2 he
      go_wp2
      go_quiet (fail)
      go_wp2
      go_roundg (gk - 1)
      case measure => omega
      case rel => exact ⟨j + 1, by go_num, by omega, ⟨kd + nq, by first | rfl | simp⟩⟩
    · clear h1 h2
      have hlt2 : ¬ (j : Int) < n := by omega
      go_wp2
      go_ret
      exact Ret.of (rfl) (by repeat (first | exact Drew.refl _ | apply Drew.drewN | apply Drew.drew))
end Go.Proofs.Ytiegnbdoidiffaa
