/- The walk over davitref01's Ints: whether two slices of int are alike. -/
import Derived.Test.YthieionajemjhaaDoorWheelList
namespace Go.Proofs.YthieionajemjhaaDoor
set_option linter.unusedVariables false
set_option linter.unusedSimpArgs false
open Go.RowKit
theorem IsInts.same {w w' : World} {a : Option Addr} {l : List Int} (h : IsInts w a l) (e : w'.heap = w.heap) : IsInts w' a l := by
  rcases h with h | ⟨b, h1, h2, h3⟩
  · exact .inl h
  · refine .inr ⟨b, h1, by rw [e]; exact h2, fun j hj => ?_⟩
    rw [← h3 j hj]
    unfold World.cell?
    rw [e]
theorem IsInts.keep {S : List Nat} {w w' : World} {a : Option Addr} {l : List Int} (h : IsInts w a l) (m : Mod S w w') (hS : ∀ b o, a = some ⟨b, o, none⟩ → b ∉ S) : IsInts w' a l := by
  rcases h with h | ⟨b, h1, h2, h3⟩
  · exact .inl h
  · exact .inr ⟨b, h1, Nat.lt_of_lt_of_le h2 m.size, fun j hj => m.at (h3 j hj) (hS b 0 h1)⟩
theorem take_eq_step {l m : List Int} {j : Nat} (h1 : j < l.length) (h2 : j < m.length) (he : l.take j = m.take j) (hn : nth l j = nth m j) : l.take (j + 1) = m.take (j + 1) := by
  rw [mem_take_nth h1, mem_take_nth h2, he, hn]
set_option maxRecDepth 100000 in
set_option maxHeartbeats 1000000 in
theorem masks_Ints (a1 a2 : Option Addr) (c1 c2 : Nat) (l1 l2 : List Int) (w : World) (h1 : IsInts w a1 l1) (h2 : IsInts w a2 l2) (hs1 : l1.length ≤ 1000000) (hs2 : l2.length ≤ 1000000) :
    Calls Tryd.prog 25 #[.slice a1 l1.length c1, .slice a2 l2.length c2] w (Ret (.bool (decide (l1 = l2))) w) := by
  by_cases hl : l1.length = l2.length
  case neg =>
    have hD : decide (l1 = l2) = false := decide_eq_false (fun h => hl (by rw [h]))
    rw [hD]
    have hl2 : ¬ ((l1.length : Int) = l2.length) := by omega
    clear hD h1 h2
    go_enter Tryd.func25, Tryd.ntmps25
    go_wp2
    go_ret
    exact Ret.of (rfl) (by repeat (first | exact Drew.refl _ | apply Drew.drewN | apply Drew.drew))
  rw [← hl]
  go_enter Tryd.func25, Tryd.ntmps25
  go_wp2
  go_loopg [5] l1.length (fun gg i wr => ∃ j : Nat, i = .int .i64 j ∧ j + gg = l1.length ∧ l1.take j = l2.take j ∧ Drew w wr)
  case atStart => exact ⟨0, rfl, by omega, by simp, Drew.refl _⟩
  case round =>
    obtain ⟨j, rfl, hj, he, hD⟩ := hrel
    by_cases hlt : j < l1.length
    · have hlt2 : (j : Int) < l1.length := by omega
      have h1' := h1.same hD.heap
      have h2' := h2.same hD.heap
      obtain ⟨b1, rfl, _, hc1⟩ := h1'.resolve_left (fun e => by rw [e] at hlt; simp at hlt)
      obtain ⟨b2, rfl, _, hc2⟩ := h2'.resolve_left (fun e => by rw [hl, e] at hlt; simp at hlt)
      have p1 := hc1 j hlt
      have p2 := hc2 j (by omega)
      have hst := fun hn => take_eq_step hlt (by omega) he hn
      clear hc1 hc2 h1 h2 h1' h2'
      by_cases hn : nth l1 j = nth l2 j
      · have hst' := hst hn
        rw [hn] at p1
        clear hst
        generalize nth l2 j = z at *
        go_wp2
        go_quiet (fail)
        go_wp2
        go_roundg (gk - 1)
        case measure => omega
        case rel => exact ⟨j + 1, by go_num, by omega, hst', hD.drewN _⟩
      · have hE : decide (l1 = l2) = false := decide_eq_false (fun h => hn (by rw [h]))
        have HE := Lib.hid hE
        clear hst hE
        generalize nth l1 j = z1 at *
        generalize nth l2 j = z2 at *
        go_wp2
        go_quiet (fail)
        go_wp2
        go_ret
        exact Ret.of (by rw [HE.out]; rfl) (hD.drewN _)
    · have hj2 : j = l1.length := by omega
      have hE : decide (l1 = l2) = true := by
        apply decide_eq_true
        rw [hj2, List.take_length] at he
        rw [he, hl, List.take_length]
      have HE := Lib.hid hE
      clear hE h1 h2 he
      subst hj2
      go_wp2
      go_ret
      exact Ret.of (by rw [HE.out]; rfl) hD
end Go.Proofs.YthieionajemjhaaDoor
