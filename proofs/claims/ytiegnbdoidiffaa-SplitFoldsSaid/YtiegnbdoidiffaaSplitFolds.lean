/- The law SplitFolds: its walk comes to true at every input. No condition. -/
import Derived.Test.YtiegnbdoidiffaaSplitKnown
import Derived.Test.YtiegnbdoidiffaaAct06
namespace Go.Proofs.Ytiegnbdoidiffaa
set_option linter.unusedVariables false
set_option linter.unusedSimpArgs false
open Go.RowKit

theorem cellsOf_arr2 {α : Type} {n : Nat} {vals : α → List Value} {ok : α → Prop} {w wr : World} {a : Option Addr} {len cap : Nat} {A : Nat → α} (hA : IsArr n vals ok w a len cap A) (m : Mod [] w wr) {k : Nat} (hk : k < len) :
    ∃ b off, a = some ⟨b, off, none⟩ ∧ ok (A k) ∧ b < w.heap.size ∧ ∀ j, j < n → wr.cell? ⟨b, off + k * n + j, none⟩ = (vals (A k))[j]? := by
  obtain ⟨_, _, h | ⟨b, off, ha, hb, h⟩⟩ := hA
  · omega
  · exact ⟨b, off, ha, (h k hk).1, hb, fun j hj => by rw [← (h k hk).2 j hj, Nat.add_assoc]; exact m.cell (p := ⟨b, off + (k * n + j), none⟩) hb (by simp)⟩

theorem sum_set : ∀ (l : List Int) (i : Nat) (v : Int), i < l.length → (l.set i v).sum = l.sum - nth l i + v
  | [], i, v, h => by simp at h
  | a :: l, 0, v, h => by simp [nth]; omega
  | a :: l, i + 1, v, h => by
    have := sum_set l i v (by simpa using h)
    simp only [List.set_cons_succ, List.sum_cons, this]
    simp [nth]
    omega

theorem sum_sAdd {l : List Int} {c n : Int} (h : (0 ≤ c ∧ c < l.length) ∧ In64 (nth l c.toNat + n)) : (sAdd l c n).sum = l.sum + n ∧ sAddE l c n = 0 := by
  refine ⟨?_, ?_⟩
  · unfold sAdd; rw [if_pos h, sum_set _ _ _ (by omega)]; omega
  · unfold sAddE addE; rw [if_pos h.1, if_pos h.2]
theorem sum_sAdd_no {l : List Int} {c n : Int} (h : ¬ ((0 ≤ c ∧ c < l.length) ∧ In64 (nth l c.toNat + n))) : sAdd l c n = l ∧ (sAddE l c n = 3 ∨ sAddE l c n = 16) := by
  refine ⟨?_, ?_⟩
  · unfold sAdd; rw [if_neg h]
  · unfold sAddE addE
    by_cases h1 : 0 ≤ c ∧ c < l.length
    · rw [if_pos h1, if_neg (fun h2 => h ⟨h1, h2⟩)]; exact .inr rfl
    · rw [if_neg h1]; exact .inl rfl
theorem sum_sFold (l : List Int) (f t : Int) : (sFold l f t).sum = l.sum := by
  unfold sFold
  split
  · rename_i h
    obtain ⟨⟨h1, h2⟩, h3, _⟩ := h
    rw [sum_set _ _ _ (by simp; omega), sum_set _ _ _ (by omega), nth_set (by omega), if_neg (by omega)]
    omega
  · rfl

set_option maxRecDepth 100000 in
set_option maxHeartbeats 4000000 in
theorem SplitFolds_walk (w : World) (n : Int) (_hn : (Lit.int .i64 n).wf = true) (a : Option Addr) (len cap : Nat) (A : Nat → Act06) (hA : IsArr 4 Act06.vals Act06.ok w a len cap A) :
    Calls Try.prog 10 #[.int .i64 n, .slice a len cap] w (Rets (.bool true) [] w fun _ => True) := by
  by_cases hn : 1 ≤ n ∧ n ≤ 64
  · obtain ⟨h1, h2⟩ := hn
    obtain ⟨n, rfl⟩ := Int.eq_ofNat_of_zero_le (show 0 ≤ n by omega)
    have hlc := hA.1
    have hcm := hA.2.1
    unfold maxLen at hcm
    go_enter Try.func10, Try.ntmps10
    go_wp2_with (go_at_call 35; refine (split_New_ok n _ (by omega) (by omega)).mono ?_; rintro e w1 ⟨rfl, m1, hs1, x1⟩)
    go_loopg [7, 8] len (fun g all i wr => ∃ (k : Nat) (l : List Int), i = .int .i64 k ∧ k + g = len ∧ k ≤ 100 ∧ all = .int .i64 l.sum ∧ SplitAt 93 wr (w.heap.size + 1) w.heap.size l ∧ -(1125899906842624 * (k : Int)) ≤ l.sum ∧ l.sum ≤ 1125899906842624 * (k : Int) ∧ Mod [] w wr)
    case atStart => exact ⟨0, _, rfl, by omega, by omega, by simp, x1, by simp, by simp, m1⟩
    case round =>
      obtain ⟨k, l, rfl, hk, hk1, rfl, x, hb1, hb2, m⟩ := hrel
      by_cases hkl : k < len ∧ k < 100
      · obtain ⟨hkl, hk2⟩ := hkl
        obtain ⟨ba, off, rfl, hok, hba, hc⟩ := cellsOf_arr2 hA m hkl
        have c0 := hc 0 (by omega)
        have c1 := hc 1 (by omega)
        have c2 := hc 2 (by omega)
        have c3 := hc 3 (by omega)
        clear hc hA x1 m1
        generalize A k = ak at *
        obtain ⟨cpu, to, z, fold⟩ := ak
        simp only [Act06.vals, List.getElem?_cons_zero, List.getElem?_cons_succ, Nat.add_zero] at c0 c1 c2 c3
        obtain ⟨o1, o2, o3⟩ := hok
        simp only at o1 o2 o3
        have z1 := i64bd o3
        clear o3 o1 o2
        have hk3 : decide ((k : Int) < 100) = true := decide_eq_true (by omega)
        have hx := ltOf x.hb
        have hww := m.size
        by_cases hz : z < -1125899906842624 ∨ (¬ z < -1125899906842624 ∧ 1125899906842624 < z)
        · rcases hz with hz | ⟨hz0, hz⟩
          all_goals
            go_wp2
            go_roundg (gk - 1)
            case measure => omega
            case rel => exact ⟨k + 1, l, by go_num, by omega, by omega, rfl, x.alloc _, by omega, by omega, m.alloc _⟩
        · have hz1 : ¬ z < -1125899906842624 := by omega
          have hz2 : ¬ 1125899906842624 < z := by omega
          clear hz
          cases fold
          · by_cases hI : (0 ≤ cpu ∧ cpu < l.length) ∧ In64 (nth l cpu.toNat + z)
            · obtain ⟨hs1', hs2'⟩ := sum_sAdd hI
              have HS := Lib.hid hs1'
              have hV : sSumV (sAdd l cpu z) = l.sum + z := by rw [← hs1']; exact if_pos (by rw [hs1']; unfold In64; omega)
              have hE : sSumE (sAdd l cpu z) = 0 := if_pos (by rw [hs1']; unfold In64; omega)
              clear hs1' hI
              go_wp2_with (first | (go_at_call 38; refine (split_Add _ _ l cpu z z1 _ (by exact x.alloc _)).mono ?_; rintro e w4 ⟨rfl, m4, x4⟩; have e2 := m4.at (p := ⟨wr.heap.size, 2, none⟩) (cellAt (heapNew _ _) 2) (by simp; omega)) | (go_at_call 39; refine (split_Sum _ _ _ _ (by exact x4.same rfl)).mono ?_; rintro e w5 ⟨rfl, k5, rfl⟩))
              go_roundg (gk - 1)
              case measure => omega
              case rel => exact ⟨k + 1, sAdd l cpu z, by go_num, by omega, by omega, by rw [HS.out], x4.same rfl, by rw [HS.out]; omega, by rw [HS.out]; omega, ((m.alloc _).trans m4 (by simp)).drewN _⟩
            · obtain ⟨hs1', hs2'⟩ := sum_sAdd_no hI
              have HS := Lib.hid hs1'
              have hV : sSumV (sAdd l cpu z) = l.sum := by rw [hs1']; exact if_pos (by unfold In64; omega)
              have hE : sSumE (sAdd l cpu z) = 0 := by rw [hs1']; exact if_pos (by unfold In64; omega)
              clear hs1' hI
              rcases hs2' with hs2' | hs2'
              all_goals
                go_wp2_with (first | (go_at_call 38; refine (split_Add _ _ l cpu z z1 _ (by exact x.alloc _)).mono ?_; rintro e w4 ⟨rfl, m4, x4⟩; have e2 := m4.at (p := ⟨wr.heap.size, 2, none⟩) (cellAt (heapNew _ _) 2) (by simp; omega)) | (go_at_call 39; refine (split_Sum _ _ _ _ (by exact x4.same rfl)).mono ?_; rintro e w5 ⟨rfl, k5, rfl⟩))
                go_roundg (gk - 1)
                case measure => omega
                case rel => exact ⟨k + 1, sAdd l cpu z, by go_num, by omega, by omega, by rw [HS.out], x4.same rfl, by rw [HS.out]; omega, by rw [HS.out]; omega, ((m.alloc _).trans m4 (by simp)).drewN _⟩
          · have hs1' := sum_sFold l cpu to
            have HS := Lib.hid hs1'
            have hV : sSumV (sFold l cpu to) = l.sum := by rw [← hs1']; exact if_pos (by rw [hs1']; unfold In64; omega)
            have hE : sSumE (sFold l cpu to) = 0 := if_pos (by rw [hs1']; unfold In64; omega)
            clear hs1'
            go_wp2_with (first | (go_at_call 37; refine (split_Fold _ _ l cpu to _ (by exact x.alloc _)).mono ?_; rintro e w4 ⟨rfl, m4, x4⟩) | (go_at_call 39; refine (split_Sum _ _ _ _ (by exact x4.same rfl)).mono ?_; rintro e w5 ⟨rfl, k5, rfl⟩))
            go_roundg (gk - 1)
            case measure => omega
            case rel => exact ⟨k + 1, sFold l cpu to, by go_num, by omega, by omega, by rw [HS.out], x4.same rfl, by rw [HS.out]; omega, by rw [HS.out]; omega, ((m.alloc _).trans m4 (by simp)).drewN _⟩
      · have hne : ¬ ((k : Int) < (len : Int)) ∨ ((k : Int) < (len : Int) ∧ ¬ ((k : Int) < 100)) := by omega
        clear hkl hA
        rcases hne with h4 | ⟨h3, h4⟩
        all_goals
          go_wp2_with (go_at_call 36; refine (known06 _).mono ?_; rintro e w7 ⟨rfl, m7, _⟩)
          go_ret
          exact Rets.of rfl (m.trans m7 (by simp)) trivial
  · have h4 : n < 1 ∨ 64 < n := by omega
    clear hn hA
    have hN := fun w => split_New_no n w h4
    rcases h4 with h4 | h4
    all_goals
      go_enter Try.func10, Try.ntmps10
      go_wp2_with (go_at_call 35; refine (hN _).mono ?_; rintro e w1 ⟨rfl, k1, rfl⟩)
      go_wp2_with (go_at_call 36; refine (known06 _).mono ?_; rintro e w7 ⟨rfl, m7, _⟩)
      go_ret
      exact Rets.of rfl (((Mod.refl _ _).drewN _).trans m7 (by simp)) trivial
end Go.Proofs.Ytiegnbdoidiffaa
