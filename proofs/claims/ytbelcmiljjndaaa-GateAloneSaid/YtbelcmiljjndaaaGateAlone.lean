/- The law GateAlone: its walk comes to true at every input. No condition. -/
import Derived.Test.YtbelcmiljjndaaaGatePlays
namespace Go.Proofs.Ytbelcmiljjndaaa
set_option linter.unusedVariables false
set_option linter.unusedSimpArgs false
open Go.RowKit

theorem nth_of_sum0 {s : SG} (h : s.ok) (h0 : s.l.sum = 0) (i : Nat) : nth s.l i = 0 := by
  have := nth_le_sum s.l h.nn i
  have := h.nn i
  omega
def SG.up (s : SG) (k : Nat) : Prop := s.l.length = 4 ∧ s.st = 1 ∧ ∀ j, j < k → nth s.l j = 0
def SG.up2 (s : SG) (k : Nat) (n : Nat) : Prop := s.up k ∧ nth s.l k = n
def SG.inv (s : SG) : Prop := s.st = 2 → s.l.sum = 0
theorem act_inv {s : SG} (h : s.ok) (hi : s.inv) (k c : Int) : (s.act k c).inv := by
  have hnn := sum_nn s.l h.nn
  unfold SG.inv at *
  unfold SG.act
  split
  · unfold SG.enter SG.enterE
    by_cases h1 : inR s.l c
    · by_cases h2 : s.st = 0
      · by_cases h3 : 1000 ≤ s.l.sum
        · simp [h1, h2, h3]; try exact hi
        · simp [h1, h2, h3]
      · simp [h1, h2]; try exact hi
    · simp [h1]; try exact hi
  split
  · unfold SG.leave SG.leaveE
    by_cases h1 : inR s.l c
    · by_cases h2 : nth s.l c.toNat = 0
      · simp [h1, h2]; try exact hi
      · simp only [h1, if_true, h2, if_false]
        intro h3
        exact absurd (nth_of_sum0 h (hi h3) _) h2
    · simp [h1]; try exact hi
  split
  · unfold SG.want
    split
    · exact hi
    · simp
  split
  · unfold SG.take SG.takeE
    by_cases h1 : s.st = 1
    · by_cases h2 : 0 < s.l.sum
      · simp [h1, h2]; try exact hi
      · simp only [h1, h2, ne_eq, not_true_eq_false, if_false, if_true]
        intro _; omega
    · simp [h1]; try exact hi
  · unfold SG.free
    by_cases h1 : s.st = 0
    · simp [h1]; try exact hi
    · simp [h1]

theorem sum_zero : ∀ (l : List Int), (∀ i, nth l i = 0) → l.sum = 0
  | [], _ => rfl
  | a :: l, h => by
    have h0 := h 0
    rw [nth_zero] at h0
    have := sum_zero l (fun i => by have := h (i + 1); rwa [nth_succ] at this)
    simp [h0, this]


set_option maxRecDepth 100000 in
set_option maxHeartbeats 4000000 in
theorem GateAlone_walk (w : World) (a : Option Addr) (len cap : Nat) (A : Nat → Act19) (hA : IsArr 2 Act19.vals Act19.ok w a len cap A) :
    Calls Try.prog 5 #[.slice a len cap] w (Rets (.bool true) [] w fun _ => True) := by
  have hlc := hA.1
  have hcm := hA.2.1
  unfold maxLen at hcm
  go_enter Try.func5, Try.ntmps5
  go_wp2_with (go_at_call 18; refine (gate_New_ok 4 _ (by omega) (by omega)).mono ?_; rintro e w1 ⟨g, b, r, rfl, m1, hb1, x1⟩)
  go_wp2_with (go_at_call 19; refine (rgate_New_ok 4 _ (by omega) (by omega)).mono ?_; rintro e w2 ⟨rg, rr, rfl, m2, hb2, r2⟩)
  have l1 := ltOf x1.hg
  have l2 := ltOf x1.sp.hb
  have l3 := ltOf x1.sp.hr
  have hB0 : Both w2 g b r rg rr ⟨List.replicate 4 0, 0⟩ := ⟨x1.keep m2 (by simp) (by simp) (by simp), r2, by omega, by omega⟩
  have hge : w.heap.size ≤ g ∧ w.heap.size ≤ b ∧ w.heap.size ≤ r ∧ w.heap.size ≤ rg ∧ w.heap.size ≤ rr := by have := m1.size; omega
  go_loopg [7] len (fun gg i wr => ∃ (k : Nat) (s : SG), i = .int .i64 k ∧ k + gg = len ∧ Hid (s.l.length = 4 ∧ s.inv) ∧ Both wr g b r rg rr s ∧ Mod [] w wr)
  case atStart => exact ⟨0, _, rfl, by omega, ⟨by simp, by simp [SG.inv]⟩, hB0, m1.trans m2 (by simp)⟩
  case round =>
    obtain ⟨k, s, rfl, hk, hsl, hB, m⟩ := hrel
    clear x1 r2 m1 m2 hB0 l1 l2 l3 hb1 hb2
    by_cases hkl : k < len ∧ k < 100
    · obtain ⟨hkl, hk2⟩ := hkl
      obtain ⟨ba, off, rfl, hok, hba, hc⟩ := cellsOf_arr hA m hkl
      have c0 := hc 0 (by omega)
      have c1 := hc 1 (by omega)
      clear hc hA
      generalize A k = ak at *
      obtain ⟨kind, cpu⟩ := ak
      simp only [Act19.vals, List.getElem?_cons_zero, List.getElem?_cons_succ, Nat.add_zero] at c0 c1
      obtain ⟨o1, o2⟩ := hok
      simp only at o1 o2
      have z1 : In64 kind := i64bd o1
      clear o1 o2
      have hk3 : decide ((k : Int) < 100) = true := decide_eq_true (by omega)
      have hsl' : (s.act kind cpu).l.length = 4 ∧ (s.act kind cpu).inv := ⟨by rw [act_len]; exact hsl.out.1, act_inv hB.1.ok hsl.out.2 _ _⟩
      have hS2 := Lib.hid hsl'
      by_cases h2 : (s.act kind cpu).st = 2
      · have h2' : ((s.act kind cpu).st == 2) = true := by simp [h2]
        have h3 : decide (0 < (s.act kind cpu).l.sum) = false := decide_eq_false (by rw [hsl'.2 h2]; omega)
        clear h2 hsl'
        go_wp2_with (first | (go_at_call 21; refine (do_any _ _ _ _ _ s kind cpu z1 _ hB).mono ?_; rintro e w3 ⟨rfl, m3, x3⟩) | (go_at_call 22; refine (gate_State _ _ _ (s.act kind cpu) _ (by exact x3.1.same rfl)).mono ?_; rintro e w' ⟨rfl, k1, rfl⟩) | (go_at_call 23; refine (gate_Readers _ _ _ (s.act kind cpu) _ (by exact x3.1.same rfl)).mono ?_; rintro e w' ⟨rfl, k2, rfl⟩))
        go_roundg (gk - 1)
        case measure => omega
        case rel => exact ⟨k + 1, _, by go_num, by omega, hS2, x3.same rfl, (m.trans m3 (by simp; omega)).drewN _⟩
      · have h2' : ((s.act kind cpu).st == 2) = false := by simp [h2]
        clear h2 hsl'
        go_wp2_with (first | (go_at_call 21; refine (do_any _ _ _ _ _ s kind cpu z1 _ hB).mono ?_; rintro e w3 ⟨rfl, m3, x3⟩) | (go_at_call 22; refine (gate_State _ _ _ (s.act kind cpu) _ (by exact x3.1.same rfl)).mono ?_; rintro e w' ⟨rfl, k1, rfl⟩))
        go_roundg (gk - 1)
        case measure => omega
        case rel => exact ⟨k + 1, _, by go_num, by omega, hS2, x3.same rfl, (m.trans m3 (by simp; omega)).drewN _⟩
    · have hne : ¬ ((k : Int) < (len : Int)) ∨ ((k : Int) < (len : Int) ∧ ¬ ((k : Int) < 100)) := by omega
      clear hkl hA
      by_cases hs2 : s.st = 2
      · have e1 : (s.st == 2) = true := by simp [hs2]
        have hF : s.freeE = 0 := by simp [SG.freeE, hs2]
        have hF2 : s.free = { s with st := 0 } := by simp [SG.free, hs2]
        have HF2 := Lib.hid hF2
        clear hF2 hs2
        rcases hne with h4 | ⟨h3, h4⟩
        all_goals
          go_wp2_with (first | (go_at_call 26; refine (gate_Free _ _ _ s _ (by exact hB.1.same rfl)).mono ?_; rintro e w3 ⟨rfl, m3, x3⟩; rw [HF2.out] at x3) | (go_at_call 22; refine (gate_State _ _ _ { s with st := 0 } _ (by exact x3.same rfl)).mono ?_; rintro e w4 ⟨rfl, k4, rfl⟩) | (go_at_call 22; refine (gate_State _ _ _ s _ (by exact hB.1.same rfl)).mono ?_; rintro e w4 ⟨rfl, k5, rfl⟩) | (go_at_call 20; refine (known19 _).mono ?_; rintro e w7 ⟨rfl, m7, _⟩))
          go_ret
          exact Rets.of rfl ((((m.drewN _).trans m3 (by simp; omega)).drewN _).trans m7 (by simp)) trivial
      · have e1 : (s.st == 2) = false := by simp [hs2]
        by_cases hs0 : s.st = 0
        · have e2 : (s.st == 0) = true := by simp [hs0]
          have hW : s.wantE = 0 := by simp [SG.wantE, hs0]
          have hW2 : s.want = { s with st := 1 } := by simp [SG.want, hs0]
          have HW2 := Lib.hid hW2
          have hS1 : ({ s with st := 1 } : SG).up 0 := ⟨hsl.out.1, rfl, fun j hj => by omega⟩
          clear hW2 hs0 hs2
          rcases hne with h4 | ⟨h3, h4⟩
          all_goals
            go_wp2_with (first | (go_at_call 27; refine (gate_Want _ _ _ s _ (by exact hB.1.same rfl)).mono ?_; rintro e w3 ⟨rfl, m3, x3⟩; rw [HW2.out] at x3) | (go_at_call 22; refine (gate_State _ _ _ s _ (by exact hB.1.same rfl)).mono ?_; rintro e w4 ⟨rfl, k5, rfl⟩))
            have y1 := x3
            have n1 := (m.drewN _).trans m3 (by simp; omega)
            clear x3 m3
            go_loopg [8] 4 (fun gg i wr => ∃ (k : Nat) (s : SG), i = .int .i64 k ∧ k + gg = 4 ∧ s.up k ∧ GateAt wr g b r s ∧ Mod [] w wr)
            case atStart => exact ⟨0, _, rfl, by omega, hS1, by first | exact y1 | exact y1.same rfl, by first | exact n1 | exact n1.drewN _⟩
            case round =>
              clear y1 n1
              obtain ⟨k, s, rfl, hk, hS, hG, m⟩ := hrel
              by_cases hk4 : k < 4
              · have hG0 : sGet s.l k = nth s.l k := if_pos ⟨by omega, by rw [hS.1]; omega⟩
                have hn0 := In64_nth hG.ok k
                obtain ⟨hn1, hn2⟩ := hn0
                obtain ⟨n0, hn3⟩ := Int.eq_ofNat_of_zero_le hn1
                have hN3 := Lib.hid hn3
                rw [hn3] at hG0
                have hnb : n0 < 9223372036854775807 := by have := hn2; omega
                clear hn3
                go_wp2_with (go_at_call 25; refine (gate_On _ _ _ s _ _ (by exact hG.same rfl)).mono ?_; rintro e w' ⟨rfl, k1, rfl⟩)
                go_loopg [10] n0 (fun gg i wi => ∃ (j : Nat) (si : SG), i = .int .i64 j ∧ j + gg = n0 ∧ si.up2 k gg ∧ GateAt wi g b r si ∧ Mod [] w wi)
                case atStart => exact ⟨0, s, rfl, by omega, ⟨hS, hN3.out⟩, hG.same rfl, m.drewN _⟩
                case round =>
                  clear hG hG0 m
                  obtain ⟨j, si, rfl, hj, hSi, hGi, mi⟩ := hrel
                  by_cases hjn : j < n0
                  · have hin : inR si.l k := ⟨by omega, by rw [hSi.1.1]; omega⟩
                    have hst := hSi.1.2.1
                    have hnk := hSi.2
                    have hE : si.enterE k = 7 := by simp [SG.enterE, hin, hst]
                    have hE2 : si.enter k = si := by simp [SG.enter, hE]
                    have hL : si.leaveE k = 0 := by
                      unfold SG.leaveE
                      rw [if_pos hin, if_neg (by simp only [Int.toNat_natCast]; omega)]
                    have hL2 : si.leave k = { si with l := si.l.set k (nth si.l k - 1) } := by simp only [SG.leave, hL, if_true]; rfl
                    have hS3 : (si.leave k).up2 k (gk - 1) := by
                      rw [hL2]
                      refine ⟨⟨by simp; exact hSi.1.1, hst, fun q hq => ?_⟩, ?_⟩
                      · simp only
                        rw [nth_set (by rw [hSi.1.1]; omega), if_neg (by omega)]; exact hSi.1.2.2 q hq
                      · simp only
                        rw [nth_set (by rw [hSi.1.1]; omega), if_pos rfl, hnk]; omega
                    have HE2 := Lib.hid hE2
                    clear hE2 hL2 hst hnk hin
                    go_wp2_with (first | (go_at_call 28; refine (gate_Enter _ _ _ si _ _ (by exact hGi.same rfl)).mono ?_; rintro e w3 ⟨rfl, m3, x3⟩; rw [HE2.out] at x3) | (go_at_call 29; refine (gate_Leave _ _ _ si _ _ (by exact x3.same rfl)).mono ?_; rintro e w4 ⟨rfl, m4, x4⟩))
                    go_roundg (gk - 1)
                    case measure => omega
                    case rel => exact ⟨j + 1, _, by go_num, by omega, hS3, x4, (mi.trans m3 (by simp; omega)).trans m4 (by simp; omega)⟩
                  · have hg0 : gk = 0 := by omega
                    go_wp2
                    go_roundg (4 - (k + 1))
                    case measure => omega
                    case rel =>
                      refine ⟨k + 1, si, by go_num, by omega, ⟨hSi.1.1, hSi.1.2.1, fun q hq => ?_⟩, hGi, mi⟩
                      by_cases e : q = k
                      · rw [e, hSi.2, hg0]; rfl
                      · exact hSi.1.2.2 q (by omega)
              · have hs0 : s.l.sum = 0 := sum_zero _ (fun i => by
                  by_cases hi : i < 4
                  · exact hS.2.2 i (by omega)
                  · exact nth_out (by rw [hS.1]; omega))
                have hst := hS.2.1
                have hE : s.takeE = 0 := by simp [SG.takeE, hst, hs0]
                have hE2 : s.take = { s with st := 2 } := by simp [SG.take, hE]
                have HE2 := Lib.hid hE2
                clear hE2 hst hs0
                go_wp2_with (first | (go_at_call 30; refine (gate_Take _ _ _ s _ (by exact hG.same rfl)).mono ?_; rintro e w3 ⟨rfl, m3, x3⟩; rw [HE2.out] at x3) | (go_at_call 22; refine (gate_State _ _ _ _ _ (by exact x3.same rfl)).mono ?_; rintro e w4 ⟨rfl, k4, rfl⟩) | (go_at_call 20; refine (known19 _).mono ?_; rintro e w7 ⟨rfl, m7, _⟩))
                go_ret
                exact Rets.of rfl (((m.trans m3 (by simp; omega)).drewN _).trans m7 (by simp)) trivial
        · have e2 : (s.st == 0) = false := by simp [hs0]
          have hst1 : s.st = 1 := by have := hB.1.ok.st0; have := hB.1.ok.st1; omega
          have hS1 : s.up 0 := ⟨hsl.out.1, hst1, fun j hj => by omega⟩
          clear hst1 hs0 hs2
          rcases hne with h4 | ⟨h3, h4⟩
          all_goals
            go_wp2_with (first | (go_at_call 22; refine (gate_State _ _ _ s _ (by exact hB.1.same rfl)).mono ?_; rintro e w4 ⟨rfl, k5, rfl⟩))
            have y1 := hB.1
            have n1 := m
            go_loopg [8] 4 (fun gg i wr => ∃ (k : Nat) (s : SG), i = .int .i64 k ∧ k + gg = 4 ∧ s.up k ∧ GateAt wr g b r s ∧ Mod [] w wr)
            case atStart => exact ⟨0, _, rfl, by omega, hS1, by first | exact y1 | exact y1.same rfl, by first | exact n1 | exact n1.drewN _⟩
            case round =>
              clear y1 n1
              obtain ⟨k, s, rfl, hk, hS, hG, m⟩ := hrel
              by_cases hk4 : k < 4
              · have hG0 : sGet s.l k = nth s.l k := if_pos ⟨by omega, by rw [hS.1]; omega⟩
                have hn0 := In64_nth hG.ok k
                obtain ⟨hn1, hn2⟩ := hn0
                obtain ⟨n0, hn3⟩ := Int.eq_ofNat_of_zero_le hn1
                have hN3 := Lib.hid hn3
                rw [hn3] at hG0
                have hnb : n0 < 9223372036854775807 := by have := hn2; omega
                clear hn3
                go_wp2_with (go_at_call 25; refine (gate_On _ _ _ s _ _ (by exact hG.same rfl)).mono ?_; rintro e w' ⟨rfl, k1, rfl⟩)
                go_loopg [10] n0 (fun gg i wi => ∃ (j : Nat) (si : SG), i = .int .i64 j ∧ j + gg = n0 ∧ si.up2 k gg ∧ GateAt wi g b r si ∧ Mod [] w wi)
                case atStart => exact ⟨0, s, rfl, by omega, ⟨hS, hN3.out⟩, hG.same rfl, m.drewN _⟩
                case round =>
                  clear hG hG0 m
                  obtain ⟨j, si, rfl, hj, hSi, hGi, mi⟩ := hrel
                  by_cases hjn : j < n0
                  · have hin : inR si.l k := ⟨by omega, by rw [hSi.1.1]; omega⟩
                    have hst := hSi.1.2.1
                    have hnk := hSi.2
                    have hE : si.enterE k = 7 := by simp [SG.enterE, hin, hst]
                    have hE2 : si.enter k = si := by simp [SG.enter, hE]
                    have hL : si.leaveE k = 0 := by
                      unfold SG.leaveE
                      rw [if_pos hin, if_neg (by simp only [Int.toNat_natCast]; omega)]
                    have hL2 : si.leave k = { si with l := si.l.set k (nth si.l k - 1) } := by simp only [SG.leave, hL, if_true]; rfl
                    have hS3 : (si.leave k).up2 k (gk - 1) := by
                      rw [hL2]
                      refine ⟨⟨by simp; exact hSi.1.1, hst, fun q hq => ?_⟩, ?_⟩
                      · simp only
                        rw [nth_set (by rw [hSi.1.1]; omega), if_neg (by omega)]; exact hSi.1.2.2 q hq
                      · simp only
                        rw [nth_set (by rw [hSi.1.1]; omega), if_pos rfl, hnk]; omega
                    have HE2 := Lib.hid hE2
                    clear hE2 hL2 hst hnk hin
                    go_wp2_with (first | (go_at_call 28; refine (gate_Enter _ _ _ si _ _ (by exact hGi.same rfl)).mono ?_; rintro e w3 ⟨rfl, m3, x3⟩; rw [HE2.out] at x3) | (go_at_call 29; refine (gate_Leave _ _ _ si _ _ (by exact x3.same rfl)).mono ?_; rintro e w4 ⟨rfl, m4, x4⟩))
                    go_roundg (gk - 1)
                    case measure => omega
                    case rel => exact ⟨j + 1, _, by go_num, by omega, hS3, x4, (mi.trans m3 (by simp; omega)).trans m4 (by simp; omega)⟩
                  · have hg0 : gk = 0 := by omega
                    go_wp2
                    go_roundg (4 - (k + 1))
                    case measure => omega
                    case rel =>
                      refine ⟨k + 1, si, by go_num, by omega, ⟨hSi.1.1, hSi.1.2.1, fun q hq => ?_⟩, hGi, mi⟩
                      by_cases e : q = k
                      · rw [e, hSi.2, hg0]; rfl
                      · exact hSi.1.2.2 q (by omega)
              · have hs0 : s.l.sum = 0 := sum_zero _ (fun i => by
                  by_cases hi : i < 4
                  · exact hS.2.2 i (by omega)
                  · exact nth_out (by rw [hS.1]; omega))
                have hst := hS.2.1
                have hE : s.takeE = 0 := by simp [SG.takeE, hst, hs0]
                have hE2 : s.take = { s with st := 2 } := by simp [SG.take, hE]
                have HE2 := Lib.hid hE2
                clear hE2 hst hs0
                go_wp2_with (first | (go_at_call 30; refine (gate_Take _ _ _ s _ (by exact hG.same rfl)).mono ?_; rintro e w3 ⟨rfl, m3, x3⟩; rw [HE2.out] at x3) | (go_at_call 22; refine (gate_State _ _ _ _ _ (by exact x3.same rfl)).mono ?_; rintro e w4 ⟨rfl, k4, rfl⟩) | (go_at_call 20; refine (known19 _).mono ?_; rintro e w7 ⟨rfl, m7, _⟩))
                go_ret
                exact Rets.of rfl (((m.trans m3 (by simp; omega)).drewN _).trans m7 (by simp)) trivial
end Go.Proofs.Ytbelcmiljjndaaa
