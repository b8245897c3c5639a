/- The walk over WheelDue. -/
import Derived.Test.YtbelcmiljjndaaaWheelDue
namespace Go.Proofs.Ytbelcmiljjndaaa
set_option linter.unusedVariables false
set_option linter.unusedSimpArgs false
open Go.RowKit
theorem add7 {w0 : World} {d mb f due : Nat} {u : World} (hf : tickOk f) (hd : due ≤ 1152921504606846976) (h : WheelAt u d mb (fun _ => (none, 0)) (sw0 f)) (m : Mod [] w0 u) (hdd : w0.heap.size ≤ d) (hmb : w0.heap.size ≤ mb) :
    Calls Try.prog 44 #[.pointer (some ⟨d, 0, none⟩), .int .i64 7, .int .i64 due] u (fun e u' => e = .returned (.int .i64 0) ∧ Cur w0 d mb due f u') := by
  have hE : (sw0 f).addE 7 due = 0 := by
    unfold SW.addE
    rw [if_neg (by simp; unfold tickOk; omega)]
    rfl
  have hA := wheel_Add d mb (fun _ => (none, 0)) (sw0 f) u h (sw0_ok hf) (fun k _ => by show 0 + 1 < _; omega) 7 due
  rw [hE] at hA
  refine hA.mono ?_
  rintro e u' ⟨rfl, G, m2, x, g⟩
  have o0 : ∀ b, b ∈ wBlocks d mb (fun _ => (none, 0)) → w0.heap.size ≤ b := by
    intro b hb
    rcases mem_wBlocks.1 hb with rfl | rfl | ⟨k, _, hb⟩
    · exact hdd
    · exact hmb
    · simp [lF] at hb
  have hs := m.size
  refine ⟨rfl, G, _, x, (sw0_Inv hf).add (by decide) _, ?_, ?_, m.trans m2 (fun b hb => .inr (o0 b hb)), fun b hb => (g b hb).elim (o0 b) (by omega)⟩
  · unfold SW.add
    rw [if_pos hE]
    have e : ((due : Int)).toNat = due := by omega
    rw [e]
    rfl
  · unfold SW.add
    rw [if_pos hE]
    rfl
theorem Cur.mod {w0 : World} {d mb due n : Nat} {u : World} (h : Cur w0 d mb due n u) : Mod [] w0 u := by
  obtain ⟨G, s, h1, h2, h3, h4, h5, h6⟩ := h
  exact h5
set_option maxRecDepth 100000 in
set_option maxHeartbeats 4000000 in
theorem WheelDue_walk (w : World) (fr : Int) (_hf : (Lit.int .i64 fr).wf = true) (far : Int) (_hfa : (Lit.int .i64 far).wf = true) (a : Option Addr) (len cap : Nat) (A : Nat → Int) (hA : IsArr 1 (fun z : Int => [Value.int .i64 z]) (fun z => (Lit.int .i64 z).wf = true) w a len cap A) :
    Calls Try.prog 9 #[.int .i64 fr, .int .i64 far, .slice a len cap] w (Rets (.bool true) [] w fun _ => True) := by
  have hlc := hA.1
  have hcm := hA.2.1
  unfold maxLen at hcm
  by_cases hT : tickOk fr
  case neg =>
    have hN := wheel_New_no fr hT
    have hc : fr < 0 ∨ (0 ≤ fr ∧ 1152921504606846976 < fr) := by unfold tickOk at hT; omega
    clear hA hT
    rcases hc with h1 | ⟨h1, h2⟩
    all_goals
      go_enter Try.func9, Try.ntmps9
      go_wp2_with (first
        | (go_at_call 42; refine (hN _).mono ?_; rintro e w' ⟨rfl, k1, rfl⟩)
        | (go_at_call 43; refine (wheel_known _).mono ?_; rintro e wk ⟨rfl, mk, _⟩))
      go_ret
      exact Rets.of rfl mk.undrewN trivial
  have hT0 := hT.1
  have hT1 := hT.2
  obtain ⟨f, rfl⟩ := Int.eq_ofNat_of_zero_le hT0
  have hN := fun w => wheel_New f hT w
  by_cases hfar : far < 0 ∨ 1152921504606846976 - (f : Int) < far
  · have hc : far < 0 ∨ (0 ≤ far ∧ 1152921504606846976 - (f : Int) < far) := by omega
    clear hA hT hfar
    rcases hc with h1 | ⟨h1, h2⟩
    all_goals
      go_enter Try.func9, Try.ntmps9
      go_wp2_with (first
        | (go_at_call 42; refine (hN _).mono ?_; rintro e w1 ⟨d, mb, rfl, m1, x1, hd, hmb⟩)
        | (go_at_call 43; refine (wheel_known _).mono ?_; rintro e wk ⟨rfl, mk, _⟩))
      go_ret
      exact Rets.of rfl (m1.trans mk (by simp)) trivial
  have hfar0 : ¬ far < 0 := fun h => hfar (.inl h)
  have hfar1 : ¬ 1152921504606846976 - (f : Int) < far := fun h => hfar (.inr h)
  obtain ⟨fa, rfl⟩ := Int.eq_ofNat_of_zero_le (show 0 ≤ far by omega)
  obtain ⟨due, hdue⟩ : ∃ due : Nat, due = f + fa := ⟨_, rfl⟩
  have hsum : (f : Int) + (fa : Int) = (due : Int) := by omega
  have hdM : due ≤ 1152921504606846976 := by omega
  have hAdd : ∀ (u : World) d mb, WheelAt u d mb (fun _ => (none, 0)) (sw0 f) → Mod [] w u → w.heap.size ≤ d → w.heap.size ≤ mb → Calls Try.prog 44 #[.pointer (some ⟨d, 0, none⟩), .int .i64 7, .int .i64 due] u (fun e u' => e = .returned (.int .i64 0) ∧ Cur w d mb due f u') :=
    fun u d mb h m hd hm => add7 hT hdM h m hd hm
  have HS := Lib.hid hsum
  rw [← hsum] at hAdd
  clear hfar hT _hf _hfa hsum
  go_enter Try.func9, Try.ntmps9
  go_wp2_with (first
    | (
      go_at_call 42
      refine (hN _).mono ?_
      rintro e w1 ⟨d, mb, rfl, m1, x1, hd, hmb⟩
      )
    | (
      go_at_call 44
      refine (hAdd _ d mb x1 m1 hd hmb).mono ?_
      rintro e w2 ⟨rfl, x2⟩
      clear x1
      )
    )
  simp only [HS.out]
  have hfd : f ≤ due := by omega
  clear hN hAdd HS hfar0 hfar1 hdue
  have hI : ∀ a b c w, IsInts w a [7] → w.heap[b]? = some (.cells #[.int .i64 7] 3 (0,0)) → Calls Try.prog 48 #[.slice a 1 c, .slice (some ⟨b, 0, none⟩) 1 1] w (Ret (.bool true) w) := by
    intro a b c w h1 h2
    exact masks_Ints a (some ⟨b, 0, none⟩) c 1 [7] [7] w h1 (LAt.ints (g := some b) (cap := 1) ⟨_, h2, by simp, by simp [maxLen], rfl, rfl⟩) (by simp) (by simp)
  go_loopg [10, 11] len (fun gg nw i wr => ∃ (k n : Nat), nw = .int .i64 n ∧ i = .int .i64 k ∧ k + gg = len ∧ Cur w d mb due n wr ∧ n ≤ 1152921504606846976)
  case atStart => exact ⟨0, f, rfl, rfl, by omega, x2, by omega⟩
  case round =>
    obtain ⟨k, n, rfl, rfl, hk, x, hnM⟩ := hrel
    clear x2
    by_cases hlt : k < len ∧ k < 60
    · obtain ⟨hlt1, hlt2⟩ := hlt
      have hk3 : decide ((k : Int) < 60) = true := decide_eq_true (by omega)
      have hk4 : decide ((k : Int) < len) = true := decide_eq_true (by omega)
      obtain ⟨b, off, rfl, hok, hb, hc⟩ := cellsOf_arr hA x.mod hlt1
      have c0 := hc 0 (by omega)
      simp only [List.getElem?_cons_zero, Nat.add_zero, Nat.mul_one] at c0
      clear hc hA
      obtain ⟨n', hv, hle', hM'⟩ := onV_nat (z := A k) hnM
      have hOn := fun w => law13_on n (A k) ⟨by omega, by omega⟩ w
      rw [hv] at hOn
      clear hv
      generalize A k = p at *
      by_cases hd' : due ≤ n'
      · have hD := fun u (h : Cur w d mb due n' u) => cur_Due h
        simp only [if_pos hd'] at hD
        have hd2 : decide ((due : Int) ≤ n') = true := decide_eq_true (by omega)
        go_wp2_with (first
          | (
            go_at_call 45
            refine (hOn _).mono ?_
            rintro e w' ⟨rfl, k1, rfl⟩
            have x1 := x.keep ((Mod.refl [] wr).drewN k1)
            )
          | (
            go_at_call 46
            refine (cur_Go x1 hle' hM').mono ?_
            rintro e w3 ⟨rfl, x3⟩
            )
          | (
            go_at_call 47
            refine (hD _ x3).mono ?_
            rintro e w4 ⟨a4, c4, rfl, x4, _⟩
            )
          )
        go_roundg (gk - 1)
        case measure => omega
        case rel => exact ⟨k + 1, n', rfl, by go_num, by omega, x4, hM'⟩
      · have hD := fun u (h : Cur w d mb due n' u) => cur_Due h
        simp only [if_neg hd'] at hD
        have hd2 : decide ((due : Int) ≤ n') = false := decide_eq_false (by omega)
        go_wp2_with (first
          | (
            go_at_call 45
            refine (hOn _).mono ?_
            rintro e w' ⟨rfl, k1, rfl⟩
            have x1 := x.keep ((Mod.refl [] wr).drewN k1)
            )
          | (
            go_at_call 46
            refine (cur_Go x1 hle' hM').mono ?_
            rintro e w3 ⟨rfl, x3⟩
            )
          | (
            go_at_call 47
            refine (hD _ x3).mono ?_
            rintro e w4 ⟨a4, c4, rfl, x4, _⟩
            )
          )
        go_roundg (gk - 1)
        case measure => omega
        case rel => exact ⟨k + 1, n', rfl, by go_num, by omega, x4, hM'⟩
    · have hne : ¬ k < len ∨ (k < len ∧ ¬ k < 60) := by omega
      have hD2 := fun u (h : Cur w d mb due due u) => cur_Due h
      simp only [if_pos (Nat.le_refl due)] at hD2
      clear hA hlt hT0 hT1 hlc hcm
      rcases Nat.lt_trichotomy (n + 1) due with hc | hc | hc
      · -- two steps more
        have hG1 : ∀ u, Cur w d mb due n u → Calls Try.prog 46 #[.pointer (some ⟨d, 0, none⟩), .int .i64 ((due : Int) - 1)] u (fun e u' => e = .returned (.int .i64 0) ∧ Cur w d mb due (due - 1) u') := by
          intro u h
          have := cur_Go (t := due - 1) h (by omega) (by omega)
          rwa [show ((due - 1 : Nat) : Int) = (due : Int) - 1 by omega] at this
        have hD1 := fun u (h : Cur w d mb due (due - 1) u) => cur_Due h
        simp only [if_neg (show ¬ due ≤ due - 1 by omega)] at hD1
        have hG2 := fun u (h : Cur w d mb due (due - 1) u) => cur_Go (t := due) h (by omega) hdM
        have e1 : decide ((n : Int) < (due : Int) - 1) = true := decide_eq_true (by omega)
        have p2 : n < due := by omega
        have y0 := x
        clear x hc
        rcases hne with h1 | ⟨h1, h2⟩
        · have h3 : decide ((k : Int) < len) = false := decide_eq_false (by omega)
          go_wp2_with (first
            | (
              go_at_call 46
              have hx := y0
              refine (hG1 _ hx).mono ?_
              rintro e w11 ⟨rfl, y1⟩
              clear hx y0
              )
            | (
              go_at_call 47
              have hx := y1
              refine (hD1 _ hx).mono ?_
              rintro e w12 ⟨a12, c12, rfl, y2, _⟩
              clear hx y1
              )
            | (
              go_at_call 46
              have hx := y2
              refine (hG2 _ hx).mono ?_
              rintro e w13 ⟨rfl, y3⟩
              clear hx y2
              )
            | (
              go_at_call 47
              have hx := y3
              refine (hD2 _ hx).mono ?_
              rintro e w14 ⟨a14, c14, rfl, y4, i4⟩
              clear hx y3
              have i4' := i4.keep (S := []) ((Mod.refl _ w14).alloc (.cells #[.int .i64 7] 3)) (by simp)
              have n4 := heapNew w14 (.cells #[.int .i64 7] 3)
              have M4 := y4.mod
              )
            | (
              go_at_call 48
              refine (hI _ _ _ _ i4' n4).mono ?_
              rintro e w15 ⟨rfl, k15, rfl⟩
              )
            | (
              go_at_call 43
              refine (wheel_known _).mono ?_
              rintro e wk ⟨rfl, mk, _⟩
              )
            )
          go_ret
          exact Rets.of rfl (Mod.trans (S := []) (T := []) (M4.alloc _) mk.undrewN (by simp)) trivial
        · have h3 : decide ((k : Int) < len) = true := decide_eq_true (by omega)
          have h4 : decide ((k : Int) < 60) = false := decide_eq_false (by omega)
          go_wp2_with (first
            | (
              go_at_call 46
              have hx := y0
              refine (hG1 _ hx).mono ?_
              rintro e w11 ⟨rfl, y1⟩
              clear hx y0
              )
            | (
              go_at_call 47
              have hx := y1
              refine (hD1 _ hx).mono ?_
              rintro e w12 ⟨a12, c12, rfl, y2, _⟩
              clear hx y1
              )
            | (
              go_at_call 46
              have hx := y2
              refine (hG2 _ hx).mono ?_
              rintro e w13 ⟨rfl, y3⟩
              clear hx y2
              )
            | (
              go_at_call 47
              have hx := y3
              refine (hD2 _ hx).mono ?_
              rintro e w14 ⟨a14, c14, rfl, y4, i4⟩
              clear hx y3
              have i4' := i4.keep (S := []) ((Mod.refl _ w14).alloc (.cells #[.int .i64 7] 3)) (by simp)
              have n4 := heapNew w14 (.cells #[.int .i64 7] 3)
              have M4 := y4.mod
              )
            | (
              go_at_call 48
              refine (hI _ _ _ _ i4' n4).mono ?_
              rintro e w15 ⟨rfl, k15, rfl⟩
              )
            | (
              go_at_call 43
              refine (wheel_known _).mono ?_
              rintro e wk ⟨rfl, mk, _⟩
              )
            )
          go_ret
          exact Rets.of rfl (Mod.trans (S := []) (T := []) (M4.alloc _) mk.undrewN (by simp)) trivial
      · have hG2 := fun u (h : Cur w d mb due n u) => cur_Go (t := due) h (by omega) hdM
        have e1 : decide ((n : Int) < (due : Int) - 1) = false := decide_eq_false (by omega)
        have p2 : n < due := by omega
        have y2 := x
        clear x hc
        rcases hne with h1 | ⟨h1, h2⟩
        · have h3 : decide ((k : Int) < len) = false := decide_eq_false (by omega)
          go_wp2_with (first
            | (
              go_at_call 46
              have hx := y0
              refine (hG1 _ hx).mono ?_
              rintro e w11 ⟨rfl, y1⟩
              clear hx y0
              )
            | (
              go_at_call 47
              have hx := y1
              refine (hD1 _ hx).mono ?_
              rintro e w12 ⟨a12, c12, rfl, y2, _⟩
              clear hx y1
              )
            | (
              go_at_call 46
              have hx := y2
              refine (hG2 _ hx).mono ?_
              rintro e w13 ⟨rfl, y3⟩
              clear hx y2
              )
            | (
              go_at_call 47
              have hx := y3
              refine (hD2 _ hx).mono ?_
              rintro e w14 ⟨a14, c14, rfl, y4, i4⟩
              clear hx y3
              have i4' := i4.keep (S := []) ((Mod.refl _ w14).alloc (.cells #[.int .i64 7] 3)) (by simp)
              have n4 := heapNew w14 (.cells #[.int .i64 7] 3)
              have M4 := y4.mod
              )
            | (
              go_at_call 48
              refine (hI _ _ _ _ i4' n4).mono ?_
              rintro e w15 ⟨rfl, k15, rfl⟩
              )
            | (
              go_at_call 43
              refine (wheel_known _).mono ?_
              rintro e wk ⟨rfl, mk, _⟩
              )
            )
          go_ret
          exact Rets.of rfl (Mod.trans (S := []) (T := []) (M4.alloc _) mk.undrewN (by simp)) trivial
        · have h3 : decide ((k : Int) < len) = true := decide_eq_true (by omega)
          have h4 : decide ((k : Int) < 60) = false := decide_eq_false (by omega)
          go_wp2_with (first
            | (
              go_at_call 46
              have hx := y0
              refine (hG1 _ hx).mono ?_
              rintro e w11 ⟨rfl, y1⟩
              clear hx y0
              )
            | (
              go_at_call 47
              have hx := y1
              refine (hD1 _ hx).mono ?_
              rintro e w12 ⟨a12, c12, rfl, y2, _⟩
              clear hx y1
              )
            | (
              go_at_call 46
              have hx := y2
              refine (hG2 _ hx).mono ?_
              rintro e w13 ⟨rfl, y3⟩
              clear hx y2
              )
            | (
              go_at_call 47
              have hx := y3
              refine (hD2 _ hx).mono ?_
              rintro e w14 ⟨a14, c14, rfl, y4, i4⟩
              clear hx y3
              have i4' := i4.keep (S := []) ((Mod.refl _ w14).alloc (.cells #[.int .i64 7] 3)) (by simp)
              have n4 := heapNew w14 (.cells #[.int .i64 7] 3)
              have M4 := y4.mod
              )
            | (
              go_at_call 48
              refine (hI _ _ _ _ i4' n4).mono ?_
              rintro e w15 ⟨rfl, k15, rfl⟩
              )
            | (
              go_at_call 43
              refine (wheel_known _).mono ?_
              rintro e wk ⟨rfl, mk, _⟩
              )
            )
          go_ret
          exact Rets.of rfl (Mod.trans (S := []) (T := []) (M4.alloc _) mk.undrewN (by simp)) trivial
      · have e1 : decide ((n : Int) < (due : Int) - 1) = false := decide_eq_false (by omega)
        have p2 : ¬ n < due := by omega
        have hD3 := fun u (h : Cur w d mb due n u) => cur_Due h
        simp only [if_pos (show due ≤ n by omega)] at hD3
        clear hD2
        have hD2 := hD3
        have y3 := x
        clear x hc hD3
        rcases hne with h1 | ⟨h1, h2⟩
        · have h3 : decide ((k : Int) < len) = false := decide_eq_false (by omega)
          go_wp2_with (first
            | (
              go_at_call 46
              have hx := y0
              refine (hG1 _ hx).mono ?_
              rintro e w11 ⟨rfl, y1⟩
              clear hx y0
              )
            | (
              go_at_call 47
              have hx := y1
              refine (hD1 _ hx).mono ?_
              rintro e w12 ⟨a12, c12, rfl, y2, _⟩
              clear hx y1
              )
            | (
              go_at_call 46
              have hx := y2
              refine (hG2 _ hx).mono ?_
              rintro e w13 ⟨rfl, y3⟩
              clear hx y2
              )
            | (
              go_at_call 47
              have hx := y3
              refine (hD2 _ hx).mono ?_
              rintro e w14 ⟨a14, c14, rfl, y4, i4⟩
              clear hx y3
              have i4' := i4.keep (S := []) ((Mod.refl _ w14).alloc (.cells #[.int .i64 7] 3)) (by simp)
              have n4 := heapNew w14 (.cells #[.int .i64 7] 3)
              have M4 := y4.mod
              )
            | (
              go_at_call 48
              refine (hI _ _ _ _ i4' n4).mono ?_
              rintro e w15 ⟨rfl, k15, rfl⟩
              )
            | (
              go_at_call 43
              refine (wheel_known _).mono ?_
              rintro e wk ⟨rfl, mk, _⟩
              )
            )
          go_ret
          exact Rets.of rfl (Mod.trans (S := []) (T := []) (M4.alloc _) mk.undrewN (by simp)) trivial
        · have h3 : decide ((k : Int) < len) = true := decide_eq_true (by omega)
          have h4 : decide ((k : Int) < 60) = false := decide_eq_false (by omega)
          go_wp2_with (first
            | (
              go_at_call 46
              have hx := y0
              refine (hG1 _ hx).mono ?_
              rintro e w11 ⟨rfl, y1⟩
              clear hx y0
              )
            | (
              go_at_call 47
              have hx := y1
              refine (hD1 _ hx).mono ?_
              rintro e w12 ⟨a12, c12, rfl, y2, _⟩
              clear hx y1
              )
            | (
              go_at_call 46
              have hx := y2
              refine (hG2 _ hx).mono ?_
              rintro e w13 ⟨rfl, y3⟩
              clear hx y2
              )
            | (
              go_at_call 47
              have hx := y3
              refine (hD2 _ hx).mono ?_
              rintro e w14 ⟨a14, c14, rfl, y4, i4⟩
              clear hx y3
              have i4' := i4.keep (S := []) ((Mod.refl _ w14).alloc (.cells #[.int .i64 7] 3)) (by simp)
              have n4 := heapNew w14 (.cells #[.int .i64 7] 3)
              have M4 := y4.mod
              )
            | (
              go_at_call 48
              refine (hI _ _ _ _ i4' n4).mono ?_
              rintro e w15 ⟨rfl, k15, rfl⟩
              )
            | (
              go_at_call 43
              refine (wheel_known _).mono ?_
              rintro e wk ⟨rfl, mk, _⟩
              )
            )
          go_ret
          exact Rets.of rfl (Mod.trans (S := []) (T := []) (M4.alloc _) mk.undrewN (by simp)) trivial
end Go.Proofs.Ytbelcmiljjndaaa
