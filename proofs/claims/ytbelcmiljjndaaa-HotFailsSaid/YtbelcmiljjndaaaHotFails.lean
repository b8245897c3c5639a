/- The law HotFails: its walk comes to true at every input. No condition. -/
import Derived.Test.YtbelcmiljjndaaaHotTwo
import Derived.Test.YtbelcmiljjndaaaArgs
import Derived.Deep.LoopGhost
namespace Go.Proofs.Ytbelcmiljjndaaa
set_option linter.unusedVariables false
set_option linter.unusedSimpArgs false
open Go.RowKit

def SP (l : List Int) : SH := ⟨none, false, 0, 0, false, l⟩
def SF (n d : Nat) (back told up : Bool) (l : List Int) : SH := ⟨some ⟨n, d, back⟩, up, 1, 0, told, l⟩
def addP (l : List Int) (k : Int) : List Int := if k ∈ l then l else l ++ [k]

theorem DeskIn.drop {w0 w : World} {d : Nat} {s : SH} {X : List (Nat × Obj)} (h : DeskIn w0 w d s X) : DeskIn w0 w d s [] := by
  obtain ⟨q, pm, h1, h2, h3, h4⟩ := h
  exact ⟨q, pm, h1, h2, h3, by simp⟩

section
variable {w0 w : World} {d n i : Nat} {told up : Bool} {l : List Int} {X : List (Nat × Obj)} {s : SH}
theorem c_plan (x : DeskIn w0 w d s X) {k : Int} (h : 0 ≤ k ∧ k < 10) : Calls Try.prog 12 #[.pointer (some ⟨d, 0, none⟩), .int .i64 k] w (InPost w0 d (.int .i64 0) { s with plan := addP s.plan k } X) := by
  have := x.call (fun _ _ h => hot_Plan _ _ _ _ k _ h)
  have e1 : planE k = 0 := if_pos h
  have e2 : s.doPlan k = { s with plan := addP s.plan k } := by
    unfold SH.doPlan addP
    by_cases e : k ∈ s.plan
    · simp [e]
    · simp [e, h.1, h.2]
  rwa [e1, e2] at this
theorem c_plan_no (x : DeskIn w0 w d s X) {k : Int} (h : ¬ (0 ≤ k ∧ k < 10)) : Calls Try.prog 12 #[.pointer (some ⟨d, 0, none⟩), .int .i64 k] w (InPost w0 d (.int .i64 3) s X) := by
  have := x.call (fun _ _ h => hot_Plan _ _ _ _ k _ h)
  have e1 : planE k = 3 := if_neg h
  have e2 : s.doPlan k = s := by
    unfold SH.doPlan
    rw [if_neg (fun y => h ⟨y.1, y.2.1⟩)]
  rwa [e1, e2] at this
theorem c_begin (x : DeskIn w0 w d (SP l) X) : Calls Try.prog 13 #[.pointer (some ⟨d, 0, none⟩), .bool up, .int .i64 1, .int .i64 0] w (InPost w0 d (.int .i64 0) (SF (if up then 4 else 10) 0 false false up l) X) :=
  x.call (fun _ _ h => hot_Begin _ _ _ _ up 1 0 _ h)
theorem c_next (x : DeskIn w0 w d (SF n i false told up l) X) (h : i < n) (h2 : (i : Int) ∉ l) : Calls Try.prog 14 #[.pointer (some ⟨d, 0, none⟩)] w (InPost w0 d (stV i false false) (SF n i false true up l) X) := by
  have := x.call (fun _ _ h => hot_Next _ _ _ _ _ h)
  have o : SRun.over ⟨n, i, false⟩ = false := by simp [SRun.over]; omega
  have f : (SF n i false told up l).failsNow ⟨n, i, false⟩ = false := by simp [SH.failsNow, SF, SRun.k, o, h2]
  have m : (SF n i false told up l).mayE = 0 := by simp [SH.mayE, SF, o]
  have e1 : stepV (SF n i false told up l) = stV i false false := by
    unfold stepV stV SH.step
    rw [m]
    unfold SF at f ⊢
    simp only [o, f, SRun.k]
    simp
  have e2 : (SF n i false told up l).next = SF n i false true up l := by
    unfold SH.next
    unfold SF at f ⊢
    simp only [o, f]
    simp
  rwa [e1, e2] at this
theorem c_done (x : DeskIn w0 w d (SF n i false told up l) X) (h : i < n) : Calls Try.prog 15 #[.pointer (some ⟨d, 0, none⟩)] w (InPost w0 d (.int .i64 0) (SF n (i + 1) false false up l) X) := by
  have := x.call (fun _ _ h => hot_Done _ _ _ _ _ h)
  have o : SRun.over ⟨n, i, false⟩ = false := by simp [SRun.over]; omega
  have m : (SF n i false told up l).mayE = 0 := by simp [SH.mayE, SF, o]
  have e2 : (SF n i false told up l).done = SF n (i + 1) false false up l := by
    simp [SH.done, SF, o, SRun.done]
  rwa [m, e2] at this
theorem c_fail (x : DeskIn w0 w d (SF n i false false up l) X) (h : i < n) (h2 : (i : Int) ∈ l) : Calls Try.prog 14 #[.pointer (some ⟨d, 0, none⟩)] w (InPost w0 d (stV i false true) (SF n i true true up (l.erase i)) X) := by
  have := x.call (fun _ _ h => hot_Next _ _ _ _ _ h)
  have o : SRun.over ⟨n, i, false⟩ = false := by simp [SRun.over]; omega
  have f : (SF n i false false up l).failsNow ⟨n, i, false⟩ = true := by simp [SH.failsNow, SF, SRun.k, o, h2]
  have m : (SF n i false false up l).mayE = 0 := by simp [SH.mayE, SF, o]
  have e1 : stepV (SF n i false false up l) = stV i false true := by
    unfold stepV stV SH.step
    rw [m]
    unfold SF at f ⊢
    simp only [o, f, SRun.k]
    simp
  have e2 : (SF n i false false up l).next = SF n i true true up (l.erase i) := by
    unfold SH.next
    unfold SF at f ⊢
    simp only [o, f]
    simp [SRun.fail, o, SRun.k]
  rwa [e1, e2] at this
theorem c_back (x : DeskIn w0 w d (SF n (i + 1) true told up l) X) : Calls Try.prog 14 #[.pointer (some ⟨d, 0, none⟩)] w (InPost w0 d (stV i true false) (SF n (i + 1) true true up l) X) := by
  have := x.call (fun _ _ h => hot_Next _ _ _ _ _ h)
  have o : SRun.over ⟨n, i + 1, true⟩ = false := by simp [SRun.over]
  have f : (SF n (i + 1) true told up l).failsNow ⟨n, i + 1, true⟩ = false := by simp [SH.failsNow, SF]
  have m : (SF n (i + 1) true told up l).mayE = 0 := by simp [SH.mayE, SF, o]
  have e1 : stepV (SF n (i + 1) true told up l) = stV i true false := by
    unfold stepV stV SH.step
    rw [m]
    unfold SF at f ⊢
    simp only [o, f, SRun.k]
    simp
  have e2 : (SF n (i + 1) true told up l).next = SF n (i + 1) true true up l := by
    unfold SH.next
    unfold SF at f ⊢
    simp only [o, f]
    simp
  rwa [e1, e2] at this
theorem c_undo (x : DeskIn w0 w d (SF n (i + 1) true told up l) X) : Calls Try.prog 15 #[.pointer (some ⟨d, 0, none⟩)] w (InPost w0 d (.int .i64 0) (SF n i true false up l) X) := by
  have := x.call (fun _ _ h => hot_Done _ _ _ _ _ h)
  have o : SRun.over ⟨n, i + 1, true⟩ = false := by simp [SRun.over]
  have m : (SF n (i + 1) true told up l).mayE = 0 := by simp [SH.mayE, SF, o]
  have e2 : (SF n (i + 1) true told up l).done = SF n i true false up l := by
    simp [SH.done, SF, o, SRun.done]
  rwa [m, e2] at this
theorem c_end (x : DeskIn w0 w d (SF n n false told up l) X) : Calls Try.prog 16 #[.pointer (some ⟨d, 0, none⟩)] w (fun e w' => e = .returned (.tuple #[.int .i64 0, .int .i64 0]) ∧ Mod [] w0 w') := by
  have := x.call (fun _ _ h => hot_End _ _ _ _ _ h)
  have o : SRun.over ⟨n, n, false⟩ = true := by simp [SRun.over]
  have e1 : (SF n n false told up l).endV = 0 := by simp [SH.endV, SF, o, SRun.why]
  have e2 : (SF n n false told up l).endE = 0 := by simp [SH.endE, SF, o]
  rw [e1, e2] at this
  exact this.mono (fun e w' h => ⟨h.1, h.2.mod⟩)
theorem c_end_back (x : DeskIn w0 w d (SF n 0 true told up l) X) : Calls Try.prog 16 #[.pointer (some ⟨d, 0, none⟩)] w (fun e w' => e = .returned (.tuple #[.int .i64 11, .int .i64 0]) ∧ Mod [] w0 w') := by
  have := x.call (fun _ _ h => hot_End _ _ _ _ _ h)
  have o : SRun.over ⟨n, 0, true⟩ = true := by simp [SRun.over]
  have e1 : (SF n 0 true told up l).endV = 11 := by simp [SH.endV, SF, o, SRun.why]
  have e2 : (SF n 0 true told up l).endE = 0 := by simp [SH.endE, SF, o]
  rw [e1, e2] at this
  exact this.mono (fun e w' h => ⟨h.1, h.2.mod⟩)
end

def Good (n fi : Nat) (l : List Int) : Prop := fi ≤ n ∧ (∀ j : Nat, j < fi → (j : Int) ∉ l) ∧ (fi < n → (fi : Int) ∈ l)
theorem Good.new (n : Nat) : Good n n [] := ⟨Nat.le_refl _, by simp, by omega⟩
theorem mem_addP {l : List Int} {k x : Int} : x ∈ addP l k ↔ x ∈ l ∨ x = k := by
  unfold addP
  by_cases h : k ∈ l
  · rw [if_pos h]
    constructor
    · exact .inl
    · rintro (h1 | rfl)
      · exact h1
      · exact h
  · simp [h]
theorem Good.less {n fi p : Nat} {l : List Int} (h : Good n fi l) (hp : p < fi) : Good n p (addP l p) := by
  obtain ⟨h1, h2, h3⟩ := h
  refine ⟨by omega, fun j hj => ?_, fun _ => mem_addP.2 (.inr rfl)⟩
  rw [mem_addP]
  rintro (h | h)
  · exact h2 j (by omega) h
  · omega
theorem Good.more {n fi : Nat} {p : Int} {l : List Int} (h : Good n fi l) (hp : ¬ p < fi) : Good n fi (addP l p) := by
  obtain ⟨h1, h2, h3⟩ := h
  refine ⟨h1, fun j hj => ?_, fun hf => mem_addP.2 (.inl (h3 hf))⟩
  rw [mem_addP]
  rintro (h | h)
  · exact h2 j hj h
  · omega

set_option maxRecDepth 100000 in
set_option maxHeartbeats 4000000 in
theorem HotFails_walk (w : World) (up : Bool) (a : Option Addr) (len cap : Nat) (A : Nat → Int) (hA : IsArr 1 (fun z : Int => [Value.int .i64 z]) (fun z => (Lit.int .i64 z).wf = true) w a len cap A) :
    Calls Try.prog 3 #[.bool up, .slice a len cap] w (Rets (.bool true) [] w fun _ => True) := by
  have hlc := hA.1
  have hcm := hA.2.1
  unfold maxLen at hcm
  cases up
  · go_enter Try.func3, Try.ntmps3
    go_wp2
    have x0 := DeskIn.new w
    go_loopg [7, 8] len (fun gg f i wr => ∃ (k fi : Nat) (l : List Int), i = .int .i64 k ∧ k + gg = len ∧ f = .int .i64 fi ∧ Hid (Good 10 fi l) ∧ DeskIn w wr w.heap.size (SP l) [])
    case atStart => exact ⟨0, 10, [], rfl, by omega, rfl, Good.new _, x0⟩
    case round =>
      clear x0
      obtain ⟨k, fi, l, rfl, hk, rfl, hG, x⟩ := hrel
      have hfi := hG.out.1
      by_cases hkl : k < len ∧ k < 50
      · obtain ⟨hkl, hk2⟩ := hkl
        obtain ⟨b, off, rfl, hok, hb, hc⟩ := cellsOf_arr hA (Mod.refl [] w) hkl
        have cw := hc 0 (by omega)
        clear hc hA
        generalize A k = p at *
        simp only [List.getElem?_cons_zero, Nat.add_zero, Nat.mul_one] at cw
        have c0 := x.mod.at cw (by simp)
        have hk3 : decide ((k : Int) < 50) = true := decide_eq_true (by omega)
        by_cases hp : 0 ≤ p ∧ p < 10
        · obtain ⟨pn, rfl⟩ := Int.eq_ofNat_of_zero_le hp.1
          by_cases hpf : (pn : Int) < fi
          · have hG' := Lib.hid (hG.out.less (p := pn) (by omega))
            go_wp2_with (go_at_call 12; refine (show Calls _ _ _ _ (InPost w w.heap.size (.int .i64 0) (SP (addP l pn)) []) from c_plan x hp).mono ?_; rintro e w1 ⟨rfl, x1⟩; clear x; have c1 := x1.mod.at cw (by simp))
            go_roundg (gk - 1)
            case measure => omega
            case rel => exact ⟨k + 1, pn, _, by go_num, by omega, rfl, hG', x1⟩
          · have hG' := Lib.hid (hG.out.more hpf)
            go_wp2_with (go_at_call 12; refine (show Calls _ _ _ _ (InPost w w.heap.size (.int .i64 0) (SP (addP l pn)) []) from c_plan x hp).mono ?_; rintro e w1 ⟨rfl, x1⟩; clear x; have c1 := x1.mod.at cw (by simp))
            go_roundg (gk - 1)
            case measure => omega
            case rel => exact ⟨k + 1, fi, _, by go_num, by omega, rfl, hG', x1⟩
        · go_wp2_with (go_at_call 12; refine (c_plan_no x hp).mono ?_; rintro e w1 ⟨rfl, x1⟩; clear x; have c1 := x1.mod.at cw (by simp))
          go_roundg (gk - 1)
          case measure => omega
          case rel => exact ⟨k + 1, fi, l, by go_num, by omega, rfl, hG, x1⟩
      · have hne : ¬ ((k : Int) < (len : Int)) ∨ ((k : Int) < (len : Int) ∧ ¬ ((k : Int) < 50)) := by omega
        have hG2 := Lib.hid hG.out.2.1
        have hG3 := Lib.hid hG.out.2.2
        clear hkl hA
        rcases hne with h4 | ⟨h3, h4⟩
        · go_wp2_with (go_at_call 13; refine (show Calls _ _ _ _ (InPost w w.heap.size (.int .i64 0) (SF 10 0 false false false l) []) from c_begin x).mono ?_; rintro e w1 ⟨rfl, x1⟩; clear x)
          have xb := x1
          clear x1
          go_loopg [9] fi (fun gg i wr => ∃ j : Nat, i = .int .i64 j ∧ j + gg = fi ∧ DeskIn w wr w.heap.size (SF 10 j false false false l) [])
          case atStart => exact ⟨0, rfl, by omega, xb⟩
          case round =>
            clear xb
            obtain ⟨j, rfl, hj, x⟩ := hrel
            by_cases hjf : j < fi
            · have hjn : j < 10 := by omega
              have hjl := Lib.hid (hG2.out j hjf)
              go_wp2_with (first | (go_at_call 14; refine (c_next x hjn hjl.out).mono ?_; rintro e w1 ⟨rfl, x1⟩; clear x; have y1 := x1.alloc (stO j false false); unfold stO at y1; unfold stV; clear x1) | (go_at_call 14; refine (c_next y1 hjn hjl.out).mono ?_; rintro e w2 ⟨rfl, x2⟩; clear y1; have z1 := x2.held (b := w1.heap.size) (o := stO j false false) (by simp [stO]); have a0 := cellAt z1 0; have a1 := cellAt z1 1; have a2 := cellAt z1 2; have a3 := ltOf z1; simp only [List.getElem?_toArray, List.getElem?_cons_zero, List.getElem?_cons_succ] at a0 a1 a2; have y2 := x2.alloc (stO j false false); unfold stO at y2; unfold stV; clear x2) | (go_at_call 15; refine (c_done y2 hjn).mono ?_; rintro e w3 ⟨rfl, x3⟩; clear y2))
              go_roundg (gk - 1)
              case measure => omega
              case rel => exact ⟨j + 1, by go_num, by omega, x3.drop⟩
            · have hjf2 : j = fi := by omega
              subst hjf2
              by_cases hjn : j = 10
              · subst hjn
                go_wp2_with (first | (go_at_call 16; refine (c_end x).mono ?_; rintro e w1 ⟨rfl, m1⟩; clear x) | (go_at_call 17; refine (known22 _).mono ?_; rintro e w7 ⟨rfl, m7, _⟩))
                go_ret
                exact Rets.of rfl (m1.trans m7 (by simp)) trivial
              · have hjn2 : j < 10 := by omega
                have hjl := Lib.hid (hG3.out hjn2)
                have hne : ((j : Int) == (10 : Int)) = false := by simp; omega
                go_wp2_with (go_at_call 14; refine (c_fail x hjn2 hjl.out).mono ?_; rintro e w1 ⟨rfl, x1⟩; clear x; have y1 := x1.alloc (stO j false true); unfold stO at y1; unfold stV; clear x1)
                have yb := y1.drop
                clear y1
                go_loopg [18] j (fun gg i wr => ∃ (told : Bool) (l' : List Int), i = .int .i64 ((gg : Int) - 1) ∧ gg ≤ j ∧ DeskIn w wr w.heap.size (SF 10 gg true told false l') [])
                case atStart => exact ⟨true, _, by go_num, Nat.le_refl _, yb⟩
                case round =>
                  clear yb
                  obtain ⟨told, l', rfl, hg, x⟩ := hrel
                  by_cases hg0 : gk = 0
                  · subst hg0
                    go_wp2_with (first | (go_at_call 16; refine (c_end_back x).mono ?_; rintro e w1 ⟨rfl, m1⟩; clear x) | (go_at_call 17; refine (known22 _).mono ?_; rintro e w7 ⟨rfl, m7, _⟩))
                    go_ret
                    exact Rets.of rfl (m1.trans m7 (by simp)) trivial
                  · obtain ⟨m, rfl⟩ : ∃ m, gk = m + 1 := ⟨gk - 1, by omega⟩
                    have hsub : (((m + 1 : Nat) : Int) - 1) = (m : Int) := by omega
                    rw [hsub]
                    clear hsub
                    go_wp2_with (first | (go_at_call 12; refine (show Calls _ _ _ _ (InPost w w.heap.size (.int .i64 0) (SF 10 (m + 1) true told false (addP l' m)) []) from c_plan x (by omega)).mono ?_; rintro e w1 ⟨rfl, x1⟩; clear x) | (go_at_call 14; refine (c_back x1).mono ?_; rintro e w2 ⟨rfl, x2⟩; clear x1; have y2 := x2.alloc (stO m true false); unfold stO at y2; unfold stV; clear x2) | (go_at_call 15; refine (c_undo y2).mono ?_; rintro e w3 ⟨rfl, x3⟩; clear y2))
                    go_roundg m
                    case measure => omega
                    case rel => exact ⟨false, _, by go_num, by omega, x3.drop⟩
        · go_wp2_with (go_at_call 13; refine (show Calls _ _ _ _ (InPost w w.heap.size (.int .i64 0) (SF 10 0 false false false l) []) from c_begin x).mono ?_; rintro e w1 ⟨rfl, x1⟩; clear x)
          have xb := x1
          clear x1
          go_loopg [9] fi (fun gg i wr => ∃ j : Nat, i = .int .i64 j ∧ j + gg = fi ∧ DeskIn w wr w.heap.size (SF 10 j false false false l) [])
          case atStart => exact ⟨0, rfl, by omega, xb⟩
          case round =>
            clear xb
            obtain ⟨j, rfl, hj, x⟩ := hrel
            by_cases hjf : j < fi
            · have hjn : j < 10 := by omega
              have hjl := Lib.hid (hG2.out j hjf)
              go_wp2_with (first | (go_at_call 14; refine (c_next x hjn hjl.out).mono ?_; rintro e w1 ⟨rfl, x1⟩; clear x; have y1 := x1.alloc (stO j false false); unfold stO at y1; unfold stV; clear x1) | (go_at_call 14; refine (c_next y1 hjn hjl.out).mono ?_; rintro e w2 ⟨rfl, x2⟩; clear y1; have z1 := x2.held (b := w1.heap.size) (o := stO j false false) (by simp [stO]); have a0 := cellAt z1 0; have a1 := cellAt z1 1; have a2 := cellAt z1 2; have a3 := ltOf z1; simp only [List.getElem?_toArray, List.getElem?_cons_zero, List.getElem?_cons_succ] at a0 a1 a2; have y2 := x2.alloc (stO j false false); unfold stO at y2; unfold stV; clear x2) | (go_at_call 15; refine (c_done y2 hjn).mono ?_; rintro e w3 ⟨rfl, x3⟩; clear y2))
              go_roundg (gk - 1)
              case measure => omega
              case rel => exact ⟨j + 1, by go_num, by omega, x3.drop⟩
            · have hjf2 : j = fi := by omega
              subst hjf2
              by_cases hjn : j = 10
              · subst hjn
                go_wp2_with (first | (go_at_call 16; refine (c_end x).mono ?_; rintro e w1 ⟨rfl, m1⟩; clear x) | (go_at_call 17; refine (known22 _).mono ?_; rintro e w7 ⟨rfl, m7, _⟩))
                go_ret
                exact Rets.of rfl (m1.trans m7 (by simp)) trivial
              · have hjn2 : j < 10 := by omega
                have hjl := Lib.hid (hG3.out hjn2)
                have hne : ((j : Int) == (10 : Int)) = false := by simp; omega
                go_wp2_with (go_at_call 14; refine (c_fail x hjn2 hjl.out).mono ?_; rintro e w1 ⟨rfl, x1⟩; clear x; have y1 := x1.alloc (stO j false true); unfold stO at y1; unfold stV; clear x1)
                have yb := y1.drop
                clear y1
                go_loopg [18] j (fun gg i wr => ∃ (told : Bool) (l' : List Int), i = .int .i64 ((gg : Int) - 1) ∧ gg ≤ j ∧ DeskIn w wr w.heap.size (SF 10 gg true told false l') [])
                case atStart => exact ⟨true, _, by go_num, Nat.le_refl _, yb⟩
                case round =>
                  clear yb
                  obtain ⟨told, l', rfl, hg, x⟩ := hrel
                  by_cases hg0 : gk = 0
                  · subst hg0
                    go_wp2_with (first | (go_at_call 16; refine (c_end_back x).mono ?_; rintro e w1 ⟨rfl, m1⟩; clear x) | (go_at_call 17; refine (known22 _).mono ?_; rintro e w7 ⟨rfl, m7, _⟩))
                    go_ret
                    exact Rets.of rfl (m1.trans m7 (by simp)) trivial
                  · obtain ⟨m, rfl⟩ : ∃ m, gk = m + 1 := ⟨gk - 1, by omega⟩
                    have hsub : (((m + 1 : Nat) : Int) - 1) = (m : Int) := by omega
                    rw [hsub]
                    clear hsub
                    go_wp2_with (first | (go_at_call 12; refine (show Calls _ _ _ _ (InPost w w.heap.size (.int .i64 0) (SF 10 (m + 1) true told false (addP l' m)) []) from c_plan x (by omega)).mono ?_; rintro e w1 ⟨rfl, x1⟩; clear x) | (go_at_call 14; refine (c_back x1).mono ?_; rintro e w2 ⟨rfl, x2⟩; clear x1; have y2 := x2.alloc (stO m true false); unfold stO at y2; unfold stV; clear x2) | (go_at_call 15; refine (c_undo y2).mono ?_; rintro e w3 ⟨rfl, x3⟩; clear y2))
                    go_roundg m
                    case measure => omega
                    case rel => exact ⟨false, _, by go_num, by omega, x3.drop⟩
  · go_enter Try.func3, Try.ntmps3
    go_wp2
    have x0 := DeskIn.new w
    go_loopg [7, 8] len (fun gg f i wr => ∃ (k fi : Nat) (l : List Int), i = .int .i64 k ∧ k + gg = len ∧ f = .int .i64 fi ∧ Hid (Good 4 fi l) ∧ DeskIn w wr w.heap.size (SP l) [])
    case atStart => exact ⟨0, 4, [], rfl, by omega, rfl, Good.new _, x0⟩
    case round =>
      clear x0
      obtain ⟨k, fi, l, rfl, hk, rfl, hG, x⟩ := hrel
      have hfi := hG.out.1
      by_cases hkl : k < len ∧ k < 50
      · obtain ⟨hkl, hk2⟩ := hkl
        obtain ⟨b, off, rfl, hok, hb, hc⟩ := cellsOf_arr hA (Mod.refl [] w) hkl
        have cw := hc 0 (by omega)
        clear hc hA
        generalize A k = p at *
        simp only [List.getElem?_cons_zero, Nat.add_zero, Nat.mul_one] at cw
        have c0 := x.mod.at cw (by simp)
        have hk3 : decide ((k : Int) < 50) = true := decide_eq_true (by omega)
        by_cases hp : 0 ≤ p ∧ p < 10
        · obtain ⟨pn, rfl⟩ := Int.eq_ofNat_of_zero_le hp.1
          by_cases hpf : (pn : Int) < fi
          · have hG' := Lib.hid (hG.out.less (p := pn) (by omega))
            go_wp2_with (go_at_call 12; refine (show Calls _ _ _ _ (InPost w w.heap.size (.int .i64 0) (SP (addP l pn)) []) from c_plan x hp).mono ?_; rintro e w1 ⟨rfl, x1⟩; clear x; have c1 := x1.mod.at cw (by simp))
            go_roundg (gk - 1)
            case measure => omega
            case rel => exact ⟨k + 1, pn, _, by go_num, by omega, rfl, hG', x1⟩
          · have hG' := Lib.hid (hG.out.more hpf)
            go_wp2_with (go_at_call 12; refine (show Calls _ _ _ _ (InPost w w.heap.size (.int .i64 0) (SP (addP l pn)) []) from c_plan x hp).mono ?_; rintro e w1 ⟨rfl, x1⟩; clear x; have c1 := x1.mod.at cw (by simp))
            go_roundg (gk - 1)
            case measure => omega
            case rel => exact ⟨k + 1, fi, _, by go_num, by omega, rfl, hG', x1⟩
        · go_wp2_with (go_at_call 12; refine (c_plan_no x hp).mono ?_; rintro e w1 ⟨rfl, x1⟩; clear x; have c1 := x1.mod.at cw (by simp))
          go_roundg (gk - 1)
          case measure => omega
          case rel => exact ⟨k + 1, fi, l, by go_num, by omega, rfl, hG, x1⟩
      · have hne : ¬ ((k : Int) < (len : Int)) ∨ ((k : Int) < (len : Int) ∧ ¬ ((k : Int) < 50)) := by omega
        have hG2 := Lib.hid hG.out.2.1
        have hG3 := Lib.hid hG.out.2.2
        clear hkl hA
        rcases hne with h4 | ⟨h3, h4⟩
        · go_wp2_with (go_at_call 13; refine (show Calls _ _ _ _ (InPost w w.heap.size (.int .i64 0) (SF 4 0 false false true l) []) from c_begin x).mono ?_; rintro e w1 ⟨rfl, x1⟩; clear x)
          have xb := x1
          clear x1
          go_loopg [9] fi (fun gg i wr => ∃ j : Nat, i = .int .i64 j ∧ j + gg = fi ∧ DeskIn w wr w.heap.size (SF 4 j false false true l) [])
          case atStart => exact ⟨0, rfl, by omega, xb⟩
          case round =>
            clear xb
            obtain ⟨j, rfl, hj, x⟩ := hrel
            by_cases hjf : j < fi
            · have hjn : j < 4 := by omega
              have hjl := Lib.hid (hG2.out j hjf)
              go_wp2_with (first | (go_at_call 14; refine (c_next x hjn hjl.out).mono ?_; rintro e w1 ⟨rfl, x1⟩; clear x; have y1 := x1.alloc (stO j false false); unfold stO at y1; unfold stV; clear x1) | (go_at_call 14; refine (c_next y1 hjn hjl.out).mono ?_; rintro e w2 ⟨rfl, x2⟩; clear y1; have z1 := x2.held (b := w1.heap.size) (o := stO j false false) (by simp [stO]); have a0 := cellAt z1 0; have a1 := cellAt z1 1; have a2 := cellAt z1 2; have a3 := ltOf z1; simp only [List.getElem?_toArray, List.getElem?_cons_zero, List.getElem?_cons_succ] at a0 a1 a2; have y2 := x2.alloc (stO j false false); unfold stO at y2; unfold stV; clear x2) | (go_at_call 15; refine (c_done y2 hjn).mono ?_; rintro e w3 ⟨rfl, x3⟩; clear y2))
              go_roundg (gk - 1)
              case measure => omega
              case rel => exact ⟨j + 1, by go_num, by omega, x3.drop⟩
            · have hjf2 : j = fi := by omega
              subst hjf2
              by_cases hjn : j = 4
              · subst hjn
                go_wp2_with (first | (go_at_call 16; refine (c_end x).mono ?_; rintro e w1 ⟨rfl, m1⟩; clear x) | (go_at_call 17; refine (known22 _).mono ?_; rintro e w7 ⟨rfl, m7, _⟩))
                go_ret
                exact Rets.of rfl (m1.trans m7 (by simp)) trivial
              · have hjn2 : j < 4 := by omega
                have hjl := Lib.hid (hG3.out hjn2)
                have hne : ((j : Int) == (4 : Int)) = false := by simp; omega
                go_wp2_with (go_at_call 14; refine (c_fail x hjn2 hjl.out).mono ?_; rintro e w1 ⟨rfl, x1⟩; clear x; have y1 := x1.alloc (stO j false true); unfold stO at y1; unfold stV; clear x1)
                have yb := y1.drop
                clear y1
                go_loopg [18] j (fun gg i wr => ∃ (told : Bool) (l' : List Int), i = .int .i64 ((gg : Int) - 1) ∧ gg ≤ j ∧ DeskIn w wr w.heap.size (SF 4 gg true told true l') [])
                case atStart => exact ⟨true, _, by go_num, Nat.le_refl _, yb⟩
                case round =>
                  clear yb
                  obtain ⟨told, l', rfl, hg, x⟩ := hrel
                  by_cases hg0 : gk = 0
                  · subst hg0
                    go_wp2_with (first | (go_at_call 16; refine (c_end_back x).mono ?_; rintro e w1 ⟨rfl, m1⟩; clear x) | (go_at_call 17; refine (known22 _).mono ?_; rintro e w7 ⟨rfl, m7, _⟩))
                    go_ret
                    exact Rets.of rfl (m1.trans m7 (by simp)) trivial
                  · obtain ⟨m, rfl⟩ : ∃ m, gk = m + 1 := ⟨gk - 1, by omega⟩
                    have hsub : (((m + 1 : Nat) : Int) - 1) = (m : Int) := by omega
                    rw [hsub]
                    clear hsub
                    go_wp2_with (first | (go_at_call 12; refine (show Calls _ _ _ _ (InPost w w.heap.size (.int .i64 0) (SF 4 (m + 1) true told true (addP l' m)) []) from c_plan x (by omega)).mono ?_; rintro e w1 ⟨rfl, x1⟩; clear x) | (go_at_call 14; refine (c_back x1).mono ?_; rintro e w2 ⟨rfl, x2⟩; clear x1; have y2 := x2.alloc (stO m true false); unfold stO at y2; unfold stV; clear x2) | (go_at_call 15; refine (c_undo y2).mono ?_; rintro e w3 ⟨rfl, x3⟩; clear y2))
                    go_roundg m
                    case measure => omega
                    case rel => exact ⟨false, _, by go_num, by omega, x3.drop⟩
        · go_wp2_with (go_at_call 13; refine (show Calls _ _ _ _ (InPost w w.heap.size (.int .i64 0) (SF 4 0 false false true l) []) from c_begin x).mono ?_; rintro e w1 ⟨rfl, x1⟩; clear x)
          have xb := x1
          clear x1
          go_loopg [9] fi (fun gg i wr => ∃ j : Nat, i = .int .i64 j ∧ j + gg = fi ∧ DeskIn w wr w.heap.size (SF 4 j false false true l) [])
          case atStart => exact ⟨0, rfl, by omega, xb⟩
          case round =>
            clear xb
            obtain ⟨j, rfl, hj, x⟩ := hrel
            by_cases hjf : j < fi
            · have hjn : j < 4 := by omega
              have hjl := Lib.hid (hG2.out j hjf)
              go_wp2_with (first | (go_at_call 14; refine (c_next x hjn hjl.out).mono ?_; rintro e w1 ⟨rfl, x1⟩; clear x; have y1 := x1.alloc (stO j false false); unfold stO at y1; unfold stV; clear x1) | (go_at_call 14; refine (c_next y1 hjn hjl.out).mono ?_; rintro e w2 ⟨rfl, x2⟩; clear y1; have z1 := x2.held (b := w1.heap.size) (o := stO j false false) (by simp [stO]); have a0 := cellAt z1 0; have a1 := cellAt z1 1; have a2 := cellAt z1 2; have a3 := ltOf z1; simp only [List.getElem?_toArray, List.getElem?_cons_zero, List.getElem?_cons_succ] at a0 a1 a2; have y2 := x2.alloc (stO j false false); unfold stO at y2; unfold stV; clear x2) | (go_at_call 15; refine (c_done y2 hjn).mono ?_; rintro e w3 ⟨rfl, x3⟩; clear y2))
              go_roundg (gk - 1)
              case measure => omega
              case rel => exact ⟨j + 1, by go_num, by omega, x3.drop⟩
            · have hjf2 : j = fi := by omega
              subst hjf2
              by_cases hjn : j = 4
              · subst hjn
                go_wp2_with (first | (go_at_call 16; refine (c_end x).mono ?_; rintro e w1 ⟨rfl, m1⟩; clear x) | (go_at_call 17; refine (known22 _).mono ?_; rintro e w7 ⟨rfl, m7, _⟩))
                go_ret
                exact Rets.of rfl (m1.trans m7 (by simp)) trivial
              · have hjn2 : j < 4 := by omega
                have hjl := Lib.hid (hG3.out hjn2)
                have hne : ((j : Int) == (4 : Int)) = false := by simp; omega
                go_wp2_with (go_at_call 14; refine (c_fail x hjn2 hjl.out).mono ?_; rintro e w1 ⟨rfl, x1⟩; clear x; have y1 := x1.alloc (stO j false true); unfold stO at y1; unfold stV; clear x1)
                have yb := y1.drop
                clear y1
                go_loopg [18] j (fun gg i wr => ∃ (told : Bool) (l' : List Int), i = .int .i64 ((gg : Int) - 1) ∧ gg ≤ j ∧ DeskIn w wr w.heap.size (SF 4 gg true told true l') [])
                case atStart => exact ⟨true, _, by go_num, Nat.le_refl _, yb⟩
                case round =>
                  clear yb
                  obtain ⟨told, l', rfl, hg, x⟩ := hrel
                  by_cases hg0 : gk = 0
                  · subst hg0
                    go_wp2_with (first | (go_at_call 16; refine (c_end_back x).mono ?_; rintro e w1 ⟨rfl, m1⟩; clear x) | (go_at_call 17; refine (known22 _).mono ?_; rintro e w7 ⟨rfl, m7, _⟩))
                    go_ret
                    exact Rets.of rfl (m1.trans m7 (by simp)) trivial
                  · obtain ⟨m, rfl⟩ : ∃ m, gk = m + 1 := ⟨gk - 1, by omega⟩
                    have hsub : (((m + 1 : Nat) : Int) - 1) = (m : Int) := by omega
                    rw [hsub]
                    clear hsub
                    go_wp2_with (first | (go_at_call 12; refine (show Calls _ _ _ _ (InPost w w.heap.size (.int .i64 0) (SF 4 (m + 1) true told true (addP l' m)) []) from c_plan x (by omega)).mono ?_; rintro e w1 ⟨rfl, x1⟩; clear x) | (go_at_call 14; refine (c_back x1).mono ?_; rintro e w2 ⟨rfl, x2⟩; clear x1; have y2 := x2.alloc (stO m true false); unfold stO at y2; unfold stV; clear x2) | (go_at_call 15; refine (c_undo y2).mono ?_; rintro e w3 ⟨rfl, x3⟩; clear y2))
                    go_roundg m
                    case measure => omega
                    case rel => exact ⟨false, _, by go_num, by omega, x3.drop⟩
end Go.Proofs.Ytbelcmiljjndaaa
