/- The walks over package davitref06, in the same words as package split's. No condition but that the numbers are 64-bit ones. -/
import Derived.Test.YtiegnbdoidiffaaSplit
namespace Go.Proofs.Ytiegnbdoidiffaa
set_option linter.unusedVariables false
set_option linter.unusedSimpArgs false
open Go.RowKit

def isB (l : List Int) (c : Int) : Bool := decide (0 ≤ c ∧ c < l.length)

theorem rsplit_Is (b r : Nat) (l : List Int) (c : Int) (w : World) (h : SplitAt 75 w b r l) :
    Calls Try.prog 47 #[.pointer (some ⟨b, 0, none⟩), .int .i64 c] w (Ret (.bool (isB l c)) w) := by
  have hlp := h.pos
  have hll := h.le
  have c0 : w.cell? ⟨b, 0, none⟩ = some (.slice (some ⟨r, 0, none⟩) l.length l.length) := cellAt h.hb 0
  clear h
  by_cases hc : 0 ≤ c ∧ c < l.length
  · have hE : isB l c = true := by simp [isB, hc]
    rw [hE]
    clear hE
    obtain ⟨hc0, hc1⟩ := hc
    go_enter Try.func47, Try.ntmps47
    go_wp2
    go_ret
    exact Ret.of (rfl) (by repeat (first | exact Drew.refl _ | apply Drew.drewN | apply Drew.drew))
  · have hE : isB l c = false := by simp only [isB]; exact decide_eq_false hc
    rw [hE]
    clear hE
    have hc' : c < 0 ∨ (0 ≤ c ∧ (l.length : Int) ≤ c) := by omega
    clear hc
    rcases hc' with h1 | ⟨h1, h2⟩
    all_goals
      go_enter Try.func47, Try.ntmps47
      go_wp2
      go_ret
      exact Ret.of (by simp <;> omega) (by repeat (first | exact Drew.refl _ | apply Drew.drewN | apply Drew.drew))
theorem rsplit_Add (b r : Nat) (l : List Int) (c n : Int) (hn : In64 n) (w : World) (h : SplitAt 75 w b r l) :
    Calls Try.prog 42 #[.pointer (some ⟨b, 0, none⟩), .int .i64 c, .int .i64 n] w (Rets (.int .i64 (sAddE l c n)) [r] w fun w' => SplitAt 75 w' b r (sAdd l c n)) := by
  have hM := rsplit_Is b r l c w h
  have hlp := h.pos
  have hll := h.le
  have c0 : w.cell? ⟨b, 0, none⟩ = some (.slice (some ⟨r, 0, none⟩) l.length l.length) := cellAt h.hb 0
  by_cases hc : 0 ≤ c ∧ c < l.length
  · have hc' := hc
    obtain ⟨hc0, hc1⟩ := hc
    obtain ⟨c, rfl⟩ := Int.eq_ofNat_of_zero_le hc0
    have hM' : isB l c = true := by simp [isB, hc']
    rw [hM'] at hM
    have hc2 : c < l.length := by omega
    have cc : w.cell? ⟨r, c, none⟩ = some (.int .i64 (nth l c)) := (cellAt h.hr c).trans (rowI_get (by omega))
    have ff : w.frozen? ⟨r, c, none⟩ = false := freeAt h.hr c
    have hA := fun w => refAdd (nth l c) n w (h.inb c hc2) hn
    by_cases hI : In64 (nth l c + n)
    · have hE : sAddE l c n = 0 := by simp [sAddE, addE, hc', hI]
      have hS : sAdd l c n = l.set c (nth l c + n) := by simp only [sAdd, Int.toNat_natCast]; rw [if_pos ⟨hc', hI⟩]
      have e1 : addV (nth l c) n = nth l c + n := by simp [addV, hI]
      have e2 : addE (nth l c) n = 0 := by simp [addE, hI]
      rw [hE, hS]
      rw [e1, e2] at hA
      have hset := fun k => SplitAt.set (w := w.drewN k) ⟨h.hb, h.hr, h.ne, h.pos, h.le, h.inb⟩ c _ hI
      clear e1 e2 hE hS hM' hI
      go_enter Try.func42, Try.ntmps42
      go_wp2_with (go_at_call 47; refine hM.mono ?_; rintro e w' ⟨rfl, k, rfl⟩)
      go_wp2_with (go_at_call 58; refine (hA _).mono ?_; rintro e w' ⟨rfl, k2, rfl⟩)
      go_ret
      exact Rets.of rfl (((Mod.refl _ _).drewN _).setCell (by simp) _) (hset _)
    · have hE : sAddE l c n = 16 := by simp [sAddE, addE, hc', hI]
      have hS : sAdd l c n = l := by simp only [sAdd, Int.toNat_natCast]; rw [if_neg (fun x => hI x.2)]
      have e1 : addV (nth l c) n = 0 := by simp [addV, hI]
      have e2 : addE (nth l c) n = 16 := by simp [addE, hI]
      rw [hE, hS]
      rw [e1, e2] at hA
      clear e1 e2 hE hS hM' hI
      go_enter Try.func42, Try.ntmps42
      go_wp2_with (go_at_call 47; refine hM.mono ?_; rintro e w' ⟨rfl, k, rfl⟩)
      go_wp2_with (go_at_call 58; refine (hA _).mono ?_; rintro e w' ⟨rfl, k2, rfl⟩)
      go_ret
      exact Rets.of rfl ((Mod.refl _ _).drewN _) ⟨h.hb, h.hr, h.ne, h.pos, h.le, h.inb⟩
  · have hM' : isB l c = false := by simp only [isB]; exact decide_eq_false hc
    have hE : sAddE l c n = 3 := by simp [sAddE, hc]
    have hS : sAdd l c n = l := by unfold sAdd; rw [if_neg (fun x => hc x.1)]
    rw [hM'] at hM
    rw [hE, hS]
    clear hE hS hM' hc
    go_enter Try.func42, Try.ntmps42
    go_wp2_with (go_at_call 47; refine hM.mono ?_; rintro e w' ⟨rfl, k, rfl⟩)
    go_ret
    exact Rets.of rfl ((Mod.refl _ _).drewN _) ⟨h.hb, h.hr, h.ne, h.pos, h.le, h.inb⟩


theorem rsplit_Fold (b r : Nat) (l : List Int) (f t : Int) (w : World) (h : SplitAt 75 w b r l) :
    Calls Try.prog 41 #[.pointer (some ⟨b, 0, none⟩), .int .i64 f, .int .i64 t] w (Rets (.int .i64 (sFoldE l f t)) [r] w fun w' => SplitAt 75 w' b r (sFold l f t)) := by
  have hlp := h.pos
  have hll := h.le
  have c0 : w.cell? ⟨b, 0, none⟩ = some (.slice (some ⟨r, 0, none⟩) l.length l.length) := cellAt h.hb 0
  by_cases hf : 0 ≤ f ∧ f < l.length
  · by_cases ht : 0 ≤ t ∧ t < l.length
    · have hM : isB l f = true := by simp [isB, hf]
      have hM2 : isB l t = true := by simp [isB, ht]
      have hf' := hf
      have ht' := ht
      obtain ⟨hf0, hf1⟩ := hf
      obtain ⟨ht0, ht1⟩ := ht
      obtain ⟨f, rfl⟩ := Int.eq_ofNat_of_zero_le hf0
      obtain ⟨t, rfl⟩ := Int.eq_ofNat_of_zero_le ht0
      by_cases e : f = t
      · subst e
        rw [show sFoldE l f f = 2 by simp [sFoldE, hf'], show sFold l f f = l by unfold sFold; rw [if_neg (fun x => x.2.1 rfl)]]
        go_enter Try.func41, Try.ntmps41
        go_wp2_with (go_at_call 47; refine (rsplit_Is b r l _ _ (by exact h.same rfl)).mono ?_; rintro e w' ⟨rfl, k, rfl⟩)
        go_ret
        exact Rets.of rfl ((Mod.refl _ _).drewN _) ⟨h.hb, h.hr, h.ne, h.pos, h.le, h.inb⟩
      · have e' : ((f : Int) == (t : Int)) = false := by simp; omega
        have hf2 : f < l.length := by omega
        have cc : w.cell? ⟨r, f, none⟩ = some (.int .i64 (nth l f)) := (cellAt h.hr f).trans (rowI_get (by omega))
        have ff : w.frozen? ⟨r, f, none⟩ = false := freeAt h.hr f
        have hA := fun k => rsplit_Add b r l t (nth l f) (h.inb f hf2) (w.drewN k) ⟨h.hb, h.hr, h.ne, h.pos, h.le, h.inb⟩
        by_cases hI : In64 (nth l t + nth l f)
        · rw [show sFoldE l f t = 0 by simp [sFoldE, addE, hf', ht', hI]; omega, show sFold l f t = (l.set t (nth l t + nth l f)).set f 0 by unfold sFold; rw [if_pos ⟨⟨hf', ht'⟩, by omega, hI⟩]; rfl]
          rw [show sAddE l t (nth l f) = 0 by simp [sAddE, addE, ht', hI], show sAdd l t (nth l f) = l.set t (nth l t + nth l f) by unfold sAdd; rw [if_pos ⟨ht', hI⟩]; rfl] at hA
          clear hI
          go_enter Try.func41, Try.ntmps41
          go_wp2_with (go_at_call 47; refine (rsplit_Is b r l _ _ (by exact h.same rfl)).mono ?_; rintro e w' ⟨rfl, k, rfl⟩)
          go_wp2_with (go_at_call 42; refine (hA _).mono ?_; rintro e w1 ⟨rfl, m1, x1⟩; have c1 : w1.cell? ⟨b, 0, none⟩ = some (.slice (some ⟨r, 0, none⟩) l.length l.length) := (by have := cellAt x1.hb 0; simpa using this); have cc1 : w1.cell? ⟨r, f, none⟩ = some (.int .i64 (nth (l.set t (nth l t + nth l f)) f)) := (cellAt x1.hr f).trans (rowI_get (by simpa using hf2)); have ff1 : w1.frozen? ⟨r, f, none⟩ = false := freeAt x1.hr f)
          go_ret
          exact Rets.of rfl ((((Mod.refl _ _).drewN _).trans m1 (by simp)).setCell (by simp) _) (x1.set f 0 (by decide))
        · rw [show sFoldE l f t = 16 by simp [sFoldE, addE, hf', ht', hI]; omega, show sFold l f t = l by unfold sFold; rw [if_neg (fun x => hI x.2.2)]]
          rw [show sAddE l t (nth l f) = 16 by simp [sAddE, addE, ht', hI], show sAdd l t (nth l f) = l by unfold sAdd; rw [if_neg (fun x => hI x.2)]] at hA
          clear hI
          go_enter Try.func41, Try.ntmps41
          go_wp2_with (go_at_call 47; refine (rsplit_Is b r l _ _ (by exact h.same rfl)).mono ?_; rintro e w' ⟨rfl, k, rfl⟩)
          go_wp2_with (go_at_call 42; refine (hA _).mono ?_; rintro e w1 ⟨rfl, m1, x1⟩)
          go_ret
          exact Rets.of rfl (((Mod.refl _ _).drewN _).trans m1 (by simp)) x1
    · have hM : isB l f = true := by simp [isB, hf]
      have hM2 : isB l t = false := by simp only [isB]; exact decide_eq_false ht
      rw [show sFoldE l f t = 3 by unfold sFoldE; rw [if_neg (fun x => ht x.2)], show sFold l f t = l by unfold sFold; rw [if_neg (fun x => ht x.1.2)]]
      clear hf ht
      go_enter Try.func41, Try.ntmps41
      go_wp2_with (go_at_call 47; refine (rsplit_Is b r l _ _ (by exact h.same rfl)).mono ?_; rintro e w' ⟨rfl, k, rfl⟩)
      go_ret
      exact Rets.of rfl ((Mod.refl _ _).drewN _) ⟨h.hb, h.hr, h.ne, h.pos, h.le, h.inb⟩
  · have hM : isB l f = false := by simp only [isB]; exact decide_eq_false hf
    rw [show sFoldE l f t = 3 by unfold sFoldE; rw [if_neg (fun x => hf x.1)], show sFold l f t = l by unfold sFold; rw [if_neg (fun x => hf x.1.1)]]
    clear hf
    go_enter Try.func41, Try.ntmps41
    go_wp2_with (go_at_call 47; refine (rsplit_Is b r l _ _ (by exact h.same rfl)).mono ?_; rintro e w' ⟨rfl, k, rfl⟩)
    go_ret
    exact Rets.of rfl ((Mod.refl _ _).drewN _) ⟨h.hb, h.hr, h.ne, h.pos, h.le, h.inb⟩

theorem rsplit_New_no (n : Int) (w : World) (h : n < 1 ∨ 64 < n) :
    Calls Try.prog 40 #[.int .i64 n] w (Ret (.tuple #[.pointer none, .int .i64 2]) w) := by
  rcases h with h | h
  all_goals
    go_enter Try.func40, Try.ntmps40
    go_wp2
    go_ret2
    exact Ret.of (rfl) (by repeat (first | exact Drew.refl _ | apply Drew.drewN | apply Drew.drew))

theorem rsplit_New_ok (n : Nat) (w : World) (h1 : 1 ≤ n) (h2 : n ≤ 64) :
    Calls Try.prog 40 #[.int .i64 n] w (Rets (.tuple #[.pointer (some ⟨w.heap.size + 1, 0, none⟩), .int .i64 0]) [] w fun w' => w.heap.size + 1 < w'.heap.size ∧ SplitAt 75 w' (w.heap.size + 1) w.heap.size (List.replicate n 0)) := by
  have hmk := fun w => Go.run_make_row' (P := Try.prog) 72 2 (.int .i64 0) 8 Try.underlying72 infoI64 rfl .i64 .i64 n (by omega) (by omega) w
  go_enter Try.func40, Try.ntmps40
  go_wp2
  go_ret2
  refine Rets.of ?_ (Mod.alloc (Mod.alloc (Mod.refl _ _) _) _) ⟨?_, ?_, ?_, by omega, by simpa using h1, by simpa using h2, in64_rep n⟩
  · simp
  · simp
  · have := heapNew (w.alloc (Obj.cells (madeCells #[Value.int .i64 0] n) 2)) (Obj.cells #[.slice (some ⟨w.heap.size, 0, none⟩) n n] 75)
    simpa using this
  · rw [← rowI_made]; exact heapOld (heapNew _ _)


theorem and32 (x : Int) : bits .and .i64 x 4294967295 = x % 4294967296 := by
  have hm : (BitVec.ofInt 64 4294967295).toNat = 2 ^ 32 - 1 := by decide
  have key : (BitVec.ofInt 64 x &&& BitVec.ofInt 64 4294967295).toNat = (x % ((2 ^ 64 : Nat) : Int)).toNat % 2 ^ 32 := by
    rw [BitVec.toNat_and, BitVec.toNat_ofInt, hm, Nat.and_two_pow_sub_one_eq_mod]
  show IntKind.i64.wrap ((BitVec.ofInt 64 x &&& BitVec.ofInt 64 4294967295).toNat : Nat) = x % 4294967296
  rw [key, IntKind.wrap_i64]
  omega

set_option maxRecDepth 100000 in
theorem rsplit_Sum (b r : Nat) (l : List Int) (w : World) (h : SplitAt 75 w b r l) :
    Calls Try.prog 43 #[.pointer (some ⟨b, 0, none⟩)] w (Ret (.tuple #[.int .i64 (sSumV l), .int .i64 (sSumE l)]) w) := by
  have hlp := h.pos
  have hll := h.le
  have c0 : w.cell? ⟨b, 0, none⟩ = some (.slice (some ⟨r, 0, none⟩) l.length l.length) := cellAt h.hb 0
  have cr : ∀ i, i < l.length → w.cell? ⟨r, i, none⟩ = some (.int .i64 (nth l i)) := fun i hi => (cellAt h.hr i).trans (rowI_get hi)
  have hin := h.inb
  clear h
  go_enter Try.func43, Try.ntmps43
  go_wp2
  go_loopg [4, 5, 6] l.length (fun g hi lo i wr => ∃ (k : Nat) (H L : Int), i = .int .i64 k ∧ k + g = l.length ∧ hi = .int .i64 H ∧ lo = .int .i64 L ∧ Hid (H * 4294967296 + L = (l.take k).sum) ∧ 0 ≤ L ∧ L ≤ 4294967296 * k ∧ -(2147483648 * (k : Int)) ≤ H ∧ H ≤ 2147483648 * k ∧ w = wr)
  case atStart => exact ⟨0, 0, 0, rfl, by omega, rfl, rfl, rfl, by omega, by omega, by omega, by omega, rfl⟩
  case round =>
    obtain ⟨k, H, L, rfl, hk, rfl, rfl, hS, hL0, hL1, hH0, hH1, rfl⟩ := hrel
    by_cases hkl : k < l.length
    · have ck := cr k hkl
      have hn := hin k hkl
      have hT := Lib.hid (take_sum_succ l k hkl)
      clear cr hin
      obtain ⟨hn1, hn2⟩ := hn
      generalize nth l k = x at *
      have ha := and32 x
      have hb1 : 0 ≤ x % 4294967296 := by omega
      have hb2 : x % 4294967296 ≤ 4294967295 := by omega
      go_wp2
      go_roundg (gk - 1)
      case measure => omega
      case rel =>
        have hT' := hT.out
        have hS' := hS.out
        refine ⟨k + 1, _, _, by go_num, by omega, rfl, rfl, ?_, by omega, by omega, by omega, by omega, rfl⟩
        show _ = _
        rw [hT']
        omega
    · have hk' : k = l.length := by omega
      have hS' := hS.out
      rw [hk', List.take_length] at hS'
      clear cr hin hS
      have ha := and32 L
      by_cases h1 : 2147483647 < H + L / 4294967296
      · have e1 : sSumV l = 0 := if_neg (show ¬ In64 l.sum by unfold In64; omega)
        have e2 : sSumE l = 16 := if_neg (show ¬ In64 l.sum by unfold In64; omega)
        have E1 := Lib.hid e1
        have E2 := Lib.hid e2
        clear e1 e2 hS'
        go_wp2
        go_ret2
        exact Ret.of (by rw [E1.out, E2.out]; rfl) (by repeat (first | exact Drew.refl _ | apply Drew.drewN | apply Drew.drew))
      · by_cases h2 : H + L / 4294967296 < -2147483648
        · have e1 : sSumV l = 0 := if_neg (show ¬ In64 l.sum by unfold In64; omega)
          have e2 : sSumE l = 16 := if_neg (show ¬ In64 l.sum by unfold In64; omega)
          have E1 := Lib.hid e1
          have E2 := Lib.hid e2
          clear e1 e2 hS'
          go_wp2
          go_ret2
          exact Ret.of (by rw [E1.out, E2.out]; rfl) (by repeat (first | exact Drew.refl _ | apply Drew.drewN | apply Drew.drew))
        · have e1 : sSumV l = (H + L / 4294967296) * 4294967296 + L % 4294967296 := (if_pos (show In64 l.sum by unfold In64; omega)).trans (by omega)
          have e2 : sSumE l = 0 := if_pos (show In64 l.sum by unfold In64; omega)
          have E1 := Lib.hid e1
          have E2 := Lib.hid e2
          clear e1 e2 hS'
          have hb1 : 0 ≤ L % 4294967296 := by omega
          have hb2 : L % 4294967296 ≤ 4294967295 := by omega
          go_wp2
          go_ret2
          exact Ret.of (by rw [E1.out, E2.out]; rfl) (by repeat (first | exact Drew.refl _ | apply Drew.drewN | apply Drew.drew))

/-- Two rows of 64-bit numbers are compared. -/
theorem same64 (a b : Nat) (l m : List Int) (w : World) (hl : l.length ≤ 1000000) (hm : m.length ≤ 1000000) (ha : w.heap[a]? = some (.cells (rowI .i64 l) 2 (0,0))) (hb : w.heap[b]? = some (.cells (rowI .i64 m) 2 (0,0))) :
    Calls Try.prog 45 #[.slice (some ⟨a, 0, none⟩) l.length l.length, .slice (some ⟨b, 0, none⟩) m.length m.length] w (Ret (.bool (decide (l = m))) w) := by
  by_cases hlm : l.length = m.length
  · have ca : ∀ i, i < l.length → w.cell? ⟨a, i, none⟩ = some (.int .i64 (nth l i)) := fun i hi => (cellAt ha i).trans (rowI_get hi)
    have cb : ∀ i, i < l.length → w.cell? ⟨b, i, none⟩ = some (.int .i64 (nth m i)) := fun i hi => (cellAt hb i).trans (rowI_get (by omega))
    rw [← hlm]
    have HL := Lib.hid hlm
    clear ha hb hlm hm
    go_enter Try.func45, Try.ntmps45
    go_wp2
    go_loopg [5] l.length (fun g i wr => ∃ k : Nat, i = .int .i64 k ∧ k + g = l.length ∧ Hid (∀ j, j < k → nth l j = nth m j) ∧ Drew w wr)
    case atStart => exact ⟨0, rfl, by omega, fun j hj => by omega, Drew.refl _⟩
    case round =>
      obtain ⟨k, rfl, hk, hS, d, rfl⟩ := hrel
      by_cases hkl : k < l.length
      · have ck := ca k hkl
        have dk := cb k hkl
        clear ca cb
        by_cases e : nth l k = nth m k
        · have HE := Lib.hid e
          rw [← e] at dk
          clear e
          go_wp2
          go_quiet (fail)
          go_wp2
          go_roundg (gk - 1)
          case measure => omega
          case rel =>
            refine ⟨k + 1, by go_num, by omega, fun j hj => ?_, _, rfl⟩
            by_cases e : j = k
            · rw [e]; exact HE.out
            · exact hS.out j (by omega)
        · have e' : (nth l k != nth m k) = true := by simpa using e
          have hne : decide (l = m) = false := decide_eq_false (fun h => e (by rw [h]))
          have HN := Lib.hid hne
          clear hne e
          go_wp2
          go_quiet (fail)
          go_wp2
          go_ret
          exact Ret.of (by rw [HN.out]; rfl) (by repeat (first | exact Drew.refl _ | apply Drew.drewN | apply Drew.drew))
      · have hk' : k = l.length := by omega
        have heq : decide (l = m) = true := decide_eq_true (by
          apply List.ext_getElem HL.out
          intro i h1 h2
          have := hS.out i (by omega)
          simpa [nth, List.getD, h1, h2] using this)
        have HN := Lib.hid heq
        clear heq ca cb
        go_wp2
        go_ret
        exact Ret.of (by rw [HN.out]; rfl) (by repeat (first | exact Drew.refl _ | apply Drew.drewN | apply Drew.drew))
  · have hne : decide (l = m) = false := decide_eq_false (fun h => hlm (by rw [h]))
    rw [hne]
    have e' : ((l.length : Int) != (m.length : Int)) = true := by simp; omega
    clear ha hb hne
    go_enter Try.func45, Try.ntmps45
    go_wp2
    go_ret
    exact Ret.of (rfl) (by repeat (first | exact Drew.refl _ | apply Drew.drewN | apply Drew.drew))
end Go.Proofs.Ytiegnbdoidiffaa
