/- The walks over davitref01's Of and And: what is in both masks. -/
import Derived.Test.YtiegnbdoidiffaaUpto
import Derived.Test.YtiegnbdoidiffaaInts
namespace Go.Proofs.Ytiegnbdoidiffaa
set_option linter.unusedVariables false
set_option linter.unusedSimpArgs false
open Go.RowKit

def ofM (l : List Int) : Nat := l.foldl (fun m x => m ||| 2 ^ x.toNat) 0
theorem foldM_bit (j : Nat) : ∀ (l : List Int) (m : Nat), (∀ x, x ∈ l → 0 ≤ x) → (l.foldl (fun m x => m ||| 2 ^ x.toNat) m).testBit j = (m.testBit j || decide ((j : Int) ∈ l))
  | [], m, _ => by simp
  | a :: l, m, h => by
    rw [List.foldl_cons, foldM_bit j l _ (fun x hx => h x (by simp [hx])), Nat.testBit_or, Nat.testBit_two_pow, Bool.or_assoc]
    congr 1
    have ha := h a (by simp)
    by_cases e : (j : Int) = a
    · have : a.toNat = j := by omega
      simp [e, this]
    · have : a.toNat ≠ j := by omega
      simp [e, this]
theorem ofM_bit (l : List Int) (h : ∀ x, x ∈ l → 0 ≤ x) (j : Nat) : (ofM l).testBit j = decide ((j : Int) ∈ l) := by
  unfold ofM; rw [foldM_bit j l 0 h]; simp
theorem foldM_lt : ∀ (l : List Int) (m : Nat), (∀ x, x ∈ l → 0 ≤ x ∧ x < 64) → m < 2 ^ 64 → l.foldl (fun m x => m ||| 2 ^ x.toNat) m < 2 ^ 64
  | [], m, _, hm => hm
  | a :: l, m, h, hm => by
    rw [List.foldl_cons]
    have ha := h a (by simp)
    exact foldM_lt l _ (fun x hx => h x (by simp [hx])) (Nat.or_lt_two_pow hm (pow_lt (by omega)))
theorem nth_mem' {l : List Int} {i : Nat} (h : i < l.length) : nth l i ∈ l := by
  have : nth l i = l[i] := by simp [nth, List.getD, h]
  rw [this]; exact List.getElem_mem h
theorem take_nth' {l : List Int} {i : Nat} (h : i < l.length) : l.take (i + 1) = l.take i ++ [nth l i] := by
  rw [List.take_add_one, List.getElem?_eq_getElem h]
  simp [nth, List.getD, h]
theorem ofM_step {l : List Int} {i : Nat} (h : i < l.length) : ofM (l.take (i + 1)) = ofM (l.take i) ||| 2 ^ (nth l i).toNat := by
  rw [take_nth' h]; simp [ofM, List.foldl_append]
theorem ofM_lt {l : List Int} (h : ∀ x, x ∈ l → 0 ≤ x ∧ x < 64) : ofM l < 2 ^ 64 := foldM_lt l 0 h (by omega)

set_option maxRecDepth 100000 in
theorem rmask_Of (g : Option Nat) (cap : Nat) (l : List Int) (w : World) (h : LAt w g cap l) (hb : ∀ x, x ∈ l → 0 ≤ x ∧ x < 64) : Calls Try.prog 61 #[.slice (lA g) l.length cap] w (Ret (.int .u64 (ofM l)) w) := by
  have hc := h.cap
  unfold maxLen at hc
  obtain ⟨hc1, hc2⟩ := hc
  go_enter Try.func61, Try.ntmps61
  go_wp2
  go_loopg [3, 4] l.length (fun gg m i wr => ∃ j : Nat, i = .int .i64 j ∧ j + gg = l.length ∧ m = .int .u64 (ofM (l.take j)) ∧ Drew w wr)
  case atStart => exact ⟨0, rfl, by omega, by simp [ofM], Drew.refl _⟩
  case round =>
    obtain ⟨j, rfl, hj, rfl, hd⟩ := hrel
    obtain ⟨kd, rfl⟩ := hd
    by_cases hjl : j < l.length
    · obtain ⟨b, rfl, cj⟩ := h.cell hjl
      rw [lA_some]
      have hx := hb _ (nth_mem' hjl)
      have hS := Lib.hid (ofM_step hjl)
      have hlt : ofM (l.take j) < 2 ^ 64 := ofM_lt (fun x hx => hb x (List.mem_of_mem_take hx))
      obtain ⟨v, hv⟩ := Int.eq_ofNat_of_zero_le hx.1
      rw [hv] at cj
      have hv2 : v < 64 := by omega
      have hW := fun w => rmask_With (ofM (l.take j)) v w hlt hv2
      have hT : (nth l j).toNat = v := by omega
      have HT := Lib.hid hT
      generalize ofM (l.take j) = M at *
      clear hT hv hx hb h
      go_wp2_with (go_at_call 62; refine (hW _).mono ?_; rintro e w' ⟨rfl, k, rfl⟩)
      go_roundg (gk - 1)
      case measure => omega
      case rel => exact ⟨j + 1, by go_num, by omega, by rw [hS.out, HT.out], ⟨kd + k, by first | rfl | simp⟩⟩
    · have hT : l.take j = l := List.take_of_length_le (by omega)
      rw [hT]
      clear hb h
      go_wp2
      go_ret
      exact Ret.of (rfl) (by repeat (first | exact Drew.refl _ | apply Drew.drewN | apply Drew.drew))

def andL (a b : Nat) (j : Nat) : List Int := ((List.range j).filter fun i => a.testBit i && b.testBit i).map (fun i : Nat => (i : Int))
theorem andL_succ (a b j : Nat) : andL a b (j + 1) = if (a.testBit j && b.testBit j) = true then andL a b j ++ [(j : Int)] else andL a b j := by
  unfold andL
  rw [List.range_succ, List.filter_append, List.map_append]
  by_cases h : (a.testBit j && b.testBit j) = true
  · simp [h]
  · simp [h]
theorem andL_len (a b : Nat) : ∀ j, (andL a b j).length ≤ j
  | 0 => by simp [andL]
  | j + 1 => by
    have := andL_len a b j
    rw [andL_succ]
    split <;> simp <;> omega
theorem andL_bd {a b j : Nat} (h : j ≤ 64) : ∀ x, x ∈ andL a b j → 0 ≤ x ∧ x < 64 := by
  intro x hx
  unfold andL at hx
  obtain ⟨i, hi, rfl⟩ := List.mem_map.1 hx
  have := (List.mem_filter.1 hi).1
  have := List.mem_range.1 this
  omega
theorem ofM_and (a b : Nat) (ha : a < 2 ^ 64) : ofM (andL a b 64) = a &&& b := by
  apply Nat.eq_of_testBit_eq
  intro j
  rw [ofM_bit _ (fun x hx => (andL_bd (Nat.le_refl _) x hx).1), Nat.testBit_and]
  by_cases hj : j < 64
  · by_cases h : (a.testBit j && b.testBit j) = true
    · rw [h]
      refine decide_eq_true ?_
      exact List.mem_map.2 ⟨j, List.mem_filter.2 ⟨List.mem_range.2 hj, h⟩, rfl⟩
    · have h' : (a.testBit j && b.testBit j) = false := by simpa using h
      rw [h']
      refine decide_eq_false (fun hx => ?_)
      obtain ⟨i, hi, e⟩ := List.mem_map.1 hx
      have e' : i = j := by omega
      subst e'
      exact h (List.mem_filter.1 hi).2
  · have h1 : a.testBit j = false := Nat.testBit_lt_two_pow (Nat.lt_of_lt_of_le ha (Nat.pow_le_pow_right (by omega) (by omega)))
    rw [h1]
    refine decide_eq_false (fun hx => ?_)
    have := (andL_bd (Nat.le_refl _) _ hx).2
    omega

set_option maxRecDepth 100000 in
theorem rmask_And (a b : Nat) (w : World) (ha : a < 2 ^ 64) (hb : b < 2 ^ 64) : Calls Try.prog 52 #[.int .u64 a, .int .u64 b] w (Rets (.int .u64 (a &&& b : Nat)) [] w fun _ => True) := by
  go_enter Try.func52, Try.ntmps52
  go_wp2
  go_loopg [5, 6] 64 (fun gg out i wr => ∃ (j : Nat) (g : Option Nat) (cap : Nat), i = .int .i64 j ∧ j + gg = 64 ∧ out = .slice (lA g) (andL a b j).length cap ∧ LAt wr g cap (andL a b j) ∧ Mod [] w wr ∧ ∀ b, b ∈ lF g → w.heap.size ≤ b)
  case atStart => exact ⟨0, none, 0, rfl, by omega, rfl, ⟨rfl, rfl⟩, Mod.refl _ _, by simp [lF]⟩
  case round =>
    obtain ⟨j, g, cap, rfl, hj, rfl, hL, m, hg⟩ := hrel
    have hS := andL_succ a b j
    by_cases hj64 : j < 64
    · have hHa := fun w => rmask_Has a j w hj64
      have hHb := fun w => rmask_Has b j w hj64
      by_cases h : (a.testBit j && b.testBit j) = true
      · rw [if_pos h] at hS
        have h1 : a.testBit j = true := by simp at h; exact h.1
        have h2 : b.testBit j = true := by simp at h; exact h.2
        have HS := Lib.hid hS
        have hlen : (andL a b j).length < 1000000 := by have := andL_len a b j; omega
        clear hS h
        generalize andL a b j = lj at *
        have hms := m.size
        go_wp2_with (first | (go_at_call 60; refine (rmask_Has _ _ _ hj64).mono ?_; rintro e w' ⟨rfl, k1, rfl⟩) | (at_builtin; refine wpList_append_LAt rfl _ _ rfl (by exact hL.keep (((Mod.refl [] wr).drewN _).alloc _) (by simp)) hlen (heapNew _ _) rfl rfl ?_; rintro g2 cap2 w2 hL2 m2 hg2; have H2 := Lib.hid (And.intro hL2 (And.intro (Mod.trans (S := []) ((m.drewN _).alloc _) m2 (fun b hb => .inr (hg b hb))) hg2)); clear hL2 m2 hg2))
        obtain ⟨hL2, m3, hg2⟩ := H2.out
        rw [sizeNew] at hg2
        go_roundg (gk - 1)
        case measure => omega
        case rel =>
          refine ⟨j + 1, some g2, cap2, by go_num, by omega, by rw [HS.out]; simp [lA], by rw [HS.out]; exact hL2, m3, ?_⟩
          intro b hb
          simp [lF] at hb
          subst hb
          rcases hg2 with hg2 | hg2
          · exact hg _ hg2
          · simp at hg2; omega
      · rw [if_neg h] at hS
        have HS := Lib.hid hS
        clear hS
        generalize andL a b j = lj at *
        cases h1 : a.testBit j
        · go_wp2_with (first | (go_at_call 60; refine (rmask_Has _ _ _ hj64).mono ?_; rintro e w' ⟨rfl, k1, rfl⟩))
          go_roundg (gk - 1)
          case measure => omega
          case rel => exact ⟨j + 1, g, cap, by go_num, by omega, by rw [HS.out], by rw [HS.out]; exact hL.same rfl, m.drewN _, hg⟩
        · have h2 : b.testBit j = false := by simp [h1] at h; exact h
          go_wp2_with (first | (go_at_call 60; refine (rmask_Has _ _ _ hj64).mono ?_; rintro e w' ⟨rfl, k1, rfl⟩))
          go_roundg (gk - 1)
          case measure => omega
          case rel => exact ⟨j + 1, g, cap, by go_num, by omega, by rw [HS.out], by rw [HS.out]; exact hL.same rfl, m.drewN _, hg⟩
    · have hj2 : j = 64 := by omega
      subst hj2
      have hO := Lib.hid (ofM_and a b ha)
      have hbd := andL_bd (a := a) (b := b) (j := 64) (Nat.le_refl _)
      generalize andL a b 64 = l at *
      go_wp2_with (go_at_call 61; refine (rmask_Of g cap l _ (by exact hL) hbd).mono ?_; rw [hO.out]; rintro e w' ⟨rfl, k1, rfl⟩)
      go_ret
      exact Rets.of rfl (m.drewN _) trivial
end Go.Proofs.Ytiegnbdoidiffaa
