/- The walks over a wheel's taken and Go. -/
import Derived.Test.YthieionajemjhaaDoorWheelAdd
import Derived.Maps.AppendAt
import Derived.Laws.OwnMore
namespace Go.Proofs.YthieionajemjhaaDoor
set_option linter.unusedVariables false
set_option linter.unusedSimpArgs false
open Go.RowKit

/-- The lists of a level from digit 0 on, one behind the other; the wheel without them. -/
def SW.tookN (s : SW) (lv : Nat) : Nat → List Int
  | 0 => []
  | n + 1 => s.tookN lv n ++ s.lists (lv * 8 + n)
def SW.leaveN (s : SW) (lv : Nat) : Nat → SW
  | 0 => s
  | n + 1 => { s.leaveN lv n with lists := upd (s.leaveN lv n).lists (lv * 8 + n) [] }
theorem leaveN_now (s : SW) (lv : Nat) : ∀ n, (s.leaveN lv n).now = s.now
  | 0 => rfl
  | n + 1 => leaveN_now s lv n
theorem leaveN_dues (s : SW) (lv : Nat) : ∀ n, (s.leaveN lv n).dues = s.dues
  | 0 => rfl
  | n + 1 => leaveN_dues s lv n
theorem leaveN_lists (s : SW) (lv k : Nat) : ∀ n, (s.leaveN lv n).lists k = if lv * 8 ≤ k ∧ k < lv * 8 + n then [] else s.lists k
  | 0 => by rw [if_neg (by omega)]; rfl
  | n + 1 => by
    show upd (s.leaveN lv n).lists (lv * 8 + n) [] k = _
    by_cases e : k = lv * 8 + n
    · subst e; rw [upd_same, if_pos (by omega)]
    · rw [upd_ne _ _ e, leaveN_lists s lv k n]
      by_cases h : lv * 8 ≤ k ∧ k < lv * 8 + n
      · rw [if_pos h, if_pos (by omega)]
      · rw [if_neg h, if_neg (by omega)]

/-- append of a whole slice. -/
theorem LAt.appendAll {w : World} {g : Option Nat} {cap : Nat} {l : List Int} (h : LAt w g cap l) {g2 : Option Nat} {cap2 : Nat} {l2 : List Int} (h2 : LAt w g2 cap2 l2) (hl : l.length + l2.length < 1000000) :
    ∃ g' cap' w', (∀ ty, (Builtin.append_ #[49, 49] ty #[.slice (lA g) l.length cap, .slice (lA g2) l2.length cap2]).run Tryd.prog w = .ok (.slice (lA g') (l.length + l2.length) cap') w') ∧
      LAt w' g' cap' (l ++ l2) ∧ Mod (lF g) w w' ∧ ∀ b, b ∈ lF g' → b ∈ lF g ∨ b = w.heap.size := by
  have hI := infoInt
  obtain ⟨i, hi, hi2⟩ := Option.map_eq_some_iff.1 hI
  simp only [Prod.mk.injEq] at hi2
  obtain ⟨i1, i2, i3⟩ := hi2
  cases g2 with
  | none =>
    obtain ⟨rfl, rfl⟩ := h2
    refine ⟨g, cap, w, fun ty => ?_, by simpa using h, Mod.refl _ _, fun b hb => .inl hb⟩
    exact run_append_owned_none (P := Tryd.prog) w 0 49 ty 3 i 1 Tryd.underlying49 hi _ _ _ h.owns
  | some b2 =>
    obtain ⟨v', w', hr, x2, x3, x4, x5⟩ := run_append_own_at (P := Tryd.prog) (w := w) 0 49 0 3 i (.int .i64 0) 1 8 Tryd.underlying49 hi i1 i2 i3 rfl (by omega) _ _ _ h.owns ⟨b2, 0, none⟩ l2.length cap2 (l2.map (Value.int .i64)) (by simp) (by
      intro j u hj
      rw [show Addr.add ⟨b2, 0, none⟩ j = ⟨b2, j, none⟩ by simp [Addr.add]; exact fun h => h.symm]
      have hjl : j < l2.length := by have := (List.getElem?_eq_some_iff.1 hj).1; simpa using this
      obtain ⟨b, e, hc⟩ := h2.cell hjl
      cases e
      rw [hc]
      rw [List.getElem?_map, List.getElem?_eq_getElem hjl] at hj
      simp at hj
      rw [← hj]
      simp [nth, List.getD, hjl]) (by
      intro u hu
      obtain ⟨z, _, rfl⟩ := List.mem_map.1 hu
      rfl) (by unfold maxLen; omega) (by omega) (by omega)
    have hB : (Value.slice (lA g) l.length cap).ownBlock = g := by cases g <;> rfl
    rw [hB] at x3 x5
    have hm : Mod (lF g) w w' := ⟨x3.os, x3.tape, x3.output, x3.size, fun k hk hS => x3.block k hk (by rintro rfl; exact hS (by simp [lF]))⟩
    have hrun : ∀ ty, (Builtin.append_ #[49, 49] ty #[.slice (lA g) l.length cap, .slice (lA (some b2)) l2.length cap2]).run Tryd.prog w = .ok v' w' := by
      intro ty
      have : (Builtin.append_ #[49, 49] ty #[.slice (lA g) l.length cap, .slice (lA (some b2)) l2.length cap2]) = (Builtin.append_ #[49, 49] 0 #[.slice (lA g) l.length cap, .slice (some ⟨b2, 0, none⟩) l2.length cap2]) := rfl
      rw [this]; exact hr
    rcases x2.2 with ⟨hv, h0⟩ | ⟨g3, cap3, cur, hv, _, q1, q2, q3, q4, q5⟩
    · subst hv
      have e1 : l = [] := List.eq_nil_of_length_eq_zero (by omega)
      have e2 : l2 = [] := List.eq_nil_of_length_eq_zero (by omega)
      subst e1 e2
      exact ⟨none, 0, w', hrun, ⟨rfl, rfl⟩, hm, by simp [lF]⟩
    · subst hv
      refine ⟨some g3, cap3, w', hrun, ⟨cur, q1, by simpa using q2, q3, by omega, by rw [Nat.mul_one] at q5; simpa using q5⟩, hm, ?_⟩
      intro b hb
      simp [lF] at hb
      subst hb
      rcases x5 with x5 | x5
      · left
        have : some b = g := x5
        rw [← this]; simp [lF]
      · right
        have : some b = some w.heap.size := x5
        simpa using this
end Go.Proofs.YthieionajemjhaaDoor
