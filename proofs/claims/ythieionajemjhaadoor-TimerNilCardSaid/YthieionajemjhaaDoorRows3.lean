/- append of a part of a slice whose elements are of more than one cell. No condition but those named. -/
import Derived.Test.YthieionajemjhaaDoorRows2
import Derived.Maps.AppendAt
import Derived.Laws.OwnMore
namespace Go.Proofs.YthieionajemjhaaDoor
set_option linter.unusedVariables false
set_option linter.unusedSimpArgs false
open Go.RowKit

/-- At address a lie n elements with the cells xs. -/
def SrcAt (w : World) (sz : Nat) (a : Option Addr) (n : Nat) (xs : List Value) : Prop :=
  xs.length = n * sz ∧ (∀ u ∈ xs, u.oneCell' = true) ∧ ((a = none ∧ n = 0) ∨ ∃ b o, a = some ⟨b, o, none⟩ ∧ ∀ j u, xs[j]? = some u → w.cell? ⟨b, o + j, none⟩ = some u)
theorem SrcAt.keep {S : List Nat} {w w' : World} {sz : Nat} {b : Nat} {o : Nat} {n : Nat} {xs : List Value} (h : SrcAt w sz (some ⟨b, o, none⟩) n xs) (m : Mod S w w') (hS : b ∉ S) : SrcAt w' sz (some ⟨b, o, none⟩) n xs := by
  obtain ⟨h1, h2, h3⟩ := h
  refine ⟨h1, h2, .inr ⟨b, o, rfl, fun j u hj => ?_⟩⟩
  rcases h3 with ⟨e, _⟩ | ⟨b', o', e, h3⟩
  · cases e
  · cases e
    exact m.at (h3 j u hj) hS
/-- append of a part of a slice. -/
theorem RAt.appendSrc {P : Program} {T tt : TypeId} {sz bytes : Nat} {w : World} {g : Option Nat} {cap n : Nat} {xs : List Value} (h : RAt T sz w g cap n xs) (hT : P.underlying tt = some (.slice T)) {i : TypeInfo} {z : Value} (hi : P.info? T = some i) (hz : i.zero = some z) (hs : i.size = sz) (hb : i.bytes = bytes) (hzs : z.cells.size = sz) (hsz : 0 < sz) (hbb : bytes ≤ 1000)
    {a : Option Addr} {n2 c2 : Nat} {ys : List Value} (hsrc : SrcAt w sz a n2 ys) (hl : n + n2 < 1000000) (hc2 : a = none → c2 = 0) :
    ∃ g' cap' w', (∀ ty, (Builtin.append_ #[tt, tt] ty #[.slice (rA g) n cap, .slice a n2 c2]).run P w = .ok (.slice (rA g') (n + n2) cap') w') ∧
      RAt T sz w' g' cap' (n + n2) (xs ++ ys) ∧ Mod (rF g) w w' ∧ ∀ b, b ∈ rF g' → b ∈ rF g ∨ b = w.heap.size := by
  obtain ⟨h1, h2, h3⟩ := hsrc
  have hbytes : (n + n2) * bytes ≤ 140737488355328 := by
    have : (n + n2) * bytes ≤ 1000000 * 1000 := Nat.mul_le_mul (by omega) hbb
    omega
  rcases h3 with ⟨rfl, rfl⟩ | ⟨b2, o2, rfl, h3⟩
  · have e : ys = [] := List.eq_nil_of_length_eq_zero (by omega)
    subst e
    have := hc2 rfl
    subst this
    refine ⟨g, cap, w, fun ty => ?_, by simpa using h, Mod.refl _ _, fun b hb => .inl hb⟩
    exact run_append_owned_none (P := P) w 0 tt ty T i sz hT hi _ _ _ h.owns
  · obtain ⟨v', w', hr, x2, x3, x4, x5⟩ := run_append_own_at (P := P) (w := w) 0 tt 0 T i z sz bytes hT hi hz hs hb hzs hsz _ _ _ h.owns ⟨b2, o2, none⟩ n2 c2 ys h1 (by
      intro j u hj
      have := h3 j u hj
      rw [show Addr.add ⟨b2, o2, none⟩ j = ⟨b2, o2 + j, none⟩ by cases j <;> simp [Addr.add]]
      exact this) h2 (by unfold maxLen; omega) hbytes (by omega)
    have hB : (Value.slice (rA g) n cap).ownBlock = g := by cases g <;> rfl
    rw [hB] at x3 x5
    have hm : Mod (rF g) w w' := ⟨x3.os, x3.tape, x3.output, x3.size, fun k hk hS => x3.block k hk (by rintro rfl; exact hS (by simp [rF]))⟩
    have hrun : ∀ ty, (Builtin.append_ #[tt, tt] ty #[.slice (rA g) n cap, .slice (some ⟨b2, o2, none⟩) n2 c2]).run P w = .ok v' w' := by
      intro ty
      have : (Builtin.append_ #[tt, tt] ty #[.slice (rA g) n cap, .slice (some ⟨b2, o2, none⟩) n2 c2]) = (Builtin.append_ #[tt, tt] 0 #[.slice (rA g) n cap, .slice (some ⟨b2, o2, none⟩) n2 c2]) := rfl
      rw [this]; exact hr
    have hxl := h.1
    rcases x2.2 with ⟨hv, h0⟩ | ⟨g3, cap3, cur, hv, _, q1, q2, q3, q4, q5⟩
    · subst hv
      have e0 : n = 0 := by omega
      have e00 : n2 = 0 := by omega
      subst e0 e00
      have e1 : xs = [] := List.eq_nil_of_length_eq_zero (by omega)
      have e2 : ys = [] := List.eq_nil_of_length_eq_zero (by omega)
      subst e1 e2
      exact ⟨none, 0, w', hrun, RAt.nil _ _ _, hm, by simp [rF]⟩
    · subst hv
      refine ⟨some g3, cap3, w', hrun, ⟨by rw [List.length_append, hxl, h1, Nat.add_mul], cur, q1, q2, q3, by omega, q5⟩, hm, ?_⟩
      intro b hb
      simp [rF] at hb
      subst hb
      rcases x5 with e | e
      · have e' : some b = g := e
        left; rw [← e']; simp [rF]
      · have e' : some b = some w.heap.size := e
        right; simpa using e'
end Go.Proofs.YthieionajemjhaaDoor
