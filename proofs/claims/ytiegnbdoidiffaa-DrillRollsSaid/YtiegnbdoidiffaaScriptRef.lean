/- The walk over the document's Script. -/
import Derived.Test.YtiegnbdoidiffaaScript2
namespace Go.Proofs.Ytiegnbdoidiffaa
set_option linter.unusedVariables false
set_option linter.unusedSimpArgs false
open Go.RowKit

set_option maxRecDepth 100000 in
set_option maxHeartbeats 2000000 in
theorem rdrill_Script (c x : Int) (n : Nat) (w : World) (h : okS c n) : Calls Try.prog 33 #[.int .i64 c, .int .u64 x, .int .i64 n] w (ScriptDo c x n w) := by
  obtain ⟨⟨hc1, hc2⟩, h0, h1⟩ := h
  have hn : n ≤ 600 := by omega
  obtain ⟨j0, hi0, hi2⟩ := Option.map_eq_some_iff.1 infoEv
  simp only [Prod.mk.injEq] at hi2
  obtain ⟨i1, i2, i3⟩ := hi2
  go_enter Try.func33, Try.ntmps33
  go_wp2
  go_loopg [9, 10] n (fun gg out i wr => ∃ (j : Nat) (g : Option Nat) (cap : Nat), i = .int .i64 j ∧ j + gg = n ∧ out = .slice (rA g) j cap ∧ RAt 48 5 wr g cap j (evs c x j) ∧ DiceAt 44 wr w.heap.size (nX c x j) ∧ Mod [] w wr ∧ ∀ b, b ∈ rF g → w.heap.size < b)
  case atStart => exact ⟨0, none, 0, rfl, by omega, rfl, RAt.nil _ _ _, heapNew _ _, (Mod.refl _ _).alloc _, by simp [rF]⟩
  case round =>
    obtain ⟨j, g, cap, rfl, hj, rfl, hL, hd, m, hg⟩ := hrel
    by_cases hlt : j < n
    · obtain ⟨k, u, a, mm, z, he⟩ := evC_form2 (nX c x j) c
      have hv : evs c x (j + 1) = evs c x j ++ [.int .i64 k, .int .i64 u, .int .i64 a, .int .u64 mm, .int .i64 z] := by rw [evs, evC, he]; rfl
      have hev := rdrill_Event w.heap.size (nX c x j) c wr hd
      rw [he] at hev
      have HV := Lib.hid hv
      have hN : evRN (nX c x j) c = nX c x (j + 1) := rfl
      rw [hN] at hev
      clear hv he hN hd
      generalize evs c x j = lj at *
      have hlt2 : (j : Int) < n := by omega
      go_wp2_with (first
        | (
          go_at_call 31
          refine hev.mono ?_
          rintro e w2 ⟨rfl, m2, x2⟩
          have L2 := hL.keep m2 (fun k hk => by have := hg k hk; simp; omega)
          obtain ⟨g', cap', w3, hrun, r1, r2, r3⟩ := RAt.append (P := Try.prog) (tt := 50) (L2.keep ((Mod.refl [] w2).alloc (.cells #[.int .i64 k, .int .i64 u, .int .i64 a, .int .u64 mm, .int .i64 z] 48)) (by simp)) Try.underlying50 hi0 i1 i2 i3 rfl (by omega) (by omega) (by omega) (news := [.int .i64 k, .int .i64 u, .int .i64 a, .int .u64 mm, .int .i64 z]) rfl (by simp [Value.oneCell']) (heapNew _ _)
          )
        | (
          at_builtin
          refine wpList_append_run rfl _ _ _ rfl rfl rfl (hrun _) ?_
          )
        )
      have mA : Mod (rF g) w2 w3 := Mod.trans (S := rF g) (T := rF g) ((Mod.refl _ _).alloc _) r2 (fun k hk => .inl hk)
      have mB : Mod [] w w3 := (m.trans m2 (by simp)).trans mA (fun k hk => .inr (by have := hg k hk; omega))
      have hz := m2.size
      have hz2 := ltOf x2
      go_roundg (gk - 1)
      case measure => omega
      case rel =>
        refine ⟨j + 1, some g', cap', by go_num, by omega, by simp [rA], by rw [HV.out]; exact r1, x2.keep mA (fun hk => by have := hg _ hk; omega), mB, ?_⟩
        intro b hb
        simp [rF] at hb
        subst hb
        rcases r3 with r3 | r3
        · exact hg _ r3
        · simp at r3; omega
    · have hT : j = n := by omega
      subst hT
      go_wp2
      go_ret2
      exact ⟨g, cap, rfl, m, hL, fun k hk => by have := hg k hk; omega⟩
end Go.Proofs.Ytiegnbdoidiffaa
