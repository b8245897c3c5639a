/- How a struct davitlaw13.Act reads: cell by cell. No condition. -/
import Derived.Test.YtbelcmiljjndaaaArgs
namespace Go.Proofs.Ytbelcmiljjndaaa
set_option linter.unusedVariables false
set_option linter.unusedSimpArgs false
open Go.RowKit

structure Act13 where
  kind : Int
  id : Int
  n : Int
deriving Inhabited
def Act13.vals (a : Act13) : List Value := [.int .i64 a.kind, .int .i64 a.id, .int .i64 a.n]
def Act13.ok (a : Act13) : Prop := (Lit.int .i64 a.kind).wf = true ∧ (Lit.int .i64 a.id).wf = true ∧ (Lit.int .i64 a.n).wf = true

theorem elem_davitlaw13_Act {H : Type} {enc : TypeId × Value → H} {w : World} {spare : Nat → Bool} {held : Bool} : ∀ m cs y, DataW.trod enc Try.prog w 0 spare held m 84 cs = some y → ∃ z : Act13, cs = z.vals ∧ z.ok := by
  intro m cs y h
  obtain ⟨hl, hv⟩ := flat Try.underlying84 [.i .i64, .i .i64, .i .i64] (by kernel_rfl) (by rfl) (fun i k hk => by
    match i, hk with
    | 0, hk => simp at hk; subst hk; exact ⟨_, rfl, rfl, by kernel_rfl, _, Try.underlying3, rfl⟩
    | 1, hk => simp at hk; subst hk; exact ⟨_, rfl, rfl, by kernel_rfl, _, Try.underlying3, rfl⟩
    | 2, hk => simp at hk; subst hk; exact ⟨_, rfl, rfl, by kernel_rfl, _, Try.underlying2, rfl⟩
    | n + 3, hk => simp at hk) h
  match cs, hl with
  | [v0, v1, v2], _ =>
    obtain ⟨_, e0, n0, rfl, w0⟩ := hv 0 _ rfl
    obtain ⟨_, e1, n1, rfl, w1⟩ := hv 1 _ rfl
    obtain ⟨_, e2, n2, rfl, w2⟩ := hv 2 _ rfl
    simp at e0 e1 e2
    subst e0 e1 e2
    exact ⟨⟨n0, n1, n2⟩, rfl, w0, w1, w2⟩
end Go.Proofs.Ytbelcmiljjndaaa
