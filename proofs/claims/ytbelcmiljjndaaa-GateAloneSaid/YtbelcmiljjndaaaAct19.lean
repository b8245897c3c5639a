/- How a struct davitlaw19.Act reads: cell by cell. No condition. -/
import Derived.Test.YtbelcmiljjndaaaArgs
namespace Go.Proofs.Ytbelcmiljjndaaa
set_option linter.unusedVariables false
set_option linter.unusedSimpArgs false
open Go.RowKit

structure Act19 where
  kind : Int
  cpu : Int
deriving Inhabited
def Act19.vals (a : Act19) : List Value := [.int .i64 a.kind, .int .i64 a.cpu]
def Act19.ok (a : Act19) : Prop := (Lit.int .i64 a.kind).wf = true ∧ (Lit.int .i64 a.cpu).wf = true

theorem elem_davitlaw19_Act {H : Type} {enc : TypeId × Value → H} {w : World} {spare : Nat → Bool} {held : Bool} : ∀ m cs y, DataW.trod enc Try.prog w 0 spare held m 48 cs = some y → ∃ z : Act19, cs = z.vals ∧ z.ok := by
  intro m cs y h
  obtain ⟨hl, hv⟩ := flat Try.underlying48 [.i .i64, .i .i64] (by kernel_rfl) (by rfl) (fun i k hk => by
    match i, hk with
    | 0, hk => simp at hk; subst hk; exact ⟨_, rfl, rfl, by kernel_rfl, _, Try.underlying3, rfl⟩
    | 1, hk => simp at hk; subst hk; exact ⟨_, rfl, rfl, by kernel_rfl, _, Try.underlying3, rfl⟩
    | n + 2, hk => simp at hk) h
  match cs, hl with
  | [v0, v1], _ =>
    obtain ⟨_, e0, n0, rfl, w0⟩ := hv 0 _ rfl
    obtain ⟨_, e1, n1, rfl, w1⟩ := hv 1 _ rfl
    simp at e0 e1
    subst e0 e1
    exact ⟨⟨n0, n1⟩, rfl, w0, w1⟩
end Go.Proofs.Ytbelcmiljjndaaa
