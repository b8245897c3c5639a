/- How a struct davitlaw22.Act reads: cell by cell. No condition. -/
import Derived.Test.YtbelcmiljjndaaaArgs
namespace Go.Proofs.Ytbelcmiljjndaaa
set_option linter.unusedVariables false
set_option linter.unusedSimpArgs false
open Go.RowKit

structure Act22 where
  kind : Int
  stage : Int
  up : Bool
  cpu : Int
  by_ : Int
deriving Inhabited
def Act22.vals (a : Act22) : List Value := [.int .i64 a.kind, .int .i64 a.stage, .bool a.up, .int .i64 a.cpu, .int .i64 a.by_]
def Act22.ok (a : Act22) : Prop := (Lit.int .i64 a.kind).wf = true ∧ (Lit.int .i64 a.stage).wf = true ∧ (Lit.int .i64 a.cpu).wf = true ∧ (Lit.int .i64 a.by_).wf = true

theorem elem_davitlaw22_Act {H : Type} {enc : TypeId × Value → H} {w : World} {spare : Nat → Bool} {held : Bool} : ∀ m cs y, DataW.trod enc Try.prog w 0 spare held m 63 cs = some y → ∃ z : Act22, cs = z.vals ∧ z.ok := by
  intro m cs y h
  obtain ⟨hl, hv⟩ := flat Try.underlying63 [.i .i64, .i .i64, .b, .i .i64, .i .i64] (by kernel_rfl) (by rfl) (fun i k hk => by
    match i, hk with
    | 0, hk => simp at hk; subst hk; exact ⟨_, rfl, rfl, by kernel_rfl, _, Try.underlying3, rfl⟩
    | 1, hk => simp at hk; subst hk; exact ⟨_, rfl, rfl, by kernel_rfl, _, Try.underlying3, rfl⟩
    | 2, hk => simp at hk; subst hk; exact ⟨_, rfl, rfl, by kernel_rfl, _, Try.underlying4, rfl⟩
    | 3, hk => simp at hk; subst hk; exact ⟨_, rfl, rfl, by kernel_rfl, _, Try.underlying3, rfl⟩
    | 4, hk => simp at hk; subst hk; exact ⟨_, rfl, rfl, by kernel_rfl, _, Try.underlying3, rfl⟩
    | n + 5, hk => simp at hk) h
  match cs, hl with
  | [v0, v1, v2, v3, v4], _ =>
    obtain ⟨_, e0, n0, rfl, w0⟩ := hv 0 _ rfl
    obtain ⟨_, e1, n1, rfl, w1⟩ := hv 1 _ rfl
    obtain ⟨_, e2, n2, rfl⟩ := hv 2 _ rfl
    obtain ⟨_, e3, n3, rfl, w3⟩ := hv 3 _ rfl
    obtain ⟨_, e4, n4, rfl, w4⟩ := hv 4 _ rfl
    simp at e0 e1 e2 e3 e4
    subst e0 e1 e2 e3 e4
    exact ⟨⟨n0, n1, n2, n3, n4⟩, rfl, w0, w1, w3, w4⟩
end Go.Proofs.Ytbelcmiljjndaaa
