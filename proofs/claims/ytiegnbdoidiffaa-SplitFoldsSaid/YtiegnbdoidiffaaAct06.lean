/- How an element of []davitlaw06.Act reads: four cells. No condition. -/
import Derived.Test.YtiegnbdoidiffaaArgs
namespace Go.Proofs.Ytiegnbdoidiffaa
set_option linter.unusedVariables false
set_option linter.unusedSimpArgs false
open Go.RowKit

structure Act06 where
  cpu : Int
  to : Int
  n : Int
  fold : Bool
deriving Inhabited
def Act06.vals (a : Act06) : List Value := [.int .i64 a.cpu, .int .i64 a.to, .int .i64 a.n, .bool a.fold]
def Act06.ok (a : Act06) : Prop := (Lit.int .i64 a.cpu).wf = true ∧ (Lit.int .i64 a.to).wf = true ∧ (Lit.int .i64 a.n).wf = true

theorem elem_davitlaw06_Act {H : Type} {enc : TypeId × Value → H} {w : World} {spare : Nat → Bool} {held : Bool} : ∀ m cs y, DataW.trod enc Try.prog w 0 spare held m 61 cs = some y → ∃ z : Act06, cs = z.vals ∧ z.ok := by
  intro m cs y h
  obtain ⟨hl, hv⟩ := flat Try.underlying61 [.i .i64, .i .i64, .i .i64, .b] (by kernel_rfl) (by rfl) (fun i k hk => by
    match i, hk with
    | 0, hk => simp at hk; subst hk; exact ⟨_, rfl, rfl, by kernel_rfl, _, Try.underlying3, rfl⟩
    | 1, hk => simp at hk; subst hk; exact ⟨_, rfl, rfl, by kernel_rfl, _, Try.underlying3, rfl⟩
    | 2, hk => simp at hk; subst hk; exact ⟨_, rfl, rfl, by kernel_rfl, _, Try.underlying2, rfl⟩
    | 3, hk => simp at hk; subst hk; exact ⟨_, rfl, rfl, by kernel_rfl, _, Try.underlying4, rfl⟩
    | n + 4, hk => simp at hk) h
  match cs, hl with
  | [v0, v1, v2, v3], _ =>
    obtain ⟨_, e0, n0, rfl, w0⟩ := hv 0 _ rfl
    obtain ⟨_, e1, n1, rfl, w1⟩ := hv 1 _ rfl
    obtain ⟨_, e2, n2, rfl, w2⟩ := hv 2 _ rfl
    obtain ⟨_, e3, n3, rfl⟩ := hv 3 _ rfl
    simp at e0 e1 e2 e3
    subst e0 e1 e2 e3
    exact ⟨⟨n0, n1, n2, n3⟩, rfl, w0, w1, w2⟩
end Go.Proofs.Ytiegnbdoidiffaa
