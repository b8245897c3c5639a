/- A library's table of small numbers that is laid as listed: its cells. No condition. -/
import Derived.Test.YthieionajemjhaaDoorKit
import Derived.Test.YthieionajemjhaaDoorShelfBits
import Derived.Shelf.Spec.TrailingZeros
import Derived.ProofKit
import Derived.LaidMore
import Derived.OpenShut
import Derived.FnData
import Derived.MakeChecks
namespace Go.Proofs.YthieionajemjhaaDoor
set_option linter.unusedVariables false
set_option linter.unusedSimpArgs false
open Go.RowKit

/-- The library's table lies in its variable. -/
def Tab (w : World) : Prop := Go.Proofs.TabAt (tzL_ren.g 1) Lib.deBruijn64tab w
theorem Tab.lt {w : World} (h : Tab w) : tzL_ren.g 1 < w.heap.size := ltOfCell (h 0 (by decide))
theorem Tab.keep {S : List Nat} {w w' : World} (h : Tab w) (m : Mod S w w') (hS : tzL_ren.g 1 ∉ S) : Tab w' := fun j hj => m.at (h j hj) hS
theorem Tab.drewN {w : World} (h : Tab w) (k : Nat) : Tab (w.drewN k) := h.keep (S := []) ((Mod.refl _ _).drewN k) (by simp)
theorem Tab.drew {w w' : World} (h : Tab w) (d : Drew w w') : Tab w' := h.keep (d.mod (S := [])) (by simp)

theorem tab_of_trod {H : Type} {enc : TypeId × Value → H} {P : Program} {W : World} {base : Nat} {sp : Nat → Bool} {fuel n : Nat} {t e : TypeId} {cs : List Value} {p : List MemPlace} (ht : P.underlying t = some (.array n e)) (he : P.underlying e = some (.int .u8)) (hc : P.cellsOf e = 1) {tab : List Nat} (hl : tab.length = n)
    (h : DataW.trod enc P W base sp false fuel t cs = some (.agg (tab.map fun k : Nat => .lit (.int .u8 (k : Int))), p)) (j : Nat) (hj : j < n) : cs[j]? = some (.int .u8 (tab.getD j 0 : Nat)) := by
  obtain ⟨xs, m, rfl, hx, hcl, hn, hel⟩ := DataW.trod_array ht h
  have h1 := hel j hj
  rw [hc, Nat.mul_one, List.getElem?_eq_getElem (by omega)] at h1
  obtain ⟨k, e1, e2, _⟩ := DataW.trod_int he h1
  simp only [Prod.mk.injEq, DataW.agg.injEq] at hx
  have h2 := congrArg (fun l => l[j]?) hx.1
  simp only [List.getElem?_map, List.getElem?_eq_getElem (show j < tab.length by omega), List.getElem?_eq_getElem (show j < xs.length by omega), Option.map_some, e2, Option.some.injEq, DataW.lit.injEq, Lit.int.injEq, true_and] at h2
  have h3 : cs[j]? = some (.int .u8 k) := by
    have := congrArg (fun l => l[0]?) e1
    simpa [List.getElem?_take, List.getElem?_drop] using this
  rw [h3, ← h2, List.getD_eq_getElem?_getD, List.getElem?_eq_getElem (show j < tab.length by omega)]
  rfl
theorem tab_of_laid {W : World} (h : laidMetH Tryd.prog [("math/bits.deBruijn64tab", Rows.laid_math_bits_deBruijn64tab)] W) : Tab W := by
  rw [MakeChecks.laidMetH_plain _ _ _ (by kernel_rfl)] at h
  obtain ⟨ps, ⟨g0, t0, cs0, f0, p0, q0, hg0, ht0, hv0, hd0, _, _⟩, _, _⟩ := h
  obtain rfl := Option.some.inj ((show Tryd.prog.globalNamed "math/bits.deBruijn64tab" = some (tzL_ren.g 1) by kernel_rfl).symm.trans hg0)
  obtain rfl := Option.some.inj ((show (Tryd.prog.globals[tzL_ren.g 1]?).map (·.type) = some 110 by kernel_rfl).symm.trans ht0)
  intro j hj
  refine (World.var?_cell hg0 hv0 j).trans ?_
  have := tab_of_trod (n := 64) Tryd.underlying110 Tryd.underlying5 (by kernel_rfl) (tab := Lib.deBruijn64tab) (by decide) hd0 j hj
  simpa using this
end Go.Proofs.YthieionajemjhaaDoor
