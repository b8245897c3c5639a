/- Maps and rows as things in memory. No condition but those named. -/
import Derived.Test.YthieionajemjhaaDoorRes
import Derived.Test.YthieionajemjhaaDoorMap
import Derived.Test.YthieionajemjhaaDoorRows2
namespace Go.Proofs.YthieionajemjhaaDoor
set_option linter.unusedVariables false
set_option linter.unusedSimpArgs false
open Go.RowKit

def mapR (kk : IntKind) (b : Nat) (m : List (Int × Value)) : Res where
  holds F w := F = [b] ∧ MapAt kk w b m
  keep h m hS := ⟨h.1, h.2.keep m (hS _ (by rw [h.1]; exact List.mem_singleton_self _))⟩
  lt h b hb := by rw [h.1, List.mem_singleton] at hb; subst hb; exact h.2.lt
def rowR (T : TypeId) (sz : Nat) (g : Option Nat) (cap n : Nat) (xs : List Value) : Res where
  holds F w := F = rF g ∧ RAt T sz w g cap n xs
  keep h m hS := ⟨h.1, h.2.keep m (by rw [← h.1]; exact hS)⟩
  lt h b hb := h.2.lt b (by rw [← h.1]; exact hb)
section
variable {F0 : List Nat} {w0 u u' : World} {l : List Res}
/-- append of one element to a row. -/
theorem On.rowAppend {P : Program} {T tt : TypeId} {sz bytes : Nat} (h : On F0 w0 l u) (k : Nat) {g : Option Nat} {cap n : Nat} {xs : List Value} (hk : l[k]? = some (rowR T sz g cap n xs)) (hT : P.underlying tt = some (.slice T)) {z : Value} (hI : (P.info? T).map (fun i => (i.zero, i.size, i.bytes)) = some (some z, sz, bytes)) (hzs : z.cells.size = sz) (hsz : 0 < sz) (hl : n < 1000000) (hbb : bytes ≤ 1000) {b : Nat} {news : List Value} (hnl : news.length = sz) (h1 : ∀ u ∈ news, u.oneCell' = true)
    (hbk : u.heap[b]? = some (.cells news.toArray T (0,0))) :
    ∃ g' cap' u', (∀ ty, (Builtin.append_ #[tt, tt] ty #[.slice (rA g) n cap, .slice (some ⟨b, 0, none⟩) 1 1]).run P u = .ok (.slice (some ⟨g', 0, none⟩) (n + 1) cap') u') ∧ On F0 w0 (l.set k (rowR T sz (some g') cap' (n + 1) (xs ++ news))) u' := by
  obtain ⟨i, hi, hi2⟩ := Option.map_eq_some_iff.1 hI
  simp only [Prod.mk.injEq] at hi2
  obtain ⟨i1, i2, i3⟩ := hi2
  have hw : ∀ g' cap', ∃ F, (rowR T sz g cap n xs).holds F u ∧ ∀ {u' : World}, Gain (rowR T sz (some g') cap' (n + 1) (xs ++ news)) F u u' → On F0 w0 (l.set k (rowR T sz (some g') cap' (n + 1) (xs ++ news))) u' := by
    intro g' cap'
    obtain ⟨F, p1, p2, p3⟩ := h.gain (P' := rowR T sz (some g') cap' (n + 1) (xs ++ news)) k hk
    exact ⟨F, p1, fun hg => p3 hg⟩
  obtain ⟨F1, ⟨rfl, hr⟩, _, _⟩ := h.gain (P' := rowR T sz g cap n xs) k hk
  obtain ⟨g', cap', u', hrun, x1, x2, x3⟩ := hr.append hT hi i1 i2 i3 hzs hsz hl hbb hnl h1 hbk
  obtain ⟨F2, ⟨rfl, _⟩, h3⟩ := hw g' cap'
  refine ⟨g', cap', u', hrun, h3 ⟨_, ⟨rfl, x1⟩, x2, fun b hb => ?_⟩⟩
  simp [rF] at hb
  subst hb
  rcases x3 with x3 | x3
  · exact .inl x3
  · exact .inr (by omega)
end
end Go.Proofs.YthieionajemjhaaDoor
