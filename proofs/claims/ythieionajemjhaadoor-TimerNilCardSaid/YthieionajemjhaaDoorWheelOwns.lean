/- A wheel's map as the library's contracts speak of maps. -/
import Derived.Test.YthieionajemjhaaDoorWheelNext
import Derived.Maps.Own
import Derived.Lib.SlKeysI
namespace Go.Proofs.YthieionajemjhaaDoor
set_option linter.unusedVariables false
set_option linter.unusedSimpArgs false
open Go.RowKit Go.Maps Go.WideElems
theorem map_of_eq {α β γ : Type} (f : α → γ) (g : β → γ) : ∀ (l : List α) (m : List β), l.map f = m.map g → ∀ {δ : Type} (h : γ → δ), l.map (fun x => h (f x)) = m.map (fun y => h (g y)) := by
  intro l m he δ h
  have := congrArg (List.map h) he
  simpa [List.map_map, Function.comp_def] using this
def anyR : Value → Option (DataW Unit × List MemPlace) := fun _ => some (.nil, [])
theorem owns_dues {w : World} {b : Nat} {l : List (Int × Nat)} (h : MapAt .i64 w b (duesV l)) (hwf : ∀ p, p ∈ l → (Lit.int .i64 p.1).wf = true) (hsz : l.length ≤ maxLen) :
    ∃ D0 : DataW Unit, w.ownsMap Tryd.prog 3 anyR b l.length D0 ∧ (Go.intKeys D0).Perm (l.map (·.1)) ∧ Maps.size D0 = l.length := by
  obtain ⟨es, clk, hb, he⟩ := h
  have hlen : es.size = l.length := by have := congrArg List.length he.eq; simpa [duesV] using this
  have heq : es.toList.map (fun e => (e.key, e.val)) = l.map (fun p => (Value.int .i64 p.1, Value.int .i64 (p.2 : Nat))) := by
    rw [he.eq]; simp [duesV, List.map_map, Function.comp_def]
  have hkeys : es.toList.map (·.key) = l.map (fun p => Value.int .i64 p.1) := map_of_eq _ _ _ _ heq (fun q => q.1)
  have hrd : ∀ x, x ∈ es.toList → ∃ p, p ∈ l ∧ x.key = .int .i64 p.1 := by
    intro x hx
    have : x.key ∈ es.toList.map (·.key) := List.mem_map.2 ⟨x, hx, rfl⟩
    rw [hkeys] at this
    obtain ⟨p, hp, e⟩ := List.mem_map.1 this
    exact ⟨p, hp, e.symm⟩
  have hr : ∀ x, x ∈ es.toList → ∃ p, p ∈ l ∧ x.key = .int .i64 p.1 ∧ rd Tryd.prog 3 anyR x = some (.int .i64 p.1, .nil) := by
    intro x hx
    obtain ⟨p, hp, e⟩ := hrd x hx
    refine ⟨p, hp, e, ?_⟩
    unfold rd
    rw [e, keyOf_int_mk Tryd.underlying3 (hwf p hp)]
    rfl
  refine ⟨.map ((es.toList.map (rg Tryd.prog 3 anyR)).foldr DataW.insert []), ⟨es, clk, hb, ⟨by omega, ⟨he.lt, he.born, ?_⟩, ?_⟩, by omega, rfl⟩, ?_, ?_⟩
  · rw [hkeys]
    have hn : (l.map (·.1)).Nodup := by have := he.nodup; simpa [duesV, List.map_map, Function.comp_def] using this
    have e2 : l.map (fun p => Value.int .i64 p.1) = (l.map (·.1)).map (Value.int .i64) := by simp [List.map_map, Function.comp_def]
    rw [e2]
    exact List.Pairwise.map _ (fun a b hab h => hab (by simpa using h)) hn
  · intro x hx
    obtain ⟨p, _, _, h2⟩ := hr x hx
    exact ⟨_, h2⟩
  · have hp := Go.WideShapes.sorted_perm (es.toList.map (rg Tryd.prog 3 anyR))
    have h1 : (Go.intKeys (DataW.map ((es.toList.map (rg Tryd.prog 3 anyR)).foldr DataW.insert []))).Perm ((es.toList.map (rg Tryd.prog 3 anyR)).map (fun p => Go.intOf p.1)) := hp.map _
    refine h1.trans ?_
    rw [List.map_map]
    have h2 : es.toList.map ((fun p => Go.intOf p.1) ∘ rg Tryd.prog 3 anyR) = es.toList.map (fun x => match x.key with | .int _ a => a | _ => 0) := by
      apply List.map_congr_left
      intro x hx
      obtain ⟨p, _, h3, h4⟩ := hr x hx
      simp only [Function.comp_def, rg, h4, h3]
      rfl
    rw [h2]
    have h3 : es.toList.map (fun x => match x.key with | .int _ a => a | _ => 0) = l.map (·.1) := by
      have := map_of_eq _ _ _ _ heq (fun q : Value × Value => match q.1 with | .int _ a => a | _ => 0)
      simpa using this
    rw [h3]
  · show ((es.toList.map (rg Tryd.prog 3 anyR)).foldr DataW.insert []).length = l.length
    rw [length_sorted]; simp [hlen]
end Go.Proofs.YthieionajemjhaaDoor
