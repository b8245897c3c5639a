/- The invariant of a wheel: each thing lies in just the list that its due and the tick tell. Plain: no program. -/
import Derived.Test.YthieionajemjhaaDoorWheelMath
import Derived.Test.YthieionajemjhaaDoorWheelKnown
namespace Go.Proofs.YthieionajemjhaaDoor
set_option linter.unusedVariables false
set_option linter.unusedSimpArgs false
open Go.RowKit

theorem perm_split {α : Type} (p a b : α → Bool) : ∀ (l : List α), (∀ x, x ∈ l → p x = (a x || b x)) → (∀ x, x ∈ l → ¬ (a x = true ∧ b x = true)) → (l.filter p).Perm (l.filter a ++ l.filter b)
  | [], _, _ => List.Perm.refl _
  | x :: l, h1, h2 => by
    have ih := perm_split p a b l (fun y hy => h1 y (List.mem_cons_of_mem _ hy)) (fun y hy => h2 y (List.mem_cons_of_mem _ hy))
    have e1 := h1 x List.mem_cons_self
    have e2 := h2 x List.mem_cons_self
    cases ha : a x
    · cases hb : b x
      · rw [List.filter_cons_of_neg (by simp [e1, ha, hb]), List.filter_cons_of_neg (by simp [ha]), List.filter_cons_of_neg (by simp [hb])]
        exact ih
      · rw [List.filter_cons_of_pos (by simp [e1, ha, hb]), List.filter_cons_of_neg (by simp [ha]), List.filter_cons_of_pos (by simp [hb])]
        exact (ih.cons x).trans List.perm_middle.symm
    · have hb : b x = false := by
        cases hb : b x
        · rfl
        · exact absurd ⟨ha, hb⟩ e2
      rw [List.filter_cons_of_pos (by simp [e1, ha]), List.filter_cons_of_pos (by simp [ha]), List.filter_cons_of_neg (by simp [hb])]
      exact ih.cons x
theorem dfind_of_mem : ∀ {m : List (Int × Nat)} {i : Int} {v : Nat} (j : Nat), (m.map (·.1)).Nodup → (i, v) ∈ m → ∃ n, dfind m i j = some (n, v)
  | p :: m, i, v, j, hn, hm => by
    unfold dfind
    rcases List.mem_cons.1 hm with rfl | hm
    · exact ⟨j, if_pos rfl⟩
    · have hn' := List.nodup_cons.1 (show (p.1 :: m.map (·.1)).Nodup from hn)
      have hne : i ≠ p.1 := by
        rintro rfl
        exact hn'.1 (List.mem_map.2 ⟨_, hm, rfl⟩)
      rw [if_neg hne]
      exact dfind_of_mem (j + 1) hn'.2 hm
theorem dget_of_mem {m : List (Int × Nat)} {i : Int} {v : Nat} (hn : (m.map (·.1)).Nodup) (hm : (i, v) ∈ m) : dget m i = some v := by
  obtain ⟨n, h⟩ := dfind_of_mem 0 hn hm
  unfold dget
  rw [h]; rfl
theorem dfind_none : ∀ {m : List (Int × Nat)} {i : Int} {j : Nat}, dfind m i j = none → i ∉ m.map (·.1)
  | [], i, j, _ => by simp
  | p :: m, i, j, h => by
    unfold dfind at h
    split at h
    · cases h
    · rename_i hne
      have := dfind_none h
      simp only [List.map_cons, List.mem_cons, not_or]
      exact ⟨hne, this⟩
theorem dget_none {m : List (Int × Nat)} {i : Int} (h : dget m i = none) : dfind m i 0 = none := by
  unfold dget at h
  simpa using h

structure SW.Inv (s : SW) : Prop where
  ok : s.ok
  nodup : (s.dues.map (·.1)).Nodup
  wf : ∀ p, p ∈ s.dues → (Lit.int .i64 p.1).wf = true
  part : ∀ k, (s.lists k).Perm ((s.dues.filter (fun p => decide (idxW s.now p.2 = k))).map (·.1))
theorem SW.Inv.due {s : SW} (h : s.Inv) {p : Int × Nat} (hp : p ∈ s.dues) : dueW s p.1 = p.2 := by
  unfold dueW
  rw [dget_of_mem (v := p.2) h.nodup hp]; rfl
theorem sw0_Inv {t : Nat} (h : tickOk t) : (sw0 t).Inv := ⟨sw0_ok h, by simp [sw0], by simp [sw0], fun k => by simp [sw0]⟩
theorem SW.Inv.len {s : SW} (h : s.Inv) (k : Nat) : (s.lists k).length ≤ s.dues.length := by
  rw [(h.part k).length_eq, List.length_map]
  exact List.length_filter_le _ _
theorem puts_lists (ids : List Int) : ∀ (s : SW) (k : Nat), (s.puts ids).lists k = s.lists k ++ ids.filter (fun id => decide (idxW s.now (dueW s id) = k)) := by
  induction ids with
  | nil => intro s k; simp [SW.puts]
  | cons a l ih =>
    intro s k
    have h1 := ih (s.put a) k
    have e : (s.puts (a :: l)) = (s.put a).puts l := rfl
    rw [e, h1]
    have e2 : ∀ id, dueW (s.put a) id = dueW s id := fun id => rfl
    have e3 : (s.put a).now = s.now := rfl
    simp only [e2, e3]
    by_cases hk : idxW s.now (dueW s a) = k
    · rw [List.filter_cons_of_pos (by simpa using hk)]
      have : (s.put a).lists k = s.lists k ++ [a] := by
        show upd s.lists (idxW s.now (dueW s a)) _ k = _
        rw [hk, upd_same]
      rw [this, List.append_assoc]; rfl
    · rw [List.filter_cons_of_neg (by simpa using hk)]
      have : (s.put a).lists k = s.lists k := upd_ne _ _ (fun h => hk h.symm)
      rw [this]
theorem SW.Inv.add {s : SW} (h : s.Inv) {id : Int} (hid : (Lit.int .i64 id).wf = true) (due : Int) : (s.add id due).Inv := by
  unfold SW.add
  by_cases he : s.addE id due = 0
  case neg => rw [if_neg he]; exact h
  rw [if_pos he]
  have hr : tickOk due := by
    unfold SW.addE at he
    by_cases hr : tickOk due
    · exact hr
    · rw [if_pos hr] at he; omega
  have hg : dget s.dues id = none := by
    unfold SW.addE at he
    rw [if_neg (by simpa using hr)] at he
    cases hg : dget s.dues id with
    | none => rfl
    | some v => rw [hg] at he; simp at he
  have hni := dfind_none (dget_none hg)
  have hput : dput s.dues id due.toNat = s.dues ++ [(id, due.toNat)] := by unfold dput; rw [dget_none hg]
  have hnd : ((s.dues ++ [(id, due.toNat)]).map (·.1)).Nodup := by
    rw [List.map_append]
    refine List.nodup_append.2 ⟨h.nodup, by simp, ?_⟩
    intro a ha b hb hab
    simp at hb
    subst hb hab
    exact hni ha
  have hdu : dueW (s.setDue id due.toNat) id = due.toNat := by
    unfold dueW
    have : dget (s.setDue id due.toNat).dues id = some due.toNat := by
      show dget (dput s.dues id due.toNat) id = _
      rw [hput]
      exact dget_of_mem hnd (by simp)
    rw [this]; rfl
  refine ⟨(h.ok.setDue id (by have := hr.1; have := hr.2; omega)).put id, ?_, ?_, ?_⟩
  · show ((dput s.dues id due.toNat).map (·.1)).Nodup
    rw [hput]; exact hnd
  · intro p hp
    have hp' : p ∈ dput s.dues id due.toNat := hp
    rw [hput] at hp'
    rcases List.mem_append.1 hp' with hp' | hp'
    · exact h.wf p hp'
    · simp at hp'; subst hp'; exact hid
  · intro k
    show (upd s.lists (idxW s.now (dueW (s.setDue id due.toNat) id)) (s.lists (idxW s.now (dueW (s.setDue id due.toNat) id)) ++ [id]) k).Perm (((dput s.dues id due.toNat).filter (fun p => decide (idxW s.now p.2 = k))).map (·.1))
    rw [hdu, hput, List.filter_append, List.map_append]
    by_cases hk : k = idxW s.now due.toNat
    · subst hk
      rw [upd_same]
      have e : (([(id, due.toNat)] : List (Int × Nat)).filter (fun p => decide (idxW s.now p.2 = idxW s.now due.toNat))).map (·.1) = [id] := by simp
      rw [e]
      exact (h.part _).append_right _
    · rw [upd_ne _ _ hk]
      have e : (([(id, due.toNat)] : List (Int × Nat)).filter (fun p => decide (idxW s.now p.2 = k))).map (·.1) = [] := by
        simp [Ne.symm hk]
      rw [e, List.append_nil]
      exact h.part k
end Go.Proofs.YthieionajemjhaaDoor
