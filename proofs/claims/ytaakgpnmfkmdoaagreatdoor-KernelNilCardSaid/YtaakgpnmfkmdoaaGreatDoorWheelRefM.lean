/- Several texts in one (each with its own sentence below). -/
import Derived.Test.YtaakgpnmfkmdoaaGreatDoorWheelM
import Derived.Test.YtaakgpnmfkmdoaaGreatDoorBaseM
/- The document's wheel: where it lies, and the walks over it. -/
namespace Go.Proofs.YtaakgpnmfkmdoaaGreatDoor
set_option linter.unusedVariables false
set_option linter.unusedSimpArgs false
open Go.RowKit

def itemsV (L : List (Int × Nat)) : List Value := L.flatMap (fun p => [Value.int .i64 p.1, Value.int .i64 (p.2 : Nat)])
theorem itemsV_len : ∀ (L : List (Int × Nat)), (itemsV L).length = L.length * 2
  | [] => rfl
  | p :: L => by
    show ([_, _] ++ itemsV L).length = _
    rw [List.length_append, itemsV_len L]
    simp; omega
theorem itemsV_append (L M : List (Int × Nat)) : itemsV (L ++ M) = itemsV L ++ itemsV M := by simp [itemsV]
theorem itemsV_one : ∀ (L : List (Int × Nat)) (u : Value), u ∈ itemsV L → u.oneCell' = true := by
  intro L u hu
  obtain ⟨p, _, hp⟩ := List.mem_flatMap.1 hu
  simp at hp
  rcases hp with rfl | rfl <;> rfl
def nthP (L : List (Int × Nat)) (i : Nat) : Int × Nat := L.getD i (0, 0)
theorem nthP_mem {L : List (Int × Nat)} {i : Nat} (h : i < L.length) : nthP L i ∈ L := by
  have : nthP L i = L[i] := by simp [nthP, List.getD, h]
  rw [this]; exact List.getElem_mem h
theorem takeP {L : List (Int × Nat)} {i : Nat} (h : i < L.length) : L.take (i + 1) = L.take i ++ [nthP L i] := by
  rw [List.take_add_one, List.getElem?_eq_getElem h]
  simp [nthP, List.getD, h]
theorem itemsV_drop : ∀ (L : List (Int × Nat)) (i : Nat), (itemsV L).drop (i * 2) = itemsV (L.drop i)
  | L, 0 => by simp
  | [], i + 1 => by simp [itemsV]
  | p :: L, i + 1 => by
    have : (itemsV (p :: L)).drop ((i + 1) * 2) = (itemsV L).drop (i * 2) := by
      show ((Value.int .i64 p.1) :: (Value.int .i64 (p.2 : Nat)) :: itemsV L).drop ((i + 1) * 2) = _
      rw [show (i + 1) * 2 = i * 2 + 1 + 1 by omega]
      rfl
    rw [this, itemsV_drop L i]; rfl
theorem itemsV_take (L : List (Int × Nat)) (i : Nat) (h : i ≤ L.length) : (itemsV L).take (i * 2) = itemsV (L.take i) := by
  have h1 : itemsV L = itemsV (L.take i) ++ itemsV (L.drop i) := by rw [← itemsV_append, List.take_append_drop]
  rw [h1]
  have h2 : (itemsV (L.take i)).length = i * 2 := by rw [itemsV_len, List.length_take, Nat.min_eq_left h]
  rw [List.take_append_of_le_length (by omega), List.take_of_length_le (by omega)]
theorem itemsV_at {L : List (Int × Nat)} {i : Nat} (h : i < L.length) : (itemsV L)[i * 2]? = some (.int .i64 (nthP L i).1) ∧ (itemsV L)[i * 2 + 1]? = some (.int .i64 ((nthP L i).2 : Nat)) := by
  have h1 := itemsV_drop L i
  have h2 : L.drop i = nthP L i :: L.drop (i + 1) := by
    rw [List.drop_eq_getElem_cons h]
    simp [nthP, List.getD, h]
  rw [h2] at h1
  have h3 : ∀ k, (itemsV L)[i * 2 + k]? = (itemsV (nthP L i :: L.drop (i + 1)))[k]? := by
    intro k
    rw [← h1, List.getElem?_drop]
  exact ⟨h3 0, h3 1⟩

def rwBlocks (d : Nat) (g : Option Nat) : List Nat := d :: rF g
def findI (L : List (Int × Nat)) (id : Int) : Int := match dfind L id 0 with | some (n, _) => n | none => -1
theorem dfind_at : ∀ {m : List (Int × Nat)} {i : Int} {j k : Nat}, (∀ q, q < k → (nthP m q).1 ≠ i) → k < m.length → (nthP m k).1 = i → dfind m i j = some (j + k, (nthP m k).2)
  | [], i, j, k, _, h, _ => by simp at h
  | p :: m, i, j, 0, _, _, h => by
    unfold dfind
    have : nthP (p :: m) 0 = p := rfl
    rw [this] at h ⊢
    rw [if_pos h.symm]; rfl
  | p :: m, i, j, k + 1, h0, h1, h => by
    unfold dfind
    have e : ∀ q, nthP (p :: m) (q + 1) = nthP m q := fun q => by simp [nthP]
    have hp := h0 0 (by omega)
    have : nthP (p :: m) 0 = p := rfl
    rw [this] at hp
    rw [if_neg (fun x => hp x.symm)]
    rw [e] at h ⊢
    rw [dfind_at (k := k) (fun q hq => by rw [← e]; exact h0 (q + 1) (by omega)) (by simpa using h1) h]
    congr 2; omega
theorem dfind_not : ∀ {m : List (Int × Nat)} {i : Int} {j : Nat}, (∀ q, q < m.length → (nthP m q).1 ≠ i) → dfind m i j = none
  | [], i, j, _ => rfl
  | p :: m, i, j, h0 => by
    unfold dfind
    have hp := h0 0 (by simp)
    have : nthP (p :: m) 0 = p := rfl
    rw [this] at hp
    rw [if_neg (fun x => hp x.symm)]
    exact dfind_not (fun q hq => by
      have e : nthP (p :: m) (q + 1) = nthP m q := by simp [nthP]
      rw [← e]; exact h0 (q + 1) (by simpa using hq))
theorem rA_some (b : Nat) : rA (some b) = some ⟨b, 0, none⟩ := rfl
end Go.Proofs.YtaakgpnmfkmdoaaGreatDoor

/- The walks over the document's wheel: New, Go, Next, When, List, Due. -/
namespace Go.Proofs.YtaakgpnmfkmdoaaGreatDoor
set_option linter.unusedVariables false
set_option linter.unusedSimpArgs false
open Go.RowKit

/-- Go: the errno; the tick. -/
def rgoE (now : Nat) (t : Int) : Int := if t < now ∨ 1152921504606846976 < t then 2 else 0
def rgo (now : Nat) (t : Int) : Nat := if t < now ∨ 1152921504606846976 < t then now else t.toNat
def rnextV (L : List (Int × Nat)) : Nat := (nthP L 0).2
def rnextE (L : List (Int × Nat)) : Int := if L = [] then 12 else 0
/-- The call made a new slice of ints. -/
def IntsDo (l : List Int) (w : World) (e : Ending) (w' : World) : Prop :=
  ∃ g' cap', e = .returned (.slice (lA g') l.length cap') ∧ LAt w' g' cap' l ∧ Mod [] w w' ∧ ∀ b, b ∈ lF g' → w.heap.size ≤ b
def idsOf (L : List (Int × Nat)) : List Int := L.map (·.1)
def dueL (now : Nat) (L : List (Int × Nat)) : List (Int × Nat) := L.filter (fun p => decide (p.2 ≤ now))
end Go.Proofs.YtaakgpnmfkmdoaaGreatDoor

/- The walks over the document's wheel: Drop, Add. -/
namespace Go.Proofs.YtaakgpnmfkmdoaaGreatDoor
set_option linter.unusedVariables false
set_option linter.unusedSimpArgs false
open Go.RowKit

theorem dfind_lt {m : List (Int × Nat)} {i : Int} {n v : Nat} (h : dfind m i 0 = some (n, v)) : n < m.length := by
  have hx : ∀ (m : List (Int × Nat)) (j : Nat), dfind m i j = some (n, v) → n < j + m.length := by
    intro m
    induction m with
    | nil => intro j h; cases h
    | cons p m ih =>
      intro j h
      unfold dfind at h
      split at h
      · simp at h
        simp; omega
      · have := ih (j + 1) h
        simp; omega
  have := hx m 0 h
  omega
/-- Drop: the errno; the list behind it. -/
def rdropE (L : List (Int × Nat)) (id : Int) : Int := if (dget L id).isSome then 0 else 4
end Go.Proofs.YtaakgpnmfkmdoaaGreatDoor

/- The walk over the document's wheel: Add. -/
namespace Go.Proofs.YtaakgpnmfkmdoaaGreatDoor
set_option linter.unusedVariables false
set_option linter.unusedSimpArgs false
open Go.RowKit

def ltP (p : Int × Nat) (id : Int) (due : Nat) : Prop := p.2 < due ∨ (p.2 = due ∧ p.1 < id)
instance instWheelRef41 (p : Int × Nat) (id : Int) (due : Nat) : Decidable (ltP p id due) := by unfold ltP; infer_instance
/-- Where a thing comes to stand. -/
def insAt : List (Int × Nat) → Int → Nat → Nat
  | [], _, _ => 0
  | p :: L, id, due => if ltP p id due then insAt L id due + 1 else 0
theorem insAt_eq : ∀ {L : List (Int × Nat)} {id : Int} {due j : Nat}, j ≤ L.length → (∀ q, q < j → ltP (nthP L q) id due) → (j < L.length → ¬ ltP (nthP L j) id due) → insAt L id due = j
  | [], id, due, j, h, _, _ => by simp at h; simp [insAt, h]
  | p :: L, id, due, 0, _, _, h => by
    unfold insAt
    exact if_neg (show ¬ ltP p id due from h (by simp))
  | p :: L, id, due, j + 1, h0, h1, h2 => by
    have e : ∀ q, nthP (p :: L) (q + 1) = nthP L q := fun q => by simp [nthP]
    unfold insAt
    rw [if_pos (show ltP p id due from h1 0 (by omega)), insAt_eq (j := j) (by simpa using h0) (fun q hq => by rw [← e]; exact h1 (q + 1) (by omega)) (fun hj => by rw [← e]; exact h2 (by simpa using hj))]
def insL (L : List (Int × Nat)) (id : Int) (due : Nat) : List (Int × Nat) := L.take (insAt L id due) ++ [(id, due)] ++ L.drop (insAt L id due)
/-- Add: the errno; the list behind it. -/
def raddE (L : List (Int × Nat)) (id due : Int) : Int := if ¬ tickOk due then 2 else if (dget L id).isSome then 6 else 0
def radd (L : List (Int × Nat)) (id due : Int) : List (Int × Nat) := if raddE L id due = 0 then insL L id due.toNat else L

end Go.Proofs.YtaakgpnmfkmdoaaGreatDoor

/- The plain law of layer 13: a wheel and the document's wheel tell alike. No program in sight but the walks' words. -/
namespace Go.Proofs.YtaakgpnmfkmdoaaGreatDoor
set_option linter.unusedVariables false
set_option linter.unusedSimpArgs false
open Go.RowKit

theorem ddel_spec (i : Int) : ∀ (m : List (Int × Nat)) (j : Nat), (m.map (·.1)).Nodup → match dfind m i j with | some (n, _) => j ≤ n ∧ m.eraseIdx (n - j) = m.filter (fun p => !decide (p.1 = i)) | none => m = m.filter (fun p => !decide (p.1 = i))
  | [], j, _ => rfl
  | p :: m, j, hn => by
    have hn' := List.nodup_cons.1 (show (p.1 :: m.map (·.1)).Nodup from hn)
    unfold dfind
    by_cases e : i = p.1
    · rw [if_pos e]
      have hf : m.filter (fun p => !decide (p.1 = i)) = m := by
        rw [List.filter_eq_self]
        intro q hq
        have : q.1 ≠ i := by
          rintro rfl
          exact hn'.1 (e ▸ List.mem_map.2 ⟨q, hq, rfl⟩)
        simpa using this
      simp only [Nat.sub_self, List.eraseIdx_zero, List.tail_cons]
      refine ⟨Nat.le_refl _, ?_⟩
      rw [List.filter_cons_of_neg (by simp [e]), hf]
    · rw [if_neg e]
      have ih := ddel_spec i m (j + 1) hn'.2
      have hp : (!decide (p.1 = i)) = true := by
        have : ¬ p.1 = i := fun x => e x.symm
        simpa using this
      cases hd : dfind m i (j + 1) with
      | none =>
        rw [hd] at ih
        simp only at ih ⊢
        rw [List.filter_cons_of_pos (by simpa using hp), ← ih]
      | some q =>
        obtain ⟨n, v⟩ := q
        rw [hd] at ih
        simp only at ih ⊢
        refine ⟨by omega, ?_⟩
        rw [show n - j = (n - (j + 1)) + 1 by omega, List.eraseIdx_cons_succ, ih.2, List.filter_cons_of_pos (by simpa using hp)]
theorem ddel_eq {m : List (Int × Nat)} (i : Int) (h : (m.map (·.1)).Nodup) : ddel m i = m.filter (fun p => !decide (p.1 = i)) := by
  have := ddel_spec i m 0 h
  unfold ddel
  cases hd : dfind m i 0 with
  | none => rw [hd] at this; exact this
  | some q =>
    obtain ⟨n, v⟩ := q
    rw [hd] at this
    exact this.2
theorem dget_iff {m : List (Int × Nat)} (h : (m.map (·.1)).Nodup) (i : Int) (v : Nat) : dget m i = some v ↔ (i, v) ∈ m := ⟨dget_mem, dget_of_mem h⟩
theorem dget_perm {m n : List (Int × Nat)} (h : m.Perm n) (hn : (n.map (·.1)).Nodup) (i : Int) : dget m i = dget n i := by
  have hm : (m.map (·.1)).Nodup := (h.map (·.1)).nodup_iff.2 hn
  apply Option.ext
  intro v
  rw [dget_iff hm, dget_iff hn]
  exact h.mem_iff
theorem dget_none_iff {m : List (Int × Nat)} {i : Int} : dget m i = none → i ∉ m.map (·.1) := fun h => dfind_none (dget_none h)
theorem SW.Inv.has {s : SW} (h : s.Inv) {id : Int} (hs : (dget s.dues id).isSome = true) : (id, dueW s id) ∈ s.dues ∧ id ∈ s.lists (idxW s.now (dueW s id)) := by
  cases hd : dget s.dues id with
  | none => rw [hd] at hs; cases hs
  | some v =>
    have hm := dget_mem hd
    have hv : dueW s id = v := h.due hm
    rw [hv]
    refine ⟨hm, (h.part _).mem_iff.2 (List.mem_map.2 ⟨(id, v), List.mem_filter.2 ⟨hm, by simp⟩, rfl⟩)⟩
theorem SW.Inv.drop {s : SW} (h : s.Inv) (id : Int) : (s.drop id).Inv := by
  unfold SW.drop
  by_cases hs : (dget s.dues id).isSome = true
  case neg => rw [if_neg hs]; exact h
  rw [if_pos hs]
  obtain ⟨hm, _⟩ := h.has hs
  have hE := ddel_eq id h.nodup
  refine ⟨⟨h.ok.now, fun p hp => h.ok.due p ?_⟩, ?_, fun p hp => h.wf p ?_, fun k => ?_⟩
  · simp only at hp; rw [hE] at hp; exact (List.mem_filter.1 hp).1
  · simp only; rw [hE]; exact (List.filter_sublist.map _).nodup h.nodup
  · simp only at hp; rw [hE] at hp; exact (List.mem_filter.1 hp).1
  · simp only
    rw [hE, List.filter_filter]
    by_cases hk : k = idxW s.now (dueW s id)
    · subst hk
      rw [upd_same]
      have h1 := (h.part (idxW s.now (dueW s id))).filter (fun x => !decide (x = id))
      unfold wOut
      refine h1.trans ?_
      rw [List.filter_map, List.filter_filter]
      refine List.Perm.of_eq ?_
      congr 1
      apply List.filter_congr
      intro p _
      simp [Function.comp_def, Bool.and_comm]
    · rw [upd_ne _ _ hk]
      refine (h.part k).trans (List.Perm.of_eq ?_)
      congr 1
      apply List.filter_congr
      intro p hp
      by_cases e : p.1 = id
      · have hv : p.2 = dueW s id := by rw [← e]; exact (h.due hp).symm
        have : ¬ idxW s.now p.2 = k := fun x => hk (by rw [← x, hv])
        simp [this]
      · simp [e]

/-- The two wheels hold the same. -/
structure Sim (s : SW) (L : List (Int × Nat)) : Prop where
  inv : s.Inv
  perm : L.Perm s.dues
  sorted : L.Pairwise (fun p q => p.2 < q.2 ∨ (p.2 = q.2 ∧ p.1 < q.1))
theorem Sim.get {s : SW} {L : List (Int × Nat)} (h : Sim s L) (id : Int) : dget L id = dget s.dues id := dget_perm h.perm h.inv.nodup id
theorem Sim.len {s : SW} {L : List (Int × Nat)} (h : Sim s L) : L.length = s.dues.length := h.perm.length_eq
theorem Sim.dueE {s : SW} {L : List (Int × Nat)} (h : Sim s L) {p : Int × Nat} (hp : p ∈ L) : dueW s p.1 = p.2 := h.inv.due (h.perm.mem_iff.1 hp)
theorem sim0 {t : Nat} (h : tickOk t) : Sim (sw0 t) [] := ⟨sw0_Inv h, List.Perm.refl _, List.Pairwise.nil⟩
theorem Sim.ids {s : SW} {L M : List (Int × Nat)} (h : Sim s L) (hM : M.Sublist L) : (idsOf M).Pairwise (fun x y => leW s x y = true) := by
  unfold idsOf
  rw [List.pairwise_map]
  refine (h.sorted.sublist hM).imp_of_mem ?_
  intro p q hp hq hpq
  rw [leW_iff, h.dueE (hM.subset hp), h.dueE (hM.subset hq)]
  omega
theorem Sim.list {s : SW} {L : List (Int × Nat)} (h : Sim s L) : sortW s (s.dues.map (·.1)) = idsOf L :=
  sorted_unique s ((sortW_perm s _).trans (h.perm.map (·.1)).symm) (sortW_sorted s _) (h.ids (List.Sublist.refl _))
theorem Sim.due {s : SW} {L : List (Int × Nat)} (h : Sim s L) : sortW s (s.lists 168) = idsOf (dueL s.now L) :=
  sorted_unique s ((sortW_perm s _).trans (h.inv.ready.trans ((h.perm.filter (fun p => decide (p.2 ≤ s.now))).map (·.1)).symm)) (sortW_sorted s _) (h.ids List.filter_sublist)
theorem insL_split : ∀ (L : List (Int × Nat)) (id : Int) (due : Nat), L.Pairwise (fun p q => p.2 < q.2 ∨ (p.2 = q.2 ∧ p.1 < q.1)) → (∀ p, p ∈ L.take (insAt L id due) → ltP p id due) ∧ (∀ p, p ∈ L.drop (insAt L id due) → ¬ ltP p id due)
  | [], id, due, _ => by simp [insAt]
  | q :: L, id, due, hs => by
    have hs' := List.pairwise_cons.1 hs
    unfold insAt
    by_cases hq : ltP q id due
    · rw [if_pos hq]
      obtain ⟨i1, i2⟩ := insL_split L id due hs'.2
      refine ⟨fun p hp => ?_, fun p hp => i2 p (by simpa using hp)⟩
      simp only [List.take_succ_cons, List.mem_cons] at hp
      rcases hp with rfl | hp
      · exact hq
      · exact i1 p hp
    · rw [if_neg hq]
      refine ⟨by simp, fun p hp => ?_⟩
      simp only [List.drop_zero, List.mem_cons] at hp
      rcases hp with rfl | hp
      · exact hq
      · have := hs'.1 p hp
        unfold ltP at *
        omega
theorem insL_perm (L : List (Int × Nat)) (id : Int) (due : Nat) : (insL L id due).Perm (L ++ [(id, due)]) := by
  unfold insL
  have h1 : (L ++ [(id, due)]) = (L.take (insAt L id due) ++ L.drop (insAt L id due)) ++ [(id, due)] := by rw [List.take_append_drop]
  rw [h1, List.append_assoc, List.append_assoc]
  exact List.Perm.append_left _ List.perm_append_comm
theorem insL_sorted {L : List (Int × Nat)} {id : Int} {due : Nat} (hs : L.Pairwise (fun p q => p.2 < q.2 ∨ (p.2 = q.2 ∧ p.1 < q.1))) (hn : id ∉ L.map (·.1)) : (insL L id due).Pairwise (fun p q => p.2 < q.2 ∨ (p.2 = q.2 ∧ p.1 < q.1)) := by
  obtain ⟨i1, i2⟩ := insL_split L id due hs
  have hL : L = L.take (insAt L id due) ++ L.drop (insAt L id due) := (List.take_append_drop _ _).symm
  have hs2 := hs
  rw [hL] at hs2
  obtain ⟨a1, a2, a3⟩ := List.pairwise_append.1 hs2
  unfold insL
  rw [List.append_assoc]
  refine List.pairwise_append.2 ⟨a1, ?_, ?_⟩
  · rw [List.singleton_append]
    refine List.pairwise_cons.2 ⟨fun p hp => ?_, a2⟩
    have := i2 p hp
    have hne : p.1 ≠ id := fun e => hn (List.mem_map.2 ⟨p, List.mem_of_mem_drop hp, e⟩)
    unfold ltP at this
    simp only
    omega
  · intro p hp q hq
    rw [List.singleton_append] at hq
    rcases List.mem_cons.1 hq with rfl | hq
    · have := i1 p hp
      unfold ltP at this
      simp only
      omega
    · exact a3 p hp q hq
theorem Sim.addE {s : SW} {L : List (Int × Nat)} (h : Sim s L) (id due : Int) : s.addE id due = raddE L id due := by
  unfold SW.addE raddE
  rw [h.get]
theorem Sim.add {s : SW} {L : List (Int × Nat)} (h : Sim s L) {id : Int} (hid : (Lit.int .i64 id).wf = true) (due : Int) : Sim (s.add id due) (radd L id due) := by
  refine ⟨h.inv.add hid due, ?_, ?_⟩
  · unfold SW.add radd
    rw [← h.addE]
    by_cases he : s.addE id due = 0
    · rw [if_pos he, if_pos he]
      have hd : dget s.dues id = none := by
        unfold SW.addE at he
        by_cases ht : tickOk due
        · rw [if_neg (by simpa using ht)] at he
          cases hd : dget s.dues id with
          | none => rfl
          | some v => rw [hd] at he; simp at he
        · rw [if_pos ht] at he; cases he
      have e : ((s.setDue id due.toNat).put id).dues = dput s.dues id due.toNat := rfl
      have e2 : dput s.dues id due.toNat = s.dues ++ [(id, due.toNat)] := by
        unfold dput
        rw [dget_none hd]
      rw [e, e2]
      exact (insL_perm L id _).trans (h.perm.append_right _)
    · rw [if_neg he, if_neg he]; exact h.perm
  · unfold radd
    by_cases he : raddE L id due = 0
    · rw [if_pos he]
      refine insL_sorted h.sorted ?_
      unfold raddE at he
      by_cases ht : tickOk due
      · rw [if_neg (by simpa using ht)] at he
        cases hd : dget L id with
        | none => exact dget_none_iff hd
        | some v => rw [hd] at he; simp at he
      · rw [if_pos ht] at he; cases he
    · rw [if_neg he]; exact h.sorted
theorem Sim.nodup {s : SW} {L : List (Int × Nat)} (h : Sim s L) : (L.map (·.1)).Nodup := (h.perm.map (·.1)).nodup_iff.2 h.inv.nodup
theorem Sim.dropE {s : SW} {L : List (Int × Nat)} (h : Sim s L) (id : Int) : s.dropE id = rdropE L id := by
  unfold SW.dropE rdropE
  rw [h.get]
theorem Sim.drop {s : SW} {L : List (Int × Nat)} (h : Sim s L) (id : Int) : Sim (s.drop id) (ddel L id) := by
  have e1 := ddel_eq id h.nodup
  have e2 := ddel_eq id h.inv.nodup
  refine ⟨h.inv.drop id, ?_, ?_⟩
  · have : (s.drop id).dues = ddel s.dues id := by
      unfold SW.drop
      split
      · rfl
      · rename_i hs
        have hd : dget s.dues id = none := by
          cases hd : dget s.dues id with
          | none => rfl
          | some v => rw [hd] at hs; simp at hs
        unfold ddel
        rw [dget_none hd]
    rw [this, e1, e2]
    exact h.perm.filter _
  · rw [e1]; exact h.sorted.filter _
theorem Sim.goE {s : SW} {L : List (Int × Nat)} (h : Sim s L) (t : Int) : s.goE t = rgoE s.now t := by
  unfold SW.goE rgoE
  by_cases hc : t < s.now ∨ 1152921504606846976 < t
  · rw [if_pos hc, if_pos (by unfold tickOk; omega)]
  · rw [if_neg hc, if_neg (by unfold tickOk; omega)]
theorem Sim.goNow {s : SW} {L : List (Int × Nat)} (h : Sim s L) (t : Int) : (s.go t).now = rgo s.now t := by
  unfold rgo
  by_cases hc : t < s.now ∨ 1152921504606846976 < t
  · rw [if_pos hc]
    unfold SW.go
    rw [if_pos (by unfold tickOk; omega)]
  · rw [if_neg hc]
    obtain ⟨n, rfl⟩ := Int.eq_ofNat_of_zero_le (show 0 ≤ t by omega)
    rw [go_now (by omega) (by omega)]
    omega
theorem Sim.go {s : SW} {L : List (Int × Nat)} (h : Sim s L) (t : Int) : Sim (s.go t) L := ⟨h.inv.go t, by rw [go_dues]; exact h.perm, h.sorted⟩
theorem Sim.when {s : SW} {L : List (Int × Nat)} (h : Sim s L) (id : Int) : dueW s id = (dget L id).getD 0 := by rw [h.get]; rfl
theorem firstK_has {s : SW} (h : s.Inv) (hd : s.dues ≠ []) : s.lists s.firstK ≠ [] ∧ ∀ p, p ∈ s.dues → s.lists 168 = [] → s.firstK ≤ idxW s.now p.2 := by
  have hin : ∀ p, p ∈ s.dues → p.1 ∈ s.lists (idxW s.now p.2) := fun p hp => (h.part _).mem_iff.2 (List.mem_map.2 ⟨p, List.mem_filter.2 ⟨hp, by simp⟩, rfl⟩)
  by_cases hr : s.lists 168 = []
  case neg =>
    have : s.firstK = 168 := if_pos hr
    rw [this]
    exact ⟨hr, fun p _ h => absurd h hr⟩
  have hlt : ∀ p, p ∈ s.dues → idxW s.now p.2 < 168 := by
    intro p hp
    have h1 := idxW_le h.ok.now (h.ok.due p hp)
    rcases Nat.lt_or_ge (idxW s.now p.2) 168 with h2 | h2
    · exact h2
    · have := hin p hp
      rw [show idxW s.now p.2 = 168 by omega, hr] at this
      cases this
  unfold SW.firstK
  rw [if_neg (by simpa using hr)]
  cases hf : (List.range 168).find? (fun k => !(s.lists k).isEmpty) with
  | none =>
    exfalso
    obtain ⟨p, hp⟩ := List.exists_mem_of_ne_nil _ hd
    have := List.find?_eq_none.1 hf (idxW s.now p.2) (List.mem_range.2 (hlt p hp))
    have hx := hin p hp
    simp at this
    rw [this] at hx
    cases hx
  | some k =>
    obtain ⟨h1, i, h2, h3, h4⟩ := List.find?_eq_some_iff_getElem.1 hf
    have hi : k = i := by simpa using h3.symm
    refine ⟨by simpa using h1, fun p hp _ => ?_⟩
    show k ≤ _
    rcases Nat.lt_or_ge (idxW s.now p.2) k with h5 | h5
    · have h6 := h4 (idxW s.now p.2) (by omega)
      have hx := hin p hp
      simp at h6
      rw [h6] at hx
      cases hx
    · exact h5
theorem Sim.nextE {s : SW} {L : List (Int × Nat)} (h : Sim s L) : s.nextE = rnextE L := by
  unfold SW.nextE rnextE
  by_cases hL : L = []
  · rw [if_pos hL, if_pos (by have := h.len; rw [hL] at this; exact List.eq_nil_of_length_eq_zero this.symm)]
  · rw [if_neg hL, if_neg (by intro e; have := h.len; rw [e] at this; exact hL (List.eq_nil_of_length_eq_zero this))]
theorem Sim.next {s : SW} {L : List (Int × Nat)} (h : Sim s L) : s.nextV = rnextV L := by
  unfold SW.nextV rnextV
  by_cases hd : s.dues = []
  · rw [if_pos hd]
    have hL : L = [] := by have := h.len; rw [hd] at this; exact List.eq_nil_of_length_eq_zero this
    rw [hL]; rfl
  rw [if_neg hd]
  obtain ⟨f1, f2⟩ := firstK_has h.inv hd
  have hlen : 0 < s.firstL.length := by unfold SW.firstL; rw [sortW_len]; exact List.length_pos_iff.2 f1
  -- the first of the first list
  have hx : nth s.firstL 0 ∈ s.lists s.firstK := (sortW_perm s _).mem_iff.1 (by
    have : nth s.firstL 0 = s.firstL[0] := by simp [nth, List.getD, hlen]
    rw [this]; exact List.getElem_mem hlen)
  have hmin : ∀ y, y ∈ s.lists s.firstK → leW s (nth s.firstL 0) y = true ∨ nth s.firstL 0 = y := by
    intro y hy
    have hy' : y ∈ s.firstL := (sortW_perm s _).mem_iff.2 hy
    have hs := sortW_sorted s (s.lists s.firstK)
    have e : s.firstL = sortW s (s.lists s.firstK) := rfl
    cases hl : s.firstL with
    | nil => rw [hl] at hlen; simp at hlen
    | cons a r =>
      rw [hl] at hy'
      rw [← e, hl] at hs
      have : nth (a :: r) 0 = a := rfl
      rw [this]
      rcases List.mem_cons.1 hy' with rfl | hy'
      · exact .inr rfl
      · exact .inl ((List.pairwise_cons.1 hs).1 y hy')
  obtain ⟨p, hp, hp1⟩ := List.mem_map.1 ((h.inv.part _).mem_iff.1 hx)
  obtain ⟨hp2, hp3⟩ := List.mem_filter.1 hp
  have hp3 : idxW s.now p.2 = s.firstK := by simpa using hp3
  have hpv : dueW s p.1 = p.2 := h.inv.due hp2
  rw [← hp1, hpv]
  -- it is due no later than any
  have hall : ∀ q, q ∈ s.dues → p.2 ≤ q.2 := by
    intro q hq
    have hqv : dueW s q.1 = q.2 := h.inv.due hq
    by_cases hk : idxW s.now q.2 = s.firstK
    · have hqm : q.1 ∈ s.lists s.firstK := (h.inv.part _).mem_iff.2 (List.mem_map.2 ⟨q, List.mem_filter.2 ⟨hq, by simpa using hk⟩, rfl⟩)
      rcases hmin q.1 hqm with hle | he
      · rw [← hp1, leW_iff, hpv, hqv] at hle; omega
      · rw [← hp1] at he; rw [← hpv, ← hqv, he]; exact Nat.le_refl _
    · by_cases hr : s.lists 168 = []
      · have h1 := f2 q hq hr
        have h2 : idxW s.now p.2 < idxW s.now q.2 := by omega
        have hnr : ∀ z, z ∈ s.dues → s.now < z.2 := by
          intro z hz
          rcases Nat.lt_or_ge s.now z.2 with h3 | h3
          · exact h3
          · have hz' : z.1 ∈ s.lists 168 := (h.inv.part _).mem_iff.2 (List.mem_map.2 ⟨z, List.mem_filter.2 ⟨hz, by simp [idxW, h3]⟩, rfl⟩)
            rw [hr] at hz'; cases hz'
        exact Nat.le_of_lt (idxW_order h.inv.ok.now (hnr p hp2) (hnr q hq) (h.inv.ok.due p hp2) (h.inv.ok.due q hq) h2)
      · have hf : s.firstK = 168 := if_pos hr
        have h1 : p.2 ≤ s.now := by
          rcases Nat.lt_or_ge s.now p.2 with h3 | h3
          · have h1 : idxW s.now p.2 = lvlW p.2 s.now * 8 + digW p.2 (lvlW p.2 s.now) := if_neg (by omega)
            have h4 := lvlW_le (h.inv.ok.due p hp2) h.inv.ok.now
            have h5 := digW_bd p.2 (lvlW p.2 s.now)
            omega
          · exact h3
        have h2 : s.now < q.2 := by
          rcases Nat.lt_or_ge s.now q.2 with h3 | h3
          · exact h3
          · exact absurd (show idxW s.now q.2 = s.firstK by rw [hf]; exact if_pos h3) hk
        omega
  cases hL : L with
  | nil => have := h.len; rw [hL] at this; exact absurd (List.eq_nil_of_length_eq_zero this.symm) hd
  | cons a r =>
    have : nthP (a :: r) 0 = a := rfl
    rw [this]
    have ha : a ∈ s.dues := h.perm.mem_iff.1 (by rw [hL]; exact List.mem_cons_self)
    have h1 := hall a ha
    have hpL : p ∈ L := h.perm.mem_iff.2 hp2
    rw [hL] at hpL
    have hs := h.sorted
    rw [hL] at hs
    rcases List.mem_cons.1 hpL with rfl | hpL
    · rfl
    · have := (List.pairwise_cons.1 hs).1 p hpL
      omega
end Go.Proofs.YtaakgpnmfkmdoaaGreatDoor
