/- The invariant of a wheel holds behind Go; what is ready; what comes first. Plain: no program. -/
import Derived.Test.YthieionajemjhaaDoorWheelInv
namespace Go.Proofs.YthieionajemjhaaDoor
set_option linter.unusedVariables false
set_option linter.unusedSimpArgs false
open Go.RowKit

theorem range_mul_succ (lv n : Nat) (f : Nat → List Int) : (List.range (lv * 8 + (n + 1))).flatMap f = (List.range (lv * 8 + n)).flatMap f ++ f (lv * 8 + n) := by
  rw [← Nat.add_assoc, List.range_succ, List.flatMap_append]
  simp
theorem tookN_eq (s : SW) (lv : Nat) : ∀ n, (List.range (lv * 8 + n)).flatMap s.lists = (List.range (lv * 8)).flatMap s.lists ++ s.tookN lv n
  | 0 => by simp [SW.tookN]
  | n + 1 => by rw [range_mul_succ, tookN_eq s lv n, SW.tookN, List.append_assoc]
theorem goN_lists (s : SW) : ∀ n k, (s.goN n).2.lists k = if k < n * 8 then [] else s.lists k
  | 0, k => by rw [if_neg (by omega)]; rfl
  | n + 1, k => by
    show ((s.goN n).2.leaveN n 8).lists k = _
    rw [leaveN_lists, goN_lists s n k]
    by_cases h1 : n * 8 ≤ k ∧ k < n * 8 + 8
    · rw [if_pos h1, if_pos (by omega)]
    · rw [if_neg h1]
      by_cases h2 : k < n * 8
      · rw [if_pos h2, if_pos (by omega)]
      · rw [if_neg h2, if_neg (by omega)]
theorem tookN_congr {s s' : SW} {lv : Nat} : ∀ n, (∀ i, i < n → s.lists (lv * 8 + i) = s'.lists (lv * 8 + i)) → s.tookN lv n = s'.tookN lv n
  | 0, _ => rfl
  | n + 1, h => by
    show s.tookN lv n ++ _ = s'.tookN lv n ++ _
    rw [tookN_congr n (fun i hi => h i (by omega)), h n (by omega)]
theorem goN_eq (s : SW) : ∀ n, (s.goN n).1 = (List.range (n * 8)).flatMap s.lists
  | 0 => rfl
  | n + 1 => by
    show (s.goN n).1 ++ (s.goN n).2.tookN n 8 = _
    rw [goN_eq s n, tookN_congr (s' := s) 8 (fun i hi => by rw [goN_lists, if_neg (by omega)]), show (n + 1) * 8 = n * 8 + 8 by omega, tookN_eq]
/-- The first slot that a Go to t leaves. -/
def upW (s : SW) (t : Nat) : Nat := lvlW t s.now * 8 + (digW t (lvlW t s.now) + 1)
theorem gone_eq (s : SW) (t : Nat) : s.gone t = (List.range (upW s t)).flatMap s.lists := by
  unfold SW.gone upW
  rw [goN_eq, tookN_congr (s' := s) _ (fun i hi => by
    have := digW_bd t (lvlW t s.now)
    rw [goN_lists, if_neg (by omega)]), tookN_eq]
theorem left_lists (s : SW) (t k : Nat) : (s.left t).lists k = if k < upW s t then [] else s.lists k := by
  have e : (s.left t).lists = ((s.goN (lvlW t s.now)).2.leaveN (lvlW t s.now) (digW t (lvlW t s.now) + 1)).lists := rfl
  rw [e, leaveN_lists, goN_lists]
  unfold upW
  by_cases h1 : lvlW t s.now * 8 ≤ k ∧ k < lvlW t s.now * 8 + (digW t (lvlW t s.now) + 1)
  · rw [if_pos h1, if_pos (by omega)]
  · rw [if_neg h1]
    by_cases h2 : k < lvlW t s.now * 8
    · rw [if_pos h2, if_pos (by omega)]
    · rw [if_neg h2, if_neg (by omega)]
theorem flat_perm (s : SW) (h : s.Inv) : ∀ T, ((List.range T).flatMap s.lists).Perm ((s.dues.filter (fun p => decide (idxW s.now p.2 < T))).map (·.1))
  | 0 => by simp
  | T + 1 => by
    rw [List.range_succ, List.flatMap_append]
    have ih := flat_perm s h T
    have h1 := perm_split (fun p : Int × Nat => decide (idxW s.now p.2 < T + 1)) (fun p => decide (idxW s.now p.2 < T)) (fun p => decide (idxW s.now p.2 = T)) s.dues (fun p _ => by
      by_cases a : idxW s.now p.2 < T
      · have : idxW s.now p.2 < T + 1 := by omega
        simp [a, this]
      · by_cases b : idxW s.now p.2 = T
        · simp [b]
        · have : ¬ idxW s.now p.2 < T + 1 := by omega
          simp [a, b, this]) (fun p _ => by simp; omega)
    refine List.Perm.trans ?_ (h1.map (·.1)).symm
    rw [List.map_append]
    have e : List.flatMap s.lists [T] = s.lists T := by simp
    rw [e]
    exact ih.append (h.part T)
theorem filter_fst {s : SW} (h : s.Inv) (f : Nat → Bool) : ∀ (l : List (Int × Nat)), (∀ p, p ∈ l → p ∈ s.dues) → (l.map (·.1)).filter (fun id => f (dueW s id)) = (l.filter (fun p => f p.2)).map (·.1)
  | [], _ => rfl
  | p :: l, hl => by
    have ih := filter_fst h f l (fun q hq => hl q (List.mem_cons_of_mem _ hq))
    have e := h.due (hl p List.mem_cons_self)
    rw [List.map_cons]
    by_cases hf : f p.2 = true
    · simp [List.filter_cons, e, hf, ih]
    · simp [List.filter_cons, e, hf, ih]
theorem stays {s : SW} (h : s.Inv) {t : Nat} (hn : s.now < t) (ht : t ≤ 1152921504606846976) {p : Int × Nat} (hp : p ∈ s.dues) (hk : ¬ idxW s.now p.2 < upW s t) : idxW t p.2 = idxW s.now p.2 := by
  by_cases hd : p.2 ≤ s.now
  · have e1 : idxW s.now p.2 = 168 := if_pos hd
    have e2 : idxW t p.2 = 168 := if_pos (by omega)
    rw [e1, e2]
  · refine idxW_stays hn (by omega) ht (h.ok.due p hp) ?_
    intro hc
    apply hk
    have e : idxW s.now p.2 = lvlW p.2 s.now * 8 + digW p.2 (lvlW p.2 s.now) := if_neg hd
    rw [e]
    unfold upW
    have d1 := digW_bd p.2 (lvlW p.2 s.now)
    rcases hc with hc | ⟨hc1, hc2⟩
    · omega
    · rw [hc1] at hc2 d1 ⊢
      omega
theorem SW.Inv.goTo {s : SW} (h : s.Inv) {t : Nat} (hn : s.now < t) (ht : t ≤ 1152921504606846976) : (s.goTo t).Inv := by
  have hdues : (s.goTo t).dues = s.dues := by
    unfold SW.goTo
    rw [puts_dues]
    have e : (s.left t).dues = ((s.goN (lvlW t s.now)).2.leaveN (lvlW t s.now) (digW t (lvlW t s.now) + 1)).dues := rfl
    rw [e]
    rw [leaveN_dues, goN_dues]
  have hnow : (s.goTo t).now = t := by
    unfold SW.goTo
    rw [puts_now]; rfl
  have hleft : (s.left t).dues = s.dues := by
    have e : (s.left t).dues = ((s.goN (lvlW t s.now)).2.leaveN (lvlW t s.now) (digW t (lvlW t s.now) + 1)).dues := rfl
    rw [e]
    rw [leaveN_dues, goN_dues]
  refine ⟨⟨by rw [hnow]; exact ht, by rw [hdues]; exact h.ok.due⟩, by rw [hdues]; exact h.nodup, by rw [hdues]; exact h.wf, fun k => ?_⟩
  rw [hdues, hnow]
  unfold SW.goTo
  rw [puts_lists, left_lists]
  have e1 : (s.left t).now = t := rfl
  have e2 : ∀ id, dueW (s.left t) id = dueW s id := fun id => by unfold dueW; rw [hleft]
  simp only [e1, e2]
  rw [gone_eq]
  have hflat := (flat_perm s h (upW s t)).filter (fun id => decide (idxW t (dueW s id) = k))
  rw [filter_fst h (fun v => decide (idxW t v = k)) _ (fun p hp => (List.mem_filter.1 hp).1), List.filter_filter] at hflat
  have hs := perm_split (fun p : Int × Nat => decide (idxW t p.2 = k)) (fun p => decide (¬ k < upW s t) && decide (idxW s.now p.2 = k)) (fun p => decide (idxW t p.2 = k) && decide (idxW s.now p.2 < upW s t)) s.dues (fun p hp => by
    by_cases hk : idxW s.now p.2 < upW s t
    · by_cases a : idxW t p.2 = k
      · simp [a, hk]
      · by_cases b : idxW s.now p.2 = k
        · have : k < upW s t := by omega
          simp [a, this]
        · simp [a, b]
    · have st := stays h hn ht hp hk
      by_cases a : idxW t p.2 = k
      · have b : idxW s.now p.2 = k := by omega
        have c : ¬ k < upW s t := by omega
        simp [a, b, c]
      · have b : ¬ idxW s.now p.2 = k := by omega
        simp [a, b]) (fun p _ => by simp; omega)
  refine List.Perm.trans ?_ (hs.map (·.1)).symm
  rw [List.map_append]
  refine List.Perm.append ?_ hflat
  by_cases hk : k < upW s t
  · rw [if_pos hk]
    have : s.dues.filter (fun p => decide (¬ k < upW s t) && decide (idxW s.now p.2 = k)) = [] := by
      rw [List.filter_eq_nil_iff]
      intro p _
      simp [hk]
    rw [this]; exact List.Perm.refl _
  · rw [if_neg hk]
    have : s.dues.filter (fun p => decide (¬ k < upW s t) && decide (idxW s.now p.2 = k)) = s.dues.filter (fun p => decide (idxW s.now p.2 = k)) := by
      apply List.filter_congr
      intro p _
      simp [hk]
    rw [this]; exact h.part k
theorem SW.Inv.go {s : SW} (h : s.Inv) (t : Int) : (s.go t).Inv := by
  unfold SW.go
  split
  · exact h
  · rename_i hn
    split
    · exact h
    · rename_i he
      have hr : tickOk t := by
        by_cases hr : tickOk t
        · exact hr
        · exact absurd (.inr hr) hn
      have hlt : ¬ t < s.now := fun hh => hn (.inl hh)
      have := hr.1
      have := hr.2
      exact h.goTo (by omega) (by omega)
/-- What is ready. -/
theorem SW.Inv.ready {s : SW} (h : s.Inv) : (s.lists 168).Perm ((s.dues.filter (fun p => decide (p.2 ≤ s.now))).map (·.1)) := by
  have e : s.dues.filter (fun p => decide (idxW s.now p.2 = 168)) = s.dues.filter (fun p => decide (p.2 ≤ s.now)) := by
    apply List.filter_congr
    intro p hp
    by_cases hd : p.2 ≤ s.now
    · have : idxW s.now p.2 = 168 := if_pos hd
      simp [hd, this]
    · have h1 : idxW s.now p.2 = lvlW p.2 s.now * 8 + digW p.2 (lvlW p.2 s.now) := if_neg hd
      have h2 := lvlW_le (h.ok.due p hp) h.ok.now
      have h3 := digW_bd p.2 (lvlW p.2 s.now)
      have : ¬ idxW s.now p.2 = 168 := by omega
      simp [hd, this]
  rw [← e]; exact h.part 168
end Go.Proofs.YthieionajemjhaaDoor
