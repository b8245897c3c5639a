/- All timers of all cores as one list: what arming, moving and firing does to it. No program in sight. -/
import Derived.Test.YthieionajemjhaaDoorTimerRefM
namespace Go.Proofs.YthieionajemjhaaDoor
set_option linter.unusedVariables false
set_option linter.unusedSimpArgs false
open Go.RowKit

def TA.ent (A : TA) : List (Int × Nat) := (List.range A.n).flatMap A.L
theorem ent_mem {A : TA} {x : Int × Nat} : x ∈ A.ent ↔ ∃ c, c < A.n ∧ x ∈ A.L c := by simp [TA.ent]
theorem flat_upd {α : Type} {f : Nat → List α} {c : Nat} {x : α} {l' : List α} (h : (f c).Perm (x :: l')) : ∀ (l : List Nat), l.Nodup → c ∈ l → (l.flatMap f).Perm (x :: l.flatMap (upd f c l'))
  | [], _, hc => by cases hc
  | a :: l, hn, hc => by
    have hn' := List.nodup_cons.1 hn
    rw [List.flatMap_cons, List.flatMap_cons]
    by_cases e : a = c
    · subst e
      have e2 : l.flatMap (upd f a l') = l.flatMap f := by
        rw [List.flatMap_def, List.flatMap_def]
        congr 1
        refine List.map_congr_left fun b hb => ?_
        exact upd_ne _ _ (fun x => hn'.1 (x ▸ hb))
      rw [e2, upd_same]
      exact h.append_right _
    · have hc' : c ∈ l := by
        rcases List.mem_cons.1 hc with h1 | h1
        · exact absurd h1.symm e
        · exact h1
      rw [upd_ne _ _ e]
      exact (List.Perm.append_left _ (flat_upd h l hn'.2 hc')).trans List.perm_middle
theorem upd_upd {α : Type} (f : Nat → α) (c : Nat) (x y : α) : upd (upd f c x) c y = upd f c y := by
  funext j
  by_cases e : j = c
  · subst e; rw [upd_same, upd_same]
  · rw [upd_ne _ _ e, upd_ne _ _ e, upd_ne _ _ e]
theorem put_less {A : TA} {c : Nat} (hc : c < A.n) {x : Int × Nat} {l' : List (Int × Nat)} (h : (A.L c).Perm (x :: l')) : A.ent.Perm (x :: (A.put c l').ent) :=
  flat_upd h _ List.nodup_range (List.mem_range.2 hc)
theorem put_more {A : TA} {c : Nat} (hc : c < A.n) {x : Int × Nat} {l' : List (Int × Nat)} (h : l'.Perm (x :: A.L c)) : (A.put c l').ent.Perm (x :: A.ent) := by
  have := flat_upd (f := upd A.L c l') (c := c) (x := x) (l' := A.L c) (by rw [upd_same]; exact h) (List.range A.n) List.nodup_range (List.mem_range.2 hc)
  rw [upd_upd, upd_self] at this
  exact this
theorem ddel_perm {L : List (Int × Nat)} (hn : (L.map (·.1)).Nodup) {x : Int × Nat} (hx : x ∈ L) : L.Perm (x :: ddel L x.1) := by
  rw [ddel_eq _ hn]
  induction L with
  | nil => cases hx
  | cons p L ih =>
    have hn' := List.nodup_cons.1 (show (p.1 :: L.map (·.1)).Nodup from hn)
    rcases List.mem_cons.1 hx with rfl | hx
    · rw [List.filter_cons_of_neg (by simp)]
      have : L.filter (fun q => !decide (q.1 = x.1)) = L := by
        rw [List.filter_eq_self]
        intro q hq
        have : q.1 ≠ x.1 := fun e => hn'.1 (e ▸ List.mem_map.2 ⟨q, hq, rfl⟩)
        simpa using this
      rw [this]
    · have hne : p.1 ≠ x.1 := fun e => hn'.1 (e ▸ List.mem_map.2 ⟨x, hx, rfl⟩)
      rw [List.filter_cons_of_pos (by simpa using hne)]
      exact (List.Perm.cons _ (ih hn'.2 hx)).trans (List.Perm.swap _ _ _)
section
variable {t : TS} {A : TA}
theorem TSim.ent_nodup (h : TSim t A) : (A.ent.map (·.1)).Nodup := by
  unfold TA.ent
  rw [List.map_flatMap, List.Nodup, List.pairwise_flatMap]
  refine ⟨fun c hc => (h.sim c (List.mem_range.1 hc)).nodup, ?_⟩
  have hp : (List.range A.n).Pairwise (fun a b => a ∈ List.range A.n ∧ b ∈ List.range A.n ∧ a ≠ b) := by
    refine List.Pairwise.imp_of_mem (R := fun a b => a ≠ b) (fun ha hb hab => ⟨ha, hb, hab⟩) List.nodup_range
  refine hp.imp fun {a b} ⟨ha, hb, hab⟩ x hx y hy e => ?_
  subst e
  have h1 := (h.whr x a).2 ⟨List.mem_range.1 ha, dget_isSome.2 hx⟩
  have h2 := (h.whr x b).2 ⟨List.mem_range.1 hb, dget_isSome.2 hy⟩
  rw [h1] at h2
  simp at h2
  exact hab h2
theorem keys_len (A : TA) : A.keys.length = A.ent.length := by
  unfold TA.keys TA.ent
  rw [List.length_flatMap, List.length_flatMap]
  simp
theorem arm_ok {c due : Int} (hc : A.is c) (hd : tickOk due) (hl : A.ent.length < 48) : A.armE c due = 0 := by
  have := (lowN_spec A.keys).2
  rw [keys_len] at this
  unfold TA.armE TA.low
  rw [if_neg (fun x => x hc), if_neg (fun x => x hd), if_neg (by omega)]
theorem arm_ent {c : Nat} {due : Nat} (hc : c < A.n) (h0 : A.armE c due = 0) : (A.arm c due).ent.Perm (((A.low : Int), due) :: A.ent) ∧ (A.arm c due).n = A.n ∧ (A.arm c due).now = A.now := by
  unfold TA.arm
  rw [if_pos h0]
  refine ⟨?_, rfl, rfl⟩
  simp only [Int.toNat_natCast]
  refine put_more hc ?_
  exact (insL_perm _ _ _).trans (List.perm_append_comm)
theorem TSim.move_ent (h : TSim t A) (c d : Int) : (A.move c d).ent.Perm A.ent ∧ (A.move c d).n = A.n ∧ (A.move c d).now = A.now := by
  unfold TA.move
  by_cases h0 : A.moveE c d = 0
  · rw [if_pos h0]
    refine ⟨?_, rfl, rfl⟩
    unfold TA.moveE at h0
    by_cases h1 : ¬ A.is c ∨ ¬ A.is d
    · rw [if_pos h1] at h0; cases h0
    rw [if_neg h1] at h0
    by_cases h2 : c = d
    · rw [if_pos h2] at h0; cases h0
    rw [if_neg h2] at h0
    by_cases h3 : A.L c.toNat = []
    · rw [if_pos h3] at h0; cases h0
    have h4 : A.moveV c d = (nthP (A.L c.toNat) 0).1 := by
      unfold TA.moveV TA.moveE
      rw [if_neg h1, if_neg h2, if_neg h3, if_pos rfl]
    rw [h4]
    have hic : A.is c := Classical.byContradiction fun x => h1 (.inl x)
    have hid : A.is d := Classical.byContradiction fun x => h1 (.inr x)
    have hc : c.toNat < A.n := by have := hic.1; have := hic.2; omega
    have hd : d.toNat < A.n := by have := hid.1; have := hid.2; omega
    have hcd : d.toNat ≠ c.toNat := by have := hic.1; have := hid.1; omega
    have hm : nthP (A.L c.toNat) 0 ∈ A.L c.toNat := nthP_mem (List.length_pos_iff.2 h3)
    have p1 := put_less hc (ddel_perm (h.sim _ hc).nodup hm)
    have p2 := put_more (A := A.put c.toNat (ddel (A.L c.toNat) (nthP (A.L c.toNat) 0).1)) (c := d.toNat) hd (x := nthP (A.L c.toNat) 0) (l' := insL (A.L d.toNat) (nthP (A.L c.toNat) 0).1 (nthP (A.L c.toNat) 0).2) (by
      have e : (A.put c.toNat (ddel (A.L c.toNat) (nthP (A.L c.toNat) 0).1)).L d.toNat = A.L d.toNat := upd_ne _ _ hcd
      rw [e]
      exact (insL_perm _ _ _).trans (List.perm_append_comm))
    exact p2.trans p1.symm
  · rw [if_neg h0]
    exact ⟨List.Perm.refl _, rfl, rfl⟩
/-- What a firing takes: a thing of that core that is due. -/
theorem TSim.fire_ent (h : TSim t A) {c : Nat} (hc : c < A.n) (hd : A.due c ≠ []) : A.fireE c = 0 ∧ (A.fire c).n = A.n ∧ (A.fire c).now = A.now ∧ ∃ x, x ∈ A.ent ∧ x.1 = A.fireV c ∧ x.2 ≤ A.now ∧ A.ent.Perm (x :: (A.fire c).ent) ∧
    ((A.fire c).due c).length + 1 = (A.due c).length ∧ ∀ e : Nat, e ≠ c → (A.fire c).due e = A.due e := by
  have hi : A.is c := ⟨by omega, by omega⟩
  have hE : A.fireE c = 0 := by unfold TA.fireE; rw [if_neg (fun x => x hi), if_neg hd]
  have hV : A.fireV c = (nthP (A.due c) 0).1 := by unfold TA.fireV; rw [if_pos hE]
  have hF : A.fire c = A.put c (ddel (A.L c) (A.fireV c)) := by unfold TA.fire; rw [if_pos hE]; rfl
  have hm : nthP (A.due c) 0 ∈ A.due c := nthP_mem (List.length_pos_iff.2 hd)
  obtain ⟨hm1, hm2⟩ := List.mem_filter.1 (show nthP (A.due c) 0 ∈ (A.L c).filter _ from hm)
  have hp := ddel_perm (h.sim c hc).nodup hm1
  refine ⟨hE, by rw [hF]; rfl, by rw [hF]; rfl, nthP (A.due c) 0, ent_mem.2 ⟨c, hc, hm1⟩, hV.symm, by simpa using hm2, ?_, ?_, ?_⟩
  · rw [hF, hV]; exact put_less hc hp
  · rw [hF, hV]
    have e1 : (A.put c (ddel (A.L c) (nthP (A.due c) 0).1)).due c = dueL A.now (ddel (A.L c) (nthP (A.due c) 0).1) := by
      show dueL A.now (upd A.L c _ c) = _
      rw [upd_same]
    rw [e1]
    have hp2 := (hp.filter (fun p => decide (p.2 ≤ A.now))).length_eq
    rw [List.filter_cons_of_pos (p := fun p : Int × Nat => decide (p.2 ≤ A.now)) hm2] at hp2
    exact hp2.symm
  · intro e he
    rw [hF]
    show dueL A.now (upd A.L c _ e) = dueL A.now (A.L e)
    rw [upd_ne _ _ he]
end
/-- Records of what was armed. -/
def armV (M : List (Int × Nat)) : List Value := M.flatMap fun p => [.int .i64 0, .int .i64 0, .int .i64 0, .int .i64 p.1, .int .i64 (p.2 : Nat)]
theorem armV_len : ∀ M : List (Int × Nat), (armV M).length = M.length * 5
  | [] => rfl
  | p :: M => by
    have := armV_len M
    simp only [armV, List.flatMap_cons, List.length_append, List.length_cons, List.length_nil] at *
    omega
theorem armV_drop : ∀ (M : List (Int × Nat)) (i : Nat), (armV M).drop (i * 5) = armV (M.drop i)
  | M, 0 => by simp
  | [], i + 1 => by simp [armV]
  | p :: M, i + 1 => by
    have := armV_drop M i
    rw [show (i + 1) * 5 = i * 5 + 5 by omega]
    simpa [armV] using this
theorem armV_at {M : List (Int × Nat)} {i : Nat} (h : i < M.length) : (armV M)[i * 5 + 3]? = some (.int .i64 (nthP M i).1) ∧ (armV M)[i * 5 + 4]? = some (.int .i64 ((nthP M i).2 : Nat)) := by
  have h1 := armV_drop M i
  have h2 : M.drop i = nthP M i :: M.drop (i + 1) := by
    rw [List.drop_eq_getElem_cons h]
    simp [nthP, List.getD, h]
  rw [h2] at h1
  have h3 : ∀ k, (armV M)[i * 5 + k]? = (armV (nthP M i :: M.drop (i + 1)))[k]? := by
    intro k
    rw [← h1, List.getElem?_drop]
  exact ⟨h3 3, h3 4⟩
theorem armV_snoc (M : List (Int × Nat)) (p : Int × Nat) : armV (M ++ [p]) = armV M ++ [.int .i64 0, .int .i64 0, .int .i64 0, .int .i64 p.1, .int .i64 (p.2 : Nat)] := by simp [armV]
set_option maxRecDepth 100000 in
theorem law14_due (g : Option Nat) (cap : Nat) (M : List (Int × Nat)) (w : World) (h : RAt 32 5 w g cap M.length (armV M)) (hn : (M.map (·.1)).Nodup) (x : Int × Nat) (hx : x ∈ M) (now : Nat) :
    Calls Tryd.prog 13 #[.slice (rA g) M.length cap, .int .i64 x.1, .int .i64 now] w (Ret (.bool (decide (x.2 = now))) w) := by
  have hcap := h.cap
  unfold maxLen at hcap
  obtain ⟨hcap1, hcap2⟩ := hcap
  obtain ⟨k0, hk0, hx0⟩ := List.getElem_of_mem hx
  have hnx : nthP M k0 = x := by simp [nthP, List.getD, hk0, hx0]
  have huniq : ∀ j, j < M.length → (nthP M j).1 = x.1 → (nthP M j).2 = x.2 := by
    intro j hj e
    have h1 := dget_of_mem hn (i := (nthP M j).1) (v := (nthP M j).2) (nthP_mem hj)
    have h2 := dget_of_mem hn (i := x.1) (v := x.2) hx
    rw [e, h2] at h1
    exact (Option.some.inj h1).symm
  go_enter Tryd.func13, Tryd.ntmps13
  go_wp2
  go_loopg [7] M.length (fun gg i wr => ∃ j : Nat, i = .int .i64 j ∧ j + gg = M.length ∧ (∀ q, q < j → (nthP M q).1 ≠ x.1) ∧ Drew w wr)
  case atStart => exact ⟨0, rfl, by omega, by omega, Drew.refl _⟩
  case round =>
    obtain ⟨j, rfl, hj, hq, hD⟩ := hrel
    have hr := h.same hD.heap
    by_cases hlt : j < M.length
    · have hltI : (j : Int) < M.length := by omega
      obtain ⟨a1, a2⟩ := armV_at hlt
      obtain ⟨b, rfl, c3⟩ := hr.cell a1
      obtain ⟨b', e', c4⟩ := hr.cell a2
      cases e'
      have hu := huniq j hlt
      rw [rA_some] at *
      by_cases e : (nthP M j).1 = x.1
      · have e2 := hu e
        rw [e] at c3
        rw [e2] at c4
        clear hu e e2 hq huniq hr
        go_wp2
        go_ret
        refine ⟨?_, by repeat (first | exact hD | apply Drew.drewN | apply Drew.drew)⟩
        have e9 : ((x.2 : Int) == (now : Int)) = decide (x.2 = now) := by
          by_cases e : x.2 = now
          · simp [e]
          · have : ¬ ((x.2 : Int) = now) := by omega
            simp [e, this]
        simp [e9]
      · have hstep : ∀ q, q < j + 1 → (nthP M q).1 ≠ x.1 := by
          intro q hq1
          by_cases e1 : q = j
          · subst e1; exact e
          · exact hq q (by omega)
        clear hu hq huniq hr
        generalize (nthP M j).1 = y at *
        generalize (nthP M j).2 = z at *
        go_wp2
        go_roundg (gk - 1)
        case measure => omega
        case rel => exact ⟨j + 1, by go_num, by omega, hstep, by repeat (first | exact hD | apply Drew.drewN | apply Drew.drew)⟩
    · exact absurd (by rw [hnx]) (hq k0 (by omega))
end Go.Proofs.YthieionajemjhaaDoor
