/- Timers on cores, in plain words: what is done to a table, a map and wheels that hold the same keeps them alike. -/
import Derived.Test.YthieionajemjhaaDoorTimerA
namespace Go.Proofs.YthieionajemjhaaDoor
set_option linter.unusedVariables false
set_option linter.unusedSimpArgs false
open Go.RowKit

theorem smallI {n : Nat} (h : n ≤ 100) : (Lit.int .i64 (n : Int)).wf = true := by
  have h1 : (-9223372036854775808 : Int) ≤ (n : Int) := by omega
  have h2 : (n : Int) ≤ 9223372036854775807 := by omega
  simp [Lit.wf, IntKind.min, IntKind.max, IntKind.bits, IntKind.signed]
  omega
theorem sadd_now (s : SW) (id due : Int) : (s.add id due).now = s.now := by
  unfold SW.add
  split <;> rfl
theorem sdrop_now (s : SW) (id : Int) : (s.drop id).now = s.now := by
  unfold SW.drop
  split <;> rfl
def ts0 (n : Nat) : TS := { n := n, ids := [], whr := [], s := fun _ => sw0 0 }
def ta0 (n : Nat) : TA := { n := n, now := 0, L := fun _ => [] }
theorem tsim0 {n : Nat} (h1 : 1 ≤ n) (h2 : n ≤ 64) : TSim (ts0 n) (ta0 n) where
  n := rfl
  n1 := h1
  n2 := h2
  slot := ⟨by omega, by omega, by simp [ts0], by simp [ts0]⟩
  nodup := by simp [ts0]
  sim c hc := sim0 ⟨by omega, by omega⟩
  now c hc := rfl
  whr id c := by simp [ts0, ta0, dget_nil]
  ids id := by simp [ts0, dget_nil]
section
variable {t : TS} {A : TA}
theorem TSim.none_of (h : TSim t A) {id : Int} (hn : dget t.whr id = none) {c : Nat} (hc : c < A.n) : dget (A.L c) id = none := by
  cases hd : dget (A.L c) id with
  | none => rfl
  | some v =>
    have := (h.whr id c).2 ⟨hc, by rw [hd]; rfl⟩
    rw [hn] at this
    cases this
theorem TSim.lowNone (h : TSim t A) : dget t.whr (lowN t.ids : Int) = none := by
  cases hd : dget t.whr (lowN t.ids : Int) with
  | none => rfl
  | some c =>
    have := ((h.ids _).1 (by rw [hd]; rfl)).2
    exact absurd (by simpa using this) (lowN_spec t.ids).1.2.1
theorem not_key {m : List (Int × Nat)} {i : Int} (h : dget m i = none) : i ∉ m.map (·.1) := fun hm => by
  have := dget_isSome.2 hm
  rw [h] at this
  cases this
theorem TSim.addE (h : TSim t A) {c : Nat} (hc : c < A.n) {id : Int} (hid : dget t.whr id = none) {due : Int} (hd : tickOk due) : (t.s c).addE id due = 0 := by
  have h1 : dget (t.s c).dues id = none := by rw [← (h.sim c hc).get]; exact h.none_of hid hc
  unfold SW.addE
  rw [if_neg (by simpa using hd), h1]
  rfl
theorem TSim.radd (h : TSim t A) {c : Nat} (hc : c < A.n) {id : Int} (hid : dget t.whr id = none) {due : Int} (hd : tickOk due) : radd (A.L c) id due = insL (A.L c) id due.toNat := by
  unfold Go.Proofs.YthieionajemjhaaDoor.radd
  rw [if_pos]
  rw [← (h.sim c hc).addE]
  exact h.addE hc hid hd
def TS.arm (t : TS) (c : Nat) (due : Int) : TS := { t with ids := lowN t.ids :: t.ids, whr := dput t.whr (lowN t.ids) c, s := upd t.s c ((t.s c).add (lowN t.ids) due) }
theorem TSim.arm (h : TSim t A) {c : Nat} (hc : c < A.n) {due : Int} (hd : tickOk due) (hf : lowN t.ids ≤ 48) : TSim (t.arm c due) (A.put c (insL (A.L c) (lowN t.ids) due.toNat)) := by
  have hlow := (lowN_spec t.ids).1
  have hno := h.lowNone
  have hp := dput_get h.nodup (lowN t.ids : Int) c
  have hr := h.radd hc hno hd
  have hi := insL_get (h.sim c hc).nodup (not_key (h.none_of hno hc)) due.toNat
  refine ⟨h.n, h.n1, h.n2, ⟨by omega, by omega, List.nodup_cons.2 ⟨hlow.2.1, h.slot.nodup⟩, fun n hn => ?_⟩, hp.1, fun c' hc' => ?_, fun c' hc' => ?_, fun id c' => ?_, fun id => ?_⟩
  · rcases List.mem_cons.1 hn with rfl | hn
    · exact ⟨hlow.1, hf⟩
    · exact h.slot.bd n hn
  · show Sim (upd t.s c _ c') (upd A.L c _ c')
    by_cases e : c' = c
    · subst e
      rw [upd_same, upd_same, ← hr]
      exact (h.sim c' hc).add (smallI (by omega)) due
    · rw [upd_ne _ _ e, upd_ne _ _ e]; exact h.sim c' hc'
  · show (upd t.s c _ c').now = A.now
    by_cases e : c' = c
    · subst e; rw [upd_same, sadd_now]; exact h.now c' hc
    · rw [upd_ne _ _ e]; exact h.now c' hc'
  · show dget (dput t.whr _ c) id = some c' ↔ c' < A.n ∧ (dget (upd A.L c _ c') id).isSome = true
    rw [hp.2 id]
    by_cases ei : id = (lowN t.ids : Int)
    · subst ei
      rw [if_pos rfl]
      by_cases e : c' = c
      · subst e; rw [upd_same, hi]; simp [hc]
      · rw [upd_ne _ _ e]
        constructor
        · intro h1; simp at h1; exact absurd h1.symm e
        · rintro ⟨h1, h2⟩; rw [h.none_of hno h1] at h2; cases h2
    · rw [if_neg ei, h.whr]
      by_cases e : c' = c
      · subst e; rw [upd_same, hi, if_neg ei]
      · rw [upd_ne _ _ e]
  · show (dget (dput t.whr _ c) id).isSome = true ↔ 1 ≤ id ∧ id.toNat ∈ lowN t.ids :: t.ids
    rw [hp.2 id, List.mem_cons]
    by_cases ei : id = (lowN t.ids : Int)
    · subst ei
      have := hlow.1
      simp; omega
    · rw [if_neg ei, h.ids]
      constructor
      · rintro ⟨h1, h2⟩; exact ⟨h1, .inr h2⟩
      · rintro ⟨h1, h2 | h2⟩
        · exact absurd (by omega) ei
        · exact ⟨h1, h2⟩
def TS.cancel (t : TS) (c : Nat) (id : Int) : TS := { t with ids := t.ids.erase id.toNat, whr := ddel t.whr id, s := upd t.s c ((t.s c).drop id) }
theorem TSim.dropE (h : TSim t A) {c : Nat} {id : Int} (hid : dget t.whr id = some c) : (t.s c).dropE id = 0 ∧ (dget (t.s c).dues id).isSome = true := by
  obtain ⟨hc, h1⟩ := (h.whr id c).1 hid
  have h2 : (dget (t.s c).dues id).isSome = true := by rw [← (h.sim c hc).get]; exact h1
  exact ⟨if_pos h2, h2⟩
theorem TSim.mem (h : TSim t A) {c : Nat} {id : Int} (hid : dget t.whr id = some c) : 1 ≤ id ∧ id.toNat ∈ t.ids := (h.ids id).1 (by rw [hid]; rfl)
theorem TSim.cancel (h : TSim t A) {c : Nat} {id : Int} (hid : dget t.whr id = some c) : TSim (t.cancel c id) (A.put c (ddel (A.L c) id)) := by
  obtain ⟨hc, h1⟩ := (h.whr id c).1 hid
  obtain ⟨hi1, hi2⟩ := h.mem hid
  have hp := ddel_get h.nodup id
  have hl := ddel_get (h.sim c hc).nodup id
  refine ⟨h.n, h.n1, h.n2, ⟨by omega, by omega, h.slot.nodup.erase _, fun n hn => h.slot.bd n (List.mem_of_mem_erase hn)⟩, hp.1, fun c' hc' => ?_, fun c' hc' => ?_, fun j c' => ?_, fun j => ?_⟩
  · show Sim (upd t.s c _ c') (upd A.L c _ c')
    by_cases e : c' = c
    · subst e
      rw [upd_same, upd_same]
      exact (h.sim c' hc).drop id
    · rw [upd_ne _ _ e, upd_ne _ _ e]; exact h.sim c' hc'
  · show (upd t.s c _ c').now = A.now
    by_cases e : c' = c
    · subst e; rw [upd_same, sdrop_now]; exact h.now c' hc
    · rw [upd_ne _ _ e]; exact h.now c' hc'
  · show dget (ddel t.whr id) j = some c' ↔ c' < A.n ∧ (dget (upd A.L c _ c') j).isSome = true
    rw [hp.2 j]
    by_cases ei : j = id
    · subst ei
      rw [if_pos rfl]
      by_cases e : c' = c
      · subst e; rw [upd_same, hl.2]; simp
      · rw [upd_ne _ _ e]
        constructor
        · intro h1; cases h1
        · rintro ⟨h2, h3⟩
          have := (h.whr j c').2 ⟨h2, h3⟩
          rw [hid] at this
          simp at this
          exact absurd this.symm e
    · rw [if_neg ei, h.whr]
      by_cases e : c' = c
      · subst e; rw [upd_same, hl.2, if_neg ei]
      · rw [upd_ne _ _ e]
  · show (dget (ddel t.whr id) j).isSome = true ↔ 1 ≤ j ∧ j.toNat ∈ t.ids.erase id.toNat
    rw [hp.2 j, h.slot.nodup.mem_erase_iff]
    by_cases ei : j = id
    · subst ei; simp
    · rw [if_neg ei, h.ids]
      constructor
      · rintro ⟨h1, h2⟩; exact ⟨h1, by omega, h2⟩
      · rintro ⟨h1, h2, h3⟩; exact ⟨h1, h3⟩
def TS.go (t : TS) (T : Int) : TS := { t with s := fun c => if c < t.n then (t.s c).go T else t.s c }
theorem TSim.go (h : TSim t A) (T : Int) : TSim (t.go T) (A.go T) := by
  refine ⟨h.n, h.n1, h.n2, h.slot, h.nodup, fun c hc => ?_, fun c hc => ?_, h.whr, h.ids⟩
  · show Sim (if c < t.n then (t.s c).go T else t.s c) (A.L c)
    rw [if_pos (by rw [h.n]; exact hc)]
    exact (h.sim c hc).go T
  · show (if c < t.n then (t.s c).go T else t.s c).now = rgo A.now T
    rw [if_pos (by rw [h.n]; exact hc), (h.sim c hc).goNow, h.now c hc]
def TS.move (t : TS) (c d : Nat) (id : Int) (due : Nat) : TS := { t with whr := dput t.whr id d, s := upd (upd t.s c ((t.s c).drop id)) d ((t.s d).add id due) }
theorem TSim.move (h : TSim t A) {c d : Nat} (hd : d < A.n) (hcd : c ≠ d) {id : Int} (hid : dget t.whr id = some c) {due : Nat} (hdue : tickOk due) : TSim (t.move c d id due) ((A.put c (ddel (A.L c) id)).put d (insL (A.L d) id due)) := by
  obtain ⟨hc, h1⟩ := (h.whr id c).1 hid
  obtain ⟨hi1, hi2⟩ := h.mem hid
  have hp := dput_get h.nodup id d
  have hl := ddel_get (h.sim c hc).nodup id
  have hnd : dget (A.L d) id = none := by
    cases hx : dget (A.L d) id with
    | none => rfl
    | some v =>
      have := (h.whr id d).2 ⟨hd, by rw [hx]; rfl⟩
      rw [hid] at this
      simp at this
      exact absurd this hcd
  have hi := insL_get (h.sim d hd).nodup (not_key hnd) due
  have hr : Go.Proofs.YthieionajemjhaaDoor.radd (A.L d) id due = insL (A.L d) id due := by
    unfold Go.Proofs.YthieionajemjhaaDoor.radd raddE
    rw [if_pos (by rw [if_neg (by simpa using hdue), hnd]; rfl)]
    rfl
  refine ⟨h.n, h.n1, h.n2, h.slot, hp.1, fun c' hc' => ?_, fun c' hc' => ?_, fun j c' => ?_, fun j => ?_⟩
  · show Sim (upd (upd t.s c _) d _ c') (upd (upd A.L c _) d _ c')
    by_cases e : c' = d
    · subst e
      rw [upd_same, upd_same, ← hr]
      exact (h.sim c' hd).add (by have := h.slot.bd _ hi2; have := smallI (n := id.toNat) (by omega); rwa [show ((id.toNat : Nat) : Int) = id by omega] at this) due
    · rw [upd_ne _ _ e, upd_ne _ _ e]
      by_cases e2 : c' = c
      · subst e2
        rw [upd_same, upd_same]
        exact (h.sim c' hc).drop id
      · rw [upd_ne _ _ e2, upd_ne _ _ e2]; exact h.sim c' hc'
  · show (upd (upd t.s c _) d _ c').now = A.now
    by_cases e : c' = d
    · subst e; rw [upd_same, sadd_now]; exact h.now c' hd
    · rw [upd_ne _ _ e]
      by_cases e2 : c' = c
      · subst e2; rw [upd_same, sdrop_now]; exact h.now c' hc
      · rw [upd_ne _ _ e2]; exact h.now c' hc'
  · show dget (dput t.whr id d) j = some c' ↔ c' < A.n ∧ (dget (upd (upd A.L c _) d _ c') j).isSome = true
    rw [hp.2 j]
    by_cases ei : j = id
    · subst ei
      rw [if_pos rfl]
      by_cases e : c' = d
      · subst e; rw [upd_same, hi]; simp [hd]
      · rw [upd_ne _ _ e]
        constructor
        · intro h1; simp at h1; exact absurd h1.symm e
        · rintro ⟨h2, h3⟩
          by_cases e2 : c' = c
          · subst e2; rw [upd_same, hl.2] at h3; simp at h3
          · rw [upd_ne _ _ e2] at h3
            have := (h.whr j c').2 ⟨h2, h3⟩
            rw [hid] at this
            simp at this
            exact absurd this.symm e2
    · rw [if_neg ei, h.whr]
      by_cases e : c' = d
      · subst e; rw [upd_same, hi, if_neg ei]
      · rw [upd_ne _ _ e]
        by_cases e2 : c' = c
        · subst e2; rw [upd_same, hl.2, if_neg ei]
        · rw [upd_ne _ _ e2]
  · show (dget (dput t.whr id d) j).isSome = true ↔ 1 ≤ j ∧ j.toNat ∈ t.ids
    rw [hp.2 j]
    by_cases ei : j = id
    · subst ei; simp [hi1, hi2]
    · rw [if_neg ei, h.ids]
end
end Go.Proofs.YthieionajemjhaaDoor
