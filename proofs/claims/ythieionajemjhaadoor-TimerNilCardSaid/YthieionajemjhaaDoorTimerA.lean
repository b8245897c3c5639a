/- Timers on cores, in plain words: what each core has, in order; what is done to it; when a table, a map and wheels hold the same. No program in sight but the words of the wheels' law. -/
import Derived.Test.YthieionajemjhaaDoorSlot
import Derived.Test.YthieionajemjhaaDoorWheelLaw
namespace Go.Proofs.YthieionajemjhaaDoor
set_option linter.unusedVariables false
set_option linter.unusedSimpArgs false
open Go.RowKit

structure TA where
  n : Nat
  now : Nat
  L : Nat → List (Int × Nat)
def TA.is (A : TA) (cpu : Int) : Prop := 0 ≤ cpu ∧ cpu < A.n
instance (A : TA) (cpu : Int) : Decidable (A.is cpu) := by unfold TA.is; infer_instance
def TA.whr (A : TA) (id : Int) : Option Nat := (List.range A.n).find? fun c => (dget (A.L c) id).isSome
def TA.keys (A : TA) : List Nat := (List.range A.n).flatMap fun c => (A.L c).map fun p => p.1.toNat
def TA.low (A : TA) : Nat := lowN A.keys
def TA.armE (A : TA) (cpu due : Int) : Int := if ¬ A.is cpu then 3 else if ¬ tickOk due then 2 else if 48 < A.low then 5 else 0
def TA.armV (A : TA) (cpu due : Int) : Int := if A.armE cpu due = 0 then A.low else 0
def TA.put (A : TA) (c : Nat) (l : List (Int × Nat)) : TA := { A with L := upd A.L c l }
def TA.arm (A : TA) (cpu due : Int) : TA := if A.armE cpu due = 0 then A.put cpu.toNat (insL (A.L cpu.toNat) A.low due.toNat) else A
def TA.cancelE (A : TA) (id : Int) : Int := if (A.whr id).isSome then 0 else 4
def TA.cancel (A : TA) (id : Int) : TA := match A.whr id with | some c => A.put c (ddel (A.L c) id) | none => A
def TA.goE (A : TA) (t : Int) : Int := rgoE A.now t
def TA.go (A : TA) (t : Int) : TA := { A with now := rgo A.now t }
def TA.due (A : TA) (cpu : Int) : List (Int × Nat) := dueL A.now (A.L cpu.toNat)
def TA.fireE (A : TA) (cpu : Int) : Int := if ¬ A.is cpu then 3 else if A.due cpu = [] then 12 else 0
def TA.fireV (A : TA) (cpu : Int) : Int := if A.fireE cpu = 0 then (nthP (A.due cpu) 0).1 else 0
def TA.fire (A : TA) (cpu : Int) : TA := if A.fireE cpu = 0 then A.put cpu.toNat (ddel (A.L cpu.toNat) (A.fireV cpu)) else A
def TA.ready (A : TA) (cpu : Int) : Bool := decide (A.is cpu) && !(A.due cpu).isEmpty
def TA.nextE (A : TA) (cpu : Int) : Int := if ¬ A.is cpu then 3 else rnextE (A.L cpu.toNat)
def TA.nextV (A : TA) (cpu : Int) : Int := if ¬ A.is cpu then 0 else (rnextV (A.L cpu.toNat) : Nat)
def TA.whereV (A : TA) (id : Int) : Int := ((A.whr id).getD 0 : Nat)
def TA.whenV (A : TA) (id : Int) : Int := match A.whr id with | some c => ((dget (A.L c) id).getD 0 : Nat) | none => 0
def TA.list (A : TA) (cpu : Int) : List Int := if A.is cpu then idsOf (A.L cpu.toNat) else []
def TA.moveE (A : TA) (c d : Int) : Int := if ¬ A.is c ∨ ¬ A.is d then 3 else if c = d then 2 else if A.L c.toNat = [] then 12 else 0
def TA.moveV (A : TA) (c d : Int) : Int := if A.moveE c d = 0 then (nthP (A.L c.toNat) 0).1 else 0
def TA.move (A : TA) (c d : Int) : TA :=
  if A.moveE c d = 0 then (A.put c.toNat (ddel (A.L c.toNat) (A.moveV c d))).put d.toNat (insL (A.L d.toNat) (A.moveV c d) (nthP (A.L c.toNat) 0).2) else A

/-- What the program's timers hold. -/
structure TS where
  n : Nat
  ids : List Nat
  whr : List (Int × Nat)
  s : Nat → SW
structure TSim (t : TS) (A : TA) : Prop where
  n : t.n = A.n
  n1 : 1 ≤ A.n
  n2 : A.n ≤ 64
  slot : SlotOk 48 t.ids
  nodup : (t.whr.map (·.1)).Nodup
  sim : ∀ c, c < A.n → Sim (t.s c) (A.L c)
  now : ∀ c, c < A.n → (t.s c).now = A.now
  whr : ∀ id c, dget t.whr id = some c ↔ c < A.n ∧ (dget (A.L c) id).isSome = true
  ids : ∀ id : Int, (dget t.whr id).isSome = true ↔ 1 ≤ id ∧ id.toNat ∈ t.ids
section
variable {t : TS} {A : TA}
theorem TSim.whrE (h : TSim t A) (id : Int) : A.whr id = dget t.whr id := by
  unfold TA.whr
  cases hw : dget t.whr id with
  | none =>
    rw [List.find?_eq_none]
    intro c hc hs
    have := (h.whr id c).2 ⟨List.mem_range.1 hc, by simpa using hs⟩
    rw [hw] at this
    cases this
  | some c =>
    obtain ⟨h1, h2⟩ := (h.whr id c).1 hw
    cases hf : (List.range A.n).find? fun c => (dget (A.L c) id).isSome with
    | none =>
      have := List.find?_eq_none.1 hf c (List.mem_range.2 h1)
      rw [h2] at this
      exact absurd rfl this
    | some c' =>
      have h3 := List.find?_some hf
      have h4 := List.mem_range.1 (List.mem_of_find?_eq_some hf)
      have := (h.whr id c').2 ⟨h4, by simpa using h3⟩
      rw [hw] at this
      exact this.symm
theorem TSim.keys (h : TSim t A) (m : Nat) (hm : 1 ≤ m) : m ∈ A.keys ↔ m ∈ t.ids := by
  unfold TA.keys
  simp only [List.mem_flatMap, List.mem_range, List.mem_map]
  constructor
  · rintro ⟨c, hc, p, hp, rfl⟩
    have h1 : (dget (A.L c) p.1).isSome = true := by rw [dget_of_mem (h.sim c hc).nodup (i := p.1) (v := p.2) hp]; rfl
    have h2 := (h.whr p.1 c).2 ⟨hc, h1⟩
    exact ((h.ids p.1).1 (by rw [h2]; rfl)).2
  · intro hm2
    have h1 := (h.ids (m : Int)).2 ⟨by omega, by simpa using hm2⟩
    obtain ⟨c, hc⟩ := Option.isSome_iff_exists.1 h1
    obtain ⟨h2, h3⟩ := (h.whr _ c).1 hc
    obtain ⟨v, hv⟩ := Option.isSome_iff_exists.1 h3
    exact ⟨c, h2, _, dget_mem hv, by simp⟩
theorem isLow_congr {l m : List Nat} (h : ∀ k, 1 ≤ k → (k ∈ l ↔ k ∈ m)) {n : Nat} (hl : IsLow l n) : IsLow m n :=
  ⟨hl.1, fun hn => hl.2.1 ((h n hl.1).2 hn), fun k hk hlt => (h k hk).1 (hl.2.2 k hk hlt)⟩
theorem TSim.low (h : TSim t A) : A.low = lowN t.ids :=
  (isLow_congr (fun k hk => h.keys k hk) (lowN_spec A.keys).1).unique (lowN_spec t.ids).1
theorem TSim.full (h : TSim t A) : t.ids.length = 48 ↔ 48 < A.low := by
  rw [h.low]
  obtain ⟨h1, h2⟩ := lowN_spec t.ids
  have hlen := h.slot.len
  constructor
  · intro hl
    have h3 : ∀ m, 1 ≤ m → m ≤ 48 → m ∈ t.ids := by
      intro m hm hm2
      apply Classical.byContradiction
      intro hn
      have := sub_len (m :: t.ids) ((List.range 48).map (· + 1)) (List.nodup_cons.2 ⟨hn, h.slot.nodup⟩) (fun x hx => by
        have hb : 1 ≤ x ∧ x ≤ 48 := by
          rcases List.mem_cons.1 hx with rfl | hx
          · exact ⟨hm, hm2⟩
          · exact h.slot.bd x hx
        exact List.mem_map.2 ⟨x - 1, List.mem_range.2 (by omega), by omega⟩)
      simp at this
      omega
    apply Classical.byContradiction
    intro hle
    exact h1.2.1 (h3 _ h1.1 (by omega))
  · intro hl
    have := sub_len ((List.range 48).map (· + 1)) t.ids (by
      refine List.Pairwise.map _ (fun a b hab h => hab (by omega)) (List.nodup_range)) (fun x hx => by
      obtain ⟨k, hk, rfl⟩ := List.mem_map.1 hx
      exact h1.2.2 (k + 1) (by omega) (by have := List.mem_range.1 hk; omega))
    simp at this
    omega
theorem TSim.lt (h : TSim t A) {id : Int} {c : Nat} (hw : dget t.whr id = some c) : c < A.n := ((h.whr id c).1 hw).1
/-- A core has no more than there are numbers. -/
theorem TSim.len (h : TSim t A) {c : Nat} (hc : c < A.n) : (A.L c).length ≤ 48 := by
  have := sub_len ((A.L c).map fun p => p.1.toNat) t.ids (by
    have hn := (h.sim c hc).nodup
    rw [List.Nodup, List.pairwise_map] at hn ⊢
    have hall : ∀ p, p ∈ A.L c → 1 ≤ p.1 := by
      intro p hp
      have h1 : (dget (A.L c) p.1).isSome = true := by rw [dget_of_mem (h.sim c hc).nodup (i := p.1) (v := p.2) hp]; rfl
      exact ((h.ids p.1).1 (by rw [(h.whr p.1 c).2 ⟨hc, h1⟩]; rfl)).1
    refine List.Pairwise.imp_of_mem (fun {a b} ha hb hab => ?_) hn
    have := hall a ha
    have := hall b hb
    omega) (fun x hx => by
    obtain ⟨p, hp, rfl⟩ := List.mem_map.1 hx
    have h1 : (dget (A.L c) p.1).isSome = true := by rw [dget_of_mem (h.sim c hc).nodup (i := p.1) (v := p.2) hp]; rfl
    exact ((h.ids p.1).1 (by rw [(h.whr p.1 c).2 ⟨hc, h1⟩]; rfl)).2)
  have := h.slot.len
  simp at *
  omega
theorem TSim.dues (h : TSim t A) {c : Nat} (hc : c < A.n) : (t.s c).dues.length ≤ 48 := by
  have := h.len hc
  rwa [(h.sim c hc).len] at this
end
/-- Entries of maps of numbers. -/
theorem dget_cons (p : Int × Nat) (m : List (Int × Nat)) (i : Int) : dget (p :: m) i = if i = p.1 then some p.2 else dget m i := by
  have hsh : ∀ (m : List (Int × Nat)) (j k : Nat), (dfind m i j).map (·.2) = (dfind m i k).map (·.2) := by
    intro m
    induction m with
    | nil => intro j k; rfl
    | cons q m ih =>
      intro j k
      unfold dfind
      split
      · rfl
      · exact ih _ _
  unfold dget
  rw [dfind]
  split
  · rfl
  · exact hsh m _ _
theorem dget_nil (i : Int) : dget [] i = none := rfl
theorem dget_append (l m : List (Int × Nat)) (i : Int) : dget (l ++ m) i = (dget l i).or (dget m i) := by
  induction l with
  | nil => simp [dget_nil]
  | cons p l ih =>
    rw [List.cons_append, dget_cons, dget_cons, ih]
    split <;> simp
theorem dget_isSome {m : List (Int × Nat)} {i : Int} : (dget m i).isSome = true ↔ i ∈ m.map (·.1) := by
  induction m with
  | nil => simp [dget_nil]
  | cons p m ih =>
    rw [dget_cons, List.map_cons, List.mem_cons]
    by_cases e : i = p.1
    · simp [e]
    · rw [if_neg e, ih]; simp [e]
theorem dput_get {m : List (Int × Nat)} (hn : (m.map (·.1)).Nodup) (i : Int) (v : Nat) : ((dput m i v).map (·.1)).Nodup ∧ ∀ j, dget (dput m i v) j = if j = i then some v else dget m j := by
  unfold dput
  cases hd : dfind m i 0 with
  | none =>
    have hni := dfind_none hd
    refine ⟨?_, fun j => ?_⟩
    · simp only [List.map_append, List.map_cons, List.map_nil]
      exact List.nodup_append.2 ⟨hn, by simp, by rintro x hx y hy rfl; simp at hy; exact hni (hy ▸ hx)⟩
    · simp only
      rw [dget_append, dget_cons, dget_nil]
      by_cases e : j = i
      · subst e
        have : dget m j = none := by unfold dget; rw [hd]; rfl
        simp [this]
      · simp [e]
  | some q =>
    obtain ⟨k, u⟩ := q
    have hk := dfind_lt hd
    have hm : m[k]? = some (i, u) := by
      have h2 : mfind (duesV m) i 0 = some (k, .int .i64 (u : Nat)) := by rw [mfind_dues, hd]; rfl
      have h3 := mfind_some h2
      unfold duesV at h3
      rw [List.getElem?_map] at h3
      cases hmk : m[k]? with
      | none => rw [hmk] at h3; simp at h3
      | some p =>
        rw [hmk] at h3
        simp only [Option.map_some, Option.some.injEq, Prod.mk.injEq, Value.int.injEq, true_and] at h3
        obtain ⟨a, b⟩ := p
        simp only at h3
        obtain ⟨rfl, h3⟩ := h3
        have : b = u := by omega
        rw [this]
    have hkeys : (m.set k (i, v)).map (·.1) = m.map (·.1) := by
      apply List.ext_getElem?
      intro j
      simp only [List.getElem?_map, List.getElem?_set]
      by_cases e : k = j
      · subst e; simp [hk, (List.getElem?_eq_some_iff.1 hm).2]
      · simp [e]
    refine ⟨by simp only; rw [hkeys]; exact hn, fun j => ?_⟩
    simp only
    have hn2 : ((m.set k (i, v)).map (·.1)).Nodup := by rw [hkeys]; exact hn
    by_cases e : j = i
    · subst e
      rw [if_pos rfl]
      exact dget_of_mem hn2 (List.mem_iff_getElem?.2 ⟨k, by rw [List.getElem?_set]; simp [hk]⟩)
    · rw [if_neg e]
      apply Option.ext
      intro x
      rw [dget_iff hn2, dget_iff hn, List.mem_iff_getElem?, List.mem_iff_getElem?]
      constructor
      · rintro ⟨q, hq⟩
        rw [List.getElem?_set] at hq
        by_cases e2 : k = q
        · subst e2
          simp [hk] at hq
          exact absurd hq.1.symm e
        · rw [if_neg e2] at hq
          exact ⟨q, hq⟩
      · rintro ⟨q, hq⟩
        refine ⟨q, ?_⟩
        rw [List.getElem?_set]
        by_cases e2 : k = q
        · subst e2
          rw [hm] at hq
          simp at hq
          exact absurd hq.1.symm e
        · rw [if_neg e2]
          exact hq
theorem ddel_get {m : List (Int × Nat)} (hn : (m.map (·.1)).Nodup) (i : Int) : ((ddel m i).map (·.1)).Nodup ∧ ∀ j, dget (ddel m i) j = if j = i then none else dget m j := by
  rw [ddel_eq i hn]
  have hn2 : ((m.filter (fun p => !decide (p.1 = i))).map (·.1)).Nodup := (List.filter_sublist.map _).nodup hn
  refine ⟨hn2, fun j => ?_⟩
  by_cases e : j = i
  · subst e
    rw [if_pos rfl]
    cases hd : dget (m.filter (fun p => !decide (p.1 = j))) j with
    | none => rfl
    | some v =>
      have := (dget_iff hn2 j v).1 hd
      simp at this
  · rw [if_neg e]
    apply Option.ext
    intro x
    rw [dget_iff hn2, dget_iff hn, List.mem_filter]
    simp [e]
theorem insL_get {L : List (Int × Nat)} (hn : (L.map (·.1)).Nodup) {id : Int} (hid : id ∉ L.map (·.1)) (due : Nat) : ∀ j, dget (insL L id due) j = if j = id then some due else dget L j := by
  intro j
  have hp := insL_perm L id due
  have hn2 : ((L ++ [(id, due)]).map (·.1)).Nodup := by
    simp only [List.map_append, List.map_cons, List.map_nil]
    exact List.nodup_append.2 ⟨hn, by simp, by rintro x hx y hy rfl; simp at hy; exact hid (hy ▸ hx)⟩
  rw [dget_perm hp hn2, dget_append, dget_cons, dget_nil]
  by_cases e : j = id
  · subst e
    have : dget L j = none := by
      cases hd : dget L j with
      | none => rfl
      | some v => exact absurd (dget_isSome.1 (by rw [hd]; rfl)) hid
    simp [this]
  · simp [e]
end Go.Proofs.YthieionajemjhaaDoor
