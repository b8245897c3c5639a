/- The walks over package hot: what each method returns and writes, for every desk that calls can have turned. -/
import Derived.Test.YtbelcmiljjndaaaStage
import Derived.Test.YtbelcmiljjndaaaMap
namespace Go.Proofs.Ytbelcmiljjndaaa
set_option linter.unusedVariables false
set_option linter.unusedSimpArgs false
open Go.RowKit

structure SH where
  run : Option SRun
  up : Bool
  cpu : Int
  by_ : Int
  told : Bool
  plan : List Int
structure SH.ok (s : SH) : Prop where
  nd : s.plan.Nodup
  rg : ∀ i, i ∈ s.plan → 0 ≤ i ∧ i < 10
  r : ∀ r, s.run = some r → r.ok
  none : s.run = none → s.up = false ∧ s.cpu = 0 ∧ s.by_ = 0
def SH.over (s : SH) : Bool := match s.run with | none => false | some r => r.over
def SH.mayE (s : SH) : Int := match s.run with | none => 12 | some r => if r.over then 6 else 0
def planE (k : Int) : Int := if 0 ≤ k ∧ k < 10 then 0 else 3
def SH.doPlan (s : SH) (k : Int) : SH := if 0 ≤ k ∧ k < 10 ∧ k ∉ s.plan then { s with plan := s.plan ++ [k] } else s
def isCore (c : Int) : Prop := 0 ≤ c ∧ c < 64
instance (c : Int) : Decidable (isCore c) := by unfold isCore; infer_instance
def SH.beginE (s : SH) (cpu by_ : Int) : Int := if s.run.isSome then 7 else if ¬ isCore cpu ∨ ¬ isCore by_ then 3 else if cpu = by_ then 2 else 0
def SH.begin_ (s : SH) (up : Bool) (cpu by_ : Int) : SH := if s.beginE cpu by_ = 0 then { s with run := some ⟨if up then 4 else 10, 0, false⟩, up := up, cpu := cpu, by_ := by_, told := false } else s
def SH.failsNow (s : SH) (r : SRun) : Bool := !r.back && !s.told && decide (r.k ∈ s.plan)
def SH.step (s : SH) : Value := match s.run with
  | none => .agg #[.int .i64 0, .bool false, .bool false]
  | some r => if r.over then .agg #[.int .i64 0, .bool false, .bool false] else .agg #[.int .i64 r.k, .bool r.back, .bool (s.failsNow r)]
def SH.next (s : SH) : SH := match s.run with
  | none => s
  | some r => if r.over then s else if s.failsNow r then { s with run := some r.fail, told := true, plan := s.plan.erase r.k } else { s with told := true }
def SH.done (s : SH) : SH := match s.run with
  | none => s
  | some r => if r.over then s else { s with run := some r.done, told := false }
def SH.endE (s : SH) : Int := match s.run with | none => 12 | some r => if r.over then 0 else 6
def SH.endV (s : SH) : Int := match s.run with | none => 0 | some r => if r.over then r.why else 0
def SH.end_ (s : SH) : SH := match s.run with | none => s | some r => if r.over then { s with run := none, up := false, cpu := 0, by_ := 0, told := s.told } else s

theorem SH.doPlan_ok {s : SH} (h : s.ok) (k : Int) : (s.doPlan k).ok := by
  unfold SH.doPlan
  split
  · rename_i e
    refine ⟨?_, ?_, h.r, h.none⟩
    · refine List.nodup_append.2 ⟨h.nd, by simp, ?_⟩
      intro a ha b hb
      simp only [List.mem_singleton] at hb
      subst hb
      exact fun q => e.2.2 (q ▸ ha)
    · intro i hi
      simp only [List.mem_append, List.mem_singleton] at hi
      rcases hi with hi | rfl
      · exact h.rg i hi
      · exact ⟨e.1, e.2.1⟩
  · exact h
theorem SH.begin_ok {s : SH} (h : s.ok) (up : Bool) (cpu by_ : Int) : (s.begin_ up cpu by_).ok := by
  unfold SH.begin_
  split
  · refine ⟨h.nd, h.rg, ?_, by simp⟩
    intro r hr
    simp only [Option.some.injEq] at hr
    subst hr
    cases up <;> simp [SRun.ok]
  · exact h
theorem SH.next_ok {s : SH} (h : s.ok) : s.next.ok := by
  unfold SH.next
  split
  · exact h
  · rename_i r hr
    split
    · exact h
    · split
      · refine ⟨h.nd.erase _, fun i hi => h.rg i (List.mem_of_mem_erase hi), ?_, by simp⟩
        intro r' hr'
        simp only [Option.some.injEq] at hr'
        subst hr'
        exact SRun.fail_ok (h.r r hr)
      · exact ⟨h.nd, h.rg, h.r, h.none⟩
theorem SH.done_ok {s : SH} (h : s.ok) : s.done.ok := by
  unfold SH.done
  split
  · exact h
  · rename_i r hr
    split
    · exact h
    · refine ⟨h.nd, h.rg, ?_, by simp⟩
      intro r' hr'
      simp only [Option.some.injEq] at hr'
      subst hr'
      exact SRun.done_ok (h.r r hr)
theorem SH.end_ok {s : SH} (h : s.ok) : s.end_.ok := by
  unfold SH.end_
  split
  · exact h
  · split
    · exact ⟨h.nd, h.rg, by simp, by simp⟩
    · exact h

/-- The entries of what is planned. -/
def planM (l : List Int) : List (Int × Value) := l.map fun i => (i, .bool true)
theorem planM_find : ∀ (l : List Int) (i : Int), mfind (planM l) i 0 = if i ∈ l then some (l.idxOf i, .bool true) else none
  | [], i => by simp [planM, mfind]
  | a :: l, i => by
    simp only [planM, List.map_cons]
    unfold mfind
    by_cases e : i = a
    · simp [e]
    · simp only [e, if_false]
      rw [mfind_shift]
      have := planM_find l i
      unfold planM at this
      rw [this]
      by_cases h : i ∈ l
      · have e2 : (a == i) = false := by simpa using Ne.symm e
        simp [h, e, List.idxOf_cons, e2]
      · simp [h, e]
theorem planM_get (l : List Int) (i : Int) : (mget (planM l) i).getD (.bool false) = .bool (decide (i ∈ l)) := by
  unfold mget
  rw [planM_find]
  by_cases h : i ∈ l <;> simp [h]
theorem planM_put (l : List Int) (i : Int) : mput (planM l) i (.bool true) = planM (if i ∈ l then l else l ++ [i]) := by
  unfold mput
  rw [planM_find]
  by_cases h : i ∈ l
  · simp only [h, if_true]
    unfold planM
    apply List.ext_getElem?
    intro j
    rw [List.getElem?_set]
    split
    · rename_i e
      subst e
      have hl := List.idxOf_lt_length_iff.2 h
      simp [hl]
    · rfl
  · simp [h, planM]
theorem planM_del (l : List Int) (i : Int) : mdel (planM l) i = planM (l.erase i) := by
  unfold mdel
  rw [planM_find]
  by_cases h : i ∈ l
  · simp only [h, if_true]
    unfold planM
    rw [← mapErase]
    congr 1
    exact (List.erase_eq_eraseIdx_of_idxOf rfl).symm
  · simp only [h, if_false]
    rw [List.erase_of_not_mem h]

theorem XRun.same {w w' : World} {b : Nat} {s : SRun} (h : XRun w b s) (e : w'.heap = w.heap) : XRun w' b s := ⟨by rw [e]; exact h.1, h.2⟩
def ReqAt (w : World) : Option (Nat × Nat) → SH → Prop
  | none, s => s.run = none
  | some (a, b), s => ∃ r, s.run = some r ∧ w.heap[a]? = some (.cells #[.pointer (some ⟨b, 0, none⟩), .bool s.up, .int .i64 s.cpu, .int .i64 s.by_, .bool s.told] 99 (0,0)) ∧ XRun w b r ∧ a ≠ b
def PlanAt (w : World) : Option Nat → List Int → Prop
  | none, l => l = []
  | some b, l => MapAt .i64 w b (planM l)
def qF : Option (Nat × Nat) → List Nat
  | none => []
  | some (a, b) => [a, b]
def pF : Option Nat → List Nat
  | none => []
  | some b => [b]
def qP : Option (Nat × Nat) → Option Addr
  | none => none
  | some (a, b) => some ⟨a, 0, none⟩
theorem ReqAt.plan {w : World} {q : Option (Nat × Nat)} {s : SH} (h : ReqAt w q s) (l : List Int) : ReqAt w q { s with plan := l } := by rcases q with _ | ⟨a, b⟩ <;> exact h
/-- A desk at block d. -/
structure DeskAt (w : World) (d : Nat) (q : Option (Nat × Nat)) (pm : Option Nat) (s : SH) : Prop where
  hd : w.heap[d]? = some (.cells #[.pointer (qP q), .map pm] 27 (0,0))
  hq : ReqAt w q s
  hp : PlanAt w pm s.plan
  nq : d ∉ qF q
  np : d ∉ pF pm
  nn : ∀ k, k ∈ pF pm → k ∉ qF q
  ok : s.ok
theorem ReqAt.keep {S : List Nat} {w w' : World} {q : Option (Nat × Nat)} {s : SH} (h : ReqAt w q s) (m : Mod S w w') (hS : ∀ k, k ∈ qF q → k ∉ S) : ReqAt w' q s := by
  rcases q with _ | ⟨a, b⟩
  · exact h
  · obtain ⟨r, h1, h2, h3, h4⟩ := h
    exact ⟨r, h1, m.keep h2 (hS _ (by simp [qF])), h3.keep m (hS _ (by simp [qF])), h4⟩
theorem PlanAt.keep {S : List Nat} {w w' : World} {pm : Option Nat} {l : List Int} (h : PlanAt w pm l) (m : Mod S w w') (hS : ∀ k, k ∈ pF pm → k ∉ S) : PlanAt w' pm l := by
  cases pm with
  | none => exact h
  | some b => exact MapAt.keep h m (hS _ (by simp [pF]))
theorem DeskAt.keep {S : List Nat} {w w' : World} {d : Nat} {q : Option (Nat × Nat)} {pm : Option Nat} {s : SH} (h : DeskAt w d q pm s) (m : Mod S w w') (hS : ∀ k, k ∈ d :: (qF q ++ pF pm) → k ∉ S) : DeskAt w' d q pm s :=
  ⟨m.keep h.hd (hS _ (by simp)), h.hq.keep m (fun k hk => hS _ (by simp [hk])), h.hp.keep m (fun k hk => hS _ (by simp [hk])), h.nq, h.np, h.nn, h.ok⟩
theorem DeskAt.same {w w' : World} {d : Nat} {q : Option (Nat × Nat)} {pm : Option Nat} {s : SH} (h : DeskAt w d q pm s) (e : w'.heap = w.heap) : DeskAt w' d q pm s := by
  refine ⟨by rw [e]; exact h.hd, ?_, ?_, h.nq, h.np, h.nn, h.ok⟩
  · rcases q with _ | ⟨a, b⟩
    · exact h.hq
    · obtain ⟨r, h1, h2, h3, h4⟩ := h.hq
      exact ⟨r, h1, by rw [e]; exact h2, ⟨by rw [e]; exact h3.1, h3.2⟩, h4⟩
  · cases pm with
    | none => exact h.hp
    | some b => exact MapAt.same h.hp e
theorem DeskAt.lt {w : World} {d : Nat} {q : Option (Nat × Nat)} {pm : Option Nat} {s : SH} (h : DeskAt w d q pm s) : ∀ k, k ∈ d :: (qF q ++ pF pm) → k < w.heap.size := by
  intro k hk
  simp only [List.mem_cons, List.mem_append] at hk
  rcases hk with rfl | hk | hk
  · exact ltOf h.hd
  · rcases q with _ | ⟨a, b⟩
    · simp [qF] at hk
    · obtain ⟨r, h1, h2, h3, h4⟩ := h.hq
      simp [qF] at hk
      rcases hk with rfl | rfl
      · exact ltOf h2
      · exact ltOf h3.1
  · cases pm with
    | none => simp [pF] at hk
    | some b => simp [pF] at hk; subst hk; exact MapAt.lt h.hp

/-- A call that turned a desk: what it returned, and that the desk has no one else's blocks. -/
def DeskDo (d : Nat) (q : Option (Nat × Nat)) (pm : Option Nat) (v : Value) (s' : SH) (w : World) (e : Ending) (w' : World) : Prop :=
  ∃ q' pm', e = .returned v ∧ Mod (d :: (qF q ++ pF pm)) w w' ∧ DeskAt w' d q' pm' s' ∧ ∀ k, k ∈ qF q' ++ pF pm' → k ∈ qF q ++ pF pm ∨ w.heap.size ≤ k


theorem hot_Busy (d : Nat) (q : Option (Nat × Nat)) (pm : Option Nat) (s : SH) (w : World) (h : DeskAt w d q pm s) : Calls Try.prog 36 #[.pointer (some ⟨d, 0, none⟩)] w (Ret (.bool s.run.isSome) w) := by
  obtain ⟨hd, hq, hp, nq, np, nn, ok⟩ := h
  have c0 : w.cell? ⟨d, 0, none⟩ = some (.pointer (qP q)) := cellAt hd 0
  have c1 : w.cell? ⟨d, 1, none⟩ = some (.map pm) := cellAt hd 1
  have f0 : w.frozen? ⟨d, 0, none⟩ = false := freeAt hd 0
  have f1 : w.frozen? ⟨d, 1, none⟩ = false := freeAt hd 1
  rcases q with _ | ⟨qa, qb⟩
  · simp only [qP] at c0
    simp only [ReqAt] at hq
    go_enter Try.func36, Try.ntmps36
    go_wp2
    go_ret
    exact Ret.of (by simp [hq]) (by repeat (first | exact Drew.refl _ | apply Drew.drewN | apply Drew.drew))
  · obtain ⟨r, hr, ha, hx, hab⟩ := hq
    have a0 : w.cell? ⟨qa, 0, none⟩ = some (.pointer (some ⟨qb, 0, none⟩)) := cellAt ha 0
    have a1 : w.cell? ⟨qa, 1, none⟩ = some (.bool s.up) := cellAt ha 1
    have a2 : w.cell? ⟨qa, 2, none⟩ = some (.int .i64 s.cpu) := cellAt ha 2
    have a3 : w.cell? ⟨qa, 3, none⟩ = some (.int .i64 s.by_) := cellAt ha 3
    have a4 : w.cell? ⟨qa, 4, none⟩ = some (.bool s.told) := cellAt ha 4
    have g4 : w.frozen? ⟨qa, 4, none⟩ = false := freeAt ha 4
    simp only [qP] at c0
    go_enter Try.func36, Try.ntmps36
    go_wp2
    go_ret
    exact Ret.of (by simp [hr]) (by repeat (first | exact Drew.refl _ | apply Drew.drewN | apply Drew.drew))

theorem hot_Up (d : Nat) (q : Option (Nat × Nat)) (pm : Option Nat) (s : SH) (w : World) (h : DeskAt w d q pm s) : Calls Try.prog 37 #[.pointer (some ⟨d, 0, none⟩)] w (Ret (.bool s.up) w) := by
  have hB := hot_Busy d q pm s w h
  obtain ⟨hd, hq, hp, nq, np, nn, ok⟩ := h
  have c0 : w.cell? ⟨d, 0, none⟩ = some (.pointer (qP q)) := cellAt hd 0
  have c1 : w.cell? ⟨d, 1, none⟩ = some (.map pm) := cellAt hd 1
  have f0 : w.frozen? ⟨d, 0, none⟩ = false := freeAt hd 0
  have f1 : w.frozen? ⟨d, 1, none⟩ = false := freeAt hd 1
  rcases q with _ | ⟨qa, qb⟩
  · simp only [qP] at c0
    simp only [ReqAt] at hq
    obtain ⟨z1, z2, z3⟩ := ok.none hq
    rw [hq] at hB
    simp only [Option.isSome] at hB
    have Z1 := Lib.hid z1
    have Z2 := Lib.hid z2
    have Z3 := Lib.hid z3
    clear z1 z2 z3
    go_enter Try.func37, Try.ntmps37
    go_wp2_with (go_at_call 36; refine hB.mono ?_; rintro e w' ⟨rfl, k, rfl⟩)
    go_ret
    exact Ret.of (by simp [Z1.out, Z2.out, Z3.out]) (by repeat (first | exact Drew.refl _ | apply Drew.drewN | apply Drew.drew))
  · obtain ⟨r, hr, ha, hx, hab⟩ := hq
    have a0 : w.cell? ⟨qa, 0, none⟩ = some (.pointer (some ⟨qb, 0, none⟩)) := cellAt ha 0
    have a1 : w.cell? ⟨qa, 1, none⟩ = some (.bool s.up) := cellAt ha 1
    have a2 : w.cell? ⟨qa, 2, none⟩ = some (.int .i64 s.cpu) := cellAt ha 2
    have a3 : w.cell? ⟨qa, 3, none⟩ = some (.int .i64 s.by_) := cellAt ha 3
    have a4 : w.cell? ⟨qa, 4, none⟩ = some (.bool s.told) := cellAt ha 4
    have g4 : w.frozen? ⟨qa, 4, none⟩ = false := freeAt ha 4
    simp only [qP] at c0
    rw [hr] at hB
    simp only [Option.isSome] at hB
    go_enter Try.func37, Try.ntmps37
    go_wp2_with (go_at_call 36; refine hB.mono ?_; rintro e w' ⟨rfl, k, rfl⟩)
    go_ret
    exact Ret.of (rfl) (by repeat (first | exact Drew.refl _ | apply Drew.drewN | apply Drew.drew))
theorem hot_Cpu (d : Nat) (q : Option (Nat × Nat)) (pm : Option Nat) (s : SH) (w : World) (h : DeskAt w d q pm s) : Calls Try.prog 38 #[.pointer (some ⟨d, 0, none⟩)] w (Ret (.int .i64 s.cpu) w) := by
  have hB := hot_Busy d q pm s w h
  obtain ⟨hd, hq, hp, nq, np, nn, ok⟩ := h
  have c0 : w.cell? ⟨d, 0, none⟩ = some (.pointer (qP q)) := cellAt hd 0
  have c1 : w.cell? ⟨d, 1, none⟩ = some (.map pm) := cellAt hd 1
  have f0 : w.frozen? ⟨d, 0, none⟩ = false := freeAt hd 0
  have f1 : w.frozen? ⟨d, 1, none⟩ = false := freeAt hd 1
  rcases q with _ | ⟨qa, qb⟩
  · simp only [qP] at c0
    simp only [ReqAt] at hq
    obtain ⟨z1, z2, z3⟩ := ok.none hq
    rw [hq] at hB
    simp only [Option.isSome] at hB
    have Z1 := Lib.hid z1
    have Z2 := Lib.hid z2
    have Z3 := Lib.hid z3
    clear z1 z2 z3
    go_enter Try.func38, Try.ntmps38
    go_wp2_with (go_at_call 36; refine hB.mono ?_; rintro e w' ⟨rfl, k, rfl⟩)
    go_ret
    exact Ret.of (by simp [Z1.out, Z2.out, Z3.out]) (by repeat (first | exact Drew.refl _ | apply Drew.drewN | apply Drew.drew))
  · obtain ⟨r, hr, ha, hx, hab⟩ := hq
    have a0 : w.cell? ⟨qa, 0, none⟩ = some (.pointer (some ⟨qb, 0, none⟩)) := cellAt ha 0
    have a1 : w.cell? ⟨qa, 1, none⟩ = some (.bool s.up) := cellAt ha 1
    have a2 : w.cell? ⟨qa, 2, none⟩ = some (.int .i64 s.cpu) := cellAt ha 2
    have a3 : w.cell? ⟨qa, 3, none⟩ = some (.int .i64 s.by_) := cellAt ha 3
    have a4 : w.cell? ⟨qa, 4, none⟩ = some (.bool s.told) := cellAt ha 4
    have g4 : w.frozen? ⟨qa, 4, none⟩ = false := freeAt ha 4
    simp only [qP] at c0
    rw [hr] at hB
    simp only [Option.isSome] at hB
    go_enter Try.func38, Try.ntmps38
    go_wp2_with (go_at_call 36; refine hB.mono ?_; rintro e w' ⟨rfl, k, rfl⟩)
    go_ret
    exact Ret.of (rfl) (by repeat (first | exact Drew.refl _ | apply Drew.drewN | apply Drew.drew))
theorem hot_By (d : Nat) (q : Option (Nat × Nat)) (pm : Option Nat) (s : SH) (w : World) (h : DeskAt w d q pm s) : Calls Try.prog 39 #[.pointer (some ⟨d, 0, none⟩)] w (Ret (.int .i64 s.by_) w) := by
  have hB := hot_Busy d q pm s w h
  obtain ⟨hd, hq, hp, nq, np, nn, ok⟩ := h
  have c0 : w.cell? ⟨d, 0, none⟩ = some (.pointer (qP q)) := cellAt hd 0
  have c1 : w.cell? ⟨d, 1, none⟩ = some (.map pm) := cellAt hd 1
  have f0 : w.frozen? ⟨d, 0, none⟩ = false := freeAt hd 0
  have f1 : w.frozen? ⟨d, 1, none⟩ = false := freeAt hd 1
  rcases q with _ | ⟨qa, qb⟩
  · simp only [qP] at c0
    simp only [ReqAt] at hq
    obtain ⟨z1, z2, z3⟩ := ok.none hq
    rw [hq] at hB
    simp only [Option.isSome] at hB
    have Z1 := Lib.hid z1
    have Z2 := Lib.hid z2
    have Z3 := Lib.hid z3
    clear z1 z2 z3
    go_enter Try.func39, Try.ntmps39
    go_wp2_with (go_at_call 36; refine hB.mono ?_; rintro e w' ⟨rfl, k, rfl⟩)
    go_ret
    exact Ret.of (by simp [Z1.out, Z2.out, Z3.out]) (by repeat (first | exact Drew.refl _ | apply Drew.drewN | apply Drew.drew))
  · obtain ⟨r, hr, ha, hx, hab⟩ := hq
    have a0 : w.cell? ⟨qa, 0, none⟩ = some (.pointer (some ⟨qb, 0, none⟩)) := cellAt ha 0
    have a1 : w.cell? ⟨qa, 1, none⟩ = some (.bool s.up) := cellAt ha 1
    have a2 : w.cell? ⟨qa, 2, none⟩ = some (.int .i64 s.cpu) := cellAt ha 2
    have a3 : w.cell? ⟨qa, 3, none⟩ = some (.int .i64 s.by_) := cellAt ha 3
    have a4 : w.cell? ⟨qa, 4, none⟩ = some (.bool s.told) := cellAt ha 4
    have g4 : w.frozen? ⟨qa, 4, none⟩ = false := freeAt ha 4
    simp only [qP] at c0
    rw [hr] at hB
    simp only [Option.isSome] at hB
    go_enter Try.func39, Try.ntmps39
    go_wp2_with (go_at_call 36; refine hB.mono ?_; rintro e w' ⟨rfl, k, rfl⟩)
    go_ret
    exact Ret.of (rfl) (by repeat (first | exact Drew.refl _ | apply Drew.drewN | apply Drew.drew))

theorem hot_Over (d : Nat) (q : Option (Nat × Nat)) (pm : Option Nat) (s : SH) (w : World) (h : DeskAt w d q pm s) : Calls Try.prog 40 #[.pointer (some ⟨d, 0, none⟩)] w (Ret (.bool s.over) w) := by
  have hB := hot_Busy d q pm s w h
  obtain ⟨hd, hq, hp, nq, np, nn, ok⟩ := h
  have c0 : w.cell? ⟨d, 0, none⟩ = some (.pointer (qP q)) := cellAt hd 0
  have c1 : w.cell? ⟨d, 1, none⟩ = some (.map pm) := cellAt hd 1
  have f0 : w.frozen? ⟨d, 0, none⟩ = false := freeAt hd 0
  have f1 : w.frozen? ⟨d, 1, none⟩ = false := freeAt hd 1
  rcases q with _ | ⟨qa, qb⟩
  · simp only [qP] at c0
    simp only [ReqAt] at hq
    have hO : s.over = false := by simp [SH.over, hq]
    rw [hq] at hB
    rw [hO]
    simp only [Option.isSome] at hB
    clear hq hO
    go_enter Try.func40, Try.ntmps40
    go_wp2_with (go_at_call 36; refine hB.mono ?_; rintro e w' ⟨rfl, k, rfl⟩)
    go_ret
    exact Ret.of (rfl) (by repeat (first | exact Drew.refl _ | apply Drew.drewN | apply Drew.drew))
  · obtain ⟨r, hr, ha, hx, hab⟩ := hq
    have a0 : w.cell? ⟨qa, 0, none⟩ = some (.pointer (some ⟨qb, 0, none⟩)) := cellAt ha 0
    have a1 : w.cell? ⟨qa, 1, none⟩ = some (.bool s.up) := cellAt ha 1
    have a2 : w.cell? ⟨qa, 2, none⟩ = some (.int .i64 s.cpu) := cellAt ha 2
    have a3 : w.cell? ⟨qa, 3, none⟩ = some (.int .i64 s.by_) := cellAt ha 3
    have a4 : w.cell? ⟨qa, 4, none⟩ = some (.bool s.told) := cellAt ha 4
    have g4 : w.frozen? ⟨qa, 4, none⟩ = false := freeAt ha 4
    simp only [qP] at c0
    have hO : s.over = r.over := by simp [SH.over, hr]
    rw [hr] at hB
    rw [hO]
    simp only [Option.isSome] at hB
    clear hr hO
    go_enter Try.func40, Try.ntmps40
    go_wp2_with (first | (go_at_call 36; refine hB.mono ?_; rintro e w' ⟨rfl, k, rfl⟩) | (go_at_call 66; refine (At_any qb r _ (by exact hx.same rfl)).mono ?_; rintro e w' ⟨rfl, k2, rfl⟩))
    go_ret
    exact Ret.of (rfl) (by repeat (first | exact Drew.refl _ | apply Drew.drewN | apply Drew.drew))

theorem hot_may (d : Nat) (q : Option (Nat × Nat)) (pm : Option Nat) (s : SH) (w : World) (h : DeskAt w d q pm s) : Calls Try.prog 65 #[.pointer (some ⟨d, 0, none⟩)] w (Ret (.int .i64 s.mayE) w) := by
  have hB := hot_Over d q pm s w h
  obtain ⟨hd, hq, hp, nq, np, nn, ok⟩ := h
  have c0 : w.cell? ⟨d, 0, none⟩ = some (.pointer (qP q)) := cellAt hd 0
  have c1 : w.cell? ⟨d, 1, none⟩ = some (.map pm) := cellAt hd 1
  have f0 : w.frozen? ⟨d, 0, none⟩ = false := freeAt hd 0
  have f1 : w.frozen? ⟨d, 1, none⟩ = false := freeAt hd 1
  rcases q with _ | ⟨qa, qb⟩
  · simp only [qP] at c0
    simp only [ReqAt] at hq
    have hO : s.mayE = 12 := by simp [SH.mayE, hq]
    rw [hO]
    clear hq hO
    go_enter Try.func65, Try.ntmps65
    go_wp2
    go_ret
    exact Ret.of (rfl) (by repeat (first | exact Drew.refl _ | apply Drew.drewN | apply Drew.drew))
  · obtain ⟨r, hr, ha, hx, hab⟩ := hq
    have a0 : w.cell? ⟨qa, 0, none⟩ = some (.pointer (some ⟨qb, 0, none⟩)) := cellAt ha 0
    have a1 : w.cell? ⟨qa, 1, none⟩ = some (.bool s.up) := cellAt ha 1
    have a2 : w.cell? ⟨qa, 2, none⟩ = some (.int .i64 s.cpu) := cellAt ha 2
    have a3 : w.cell? ⟨qa, 3, none⟩ = some (.int .i64 s.by_) := cellAt ha 3
    have a4 : w.cell? ⟨qa, 4, none⟩ = some (.bool s.told) := cellAt ha 4
    have g4 : w.frozen? ⟨qa, 4, none⟩ = false := freeAt ha 4
    simp only [qP] at c0
    have hO : s.over = r.over := by simp [SH.over, hr]
    have hM : s.mayE = if r.over then 6 else 0 := by simp [SH.mayE, hr]
    rw [hO] at hB
    rw [hM]
    clear hr hO hM
    cases ho : r.over
    all_goals
      rw [ho] at hB
      go_enter Try.func65, Try.ntmps65
      go_wp2_with (go_at_call 40; refine hB.mono ?_; rintro e w' ⟨rfl, k, rfl⟩)
      go_ret
      exact Ret.of (rfl) (by repeat (first | exact Drew.refl _ | apply Drew.drewN | apply Drew.drew))

theorem hot_core (c : Int) (w : World) : Calls Try.prog 63 #[.int .i64 c] w (Ret (.bool (decide (isCore c))) w) := by
  by_cases h0 : 0 ≤ c
  · by_cases h1 : c < 64
    · go_enter Try.func63, Try.ntmps63
      go_wp2
      go_ret
      exact Ret.of (by simp [isCore, h0, h1]) (by repeat (first | exact Drew.refl _ | apply Drew.drewN | apply Drew.drew))
    · go_enter Try.func63, Try.ntmps63
      go_wp2
      go_ret
      exact Ret.of (by simp [isCore, h0, h1]) (by repeat (first | exact Drew.refl _ | apply Drew.drewN | apply Drew.drew))
  · have hD : decide (isCore c) = false := decide_eq_false (fun x => h0 x.1)
    rw [hD]
    clear hD
    go_enter Try.func63, Try.ntmps63
    go_wp2
    go_ret
    exact Ret.of (rfl) (by repeat (first | exact Drew.refl _ | apply Drew.drewN | apply Drew.drew))
theorem eqMapSome (b : Nat) (w : World) : (binOp .eql 25 (.map (some b)) (.map none)).run Try.prog w = .ok (.bool false) w := by kernel_rfl
theorem eqMapNil (w : World) : (binOp .eql 25 (.map none) (.map none)).run Try.prog w = .ok (.bool true) w := by kernel_rfl

set_option maxRecDepth 100000 in
theorem hot_Plan (d : Nat) (q : Option (Nat × Nat)) (pm : Option Nat) (s : SH) (k : Int) (w : World) (h : DeskAt w d q pm s) : Calls Try.prog 12 #[.pointer (some ⟨d, 0, none⟩), .int .i64 k] w (DeskDo d q pm (.int .i64 (planE k)) (s.doPlan k) w) := by
  have hok := SH.doPlan_ok h.ok k
  have h' := h
  obtain ⟨hd, hq, hp, nq, np, nn, ok⟩ := h
  have c0 : w.cell? ⟨d, 0, none⟩ = some (.pointer (qP q)) := cellAt hd 0
  have c1 : w.cell? ⟨d, 1, none⟩ = some (.map pm) := cellAt hd 1
  have f0 : w.frozen? ⟨d, 0, none⟩ = false := freeAt hd 0
  have f1 : w.frozen? ⟨d, 1, none⟩ = false := freeAt hd 1
  by_cases hk : 0 ≤ k ∧ k < 10
  · obtain ⟨hk1, hk2⟩ := hk
    have hE : planE k = 0 := if_pos ⟨hk1, hk2⟩
    rw [hE]
    clear hE
    cases pm with
    | none =>
      simp only [PlanAt] at hp
      have hD : s.doPlan k = { s with plan := [k] } := by simp [SH.doPlan, hk1, hk2, hp]
      rw [hD] at hok ⊢
      clear hD
      have hl := h'.lt
      have hsz : (w.setCell ⟨d, 1, none⟩ (.map (some w.heap.size))).heap.size = w.heap.size := sizeSet _ _ _
      have m0 := ((Mod.refl [d] w).setCell (p := ⟨d, 1, none⟩) (by simp) (.map (some w.heap.size))).alloc (.map #[] 0)
      obtain ⟨w1, hrun, m1, x1⟩ := map_update (m := []) (b := w.heap.size) (w := (w.setCell ⟨d, 1, none⟩ (.map (some w.heap.size))).alloc (.map #[] 0)) (by
        have := MapAt.new .i64 (w.setCell ⟨d, 1, none⟩ (.map (some w.heap.size)))
        rw [hsz] at this
        exact this) Try.underlying25 Try.underlying3 k (.bool true)
      clear hsz
      have hq' : DeskAt w1 d q (some w.heap.size) { s with plan := [k] } := by
        have := hl d (by simp)
        refine ⟨?_, ?_, x1, nq, by simp [pF]; omega, ?_, hok⟩
        · refine m1.keep ?_ (by simp; omega)
          refine heapOld ?_
          rw [heapSet hd]; simp
        · refine ((hq.keep m0 ?_).keep m1 ?_).plan _
          · intro k hk; simp; rintro rfl; exact nq hk
          · intro k hk; have := hl k (by simp [hk]); simp; omega
        · intro k hk hk2
          simp [pF] at hk
          have := hl k (by simp [hk2]); omega
      have m2 := m0.trans m1 (by simp)
      clear x1 m0 m1
      have hE1 := eqMapNil
      have hmk := fun w => run_makeMap (P := Try.prog) 25 w
      go_enter Try.func12, Try.ntmps12
      go_wp2
      go_ret
      refine ⟨q, some w.heap.size, rfl, m2.mono (by simp), hq', ?_⟩
      intro k hk
      simp [pF] at hk ⊢
      rcases hk with hk | rfl
      · exact .inl hk
      · exact .inr (Nat.le_refl _)
    | some b =>
      simp only [PlanAt] at hp
      obtain ⟨w1, hrun, m1, x1⟩ := map_update hp Try.underlying25 Try.underlying3 k (.bool true)
      rw [planM_put] at x1
      have hD : s.doPlan k = { s with plan := if k ∈ s.plan then s.plan else s.plan ++ [k] } := by
        unfold SH.doPlan
        by_cases e : k ∈ s.plan
        · simp [hk1, hk2, e]
        · simp [hk1, hk2, e]
      rw [hD] at hok ⊢
      clear hD
      have hbd : b ≠ d := fun e => np (by simp [pF, e])
      have hq' : DeskAt w1 d q (some b) { s with plan := if k ∈ s.plan then s.plan else s.plan ++ [k] } := by
        refine ⟨m1.keep hd (by simp; exact Ne.symm hbd), (hq.keep m1 ?_).plan _, x1, nq, np, nn, hok⟩
        intro k hk
        simp only [List.mem_singleton]
        rintro rfl
        exact nn _ (by simp [pF]) hk
      clear x1 hp
      generalize (if k ∈ s.plan then s.plan else s.plan ++ [k]) = l at *
      have hE1 := eqMapSome b
      go_enter Try.func12, Try.ntmps12
      go_wp2
      go_ret
      exact ⟨q, some b, rfl, m1.mono (by simp [pF]), hq', fun k hk => .inl hk⟩
  · have hE : planE k = 3 := if_neg hk
    have hD : s.doPlan k = s := by
      unfold SH.doPlan
      rw [if_neg (fun x => hk ⟨x.1, x.2.1⟩)]
    rw [hE, hD]
    clear hE hD
    have hne : k < 0 ∨ (0 ≤ k ∧ 10 ≤ k) := by omega
    rcases hne with h1 | ⟨h1, h2⟩
    all_goals
      go_enter Try.func12, Try.ntmps12
      go_wp2
      go_ret
      exact ⟨q, pm, rfl, Mod.refl _ _, h', fun k hk => .inl hk⟩

end Go.Proofs.Ytbelcmiljjndaaa
