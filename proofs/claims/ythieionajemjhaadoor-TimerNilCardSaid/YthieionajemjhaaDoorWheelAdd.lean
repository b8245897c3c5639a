/- The walks over a wheel's New, Add, Now, Len, When. -/
import Derived.Test.YthieionajemjhaaDoorWheelPut
namespace Go.Proofs.YthieionajemjhaaDoor
set_option linter.unusedVariables false
set_option linter.unusedSimpArgs false
open Go.RowKit

/-- What every wheel's state keeps. -/
structure SW.ok (s : SW) : Prop where
  now : s.now ≤ 1152921504606846976
  due : ∀ p, p ∈ s.dues → p.2 ≤ 1152921504606846976
theorem dfind_mem : ∀ {m : List (Int × Nat)} {i : Int} {j n v : Nat}, dfind m i j = some (n, v) → (i, v) ∈ m
  | p :: m, i, j, n, v, h => by
    unfold dfind at h
    split at h
    · rename_i e
      simp at h
      obtain ⟨_, rfl⟩ := h
      rw [e]; exact List.mem_cons_self
    · exact List.mem_cons_of_mem _ (dfind_mem h)
theorem dget_mem {m : List (Int × Nat)} {i : Int} {v : Nat} (h : dget m i = some v) : (i, v) ∈ m := by
  unfold dget at h
  obtain ⟨⟨n, v'⟩, h1, h2⟩ := Option.map_eq_some_iff.1 h
  simp at h2
  subst h2
  exact dfind_mem h1
theorem dueW_le {s : SW} (h : s.ok) (i : Int) : dueW s i ≤ 1152921504606846976 := by
  unfold dueW
  cases e : dget s.dues i with
  | none => simp
  | some v => exact h.due _ (dget_mem e)
theorem dput_mem {m : List (Int × Nat)} {i : Int} {v : Nat} {p : Int × Nat} (h : p ∈ dput m i v) : p ∈ m ∨ p = (i, v) := by
  unfold dput at h
  split at h
  · exact List.mem_or_eq_of_mem_set h
  · simpa using h
theorem SW.ok.put {s : SW} (h : s.ok) (i : Int) : (s.put i).ok := ⟨h.now, h.due⟩
theorem SW.ok.puts {s : SW} (h : s.ok) : ∀ ids, (s.puts ids).ok := fun ids => ⟨by rw [puts_now]; exact h.now, by rw [puts_dues]; exact h.due⟩
def SW.setDue (s : SW) (id : Int) (due : Nat) : SW := { s with dues := dput s.dues id due }
theorem SW.ok.setDue {s : SW} (h : s.ok) (i : Int) {v : Nat} (hv : v ≤ 1152921504606846976) : (s.setDue i v).ok := ⟨h.now, fun p hp => by
  rcases dput_mem hp with hp | rfl
  · exact h.due p hp
  · exact hv⟩
theorem WheelAt.setMap {w w1 : World} {d mb : Nat} {G : Nat → Option Nat × Nat} {s : SW} (h : WheelAt w d mb G s) (m : Mod [mb] w w1) {l : List (Int × Nat)} (hm : MapAt .i64 w1 mb (duesV l)) : WheelAt w1 d mb G { s with dues := l } := by
  obtain ⟨cs, h1, h2⟩ := h.obj
  exact ⟨⟨cs, m.keep h1 (by simp; exact fun e => h.ne e.symm), h2⟩, hm, fun k hk => (h.list k hk).keep m (fun b hb => by simp; exact (h.own k hk b hb).2), h.ne, h.own, h.apart⟩
/-- Add: the errno; the wheel behind it. -/
def SW.addE (s : SW) (id due : Int) : Int := if ¬ tickOk due then 2 else if (dget s.dues id).isSome then 6 else 0
def SW.add (s : SW) (id due : Int) : SW := if s.addE id due = 0 then (s.setDue id due.toNat).put id else s

/-- The three reads of the map. -/
theorem dues_lookup2 {w : World} {d mb : Nat} {G : Nat → Option Nat × Nat} {s : SW} (h : WheelAt w d mb G s) (id : Int) :
    (Instr.lookup 86 (.map (some mb)) (.int .i64 id) true).run Tryd.prog w = .ok (.tuple #[.int .i64 (dueW s id), .bool (dget s.dues id).isSome]) w := by
  have := map_lookup2 (P := Tryd.prog) h.map Tryd.underlying86 Tryd.underlying3 id (fun w => Tryd.zeroValue2 w)
  rw [mget_dues] at this
  rw [this]
  unfold dueW
  cases dget s.dues id <;> rfl

set_option maxRecDepth 100000 in
set_option maxHeartbeats 2000000 in
theorem wheel_Add (d mb : Nat) (G : Nat → Option Nat × Nat) (s : SW) (w : World) (h : WheelAt w d mb G s) (hok : s.ok) (hb : ∀ k, k ≤ 168 → (s.lists k).length + 1 < 1000000) (id due : Int) :
    Calls Tryd.prog 33 #[.pointer (some ⟨d, 0, none⟩), .int .i64 id, .int .i64 due] w (WheelDo d mb G (.int .i64 (s.addE id due)) (s.add id due) w) := by
  have cM := h.cellMap
  have hlk := dues_lookup2 h id
  by_cases hr : tickOk due
  · have hr2 := decide_eq_true hr
    by_cases hs : (dget s.dues id).isSome = true
    · have hE : s.addE id due = 6 := by unfold SW.addE; rw [if_neg (by simpa using hr), if_pos hs]
      have hA : s.add id due = s := by unfold SW.add; rw [if_neg (by omega)]
      rw [hE, hA]
      rw [hs] at hlk
      clear hE hA hs
      generalize dueW s id = du at *
      go_enter Tryd.func33, Tryd.ntmps33
      go_wp2_with (first
        | (
          go_at_call 55
          refine (wheel_right _ _).mono ?_
          rintro e w' ⟨rfl, k1, rfl⟩
          )
        )
      go_ret
      exact ⟨rfl, G, (Mod.refl _ _).drewN _, h.same rfl, fun b hb => .inl hb⟩
    · have hE : s.addE id due = 0 := by unfold SW.addE; rw [if_neg (by simpa using hr), if_neg hs]
      have hA : s.add id due = (s.setDue id due.toNat).put id := by unfold SW.add; rw [if_pos hE]
      rw [hE, hA]
      have hs' : (dget s.dues id).isSome = false := by simpa using hs
      rw [hs'] at hlk
      obtain ⟨t, rfl⟩ := Int.eq_ofNat_of_zero_le hr.1
      have hT : ((t : Nat) : Int).toNat = t := by omega
      have hok' := hok.setDue id (v := t) (by have := hr.2; omega)
      rw [hT]
      clear hE hA hs hs' hT hr
      generalize dueW s id = du at *
      have hmu := fun k => map_update (w := w.drewN k) (P := Tryd.prog) (h.map.same rfl) Tryd.underlying86 Tryd.underlying3 id (.int .i64 (t : Nat))
      go_enter Tryd.func33, Tryd.ntmps33
      go_wp2_with (first
        | (
          go_at_call 55
          refine (wheel_right _ _).mono ?_
          rintro e w' ⟨rfl, k1, rfl⟩
          obtain ⟨w1, hrun, m1, x1⟩ := hmu k1
          rw [mput_dues] at x1
          )
        | (
          go_at_call 57
          have hW1 := WheelAt.setMap (h.same (w' := w.drewN k1) rfl) m1 x1
          have hlt1 := hW1.lt
          have hW2 := hW1.keep (S := []) ((Mod.refl [] w1).alloc (.cells #[.int .i64 id] 3)) (by simp)
          refine (wheel_put d mb G _ _ (by exact hW2) hok'.now (dueW_le hok') (some w1.heap.size) 1 [id] ⟨_, heapNew _ _, by simp, by simp [maxLen], by simp, by simp⟩ (by simp [lF]; intro hh; have := hlt1 _ hh; omega) (by intro k hk; exact hb k hk)).mono ?_
          rintro e w3 ⟨rfl, G3, m3, x3, g3⟩
          )
        )
      go_ret
      have mA : Mod (wBlocks d mb G) w w1 := m1.undrewN.mono (by simp; exact .inl (mem_wBlocks.2 (.inr (.inl rfl))))
      have mB : Mod (wBlocks d mb G) w w3 := (mA.alloc _).trans m3 (fun b hb => .inl hb)
      have hs1 := mA.size
      exact ⟨rfl, G3, mB, x3, fun b hb => by
        rcases g3 b hb with hb | hb
        · exact .inl hb
        · right; simp at hb; omega⟩
  · have hr2 := decide_eq_false hr
    have hE : s.addE id due = 2 := by unfold SW.addE; rw [if_pos hr]
    have hA : s.add id due = s := by unfold SW.add; rw [if_neg (by omega)]
    rw [hE, hA]
    clear hE hA
    generalize dueW s id = du at *
    generalize (dget s.dues id).isSome = bb at *
    go_enter Tryd.func33, Tryd.ntmps33
    go_wp2_with (first
      | (
        go_at_call 55
        refine (wheel_right _ _).mono ?_
        rintro e w' ⟨rfl, k1, rfl⟩
        )
      )
    go_ret
    exact ⟨rfl, G, (Mod.refl _ _).drewN _, h.same rfl, fun b hb => .inl hb⟩

set_option maxRecDepth 100000 in
theorem wheel_Now (d mb : Nat) (G : Nat → Option Nat × Nat) (s : SW) (w : World) (h : WheelAt w d mb G s) : Calls Tryd.prog 53 #[.pointer (some ⟨d, 0, none⟩)] w (Ret (.int .i64 s.now) w) := by
  have c0 := h.cellNow
  go_enter Tryd.func53, Tryd.ntmps53
  go_wp2
  go_ret
  exact Ret.of (rfl) (by repeat (first | exact Drew.refl _ | apply Drew.drewN | apply Drew.drew))
set_option maxRecDepth 100000 in
theorem wheel_When (d mb : Nat) (G : Nat → Option Nat × Nat) (s : SW) (w : World) (h : WheelAt w d mb G s) (id : Int) : Calls Tryd.prog 47 #[.pointer (some ⟨d, 0, none⟩), .int .i64 id] w (Ret (.tuple #[.int .i64 (dueW s id), .bool (dget s.dues id).isSome]) w) := by
  have cM := h.cellMap
  have hlk := dues_lookup2 h id
  generalize dueW s id = du at *
  generalize (dget s.dues id).isSome = bb at *
  go_enter Tryd.func47, Tryd.ntmps47
  go_wp2
  go_ret2
  exact Ret.of (rfl) (by repeat (first | exact Drew.refl _ | apply Drew.drewN | apply Drew.drew))
set_option maxRecDepth 100000 in
theorem wheel_Len (d mb : Nat) (G : Nat → Option Nat × Nat) (s : SW) (w : World) (h : WheelAt w d mb G s) : Calls Tryd.prog 51 #[.pointer (some ⟨d, 0, none⟩)] w (Ret (.int .i64 s.dues.length) w) := by
  have cM := h.cellMap
  obtain ⟨es, clk, hb, he⟩ := h.map
  have hlen : es.size = s.dues.length := by have := congrArg List.length he.eq; simpa [duesV] using this
  have hrun : (Builtin.len_ #[86] 3 #[.map (some mb)]).run Tryd.prog w = .ok (.int .i64 s.dues.length) w := by
    rw [← hlen]
    simp [Builtin.len_, getObj, Sem.run, hb]
    rfl
  clear hlen he hb
  go_enter Tryd.func51, Tryd.ntmps51
  go_wp2
  go_ret
  exact Ret.of (rfl) (by repeat (first | exact Drew.refl _ | apply Drew.drewN | apply Drew.drew))
set_option maxRecDepth 100000 in
theorem wheel_nils (w : World) : Calls Tryd.prog 53 #[.pointer none] w (Ret (.int .i64 0) w) ∧ Calls Tryd.prog 51 #[.pointer none] w (Ret (.int .i64 0) w)
    ∧ Calls Tryd.prog 36 #[.pointer none] w (Ret (.slice none 0 0) w) ∧ Calls Tryd.prog 52 #[.pointer none] w (Ret (.slice none 0 0) w)
    ∧ Calls Tryd.prog 43 #[.pointer none] w (Ret (.tuple #[.int .i64 0, .int .i64 1]) w) := by
  refine ⟨?_, ?_, ?_, ?_, ?_⟩
  · go_enter Tryd.func53, Tryd.ntmps53
    go_wp2
    go_ret
    exact Ret.of (rfl) (by repeat (first | exact Drew.refl _ | apply Drew.drewN | apply Drew.drew))
  · go_enter Tryd.func51, Tryd.ntmps51
    go_wp2
    go_ret
    exact Ret.of (rfl) (by repeat (first | exact Drew.refl _ | apply Drew.drewN | apply Drew.drew))
  · go_enter Tryd.func36, Tryd.ntmps36
    go_wp2
    go_ret
    exact Ret.of (rfl) (by repeat (first | exact Drew.refl _ | apply Drew.drewN | apply Drew.drew))
  · go_enter Tryd.func52, Tryd.ntmps52
    go_wp2
    go_ret
    exact Ret.of (rfl) (by repeat (first | exact Drew.refl _ | apply Drew.drewN | apply Drew.drew))
  · go_enter Tryd.func43, Tryd.ntmps43
    go_wp2
    go_ret2
    exact Ret.of (rfl) (by repeat (first | exact Drew.refl _ | apply Drew.drewN | apply Drew.drew))
set_option maxRecDepth 100000 in
theorem wheel_nils2 (id n : Int) (w : World) : Calls Tryd.prog 33 #[.pointer none, .int .i64 id, .int .i64 n] w (Ret (.int .i64 1) w) ∧ Calls Tryd.prog 34 #[.pointer none, .int .i64 id] w (Rets (.int .i64 1) [] w fun _ => True)
    ∧ Calls Tryd.prog 35 #[.pointer none, .int .i64 n] w (Ret (.int .i64 1) w) ∧ Calls Tryd.prog 47 #[.pointer none, .int .i64 id] w (Ret (.tuple #[.int .i64 0, .bool false]) w) := by
  refine ⟨?_, ?_, ?_, ?_⟩
  · go_enter Tryd.func33, Tryd.ntmps33
    go_wp2
    go_ret
    exact Ret.of (rfl) (by repeat (first | exact Drew.refl _ | apply Drew.drewN | apply Drew.drew))
  · go_enter Tryd.func34, Tryd.ntmps34
    go_wp2
    go_ret
    refine Rets.of rfl ?_ trivial
    repeat (first | with_reducible exact Mod.refl _ _ | with_reducible apply Mod.alloc | with_reducible apply Mod.drewN | with_reducible apply Mod.drew | with_reducible refine Mod.setCell ?_ (by first | (simp; done) | (simp; omega)) _)
  · go_enter Tryd.func35, Tryd.ntmps35
    go_wp2
    go_ret
    exact Ret.of (rfl) (by repeat (first | exact Drew.refl _ | apply Drew.drewN | apply Drew.drew))
  · go_enter Tryd.func47, Tryd.ntmps47
    go_wp2
    go_ret2
    exact Ret.of (rfl) (by repeat (first | exact Drew.refl _ | apply Drew.drewN | apply Drew.drew))
set_option maxRecDepth 100000 in
theorem wheel_New_no (t : Int) (ht : ¬ tickOk t) (w : World) : Calls Tryd.prog 30 #[.int .i64 t] w (Ret (.tuple #[.pointer none, .int .i64 2]) w) := by
  have h2 := decide_eq_false ht
  go_enter Tryd.func30, Tryd.ntmps30
  go_wp2_with (go_at_call 55; refine (wheel_right _ _).mono ?_; rintro e w' ⟨rfl, k1, rfl⟩)
  go_ret2
  exact Ret.of (rfl) (by repeat (first | exact Drew.refl _ | apply Drew.drewN | apply Drew.drew))
end Go.Proofs.YthieionajemjhaaDoor
