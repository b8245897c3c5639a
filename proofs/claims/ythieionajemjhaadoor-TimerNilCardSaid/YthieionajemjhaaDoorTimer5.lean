/- The walks over package timer: Go, Fire, Move. No condition but those named. -/
import Derived.Test.YthieionajemjhaaDoorTimer4
namespace Go.Proofs.YthieionajemjhaaDoor
set_option linter.unusedVariables false
set_option linter.unusedSimpArgs false
open Go.RowKit
theorem ints_nil (w : World) (a : Option Addr) : IsInts w a [] := .inl rfl
theorem mayE0 (n : Nat) : mayE n [] = 0 := by simp [mayE]
def TS.goN (t : TS) (T : Int) (j : Nat) : TS := { t with s := fun c => if c < j then (t.s c).go T else t.s c }
theorem goN_step (t : TS) (T : Int) (j : Nat) : { t.goN T j with s := upd (t.goN T j).s j ((t.s j).go T) } = t.goN T (j + 1) := by
  unfold TS.goN
  simp only [TS.mk.injEq, true_and]
  funext c
  by_cases e : c = j
  · subst e; rw [upd_same, if_pos (by omega)]
  · rw [upd_ne _ _ e]
    by_cases h : c < j
    · simp [h, show c < j + 1 by omega]
    · simp [h, show ¬ c < j + 1 by omega]
theorem goN_zero (t : TS) (T : Int) : t.goN T 0 = t := by simp [TS.goN]
section
variable {F : List Nat} {w : World} {d : Nat} {A : TA}
set_option maxRecDepth 100000 in
set_option maxHeartbeats 1000000 in
theorem timers_Go (h : (timersA d A).holds F w) (T : Int) : Calls Tryd.prog 10 #[.pointer (some ⟨d, 0, none⟩), .int .i64 T] w (Turns (timersA d (A.go T)) F (.int .i64 (A.goE T)) w) := by
  obtain ⟨t, p, hs, hA⟩ := timersA_view h
  obtain ⟨k0, k1, k2⟩ := hA.tcells
  have hmay := timers_may d t.n p.cap _ w k1 none 0 [] (by simp) (ints_nil _ _)
  rw [mayE0] at hmay
  obtain ⟨hcap1, hcap2⟩ := hA.tcap
  have hn1 := hs.n1
  rw [← hs.n] at hn1
  have hn2 := hs.n2
  rw [← hs.n] at hn2
  go_enter Tryd.func10, Tryd.ntmps10
  go_wp2_with (go_at_call 31; refine hmay.mono ?_; rintro e w' ⟨rfl, k, rfl⟩)
  go_loopg [6, 19] t.n (fun gg why i wr => ∃ j : Nat, i = .int .i64 j ∧ why = .int .i64 (if j = 0 then 0 else rgoE A.now T) ∧ j + gg = t.n ∧ On F w (timersL d p (t.goN T j)) wr)
  case atStart => exact ⟨0, rfl, rfl, by omega, by rw [goN_zero]; exact hA.keep ((Mod.refl _ _).drewN k)⟩
  case round =>
    clear hA k0 k1 k2
    obtain ⟨j, rfl, rfl, hj, hB⟩ := hrel
    by_cases hlt : j < t.n
    · have hltI : (j : Int) < t.n := by omega
      have kp := hB.tptr (c := j) hlt
      have kp2 : wr.cell? ⟨p.gb, j, none⟩ = some (.pointer (some ⟨p.D j, 0, none⟩)) := kp
      have hjn : j < A.n := by rw [← hs.n]; exact hlt
      have hsim := hs.sim j hjn
      have hlen := hs.len hjn
      have hnow := hs.now j hjn
      have hsj : (t.goN T j).s j = t.s j := by simp [TS.goN]
      generalize hwv : (if j = 0 then (0 : Int) else rgoE A.now T) = wv at *
      have hst := goN_step t T j
      go_wp2_with (
        go_at_call 35
        refine (hB.twheelDo (c := j) hlt (fun F1 h1 => by rw [hsj] at h1; exact wheelR_Go h1 hsim (by omega) T)).mono ?_
        rintro e w2 ⟨rfl, hC⟩
        rw [hst] at hC
        )
      go_roundg (gk - 1)
      case measure => omega
      case rel => exact ⟨j + 1, by go_num, by rw [if_neg (by omega)], by omega, hC⟩
    · have hltI : ¬ ((j : Int) < t.n) := by omega
      obtain rfl : j = t.n := by omega
      have hv : (if t.n = 0 then (0 : Int) else rgoE A.now T) = A.goE T := by rw [if_neg (by omega)]; rfl
      rw [hv]
      go_wp2
      go_ret
      exact ⟨rfl, On.timers (t := t.go T) (p := p) hB (hs.go T)⟩
theorem due_whr {t : TS} (hs : TSim t A) {c : Nat} (hc : c < A.n) (he : dueL A.now (A.L c) ≠ []) : A.whr (nthP (dueL A.now (A.L c)) 0).1 = some c := by
  have hm : nthP (dueL A.now (A.L c)) 0 ∈ dueL A.now (A.L c) := nthP_mem (List.length_pos_iff.2 he)
  have hm2 : nthP (dueL A.now (A.L c)) 0 ∈ A.L c := (List.mem_filter.1 hm).1
  rw [hs.whrE]
  refine (hs.whr _ c).2 ⟨hc, ?_⟩
  have h1 : dget (A.L c) (nthP (dueL A.now (A.L c)) 0).1 = some (nthP (dueL A.now (A.L c)) 0).2 := dget_of_mem (hs.sim c hc).nodup hm2
  rw [h1]
  rfl
theorem idsOf_nth (L : List (Int × Nat)) {j : Nat} (hj : j < L.length) : nth (idsOf L) j = (nthP L j).1 := by
  simp [nth, idsOf, nthP, List.getD, hj]
set_option maxRecDepth 100000 in
set_option maxHeartbeats 1000000 in
theorem timers_Fire (h : (timersA d A).holds F w) (cpu : Int) : Calls Tryd.prog 12 #[.pointer (some ⟨d, 0, none⟩), .int .i64 cpu] w (Turns (timersA d (A.fire cpu)) F (.tuple #[.int .i64 (A.fireV cpu), .int .i64 (A.fireE cpu)]) w) := by
  obtain ⟨t, p, hs, hA⟩ := timersA_view h
  obtain ⟨k0, k1, k2⟩ := hA.tcells
  have hmay := timers_may1 (w := w) _ _ _ k1 cpu
  rw [hs.n] at hmay k1
  have mA : ∀ k, Mod [] w ((w.alloc (.cells #[.int .i64 cpu] 3 (0,0))).drewN k) := fun k => ((Mod.refl _ _).alloc _).drewN k
  unfold TA.fire TA.fireV
  by_cases hi : A.is cpu
  case neg =>
    have hE : A.fireE cpu = 3 := by unfold TA.fireE; rw [if_pos hi]
    rw [hE]
    rw [if_neg (show ¬ (0 ≤ cpu ∧ cpu < (A.n : Int)) from hi)] at hmay
    have hg := fun k => (hA.keep (mA k)).timers hs
    clear hA hi hE
    go_enter Tryd.func12, Tryd.ntmps12
    go_wp2_with (go_at_call 31; refine hmay.mono ?_; rintro e w' ⟨rfl, k, rfl⟩)
    go_ret2
    exact ⟨rfl, hg _⟩
  obtain ⟨hi1, hi2⟩ := hi
  rw [if_pos ⟨hi1, hi2⟩] at hmay
  obtain ⟨c, rfl⟩ := Int.eq_ofNat_of_zero_le hi1
  have hc : c < A.n := by omega
  have hcn : c < t.n := by rw [hs.n]; exact hc
  have hcz : (c : Int) < (A.n : Int) := by omega
  obtain ⟨hcap1, hcap2⟩ := hA.tcap
  rw [hs.n] at hcap1
  have kp := cellNew (.cells #[.int .i64 (c : Int)] 3 (0,0)) (hA.tptr hcn)
  have k1' := cellNew (.cells #[.int .i64 (c : Int)] 3 (0,0)) k1
  have hq := fun k => (hA.keep (mA k)).twheel hcn
  have hN := fun k => wheelR_Due (hq k).choose_spec (hs.sim c hc) (by have := hs.len hc; omega)
  rw [hs.now c hc] at hN
  have hEq : A.fireE c = if dueL A.now (A.L c) = [] then 12 else 0 := by unfold TA.fireE TA.due; rw [if_neg (fun x => x ⟨hi1, hi2⟩)]; rfl
  by_cases he : dueL A.now (A.L c) = []
  · rw [if_pos he] at hEq
    rw [hEq]
    rw [he] at hN
    have hg := fun u (m : Mod [] w u) => (hA.keep m).timers hs
    clear hA hq hEq he hi1
    go_enter Tryd.func12, Tryd.ntmps12
    go_wp2_with (first
      | (go_at_call 31; refine hmay.mono ?_; rintro e w' ⟨rfl, k, rfl⟩)
      | (go_at_call 36; refine (hN _).mono ?_; rintro e w2 ⟨a2, c2, rfl, m2, i2, n2⟩))
    go_ret2
    exact ⟨rfl, hg _ ((mA k).trans m2 (by simp))⟩
  · rw [if_neg he] at hEq
    rw [hEq, if_pos rfl, if_pos rfl]
    have hdue : A.due c = dueL A.now (A.L c) := rfl
    rw [hdue]
    have hw := due_whr hs hc he
    have hcan : A.cancel (nthP (dueL A.now (A.L c)) 0).1 = A.put c (ddel (A.L c) (nthP (dueL A.now (A.L c)) 0).1) := by unfold TA.cancel; rw [hw]
    have hcanE : A.cancelE (nthP (dueL A.now (A.L c)) 0).1 = 0 := by unfold TA.cancelE; rw [hw]; rfl
    have hne : idsOf (dueL A.now (A.L c)) ≠ [] := by simpa [idsOf] using he
    have hpos : 0 < (dueL A.now (A.L c)).length := List.length_pos_iff.2 he
    have hlp : 0 < (idsOf (dueL A.now (A.L c))).length := List.length_pos_iff.2 hne
    have hn0 := idsOf_nth _ hpos
    simp only [Int.toNat_natCast]
    rw [← hcan]
    generalize idsOf (dueL A.now (A.L c)) = v at *
    generalize (nthP (dueL A.now (A.L c)) 0).1 = id at *
    have hlt := (timersA d A).lt h
    clear hA hq hEq he hi1 hw hcan hdue hpos
    go_enter Tryd.func12, Tryd.ntmps12
    go_wp2_with (first
      | (go_at_call 31; refine hmay.mono ?_; rintro e w' ⟨rfl, k, rfl⟩)
      | (
        go_at_call 36
        refine (hN _).mono ?_
        rintro e w2 ⟨a2, c2, rfl, m2, i2, n2⟩
        obtain ⟨b, rfl, hb, hcell⟩ := i2.resolve_left hne
        have q0 := hcell 0 hlp
        rw [hn0] at q0
        have n3 := n2 b 0 rfl
        have m3 := (mA k).trans m2 (by simp)
        ))
    have hbF : b ∉ F := fun hb' => by have := hlt b hb'; simp at n3; omega
    clear hN hcell
    go_region_held3 (fun u => u.cell? ⟨b, 0, none⟩ = some (.int .i64 id)) (assumption) (first
      | (
        go_at_call 28
        refine (timers_Cancel (A := A) (F := F) ((timersA d A).keep h (S := []) ?_ (by simp)) id).mono ?_
        · exact m3.drewN _
        rintro e w4 ⟨rfl, F4, g1, g2, g3⟩
        have q4 := g2.at (p := ⟨b, 0, none⟩) (by exact q0) hbF
        ))
    go_wp2
    go_ret2
    have m4 : Mod [] w w2.drew := m3.drew
    refine ⟨rfl, F4, g1, (m4.mono (by simp)).trans g2 (fun b hb => .inl hb), fun b hb => ?_⟩
    have h6 := m4.size
    rcases g3 b hb with hb | hb
    · exact .inl hb
    · exact .inr (by omega)
theorem first_whr {t : TS} (hs : TSim t A) {c : Nat} (hc : c < A.n) (he : A.L c ≠ []) : dget t.whr (nthP (A.L c) 0).1 = some c ∧ A.whenV (nthP (A.L c) 0).1 = ((nthP (A.L c) 0).2 : Nat) ∧ tickOk ((nthP (A.L c) 0).2 : Nat) := by
  have hm : nthP (A.L c) 0 ∈ A.L c := nthP_mem (List.length_pos_iff.2 he)
  have h1 := dget_of_mem (hs.sim c hc).nodup (i := (nthP (A.L c) 0).1) (v := (nthP (A.L c) 0).2) hm
  have h2 : dget t.whr (nthP (A.L c) 0).1 = some c := (hs.whr _ c).2 ⟨hc, by rw [h1]; rfl⟩
  refine ⟨h2, ?_, ?_⟩
  · unfold TA.whenV
    rw [hs.whrE, h2]
    simp only
    rw [h1]
    rfl
  · have := (hs.sim c hc).inv.ok.due _ ((hs.sim c hc).perm.mem_iff.1 hm)
    exact ⟨by omega, by omega⟩
theorem TSim.addE2 {t : TS} (h : TSim t A) {c e : Nat} (he : e < A.n) {id : Int} (hid : dget t.whr id = some c) (hce : c ≠ e) {due : Int} (hd : tickOk due) : (t.s e).addE id due = 0 := by
  have h0 : dget (A.L e) id = none := by
    cases hx : dget (A.L e) id with
    | none => rfl
    | some v =>
      have := (h.whr id e).2 ⟨he, by rw [hx]; rfl⟩
      rw [hid] at this
      simp at this
      exact absurd this hce
  have h1 : dget (t.s e).dues id = none := by rw [← (h.sim e he).get]; exact h0
  unfold SW.addE
  rw [if_neg (by simpa using hd), h1]
  rfl
set_option maxRecDepth 100000 in
set_option maxHeartbeats 2000000 in
theorem timers_Move (h : (timersA d A).holds F w) (fr to : Int) : Calls Tryd.prog 9 #[.pointer (some ⟨d, 0, none⟩), .int .i64 fr, .int .i64 to] w (Turns (timersA d (A.move fr to)) F (.tuple #[.int .i64 (A.moveV fr to), .int .i64 (A.moveE fr to)]) w) := by
  obtain ⟨t, p, hs, hA⟩ := timersA_view h
  obtain ⟨k0, k1, k2⟩ := hA.tcells
  have hmay := timers_may d t.n p.cap _ (w.alloc (.cells #[.int .i64 fr, .int .i64 to] 3 (0,0))) (cellNew _ k1) (some ⟨w.heap.size, 0, none⟩) 2 [fr, to] (by simp) (ints_new2 w fr to _)
  rw [mayE2, hs.n] at hmay
  have mA : ∀ k, Mod [] w ((w.alloc (.cells #[.int .i64 fr, .int .i64 to] 3 (0,0))).drewN k) := fun k => ((Mod.refl _ _).alloc _).drewN k
  have hg := fun u (m : Mod [] w u) => (hA.keep m).timers hs
  unfold TA.move TA.moveV
  by_cases hi : A.is fr ∧ A.is to
  case neg =>
    have hE : A.moveE fr to = 3 := by
      unfold TA.moveE
      rw [if_pos]
      by_cases x : A.is fr
      · exact .inr (fun y => hi ⟨x, y⟩)
      · exact .inl x
    rw [hE]
    rw [if_neg (show ¬ ((0 ≤ fr ∧ fr < (A.n : Int)) ∧ (0 ≤ to ∧ to < (A.n : Int))) from hi)] at hmay
    clear hA hi hE
    go_enter Tryd.func9, Tryd.ntmps9
    go_wp2_with (go_at_call 31; refine hmay.mono ?_; rintro e w' ⟨rfl, k, rfl⟩)
    go_ret2
    exact ⟨rfl, hg _ (mA k)⟩
  obtain ⟨⟨hi1, hi2⟩, hj1, hj2⟩ := hi
  rw [if_pos ⟨⟨hi1, hi2⟩, hj1, hj2⟩] at hmay
  have hL := fun k => timers_List ((timersA d A).keep h (mA k) (by simp)) fr
  have hlist : A.list fr = idsOf (A.L fr.toNat) := by unfold TA.list; rw [if_pos ⟨hi1, hi2⟩]
  rw [hlist] at hL
  have hE0 : A.moveE fr to = if fr = to then 2 else if A.L fr.toNat = [] then 12 else 0 := by
    unfold TA.moveE
    rw [if_neg]
    rintro (x | x)
    · exact x ⟨hi1, hi2⟩
    · exact x ⟨hj1, hj2⟩
  by_cases hft : fr = to
  · rw [if_pos hft] at hE0
    rw [hE0]
    subst hft
    clear hA hE0 k0 k1 k2 hlist
    generalize idsOf (A.L fr.toNat) = v at *
    go_enter Tryd.func9, Tryd.ntmps9
    go_wp2_with (first
      | (go_at_call 31; refine hmay.mono ?_; rintro e w' ⟨rfl, k, rfl⟩)
      | (go_at_call 26; refine (hL _).mono ?_; rintro e w2 ⟨a2, c2, rfl, m2, i2, n2⟩))
    go_ret2
    exact ⟨rfl, hg _ ((mA k).trans m2 (by simp))⟩
  rw [if_neg hft] at hE0
  by_cases hem : A.L fr.toNat = []
  · rw [if_pos hem] at hE0
    rw [hE0]
    rw [hem] at hL
    clear hA hE0 k0 k1 k2 hlist hem
    go_enter Tryd.func9, Tryd.ntmps9
    go_wp2_with (first
      | (go_at_call 31; refine hmay.mono ?_; rintro e w' ⟨rfl, k, rfl⟩)
      | (go_at_call 26; refine (hL _).mono ?_; rintro e w2 ⟨a2, c2, rfl, m2, i2, n2⟩))
    go_ret2
    exact ⟨rfl, hg _ ((mA k).trans m2 (by simp))⟩
  rw [if_neg hem] at hE0
  rw [hE0, if_pos rfl, if_pos rfl]
  obtain ⟨c, rfl⟩ := Int.eq_ofNat_of_zero_le hi1
  obtain ⟨e, rfl⟩ := Int.eq_ofNat_of_zero_le hj1
  simp only [Int.toNat_natCast] at hem hL ⊢
  have hce : c ≠ e := fun x => hft (by rw [x])
  have hc : c < A.n := by omega
  have he : e < A.n := by omega
  have hcn : c < t.n := by rw [hs.n]; exact hc
  have hen : e < t.n := by rw [hs.n]; exact he
  have hcz : (c : Int) < (t.n : Int) := by omega
  have hez : (e : Int) < (t.n : Int) := by omega
  obtain ⟨f1, f2, f3⟩ := first_whr hs hc hem
  have hWh := fun u (m : Mod [] w u) => timers_When ((timersA d A).keep h m (by simp)) (nthP (A.L c) 0).1
  rw [f2] at hWh
  have hpos : 0 < (A.L c).length := List.length_pos_iff.2 hem
  have hn0 := idsOf_nth (A.L c) hpos
  have hne : idsOf (A.L c) ≠ [] := by simpa [idsOf] using hem
  have hlp : 0 < (idsOf (A.L c)).length := List.length_pos_iff.2 hne
  have hsc := hs.sim c hc
  have hse := hs.sim e he
  have hle := hs.len he
  have hadd := hs.addE2 he f1 hce f3
  have hfin := hs.move he hce f1 f3
  obtain ⟨hcap1, hcap2⟩ := hA.tcap
  generalize idsOf (A.L c) = v at *
  generalize (nthP (A.L c) 0).1 = id at *
  generalize (nthP (A.L c) 0).2 = due at *
  clear hE0 hft hem hlist hi1 hj1 hpos f1 f2 f3 k0 k2
  go_enter Tryd.func9, Tryd.ntmps9
  go_wp2_with (first
    | (go_at_call 31; refine hmay.mono ?_; rintro e w' ⟨rfl, k, rfl⟩)
    | (
      go_at_call 26
      refine (hL _).mono ?_
      rintro e w2 ⟨a2, c2, rfl, m2, i2, n2⟩
      obtain ⟨b, rfl, hb, hcell⟩ := i2.resolve_left hne
      have q0 := hcell 0 hlp
      rw [hn0] at q0
      have m3 := (mA k).trans m2 (by simp)
      have hB := hA.keep m3
      obtain ⟨k0, k1, k2⟩ := hB.tcells
      have kp := hB.tptr hcn
      clear hcell
      )
    | (
      go_at_call 20
      refine (hWh _ m3).mono ?_
      rintro e w4 ⟨rfl, k4, rfl⟩
      )
    | (
      go_at_call 34
      refine ((hB.keep (u' := w2.drewN k4) ((Mod.refl _ _).drewN _)).twheelDo hcn (fun F1 h1 => wheelR_Drop h1 hsc id)).mono ?_
      rintro e w5 ⟨rfl, hC⟩
      obtain ⟨w6, hrun, hD⟩ := hC.tput id e
      obtain ⟨i0, i1, i2⟩ := hC.tcells
      obtain ⟨j0, j1, j2⟩ := hD.tcells
      have kp := hD.tptr hen
      clear hC
      )
    | (
      go_at_call 33
      refine (hD.twheelDo hen (fun F1 h1 => by
        have h1 := h1
        simp only [upd_ne _ _ (Ne.symm hce)] at h1
        exact wheelR_Add h1 hse (by omega) id due)).mono ?_
      rintro e w7 ⟨rfl, hG⟩
      )
    )
  go_ret2
  exact ⟨rfl, On.timers (t := t.move c e id due) hG hfin⟩
end
end Go.Proofs.YthieionajemjhaaDoor
