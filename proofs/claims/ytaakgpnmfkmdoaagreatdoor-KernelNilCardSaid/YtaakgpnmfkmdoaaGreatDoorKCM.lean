/- Several texts in one (each with its own sentence below). -/
import Derived.Test.YtaakgpnmfkmdoaaGreatDoorKBM
import Derived.Test.YtaakgpnmfkmdoaaGreatDoorBaseM
import Derived.Test.YtaakgpnmfkmdoaaGreatDoorKAM
import Derived.Deep.MidRow
/- Where interrupts go (package route) in memory; the walks over its functions. No condition but those named. -/
namespace Go.Proofs.YtaakgpnmfkmdoaaGreatDoor
set_option linter.unusedVariables false
set_option linter.unusedSimpArgs false
open Go.RowKit

/-- Of 16 interrupts: the core plus one, or 0. -/
structure RT where
  n : Nat
  c : Nat → Int
def RT.ok (t : RT) : Prop := 1 ≤ t.n ∧ t.n ≤ 64 ∧ ∀ i, 0 ≤ t.c i ∧ t.c i ≤ 64
def irqIs (i : Int) : Prop := 0 ≤ i ∧ i < 16
instance instRoute1 (i : Int) : Decidable (irqIs i) := by unfold irqIs; infer_instance
def RT.put (t : RT) (i : Nat) (v : Int) : RT := { t with c := gupd t.c i v }
def mayI (i : Int) : Int := if irqIs i then 0 else 3
def RT.setE (t : RT) (i cpu : Int) : Int := if ¬ irqIs i then 3 else if cpu < 0 ∨ (t.n : Int) ≤ cpu then 3 else 0
def RT.set (t : RT) (i cpu : Int) : RT := if t.setE i cpu = 0 then t.put i.toNat (cpu + 1) else t
def RT.has (t : RT) (i : Int) : Bool := decide (irqIs i ∧ t.c i.toNat ≠ 0)
def RT.of (t : RT) (i : Int) : Int := if t.has i then t.c i.toNat - 1 else 0
def RT.offE (t : RT) (i : Int) : Int := if ¬ irqIs i then 3 else if t.c i.toNat = 0 then 4 else 0
def RT.off (t : RT) (i : Int) : RT := if t.offE i = 0 then t.put i.toNat 0 else t
def routeObj (t : RT) : Obj := .cells (blkV [] 16 (fun i => [.int .i64 (t.c i)]) [.int .i64 t.n]) 183 (0,0)
def routeR (b : Nat) (t : RT) : Res := Res.such t.ok (Res.blk b (routeObj t))
theorem RT.put_ok {t : RT} (h : t.ok) (i : Nat) {v : Int} (hv : 0 ≤ v ∧ v ≤ 64) : (t.put i v).ok := by
  refine ⟨h.1, h.2.1, fun j => ?_⟩
  show 0 ≤ gupd t.c i v j ∧ gupd t.c i v j ≤ 64
  by_cases e : j = i
  · subst e; rw [gupd_same]; exact hv
  · rw [gupd_ne _ _ e]; exact h.2.2 j
section
variable {F : List Nat} {w u : World} {b : Nat} {t : RT}
theorem route_view (h : (routeR b t).holds F w) : t.ok ∧ On F w [Res.blk b (routeObj t)] w := ⟨h.1, On.one h.2⟩
theorem On.route (h : On F w [Res.blk b (routeObj t)] u) (hok : t.ok) : Gain (routeR b t) F w u := h.gain1.imp fun F' h' => ⟨hok, h'⟩
theorem On.routeN (h : On F w [Res.blk b (routeObj t)] u) : u.cell? ⟨b, 16, none⟩ = some (.int .i64 t.n) := by
  rw [h.cell 0 rfl 16]
  exact (blkV_post (k := 1) (f := fun i => [.int .i64 (t.c i)]) (fun i => rfl) (j := 0) (o := 16) rfl)
theorem On.routeC (h : On F w [Res.blk b (routeObj t)] u) {i : Nat} (hi : i < 16) : u.cell? ⟨b, i, none⟩ = some (.int .i64 (t.c i)) := by
  rw [h.cell 0 rfl i]
  exact (blkV_get (k := 1) (f := fun i => [.int .i64 (t.c i)]) (fun i => rfl) hi (j := 0) (by decide) (by simp))
theorem On.routeSet (h : On F w [Res.blk b (routeObj t)] u) {i : Nat} (hi : i < 16) (v : Int) : On F w [Res.blk b (routeObj (t.put i v))] (u.setCell ⟨b, i, none⟩ (.int .i64 v)) := by
  have := h.set 0 rfl i (.int .i64 v)
  rw [blkV_set (k := 1) (f := fun i => [.int .i64 (t.c i)]) (fun i => rfl) hi (j := 0) (by decide) (.int .i64 v) (by simp)] at this
  have e : gupd (fun i => [Value.int .i64 (t.c i)]) i ([Value.int .i64 (t.c i)].set 0 (.int .i64 v)) = fun x => [Value.int .i64 ((t.put i v).c x)] := by
    funext x
    show _ = [Value.int .i64 (gupd t.c i v x)]
    by_cases ex : x = i
    · subst ex; rw [gupd_same, gupd_same]; rfl
    · rw [gupd_ne _ _ ex, gupd_ne _ _ ex]
  rw [e] at this
  exact this
theorem route_may (b : Nat) (i : Int) (w : World) : Calls Tryz.prog 215 #[.pointer (some ⟨b, 0, none⟩), .int .i64 i] w (Ret (.int .i64 (mayI i)) w) := by
  unfold mayI
  by_cases hi : irqIs i
  · rw [if_pos hi]
    obtain ⟨h1, h2⟩ := hi
    go_enter Tryz.func215, Tryz.ntmps215
    go_wp2
    go_ret
    exact Ret.of (rfl) (by repeat (first | exact Drew.refl _ | apply Drew.drewN | apply Drew.drew))
  · rw [if_neg hi]
    have h2 : i < 0 ∨ (¬ i < 0 ∧ (16 : Int) ≤ i) := by unfold irqIs at hi; omega
    clear hi
    rcases h2 with h2 | ⟨h1, h2⟩
    all_goals
      go_enter Tryz.func215, Tryz.ntmps215
      go_wp2
      go_ret
      exact Ret.of (rfl) (by repeat (first | exact Drew.refl _ | apply Drew.drewN | apply Drew.drew))
theorem route_Set (h : (routeR b t).holds F w) (i cpu : Int) : Calls Tryz.prog 213 #[.pointer (some ⟨b, 0, none⟩), .int .i64 i, .int .i64 cpu] w (Turns (routeR b (t.set i cpu)) F (.int .i64 (t.setE i cpu)) w) := by
  obtain ⟨hok, hA⟩ := route_view h
  have hM := fun w => route_may b i w
  have cn := hA.routeN
  have hO := Lib.hid hA
  by_cases hi : irqIs i
  · rw [show mayI i = 0 from if_pos hi] at hM
    by_cases hc : cpu < 0 ∨ (t.n : Int) ≤ cpu
    · have e1 : t.setE i cpu = 3 := by unfold RT.setE; rw [if_neg (by simpa using hi), if_pos hc]
      have e2 : t.set i cpu = t := if_neg (by rw [e1]; decide)
      rw [e1, e2]
      clear e1 e2 hA h
      obtain ⟨h1, h2⟩ := hi
      have hc2 : cpu < 0 ∨ (¬ cpu < 0 ∧ (t.n : Int) ≤ cpu) := by omega
      clear hc
      rcases hc2 with h3 | ⟨h3, h4⟩
      all_goals
        go_enter Tryz.func213, Tryz.ntmps213
        go_wp2_with (go_at_call 215; refine (hM _).mono ?_; rintro e w' ⟨rfl, k, rfl⟩)
        go_ret
        refine ⟨rfl, (hO.out.keep ?_).route hok⟩
        repeat (first | with_reducible exact Mod.refl _ _ | with_reducible apply Mod.alloc | with_reducible apply Mod.drewN | with_reducible apply Mod.drew | with_reducible refine Mod.setCell ?_ (by first | (simp; done) | (simp; omega)) _)
    · have e1 : t.setE i cpu = 0 := by unfold RT.setE; rw [if_neg (by simpa using hi), if_neg hc]
      have e2 : t.set i cpu = t.put i.toNat (cpu + 1) := if_pos e1
      rw [e1, e2]
      clear e1 e2 h
      obtain ⟨h1, h2⟩ := hi
      obtain ⟨j, rfl⟩ := Int.eq_ofNat_of_zero_le h1
      obtain ⟨h3, h4⟩ : 0 ≤ cpu ∧ cpu < t.n := by omega
      have hn := hok.2.1
      clear hc
      have hj : j < 16 := by omega
      have cj := hA.routeC hj
      have fj : w.frozen? ⟨b, j, none⟩ = false := hA.free 0 rfl _
      clear hA
      simp only [Int.toNat_natCast]
      go_enter Tryz.func213, Tryz.ntmps213
      go_wp2_with (go_at_call 215; refine (hM _).mono ?_; rintro e w' ⟨rfl, k, rfl⟩)
      go_ret
      refine ⟨rfl, ?_⟩
      refine On.route ?_ (RT.put_ok hok j (by omega))
      refine On.routeSet ?_ hj _
      exact hO.out.keep (by repeat (first | exact Mod.refl _ _ | apply Mod.drewN | apply Mod.drew))
  · rw [show mayI i = 3 from if_neg hi] at hM
    have e1 : t.setE i cpu = 3 := if_pos hi
    have e2 : t.set i cpu = t := if_neg (by rw [e1]; decide)
    rw [e1, e2]
    clear e1 e2 hA h
    go_enter Tryz.func213, Tryz.ntmps213
    go_wp2_with (go_at_call 215; refine (hM _).mono ?_; rintro e w' ⟨rfl, k, rfl⟩)
    go_ret
    refine ⟨rfl, (hO.out.keep ?_).route hok⟩
    repeat (first | with_reducible exact Mod.refl _ _ | with_reducible apply Mod.alloc | with_reducible apply Mod.drewN | with_reducible apply Mod.drew | with_reducible refine Mod.setCell ?_ (by first | (simp; done) | (simp; omega)) _)
theorem route_Off (h : (routeR b t).holds F w) (i : Int) : Calls Tryz.prog 124 #[.pointer (some ⟨b, 0, none⟩), .int .i64 i] w (Turns (routeR b (t.off i)) F (.int .i64 (t.offE i)) w) := by
  obtain ⟨hok, hA⟩ := route_view h
  have hM := fun w => route_may b i w
  have hO := Lib.hid hA
  by_cases hi : irqIs i
  · rw [show mayI i = 0 from if_pos hi] at hM
    by_cases hc : t.c i.toNat = 0
    · have e1 : t.offE i = 4 := by unfold RT.offE; rw [if_neg (by simpa using hi), if_pos hc]
      have e2 : t.off i = t := if_neg (by rw [e1]; decide)
      rw [e1, e2]
      clear e1 e2 h
      obtain ⟨h1, h2⟩ := hi
      obtain ⟨j, rfl⟩ := Int.eq_ofNat_of_zero_le h1
      simp only [Int.toNat_natCast] at *
      have hj : j < 16 := by omega
      have cj := hA.routeC hj
      rw [hc] at cj
      clear hA hc
      go_enter Tryz.func124, Tryz.ntmps124
      go_wp2_with (go_at_call 215; refine (hM _).mono ?_; rintro e w' ⟨rfl, k, rfl⟩)
      go_ret
      refine ⟨rfl, (hO.out.keep ?_).route hok⟩
      repeat (first | with_reducible exact Mod.refl _ _ | with_reducible apply Mod.alloc | with_reducible apply Mod.drewN | with_reducible apply Mod.drew | with_reducible refine Mod.setCell ?_ (by first | (simp; done) | (simp; omega)) _)
    · have e1 : t.offE i = 0 := by unfold RT.offE; rw [if_neg (by simpa using hi), if_neg hc]
      have e2 : t.off i = t.put i.toNat 0 := if_pos e1
      rw [e1, e2]
      clear e1 e2 h
      obtain ⟨h1, h2⟩ := hi
      obtain ⟨j, rfl⟩ := Int.eq_ofNat_of_zero_le h1
      simp only [Int.toNat_natCast] at *
      have hj : j < 16 := by omega
      have cj := hA.routeC hj
      have fj : w.frozen? ⟨b, j, none⟩ = false := hA.free 0 rfl _
      have hc2 : (t.c j == 0) = false := by simp [hc]
      clear hA
      go_enter Tryz.func124, Tryz.ntmps124
      go_wp2_with (go_at_call 215; refine (hM _).mono ?_; rintro e w' ⟨rfl, k, rfl⟩)
      go_ret
      refine ⟨rfl, ?_⟩
      refine On.route ?_ (RT.put_ok hok j (by omega))
      refine On.routeSet ?_ hj _
      exact hO.out.keep (by repeat (first | exact Mod.refl _ _ | apply Mod.drewN | apply Mod.drew))
  · rw [show mayI i = 3 from if_neg hi] at hM
    have e1 : t.offE i = 3 := if_pos hi
    have e2 : t.off i = t := if_neg (by rw [e1]; decide)
    rw [e1, e2]
    clear e1 e2 hA h
    go_enter Tryz.func124, Tryz.ntmps124
    go_wp2_with (go_at_call 215; refine (hM _).mono ?_; rintro e w' ⟨rfl, k, rfl⟩)
    go_ret
    refine ⟨rfl, (hO.out.keep ?_).route hok⟩
    repeat (first | with_reducible exact Mod.refl _ _ | with_reducible apply Mod.alloc | with_reducible apply Mod.drewN | with_reducible apply Mod.drew | with_reducible refine Mod.setCell ?_ (by first | (simp; done) | (simp; omega)) _)
theorem route_Of (h : (routeR b t).holds F w) (i : Int) : Calls Tryz.prog 161 #[.pointer (some ⟨b, 0, none⟩), .int .i64 i] w (Ret (.tuple #[.int .i64 (t.of i), .bool (t.has i)]) w) := by
  obtain ⟨hok, hA⟩ := route_view h
  have hM := fun w => route_may b i w
  by_cases hi : irqIs i
  · rw [show mayI i = 0 from if_pos hi] at hM
    by_cases hc : t.c i.toNat = 0
    · have e1 : t.has i = false := decide_eq_false (by rintro ⟨_, h⟩; exact h hc)
      have e2 : t.of i = 0 := if_neg (by rw [e1]; decide)
      rw [e1, e2]
      clear e1 e2 h
      obtain ⟨h1, h2⟩ := hi
      obtain ⟨j, rfl⟩ := Int.eq_ofNat_of_zero_le h1
      simp only [Int.toNat_natCast] at *
      have hj : j < 16 := by omega
      have cj := hA.routeC hj
      rw [hc] at cj
      clear hA hc
      go_enter Tryz.func161, Tryz.ntmps161
      go_wp2_with (go_at_call 215; refine (hM _).mono ?_; rintro e w' ⟨rfl, k, rfl⟩)
      go_ret2
      exact Ret.of (rfl) (by repeat (first | exact Drew.refl _ | apply Drew.drewN | apply Drew.drew))
    · have e1 : t.has i = true := decide_eq_true ⟨hi, hc⟩
      have e2 : t.of i = t.c i.toNat - 1 := if_pos e1
      rw [e1, e2]
      clear e1 e2 h
      obtain ⟨h1, h2⟩ := hi
      obtain ⟨j, rfl⟩ := Int.eq_ofNat_of_zero_le h1
      simp only [Int.toNat_natCast] at *
      have hj : j < 16 := by omega
      have cj := hA.routeC hj
      have hcb := hok.2.2 j
      have hc2 : (t.c j == 0) = false := by simp [hc]
      clear hA hok
      generalize t.c j = x at *
      obtain ⟨hx1, hx2⟩ := hcb
      go_enter Tryz.func161, Tryz.ntmps161
      go_wp2_with (go_at_call 215; refine (hM _).mono ?_; rintro e w' ⟨rfl, k, rfl⟩)
      go_ret2
      exact Ret.of (rfl) (by repeat (first | exact Drew.refl _ | apply Drew.drewN | apply Drew.drew))
  · rw [show mayI i = 3 from if_neg hi] at hM
    have e1 : t.has i = false := decide_eq_false (by rintro ⟨h, _⟩; exact hi h)
    have e2 : t.of i = 0 := if_neg (by rw [e1]; decide)
    rw [e1, e2]
    clear e1 e2 hA h
    go_enter Tryz.func161, Tryz.ntmps161
    go_wp2_with (go_at_call 215; refine (hM _).mono ?_; rintro e w' ⟨rfl, k, rfl⟩)
    go_ret2
    exact Ret.of (rfl) (by repeat (first | exact Drew.refl _ | apply Drew.drewN | apply Drew.drew))
end
end Go.Proofs.YtaakgpnmfkmdoaaGreatDoor

/- The table of interrupts (package irq) in memory; the walks over its functions. No condition but those named. -/
namespace Go.Proofs.YtaakgpnmfkmdoaaGreatDoor
set_option linter.unusedVariables false
set_option linter.unusedSimpArgs false
open Go.RowKit

structure IrqS where
  wanted : Bool
  masked : Bool
  pending : Bool
  mask : Nat
def irqV (x : IrqS) : List Value := [.bool x.wanted, .bool x.masked, .bool x.pending, .int .u64 (x.mask : Nat)]
def irq0 : IrqS := ⟨false, false, false, 0⟩
structure IT where
  cpus : Nat
  c : Nat → IrqS
def IT.ok (t : IT) : Prop := t.cpus < 2 ^ 64 ∧ ∀ i, (t.c i).mask < 2 ^ 64
def IT.put (t : IT) (i : Nat) (x : IrqS) : IT := { t with c := gupd t.c i x }
def IT.at (t : IT) (i : Int) : IrqS := t.c i.toNat
def IT.right (t : IT) (m : Nat) : Bool := decide (m ≠ 0) && decide (andnM m t.cpus = 0)
def IT.wantE (t : IT) (i : Int) : Int := if ¬ irqIs i then 3 else if (t.at i).wanted then 0 else 4
def IT.reqE (t : IT) (i : Int) (m : Nat) : Int := if ¬ irqIs i then 3 else if (t.at i).wanted then 6 else if t.right m then 0 else 2
def IT.req (t : IT) (i : Int) (m : Nat) : IT := if t.reqE i m = 0 then t.put i.toNat ⟨true, false, false, m⟩ else t
def IT.free (t : IT) (i : Int) : IT := if t.wantE i = 0 then t.put i.toNat irq0 else t
def IT.aimE (t : IT) (i : Int) (m : Nat) : Int := if t.wantE i ≠ 0 then t.wantE i else if t.right m then 0 else 2
def IT.aim (t : IT) (i : Int) (m : Nat) : IT := if t.aimE i m = 0 then t.put i.toNat { t.at i with mask := m } else t
def IT.hushE (t : IT) (i : Int) (is : Bool) : Int := if t.wantE i ≠ 0 then t.wantE i else if (t.at i).masked = is then 6 else 0
def IT.hush (t : IT) (i : Int) (is : Bool) : IT := if t.hushE i is = 0 then t.put i.toNat { t.at i with masked := is } else t
def IT.raise (t : IT) (i : Int) : IT := if t.wantE i = 0 then t.put i.toNat { t.at i with pending := true } else t
def IT.ready (t : IT) (i : Int) : Bool := decide (t.wantE i = 0) && (t.at i).pending && !(t.at i).masked
def IT.clearE (t : IT) (i : Int) : Int := if t.wantE i ≠ 0 then t.wantE i else if t.ready i then 0 else 12
def IT.clear (t : IT) (i : Int) : IT := if t.clearE i = 0 then t.put i.toNat { t.at i with pending := false } else t
def irqObj (t : IT) : Obj := .cells (blkV [] 16 (fun i => irqV (t.c i)) [.int .u64 (t.cpus : Nat)]) 180 (0,0)
def irqR (b : Nat) (t : IT) : Res := Res.such t.ok (Res.blk b (irqObj t))
theorem IT.put_ok {t : IT} (h : t.ok) (i : Nat) {x : IrqS} (hx : x.mask < 2 ^ 64) : (t.put i x).ok := by
  refine ⟨h.1, fun j => ?_⟩
  show (gupd t.c i x j).mask < _
  by_cases e : j = i
  · subst e; rw [gupd_same]; exact hx
  · rw [gupd_ne _ _ e]; exact h.2 j
theorem IT.put_self (t : IT) (i : Nat) : t.put i (t.c i) = t := by
  cases t with
  | mk n c =>
    show IT.mk n (gupd c i (c i)) = _
    congr 1
    funext x
    by_cases e : x = i
    · subst e; exact gupd_same _ _ _
    · exact gupd_ne _ _ e
section
variable {F : List Nat} {w u : World} {b : Nat} {t : IT}
theorem irq_view (h : (irqR b t).holds F w) : t.ok ∧ On F w [Res.blk b (irqObj t)] w := ⟨h.1, On.one h.2⟩
theorem On.irq (h : On F w [Res.blk b (irqObj t)] u) (hok : t.ok) : Gain (irqR b t) F w u := h.gain1.imp fun F' h' => ⟨hok, h'⟩
theorem On.irqN (h : On F w [Res.blk b (irqObj t)] u) : u.cell? ⟨b, 64, none⟩ = some (.int .u64 (t.cpus : Nat)) := by
  rw [h.cell 0 rfl 64]
  exact (blkV_post (k := 4) (f := fun i => irqV (t.c i)) (fun i => rfl) (j := 0) (o := 64) rfl)
theorem On.irqC (h : On F w [Res.blk b (irqObj t)] u) {i : Nat} (hi : i < 16) (j : Nat) (hj : j < 4) : u.cell? ⟨b, i * 4 + j, none⟩ = (irqV (t.c i))[j]? := by
  rw [h.cell 0 rfl (i * 4 + j)]
  exact (blkV_get (k := 4) (f := fun i => irqV (t.c i)) (fun i => rfl) hi (j := j) hj (by simp))
theorem On.irqSet (h : On F w [Res.blk b (irqObj t)] u) {i : Nat} (hi : i < 16) (j : Nat) (hj : j < 4) (v : Value) {x' : IrqS} (hc : (irqV (t.c i)).set j v = irqV x') : On F w [Res.blk b (irqObj (t.put i x'))] (u.setCell ⟨b, i * 4 + j, none⟩ v) := by
  have := h.set 0 rfl (i * 4 + j) v
  rw [blkV_set (k := 4) (f := fun i => irqV (t.c i)) (fun i => rfl) hi (j := j) hj v (by simp)] at this
  have e : gupd (fun i => irqV (t.c i)) i ((irqV (t.c i)).set j v) = fun x => irqV ((t.put i x').c x) := by
    funext x
    show _ = irqV (gupd t.c i x' x)
    by_cases ex : x = i
    · subst ex; rw [gupd_same, gupd_same, hc]
    · rw [gupd_ne _ _ ex, gupd_ne _ _ ex]
  rw [e] at this
  exact this
theorem On.irqPut {x : IrqS} {i : Nat} (h : On F w [Res.blk b (irqObj (t.put i x))] u) (hi : i < 16) (j : Nat) (hj : j < 4) (v : Value) {x' : IrqS} (hc : (irqV x).set j v = irqV x') : On F w [Res.blk b (irqObj (t.put i x'))] (u.setCell ⟨b, i * 4 + j, none⟩ v) := by
  have e : (t.put i x).c i = x := gupd_same _ _ _
  have := h.irqSet (i := i) hi j hj v (x' := x') (by rw [e]; exact hc)
  have e2 : (t.put i x).put i x' = t.put i x' := by
    show IT.mk t.cpus _ = IT.mk t.cpus _
    congr 1
    funext z
    by_cases e : z = i
    · subst e; rw [gupd_same, gupd_same]
    · rw [gupd_ne _ _ e, gupd_ne _ _ e]; exact gupd_ne _ _ e
  rwa [e2] at this
theorem irq_find (b : Nat) (i : Int) (w : World) : Calls Tryz.prog 210 #[.pointer (some ⟨b, 0, none⟩), .int .i64 i] w (Ret (.tuple #[.pointer (if irqIs i then some ⟨b, i.toNat * 4, none⟩ else none), .int .i64 (mayI i)]) w) := by
  unfold mayI
  by_cases hi : irqIs i
  · rw [if_pos hi, if_pos hi]
    obtain ⟨h1, h2⟩ := hi
    obtain ⟨c, rfl⟩ := Int.eq_ofNat_of_zero_le h1
    simp only [Int.toNat_natCast]
    go_enter Tryz.func210, Tryz.ntmps210
    go_wp2
    go_ret2
    exact Ret.of (by simp) (by repeat (first | exact Drew.refl _ | apply Drew.drewN | apply Drew.drew))
  · rw [if_neg hi, if_neg hi]
    have h2 : i < 0 ∨ (¬ i < 0 ∧ (16 : Int) ≤ i) := by unfold irqIs at hi; omega
    clear hi
    rcases h2 with h2 | ⟨h1, h2⟩
    all_goals
      go_enter Tryz.func210, Tryz.ntmps210
      go_wp2
      go_ret2
      exact Ret.of (rfl) (by repeat (first | exact Drew.refl _ | apply Drew.drewN | apply Drew.drew))
theorem irq_wanted (hok : t.ok) (hA : On F w [Res.blk b (irqObj t)] w) (i : Int) : Calls Tryz.prog 214 #[.pointer (some ⟨b, 0, none⟩), .int .i64 i] w (Ret (.tuple #[.pointer (if t.wantE i = 0 then some ⟨b, i.toNat * 4, none⟩ else none), .int .i64 (t.wantE i)]) w) := by
  have hM := fun w => irq_find b i w
  by_cases hi : irqIs i
  · rw [show mayI i = 0 from if_pos hi, if_pos hi] at hM
    by_cases hw : (t.at i).wanted
    · have e1 : t.wantE i = 0 := by unfold IT.wantE; rw [if_neg (by simpa using hi), if_pos hw]
      rw [e1, if_pos rfl]
      clear e1
      obtain ⟨h1, h2⟩ := hi
      obtain ⟨j, rfl⟩ := Int.eq_ofNat_of_zero_le h1
      have hj : j < 16 := by omega
      simp only [IT.at, Int.toNat_natCast] at *
      have hB := Lib.hid (show On F w [Res.blk b (irqObj (t.put j (t.c j)))] w by rw [IT.put_self]; exact hA)
      have c0 : w.cell? ⟨b, j * 4, none⟩ = some (.bool (t.c j).wanted) := hA.irqC hj 0 (by decide)
      have c1 : w.cell? ⟨b, j * 4 + 1, none⟩ = some (.bool (t.c j).masked) := hA.irqC hj 1 (by decide)
      have c2 : w.cell? ⟨b, j * 4 + 2, none⟩ = some (.bool (t.c j).pending) := hA.irqC hj 2 (by decide)
      have c3 : w.cell? ⟨b, j * 4 + 3, none⟩ = some (.int .u64 ((t.c j).mask : Nat)) := hA.irqC hj 3 (by decide)
      have f0 : w.frozen? ⟨b, j * 4, none⟩ = false := hA.free 0 rfl _
      have f1 : w.frozen? ⟨b, j * 4 + 1, none⟩ = false := hA.free 0 rfl _
      have f2 : w.frozen? ⟨b, j * 4 + 2, none⟩ = false := hA.free 0 rfl _
      have f3 : w.frozen? ⟨b, j * 4 + 3, none⟩ = false := hA.free 0 rfl _
      have hmk := hok.2 j
      generalize t.c j = x at *
      clear hA
      obtain ⟨wa, ma, pe, mk⟩ := x
      dsimp only at *
      subst hw
      go_enter Tryz.func214, Tryz.ntmps214
      go_wp2_with (go_at_call 210; refine (hM _).mono ?_; rintro e w' ⟨rfl, k, rfl⟩)
      go_ret2
      exact Ret.of (rfl) (by repeat (first | exact Drew.refl _ | apply Drew.drewN | apply Drew.drew))
    · have e1 : t.wantE i = 4 := by unfold IT.wantE; rw [if_neg (by simpa using hi), if_neg hw]
      rw [e1, if_neg (by decide)]
      clear e1
      obtain ⟨h1, h2⟩ := hi
      obtain ⟨j, rfl⟩ := Int.eq_ofNat_of_zero_le h1
      have hj : j < 16 := by omega
      simp only [IT.at, Int.toNat_natCast] at *
      have hB := Lib.hid (show On F w [Res.blk b (irqObj (t.put j (t.c j)))] w by rw [IT.put_self]; exact hA)
      have c0 : w.cell? ⟨b, j * 4, none⟩ = some (.bool (t.c j).wanted) := hA.irqC hj 0 (by decide)
      have c1 : w.cell? ⟨b, j * 4 + 1, none⟩ = some (.bool (t.c j).masked) := hA.irqC hj 1 (by decide)
      have c2 : w.cell? ⟨b, j * 4 + 2, none⟩ = some (.bool (t.c j).pending) := hA.irqC hj 2 (by decide)
      have c3 : w.cell? ⟨b, j * 4 + 3, none⟩ = some (.int .u64 ((t.c j).mask : Nat)) := hA.irqC hj 3 (by decide)
      have f0 : w.frozen? ⟨b, j * 4, none⟩ = false := hA.free 0 rfl _
      have f1 : w.frozen? ⟨b, j * 4 + 1, none⟩ = false := hA.free 0 rfl _
      have f2 : w.frozen? ⟨b, j * 4 + 2, none⟩ = false := hA.free 0 rfl _
      have f3 : w.frozen? ⟨b, j * 4 + 3, none⟩ = false := hA.free 0 rfl _
      have hmk := hok.2 j
      generalize t.c j = x at *
      clear hA
      obtain ⟨wa, ma, pe, mk⟩ := x
      dsimp only at *
      have hw : wa = false := by simpa using hw
      subst hw
      go_enter Tryz.func214, Tryz.ntmps214
      go_wp2_with (go_at_call 210; refine (hM _).mono ?_; rintro e w' ⟨rfl, k, rfl⟩)
      go_ret2
      exact Ret.of (rfl) (by repeat (first | exact Drew.refl _ | apply Drew.drewN | apply Drew.drew))
  · have e1 : t.wantE i = 3 := if_pos hi
    rw [show mayI i = 3 from if_neg hi, if_neg hi] at hM
    rw [e1, if_neg (by decide)]
    clear e1 hA
    go_enter Tryz.func214, Tryz.ntmps214
    go_wp2_with (go_at_call 210; refine (hM _).mono ?_; rintro e w' ⟨rfl, k, rfl⟩)
    go_ret2
    exact Ret.of (rfl) (by repeat (first | exact Drew.refl _ | apply Drew.drewN | apply Drew.drew))
theorem irq_right (hok : t.ok) (hA : On F w [Res.blk b (irqObj t)] u) (m : Nat) (hm : m < 2 ^ 64) : Calls Tryz.prog 211 #[.pointer (some ⟨b, 0, none⟩), .int .u64 (m : Nat)] u (Ret (.bool (t.right m)) u) := by
  have c0 := hA.irqN
  have hW := fun w => mask_Within m t.cpus hm hok.1 w
  unfold IT.right
  generalize t.cpus = x at *
  clear hA
  by_cases h0 : m = 0
  · subst h0
    go_enter Tryz.func211, Tryz.ntmps211
    go_wp2
    go_ret
    exact Ret.of (by simp) (by repeat (first | exact Drew.refl _ | apply Drew.drewN | apply Drew.drew))
  · have hne : ((m : Int) == 0) = false := by simp; omega
    have h1 : decide (m ≠ 0) = true := by simp [h0]
    rw [h1]
    generalize decide (andnM m x = 0) = y at *
    go_enter Tryz.func211, Tryz.ntmps211
    go_wp2_with (go_at_call 14; refine (hW _).mono ?_; rintro e w' ⟨rfl, k, rfl⟩)
    go_ret
    exact Ret.of (by simp [h0]) (by repeat (first | exact Drew.refl _ | apply Drew.drewN | apply Drew.drew))
theorem want_is {i : Int} (h : t.wantE i = 0) : irqIs i := by
  by_cases hi : irqIs i
  · exact hi
  · unfold IT.wantE at h; rw [if_pos hi] at h; omega
theorem want_wanted {i : Int} (h : t.wantE i = 0) : (t.at i).wanted = true := by
  have hi := want_is h
  unfold IT.wantE at h
  rw [if_neg (by simpa using hi)] at h
  by_cases hw : (t.at i).wanted
  · exact hw
  · rw [if_neg hw] at h; omega
theorem irq_Free (h : (irqR b t).holds F w) (i : Int) : Calls Tryz.prog 122 #[.pointer (some ⟨b, 0, none⟩), .int .i64 i] w (Turns (irqR b (t.free i)) F (.int .i64 (t.wantE i)) w) := by
  obtain ⟨hok, hA⟩ := irq_view h
  have hM := irq_wanted hok hA i
  have hO := Lib.hid hA
  clear h
  by_cases hi : t.wantE i = 0
  · rw [show t.free i = t.put i.toNat irq0 from if_pos hi, hi]
    have hi2 := hi
    replace hi := want_is hi
    rw [hi2, if_pos rfl] at hM
    have hwt := want_wanted hi2
    clear hi2
    obtain ⟨h1, h2⟩ := hi
    obtain ⟨j, rfl⟩ := Int.eq_ofNat_of_zero_le h1
    have hj : j < 16 := by omega
    simp only [IT.at, Int.toNat_natCast] at *
    have hB := Lib.hid (show On F w [Res.blk b (irqObj (t.put j (t.c j)))] w by rw [IT.put_self]; exact hA)
    have c0 : w.cell? ⟨b, j * 4, none⟩ = some (.bool (t.c j).wanted) := hA.irqC hj 0 (by decide)
    have c1 : w.cell? ⟨b, j * 4 + 1, none⟩ = some (.bool (t.c j).masked) := hA.irqC hj 1 (by decide)
    have c2 : w.cell? ⟨b, j * 4 + 2, none⟩ = some (.bool (t.c j).pending) := hA.irqC hj 2 (by decide)
    have c3 : w.cell? ⟨b, j * 4 + 3, none⟩ = some (.int .u64 ((t.c j).mask : Nat)) := hA.irqC hj 3 (by decide)
    have f0 : w.frozen? ⟨b, j * 4, none⟩ = false := hA.free 0 rfl _
    have f1 : w.frozen? ⟨b, j * 4 + 1, none⟩ = false := hA.free 0 rfl _
    have f2 : w.frozen? ⟨b, j * 4 + 2, none⟩ = false := hA.free 0 rfl _
    have f3 : w.frozen? ⟨b, j * 4 + 3, none⟩ = false := hA.free 0 rfl _
    have hmk := hok.2 j
    generalize t.c j = x at *
    clear hA
    obtain ⟨wa, ma, pe, mk⟩ := x
    dsimp only at *
    subst hwt
    go_enter Tryz.func122, Tryz.ntmps122
    go_wp2_with (go_at_call 214; refine hM.mono ?_; rintro e w' ⟨rfl, k, rfl⟩)
    go_ret
    refine ⟨rfl, ?_⟩
    refine On.irq ?_ (IT.put_ok hok j (by decide))
    refine ((((?_ : On F w _ _).irqPut hj 0 (by decide) (.bool false) (x := ⟨true, ma, pe, mk⟩) (x' := ⟨false, ma, pe, mk⟩) rfl).irqPut hj 1 (by decide) (.bool false) (x' := ⟨false, false, pe, mk⟩) rfl).irqPut hj 2 (by decide) (.bool false) (x' := ⟨false, false, false, mk⟩) rfl).irqPut hj 3 (by decide) (.int .u64 0) (x' := irq0) rfl
    exact hB.out.keep (by repeat (first | exact Mod.refl _ _ | apply Mod.drewN | apply Mod.drew))
  · rw [show t.free i = t from if_neg hi]
    have he : (t.wantE i == 0) = false := by simp [hi]
    rw [if_neg hi] at hM
    generalize t.wantE i = e1 at *
    clear hA
    go_enter Tryz.func122, Tryz.ntmps122
    go_wp2_with (go_at_call 214; refine hM.mono ?_; rintro e w' ⟨rfl, k, rfl⟩)
    go_ret
    refine ⟨rfl, (hO.out.keep ?_).irq hok⟩
    repeat (first | with_reducible exact Mod.refl _ _ | with_reducible apply Mod.alloc | with_reducible apply Mod.drewN | with_reducible apply Mod.drew | with_reducible refine Mod.setCell ?_ (by first | (simp; done) | (simp; omega)) _)
theorem irq_Raise (h : (irqR b t).holds F w) (i : Int) : Calls Tryz.prog 130 #[.pointer (some ⟨b, 0, none⟩), .int .i64 i] w (Turns (irqR b (t.raise i)) F (.int .i64 (t.wantE i)) w) := by
  obtain ⟨hok, hA⟩ := irq_view h
  have hM := irq_wanted hok hA i
  have hO := Lib.hid hA
  clear h
  by_cases hi : t.wantE i = 0
  · rw [show t.raise i = t.put i.toNat { t.at i with pending := true } from if_pos hi, hi]
    have hi2 := hi
    replace hi := want_is hi
    rw [hi2, if_pos rfl] at hM
    have hwt := want_wanted hi2
    clear hi2
    obtain ⟨h1, h2⟩ := hi
    obtain ⟨j, rfl⟩ := Int.eq_ofNat_of_zero_le h1
    have hj : j < 16 := by omega
    simp only [IT.at, Int.toNat_natCast] at *
    have hB := Lib.hid (show On F w [Res.blk b (irqObj (t.put j (t.c j)))] w by rw [IT.put_self]; exact hA)
    have c0 : w.cell? ⟨b, j * 4, none⟩ = some (.bool (t.c j).wanted) := hA.irqC hj 0 (by decide)
    have c1 : w.cell? ⟨b, j * 4 + 1, none⟩ = some (.bool (t.c j).masked) := hA.irqC hj 1 (by decide)
    have c2 : w.cell? ⟨b, j * 4 + 2, none⟩ = some (.bool (t.c j).pending) := hA.irqC hj 2 (by decide)
    have c3 : w.cell? ⟨b, j * 4 + 3, none⟩ = some (.int .u64 ((t.c j).mask : Nat)) := hA.irqC hj 3 (by decide)
    have f0 : w.frozen? ⟨b, j * 4, none⟩ = false := hA.free 0 rfl _
    have f1 : w.frozen? ⟨b, j * 4 + 1, none⟩ = false := hA.free 0 rfl _
    have f2 : w.frozen? ⟨b, j * 4 + 2, none⟩ = false := hA.free 0 rfl _
    have f3 : w.frozen? ⟨b, j * 4 + 3, none⟩ = false := hA.free 0 rfl _
    have hmk := hok.2 j
    generalize t.c j = x at *
    clear hA
    obtain ⟨wa, ma, pe, mk⟩ := x
    dsimp only at *
    subst hwt
    go_enter Tryz.func130, Tryz.ntmps130
    go_wp2_with (go_at_call 214; refine hM.mono ?_; rintro e w' ⟨rfl, k, rfl⟩)
    go_ret
    refine ⟨rfl, ?_⟩
    refine On.irq ?_ (IT.put_ok hok j hmk)
    refine (?_ : On F w _ _).irqPut hj 2 (by decide) (.bool true) (x := ⟨true, ma, pe, mk⟩) (x' := ⟨true, ma, true, mk⟩) rfl
    exact hB.out.keep (by repeat (first | exact Mod.refl _ _ | apply Mod.drewN | apply Mod.drew))
  · rw [show t.raise i = t from if_neg hi]
    have he : (t.wantE i == 0) = false := by simp [hi]
    rw [if_neg hi] at hM
    generalize t.wantE i = e1 at *
    clear hA
    go_enter Tryz.func130, Tryz.ntmps130
    go_wp2_with (go_at_call 214; refine hM.mono ?_; rintro e w' ⟨rfl, k, rfl⟩)
    go_ret
    refine ⟨rfl, (hO.out.keep ?_).irq hok⟩
    repeat (first | with_reducible exact Mod.refl _ _ | with_reducible apply Mod.alloc | with_reducible apply Mod.drewN | with_reducible apply Mod.drew | with_reducible refine Mod.setCell ?_ (by first | (simp; done) | (simp; omega)) _)
end
end Go.Proofs.YtaakgpnmfkmdoaaGreatDoor

/- The walks over the table of interrupts: Request, Aim, Hush, Unhush, Ready, Clear, Get, New. No condition but those named. -/
namespace Go.Proofs.YtaakgpnmfkmdoaaGreatDoor
set_option linter.unusedVariables false
set_option linter.unusedSimpArgs false
open Go.RowKit

section
variable {F : List Nat} {w u : World} {b : Nat} {t : IT}
theorem irq_rightW (hok : t.ok) (hA : On F w [Res.blk b (irqObj t)] w) (m : Nat) (hm : m < 2 ^ 64) (k : Nat) : Calls Tryz.prog 211 #[.pointer (some ⟨b, 0, none⟩), .int .u64 (m : Nat)] (w.drewN k) (Ret (.bool (t.right m)) (w.drewN k)) := irq_right hok (hA.keep ((Mod.refl _ _).drewN k)) m hm
theorem irq_Aim (h : (irqR b t).holds F w) (i : Int) (m : Nat) (hm : m < 2 ^ 64) : Calls Tryz.prog 125 #[.pointer (some ⟨b, 0, none⟩), .int .i64 i, .int .u64 (m : Nat)] w (Turns (irqR b (t.aim i m)) F (.int .i64 (t.aimE i m)) w) := by
  obtain ⟨hok, hA⟩ := irq_view h
  have hM := irq_wanted hok hA i
  have hO := Lib.hid hA
  clear h
  have hR := irq_rightW hok hA m hm
  by_cases hi : t.wantE i = 0
  · cases hr : t.right m
    · have e1 : t.aimE i m = 2 := by unfold IT.aimE; rw [if_neg (by simpa using hi), if_neg (by rw [hr]; decide)]
      rw [show t.aim i m = t from if_neg (by rw [e1]; decide), e1]
      rw [hr] at hR
      clear e1 hr
      have hi2 := hi
      replace hi := want_is hi
      rw [hi2, if_pos rfl] at hM
      have hwt := want_wanted hi2
      clear hi2
      obtain ⟨h1, h2⟩ := hi
      obtain ⟨j, rfl⟩ := Int.eq_ofNat_of_zero_le h1
      have hj : j < 16 := by omega
      simp only [IT.at, Int.toNat_natCast] at *
      have hB := Lib.hid (show On F w [Res.blk b (irqObj (t.put j (t.c j)))] w by rw [IT.put_self]; exact hA)
      have c0 : w.cell? ⟨b, j * 4, none⟩ = some (.bool (t.c j).wanted) := hA.irqC hj 0 (by decide)
      have c1 : w.cell? ⟨b, j * 4 + 1, none⟩ = some (.bool (t.c j).masked) := hA.irqC hj 1 (by decide)
      have c2 : w.cell? ⟨b, j * 4 + 2, none⟩ = some (.bool (t.c j).pending) := hA.irqC hj 2 (by decide)
      have c3 : w.cell? ⟨b, j * 4 + 3, none⟩ = some (.int .u64 ((t.c j).mask : Nat)) := hA.irqC hj 3 (by decide)
      have f0 : w.frozen? ⟨b, j * 4, none⟩ = false := hA.free 0 rfl _
      have f1 : w.frozen? ⟨b, j * 4 + 1, none⟩ = false := hA.free 0 rfl _
      have f2 : w.frozen? ⟨b, j * 4 + 2, none⟩ = false := hA.free 0 rfl _
      have f3 : w.frozen? ⟨b, j * 4 + 3, none⟩ = false := hA.free 0 rfl _
      have hmk := hok.2 j
      generalize t.c j = x at *
      clear hA
      obtain ⟨wa, ma, pe, mk⟩ := x
      dsimp only at *
      subst hwt
      go_enter Tryz.func125, Tryz.ntmps125
      go_wp2_with (first
        | (go_at_call 214; refine hM.mono ?_; rintro e w' ⟨rfl, k, rfl⟩)
        | (go_at_call 211; refine (hR _).mono ?_; rintro e w' ⟨rfl, k2, rfl⟩))
      go_ret
      refine ⟨rfl, (hO.out.keep ?_).irq hok⟩
      repeat (first | with_reducible exact Mod.refl _ _ | with_reducible apply Mod.alloc | with_reducible apply Mod.drewN | with_reducible apply Mod.drew | with_reducible refine Mod.setCell ?_ (by first | (simp; done) | (simp; omega)) _)
    · have e1 : t.aimE i m = 0 := by unfold IT.aimE; rw [if_neg (by simpa using hi), if_pos hr]
      rw [show t.aim i m = t.put i.toNat { t.at i with mask := m } from if_pos e1, e1]
      rw [hr] at hR
      clear e1 hr
      have hi2 := hi
      replace hi := want_is hi
      rw [hi2, if_pos rfl] at hM
      have hwt := want_wanted hi2
      clear hi2
      obtain ⟨h1, h2⟩ := hi
      obtain ⟨j, rfl⟩ := Int.eq_ofNat_of_zero_le h1
      have hj : j < 16 := by omega
      simp only [IT.at, Int.toNat_natCast] at *
      have hB := Lib.hid (show On F w [Res.blk b (irqObj (t.put j (t.c j)))] w by rw [IT.put_self]; exact hA)
      have c0 : w.cell? ⟨b, j * 4, none⟩ = some (.bool (t.c j).wanted) := hA.irqC hj 0 (by decide)
      have c1 : w.cell? ⟨b, j * 4 + 1, none⟩ = some (.bool (t.c j).masked) := hA.irqC hj 1 (by decide)
      have c2 : w.cell? ⟨b, j * 4 + 2, none⟩ = some (.bool (t.c j).pending) := hA.irqC hj 2 (by decide)
      have c3 : w.cell? ⟨b, j * 4 + 3, none⟩ = some (.int .u64 ((t.c j).mask : Nat)) := hA.irqC hj 3 (by decide)
      have f0 : w.frozen? ⟨b, j * 4, none⟩ = false := hA.free 0 rfl _
      have f1 : w.frozen? ⟨b, j * 4 + 1, none⟩ = false := hA.free 0 rfl _
      have f2 : w.frozen? ⟨b, j * 4 + 2, none⟩ = false := hA.free 0 rfl _
      have f3 : w.frozen? ⟨b, j * 4 + 3, none⟩ = false := hA.free 0 rfl _
      have hmk := hok.2 j
      generalize t.c j = x at *
      clear hA
      obtain ⟨wa, ma, pe, mk⟩ := x
      dsimp only at *
      subst hwt
      go_enter Tryz.func125, Tryz.ntmps125
      go_wp2_with (first
        | (go_at_call 214; refine hM.mono ?_; rintro e w' ⟨rfl, k, rfl⟩)
        | (go_at_call 211; refine (hR _).mono ?_; rintro e w' ⟨rfl, k2, rfl⟩))
      go_ret
      refine ⟨rfl, ?_⟩
      refine On.irq ?_ (IT.put_ok hok j hm)
      refine (?_ : On F w _ _).irqPut hj 3 (by decide) (.int .u64 (m : Nat)) (x := ⟨true, ma, pe, mk⟩) (x' := ⟨true, ma, pe, m⟩) rfl
      exact hB.out.keep (by repeat (first | exact Mod.refl _ _ | apply Mod.drewN | apply Mod.drew))
  · have e1 : t.aimE i m = t.wantE i := if_pos hi
    rw [show t.aim i m = t from if_neg (by rw [e1]; exact hi), e1]
    clear e1 hR
    have he : (t.wantE i == 0) = false := by simp [hi]
    rw [if_neg hi] at hM
    generalize t.wantE i = e1 at *
    clear hA
    go_enter Tryz.func125, Tryz.ntmps125
    go_wp2_with (go_at_call 214; refine hM.mono ?_; rintro e w' ⟨rfl, k, rfl⟩)
    go_ret
    refine ⟨rfl, (hO.out.keep ?_).irq hok⟩
    repeat (first | with_reducible exact Mod.refl _ _ | with_reducible apply Mod.alloc | with_reducible apply Mod.drewN | with_reducible apply Mod.drew | with_reducible refine Mod.setCell ?_ (by first | (simp; done) | (simp; omega)) _)
theorem irq_hush (h : (irqR b t).holds F w) (i : Int) (is : Bool) : Calls Tryz.prog 216 #[.pointer (some ⟨b, 0, none⟩), .int .i64 i, .bool is] w (Turns (irqR b (t.hush i is)) F (.int .i64 (t.hushE i is)) w) := by
  obtain ⟨hok, hA⟩ := irq_view h
  have hM := irq_wanted hok hA i
  have hO := Lib.hid hA
  clear h
  by_cases hi : t.wantE i = 0
  · by_cases hr : (t.at i).masked = is
    · have e1 : t.hushE i is = 6 := by unfold IT.hushE; rw [if_neg (by simpa using hi), if_pos hr]
      rw [show t.hush i is = t from if_neg (by rw [e1]; decide), e1]
      clear e1
      have hi2 := hi
      replace hi := want_is hi
      rw [hi2, if_pos rfl] at hM
      have hwt := want_wanted hi2
      clear hi2
      obtain ⟨h1, h2⟩ := hi
      obtain ⟨j, rfl⟩ := Int.eq_ofNat_of_zero_le h1
      have hj : j < 16 := by omega
      simp only [IT.at, Int.toNat_natCast] at *
      have hB := Lib.hid (show On F w [Res.blk b (irqObj (t.put j (t.c j)))] w by rw [IT.put_self]; exact hA)
      have c0 : w.cell? ⟨b, j * 4, none⟩ = some (.bool (t.c j).wanted) := hA.irqC hj 0 (by decide)
      have c1 : w.cell? ⟨b, j * 4 + 1, none⟩ = some (.bool (t.c j).masked) := hA.irqC hj 1 (by decide)
      have c2 : w.cell? ⟨b, j * 4 + 2, none⟩ = some (.bool (t.c j).pending) := hA.irqC hj 2 (by decide)
      have c3 : w.cell? ⟨b, j * 4 + 3, none⟩ = some (.int .u64 ((t.c j).mask : Nat)) := hA.irqC hj 3 (by decide)
      have f0 : w.frozen? ⟨b, j * 4, none⟩ = false := hA.free 0 rfl _
      have f1 : w.frozen? ⟨b, j * 4 + 1, none⟩ = false := hA.free 0 rfl _
      have f2 : w.frozen? ⟨b, j * 4 + 2, none⟩ = false := hA.free 0 rfl _
      have f3 : w.frozen? ⟨b, j * 4 + 3, none⟩ = false := hA.free 0 rfl _
      have hmk := hok.2 j
      generalize t.c j = x at *
      clear hA
      obtain ⟨wa, ma, pe, mk⟩ := x
      dsimp only at *
      subst hwt
      subst hr
      go_enter Tryz.func216, Tryz.ntmps216
      go_wp2_with (go_at_call 214; refine hM.mono ?_; rintro e w' ⟨rfl, k, rfl⟩)
      go_ret
      refine ⟨rfl, (hO.out.keep ?_).irq hok⟩
      repeat (first | with_reducible exact Mod.refl _ _ | with_reducible apply Mod.alloc | with_reducible apply Mod.drewN | with_reducible apply Mod.drew | with_reducible refine Mod.setCell ?_ (by first | (simp; done) | (simp; omega)) _)
    · have e1 : t.hushE i is = 0 := by unfold IT.hushE; rw [if_neg (by simpa using hi), if_neg hr]
      rw [show t.hush i is = t.put i.toNat { t.at i with masked := is } from if_pos e1, e1]
      clear e1
      have hi2 := hi
      replace hi := want_is hi
      rw [hi2, if_pos rfl] at hM
      have hwt := want_wanted hi2
      clear hi2
      obtain ⟨h1, h2⟩ := hi
      obtain ⟨j, rfl⟩ := Int.eq_ofNat_of_zero_le h1
      have hj : j < 16 := by omega
      simp only [IT.at, Int.toNat_natCast] at *
      have hB := Lib.hid (show On F w [Res.blk b (irqObj (t.put j (t.c j)))] w by rw [IT.put_self]; exact hA)
      have c0 : w.cell? ⟨b, j * 4, none⟩ = some (.bool (t.c j).wanted) := hA.irqC hj 0 (by decide)
      have c1 : w.cell? ⟨b, j * 4 + 1, none⟩ = some (.bool (t.c j).masked) := hA.irqC hj 1 (by decide)
      have c2 : w.cell? ⟨b, j * 4 + 2, none⟩ = some (.bool (t.c j).pending) := hA.irqC hj 2 (by decide)
      have c3 : w.cell? ⟨b, j * 4 + 3, none⟩ = some (.int .u64 ((t.c j).mask : Nat)) := hA.irqC hj 3 (by decide)
      have f0 : w.frozen? ⟨b, j * 4, none⟩ = false := hA.free 0 rfl _
      have f1 : w.frozen? ⟨b, j * 4 + 1, none⟩ = false := hA.free 0 rfl _
      have f2 : w.frozen? ⟨b, j * 4 + 2, none⟩ = false := hA.free 0 rfl _
      have f3 : w.frozen? ⟨b, j * 4 + 3, none⟩ = false := hA.free 0 rfl _
      have hmk := hok.2 j
      generalize t.c j = x at *
      clear hA
      obtain ⟨wa, ma, pe, mk⟩ := x
      dsimp only at *
      subst hwt
      have hq : (ma == is) = false := by simp [hr]
      go_enter Tryz.func216, Tryz.ntmps216
      go_wp2_with (go_at_call 214; refine hM.mono ?_; rintro e w' ⟨rfl, k, rfl⟩)
      go_ret
      refine ⟨rfl, ?_⟩
      refine On.irq ?_ (IT.put_ok hok j hmk)
      refine (?_ : On F w _ _).irqPut hj 1 (by decide) (.bool is) (x := ⟨true, ma, pe, mk⟩) (x' := ⟨true, is, pe, mk⟩) rfl
      exact hB.out.keep (by repeat (first | exact Mod.refl _ _ | apply Mod.drewN | apply Mod.drew))
  · have e1 : t.hushE i is = t.wantE i := if_pos hi
    rw [show t.hush i is = t from if_neg (by rw [e1]; exact hi), e1]
    clear e1
    have he : (t.wantE i == 0) = false := by simp [hi]
    rw [if_neg hi] at hM
    generalize t.wantE i = e1 at *
    clear hA
    go_enter Tryz.func216, Tryz.ntmps216
    go_wp2_with (go_at_call 214; refine hM.mono ?_; rintro e w' ⟨rfl, k, rfl⟩)
    go_ret
    refine ⟨rfl, (hO.out.keep ?_).irq hok⟩
    repeat (first | with_reducible exact Mod.refl _ _ | with_reducible apply Mod.alloc | with_reducible apply Mod.drewN | with_reducible apply Mod.drew | with_reducible refine Mod.setCell ?_ (by first | (simp; done) | (simp; omega)) _)
theorem irq_Hush (h : (irqR b t).holds F w) (i : Int) : Calls Tryz.prog 128 #[.pointer (some ⟨b, 0, none⟩), .int .i64 i] w (Turns (irqR b (t.hush i true)) F (.int .i64 (t.hushE i true)) w) := by
  have hM := irq_hush h i true
  go_enter Tryz.func128, Tryz.ntmps128
  go_wp2_with (go_at_call 216; refine hM.mono ?_; rintro e w' ⟨rfl, hG⟩)
  go_ret
  exact ⟨rfl, hG⟩
theorem irq_Unhush (h : (irqR b t).holds F w) (i : Int) : Calls Tryz.prog 129 #[.pointer (some ⟨b, 0, none⟩), .int .i64 i] w (Turns (irqR b (t.hush i false)) F (.int .i64 (t.hushE i false)) w) := by
  have hM := irq_hush h i false
  go_enter Tryz.func129, Tryz.ntmps129
  go_wp2_with (go_at_call 216; refine hM.mono ?_; rintro e w' ⟨rfl, hG⟩)
  go_ret
  exact ⟨rfl, hG⟩
theorem irq_Ready (h : (irqR b t).holds F w) (i : Int) : Calls Tryz.prog 241 #[.pointer (some ⟨b, 0, none⟩), .int .i64 i] w (Ret (.bool (t.ready i)) w) := by
  obtain ⟨hok, hA⟩ := irq_view h
  have hM := irq_wanted hok hA i
  have hO := Lib.hid hA
  clear h
  unfold IT.ready
  by_cases hi : t.wantE i = 0
  · rw [decide_eq_true hi]
    have hi2 := hi
    replace hi := want_is hi
    rw [hi2, if_pos rfl] at hM
    have hwt := want_wanted hi2
    clear hi2
    obtain ⟨h1, h2⟩ := hi
    obtain ⟨j, rfl⟩ := Int.eq_ofNat_of_zero_le h1
    have hj : j < 16 := by omega
    simp only [IT.at, Int.toNat_natCast] at *
    have hB := Lib.hid (show On F w [Res.blk b (irqObj (t.put j (t.c j)))] w by rw [IT.put_self]; exact hA)
    have c0 : w.cell? ⟨b, j * 4, none⟩ = some (.bool (t.c j).wanted) := hA.irqC hj 0 (by decide)
    have c1 : w.cell? ⟨b, j * 4 + 1, none⟩ = some (.bool (t.c j).masked) := hA.irqC hj 1 (by decide)
    have c2 : w.cell? ⟨b, j * 4 + 2, none⟩ = some (.bool (t.c j).pending) := hA.irqC hj 2 (by decide)
    have c3 : w.cell? ⟨b, j * 4 + 3, none⟩ = some (.int .u64 ((t.c j).mask : Nat)) := hA.irqC hj 3 (by decide)
    have f0 : w.frozen? ⟨b, j * 4, none⟩ = false := hA.free 0 rfl _
    have f1 : w.frozen? ⟨b, j * 4 + 1, none⟩ = false := hA.free 0 rfl _
    have f2 : w.frozen? ⟨b, j * 4 + 2, none⟩ = false := hA.free 0 rfl _
    have f3 : w.frozen? ⟨b, j * 4 + 3, none⟩ = false := hA.free 0 rfl _
    have hmk := hok.2 j
    generalize t.c j = x at *
    clear hA
    obtain ⟨wa, ma, pe, mk⟩ := x
    dsimp only at *
    subst hwt
    cases pe <;> cases ma
    all_goals
      go_enter Tryz.func241, Tryz.ntmps241
      go_wp2_with (go_at_call 214; refine hM.mono ?_; rintro e w' ⟨rfl, k, rfl⟩)
      go_ret
      exact Ret.of (rfl) (by repeat (first | exact Drew.refl _ | apply Drew.drewN | apply Drew.drew))
  · rw [decide_eq_false hi]
    have he : (t.wantE i == 0) = false := by simp [hi]
    rw [if_neg hi] at hM
    generalize t.wantE i = e1 at *
    clear hA
    go_enter Tryz.func241, Tryz.ntmps241
    go_wp2_with (go_at_call 214; refine hM.mono ?_; rintro e w' ⟨rfl, k, rfl⟩)
    go_ret
    exact Ret.of (by simp) (by repeat (first | exact Drew.refl _ | apply Drew.drewN | apply Drew.drew))
theorem irq_Clear (h : (irqR b t).holds F w) (i : Int) : Calls Tryz.prog 185 #[.pointer (some ⟨b, 0, none⟩), .int .i64 i] w (Turns (irqR b (t.clear i)) F (.int .i64 (t.clearE i)) w) := by
  obtain ⟨hok, hA⟩ := irq_view h
  have hM := irq_wanted hok hA i
  have hO := Lib.hid hA
  clear h
  by_cases hi : t.wantE i = 0
  · cases hr : t.ready i
    · have e1 : t.clearE i = 12 := by unfold IT.clearE; rw [if_neg (by simpa using hi), if_neg (by rw [hr]; decide)]
      rw [show t.clear i = t from if_neg (by rw [e1]; decide), e1]
      unfold IT.ready at hr
      rw [decide_eq_true hi] at hr
      clear e1
      have hi2 := hi
      replace hi := want_is hi
      rw [hi2, if_pos rfl] at hM
      have hwt := want_wanted hi2
      clear hi2
      obtain ⟨h1, h2⟩ := hi
      obtain ⟨j, rfl⟩ := Int.eq_ofNat_of_zero_le h1
      have hj : j < 16 := by omega
      simp only [IT.at, Int.toNat_natCast] at *
      have hB := Lib.hid (show On F w [Res.blk b (irqObj (t.put j (t.c j)))] w by rw [IT.put_self]; exact hA)
      have c0 : w.cell? ⟨b, j * 4, none⟩ = some (.bool (t.c j).wanted) := hA.irqC hj 0 (by decide)
      have c1 : w.cell? ⟨b, j * 4 + 1, none⟩ = some (.bool (t.c j).masked) := hA.irqC hj 1 (by decide)
      have c2 : w.cell? ⟨b, j * 4 + 2, none⟩ = some (.bool (t.c j).pending) := hA.irqC hj 2 (by decide)
      have c3 : w.cell? ⟨b, j * 4 + 3, none⟩ = some (.int .u64 ((t.c j).mask : Nat)) := hA.irqC hj 3 (by decide)
      have f0 : w.frozen? ⟨b, j * 4, none⟩ = false := hA.free 0 rfl _
      have f1 : w.frozen? ⟨b, j * 4 + 1, none⟩ = false := hA.free 0 rfl _
      have f2 : w.frozen? ⟨b, j * 4 + 2, none⟩ = false := hA.free 0 rfl _
      have f3 : w.frozen? ⟨b, j * 4 + 3, none⟩ = false := hA.free 0 rfl _
      have hmk := hok.2 j
      generalize t.c j = x at *
      clear hA
      obtain ⟨wa, ma, pe, mk⟩ := x
      dsimp only at *
      subst hwt
      have hr2 : pe = false ∨ (pe = true ∧ ma = true) := by cases pe <;> cases ma <;> simp_all
      clear hr
      rcases hr2 with rfl | ⟨rfl, rfl⟩
      all_goals
        go_enter Tryz.func185, Tryz.ntmps185
        go_wp2_with (go_at_call 214; refine hM.mono ?_; rintro e w' ⟨rfl, k, rfl⟩)
        go_ret
        refine ⟨rfl, (hO.out.keep ?_).irq hok⟩
        repeat (first | with_reducible exact Mod.refl _ _ | with_reducible apply Mod.alloc | with_reducible apply Mod.drewN | with_reducible apply Mod.drew | with_reducible refine Mod.setCell ?_ (by first | (simp; done) | (simp; omega)) _)
    · have e1 : t.clearE i = 0 := by unfold IT.clearE; rw [if_neg (by simpa using hi), if_pos hr]
      rw [show t.clear i = t.put i.toNat { t.at i with pending := false } from if_pos e1, e1]
      unfold IT.ready at hr
      rw [decide_eq_true hi] at hr
      clear e1
      have hi2 := hi
      replace hi := want_is hi
      rw [hi2, if_pos rfl] at hM
      have hwt := want_wanted hi2
      clear hi2
      obtain ⟨h1, h2⟩ := hi
      obtain ⟨j, rfl⟩ := Int.eq_ofNat_of_zero_le h1
      have hj : j < 16 := by omega
      simp only [IT.at, Int.toNat_natCast] at *
      have hB := Lib.hid (show On F w [Res.blk b (irqObj (t.put j (t.c j)))] w by rw [IT.put_self]; exact hA)
      have c0 : w.cell? ⟨b, j * 4, none⟩ = some (.bool (t.c j).wanted) := hA.irqC hj 0 (by decide)
      have c1 : w.cell? ⟨b, j * 4 + 1, none⟩ = some (.bool (t.c j).masked) := hA.irqC hj 1 (by decide)
      have c2 : w.cell? ⟨b, j * 4 + 2, none⟩ = some (.bool (t.c j).pending) := hA.irqC hj 2 (by decide)
      have c3 : w.cell? ⟨b, j * 4 + 3, none⟩ = some (.int .u64 ((t.c j).mask : Nat)) := hA.irqC hj 3 (by decide)
      have f0 : w.frozen? ⟨b, j * 4, none⟩ = false := hA.free 0 rfl _
      have f1 : w.frozen? ⟨b, j * 4 + 1, none⟩ = false := hA.free 0 rfl _
      have f2 : w.frozen? ⟨b, j * 4 + 2, none⟩ = false := hA.free 0 rfl _
      have f3 : w.frozen? ⟨b, j * 4 + 3, none⟩ = false := hA.free 0 rfl _
      have hmk := hok.2 j
      generalize t.c j = x at *
      clear hA
      obtain ⟨wa, ma, pe, mk⟩ := x
      dsimp only at *
      subst hwt
      have hr2 : pe = true ∧ ma = false := by cases pe <;> cases ma <;> simp_all
      clear hr
      obtain ⟨rfl, rfl⟩ := hr2
      go_enter Tryz.func185, Tryz.ntmps185
      go_wp2_with (go_at_call 214; refine hM.mono ?_; rintro e w' ⟨rfl, k, rfl⟩)
      go_ret
      refine ⟨rfl, ?_⟩
      refine On.irq ?_ (IT.put_ok hok j hmk)
      refine (?_ : On F w _ _).irqPut hj 2 (by decide) (.bool false) (x := ⟨true, false, true, mk⟩) (x' := ⟨true, false, false, mk⟩) rfl
      exact hB.out.keep (by repeat (first | exact Mod.refl _ _ | apply Mod.drewN | apply Mod.drew))
  · have e1 : t.clearE i = t.wantE i := if_pos hi
    rw [show t.clear i = t from if_neg (by rw [e1]; exact hi), e1]
    clear e1
    have he : (t.wantE i == 0) = false := by simp [hi]
    rw [if_neg hi] at hM
    generalize t.wantE i = e1 at *
    clear hA
    go_enter Tryz.func185, Tryz.ntmps185
    go_wp2_with (go_at_call 214; refine hM.mono ?_; rintro e w' ⟨rfl, k, rfl⟩)
    go_ret
    refine ⟨rfl, (hO.out.keep ?_).irq hok⟩
    repeat (first | with_reducible exact Mod.refl _ _ | with_reducible apply Mod.alloc | with_reducible apply Mod.drewN | with_reducible apply Mod.drew | with_reducible refine Mod.setCell ?_ (by first | (simp; done) | (simp; omega)) _)
theorem irq_Request (h : (irqR b t).holds F w) (i : Int) (m : Nat) (hm : m < 2 ^ 64) : Calls Tryz.prog 119 #[.pointer (some ⟨b, 0, none⟩), .int .i64 i, .int .u64 (m : Nat)] w (Turns (irqR b (t.req i m)) F (.int .i64 (t.reqE i m)) w) := by
  obtain ⟨hok, hA⟩ := irq_view h
  have hM := fun w => irq_find b i w
  have hO := Lib.hid hA
  clear h
  have hR := irq_rightW hok hA m hm
  by_cases hi : irqIs i
  · rw [show mayI i = 0 from if_pos hi, if_pos hi] at hM
    by_cases hw : (t.at i).wanted
    · have e1 : t.reqE i m = 6 := by unfold IT.reqE; rw [if_neg (by simpa using hi), if_pos hw]
      rw [show t.req i m = t from if_neg (by rw [e1]; decide), e1]
      clear e1 hR
      obtain ⟨h1, h2⟩ := hi
      obtain ⟨j, rfl⟩ := Int.eq_ofNat_of_zero_le h1
      have hj : j < 16 := by omega
      simp only [IT.at, Int.toNat_natCast] at *
      have hB := Lib.hid (show On F w [Res.blk b (irqObj (t.put j (t.c j)))] w by rw [IT.put_self]; exact hA)
      have c0 : w.cell? ⟨b, j * 4, none⟩ = some (.bool (t.c j).wanted) := hA.irqC hj 0 (by decide)
      have c1 : w.cell? ⟨b, j * 4 + 1, none⟩ = some (.bool (t.c j).masked) := hA.irqC hj 1 (by decide)
      have c2 : w.cell? ⟨b, j * 4 + 2, none⟩ = some (.bool (t.c j).pending) := hA.irqC hj 2 (by decide)
      have c3 : w.cell? ⟨b, j * 4 + 3, none⟩ = some (.int .u64 ((t.c j).mask : Nat)) := hA.irqC hj 3 (by decide)
      have f0 : w.frozen? ⟨b, j * 4, none⟩ = false := hA.free 0 rfl _
      have f1 : w.frozen? ⟨b, j * 4 + 1, none⟩ = false := hA.free 0 rfl _
      have f2 : w.frozen? ⟨b, j * 4 + 2, none⟩ = false := hA.free 0 rfl _
      have f3 : w.frozen? ⟨b, j * 4 + 3, none⟩ = false := hA.free 0 rfl _
      have hmk := hok.2 j
      generalize t.c j = x at *
      clear hA
      obtain ⟨wa, ma, pe, mk⟩ := x
      dsimp only at *
      subst hw
      go_enter Tryz.func119, Tryz.ntmps119
      go_wp2_with (go_at_call 210; refine (hM _).mono ?_; rintro e w' ⟨rfl, k, rfl⟩)
      go_ret
      refine ⟨rfl, (hO.out.keep ?_).irq hok⟩
      repeat (first | with_reducible exact Mod.refl _ _ | with_reducible apply Mod.alloc | with_reducible apply Mod.drewN | with_reducible apply Mod.drew | with_reducible refine Mod.setCell ?_ (by first | (simp; done) | (simp; omega)) _)
    · cases hr : t.right m
      · have e1 : t.reqE i m = 2 := by unfold IT.reqE; rw [if_neg (by simpa using hi), if_neg hw, if_neg (by rw [hr]; decide)]
        rw [show t.req i m = t from if_neg (by rw [e1]; decide), e1]
        rw [hr] at hR
        clear e1 hr
        obtain ⟨h1, h2⟩ := hi
        obtain ⟨j, rfl⟩ := Int.eq_ofNat_of_zero_le h1
        have hj : j < 16 := by omega
        simp only [IT.at, Int.toNat_natCast] at *
        have hB := Lib.hid (show On F w [Res.blk b (irqObj (t.put j (t.c j)))] w by rw [IT.put_self]; exact hA)
        have c0 : w.cell? ⟨b, j * 4, none⟩ = some (.bool (t.c j).wanted) := hA.irqC hj 0 (by decide)
        have c1 : w.cell? ⟨b, j * 4 + 1, none⟩ = some (.bool (t.c j).masked) := hA.irqC hj 1 (by decide)
        have c2 : w.cell? ⟨b, j * 4 + 2, none⟩ = some (.bool (t.c j).pending) := hA.irqC hj 2 (by decide)
        have c3 : w.cell? ⟨b, j * 4 + 3, none⟩ = some (.int .u64 ((t.c j).mask : Nat)) := hA.irqC hj 3 (by decide)
        have f0 : w.frozen? ⟨b, j * 4, none⟩ = false := hA.free 0 rfl _
        have f1 : w.frozen? ⟨b, j * 4 + 1, none⟩ = false := hA.free 0 rfl _
        have f2 : w.frozen? ⟨b, j * 4 + 2, none⟩ = false := hA.free 0 rfl _
        have f3 : w.frozen? ⟨b, j * 4 + 3, none⟩ = false := hA.free 0 rfl _
        have hmk := hok.2 j
        generalize t.c j = x at *
        clear hA
        obtain ⟨wa, ma, pe, mk⟩ := x
        dsimp only at *
        have hw : wa = false := by simpa using hw
        subst hw
        go_enter Tryz.func119, Tryz.ntmps119
        go_wp2_with (first
          | (go_at_call 210; refine (hM _).mono ?_; rintro e w' ⟨rfl, k, rfl⟩)
          | (go_at_call 211; refine (hR _).mono ?_; rintro e w' ⟨rfl, k2, rfl⟩))
        go_ret
        refine ⟨rfl, (hO.out.keep ?_).irq hok⟩
        repeat (first | with_reducible exact Mod.refl _ _ | with_reducible apply Mod.alloc | with_reducible apply Mod.drewN | with_reducible apply Mod.drew | with_reducible refine Mod.setCell ?_ (by first | (simp; done) | (simp; omega)) _)
      · have e1 : t.reqE i m = 0 := by unfold IT.reqE; rw [if_neg (by simpa using hi), if_neg hw, if_pos hr]
        rw [show t.req i m = t.put i.toNat ⟨true, false, false, m⟩ from if_pos e1, e1]
        rw [hr] at hR
        clear e1 hr
        obtain ⟨h1, h2⟩ := hi
        obtain ⟨j, rfl⟩ := Int.eq_ofNat_of_zero_le h1
        have hj : j < 16 := by omega
        simp only [IT.at, Int.toNat_natCast] at *
        have hB := Lib.hid (show On F w [Res.blk b (irqObj (t.put j (t.c j)))] w by rw [IT.put_self]; exact hA)
        have c0 : w.cell? ⟨b, j * 4, none⟩ = some (.bool (t.c j).wanted) := hA.irqC hj 0 (by decide)
        have c1 : w.cell? ⟨b, j * 4 + 1, none⟩ = some (.bool (t.c j).masked) := hA.irqC hj 1 (by decide)
        have c2 : w.cell? ⟨b, j * 4 + 2, none⟩ = some (.bool (t.c j).pending) := hA.irqC hj 2 (by decide)
        have c3 : w.cell? ⟨b, j * 4 + 3, none⟩ = some (.int .u64 ((t.c j).mask : Nat)) := hA.irqC hj 3 (by decide)
        have f0 : w.frozen? ⟨b, j * 4, none⟩ = false := hA.free 0 rfl _
        have f1 : w.frozen? ⟨b, j * 4 + 1, none⟩ = false := hA.free 0 rfl _
        have f2 : w.frozen? ⟨b, j * 4 + 2, none⟩ = false := hA.free 0 rfl _
        have f3 : w.frozen? ⟨b, j * 4 + 3, none⟩ = false := hA.free 0 rfl _
        have hmk := hok.2 j
        generalize t.c j = x at *
        clear hA
        obtain ⟨wa, ma, pe, mk⟩ := x
        dsimp only at *
        have hw : wa = false := by simpa using hw
        subst hw
        go_enter Tryz.func119, Tryz.ntmps119
        go_wp2_with (first
          | (go_at_call 210; refine (hM _).mono ?_; rintro e w' ⟨rfl, k, rfl⟩)
          | (go_at_call 211; refine (hR _).mono ?_; rintro e w' ⟨rfl, k2, rfl⟩))
        go_ret
        refine ⟨rfl, ?_⟩
        refine On.irq ?_ (IT.put_ok hok j hm)
        refine ((((?_ : On F w _ _).irqPut hj 0 (by decide) (.bool true) (x := ⟨false, ma, pe, mk⟩) (x' := ⟨true, ma, pe, mk⟩) rfl).irqPut hj 1 (by decide) (.bool false) (x' := ⟨true, false, pe, mk⟩) rfl).irqPut hj 2 (by decide) (.bool false) (x' := ⟨true, false, false, mk⟩) rfl).irqPut hj 3 (by decide) (.int .u64 (m : Nat)) (x' := ⟨true, false, false, m⟩) rfl
        exact hB.out.keep (by repeat (first | exact Mod.refl _ _ | apply Mod.drewN | apply Mod.drew))
  · have e1 : t.reqE i m = 3 := if_pos hi
    rw [show mayI i = 3 from if_neg hi, if_neg hi] at hM
    rw [show t.req i m = t from if_neg (by rw [e1]; decide), e1]
    clear e1 hA hR
    go_enter Tryz.func119, Tryz.ntmps119
    go_wp2_with (go_at_call 210; refine (hM _).mono ?_; rintro e w' ⟨rfl, k, rfl⟩)
    go_ret
    refine ⟨rfl, (hO.out.keep ?_).irq hok⟩
    repeat (first | with_reducible exact Mod.refl _ _ | with_reducible apply Mod.alloc | with_reducible apply Mod.drewN | with_reducible apply Mod.drew | with_reducible refine Mod.setCell ?_ (by first | (simp; done) | (simp; omega)) _)
end
end Go.Proofs.YtaakgpnmfkmdoaaGreatDoor

/- The walks over making the table of interrupts and the routes, and reading one interrupt. No condition but those named. -/
namespace Go.Proofs.YtaakgpnmfkmdoaaGreatDoor
set_option linter.unusedVariables false
set_option linter.unusedSimpArgs false
open Go.RowKit

def it0 (n : Nat) : IT := ⟨uptoM n, fun _ => irq0⟩
def rt0 (n : Nat) : RT := ⟨n, fun _ => 0⟩
theorem irq_New_no (n : Int) (hn : ¬ (1 ≤ n ∧ n ≤ 64)) (w : World) : Calls Tryz.prog 50 #[.int .i64 n] w (Ret (.tuple #[.pointer none, .int .i64 2]) w) := by
  by_cases h1 : n < 1
  · clear hn
    go_enter Tryz.func50, Tryz.ntmps50
    go_wp2
    go_ret2
    exact Ret.of (rfl) (by repeat (first | exact Drew.refl _ | apply Drew.drewN | apply Drew.drew))
  · have h2 : 64 < n := by omega
    clear hn
    go_enter Tryz.func50, Tryz.ntmps50
    go_wp2
    go_ret2
    exact Ret.of (rfl) (by repeat (first | exact Drew.refl _ | apply Drew.drewN | apply Drew.drew))
theorem route_New_no (n : Int) (hn : ¬ (1 ≤ n ∧ n ≤ 64)) (w : World) : Calls Tryz.prog 52 #[.int .i64 n] w (Ret (.tuple #[.pointer none, .int .i64 2]) w) := by
  by_cases h1 : n < 1
  · clear hn
    go_enter Tryz.func52, Tryz.ntmps52
    go_wp2
    go_ret2
    exact Ret.of (rfl) (by repeat (first | exact Drew.refl _ | apply Drew.drewN | apply Drew.drew))
  · have h2 : 64 < n := by omega
    clear hn
    go_enter Tryz.func52, Tryz.ntmps52
    go_wp2
    go_ret2
    exact Ret.of (rfl) (by repeat (first | exact Drew.refl _ | apply Drew.drewN | apply Drew.drew))
set_option maxRecDepth 100000 in
theorem route_New (n : Nat) (h1 : 1 ≤ n) (h2 : n ≤ 64) (w : World) : Calls Tryz.prog 52 #[.int .i64 n] w (TurnsV (fun d : Nat => .tuple #[.pointer (some ⟨d, 0, none⟩), .int .i64 0]) (fun d => routeR d (rt0 n)) [] w) := by
  go_enter Tryz.func52, Tryz.ntmps52
  go_wp2
  go_ret2
  refine ⟨w.heap.size, rfl, ?_⟩
  have hA := (On.start w).alloc (routeObj (rt0 n))
  exact On.route hA ⟨h1, h2, fun i => ⟨Int.le_refl _, by show (0 : Int) ≤ 64; decide⟩⟩
theorem irq_zero (m : Nat) : (Tryz.zeroCells180).setIfInBounds 64 (.int .u64 (m : Nat)) = blkV [] 16 (fun _ => irqV irq0) [.int .u64 (m : Nat)] := by
  have e : Tryz.zeroCells180 = blkV [] 16 (fun _ => irqV irq0) [.int .u64 0] := by kernel_rfl
  rw [e]
  exact blkV_setPost (k := 4) (fun _ => rfl) (j := 0) _ rfl
set_option maxRecDepth 100000 in
theorem irq_New (n : Nat) (h1 : 1 ≤ n) (h2 : n ≤ 64) (w : World) : Calls Tryz.prog 50 #[.int .i64 n] w (TurnsV (fun d : Nat => .tuple #[.pointer (some ⟨d, 0, none⟩), .int .i64 0]) (fun d => irqR d (it0 n)) [] w) := by
  have hU := fun w => mask_Upto n w
  have hlt := uptoM_lt n
  unfold it0
  generalize uptoM n = m at *
  go_enter Tryz.func50, Tryz.ntmps50
  go_wp2_with (go_at_call 42; refine (hU _).mono ?_; rintro e w' ⟨rfl, k, rfl⟩)
  go_ret2
  refine ⟨w.heap.size, by simp, ?_⟩
  rw [irq_zero]
  exact On.irq (((On.start w).keep ((Mod.refl [] w).drewN k)).alloc (irqObj ⟨m, fun _ => irq0⟩)) ⟨hlt, fun i => by show (0 : Nat) < 2 ^ 64; decide⟩
set_option maxRecDepth 100000 in
set_option maxHeartbeats 800000 in
theorem irq_Get {F : List Nat} {w : World} {b : Nat} {t : IT} (h : (irqR b t).holds F w) (i : Int) : Calls Tryz.prog 212 #[.pointer (some ⟨b, 0, none⟩), .int .i64 i] w (Nothing (.tuple #[.agg (irqV (if irqIs i then t.at i else irq0)).toArray, .int .i64 (mayI i)]) w) := by
  obtain ⟨hok, hA⟩ := irq_view h
  have hM := fun w => irq_find b i w
  by_cases hi : irqIs i
  · rw [if_pos hi]
    rw [show mayI i = 0 from if_pos hi, if_pos hi] at hM
    rw [show mayI i = 0 from if_pos hi]
    obtain ⟨h1, h2⟩ := hi
    obtain ⟨j, rfl⟩ := Int.eq_ofNat_of_zero_le h1
    have hj : j < 16 := by omega
    simp only [IT.at, Int.toNat_natCast] at *
    have hC := hA.keep ((Mod.refl [] w).alloc (.cells #[.bool false, .bool false, .bool false, .int .u64 0] 177 (0,0)))
    have c0 : (w.alloc (.cells #[.bool false, .bool false, .bool false, .int .u64 0] 177 (0,0))).cell? ⟨b, j * 4, none⟩ = some (.bool (t.c j).wanted) := hC.irqC hj 0 (by decide)
    have c1 : (w.alloc (.cells #[.bool false, .bool false, .bool false, .int .u64 0] 177 (0,0))).cell? ⟨b, j * 4 + 1, none⟩ = some (.bool (t.c j).masked) := hC.irqC hj 1 (by decide)
    have c2 : (w.alloc (.cells #[.bool false, .bool false, .bool false, .int .u64 0] 177 (0,0))).cell? ⟨b, j * 4 + 2, none⟩ = some (.bool (t.c j).pending) := hC.irqC hj 2 (by decide)
    have c3 : (w.alloc (.cells #[.bool false, .bool false, .bool false, .int .u64 0] 177 (0,0))).cell? ⟨b, j * 4 + 3, none⟩ = some (.int .u64 ((t.c j).mask : Nat)) := hC.irqC hj 3 (by decide)
    clear hC hA h
    generalize t.c j = x at *
    obtain ⟨wa, ma, pe, mk⟩ := x
    simp only [irqV] at *
    go_enter Tryz.func212, Tryz.ntmps212
    go_wp2_with (go_at_call 210; refine (hM _).mono ?_; rintro e w' ⟨rfl, k, rfl⟩)
    refine bodyPost_ret_by (v := .tuple #[.agg #[.bool wa, .bool ma, .bool pe, .int .u64 (mk : Nat)], .int .i64 0]) ?_ rfl ?_
    · rw [results_cell_tmp rfl]; go_simp
    · refine ⟨rfl, ?_⟩
      repeat (first | with_reducible exact Mod.refl _ _ | with_reducible apply Mod.alloc | with_reducible apply Mod.drewN | with_reducible apply Mod.drew | with_reducible refine Mod.setCell ?_ (by first | (simp; done) | (simp; omega)) _)
  · rw [if_neg hi]
    rw [show mayI i = 3 from if_neg hi, if_neg hi] at hM
    rw [show mayI i = 3 from if_neg hi]
    clear h hi hA
    go_enter Tryz.func212, Tryz.ntmps212
    go_wp2_with (go_at_call 210; refine (hM _).mono ?_; rintro e w' ⟨rfl, k, rfl⟩)
    refine bodyPost_ret_by (v := .tuple #[.agg #[.bool false, .bool false, .bool false, .int .u64 0], .int .i64 3]) ?_ rfl ?_
    · rw [results_cell_tmp rfl]; go_simp
    · refine ⟨rfl, ?_⟩
      repeat (first | with_reducible exact Mod.refl _ _ | with_reducible apply Mod.alloc | with_reducible apply Mod.drewN | with_reducible apply Mod.drew | with_reducible refine Mod.setCell ?_ (by first | (simp; done) | (simp; omega)) _)
end Go.Proofs.YtaakgpnmfkmdoaaGreatDoor

/- The walk over route.On: the interrupts that go to a core. No condition but those named. -/
namespace Go.Proofs.YtaakgpnmfkmdoaaGreatDoor
set_option linter.unusedVariables false
set_option linter.unusedSimpArgs false
open Go.RowKit

def RT.onL (t : RT) (cpu : Int) : Nat → List Int
  | 0 => []
  | j + 1 => if (t.has j && decide (t.of j = cpu)) = true then t.onL cpu j ++ [(j : Int)] else t.onL cpu j
theorem onL_len (t : RT) (cpu : Int) : ∀ j, (t.onL cpu j).length ≤ j
  | 0 => by simp [RT.onL]
  | j + 1 => by
    have := onL_len t cpu j
    unfold RT.onL
    split
    · rw [List.length_append]; simp; omega
    · omega
/-- A new list was made. -/
def MadeInts (l : List Int) (w : World) (e : Ending) (w' : World) : Prop := ∃ g cap, e = .returned (.slice (lA g) l.length cap) ∧ LAt w' g cap l ∧ Mod [] w w' ∧ ∀ b, b ∈ lF g → w.heap.size ≤ b
theorem route_On {F : List Nat} {w : World} {b : Nat} {t : RT} (h : (routeR b t).holds F w) (cpu : Int) : Calls Tryz.prog 90 #[.pointer (some ⟨b, 0, none⟩), .int .i64 cpu] w (MadeInts (t.onL cpu 16) w) := by
  go_enter Tryz.func90, Tryz.ntmps90
  go_wp2
  go_loopg [5, 11] 16 (fun gg out i wr => ∃ (j : Nat) (g : Option Nat) (cap : Nat), i = .int .i64 j ∧ j + gg = 16 ∧ out = .slice (lA g) (t.onL cpu j).length cap ∧ LAt wr g cap (t.onL cpu j) ∧ Mod [] w wr ∧ ∀ b, b ∈ lF g → w.heap.size ≤ b)
  case atStart => exact ⟨0, none, 0, rfl, by omega, rfl, ⟨rfl, rfl⟩, by first | exact Mod.refl _ _ | exact (Mod.refl _ _).drewN _, by simp [lF]⟩
  case round =>
    obtain ⟨j, g, cap, rfl, hj, rfl, hL, m, hg⟩ := hrel
    by_cases hlt : j < 16
    · have hltI : (j : Int) < 16 := by omega
      have hO := route_Of ((routeR b t).keep h m (by simp)) (j : Int)
      have hS : t.onL cpu (j + 1) = if (t.has j && decide (t.of j = cpu)) = true then t.onL cpu j ++ [(j : Int)] else t.onL cpu j := rfl
      have hlen : (t.onL cpu j).length < 1000000 := by have := onL_len t cpu j; omega
      generalize t.has j = x at *
      generalize t.of j = y at *
      have hms := m.size
      by_cases hc : (x && decide (y = cpu)) = true
      · rw [if_pos hc] at hS
        have HS := Lib.hid hS
        obtain ⟨rfl, hy⟩ : x = true ∧ y = cpu := by simpa using hc
        subst hy
        clear hS hc
        generalize t.onL y j = lj at *
        go_wp2_with (first | (go_at_call 161; refine hO.mono ?_; rintro e w' ⟨rfl, k1, rfl⟩) | (at_builtin; refine wpList_append_LAt rfl _ _ rfl (by exact hL.keep (((Mod.refl [] wr).drewN _).alloc _) (by simp)) hlen (heapNew _ _) rfl rfl ?_; rintro g2 cap2 w2 hL2 m2 hg2; have H2 := Lib.hid (And.intro hL2 (And.intro (Mod.trans (S := []) ((m.drewN _).alloc _) m2 (fun b hb => .inr (hg b hb))) hg2)); clear hL2 m2 hg2))
        obtain ⟨hL2, m3, hg2⟩ := H2.out
        rw [sizeNew] at hg2
        go_roundg (gk - 1)
        case measure => omega
        case rel =>
          refine ⟨j + 1, some g2, cap2, by go_num, by omega, by rw [HS.out]; simp [lA], by rw [HS.out]; exact hL2, m3, ?_⟩
          intro b hb
          simp [lF] at hb
          subst hb
          rcases hg2 with hg2 | hg2
          · exact hg _ hg2
          · simp at hg2; omega
      · rw [if_neg hc] at hS
        have HS := Lib.hid hS
        clear hS
        generalize t.onL cpu j = lj at *
        cases x
        · clear hc
          go_wp2_with (go_at_call 161; refine hO.mono ?_; rintro e w' ⟨rfl, k1, rfl⟩)
          go_roundg (gk - 1)
          case measure => omega
          case rel => exact ⟨j + 1, g, cap, by go_num, by omega, by rw [HS.out], by rw [HS.out]; exact hL.same rfl, m.drewN _, hg⟩
        · have hy : (y == cpu) = false := by simpa using hc
          clear hc
          go_wp2_with (go_at_call 161; refine hO.mono ?_; rintro e w' ⟨rfl, k1, rfl⟩)
          go_roundg (gk - 1)
          case measure => omega
          case rel => exact ⟨j + 1, g, cap, by go_num, by omega, by rw [HS.out], by rw [HS.out]; exact hL.same rfl, m.drewN _, hg⟩
    · obtain rfl : j = 16 := by omega
      clear h
      go_wp2
      go_ret
      exact ⟨g, cap, rfl, hL, m, hg⟩
end Go.Proofs.YtaakgpnmfkmdoaaGreatDoor

/- The walks over what a core does next: wants, Next. No condition but those named. -/
namespace Go.Proofs.YtaakgpnmfkmdoaaGreatDoor
set_option linter.unusedVariables false
set_option linter.unusedSimpArgs false
open Go.RowKit

structure FlagsS where
  stop : Bool
  held : Bool
  hot : Bool
  active : Bool
  call : Bool
  irq : Bool
  timer : Bool
  work : Bool
  thread : Bool
def flagsV (f : FlagsS) : List Value := [.bool f.stop, .bool f.held, .bool f.hot, .bool f.active, .bool f.call, .bool f.irq, .bool f.timer, .bool f.work, .bool f.thread]
def wantL (f : FlagsS) : List Bool := [f.stop, f.hot, f.held || !f.active, f.call, f.irq, f.timer, f.work, f.thread]
def FlagsS.wants (f : FlagsS) : Int := if f.stop then 2 else if f.hot then 3 else if f.held || !f.active then 0 else if f.call then 4 else if f.irq then 5 else if f.timer then 6 else if f.work then 7 else if f.thread then 8 else 9
theorem want_index (b0 b1 b2 b3 b4 b5 b6 b7 : Value) (n0 n1 n2 n3 n4 n5 n6 n7 : Value) (w : World) :
    (∀ j : Nat, (h : j < 8) → (Instr.index 313 (.agg #[b0, n0, b1, n1, b2, n2, b3, n3, b4, n4, b5, n5, b6, n6, b7, n7]) (.int .i64 j)).run Tryz.prog w = .ok (.agg #[([b0, b1, b2, b3, b4, b5, b6, b7] : List Value).getD j b0, ([n0, n1, n2, n3, n4, n5, n6, n7] : List Value).getD j n0]) w) := by
  intro j h
  have hu := Tryz.underlying313
  have hc : j = 0 ∨ j = 1 ∨ j = 2 ∨ j = 3 ∨ j = 4 ∨ j = 5 ∨ j = 6 ∨ j = 7 := by omega
  rcases hc with rfl | rfl | rfl | rfl | rfl | rfl | rfl | rfl
  all_goals
    simp [Instr.index, asIntOf, Sem.run_bind, run_underlying hu, part, Tryz.isAgg312, Tryz.sizeOf312, Result.andThen]
set_option maxRecDepth 100000 in
set_option maxHeartbeats 2000000 in
theorem core_wants (f : FlagsS) (w : World) : Calls Tryz.prog 163 #[.agg (flagsV f).toArray] w (Nothing (.int .i64 f.wants) w) := by
  obtain ⟨a1, a2, a3, a4, a5, a6, a7, a8, a9⟩ := f
  simp only [flagsV, FlagsS.wants]
  obtain ⟨v, hv⟩ : ∃ v : Int, v = if a1 then 2 else if a3 then 3 else if a2 || !a4 then 0 else if a5 then 4 else if a6 then 5 else if a7 then 6 else if a8 then 7 else if a9 then 8 else 9 := ⟨_, rfl⟩
  rw [← hv]
  cases a2
  · cases a4
    · simp only [Bool.not_false, Bool.or_true, if_true] at hv
      replace hv := Lib.hid hv
      go_enter Tryz.func163, Tryz.ntmps163
      go_wp2
      have hI := fun w j h => want_index (.bool a1) (.bool a3) (.bool true) (.bool a5) (.bool a6) (.bool a7) (.bool a8) (.bool a9) (.int .i64 2) (.int .i64 3) (.int .i64 0) (.int .i64 4) (.int .i64 5) (.int .i64 6) (.int .i64 7) (.int .i64 8) w j h
      have I0 := fun w => hI w 0 (by decide)
      have I1 := fun w => hI w 1 (by decide)
      have I2 := fun w => hI w 2 (by decide)
      have I3 := fun w => hI w 3 (by decide)
      have I4 := fun w => hI w 4 (by decide)
      have I5 := fun w => hI w 5 (by decide)
      have I6 := fun w => hI w 6 (by decide)
      have I7 := fun w => hI w 7 (by decide)
      simp only [List.getD_cons_zero, List.getD_cons_succ, Int.cast_ofNat_Int, Int.natCast_zero, Int.natCast_one] at I0 I1 I2 I3 I4 I5 I6 I7
      clear hI
      go_loopg [35] 8 (fun gg i wr => ∃ (j : Nat), i = .int .i64 j ∧ j + gg = 8 ∧ Mod [] w wr ∧ (0 < j → a1 = false) ∧ (1 < j → a3 = false) ∧ (2 < j → true = false) ∧ (3 < j → a5 = false) ∧ (4 < j → a6 = false) ∧ (5 < j → a7 = false) ∧ (6 < j → a8 = false) ∧ (7 < j → a9 = false))
      case atStart => exact ⟨0, rfl, by omega, (Mod.refl _ _).alloc _, by omega, by omega, by omega, by omega, by omega, by omega, by omega, by omega⟩
      case round =>
        obtain ⟨j, rfl, hj, m, g1, g2, g3, g4, g5, g6, g7, g8⟩ := hrel
        have hc : j = 8 ∨ j = 0 ∨ j = 1 ∨ j = 2 ∨ j = 3 ∨ j = 4 ∨ j = 5 ∨ j = 6 ∨ j = 7 := by omega
        rcases hc with rfl | hc
        · replace g1 := g1 (by omega)
          replace g2 := g2 (by omega)
          replace g3 := g3 (by omega)
          replace g4 := g4 (by omega)
          replace g5 := g5 (by omega)
          replace g6 := g6 (by omega)
          replace g7 := g7 (by omega)
          replace g8 := g8 (by omega)
          first
            | (exfalso; exact absurd g3 (by decide))
            | skip
          all_goals
            go_wp2
            go_ret
            refine ⟨?_, m⟩
            rw [hv.out]; simp [g1, g2, g4, g5, g6, g7, g8]
        · have hgk : gk = 8 - j := by omega
          replace hgk := Lib.hid hgk
          rcases hc with hc | hc
          · skip
            subst hc
            try replace g1 := g1 (by omega)
            try replace g2 := g2 (by omega)
            try replace g3 := g3 (by omega)
            try replace g4 := g4 (by omega)
            try replace g5 := g5 (by omega)
            try replace g6 := g6 (by omega)
            try replace g7 := g7 (by omega)
            replace g1 := Lib.hid g1
            replace g2 := Lib.hid g2
            replace g3 := Lib.hid g3
            replace g4 := Lib.hid g4
            replace g5 := Lib.hid g5
            replace g6 := Lib.hid g6
            replace g7 := Lib.hid g7
            replace g8 := Lib.hid g8
            cases a1
            · skip
              go_wp2
              go_roundg (gk - 1)
              case measure => omega
              case rel =>
                refine ⟨0 + 1, rfl, by have := hgk.out; omega, ?_, ?_, ?_, ?_, ?_, ?_, ?_, ?_, ?_⟩
                · have h1 := m
                  repeat (first | with_reducible exact h1 | with_reducible apply Mod.alloc | with_reducible apply Mod.drewN | with_reducible apply Mod.drew | (with_reducible refine Mod.setCell ?_ (by right; have := h1.size; simp; try omega) _))
                all_goals
                  intro hlt
                  skip
                all_goals
                  first
                    | (exfalso; omega)
                    | rfl
                    | trivial
                    | exact g1.out
                    | exact g2.out
                    | exact g3.out
                    | exact g4.out
                    | exact g5.out
                    | exact g6.out
                    | exact g7.out
            · have h1 := m
              go_wp2
              go_ret
              refine ⟨?_, ?_⟩
              · rw [hv.out]
                replace g1 := g1.out
                replace g2 := g2.out
                replace g3 := g3.out
                replace g4 := g4.out
                replace g5 := g5.out
                replace g6 := g6.out
                replace g7 := g7.out
                clear I0 I1 I2 I3 I4 I5 I6 I7
                first
                  | (exact absurd g3 (by decide))
                  | simp [*]
              · skip
                repeat (first | with_reducible exact h1 | with_reducible apply Mod.alloc | with_reducible apply Mod.drewN | with_reducible apply Mod.drew | (with_reducible refine Mod.setCell ?_ (by right; have := h1.size; simp; try omega) _))
          rcases hc with hc | hc
          · skip
            subst hc
            try replace g1 := g1 (by omega)
            try replace g2 := g2 (by omega)
            try replace g3 := g3 (by omega)
            try replace g4 := g4 (by omega)
            try replace g5 := g5 (by omega)
            try replace g6 := g6 (by omega)
            try replace g7 := g7 (by omega)
            replace g1 := Lib.hid g1
            replace g2 := Lib.hid g2
            replace g3 := Lib.hid g3
            replace g4 := Lib.hid g4
            replace g5 := Lib.hid g5
            replace g6 := Lib.hid g6
            replace g7 := Lib.hid g7
            replace g8 := Lib.hid g8
            cases a3
            · skip
              go_wp2
              go_roundg (gk - 1)
              case measure => omega
              case rel =>
                refine ⟨1 + 1, rfl, by have := hgk.out; omega, ?_, ?_, ?_, ?_, ?_, ?_, ?_, ?_, ?_⟩
                · have h1 := m
                  repeat (first | with_reducible exact h1 | with_reducible apply Mod.alloc | with_reducible apply Mod.drewN | with_reducible apply Mod.drew | (with_reducible refine Mod.setCell ?_ (by right; have := h1.size; simp; try omega) _))
                all_goals
                  intro hlt
                  skip
                all_goals
                  first
                    | (exfalso; omega)
                    | rfl
                    | trivial
                    | exact g1.out
                    | exact g2.out
                    | exact g3.out
                    | exact g4.out
                    | exact g5.out
                    | exact g6.out
                    | exact g7.out
            · have h1 := m
              go_wp2
              go_ret
              refine ⟨?_, ?_⟩
              · rw [hv.out]
                replace g1 := g1.out
                replace g2 := g2.out
                replace g3 := g3.out
                replace g4 := g4.out
                replace g5 := g5.out
                replace g6 := g6.out
                replace g7 := g7.out
                clear I0 I1 I2 I3 I4 I5 I6 I7
                first
                  | (exact absurd g3 (by decide))
                  | simp [*]
              · skip
                repeat (first | with_reducible exact h1 | with_reducible apply Mod.alloc | with_reducible apply Mod.drewN | with_reducible apply Mod.drew | (with_reducible refine Mod.setCell ?_ (by right; have := h1.size; simp; try omega) _))
          rcases hc with hc | hc
          · subst hc
            replace g1 := Lib.hid (g1 (by omega))
            replace g2 := Lib.hid (g2 (by omega))
            clear g3 g4 g5 g6 g7 g8
            first
              | (have hx : true = false := rfl
                 go_wp2
                 go_roundg (gk - 1)
                 case measure => omega
                 case rel =>
                   refine ⟨2 + 1, rfl, by have := hgk.out; omega, ?_, ?_, ?_, ?_, ?_, ?_, ?_, ?_, ?_⟩
                   · have h1 := m
                     repeat (first | with_reducible exact h1 | with_reducible apply Mod.alloc | with_reducible apply Mod.drewN | with_reducible apply Mod.drew | (with_reducible refine Mod.setCell ?_ (by right; have := h1.size; simp; try omega) _))
                   all_goals
                     intro hlt
                     first | (exfalso; omega) | rfl | trivial | exact g1.out | exact g2.out)
              | (go_wp2
                 go_ret
                 refine ⟨by rw [hv.out]; simp [g1.out, g2.out], ?_⟩
                 have h1 := m
                 repeat (first | with_reducible exact h1 | with_reducible apply Mod.alloc | with_reducible apply Mod.drewN | with_reducible apply Mod.drew | (with_reducible refine Mod.setCell ?_ (by right; have := h1.size; simp; try omega) _))
                 )
          rcases hc with hc | hc
          · skip
            subst hc
            try replace g1 := g1 (by omega)
            try replace g2 := g2 (by omega)
            try replace g3 := g3 (by omega)
            try replace g4 := g4 (by omega)
            try replace g5 := g5 (by omega)
            try replace g6 := g6 (by omega)
            try replace g7 := g7 (by omega)
            replace g1 := Lib.hid g1
            replace g2 := Lib.hid g2
            replace g3 := Lib.hid g3
            replace g4 := Lib.hid g4
            replace g5 := Lib.hid g5
            replace g6 := Lib.hid g6
            replace g7 := Lib.hid g7
            replace g8 := Lib.hid g8
            cases a5
            · skip
              go_wp2
              go_roundg (gk - 1)
              case measure => omega
              case rel =>
                refine ⟨3 + 1, rfl, by have := hgk.out; omega, ?_, ?_, ?_, ?_, ?_, ?_, ?_, ?_, ?_⟩
                · have h1 := m
                  repeat (first | with_reducible exact h1 | with_reducible apply Mod.alloc | with_reducible apply Mod.drewN | with_reducible apply Mod.drew | (with_reducible refine Mod.setCell ?_ (by right; have := h1.size; simp; try omega) _))
                all_goals
                  intro hlt
                  skip
                all_goals
                  first
                    | (exfalso; omega)
                    | rfl
                    | trivial
                    | exact g1.out
                    | exact g2.out
                    | exact g3.out
                    | exact g4.out
                    | exact g5.out
                    | exact g6.out
                    | exact g7.out
            · have h1 := m
              go_wp2
              go_ret
              refine ⟨?_, ?_⟩
              · rw [hv.out]
                replace g1 := g1.out
                replace g2 := g2.out
                replace g3 := g3.out
                replace g4 := g4.out
                replace g5 := g5.out
                replace g6 := g6.out
                replace g7 := g7.out
                clear I0 I1 I2 I3 I4 I5 I6 I7
                first
                  | (exact absurd g3 (by decide))
                  | simp [*]
              · skip
                repeat (first | with_reducible exact h1 | with_reducible apply Mod.alloc | with_reducible apply Mod.drewN | with_reducible apply Mod.drew | (with_reducible refine Mod.setCell ?_ (by right; have := h1.size; simp; try omega) _))
          rcases hc with hc | hc
          · skip
            subst hc
            try replace g1 := g1 (by omega)
            try replace g2 := g2 (by omega)
            try replace g3 := g3 (by omega)
            try replace g4 := g4 (by omega)
            try replace g5 := g5 (by omega)
            try replace g6 := g6 (by omega)
            try replace g7 := g7 (by omega)
            replace g1 := Lib.hid g1
            replace g2 := Lib.hid g2
            replace g3 := Lib.hid g3
            replace g4 := Lib.hid g4
            replace g5 := Lib.hid g5
            replace g6 := Lib.hid g6
            replace g7 := Lib.hid g7
            replace g8 := Lib.hid g8
            cases a6
            · skip
              go_wp2
              go_roundg (gk - 1)
              case measure => omega
              case rel =>
                refine ⟨4 + 1, rfl, by have := hgk.out; omega, ?_, ?_, ?_, ?_, ?_, ?_, ?_, ?_, ?_⟩
                · have h1 := m
                  repeat (first | with_reducible exact h1 | with_reducible apply Mod.alloc | with_reducible apply Mod.drewN | with_reducible apply Mod.drew | (with_reducible refine Mod.setCell ?_ (by right; have := h1.size; simp; try omega) _))
                all_goals
                  intro hlt
                  skip
                all_goals
                  first
                    | (exfalso; omega)
                    | rfl
                    | trivial
                    | exact g1.out
                    | exact g2.out
                    | exact g3.out
                    | exact g4.out
                    | exact g5.out
                    | exact g6.out
                    | exact g7.out
            · have h1 := m
              go_wp2
              go_ret
              refine ⟨?_, ?_⟩
              · rw [hv.out]
                replace g1 := g1.out
                replace g2 := g2.out
                replace g3 := g3.out
                replace g4 := g4.out
                replace g5 := g5.out
                replace g6 := g6.out
                replace g7 := g7.out
                clear I0 I1 I2 I3 I4 I5 I6 I7
                first
                  | (exact absurd g3 (by decide))
                  | simp [*]
              · skip
                repeat (first | with_reducible exact h1 | with_reducible apply Mod.alloc | with_reducible apply Mod.drewN | with_reducible apply Mod.drew | (with_reducible refine Mod.setCell ?_ (by right; have := h1.size; simp; try omega) _))
          rcases hc with hc | hc
          · skip
            subst hc
            try replace g1 := g1 (by omega)
            try replace g2 := g2 (by omega)
            try replace g3 := g3 (by omega)
            try replace g4 := g4 (by omega)
            try replace g5 := g5 (by omega)
            try replace g6 := g6 (by omega)
            try replace g7 := g7 (by omega)
            replace g1 := Lib.hid g1
            replace g2 := Lib.hid g2
            replace g3 := Lib.hid g3
            replace g4 := Lib.hid g4
            replace g5 := Lib.hid g5
            replace g6 := Lib.hid g6
            replace g7 := Lib.hid g7
            replace g8 := Lib.hid g8
            cases a7
            · skip
              go_wp2
              go_roundg (gk - 1)
              case measure => omega
              case rel =>
                refine ⟨5 + 1, rfl, by have := hgk.out; omega, ?_, ?_, ?_, ?_, ?_, ?_, ?_, ?_, ?_⟩
                · have h1 := m
                  repeat (first | with_reducible exact h1 | with_reducible apply Mod.alloc | with_reducible apply Mod.drewN | with_reducible apply Mod.drew | (with_reducible refine Mod.setCell ?_ (by right; have := h1.size; simp; try omega) _))
                all_goals
                  intro hlt
                  skip
                all_goals
                  first
                    | (exfalso; omega)
                    | rfl
                    | trivial
                    | exact g1.out
                    | exact g2.out
                    | exact g3.out
                    | exact g4.out
                    | exact g5.out
                    | exact g6.out
                    | exact g7.out
            · have h1 := m
              go_wp2
              go_ret
              refine ⟨?_, ?_⟩
              · rw [hv.out]
                replace g1 := g1.out
                replace g2 := g2.out
                replace g3 := g3.out
                replace g4 := g4.out
                replace g5 := g5.out
                replace g6 := g6.out
                replace g7 := g7.out
                clear I0 I1 I2 I3 I4 I5 I6 I7
                first
                  | (exact absurd g3 (by decide))
                  | simp [*]
              · skip
                repeat (first | with_reducible exact h1 | with_reducible apply Mod.alloc | with_reducible apply Mod.drewN | with_reducible apply Mod.drew | (with_reducible refine Mod.setCell ?_ (by right; have := h1.size; simp; try omega) _))
          rcases hc with hc | hc
          · skip
            subst hc
            try replace g1 := g1 (by omega)
            try replace g2 := g2 (by omega)
            try replace g3 := g3 (by omega)
            try replace g4 := g4 (by omega)
            try replace g5 := g5 (by omega)
            try replace g6 := g6 (by omega)
            try replace g7 := g7 (by omega)
            replace g1 := Lib.hid g1
            replace g2 := Lib.hid g2
            replace g3 := Lib.hid g3
            replace g4 := Lib.hid g4
            replace g5 := Lib.hid g5
            replace g6 := Lib.hid g6
            replace g7 := Lib.hid g7
            replace g8 := Lib.hid g8
            cases a8
            · skip
              go_wp2
              go_roundg (gk - 1)
              case measure => omega
              case rel =>
                refine ⟨6 + 1, rfl, by have := hgk.out; omega, ?_, ?_, ?_, ?_, ?_, ?_, ?_, ?_, ?_⟩
                · have h1 := m
                  repeat (first | with_reducible exact h1 | with_reducible apply Mod.alloc | with_reducible apply Mod.drewN | with_reducible apply Mod.drew | (with_reducible refine Mod.setCell ?_ (by right; have := h1.size; simp; try omega) _))
                all_goals
                  intro hlt
                  skip
                all_goals
                  first
                    | (exfalso; omega)
                    | rfl
                    | trivial
                    | exact g1.out
                    | exact g2.out
                    | exact g3.out
                    | exact g4.out
                    | exact g5.out
                    | exact g6.out
                    | exact g7.out
            · have h1 := m
              go_wp2
              go_ret
              refine ⟨?_, ?_⟩
              · rw [hv.out]
                replace g1 := g1.out
                replace g2 := g2.out
                replace g3 := g3.out
                replace g4 := g4.out
                replace g5 := g5.out
                replace g6 := g6.out
                replace g7 := g7.out
                clear I0 I1 I2 I3 I4 I5 I6 I7
                first
                  | (exact absurd g3 (by decide))
                  | simp [*]
              · skip
                repeat (first | with_reducible exact h1 | with_reducible apply Mod.alloc | with_reducible apply Mod.drewN | with_reducible apply Mod.drew | (with_reducible refine Mod.setCell ?_ (by right; have := h1.size; simp; try omega) _))
          subst hc
          try replace g1 := g1 (by omega)
          try replace g2 := g2 (by omega)
          try replace g3 := g3 (by omega)
          try replace g4 := g4 (by omega)
          try replace g5 := g5 (by omega)
          try replace g6 := g6 (by omega)
          try replace g7 := g7 (by omega)
          replace g1 := Lib.hid g1
          replace g2 := Lib.hid g2
          replace g3 := Lib.hid g3
          replace g4 := Lib.hid g4
          replace g5 := Lib.hid g5
          replace g6 := Lib.hid g6
          replace g7 := Lib.hid g7
          replace g8 := Lib.hid g8
          cases a9
          · skip
            go_wp2
            go_roundg (gk - 1)
            case measure => omega
            case rel =>
              refine ⟨7 + 1, rfl, by have := hgk.out; omega, ?_, ?_, ?_, ?_, ?_, ?_, ?_, ?_, ?_⟩
              · have h1 := m
                repeat (first | with_reducible exact h1 | with_reducible apply Mod.alloc | with_reducible apply Mod.drewN | with_reducible apply Mod.drew | (with_reducible refine Mod.setCell ?_ (by right; have := h1.size; simp; try omega) _))
              all_goals
                intro hlt
                skip
              all_goals
                first
                  | (exfalso; omega)
                  | rfl
                  | trivial
                  | exact g1.out
                  | exact g2.out
                  | exact g3.out
                  | exact g4.out
                  | exact g5.out
                  | exact g6.out
                  | exact g7.out
          · have h1 := m
            go_wp2
            go_ret
            refine ⟨?_, ?_⟩
            · rw [hv.out]
              replace g1 := g1.out
              replace g2 := g2.out
              replace g3 := g3.out
              replace g4 := g4.out
              replace g5 := g5.out
              replace g6 := g6.out
              replace g7 := g7.out
              clear I0 I1 I2 I3 I4 I5 I6 I7
              first
                | (exact absurd g3 (by decide))
                | simp [*]
            · skip
              repeat (first | with_reducible exact h1 | with_reducible apply Mod.alloc | with_reducible apply Mod.drewN | with_reducible apply Mod.drew | (with_reducible refine Mod.setCell ?_ (by right; have := h1.size; simp; try omega) _))
    · simp only [Bool.not_true, Bool.or_false, Bool.false_eq_true, if_false] at hv
      replace hv := Lib.hid hv
      go_enter Tryz.func163, Tryz.ntmps163
      go_wp2
      have hI := fun w j h => want_index (.bool a1) (.bool a3) (.bool false) (.bool a5) (.bool a6) (.bool a7) (.bool a8) (.bool a9) (.int .i64 2) (.int .i64 3) (.int .i64 0) (.int .i64 4) (.int .i64 5) (.int .i64 6) (.int .i64 7) (.int .i64 8) w j h
      have I0 := fun w => hI w 0 (by decide)
      have I1 := fun w => hI w 1 (by decide)
      have I2 := fun w => hI w 2 (by decide)
      have I3 := fun w => hI w 3 (by decide)
      have I4 := fun w => hI w 4 (by decide)
      have I5 := fun w => hI w 5 (by decide)
      have I6 := fun w => hI w 6 (by decide)
      have I7 := fun w => hI w 7 (by decide)
      simp only [List.getD_cons_zero, List.getD_cons_succ, Int.cast_ofNat_Int, Int.natCast_zero, Int.natCast_one] at I0 I1 I2 I3 I4 I5 I6 I7
      clear hI
      go_loopg [35] 8 (fun gg i wr => ∃ (j : Nat), i = .int .i64 j ∧ j + gg = 8 ∧ Mod [] w wr ∧ (0 < j → a1 = false) ∧ (1 < j → a3 = false) ∧ (2 < j → false = false) ∧ (3 < j → a5 = false) ∧ (4 < j → a6 = false) ∧ (5 < j → a7 = false) ∧ (6 < j → a8 = false) ∧ (7 < j → a9 = false))
      case atStart => exact ⟨0, rfl, by omega, (Mod.refl _ _).alloc _, by omega, by omega, by omega, by omega, by omega, by omega, by omega, by omega⟩
      case round =>
        obtain ⟨j, rfl, hj, m, g1, g2, g3, g4, g5, g6, g7, g8⟩ := hrel
        have hc : j = 8 ∨ j = 0 ∨ j = 1 ∨ j = 2 ∨ j = 3 ∨ j = 4 ∨ j = 5 ∨ j = 6 ∨ j = 7 := by omega
        rcases hc with rfl | hc
        · replace g1 := g1 (by omega)
          replace g2 := g2 (by omega)
          replace g3 := g3 (by omega)
          replace g4 := g4 (by omega)
          replace g5 := g5 (by omega)
          replace g6 := g6 (by omega)
          replace g7 := g7 (by omega)
          replace g8 := g8 (by omega)
          first
            | (exfalso; exact absurd g3 (by decide))
            | skip
          all_goals
            go_wp2
            go_ret
            refine ⟨?_, m⟩
            rw [hv.out]; simp [g1, g2, g4, g5, g6, g7, g8]
        · have hgk : gk = 8 - j := by omega
          replace hgk := Lib.hid hgk
          rcases hc with hc | hc
          · skip
            subst hc
            try replace g1 := g1 (by omega)
            try replace g2 := g2 (by omega)
            try replace g3 := g3 (by omega)
            try replace g4 := g4 (by omega)
            try replace g5 := g5 (by omega)
            try replace g6 := g6 (by omega)
            try replace g7 := g7 (by omega)
            replace g1 := Lib.hid g1
            replace g2 := Lib.hid g2
            replace g3 := Lib.hid g3
            replace g4 := Lib.hid g4
            replace g5 := Lib.hid g5
            replace g6 := Lib.hid g6
            replace g7 := Lib.hid g7
            replace g8 := Lib.hid g8
            cases a1
            · skip
              go_wp2
              go_roundg (gk - 1)
              case measure => omega
              case rel =>
                refine ⟨0 + 1, rfl, by have := hgk.out; omega, ?_, ?_, ?_, ?_, ?_, ?_, ?_, ?_, ?_⟩
                · have h1 := m
                  repeat (first | with_reducible exact h1 | with_reducible apply Mod.alloc | with_reducible apply Mod.drewN | with_reducible apply Mod.drew | (with_reducible refine Mod.setCell ?_ (by right; have := h1.size; simp; try omega) _))
                all_goals
                  intro hlt
                  skip
                all_goals
                  first
                    | (exfalso; omega)
                    | rfl
                    | trivial
                    | exact g1.out
                    | exact g2.out
                    | exact g3.out
                    | exact g4.out
                    | exact g5.out
                    | exact g6.out
                    | exact g7.out
            · have h1 := m
              go_wp2
              go_ret
              refine ⟨?_, ?_⟩
              · rw [hv.out]
                replace g1 := g1.out
                replace g2 := g2.out
                replace g3 := g3.out
                replace g4 := g4.out
                replace g5 := g5.out
                replace g6 := g6.out
                replace g7 := g7.out
                clear I0 I1 I2 I3 I4 I5 I6 I7
                first
                  | (exact absurd g3 (by decide))
                  | simp [*]
              · skip
                repeat (first | with_reducible exact h1 | with_reducible apply Mod.alloc | with_reducible apply Mod.drewN | with_reducible apply Mod.drew | (with_reducible refine Mod.setCell ?_ (by right; have := h1.size; simp; try omega) _))
          rcases hc with hc | hc
          · skip
            subst hc
            try replace g1 := g1 (by omega)
            try replace g2 := g2 (by omega)
            try replace g3 := g3 (by omega)
            try replace g4 := g4 (by omega)
            try replace g5 := g5 (by omega)
            try replace g6 := g6 (by omega)
            try replace g7 := g7 (by omega)
            replace g1 := Lib.hid g1
            replace g2 := Lib.hid g2
            replace g3 := Lib.hid g3
            replace g4 := Lib.hid g4
            replace g5 := Lib.hid g5
            replace g6 := Lib.hid g6
            replace g7 := Lib.hid g7
            replace g8 := Lib.hid g8
            cases a3
            · skip
              go_wp2
              go_roundg (gk - 1)
              case measure => omega
              case rel =>
                refine ⟨1 + 1, rfl, by have := hgk.out; omega, ?_, ?_, ?_, ?_, ?_, ?_, ?_, ?_, ?_⟩
                · have h1 := m
                  repeat (first | with_reducible exact h1 | with_reducible apply Mod.alloc | with_reducible apply Mod.drewN | with_reducible apply Mod.drew | (with_reducible refine Mod.setCell ?_ (by right; have := h1.size; simp; try omega) _))
                all_goals
                  intro hlt
                  skip
                all_goals
                  first
                    | (exfalso; omega)
                    | rfl
                    | trivial
                    | exact g1.out
                    | exact g2.out
                    | exact g3.out
                    | exact g4.out
                    | exact g5.out
                    | exact g6.out
                    | exact g7.out
            · have h1 := m
              go_wp2
              go_ret
              refine ⟨?_, ?_⟩
              · rw [hv.out]
                replace g1 := g1.out
                replace g2 := g2.out
                replace g3 := g3.out
                replace g4 := g4.out
                replace g5 := g5.out
                replace g6 := g6.out
                replace g7 := g7.out
                clear I0 I1 I2 I3 I4 I5 I6 I7
                first
                  | (exact absurd g3 (by decide))
                  | simp [*]
              · skip
                repeat (first | with_reducible exact h1 | with_reducible apply Mod.alloc | with_reducible apply Mod.drewN | with_reducible apply Mod.drew | (with_reducible refine Mod.setCell ?_ (by right; have := h1.size; simp; try omega) _))
          rcases hc with hc | hc
          · subst hc
            replace g1 := Lib.hid (g1 (by omega))
            replace g2 := Lib.hid (g2 (by omega))
            clear g3 g4 g5 g6 g7 g8
            first
              | (have hx : false = false := rfl
                 go_wp2
                 go_roundg (gk - 1)
                 case measure => omega
                 case rel =>
                   refine ⟨2 + 1, rfl, by have := hgk.out; omega, ?_, ?_, ?_, ?_, ?_, ?_, ?_, ?_, ?_⟩
                   · have h1 := m
                     repeat (first | with_reducible exact h1 | with_reducible apply Mod.alloc | with_reducible apply Mod.drewN | with_reducible apply Mod.drew | (with_reducible refine Mod.setCell ?_ (by right; have := h1.size; simp; try omega) _))
                   all_goals
                     intro hlt
                     first | (exfalso; omega) | rfl | trivial | exact g1.out | exact g2.out)
              | (go_wp2
                 go_ret
                 refine ⟨by rw [hv.out]; simp [g1.out, g2.out], ?_⟩
                 have h1 := m
                 repeat (first | with_reducible exact h1 | with_reducible apply Mod.alloc | with_reducible apply Mod.drewN | with_reducible apply Mod.drew | (with_reducible refine Mod.setCell ?_ (by right; have := h1.size; simp; try omega) _))
                 )
          rcases hc with hc | hc
          · skip
            subst hc
            try replace g1 := g1 (by omega)
            try replace g2 := g2 (by omega)
            try replace g3 := g3 (by omega)
            try replace g4 := g4 (by omega)
            try replace g5 := g5 (by omega)
            try replace g6 := g6 (by omega)
            try replace g7 := g7 (by omega)
            replace g1 := Lib.hid g1
            replace g2 := Lib.hid g2
            replace g3 := Lib.hid g3
            replace g4 := Lib.hid g4
            replace g5 := Lib.hid g5
            replace g6 := Lib.hid g6
            replace g7 := Lib.hid g7
            replace g8 := Lib.hid g8
            cases a5
            · skip
              go_wp2
              go_roundg (gk - 1)
              case measure => omega
              case rel =>
                refine ⟨3 + 1, rfl, by have := hgk.out; omega, ?_, ?_, ?_, ?_, ?_, ?_, ?_, ?_, ?_⟩
                · have h1 := m
                  repeat (first | with_reducible exact h1 | with_reducible apply Mod.alloc | with_reducible apply Mod.drewN | with_reducible apply Mod.drew | (with_reducible refine Mod.setCell ?_ (by right; have := h1.size; simp; try omega) _))
                all_goals
                  intro hlt
                  skip
                all_goals
                  first
                    | (exfalso; omega)
                    | rfl
                    | trivial
                    | exact g1.out
                    | exact g2.out
                    | exact g3.out
                    | exact g4.out
                    | exact g5.out
                    | exact g6.out
                    | exact g7.out
            · have h1 := m
              go_wp2
              go_ret
              refine ⟨?_, ?_⟩
              · rw [hv.out]
                replace g1 := g1.out
                replace g2 := g2.out
                replace g3 := g3.out
                replace g4 := g4.out
                replace g5 := g5.out
                replace g6 := g6.out
                replace g7 := g7.out
                clear I0 I1 I2 I3 I4 I5 I6 I7
                first
                  | (exact absurd g3 (by decide))
                  | simp [*]
              · skip
                repeat (first | with_reducible exact h1 | with_reducible apply Mod.alloc | with_reducible apply Mod.drewN | with_reducible apply Mod.drew | (with_reducible refine Mod.setCell ?_ (by right; have := h1.size; simp; try omega) _))
          rcases hc with hc | hc
          · skip
            subst hc
            try replace g1 := g1 (by omega)
            try replace g2 := g2 (by omega)
            try replace g3 := g3 (by omega)
            try replace g4 := g4 (by omega)
            try replace g5 := g5 (by omega)
            try replace g6 := g6 (by omega)
            try replace g7 := g7 (by omega)
            replace g1 := Lib.hid g1
            replace g2 := Lib.hid g2
            replace g3 := Lib.hid g3
            replace g4 := Lib.hid g4
            replace g5 := Lib.hid g5
            replace g6 := Lib.hid g6
            replace g7 := Lib.hid g7
            replace g8 := Lib.hid g8
            cases a6
            · skip
              go_wp2
              go_roundg (gk - 1)
              case measure => omega
              case rel =>
                refine ⟨4 + 1, rfl, by have := hgk.out; omega, ?_, ?_, ?_, ?_, ?_, ?_, ?_, ?_, ?_⟩
                · have h1 := m
                  repeat (first | with_reducible exact h1 | with_reducible apply Mod.alloc | with_reducible apply Mod.drewN | with_reducible apply Mod.drew | (with_reducible refine Mod.setCell ?_ (by right; have := h1.size; simp; try omega) _))
                all_goals
                  intro hlt
                  skip
                all_goals
                  first
                    | (exfalso; omega)
                    | rfl
                    | trivial
                    | exact g1.out
                    | exact g2.out
                    | exact g3.out
                    | exact g4.out
                    | exact g5.out
                    | exact g6.out
                    | exact g7.out
            · have h1 := m
              go_wp2
              go_ret
              refine ⟨?_, ?_⟩
              · rw [hv.out]
                replace g1 := g1.out
                replace g2 := g2.out
                replace g3 := g3.out
                replace g4 := g4.out
                replace g5 := g5.out
                replace g6 := g6.out
                replace g7 := g7.out
                clear I0 I1 I2 I3 I4 I5 I6 I7
                first
                  | (exact absurd g3 (by decide))
                  | simp [*]
              · skip
                repeat (first | with_reducible exact h1 | with_reducible apply Mod.alloc | with_reducible apply Mod.drewN | with_reducible apply Mod.drew | (with_reducible refine Mod.setCell ?_ (by right; have := h1.size; simp; try omega) _))
          rcases hc with hc | hc
          · skip
            subst hc
            try replace g1 := g1 (by omega)
            try replace g2 := g2 (by omega)
            try replace g3 := g3 (by omega)
            try replace g4 := g4 (by omega)
            try replace g5 := g5 (by omega)
            try replace g6 := g6 (by omega)
            try replace g7 := g7 (by omega)
            replace g1 := Lib.hid g1
            replace g2 := Lib.hid g2
            replace g3 := Lib.hid g3
            replace g4 := Lib.hid g4
            replace g5 := Lib.hid g5
            replace g6 := Lib.hid g6
            replace g7 := Lib.hid g7
            replace g8 := Lib.hid g8
            cases a7
            · skip
              go_wp2
              go_roundg (gk - 1)
              case measure => omega
              case rel =>
                refine ⟨5 + 1, rfl, by have := hgk.out; omega, ?_, ?_, ?_, ?_, ?_, ?_, ?_, ?_, ?_⟩
                · have h1 := m
                  repeat (first | with_reducible exact h1 | with_reducible apply Mod.alloc | with_reducible apply Mod.drewN | with_reducible apply Mod.drew | (with_reducible refine Mod.setCell ?_ (by right; have := h1.size; simp; try omega) _))
                all_goals
                  intro hlt
                  skip
                all_goals
                  first
                    | (exfalso; omega)
                    | rfl
                    | trivial
                    | exact g1.out
                    | exact g2.out
                    | exact g3.out
                    | exact g4.out
                    | exact g5.out
                    | exact g6.out
                    | exact g7.out
            · have h1 := m
              go_wp2
              go_ret
              refine ⟨?_, ?_⟩
              · rw [hv.out]
                replace g1 := g1.out
                replace g2 := g2.out
                replace g3 := g3.out
                replace g4 := g4.out
                replace g5 := g5.out
                replace g6 := g6.out
                replace g7 := g7.out
                clear I0 I1 I2 I3 I4 I5 I6 I7
                first
                  | (exact absurd g3 (by decide))
                  | simp [*]
              · skip
                repeat (first | with_reducible exact h1 | with_reducible apply Mod.alloc | with_reducible apply Mod.drewN | with_reducible apply Mod.drew | (with_reducible refine Mod.setCell ?_ (by right; have := h1.size; simp; try omega) _))
          rcases hc with hc | hc
          · skip
            subst hc
            try replace g1 := g1 (by omega)
            try replace g2 := g2 (by omega)
            try replace g3 := g3 (by omega)
            try replace g4 := g4 (by omega)
            try replace g5 := g5 (by omega)
            try replace g6 := g6 (by omega)
            try replace g7 := g7 (by omega)
            replace g1 := Lib.hid g1
            replace g2 := Lib.hid g2
            replace g3 := Lib.hid g3
            replace g4 := Lib.hid g4
            replace g5 := Lib.hid g5
            replace g6 := Lib.hid g6
            replace g7 := Lib.hid g7
            replace g8 := Lib.hid g8
            cases a8
            · skip
              go_wp2
              go_roundg (gk - 1)
              case measure => omega
              case rel =>
                refine ⟨6 + 1, rfl, by have := hgk.out; omega, ?_, ?_, ?_, ?_, ?_, ?_, ?_, ?_, ?_⟩
                · have h1 := m
                  repeat (first | with_reducible exact h1 | with_reducible apply Mod.alloc | with_reducible apply Mod.drewN | with_reducible apply Mod.drew | (with_reducible refine Mod.setCell ?_ (by right; have := h1.size; simp; try omega) _))
                all_goals
                  intro hlt
                  skip
                all_goals
                  first
                    | (exfalso; omega)
                    | rfl
                    | trivial
                    | exact g1.out
                    | exact g2.out
                    | exact g3.out
                    | exact g4.out
                    | exact g5.out
                    | exact g6.out
                    | exact g7.out
            · have h1 := m
              go_wp2
              go_ret
              refine ⟨?_, ?_⟩
              · rw [hv.out]
                replace g1 := g1.out
                replace g2 := g2.out
                replace g3 := g3.out
                replace g4 := g4.out
                replace g5 := g5.out
                replace g6 := g6.out
                replace g7 := g7.out
                clear I0 I1 I2 I3 I4 I5 I6 I7
                first
                  | (exact absurd g3 (by decide))
                  | simp [*]
              · skip
                repeat (first | with_reducible exact h1 | with_reducible apply Mod.alloc | with_reducible apply Mod.drewN | with_reducible apply Mod.drew | (with_reducible refine Mod.setCell ?_ (by right; have := h1.size; simp; try omega) _))
          subst hc
          try replace g1 := g1 (by omega)
          try replace g2 := g2 (by omega)
          try replace g3 := g3 (by omega)
          try replace g4 := g4 (by omega)
          try replace g5 := g5 (by omega)
          try replace g6 := g6 (by omega)
          try replace g7 := g7 (by omega)
          replace g1 := Lib.hid g1
          replace g2 := Lib.hid g2
          replace g3 := Lib.hid g3
          replace g4 := Lib.hid g4
          replace g5 := Lib.hid g5
          replace g6 := Lib.hid g6
          replace g7 := Lib.hid g7
          replace g8 := Lib.hid g8
          cases a9
          · skip
            go_wp2
            go_roundg (gk - 1)
            case measure => omega
            case rel =>
              refine ⟨7 + 1, rfl, by have := hgk.out; omega, ?_, ?_, ?_, ?_, ?_, ?_, ?_, ?_, ?_⟩
              · have h1 := m
                repeat (first | with_reducible exact h1 | with_reducible apply Mod.alloc | with_reducible apply Mod.drewN | with_reducible apply Mod.drew | (with_reducible refine Mod.setCell ?_ (by right; have := h1.size; simp; try omega) _))
              all_goals
                intro hlt
                skip
              all_goals
                first
                  | (exfalso; omega)
                  | rfl
                  | trivial
                  | exact g1.out
                  | exact g2.out
                  | exact g3.out
                  | exact g4.out
                  | exact g5.out
                  | exact g6.out
                  | exact g7.out
          · have h1 := m
            go_wp2
            go_ret
            refine ⟨?_, ?_⟩
            · rw [hv.out]
              replace g1 := g1.out
              replace g2 := g2.out
              replace g3 := g3.out
              replace g4 := g4.out
              replace g5 := g5.out
              replace g6 := g6.out
              replace g7 := g7.out
              clear I0 I1 I2 I3 I4 I5 I6 I7
              first
                | (exact absurd g3 (by decide))
                | simp [*]
            · skip
              repeat (first | with_reducible exact h1 | with_reducible apply Mod.alloc | with_reducible apply Mod.drewN | with_reducible apply Mod.drew | (with_reducible refine Mod.setCell ?_ (by right; have := h1.size; simp; try omega) _))
  · simp only [Bool.true_or, if_true] at hv
    replace hv := Lib.hid hv
    go_enter Tryz.func163, Tryz.ntmps163
    go_wp2
    have hI := fun w j h => want_index (.bool a1) (.bool a3) (.bool true) (.bool a5) (.bool a6) (.bool a7) (.bool a8) (.bool a9) (.int .i64 2) (.int .i64 3) (.int .i64 0) (.int .i64 4) (.int .i64 5) (.int .i64 6) (.int .i64 7) (.int .i64 8) w j h
    have I0 := fun w => hI w 0 (by decide)
    have I1 := fun w => hI w 1 (by decide)
    have I2 := fun w => hI w 2 (by decide)
    have I3 := fun w => hI w 3 (by decide)
    have I4 := fun w => hI w 4 (by decide)
    have I5 := fun w => hI w 5 (by decide)
    have I6 := fun w => hI w 6 (by decide)
    have I7 := fun w => hI w 7 (by decide)
    simp only [List.getD_cons_zero, List.getD_cons_succ, Int.cast_ofNat_Int, Int.natCast_zero, Int.natCast_one] at I0 I1 I2 I3 I4 I5 I6 I7
    clear hI
    go_loopg [35] 8 (fun gg i wr => ∃ (j : Nat), i = .int .i64 j ∧ j + gg = 8 ∧ Mod [] w wr ∧ (0 < j → a1 = false) ∧ (1 < j → a3 = false) ∧ (2 < j → true = false) ∧ (3 < j → a5 = false) ∧ (4 < j → a6 = false) ∧ (5 < j → a7 = false) ∧ (6 < j → a8 = false) ∧ (7 < j → a9 = false))
    case atStart => exact ⟨0, rfl, by omega, (Mod.refl _ _).alloc _, by omega, by omega, by omega, by omega, by omega, by omega, by omega, by omega⟩
    case round =>
      obtain ⟨j, rfl, hj, m, g1, g2, g3, g4, g5, g6, g7, g8⟩ := hrel
      have hc : j = 8 ∨ j = 0 ∨ j = 1 ∨ j = 2 ∨ j = 3 ∨ j = 4 ∨ j = 5 ∨ j = 6 ∨ j = 7 := by omega
      rcases hc with rfl | hc
      · replace g1 := g1 (by omega)
        replace g2 := g2 (by omega)
        replace g3 := g3 (by omega)
        replace g4 := g4 (by omega)
        replace g5 := g5 (by omega)
        replace g6 := g6 (by omega)
        replace g7 := g7 (by omega)
        replace g8 := g8 (by omega)
        first
          | (exfalso; exact absurd g3 (by decide))
          | skip
        all_goals
          go_wp2
          go_ret
          refine ⟨?_, m⟩
          rw [hv.out]; simp [g1, g2, g4, g5, g6, g7, g8]
      · have hgk : gk = 8 - j := by omega
        replace hgk := Lib.hid hgk
        rcases hc with hc | hc
        · skip
          subst hc
          try replace g1 := g1 (by omega)
          try replace g2 := g2 (by omega)
          try replace g3 := g3 (by omega)
          try replace g4 := g4 (by omega)
          try replace g5 := g5 (by omega)
          try replace g6 := g6 (by omega)
          try replace g7 := g7 (by omega)
          replace g1 := Lib.hid g1
          replace g2 := Lib.hid g2
          replace g3 := Lib.hid g3
          replace g4 := Lib.hid g4
          replace g5 := Lib.hid g5
          replace g6 := Lib.hid g6
          replace g7 := Lib.hid g7
          replace g8 := Lib.hid g8
          cases a1
          · skip
            go_wp2
            go_roundg (gk - 1)
            case measure => omega
            case rel =>
              refine ⟨0 + 1, rfl, by have := hgk.out; omega, ?_, ?_, ?_, ?_, ?_, ?_, ?_, ?_, ?_⟩
              · have h1 := m
                repeat (first | with_reducible exact h1 | with_reducible apply Mod.alloc | with_reducible apply Mod.drewN | with_reducible apply Mod.drew | (with_reducible refine Mod.setCell ?_ (by right; have := h1.size; simp; try omega) _))
              all_goals
                intro hlt
                skip
              all_goals
                first
                  | (exfalso; omega)
                  | rfl
                  | trivial
                  | exact g1.out
                  | exact g2.out
                  | exact g3.out
                  | exact g4.out
                  | exact g5.out
                  | exact g6.out
                  | exact g7.out
          · have h1 := m
            go_wp2
            go_ret
            refine ⟨?_, ?_⟩
            · rw [hv.out]
              replace g1 := g1.out
              replace g2 := g2.out
              replace g3 := g3.out
              replace g4 := g4.out
              replace g5 := g5.out
              replace g6 := g6.out
              replace g7 := g7.out
              clear I0 I1 I2 I3 I4 I5 I6 I7
              first
                | (exact absurd g3 (by decide))
                | simp [*]
            · skip
              repeat (first | with_reducible exact h1 | with_reducible apply Mod.alloc | with_reducible apply Mod.drewN | with_reducible apply Mod.drew | (with_reducible refine Mod.setCell ?_ (by right; have := h1.size; simp; try omega) _))
        rcases hc with hc | hc
        · skip
          subst hc
          try replace g1 := g1 (by omega)
          try replace g2 := g2 (by omega)
          try replace g3 := g3 (by omega)
          try replace g4 := g4 (by omega)
          try replace g5 := g5 (by omega)
          try replace g6 := g6 (by omega)
          try replace g7 := g7 (by omega)
          replace g1 := Lib.hid g1
          replace g2 := Lib.hid g2
          replace g3 := Lib.hid g3
          replace g4 := Lib.hid g4
          replace g5 := Lib.hid g5
          replace g6 := Lib.hid g6
          replace g7 := Lib.hid g7
          replace g8 := Lib.hid g8
          cases a3
          · skip
            go_wp2
            go_roundg (gk - 1)
            case measure => omega
            case rel =>
              refine ⟨1 + 1, rfl, by have := hgk.out; omega, ?_, ?_, ?_, ?_, ?_, ?_, ?_, ?_, ?_⟩
              · have h1 := m
                repeat (first | with_reducible exact h1 | with_reducible apply Mod.alloc | with_reducible apply Mod.drewN | with_reducible apply Mod.drew | (with_reducible refine Mod.setCell ?_ (by right; have := h1.size; simp; try omega) _))
              all_goals
                intro hlt
                skip
              all_goals
                first
                  | (exfalso; omega)
                  | rfl
                  | trivial
                  | exact g1.out
                  | exact g2.out
                  | exact g3.out
                  | exact g4.out
                  | exact g5.out
                  | exact g6.out
                  | exact g7.out
          · have h1 := m
            go_wp2
            go_ret
            refine ⟨?_, ?_⟩
            · rw [hv.out]
              replace g1 := g1.out
              replace g2 := g2.out
              replace g3 := g3.out
              replace g4 := g4.out
              replace g5 := g5.out
              replace g6 := g6.out
              replace g7 := g7.out
              clear I0 I1 I2 I3 I4 I5 I6 I7
              first
                | (exact absurd g3 (by decide))
                | simp [*]
            · skip
              repeat (first | with_reducible exact h1 | with_reducible apply Mod.alloc | with_reducible apply Mod.drewN | with_reducible apply Mod.drew | (with_reducible refine Mod.setCell ?_ (by right; have := h1.size; simp; try omega) _))
        rcases hc with hc | hc
        · subst hc
          replace g1 := Lib.hid (g1 (by omega))
          replace g2 := Lib.hid (g2 (by omega))
          clear g3 g4 g5 g6 g7 g8
          first
            | (have hx : true = false := rfl
               go_wp2
               go_roundg (gk - 1)
               case measure => omega
               case rel =>
                 refine ⟨2 + 1, rfl, by have := hgk.out; omega, ?_, ?_, ?_, ?_, ?_, ?_, ?_, ?_, ?_⟩
                 · have h1 := m
                   repeat (first | with_reducible exact h1 | with_reducible apply Mod.alloc | with_reducible apply Mod.drewN | with_reducible apply Mod.drew | (with_reducible refine Mod.setCell ?_ (by right; have := h1.size; simp; try omega) _))
                 all_goals
                   intro hlt
                   first | (exfalso; omega) | rfl | trivial | exact g1.out | exact g2.out)
            | (go_wp2
               go_ret
               refine ⟨by rw [hv.out]; simp [g1.out, g2.out], ?_⟩
               have h1 := m
               repeat (first | with_reducible exact h1 | with_reducible apply Mod.alloc | with_reducible apply Mod.drewN | with_reducible apply Mod.drew | (with_reducible refine Mod.setCell ?_ (by right; have := h1.size; simp; try omega) _))
               )
        rcases hc with hc | hc
        · skip
          subst hc
          try replace g1 := g1 (by omega)
          try replace g2 := g2 (by omega)
          try replace g3 := g3 (by omega)
          try replace g4 := g4 (by omega)
          try replace g5 := g5 (by omega)
          try replace g6 := g6 (by omega)
          try replace g7 := g7 (by omega)
          replace g1 := Lib.hid g1
          replace g2 := Lib.hid g2
          replace g3 := Lib.hid g3
          replace g4 := Lib.hid g4
          replace g5 := Lib.hid g5
          replace g6 := Lib.hid g6
          replace g7 := Lib.hid g7
          replace g8 := Lib.hid g8
          cases a5
          · skip
            go_wp2
            go_roundg (gk - 1)
            case measure => omega
            case rel =>
              refine ⟨3 + 1, rfl, by have := hgk.out; omega, ?_, ?_, ?_, ?_, ?_, ?_, ?_, ?_, ?_⟩
              · have h1 := m
                repeat (first | with_reducible exact h1 | with_reducible apply Mod.alloc | with_reducible apply Mod.drewN | with_reducible apply Mod.drew | (with_reducible refine Mod.setCell ?_ (by right; have := h1.size; simp; try omega) _))
              all_goals
                intro hlt
                skip
              all_goals
                first
                  | (exfalso; omega)
                  | rfl
                  | trivial
                  | exact g1.out
                  | exact g2.out
                  | exact g3.out
                  | exact g4.out
                  | exact g5.out
                  | exact g6.out
                  | exact g7.out
          · have h1 := m
            go_wp2
            go_ret
            refine ⟨?_, ?_⟩
            · rw [hv.out]
              replace g1 := g1.out
              replace g2 := g2.out
              replace g3 := g3.out
              replace g4 := g4.out
              replace g5 := g5.out
              replace g6 := g6.out
              replace g7 := g7.out
              clear I0 I1 I2 I3 I4 I5 I6 I7
              first
                | (exact absurd g3 (by decide))
                | simp [*]
            · skip
              repeat (first | with_reducible exact h1 | with_reducible apply Mod.alloc | with_reducible apply Mod.drewN | with_reducible apply Mod.drew | (with_reducible refine Mod.setCell ?_ (by right; have := h1.size; simp; try omega) _))
        rcases hc with hc | hc
        · skip
          subst hc
          try replace g1 := g1 (by omega)
          try replace g2 := g2 (by omega)
          try replace g3 := g3 (by omega)
          try replace g4 := g4 (by omega)
          try replace g5 := g5 (by omega)
          try replace g6 := g6 (by omega)
          try replace g7 := g7 (by omega)
          replace g1 := Lib.hid g1
          replace g2 := Lib.hid g2
          replace g3 := Lib.hid g3
          replace g4 := Lib.hid g4
          replace g5 := Lib.hid g5
          replace g6 := Lib.hid g6
          replace g7 := Lib.hid g7
          replace g8 := Lib.hid g8
          cases a6
          · skip
            go_wp2
            go_roundg (gk - 1)
            case measure => omega
            case rel =>
              refine ⟨4 + 1, rfl, by have := hgk.out; omega, ?_, ?_, ?_, ?_, ?_, ?_, ?_, ?_, ?_⟩
              · have h1 := m
                repeat (first | with_reducible exact h1 | with_reducible apply Mod.alloc | with_reducible apply Mod.drewN | with_reducible apply Mod.drew | (with_reducible refine Mod.setCell ?_ (by right; have := h1.size; simp; try omega) _))
              all_goals
                intro hlt
                skip
              all_goals
                first
                  | (exfalso; omega)
                  | rfl
                  | trivial
                  | exact g1.out
                  | exact g2.out
                  | exact g3.out
                  | exact g4.out
                  | exact g5.out
                  | exact g6.out
                  | exact g7.out
          · have h1 := m
            go_wp2
            go_ret
            refine ⟨?_, ?_⟩
            · rw [hv.out]
              replace g1 := g1.out
              replace g2 := g2.out
              replace g3 := g3.out
              replace g4 := g4.out
              replace g5 := g5.out
              replace g6 := g6.out
              replace g7 := g7.out
              clear I0 I1 I2 I3 I4 I5 I6 I7
              first
                | (exact absurd g3 (by decide))
                | simp [*]
            · skip
              repeat (first | with_reducible exact h1 | with_reducible apply Mod.alloc | with_reducible apply Mod.drewN | with_reducible apply Mod.drew | (with_reducible refine Mod.setCell ?_ (by right; have := h1.size; simp; try omega) _))
        rcases hc with hc | hc
        · skip
          subst hc
          try replace g1 := g1 (by omega)
          try replace g2 := g2 (by omega)
          try replace g3 := g3 (by omega)
          try replace g4 := g4 (by omega)
          try replace g5 := g5 (by omega)
          try replace g6 := g6 (by omega)
          try replace g7 := g7 (by omega)
          replace g1 := Lib.hid g1
          replace g2 := Lib.hid g2
          replace g3 := Lib.hid g3
          replace g4 := Lib.hid g4
          replace g5 := Lib.hid g5
          replace g6 := Lib.hid g6
          replace g7 := Lib.hid g7
          replace g8 := Lib.hid g8
          cases a7
          · skip
            go_wp2
            go_roundg (gk - 1)
            case measure => omega
            case rel =>
              refine ⟨5 + 1, rfl, by have := hgk.out; omega, ?_, ?_, ?_, ?_, ?_, ?_, ?_, ?_, ?_⟩
              · have h1 := m
                repeat (first | with_reducible exact h1 | with_reducible apply Mod.alloc | with_reducible apply Mod.drewN | with_reducible apply Mod.drew | (with_reducible refine Mod.setCell ?_ (by right; have := h1.size; simp; try omega) _))
              all_goals
                intro hlt
                skip
              all_goals
                first
                  | (exfalso; omega)
                  | rfl
                  | trivial
                  | exact g1.out
                  | exact g2.out
                  | exact g3.out
                  | exact g4.out
                  | exact g5.out
                  | exact g6.out
                  | exact g7.out
          · have h1 := m
            go_wp2
            go_ret
            refine ⟨?_, ?_⟩
            · rw [hv.out]
              replace g1 := g1.out
              replace g2 := g2.out
              replace g3 := g3.out
              replace g4 := g4.out
              replace g5 := g5.out
              replace g6 := g6.out
              replace g7 := g7.out
              clear I0 I1 I2 I3 I4 I5 I6 I7
              first
                | (exact absurd g3 (by decide))
                | simp [*]
            · skip
              repeat (first | with_reducible exact h1 | with_reducible apply Mod.alloc | with_reducible apply Mod.drewN | with_reducible apply Mod.drew | (with_reducible refine Mod.setCell ?_ (by right; have := h1.size; simp; try omega) _))
        rcases hc with hc | hc
        · skip
          subst hc
          try replace g1 := g1 (by omega)
          try replace g2 := g2 (by omega)
          try replace g3 := g3 (by omega)
          try replace g4 := g4 (by omega)
          try replace g5 := g5 (by omega)
          try replace g6 := g6 (by omega)
          try replace g7 := g7 (by omega)
          replace g1 := Lib.hid g1
          replace g2 := Lib.hid g2
          replace g3 := Lib.hid g3
          replace g4 := Lib.hid g4
          replace g5 := Lib.hid g5
          replace g6 := Lib.hid g6
          replace g7 := Lib.hid g7
          replace g8 := Lib.hid g8
          cases a8
          · skip
            go_wp2
            go_roundg (gk - 1)
            case measure => omega
            case rel =>
              refine ⟨6 + 1, rfl, by have := hgk.out; omega, ?_, ?_, ?_, ?_, ?_, ?_, ?_, ?_, ?_⟩
              · have h1 := m
                repeat (first | with_reducible exact h1 | with_reducible apply Mod.alloc | with_reducible apply Mod.drewN | with_reducible apply Mod.drew | (with_reducible refine Mod.setCell ?_ (by right; have := h1.size; simp; try omega) _))
              all_goals
                intro hlt
                skip
              all_goals
                first
                  | (exfalso; omega)
                  | rfl
                  | trivial
                  | exact g1.out
                  | exact g2.out
                  | exact g3.out
                  | exact g4.out
                  | exact g5.out
                  | exact g6.out
                  | exact g7.out
          · have h1 := m
            go_wp2
            go_ret
            refine ⟨?_, ?_⟩
            · rw [hv.out]
              replace g1 := g1.out
              replace g2 := g2.out
              replace g3 := g3.out
              replace g4 := g4.out
              replace g5 := g5.out
              replace g6 := g6.out
              replace g7 := g7.out
              clear I0 I1 I2 I3 I4 I5 I6 I7
              first
                | (exact absurd g3 (by decide))
                | simp [*]
            · skip
              repeat (first | with_reducible exact h1 | with_reducible apply Mod.alloc | with_reducible apply Mod.drewN | with_reducible apply Mod.drew | (with_reducible refine Mod.setCell ?_ (by right; have := h1.size; simp; try omega) _))
        subst hc
        try replace g1 := g1 (by omega)
        try replace g2 := g2 (by omega)
        try replace g3 := g3 (by omega)
        try replace g4 := g4 (by omega)
        try replace g5 := g5 (by omega)
        try replace g6 := g6 (by omega)
        try replace g7 := g7 (by omega)
        replace g1 := Lib.hid g1
        replace g2 := Lib.hid g2
        replace g3 := Lib.hid g3
        replace g4 := Lib.hid g4
        replace g5 := Lib.hid g5
        replace g6 := Lib.hid g6
        replace g7 := Lib.hid g7
        replace g8 := Lib.hid g8
        cases a9
        · skip
          go_wp2
          go_roundg (gk - 1)
          case measure => omega
          case rel =>
            refine ⟨7 + 1, rfl, by have := hgk.out; omega, ?_, ?_, ?_, ?_, ?_, ?_, ?_, ?_, ?_⟩
            · have h1 := m
              repeat (first | with_reducible exact h1 | with_reducible apply Mod.alloc | with_reducible apply Mod.drewN | with_reducible apply Mod.drew | (with_reducible refine Mod.setCell ?_ (by right; have := h1.size; simp; try omega) _))
            all_goals
              intro hlt
              skip
            all_goals
              first
                | (exfalso; omega)
                | rfl
                | trivial
                | exact g1.out
                | exact g2.out
                | exact g3.out
                | exact g4.out
                | exact g5.out
                | exact g6.out
                | exact g7.out
        · have h1 := m
          go_wp2
          go_ret
          refine ⟨?_, ?_⟩
          · rw [hv.out]
            replace g1 := g1.out
            replace g2 := g2.out
            replace g3 := g3.out
            replace g4 := g4.out
            replace g5 := g5.out
            replace g6 := g6.out
            replace g7 := g7.out
            clear I0 I1 I2 I3 I4 I5 I6 I7
            first
              | (exact absurd g3 (by decide))
              | simp [*]
          · skip
            repeat (first | with_reducible exact h1 | with_reducible apply Mod.alloc | with_reducible apply Mod.drewN | with_reducible apply Mod.drew | (with_reducible refine Mod.setCell ?_ (by right; have := h1.size; simp; try omega) _))
end Go.Proofs.YtaakgpnmfkmdoaaGreatDoor

/- The walk over core.Next. No condition but those named. -/
namespace Go.Proofs.YtaakgpnmfkmdoaaGreatDoor
set_option linter.unusedVariables false
set_option linter.unusedSimpArgs false
open Go.RowKit

def nextC (c : CoreS) (f : FlagsS) : Int := if c.power = false then 0 else if c.idle = false then f.wants else if f.wants = 0 ∨ f.wants = 9 then 0 else 1
set_option maxRecDepth 100000 in
set_option maxHeartbeats 1000000 in
theorem core_Next (c : CoreS) (f : FlagsS) (w : World) : Calls Tryz.prog 97 #[.agg (coreV c).toArray, .agg (flagsV f).toArray] w (Nothing (.int .i64 (nextC c f)) w) := by
  have hW := fun w => core_wants f w
  obtain ⟨pw, il, wy, si, st, bu⟩ := c
  have c0 : ((w.alloc (.cells (coreV ⟨pw, il, wy, si, st, bu⟩).toArray 152 (0,0))).alloc (.cells (flagsV f).toArray 215 (0,0))).cell? ⟨w.heap.size, 0, none⟩ = some (.bool pw) := cellAt (heapOld (heapNew _ _)) 0
  have c1 : ((w.alloc (.cells (coreV ⟨pw, il, wy, si, st, bu⟩).toArray 152 (0,0))).alloc (.cells (flagsV f).toArray 215 (0,0))).cell? ⟨w.heap.size, 1, none⟩ = some (.bool il) := cellAt (heapOld (heapNew _ _)) 1
  obtain ⟨v, hv⟩ : ∃ v, v = nextC ⟨pw, il, wy, si, st, bu⟩ f := ⟨_, rfl⟩
  rw [← hv]
  unfold nextC at hv
  generalize f.wants = x at *
  simp only [flagsV, coreV] at *
  obtain ⟨a1, a2, a3, a4, a5, a6, a7, a8, a9⟩ := f
  dsimp only at *
  cases pw
  · simp at hv
    subst hv
    go_enter Tryz.func97, Tryz.ntmps97
    go_wp2_with (
      go_at_call 163
      refine (hW _).mono ?_
      rintro e w2 ⟨rfl, m⟩
      have q0 := m.at c0 (by simp)
      have q1 := m.at c1 (by simp)
      have M := Lib.hid m
      clear m
      )
    go_ret
    refine ⟨rfl, ?_⟩
    have m := M.out
    exact Mod.trans (S := []) (((Mod.refl [] w).alloc _).alloc _) m (by simp)
  · cases il
    · simp at hv
      subst hv
      go_enter Tryz.func97, Tryz.ntmps97
      go_wp2_with (
        go_at_call 163
        refine (hW _).mono ?_
        rintro e w2 ⟨rfl, m⟩
        have q0 := m.at c0 (by simp)
        have q1 := m.at c1 (by simp)
        have M := Lib.hid m
        clear m
        )
      go_ret
      refine ⟨rfl, ?_⟩
      have m := M.out
      exact Mod.trans (S := []) (((Mod.refl [] w).alloc _).alloc _) m (by simp)
    · simp at hv
      by_cases h9 : x = 0
      · rw [if_pos (.inl h9)] at hv
        subst hv
        subst h9
        go_enter Tryz.func97, Tryz.ntmps97
        go_wp2_with (
          go_at_call 163
          refine (hW _).mono ?_
          rintro e w2 ⟨rfl, m⟩
          have q0 := m.at c0 (by simp)
          have q1 := m.at c1 (by simp)
          have M := Lib.hid m
          clear m
          )
        go_ret
        refine ⟨rfl, ?_⟩
        have m := M.out
        exact Mod.trans (S := []) (((Mod.refl [] w).alloc _).alloc _) m (by simp)
      · by_cases h10 : x = 9
        · rw [if_pos (.inr h10)] at hv
          subst hv
          subst h10
          go_enter Tryz.func97, Tryz.ntmps97
          go_wp2_with (
            go_at_call 163
            refine (hW _).mono ?_
            rintro e w2 ⟨rfl, m⟩
            have q0 := m.at c0 (by simp)
            have q1 := m.at c1 (by simp)
            have M := Lib.hid m
            clear m
            )
          go_ret
          refine ⟨rfl, ?_⟩
          have m := M.out
          exact Mod.trans (S := []) (((Mod.refl [] w).alloc _).alloc _) m (by simp)
        · rw [if_neg (by omega)] at hv
          subst hv
          have e1 : (x == 0) = false := by simp [h9]
          have e2 : (x == 9) = false := by simp [h10]
          go_enter Tryz.func97, Tryz.ntmps97
          go_wp2_with (
            go_at_call 163
            refine (hW _).mono ?_
            rintro e w2 ⟨rfl, m⟩
            have q0 := m.at c0 (by simp)
            have q1 := m.at c1 (by simp)
            have M := Lib.hid m
            clear m
            )
          go_ret
          refine ⟨rfl, ?_⟩
          have m := M.out
          exact Mod.trans (S := []) (((Mod.refl [] w).alloc _).alloc _) m (by simp)
end Go.Proofs.YtaakgpnmfkmdoaaGreatDoor

/- The walk over irq.List; the walk over freq.Busy: ranges over an array of structs that is read whole. No condition but those named. -/
namespace Go.Proofs.YtaakgpnmfkmdoaaGreatDoor
set_option linter.unusedVariables false
set_option linter.unusedSimpArgs false
open Go.RowKit

theorem heapNewA {w : World} {n : Nat} (o : Obj) (h : w.heap.size = n) : (w.alloc o).heap[n]? = some o := h ▸ heapNew w o
theorem grid_extract {k n : Nat} {f : Nat → List Value} (hk : ∀ i, (f i).length = k) {i : Nat} (hi : i < n) : (gridV n f).toArray.extract (i * k) (i * k + k) = (f i).toArray := by
  have hle : (i + 1) * k ≤ n * k := Nat.mul_le_mul_right k hi
  rw [Nat.add_mul, Nat.one_mul] at hle
  have hl := gridV_len hk n
  apply Array.ext_getElem?
  intro j
  rw [Array.getElem?_extract]
  simp only [List.size_toArray, List.getElem?_toArray, hl]
  by_cases hj : j < k
  · rw [if_pos (by omega), gridV_get hk hj n hi]
  · rw [if_neg (by omega), List.getElem?_eq_none (by rw [hk]; omega)]
theorem irq_index (f : Nat → List Value) (hk : ∀ i, (f i).length = 4) {i : Nat} (hi : i < 16) (w : World) : (Instr.index 178 (.agg (gridV 16 f).toArray) (.int .i64 i)).run Tryz.prog w = .ok (.agg (f i).toArray) w := by
  have h1 : ((i : Nat) : Int) < 16 := by omega
  have hu := Tryz.underlying178
  have e := grid_extract hk hi
  simp [Instr.index, asIntOf, Sem.run_bind, run_underlying hu, part, Tryz.isAgg177, Tryz.sizeOf177, h1, Result.andThen]
  rw [if_pos hi]
  have e2 := e
  simp at e2
  rw [e2]
def irqIds (t : IT) : Nat → List Int
  | 0 => []
  | j + 1 => if (t.c j).wanted = true then irqIds t j ++ [(j : Int)] else irqIds t j
theorem irqIds_len (t : IT) : ∀ j, (irqIds t j).length ≤ j
  | 0 => by simp [irqIds]
  | j + 1 => by
    have := irqIds_len t j
    unfold irqIds
    split
    · rw [List.length_append]; simp; omega
    · omega
theorem irq_range {F : List Nat} {w u : World} {b : Nat} {t : IT} (h : On F w [Res.blk b (irqObj t)] u) : u.rangeAt b 0 (gridV 16 fun i => irqV (t.c i)) ∧ (Tryz.prog.info? 178).map (·.size) = some (gridV 16 fun i => irqV (t.c i)).length := by
  constructor
  · intro j v hj
    have hl := gridV_len (k := 4) (f := fun i => irqV (t.c i)) (fun _ => rfl) 16
    have hlt : j < 64 := by have := (List.getElem?_eq_some_iff.1 hj).1; omega
    have h1 := h.irqC (i := j / 4) (by omega) (j % 4) (by omega)
    have e : j / 4 * 4 + j % 4 = j := by omega
    rw [e] at h1
    have h2 := gridV_get (k := 4) (f := fun i => irqV (t.c i)) (fun _ => rfl) (i := j / 4) (j := j % 4) (by omega) 16 (by omega)
    rw [e, hj] at h2
    rw [Nat.zero_add, h1, ← h2]
  · have : (Tryz.prog.info? 178).map (·.size) = some 64 := by kernel_rfl
    rw [this, gridV_len (k := 4) (fun _ => rfl)]
set_option maxRecDepth 100000 in
set_option maxHeartbeats 1000000 in
theorem irq_List {F : List Nat} {w : World} {b : Nat} {t : IT} (h : (irqR b t).holds F w) : Calls Tryz.prog 296 #[.pointer (some ⟨b, 0, none⟩)] w (MadeInts (irqIds t 16) w) := by
  obtain ⟨hok, hA⟩ := irq_view h
  obtain ⟨hrg, hinf⟩ := irq_range hA
  have hix := fun (i : Nat) (hi : i < 16) (w : World) => irq_index (fun i => irqV (t.c i)) (fun _ => rfl) hi w
  generalize (gridV 16 fun i => irqV (t.c i)) = A at *
  clear hA h hok
  go_enter Tryz.func296, Tryz.ntmps296
  go_wp2_with (refine wpList_load_mid rfl 178 _ rfl b 0 rfl A _ hrg Tryz.underlying178 rfl hinf ?_)
  clear hrg hinf
  go_loopg [3, 12] 16 (fun gg out i wr => ∃ (j : Nat) (g : Option Nat) (cap : Nat), i = .int .i64 j ∧ j + gg = 16 ∧ out = .slice (lA g) (irqIds t j).length cap ∧ LAt wr g cap (irqIds t j) ∧ Mod [] w wr ∧ ∀ b, b ∈ lF g → w.heap.size ≤ b)
  case atStart => exact ⟨0, none, 0, rfl, by omega, rfl, ⟨rfl, rfl⟩, by first | exact Mod.refl _ _ | exact (Mod.refl _ _).drewN _, by simp [lF]⟩
  case round =>
    obtain ⟨j, g, cap, rfl, hj, rfl, hL, m, hg⟩ := hrel
    by_cases hlt : j < 16
    · have hltI : (j : Int) < 16 := by omega
      have hx := fun w => hix j hlt w
      have hS : irqIds t (j + 1) = if (t.c j).wanted = true then irqIds t j ++ [(j : Int)] else irqIds t j := rfl
      have hlen : (irqIds t j).length < 1000000 := by have := irqIds_len t j; omega
      have hms := m.size
      generalize hc : t.c j = x at *
      obtain ⟨wa, ma, pe, mk⟩ := x
      clear hix hc
      simp only [irqV] at hx
      cases wa
      · rw [if_neg (by simp)] at hS
        have HS := Lib.hid hS
        clear hS
        generalize irqIds t j = lj at *
        go_wp2
        go_roundg (gk - 1)
        case measure => omega
        case rel => exact ⟨j + 1, g, cap, by go_num, by omega, by rw [HS.out], by rw [HS.out]; exact hL.keep (S := []) (by repeat (first | with_reducible exact Mod.refl _ _ | with_reducible apply Mod.alloc | with_reducible apply Mod.drewN | with_reducible refine Mod.setCell ?_ (.inr (by simp)) _)) (by simp), m.trans (T := []) (by repeat (first | with_reducible exact Mod.refl _ _ | with_reducible apply Mod.alloc | with_reducible apply Mod.drewN | with_reducible refine Mod.setCell ?_ (.inr (by simp)) _)) (by simp), hg⟩
      · rw [if_pos rfl] at hS
        have HS := Lib.hid hS
        clear hS
        generalize irqIds t j = lj at *
        go_wp2_with (at_builtin; (refine wpList_append_LAt rfl _ _ rfl (hL.keep (S := []) (by repeat (first | with_reducible exact Mod.refl _ _ | with_reducible apply Mod.alloc | with_reducible apply Mod.drewN | with_reducible refine Mod.setCell ?_ (.inr (by simp)) _)) (by simp)) hlen (heapNewA _ (by simp)) rfl rfl ?_; rintro g2 cap2 w2 hL2 m2 hg2; have H2 := Lib.hid (And.intro hL2 (And.intro (Mod.trans (S := []) (m.trans (T := []) (by repeat (first | with_reducible exact Mod.refl _ _ | with_reducible apply Mod.alloc | with_reducible apply Mod.drewN | with_reducible refine Mod.setCell ?_ (.inr (by simp)) _)) (by simp)) m2 (fun b hb => .inr (hg b hb))) hg2)); clear hL2 m2 hg2))
        obtain ⟨hL2, m3, hg2⟩ := H2.out
        simp only [sizeNew, sizeSet, World.size_alloc] at hg2
        go_roundg (gk - 1)
        case measure => omega
        case rel =>
          refine ⟨j + 1, some g2, cap2, by go_num, by omega, by rw [HS.out]; simp [lA], by rw [HS.out]; exact hL2, m3, ?_⟩
          intro b hb
          simp [lF] at hb
          subst hb
          rcases hg2 with hg2 | hg2
          · exact hg _ hg2
          · omega
    · obtain rfl : j = 16 := by omega
      clear hix
      go_wp2
      go_ret
      exact ⟨g, cap, rfl, hL, m, hg⟩
end Go.Proofs.YtaakgpnmfkmdoaaGreatDoor
