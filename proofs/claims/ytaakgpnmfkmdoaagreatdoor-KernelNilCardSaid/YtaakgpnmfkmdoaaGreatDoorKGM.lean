/- Several texts in one (each with its own sentence below). -/
import Derived.Test.YtaakgpnmfkmdoaaGreatDoorKFM
import Derived.Test.YtaakgpnmfkmdoaaGreatDoorK5M
/- The walks over a kernel's done, and what a step does that runs a thread. No condition but those named. -/
namespace Go.Proofs.YtaakgpnmfkmdoaaGreatDoor
set_option linter.unusedVariables false
set_option linter.unusedSimpArgs false
open Go.RowKit

/-- Records in memory. -/
def recsR (a : Option Addr) (l : List RecS) : Res where
  holds F w := (l = [] ∧ F = []) ∨ ∃ g, a = some ⟨g, 0, none⟩ ∧ F = [g] ∧ w.heap[g]? = some (.cells (blkV [] l.length (fun i => recV (l.getD i ⟨0, 0, 0, 0, 0⟩)) []) 37 (0,0))
  keep := by
    rintro F S w w' (h | ⟨g, h1, h2, h3⟩) m hS
    · exact .inl h
    · exact .inr ⟨g, h1, h2, m.keep h3 (hS g (by rw [h2]; simp))⟩
  lt := by
    rintro F w (⟨_, rfl⟩ | ⟨g, h1, rfl, h3⟩) x hx
    · cases hx
    · simp at hx; subst hx; exact ltOf h3
/-- What a call of a kernel does: its records, and what it is then. -/
def Does (b : Nat) (k : KT) (l : List RecS) (F : List Nat) (w : World) (e : Ending) (w' : World) : Prop := ∃ a c, e = .returned (.slice a l.length c) ∧ On F w [kernelR b k, recsR a l] w'
section
variable {F : List Nat} {w u : World} {b : Nat} {p : KP} {k : KT} {l : List RecS}
theorem NewRecs.does {e : Ending} {w' : World} (h : NewRecs l u e w') (hA : On F w [kernelR b k] u) : Does b k l F w e w' := by
  obtain ⟨a, c, rfl, m, hs⟩ := h
  refine ⟨a, c, rfl, ?_⟩
  have hB := hA.keep m
  rcases hs with ⟨h1, h2, h3⟩ | ⟨h1, g, h2, h3, h4⟩
  · exact hB.more (P := recsR a l) (.inl ⟨h1, rfl⟩)
  · obtain ⟨F1, ⟨F2, F3, e1, g1, e2, g3⟩, g4, g5⟩ := hA
    subst e2
    simp only [List.append_nil] at e1
    subst e1
    refine ⟨F1 ++ [g], ⟨F1, [g], rfl, (kernelR b k).keep g1 m (by simp), ⟨[g], [], by simp, .inr ⟨g, h2, rfl, h4⟩, rfl, by simp⟩, ?_⟩, g4.trans m (by simp), ?_⟩
    · intro x hx hx2
      have := (kernelR b k).lt g1 x hx
      simp at hx2
      omega
    · intro x hx
      rcases List.mem_append.1 hx with hx | hx
      · exact g5 x hx
      · simp at hx; subst hx
        have := g4.size
        exact .inr (by omega)
theorem KT.ok.did (h : k.ok) (cpu : Int) : (k.did cpu).ok :=
  ⟨h.n1, h.n2, h.th, h.rq, h.tm, h.wk, h.cb, h.ob, (sAdd_length k.ct cpu 1).trans h.ct, h.gt, h.co, h.mt, h.rt, h.iq, h.on, h.ac, h.now, h.lim⟩
set_option maxRecDepth 100000 in
theorem kernel_done (hok : k.ok) (hA : On F w (kernL b p k) u) (cpu kind id n : Int) : Calls Tryz.prog 184 #[.pointer (some ⟨b, 0, none⟩), .int .i64 cpu, .int .i64 kind, .int .i64 id, .int .i64 n] u (Does b (k.did cpu) [⟨kind, cpu, id, n, 0⟩] F w) := by
  have c8 : u.cell? ⟨b, 8, none⟩ = some (.pointer (some ⟨p.ct, 0, none⟩)) := hA.kC 8
  have hS := hA.call (P := Tryz.prog) (f := 226) 10 rfl (fun F1 h1 => splitx_Add h1 cpu 1 (by decide))
  have hok2 := Lib.hid (hok.did cpu)
  clear hA
  go_enter Tryz.func184, Tryz.ntmps184
  go_wp2_with (go_at_call 226; refine hS.mono ?_; rintro e w1 ⟨rfl, hB⟩; have HB := Lib.hid (show On F w (kernL b p (k.did cpu)) w1 from hB); clear hB hS)
  go_ret
  have : NewRecs [⟨kind, cpu, id, n, 0⟩] w1 (.returned (.slice (some ⟨w1.heap.size, 0, none⟩) 1 1)) (w1.alloc (.cells #[.int .i64 kind, .int .i64 cpu, .int .i64 id, .int .i64 n, .int .i64 0] 37 (0,0))) :=
    ⟨_, 1, rfl, (Mod.refl _ _).alloc _, .inr ⟨rfl, _, rfl, Nat.le_refl _, heapNew _ _⟩⟩
  exact this.does (HB.out.kernel hok2.out).on
end
end Go.Proofs.YtaakgpnmfkmdoaaGreatDoor

/- The walks over a kernel's step and Do, where a step runs a thread, where an event makes one. No condition but those named. -/
namespace Go.Proofs.YtaakgpnmfkmdoaaGreatDoor
set_option linter.unusedVariables false
set_option linter.unusedSimpArgs false
open Go.RowKit

section
variable {F : List Nat} {w u : World} {b : Nat} {p : KP} {k : KT} {l : List RecS}
theorem kernel_thing8 (hok : k.ok) (hA : On F w (kernL b p k) u) (cpu : Int) : Calls Tryz.prog 104 #[.pointer (some ⟨b, 0, none⟩), .int .i64 cpu, .int .i64 8] u (Does b (({ k with rq := k.rq.pick cpu } : KT).did cpu) [⟨2, cpu, k.rq.pickV cpu, 0, 0⟩] F w) := by
  have c1 : u.cell? ⟨b, 1, none⟩ = some (.pointer (some ⟨p.rq, 0, none⟩)) := hA.kC 1
  have hS := hA.call (P := Tryz.prog) (f := 188) 3 rfl (fun F1 h1 => runq_Pick h1 cpu)
  have hok2 : KT.ok { k with rq := k.rq.pick cpu } := by
    refine ⟨hok.n1, hok.n2, hok.th, ?_, hok.tm, hok.wk, hok.cb, hok.ob, hok.ct, hok.gt, hok.co, hok.mt, hok.rt, hok.iq, hok.on, hok.ac, hok.now, hok.lim⟩
    show (k.rq.pick cpu).n = k.n
    unfold RQ.pick; split <;> exact hok.rq
  have HO := Lib.hid hok2
  generalize k.rq.pickV cpu = v at *
  generalize k.rq.pickE cpu = e0 at *
  clear hA hok2
  go_enter Tryz.func104, Tryz.ntmps104
  go_wp2_with (first
    | (
      go_at_call 188
      refine hS.mono ?_
      rintro e w1 ⟨rfl, hB⟩
      have hD := kernel_done HO.out (show On F w (kernL b p { k with rq := k.rq.pick cpu }) w1 from hB) cpu 2 v 0
      clear hB hS)
    | (go_at_call 184; refine hD.mono ?_; rintro e w2 ⟨a, c, rfl, hE⟩))
  go_ret
  exact ⟨a, c, rfl, hE⟩
end
end Go.Proofs.YtaakgpnmfkmdoaaGreatDoor

/- The walk over a kernel's step that runs a thread. No condition but those named. -/
namespace Go.Proofs.YtaakgpnmfkmdoaaGreatDoor
set_option linter.unusedVariables false
set_option linter.unusedSimpArgs false
open Go.RowKit

section
variable {F : List Nat} {w u : World} {b : Nat} {p : KP} {k : KT} {l : List RecS}
theorem KT.ok.counted (hok : k.ok) (cpu : Int) (busy : Bool) : KT.ok { k with co := k.co.count cpu busy } := by
  refine ⟨hok.n1, hok.n2, hok.th, hok.rq, hok.tm, hok.wk, hok.cb, hok.ob, hok.ct, hok.gt, ?_, hok.mt, hok.rt, hok.iq, hok.on, hok.ac, hok.now, hok.lim⟩
  show (k.co.count cpu busy).n = k.n
  unfold CT.count
  first | (split <;> exact hok.co) | exact hok.co | (repeat (first | split | exact hok.co))
set_option maxRecDepth 100000 in
set_option maxHeartbeats 2000000 in
theorem kernel_step8 (h : (kernelR b k).holds F w) (cpu : Int) (hw : k.what cpu = 8) : Calls Tryz.prog 71 #[.pointer (some ⟨b, 0, none⟩), .int .i64 cpu] w (Does b (k.step cpu) (k.stepL cpu) F w) := by
  obtain ⟨hok, p, hA⟩ := kernel_view h
  have c12 : w.cell? ⟨b, 12, none⟩ = some (.pointer (some ⟨p.co, 0, none⟩)) := hA.kC 12
  have hG := hA.tells 12 rfl (fun F1 h1 => core_Get h1 cpu)
  have hpw : (if k.co.is cpu then k.co.at cpu else core0).power = true := by
    cases hp : (if k.co.is cpu then k.co.at cpu else core0).power with
    | true => rfl
    | false => unfold KT.what nextC at hw; rw [if_pos hp] at hw; cases hw
  have hs0 : k.step0 cpu = { k with co := k.co.count cpu true } := by
    unfold KT.step0
    rw [if_pos hpw, hw]
    rfl
  have hst : k.step cpu = ({ k with co := k.co.count cpu true, rq := k.rq.pick cpu } : KT).did cpu := by
    unfold KT.step
    rw [hw, hs0]
    rfl
  have hsL : k.stepL cpu = [⟨2, cpu, k.rq.pickV cpu, 0, 0⟩] := by
    unfold KT.stepL
    rw [hw, hs0]
    rfl
  rw [hst, hsL]
  have hok2 := hok.counted cpu true
  have hNx := fun u => core_Next (if k.co.is cpu then k.co.at cpu else core0) (k.flags cpu) u
  rw [show nextC (if k.co.is cpu then k.co.at cpu else core0) (k.flags cpu) = 8 from hw] at hNx
  have HK := Lib.hid hok
  have HK2 := Lib.hid hok2
  clear hs0 hst hsL hw h hA hok hok2
  generalize (if k.co.is cpu then k.co.at cpu else core0) = x at *
  obtain ⟨pw, il, wy, si, st, bu⟩ := x
  simp only at hpw
  subst hpw
  simp only [coreV] at *
  generalize hfv : (flagsV (k.flags cpu)).toArray = fv at *
  have HF := Lib.hid hfv
  clear hfv
  generalize k.co.findE cpu = fe at *
  go_enter Tryz.func71, Tryz.ntmps71
  go_wp2_with (
    go_at_call 84
    refine hG.mono ?_
    rintro e w1 ⟨rfl, hB, m1⟩
    have HX := Lib.hid (hB.alloc (.cells #[.bool true, .bool il, .int .i64 wy, .int .i64 si, .int .i64 st, .int .i64 bu] 152 (0,0))).front
    clear hB hG m1)
  generalize w1.alloc (.cells #[.bool true, .bool il, .int .i64 wy, .int .i64 si, .int .i64 st, .int .i64 bu] 152 (0,0)) = W at *
  generalize w1.heap.size = xb at *
  have hx : ∀ v, Mod [] W v → v.cell? ⟨xb, 0, none⟩ = some (.bool true) ∧ v.cell? ⟨xb, 1, none⟩ = some (.bool il) ∧ v.cell? ⟨xb, 2, none⟩ = some (.int .i64 wy) ∧ v.cell? ⟨xb, 3, none⟩ = some (.int .i64 si) ∧ v.cell? ⟨xb, 4, none⟩ = some (.int .i64 st) ∧ v.cell? ⟨xb, 5, none⟩ = some (.int .i64 bu) := fun v m => ⟨(HX.out.keep m).cell 0 rfl 0, (HX.out.keep m).cell 0 rfl 1, (HX.out.keep m).cell 0 rfl 2, (HX.out.keep m).cell 0 rfl 3, (HX.out.keep m).cell 0 rfl 4, (HX.out.keep m).cell 0 rfl 5⟩
  have C := hx W (Mod.refl _ _)
  have hFl : ∀ v, Mod [] W v → Calls Tryz.prog 98 #[.pointer (some ⟨b, 0, none⟩), .int .i64 cpu] v (fun e u' => e = .returned (.agg fv) ∧ Mod [] v u') := fun v m => by rw [← HF.out]; exact kernel_flags HK.out ((HX.out.keep m).drop 0) cpu
  have m0 : Mod [] W W := Mod.refl _ _
  clear c12
  go_region_held3 (fun v => v.cell? ⟨xb, 0, none⟩ = some (.bool true) ∧ v.cell? ⟨xb, 1, none⟩ = some (.bool il) ∧ v.cell? ⟨xb, 2, none⟩ = some (.int .i64 wy) ∧ v.cell? ⟨xb, 3, none⟩ = some (.int .i64 si) ∧ v.cell? ⟨xb, 4, none⟩ = some (.int .i64 st) ∧ v.cell? ⟨xb, 5, none⟩ = some (.int .i64 bu)) (assumption) (first
    | (
      go_at_call 98
      refine (hFl _ (by first | exact m0 | exact m0.drewN _ | exact m0.drew)).mono ?_
      rintro e v ⟨rfl, mx⟩
      have m1 : Mod [] W v := by first | exact m0.trans mx (by simp) | exact (m0.drewN _).trans mx (by simp) | exact m0.drew.trans mx (by simp)
      have C := hx _ m1
      clear mx)
    | (
      go_at_call 97
      refine (hNx _).mono ?_
      rintro e v2 ⟨rfl, mx⟩
      have m2 : Mod [] W v2 := by first | exact m1.trans mx (by simp) | exact (m1.drewN _).trans mx (by simp) | exact m1.drew.trans mx (by simp)
      have C := hx _ m2
      clear mx))
  have hY := HX.out.keep m2
  have c12 : v2.cell? ⟨b, 12, none⟩ = some (.pointer (some ⟨p.co, 0, none⟩)) := hY.cell 1 rfl 12
  have c0 : v2.cell? ⟨xb, 0, none⟩ = some (.bool true) := hY.cell 0 rfl 0
  have hCt := hY.call (P := Tryz.prog) (f := 99) 13 rfl (fun F1 h1 => core_Count h1 cpu true)
  clear hY C hx hFl hNx m0 m1 m2 HX
  go_wp2_with (first
    | (
      go_at_call 99
      refine hCt.mono ?_
      rintro e v3 ⟨rfl, hZ⟩
      have hZ : On F w (Res.blk xb (.cells #[.bool true, .bool il, .int .i64 wy, .int .i64 si, .int .i64 st, .int .i64 bu] 152 (0,0)) :: kernL b p { k with co := k.co.count cpu true }) v3 := hZ
      have hTh := kernel_thing8 HK2.out (hZ.drop 0) cpu
      clear hZ hCt)
    | (go_at_call 104; refine hTh.mono ?_; rintro e v4 ⟨a, c, rfl, hE⟩))
  go_ret
  exact ⟨a, c, rfl, hE⟩
end
end Go.Proofs.YtaakgpnmfkmdoaaGreatDoor
