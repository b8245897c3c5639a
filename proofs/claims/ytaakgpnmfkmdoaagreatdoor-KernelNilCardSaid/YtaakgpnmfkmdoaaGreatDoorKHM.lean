/- Several texts in one (each with its own sentence below). -/
import Derived.Test.YtaakgpnmfkmdoaaGreatDoorKGM
import Derived.Test.YtaakgpnmfkmdoaaGreatDoorKNM
import Derived.Test.YtaakgpnmfkmdoaaGreatDoorKEM
import Derived.Test.YtaakgpnmfkmdoaaGreatDoorK5M
import Derived.Test.YtaakgpnmfkmdoaaGreatDoorKAM
/- The walk over a kernel's Do: a thread more, a step that runs one; a kernel that is not there. No condition but those named. -/
namespace Go.Proofs.YtaakgpnmfkmdoaaGreatDoor
set_option linter.unusedVariables false
set_option linter.unusedSimpArgs false
open Go.RowKit

def evA (e : EvS) : Array Value := #[.int .i64 e.kind, .int .i64 e.cpu, .int .i64 e.id, .int .u64 (e.mask : Nat), .int .i64 e.n]
section
variable {F : List Nat} {w u : World} {b : Nat} {p : KP} {k : KT} {l : List RecS}
set_option maxRecDepth 100000 in
set_option maxHeartbeats 1000000 in
theorem kernel_Do_spawn (h : (kernelR b k).holds F w) (hT : Tab w) (hF : tzL_ren.g 1 ∉ F) (cpu id : Int) (m : Nat) (hm : m < 2 ^ 64) (n : Int) : Calls Tryz.prog 11 #[.pointer (some ⟨b, 0, none⟩), .agg #[.int .i64 3, .int .i64 cpu, .int .i64 id, .int .u64 (m : Nat), .int .i64 n]] w (Does b (k.spawn id m) (ansL (k.th.spawnV id m) (k.th.spawnE id m)) F w) := by
  have hA := (On.one h).keep (u' := w.alloc (.cells #[.int .i64 3, .int .i64 cpu, .int .i64 id, .int .u64 (m : Nat), .int .i64 n] 34 (0,0))) ((Mod.refl _ _).alloc _)
  have hS := hA.callU (P := Tryz.prog) (f := 74) hT hF 0 rfl (fun F1 h1 hT1 hF1 => kernel_spawn h1 hT1 hF1 id m hm)
  have hS2 := fun j => (hA.keep (u' := (w.alloc (.cells #[.int .i64 3, .int .i64 cpu, .int .i64 id, .int .u64 (m : Nat), .int .i64 n] 34 (0,0))).drewN j) ((Mod.refl _ _).drewN j)).callU (P := Tryz.prog) (f := 74) hT hF 0 rfl (fun F1 h1 hT1 hF1 => kernel_spawn h1 hT1 hF1 id m hm)
  generalize k.th.spawnV id m = v at *
  generalize k.th.spawnE id m = ee at *
  have x0 := cellAt (heapNew w (.cells #[.int .i64 3, .int .i64 cpu, .int .i64 id, .int .u64 (m : Nat), .int .i64 n] 34 (0,0))) 0
  have x2 := cellAt (heapNew w (.cells #[.int .i64 3, .int .i64 cpu, .int .i64 id, .int .u64 (m : Nat), .int .i64 n] 34 (0,0))) 2
  have x3 := cellAt (heapNew w (.cells #[.int .i64 3, .int .i64 cpu, .int .i64 id, .int .u64 (m : Nat), .int .i64 n] 34 (0,0))) 3
  have hAn := fun u => kernel_answer v ee u
  clear h hA
  go_enter Tryz.func11, Tryz.ntmps11
  go_wp2_with (first
    | (
      go_at_call 74
      first | refine hS.mono ?_ | refine (hS2 _).mono ?_
      rintro e w1 ⟨rfl, hB⟩
      have HB := Lib.hid (show On F w [kernelR b (k.spawn id m)] w1 from hB)
      clear hB hS hS2)
    | (
      go_at_call 73
      refine (hAn _).mono ?_
      intro e w2 hN
      obtain ⟨a, c, rfl, hE⟩ := hN.does HB.out))
  go_ret
  exact ⟨a, c, rfl, hE⟩
set_option maxRecDepth 100000 in
set_option maxHeartbeats 1000000 in
theorem kernel_Do_step8 (h : (kernelR b k).holds F w) (cpu : Int) (hi : k.is cpu) (hw : k.what cpu = 8) (id n : Int) (m : Nat) : Calls Tryz.prog 11 #[.pointer (some ⟨b, 0, none⟩), .agg #[.int .i64 1, .int .i64 cpu, .int .i64 id, .int .u64 (m : Nat), .int .i64 n]] w (Does b (k.step cpu) (k.stepL cpu) F w) := by
  obtain ⟨hok, p, hK⟩ := kernel_view h
  have c15 := cellNew (.cells #[.int .i64 1, .int .i64 cpu, .int .i64 id, .int .u64 (m : Nat), .int .i64 n] 34 (0,0)) (hK.kC 15)
  simp only [kcells, List.getElem?_toArray, List.getElem?_cons_zero, List.getElem?_cons_succ] at c15
  have hS := fun j => kernel_step8 ((kernelR b k).keep h (((Mod.refl [] w).alloc (.cells #[.int .i64 1, .int .i64 cpu, .int .i64 id, .int .u64 (m : Nat), .int .i64 n] 34 (0,0))).drewN j) (by simp)) cpu hw
  have hMo := fun j => ((Mod.refl [] w).alloc (.cells #[.int .i64 1, .int .i64 cpu, .int .i64 id, .int .u64 (m : Nat), .int .i64 n] 34 (0,0))).drewN j
  have x0 := cellAt (heapNew w (.cells #[.int .i64 1, .int .i64 cpu, .int .i64 id, .int .u64 (m : Nat), .int .i64 n] 34 (0,0))) 0
  have x1 := cellAt (heapNew w (.cells #[.int .i64 1, .int .i64 cpu, .int .i64 id, .int .u64 (m : Nat), .int .i64 n] 34 (0,0))) 1
  obtain ⟨h1, h2⟩ := hi
  have h3 : ¬ cpu < 0 := by omega
  have h4 : ¬ (k.n : Int) ≤ cpu := by omega
  have hb := Lib.hid ((kernelR b k).lt h)
  generalize k.stepL cpu = L at *
  generalize k.step cpu = K at *
  clear h hK hok hw
  go_enter Tryz.func11, Tryz.ntmps11
  go_wp2
  go_quiet (fail)
  go_wp2_with (
      go_at_call 71
      refine (hS _).mono ?_
      rintro e w1 ⟨a, c, rfl, hE⟩)
  go_ret
  obtain ⟨F1, g1, g2, g3⟩ := hE
  exact ⟨a, c, rfl, F1, g1, (hMo _).mono (by simp) |>.trans g2 (by intro x hx; exact .inl hx), fun x hx => (g3 x hx).imp (fun y => y) (fun h => Nat.le_trans (hMo _).size h)⟩
end
end Go.Proofs.YtaakgpnmfkmdoaaGreatDoor

/- The walks over a kernel that is not there, and over what is known of one of two cores. No condition but those named. -/
namespace Go.Proofs.YtaakgpnmfkmdoaaGreatDoor
set_option linter.unusedVariables false
set_option linter.unusedSimpArgs false
open Go.RowKit

theorem kernel_Cpus_nil (w : World) : Calls Tryz.prog 26 #[.pointer none] w (Nothing (.int .i64 0) w) := by
  go_enter Tryz.func26, Tryz.ntmps26
  go_wp2
  go_ret
  exact ⟨rfl, Mod.refl _ _⟩
theorem kernel_Online_nil (w : World) : Calls Tryz.prog 15 #[.pointer none] w (Nothing (.int .u64 0) w) := by
  go_enter Tryz.func15, Tryz.ntmps15
  go_wp2
  go_ret
  exact ⟨rfl, Mod.refl _ _⟩
theorem kernel_Active_nil (w : World) : Calls Tryz.prog 10 #[.pointer none] w (Nothing (.int .u64 0) w) := by
  go_enter Tryz.func10, Tryz.ntmps10
  go_wp2
  go_ret
  exact ⟨rfl, Mod.refl _ _⟩
theorem kernel_Now_nil (w : World) : Calls Tryz.prog 27 #[.pointer none] w (Nothing (.int .i64 0) w) := by
  go_enter Tryz.func27, Tryz.ntmps27
  go_wp2
  go_ret
  exact ⟨rfl, Mod.refl _ _⟩
theorem kernel_Owner_nil (i : Int) (w : World) : Calls Tryz.prog 28 #[.pointer none, .int .i64 i] w (Nothing (.int .i64 0) w) := by
  go_enter Tryz.func28, Tryz.ntmps28
  go_wp2
  go_ret
  exact ⟨rfl, Mod.refl _ _⟩
theorem kernel_Do_nil (a b c d e : Value) (hk : ∃ x y z t s, a = .int .i64 x ∧ b = .int .i64 y ∧ c = .int .i64 z ∧ d = .int .u64 t ∧ e = .int .i64 s) (w : World) : Calls Tryz.prog 11 #[.pointer none, .agg #[a, b, c, d, e]] w (Nothing (.slice none 0 0) w) := by
  obtain ⟨x, y, z, t, s, rfl, rfl, rfl, rfl, rfl⟩ := hk
  go_enter Tryz.func11, Tryz.ntmps11
  go_wp2
  go_ret
  exact ⟨rfl, (Mod.refl _ _).alloc _⟩
theorem kernel_own_nil (w : World) : Calls Tryz.prog 82 #[.pointer none] w (Nothing (.agg #[.pointer none, .pointer none, .pointer none, .pointer none, .pointer none, .pointer none, .pointer none, .pointer none, .pointer none, .pointer none, .pointer none, .pointer none, .pointer none, .pointer none, .slice none 0 0]) w) := by
  go_enter Tryz.func82, Tryz.ntmps82
  go_wp2
  refine bodyPost_ret_by (v := .agg #[.pointer none, .pointer none, .pointer none, .pointer none, .pointer none, .pointer none, .pointer none, .pointer none, .pointer none, .pointer none, .pointer none, .pointer none, .pointer none, .pointer none, .slice none 0 0]) ?_ rfl ?_
  · rw [results_one rfl]; go_simp
  · refine ⟨rfl, ?_⟩
    repeat (first | with_reducible exact Mod.refl _ _ | with_reducible apply Mod.alloc | with_reducible apply Mod.drewN | with_reducible apply Mod.drew | with_reducible refine Mod.setCell ?_ (by first | (simp; done) | (simp; omega)) _)
set_option maxRecDepth 100000 in
theorem kernel_Threads_nil (w : World) : Calls Tryz.prog 30 #[.pointer none] w (Nothing (.pointer none) w) := by
  have hfl : ∀ w, (Instr.field 85 (.agg #[.pointer none, .pointer none, .pointer none, .pointer none, .pointer none, .pointer none, .pointer none, .pointer none, .pointer none, .pointer none, .pointer none, .pointer none, .pointer none, .pointer none, .slice none 0 0]) 0).run Tryz.prog w = .ok (.pointer none) w := fun w => by kernel_rfl
  go_enter Tryz.func30, Tryz.ntmps30
  go_wp2_with (go_at_call 82; refine (kernel_own_nil _).mono ?_; rintro e w1 ⟨rfl, m⟩)
  go_ret
  exact ⟨rfl, m⟩
set_option maxRecDepth 100000 in
theorem kernel_Queues_nil (w : World) : Calls Tryz.prog 31 #[.pointer none] w (Nothing (.pointer none) w) := by
  have hfl : ∀ w, (Instr.field 85 (.agg #[.pointer none, .pointer none, .pointer none, .pointer none, .pointer none, .pointer none, .pointer none, .pointer none, .pointer none, .pointer none, .pointer none, .pointer none, .pointer none, .pointer none, .slice none 0 0]) 1).run Tryz.prog w = .ok (.pointer none) w := fun w => by kernel_rfl
  go_enter Tryz.func31, Tryz.ntmps31
  go_wp2_with (go_at_call 82; refine (kernel_own_nil _).mono ?_; rintro e w1 ⟨rfl, m⟩)
  go_ret
  exact ⟨rfl, m⟩
set_option maxRecDepth 100000 in
theorem kernel_Timers_nil (w : World) : Calls Tryz.prog 32 #[.pointer none] w (Nothing (.pointer none) w) := by
  have hfl : ∀ w, (Instr.field 85 (.agg #[.pointer none, .pointer none, .pointer none, .pointer none, .pointer none, .pointer none, .pointer none, .pointer none, .pointer none, .pointer none, .pointer none, .pointer none, .pointer none, .pointer none, .slice none 0 0]) 2).run Tryz.prog w = .ok (.pointer none) w := fun w => by kernel_rfl
  go_enter Tryz.func32, Tryz.ntmps32
  go_wp2_with (go_at_call 82; refine (kernel_own_nil _).mono ?_; rintro e w1 ⟨rfl, m⟩)
  go_ret
  exact ⟨rfl, m⟩
set_option maxRecDepth 100000 in
theorem kernel_Irqs_nil (w : World) : Calls Tryz.prog 33 #[.pointer none] w (Nothing (.pointer none) w) := by
  have hfl : ∀ w, (Instr.field 85 (.agg #[.pointer none, .pointer none, .pointer none, .pointer none, .pointer none, .pointer none, .pointer none, .pointer none, .pointer none, .pointer none, .pointer none, .pointer none, .pointer none, .pointer none, .slice none 0 0]) 3).run Tryz.prog w = .ok (.pointer none) w := fun w => by kernel_rfl
  go_enter Tryz.func33, Tryz.ntmps33
  go_wp2_with (go_at_call 82; refine (kernel_own_nil _).mono ?_; rintro e w1 ⟨rfl, m⟩)
  go_ret
  exact ⟨rfl, m⟩
set_option maxRecDepth 100000 in
theorem kernel_Route_nil (w : World) : Calls Tryz.prog 34 #[.pointer none] w (Nothing (.pointer none) w) := by
  have hfl : ∀ w, (Instr.field 85 (.agg #[.pointer none, .pointer none, .pointer none, .pointer none, .pointer none, .pointer none, .pointer none, .pointer none, .pointer none, .pointer none, .pointer none, .pointer none, .pointer none, .pointer none, .slice none 0 0]) 4).run Tryz.prog w = .ok (.pointer none) w := fun w => by kernel_rfl
  go_enter Tryz.func34, Tryz.ntmps34
  go_wp2_with (go_at_call 82; refine (kernel_own_nil _).mono ?_; rintro e w1 ⟨rfl, m⟩)
  go_ret
  exact ⟨rfl, m⟩
set_option maxRecDepth 100000 in
theorem kernel_Works_nil (w : World) : Calls Tryz.prog 35 #[.pointer none] w (Nothing (.pointer none) w) := by
  have hfl : ∀ w, (Instr.field 85 (.agg #[.pointer none, .pointer none, .pointer none, .pointer none, .pointer none, .pointer none, .pointer none, .pointer none, .pointer none, .pointer none, .pointer none, .pointer none, .pointer none, .pointer none, .slice none 0 0]) 5).run Tryz.prog w = .ok (.pointer none) w := fun w => by kernel_rfl
  go_enter Tryz.func35, Tryz.ntmps35
  go_wp2_with (go_at_call 82; refine (kernel_own_nil _).mono ?_; rintro e w1 ⟨rfl, m⟩)
  go_ret
  exact ⟨rfl, m⟩
set_option maxRecDepth 100000 in
theorem kernel_Calls_nil (w : World) : Calls Tryz.prog 36 #[.pointer none] w (Nothing (.pointer none) w) := by
  have hfl : ∀ w, (Instr.field 85 (.agg #[.pointer none, .pointer none, .pointer none, .pointer none, .pointer none, .pointer none, .pointer none, .pointer none, .pointer none, .pointer none, .pointer none, .pointer none, .pointer none, .pointer none, .slice none 0 0]) 6).run Tryz.prog w = .ok (.pointer none) w := fun w => by kernel_rfl
  go_enter Tryz.func36, Tryz.ntmps36
  go_wp2_with (go_at_call 82; refine (kernel_own_nil _).mono ?_; rintro e w1 ⟨rfl, m⟩)
  go_ret
  exact ⟨rfl, m⟩
set_option maxRecDepth 100000 in
theorem kernel_Objects_nil (w : World) : Calls Tryz.prog 37 #[.pointer none] w (Nothing (.pointer none) w) := by
  have hfl : ∀ w, (Instr.field 85 (.agg #[.pointer none, .pointer none, .pointer none, .pointer none, .pointer none, .pointer none, .pointer none, .pointer none, .pointer none, .pointer none, .pointer none, .pointer none, .pointer none, .pointer none, .slice none 0 0]) 7).run Tryz.prog w = .ok (.pointer none) w := fun w => by kernel_rfl
  go_enter Tryz.func37, Tryz.ntmps37
  go_wp2_with (go_at_call 82; refine (kernel_own_nil _).mono ?_; rintro e w1 ⟨rfl, m⟩)
  go_ret
  exact ⟨rfl, m⟩
set_option maxRecDepth 100000 in
theorem kernel_Counts_nil (w : World) : Calls Tryz.prog 20 #[.pointer none] w (Nothing (.pointer none) w) := by
  have hfl : ∀ w, (Instr.field 85 (.agg #[.pointer none, .pointer none, .pointer none, .pointer none, .pointer none, .pointer none, .pointer none, .pointer none, .pointer none, .pointer none, .pointer none, .pointer none, .pointer none, .pointer none, .slice none 0 0]) 8).run Tryz.prog w = .ok (.pointer none) w := fun w => by kernel_rfl
  go_enter Tryz.func20, Tryz.ntmps20
  go_wp2_with (go_at_call 82; refine (kernel_own_nil _).mono ?_; rintro e w1 ⟨rfl, m⟩)
  go_ret
  exact ⟨rfl, m⟩
set_option maxRecDepth 100000 in
theorem kernel_Desk_nil (w : World) : Calls Tryz.prog 18 #[.pointer none] w (Nothing (.pointer none) w) := by
  have hfl : ∀ w, (Instr.field 85 (.agg #[.pointer none, .pointer none, .pointer none, .pointer none, .pointer none, .pointer none, .pointer none, .pointer none, .pointer none, .pointer none, .pointer none, .pointer none, .pointer none, .pointer none, .slice none 0 0]) 11).run Tryz.prog w = .ok (.pointer none) w := fun w => by kernel_rfl
  go_enter Tryz.func18, Tryz.ntmps18
  go_wp2_with (go_at_call 82; refine (kernel_own_nil _).mono ?_; rintro e w1 ⟨rfl, m⟩)
  go_ret
  exact ⟨rfl, m⟩
set_option maxRecDepth 100000 in
theorem kernel_Gate_nil (w : World) : Calls Tryz.prog 38 #[.pointer none] w (Nothing (.pointer none) w) := by
  have hfl : ∀ w, (Instr.field 85 (.agg #[.pointer none, .pointer none, .pointer none, .pointer none, .pointer none, .pointer none, .pointer none, .pointer none, .pointer none, .pointer none, .pointer none, .pointer none, .pointer none, .pointer none, .slice none 0 0]) 9).run Tryz.prog w = .ok (.pointer none) w := fun w => by kernel_rfl
  go_enter Tryz.func38, Tryz.ntmps38
  go_wp2_with (go_at_call 82; refine (kernel_own_nil _).mono ?_; rintro e w1 ⟨rfl, m⟩)
  go_ret
  exact ⟨rfl, m⟩
set_option maxRecDepth 100000 in
theorem kernel_Stop_nil (w : World) : Calls Tryz.prog 39 #[.pointer none] w (Nothing (.pointer none) w) := by
  have hfl : ∀ w, (Instr.field 85 (.agg #[.pointer none, .pointer none, .pointer none, .pointer none, .pointer none, .pointer none, .pointer none, .pointer none, .pointer none, .pointer none, .pointer none, .pointer none, .pointer none, .pointer none, .slice none 0 0]) 10).run Tryz.prog w = .ok (.pointer none) w := fun w => by kernel_rfl
  go_enter Tryz.func39, Tryz.ntmps39
  go_wp2_with (go_at_call 82; refine (kernel_own_nil _).mono ?_; rintro e w1 ⟨rfl, m⟩)
  go_ret
  exact ⟨rfl, m⟩
set_option maxRecDepth 100000 in
theorem kernel_Cores_nil (w : World) : Calls Tryz.prog 40 #[.pointer none] w (Nothing (.pointer none) w) := by
  have hfl : ∀ w, (Instr.field 85 (.agg #[.pointer none, .pointer none, .pointer none, .pointer none, .pointer none, .pointer none, .pointer none, .pointer none, .pointer none, .pointer none, .pointer none, .pointer none, .pointer none, .pointer none, .slice none 0 0]) 12).run Tryz.prog w = .ok (.pointer none) w := fun w => by kernel_rfl
  go_enter Tryz.func40, Tryz.ntmps40
  go_wp2_with (go_at_call 82; refine (kernel_own_nil _).mono ?_; rintro e w1 ⟨rfl, m⟩)
  go_ret
  exact ⟨rfl, m⟩
set_option maxRecDepth 100000 in
theorem kernel_Meter_nil (w : World) : Calls Tryz.prog 41 #[.pointer none] w (Nothing (.pointer none) w) := by
  have hfl : ∀ w, (Instr.field 85 (.agg #[.pointer none, .pointer none, .pointer none, .pointer none, .pointer none, .pointer none, .pointer none, .pointer none, .pointer none, .pointer none, .pointer none, .pointer none, .pointer none, .pointer none, .slice none 0 0]) 13).run Tryz.prog w = .ok (.pointer none) w := fun w => by kernel_rfl
  go_enter Tryz.func41, Tryz.ntmps41
  go_wp2_with (go_at_call 82; refine (kernel_own_nil _).mono ?_; rintro e w1 ⟨rfl, m⟩)
  go_ret
  exact ⟨rfl, m⟩
set_option maxRecDepth 100000 in
theorem kernel_Gov_nil (w : World) : Calls Tryz.prog 29 #[.pointer none, .int .i64 0] w (Nothing (.pointer none) w) := by
  have hfl : ∀ w, (Instr.field 85 (.agg #[.pointer none, .pointer none, .pointer none, .pointer none, .pointer none, .pointer none, .pointer none, .pointer none, .pointer none, .pointer none, .pointer none, .pointer none, .pointer none, .pointer none, .slice none 0 0]) 14).run Tryz.prog w = .ok (.slice none 0 0) w := fun w => by kernel_rfl
  go_enter Tryz.func29, Tryz.ntmps29
  go_wp2_with (go_at_call 82; refine (kernel_own_nil _).mono ?_; rintro e w1 ⟨rfl, m⟩)
  go_ret
  exact ⟨rfl, m⟩
theorem kernel_Online {F : List Nat} {w : World} {b : Nat} {k : KT} (h : (kernelR b k).holds F w) : Calls Tryz.prog 15 #[.pointer (some ⟨b, 0, none⟩)] w (Nothing (.int .u64 (k.online : Nat)) w) := by
  obtain ⟨hok, p, hA⟩ := kernel_view h
  have c16 : w.cell? ⟨b, 16, none⟩ = some (.int .u64 (k.online : Nat)) := hA.kC 16
  clear hA h
  go_enter Tryz.func15, Tryz.ntmps15
  go_wp2
  go_ret
  exact ⟨rfl, Mod.refl _ _⟩
section
variable {F : List Nat} {w u : World}
def recsAt (w : World) (a : Option Addr) (l : List RecS) : Prop := ∀ i, i < l.length → ∃ g, a = some ⟨g, 0, none⟩ ∧ ∀ j, j < 5 → w.cell? ⟨g, i * 5 + j, none⟩ = (recV (l.getD i ⟨0, 0, 0, 0, 0⟩))[j]?
end
end Go.Proofs.YtaakgpnmfkmdoaaGreatDoor

/- What is known of a kernel of two cores. No condition but those named. -/
namespace Go.Proofs.YtaakgpnmfkmdoaaGreatDoor
set_option linter.unusedVariables false
set_option linter.unusedSimpArgs false
open Go.RowKit

/-- The first thing becomes things; what stands behind it stays. -/
theorem On.splice {F : List Nat} {w u : World} {R : Res} {rest L : List Res} (h : On F w (R :: rest) u) : ∃ F1, R.holds F1 u ∧ (∀ b, b ∈ F1 → b ∈ F ∨ w.heap.size ≤ b) ∧ ∀ {u2 : World} {L : List Res}, On F1 u L u2 → On F w (L ++ rest) u2 := by
  obtain ⟨Fa, ⟨F1, F2, rfl, h1, h2, h3⟩, hm, hb⟩ := h
  refine ⟨F1, h1, fun b hb1 => hb b (List.mem_append.2 (.inl hb1)), ?_⟩
  rintro u2 L ⟨F3, g1, g2, g3⟩
  refine ⟨F3 ++ F2, Stars.append.2 ⟨F3, F2, rfl, g1, h2.keep g2 (fun b hb2 hb1 => h3 b hb1 hb2), fun b hb3 hb2 => ?_⟩, hm.trans g2 (fun b hb1 => hb b (List.mem_append.2 (.inl hb1))), fun b hb4 => ?_⟩
  · rcases g3 b hb3 with h | h
    · exact h3 b h hb2
    · have := h2.lt b hb2; omega
  · rcases List.mem_append.1 hb4 with h | h
    · rcases g3 b h with h | h
      · exact hb b (List.mem_append.2 (.inl h))
      · have := hm.size; exact .inr (by omega)
    · exact hb b (List.mem_append.2 (.inr h))
def ka : KT := (k0 2).spawn 3 1
theorem ka_what : ka.what 0 = 8 := by kernel_rfl
theorem ka_recs : ansL ((k0 2).th.spawnV 3 1) ((k0 2).th.spawnE 3 1) = [⟨1, 0, 1, 0, 0⟩] := by kernel_rfl
theorem kb_recs : ka.stepL 0 = [⟨2, 0, 1, 0, 0⟩] := by kernel_rfl
theorem kb_online : (ka.step 0).online = 3 := by kernel_rfl
theorem ka_is : ka.is 0 := ⟨by decide, by show (0 : Int) < ((2 : Nat) : Int); decide⟩
set_option maxRecDepth 100000 in
theorem same_ret (ga gb : Nat) (ca cb : Nat) (w : World) (a0 : w.cell? ⟨ga, 0, none⟩ = some (.int .i64 1)) (a1 : w.cell? ⟨ga, 1, none⟩ = some (.int .i64 0)) (a2 : w.cell? ⟨ga, 2, none⟩ = some (.int .i64 1)) (a3 : w.cell? ⟨ga, 3, none⟩ = some (.int .i64 0)) (a4 : w.cell? ⟨ga, 4, none⟩ = some (.int .i64 0))
    (b0 : w.cell? ⟨gb, 0, none⟩ = some (.int .i64 1)) (b1 : w.cell? ⟨gb, 1, none⟩ = some (.int .i64 0)) (b2 : w.cell? ⟨gb, 2, none⟩ = some (.int .i64 1)) (b3 : w.cell? ⟨gb, 3, none⟩ = some (.int .i64 0)) (b4 : w.cell? ⟨gb, 4, none⟩ = some (.int .i64 0)) :
    Calls Tryz.prog 69 #[.slice (some ⟨ga, 0, none⟩) 1 ca, .slice (some ⟨gb, 0, none⟩) 1 cb] w (Ret (.bool true) w) := by
  have hne : ∀ w, (binOp .neq 37 (.agg #[.int .i64 1, .int .i64 0, .int .i64 1, .int .i64 0, .int .i64 0]) (.agg #[.int .i64 1, .int .i64 0, .int .i64 1, .int .i64 0, .int .i64 0])).run Tryz.prog w = .ok (.bool false) w := fun w => by kernel_rfl
  go_enter Tryz.func69, Tryz.ntmps69
  go_wp2
  go_loopg [5] 1 (fun gg i wr => ∃ (j : Nat), i = .int .i64 j ∧ j + gg = 1 ∧ Drew w wr)
  case atStart => exact ⟨0, rfl, by omega, Drew.refl _⟩
  case round =>
    obtain ⟨j, rfl, hj, hD⟩ := hrel
    have m := hD.mod (S := [])
    by_cases hlt : j < 1
    · obtain rfl : j = 0 := by omega
      have x0 := m.at a0 (by simp)
      have x1 := m.at a1 (by simp)
      have x2 := m.at a2 (by simp)
      have x3 := m.at a3 (by simp)
      have x4 := m.at a4 (by simp)
      have y0 := m.at b0 (by simp)
      have y1 := m.at b1 (by simp)
      have y2 := m.at b2 (by simp)
      have y3 := m.at b3 (by simp)
      have y4 := m.at b4 (by simp)
      clear a0 a1 a2 a3 a4 b0 b1 b2 b3 b4 m
      go_wp2
      go_quiet (fail)
      go_wp2
      go_roundg (gk - 1)
      case measure => omega
      case rel => exact ⟨1, rfl, by omega, by repeat (first | exact hD | apply Drew.drewN | apply Drew.drew)⟩
    · obtain rfl : j = 1 := by omega
      go_wp2
      go_ret
      exact ⟨rfl, hD⟩
set_option maxRecDepth 100000 in
theorem same_run (ga gb : Nat) (ca cb : Nat) (w : World) (a0 : w.cell? ⟨ga, 0, none⟩ = some (.int .i64 2)) (a1 : w.cell? ⟨ga, 1, none⟩ = some (.int .i64 0)) (a2 : w.cell? ⟨ga, 2, none⟩ = some (.int .i64 1)) (a3 : w.cell? ⟨ga, 3, none⟩ = some (.int .i64 0)) (a4 : w.cell? ⟨ga, 4, none⟩ = some (.int .i64 0))
    (b0 : w.cell? ⟨gb, 0, none⟩ = some (.int .i64 2)) (b1 : w.cell? ⟨gb, 1, none⟩ = some (.int .i64 0)) (b2 : w.cell? ⟨gb, 2, none⟩ = some (.int .i64 1)) (b3 : w.cell? ⟨gb, 3, none⟩ = some (.int .i64 0)) (b4 : w.cell? ⟨gb, 4, none⟩ = some (.int .i64 0)) :
    Calls Tryz.prog 69 #[.slice (some ⟨ga, 0, none⟩) 1 ca, .slice (some ⟨gb, 0, none⟩) 1 cb] w (Ret (.bool true) w) := by
  have hne : ∀ w, (binOp .neq 37 (.agg #[.int .i64 2, .int .i64 0, .int .i64 1, .int .i64 0, .int .i64 0]) (.agg #[.int .i64 2, .int .i64 0, .int .i64 1, .int .i64 0, .int .i64 0])).run Tryz.prog w = .ok (.bool false) w := fun w => by kernel_rfl
  go_enter Tryz.func69, Tryz.ntmps69
  go_wp2
  go_loopg [5] 1 (fun gg i wr => ∃ (j : Nat), i = .int .i64 j ∧ j + gg = 1 ∧ Drew w wr)
  case atStart => exact ⟨0, rfl, by omega, Drew.refl _⟩
  case round =>
    obtain ⟨j, rfl, hj, hD⟩ := hrel
    have m := hD.mod (S := [])
    by_cases hlt : j < 1
    · obtain rfl : j = 0 := by omega
      have x0 := m.at a0 (by simp)
      have x1 := m.at a1 (by simp)
      have x2 := m.at a2 (by simp)
      have x3 := m.at a3 (by simp)
      have x4 := m.at a4 (by simp)
      have y0 := m.at b0 (by simp)
      have y1 := m.at b1 (by simp)
      have y2 := m.at b2 (by simp)
      have y3 := m.at b3 (by simp)
      have y4 := m.at b4 (by simp)
      clear a0 a1 a2 a3 a4 b0 b1 b2 b3 b4 m
      go_wp2
      go_quiet (fail)
      go_wp2
      go_roundg (gk - 1)
      case measure => omega
      case rel => exact ⟨1, rfl, by omega, by repeat (first | exact hD | apply Drew.drewN | apply Drew.drew)⟩
    · obtain rfl : j = 1 := by omega
      go_wp2
      go_ret
      exact ⟨rfl, hD⟩
theorem recs_at {a : Option Addr} {r : RecS} {F : List Nat} {w : World} (h : (recsR a [r]).holds F w) : ∃ g, a = some ⟨g, 0, none⟩ ∧ w.cell? ⟨g, 0, none⟩ = some (.int .i64 r.kind) ∧ w.cell? ⟨g, 1, none⟩ = some (.int .i64 r.cpu) ∧ w.cell? ⟨g, 2, none⟩ = some (.int .i64 r.id) ∧ w.cell? ⟨g, 3, none⟩ = some (.int .i64 r.n) ∧ w.cell? ⟨g, 4, none⟩ = some (.int .i64 r.why) := by
  rcases h with ⟨h, _⟩ | ⟨g, rfl, _, hb⟩
  · cases h
  · exact ⟨g, rfl, cellAt hb 0, cellAt hb 1, cellAt hb 2, cellAt hb 3, cellAt hb 4⟩
set_option maxRecDepth 100000 in
set_option maxHeartbeats 1000000 in
theorem kernel_known (w : World) (hT : Tab w) : Calls Tryz.prog 9 #[] w (Nothing (.bool true) w) := by
  have hN := kernel_New 2 (by omega) (by omega) w
  go_enter Tryz.func9, Tryz.ntmps9
  go_wp2_with (first
    | (
      go_at_call 8
      refine hN.mono ?_
      rintro e w1 ⟨d, rfl, hG⟩
      have hA := hG.on
      have hT1 := hA.tab hT (by simp)
      obtain ⟨F1, g1, g2, g3⟩ := hA.splice (L := [])
      have tz : tzL_ren.g 1 ∉ F1 := fun h => by
        have := hT.lt
        rcases g2 _ h with h | h
        · cases h
        · omega
      have hD : Calls Tryz.prog 11 #[.pointer (some ⟨d, 0, none⟩), .agg #[.int .i64 3, .int .i64 0, .int .i64 3, .int .u64 1, .int .i64 0]] w1 (Does d ka [⟨1, 0, 1, 0, 0⟩] F1 w1) := by rw [← ka_recs]; exact kernel_Do_spawn g1 hT1 tz 0 3 1 (by decide) 0
      have hg3 := fun {u2 : World} {L : List Res} => @g3 u2 L
      clear hA hG hN g3 tz g1 g2)
    | (
      go_at_call 11
      refine hD.mono ?_
      rintro e w2 ⟨a1, k1, rfl, hE⟩
      have hB := hg3 hE
      clear hD hE hg3
      obtain ⟨F2, q1, q2, q3⟩ := hB.splice (L := [])
      have hS : Calls Tryz.prog 11 #[.pointer (some ⟨d, 0, none⟩), .agg #[.int .i64 1, .int .i64 0, .int .i64 0, .int .u64 0, .int .i64 0]] w2 (Does d (ka.step 0) [⟨2, 0, 1, 0, 0⟩] F2 w2) := by rw [← kb_recs]; exact kernel_Do_step8 q1 0 ka_is ka_what 0 0 0
      have hq3 := fun {u2 : World} {L : List Res} => @q3 u2 L
      clear hB q1 q2 q3)
    | (
      go_at_call 11
      refine hS.mono ?_
      rintro e w3 ⟨a2, k2, rfl, hE⟩
      have hC := hq3 hE
      clear hS hE hq3
      obtain ⟨Fk, hk⟩ := hC.get 0 rfl
      obtain ⟨Fx, hx⟩ := hC.get 1 rfl
      obtain ⟨Fy, hy⟩ := hC.get 2 rfl
      obtain ⟨gr, rfl, x0, x1, x2, x3, x4⟩ := recs_at hx
      obtain ⟨ga, rfl, y0, y1, y2, y3, y4⟩ := recs_at hy
      have hOn := fun w' (m : Mod [] w3 w') => kernel_Online ((kernelR d (ka.step 0)).keep hk m (by simp))
      rw [kb_online] at hOn
      have mw := hC.mod
      have z1 := cellAt (heapNew w3 (.cells #[.int .i64 1, .int .i64 0, .int .i64 1, .int .i64 0, .int .i64 0] 37 (0,0)))
      clear hC hk hx hy)
    | (
      go_at_call 69
      refine (same_ret _ _ _ _ _ (cellNew _ y0) (cellNew _ y1) (cellNew _ y2) (cellNew _ y3) (cellNew _ y4) (z1 0) (z1 1) (z1 2) (z1 3) (z1 4)).mono ?_
      rintro e v1 ⟨rfl, kk, rfl⟩
      have z2 := cellAt (heapNewAt (w := (w3.alloc (.cells #[.int .i64 1, .int .i64 0, .int .i64 1, .int .i64 0, .int .i64 0] 37 (0,0))).drewN kk) (n := w3.heap.size + 1) (.cells #[.int .i64 2, .int .i64 0, .int .i64 1, .int .i64 0, .int .i64 0] 37 (0,0)) (by simp))
      clear z1 y0 y1 y2 y3 y4)
    | (
      go_at_call 69
      refine (same_run _ _ _ _ _ (cellNew _ (cellN (cellNew _ x0) _)) (cellNew _ (cellN (cellNew _ x1) _)) (cellNew _ (cellN (cellNew _ x2) _)) (cellNew _ (cellN (cellNew _ x3) _)) (cellNew _ (cellN (cellNew _ x4) _)) (z2 0) (z2 1) (z2 2) (z2 3) (z2 4)).mono ?_
      rintro e v2 ⟨rfl, kk2, rfl⟩
      clear z2 x0 x1 x2 x3 x4)
    | (
      go_at_call 15
      refine (hOn _ (((((Mod.refl _ _).alloc _).drewN _).alloc _).drewN _)).mono ?_
      rintro e v3 ⟨rfl, m3⟩))
  go_ret
  exact ⟨rfl, (mw.trans (((((Mod.refl [] w3).alloc _).drewN _).alloc _).drewN _) (by simp)).trans m3 (by simp)⟩
end Go.Proofs.YtaakgpnmfkmdoaaGreatDoor

/- The walk over the law KernelNil. No condition but those named. -/
namespace Go.Proofs.YtaakgpnmfkmdoaaGreatDoor
set_option linter.unusedVariables false
set_option linter.unusedSimpArgs false
open Go.RowKit

set_option maxRecDepth 100000 in
set_option maxHeartbeats 2000000 in
theorem KernelNil_walk (w : World) (hT : Tab w) (ev : Ev28) (hev : ev.ok) : Calls Tryz.prog 7 #[.agg ev.vals.toArray] w (Rets (.bool true) [] w fun _ => True) := by
  obtain ⟨e0, e1, e2, e3, e4⟩ := ev
  simp only [Ev28.vals]
  have hx := cellAt (heapNew w (.cells #[.int .i64 e0, .int .i64 e1, .int .i64 e2, .int .u64 e3, .int .i64 e4] 34 (0,0)))
  have x0 := hx 0
  have x1 := hx 1
  have x2 := hx 2
  have x3 := hx 3
  have x4 := hx 4
  have m0 : Mod [] w (w.alloc (.cells #[.int .i64 e0, .int .i64 e1, .int .i64 e2, .int .u64 e3, .int .i64 e4] 34 (0,0))) := (Mod.refl _ _).alloc _
  clear hx
  go_enter Tryz.func7, Tryz.ntmps7
  go_wp2_with (first
    | (go_at_call 11; refine (kernel_Do_nil _ _ _ _ _ ⟨e0, e1, e2, e3, e4, rfl, rfl, rfl, rfl, rfl⟩ _).mono ?_; rintro e v ⟨rfl, mx⟩; have m1 := m0.trans mx (by simp); clear mx)
    | (go_at_call 26; refine (kernel_Cpus_nil _).mono ?_; rintro e v ⟨rfl, mx⟩; have m2 := m1.trans mx (by simp); clear mx)
    | (go_at_call 15; refine (kernel_Online_nil _).mono ?_; rintro e v ⟨rfl, mx⟩; have m3 := m2.trans mx (by simp); clear mx)
    | (go_at_call 10; refine (kernel_Active_nil _).mono ?_; rintro e v ⟨rfl, mx⟩; have m4 := m3.trans mx (by simp); clear mx)
    | (go_at_call 27; refine (kernel_Now_nil _).mono ?_; rintro e v ⟨rfl, mx⟩; have m5 := m4.trans mx (by simp); clear mx)
    | (go_at_call 28; refine (kernel_Owner_nil 1 _).mono ?_; rintro e v ⟨rfl, mx⟩; have m6 := m5.trans mx (by simp); clear mx)
    | (go_at_call 29; refine (kernel_Gov_nil _).mono ?_; rintro e v ⟨rfl, mx⟩; have m7 := m6.trans mx (by simp); clear mx))
  go_wp2_with (first
    | (go_at_call 30; refine (kernel_Threads_nil _).mono ?_; rintro e v ⟨rfl, mx⟩; have m8 := m7.trans mx (by simp); clear mx)
    | (go_at_call 31; refine (kernel_Queues_nil _).mono ?_; rintro e v ⟨rfl, mx⟩; have m9 := m8.trans mx (by simp); clear mx)
    | (go_at_call 32; refine (kernel_Timers_nil _).mono ?_; rintro e v ⟨rfl, mx⟩; have m10 := m9.trans mx (by simp); clear mx)
    | (go_at_call 33; refine (kernel_Irqs_nil _).mono ?_; rintro e v ⟨rfl, mx⟩; have m11 := m10.trans mx (by simp); clear mx)
    | (go_at_call 34; refine (kernel_Route_nil _).mono ?_; rintro e v ⟨rfl, mx⟩; have m12 := m11.trans mx (by simp); clear mx)
    | (go_at_call 35; refine (kernel_Works_nil _).mono ?_; rintro e v ⟨rfl, mx⟩; have m13 := m12.trans mx (by simp); clear mx)
    | (go_at_call 36; refine (kernel_Calls_nil _).mono ?_; rintro e v ⟨rfl, mx⟩; have m14 := m13.trans mx (by simp); clear mx)
    | (go_at_call 37; refine (kernel_Objects_nil _).mono ?_; rintro e v ⟨rfl, mx⟩; have m15 := m14.trans mx (by simp); clear mx)
    | (go_at_call 20; refine (kernel_Counts_nil _).mono ?_; rintro e v ⟨rfl, mx⟩; have m16 := m15.trans mx (by simp); clear mx)
    | (go_at_call 18; refine (kernel_Desk_nil _).mono ?_; rintro e v ⟨rfl, mx⟩; have m17 := m16.trans mx (by simp); clear mx)
    | (go_at_call 38; refine (kernel_Gate_nil _).mono ?_; rintro e v ⟨rfl, mx⟩; have m18 := m17.trans mx (by simp); clear mx)
    | (go_at_call 39; refine (kernel_Stop_nil _).mono ?_; rintro e v ⟨rfl, mx⟩; have m19 := m18.trans mx (by simp); clear mx)
    | (go_at_call 40; refine (kernel_Cores_nil _).mono ?_; rintro e v ⟨rfl, mx⟩; have m20 := m19.trans mx (by simp); clear mx)
    | (go_at_call 41; refine (kernel_Meter_nil _).mono ?_; rintro e v ⟨rfl, mx⟩; have m21 := m20.trans mx (by simp); clear mx)
    | (go_at_call 9; refine (kernel_known _ (hT.keep m21 (by simp))).mono ?_; rintro e v ⟨rfl, mx⟩; have m22 := m21.trans mx (by simp); clear mx))
  go_ret
  exact Rets.of rfl m22 trivial
end Go.Proofs.YtaakgpnmfkmdoaaGreatDoor
