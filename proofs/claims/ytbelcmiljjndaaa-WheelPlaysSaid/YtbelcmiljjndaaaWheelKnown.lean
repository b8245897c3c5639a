/- The walk over package davitlaw13's known, and over WheelNil. -/
import Derived.Test.YtbelcmiljjndaaaWheelInts
import Derived.Test.YtbelcmiljjndaaaWheelNew
import Derived.Test.YtbelcmiljjndaaaArgs
namespace Go.Proofs.Ytbelcmiljjndaaa
set_option linter.unusedVariables false
set_option linter.unusedSimpArgs false
open Go.RowKit
theorem sw0_ok {t : Nat} (h : tickOk t) : (sw0 t).ok := ⟨by have := h.2; show t ≤ _; omega, by simp [sw0]⟩
theorem SW.ok.add {s : SW} (h : s.ok) (id due : Int) : (s.add id due).ok := by
  unfold SW.add
  split
  · rename_i he
    refine (h.setDue id ?_).put id
    unfold SW.addE at he
    by_cases hr : tickOk due
    · have := hr.1; have := hr.2; omega
    · rw [if_pos hr] at he; omega
  · exact h
theorem SW.ok.go {s : SW} (h : s.ok) (t : Int) : (s.go t).ok := by
  unfold SW.go
  split
  · exact h
  · rename_i hn
    split
    · exact h
    · have hr : tickOk t := by
        by_cases hr : tickOk t
        · exact hr
        · exact absurd (.inr hr) hn
      refine SW.ok.puts ⟨?_, fun p hp => ?_⟩ _
      · show t.toNat ≤ _; have := hr.2; omega
      · refine h.due p ?_
        have hp' : p ∈ ((s.goN (lvlW t.toNat s.now)).2.leaveN (lvlW t.toNat s.now) (digW t.toNat (lvlW t.toNat s.now) + 1)).dues := hp
        rwa [leaveN_dues, goN_dues] at hp'
theorem add_len {s : SW} {M : Nat} (h : ∀ k, (s.lists k).length ≤ M) (id due : Int) (k : Nat) : ((s.add id due).lists k).length ≤ M + 1 := by
  unfold SW.add
  split
  · unfold SW.put upd
    simp only
    split
    · have := h k
      simp only [List.length_append, List.length_cons, List.length_nil]
      have := h (idxW (s.setDue id due.toNat).now (dueW (s.setDue id due.toNat) id))
      show (s.lists _).length + 1 ≤ M + 1
      omega
    · have := h k
      show (s.lists k).length ≤ M + 1
      omega
  · have := h k; omega
theorem go_len {s : SW} (hok : s.ok) {M : Nat} (h : ∀ k, (s.lists k).length ≤ M) (t : Int) (k : Nat) : ((s.go t).lists k).length ≤ M + 168 * M := by
  unfold SW.go
  split
  · have := h k; omega
  · rename_i hn
    split
    · have := h k; omega
    · have hr : tickOk t := by
        by_cases hr : tickOk t
        · exact hr
        · exact absurd (.inr hr) hn
      have htop : lvlW t.toNat s.now ≤ 20 := lvlW_le (by have := hr.2; omega) hok.now
      obtain ⟨h1, h2⟩ := goN_len s M h (lvlW t.toNat s.now)
      have h3 := tookN_len _ (lvlW t.toNat s.now) M h2 (digW t.toNat (lvlW t.toNat s.now) + 1)
      have hd := digW_bd t.toNat (lvlW t.toNat s.now)
      unfold SW.goTo
      refine Nat.le_trans (puts_len _ _ _) ?_
      have h4 : ((s.left t.toNat).lists k).length ≤ M := by
        show (((s.goN (lvlW t.toNat s.now)).2.leaveN (lvlW t.toNat s.now) (digW t.toNat (lvlW t.toNat s.now) + 1)).lists k).length ≤ M
        exact leaveN_len _ _ M h2 _ k
      have h5 : (s.gone t.toNat).length ≤ 20 * (8 * M) + 8 * M := by
        unfold SW.gone
        rw [List.length_append]
        have e1 : lvlW t.toNat s.now * (8 * M) ≤ 20 * (8 * M) := Nat.mul_le_mul_right _ htop
        have e2 : (digW t.toNat (lvlW t.toNat s.now) + 1) * M ≤ 8 * M := Nat.mul_le_mul_right _ (by omega)
        omega
      omega
def K1 : SW := (sw0 5).add 1 9
def K2 : SW := K1.add 2 7
def K3 : SW := K2.go 8
theorem K3_dues : K3.dues = [(1, 9), (2, 7)] := by kernel_rfl
theorem K3_ready : K3.lists 168 = [2] := by kernel_rfl
theorem K2_goE : K2.goE 8 = 0 := by kernel_rfl
theorem K3_due2 : dueW K3 2 = 7 := by kernel_rfl
theorem K3_due1 : dueW K3 1 = 9 := by kernel_rfl

theorem K3_sortR : sortW K3 (K3.lists 168) = [2] := by
  rw [K3_ready]
  exact List.perm_singleton.1 (sortW_perm K3 [2])
theorem K3_sortL : sortW K3 (K3.dues.map (·.1)) = [2, 1] := by
  rw [K3_dues]
  refine sorted_unique K3 ((sortW_perm K3 [1, 2]).trans (List.Perm.swap 2 1 [])) (sortW_sorted _ _) ?_
  refine List.pairwise_cons.2 ⟨fun a ha => ?_, List.pairwise_singleton _ _⟩
  have : a = 1 := by simpa using ha
  subst this
  rw [leW_iff, K3_due1, K3_due2]
  omega
theorem K3_firstK : K3.firstK = 168 := if_pos (by rw [K3_ready]; simp)
theorem K3_nextE : K3.nextE = 0 := if_neg (by rw [K3_dues]; simp)
theorem K3_nextV : K3.nextV = 7 := by
  unfold SW.nextV SW.firstL
  rw [if_neg (by rw [K3_dues]; simp), K3_firstK, K3_sortR]
  exact K3_due2
theorem K1_ok : K1.ok := (sw0_ok (by decide)).add _ _
theorem K2_ok : K2.ok := K1_ok.add _ _
theorem K1_len (k : Nat) : (K1.lists k).length ≤ 1 := add_len (s := sw0 5) (M := 0) (fun k => Nat.le_refl _) _ _ k
theorem K2_len (k : Nat) : (K2.lists k).length ≤ 2 := add_len K1_len _ _ k
theorem K3_len (k : Nat) : (K3.lists k).length ≤ 338 := go_len K2_ok K2_len _ k
set_option maxRecDepth 100000 in
set_option maxHeartbeats 2000000 in
theorem wheel_known (w : World) : Calls Try.prog 43 #[] w (Rets (.bool true) [] w fun _ => True) := by
  have hN : ∀ w, Calls Try.prog 42 #[.int .i64 5] w _ := fun w => wheel_New 5 (by decide) w
  have hA1 : ∀ d mb G w, WheelAt w d mb G (sw0 5) → Calls Try.prog 44 #[.pointer (some ⟨d, 0, none⟩), .int .i64 1, .int .i64 9] w (WheelDo d mb G (.int .i64 0) K1 w) :=
    fun d mb G w h => wheel_Add d mb G (sw0 5) w h (sw0_ok (by decide)) (fun k _ => by show 0 + 1 < _; omega) 1 9
  have hA2 : ∀ d mb G w, WheelAt w d mb G K1 → Calls Try.prog 44 #[.pointer (some ⟨d, 0, none⟩), .int .i64 2, .int .i64 7] w (WheelDo d mb G (.int .i64 0) K2 w) :=
    fun d mb G w h => wheel_Add d mb G K1 w h K1_ok (fun k _ => by have := K1_len k; omega) 2 7
  have hG : ∀ d mb G w, WheelAt w d mb G K2 → Calls Try.prog 46 #[.pointer (some ⟨d, 0, none⟩), .int .i64 8] w (WheelDo d mb G (.int .i64 0) K3 w) := by
    intro d mb G w h
    have := wheel_Go d mb G K2 w h K2_ok (fun k => by have := K2_len k; omega) 8
    rwa [K2_goE] at this
  have hX : ∀ d mb G w, WheelAt w d mb G K3 → Calls Try.prog 54 #[.pointer (some ⟨d, 0, none⟩)] w (Rets (.tuple #[.int .i64 7, .int .i64 0]) [] w fun _ => True) := by
    intro d mb G w h
    have := wheel_Next d mb G K3 w h (fun k => by have := K3_len k; omega) (fun _ => by rw [K3_firstK, K3_ready]; simp)
    rwa [K3_nextV, K3_nextE] at this
  have hD : ∀ d mb G w, WheelAt w d mb G K3 → Calls Try.prog 47 #[.pointer (some ⟨d, 0, none⟩)] w (fun e w' => ∃ a cap', e = .returned (.slice a ([2] : List Int).length cap') ∧ Mod [] w w' ∧ IsInts w' a [2]) := by
    intro d mb G w h
    have := wheel_Due d mb G K3 w h (by rw [K3_ready]; simp)
    rwa [K3_sortR, K3_ready] at this
  have hL : ∀ d mb G w, WheelAt w d mb G K3 → Calls Try.prog 61 #[.pointer (some ⟨d, 0, none⟩)] w (fun e w' => ∃ a cap', e = .returned (.slice a ([2, 1] : List Int).length cap') ∧ Mod [] w w' ∧ IsInts w' a [2, 1]) := by
    intro d mb G w h
    have := wheel_List d mb G K3 w h (by rw [K3_dues]; decide) (by rw [K3_dues]; simp)
    rwa [K3_sortL, K3_dues] at this
  have hI1 : ∀ a b c w, IsInts w a [2] → w.heap[b]? = some (.cells #[.int .i64 2] 3 (0,0)) → Calls Try.prog 48 #[.slice a 1 c, .slice (some ⟨b, 0, none⟩) 1 1] w (Ret (.bool true) w) := by
    intro a b c w h1 h2
    exact masks_Ints a (some ⟨b, 0, none⟩) c 1 [2] [2] w h1 (LAt.ints (g := some b) (cap := 1) ⟨_, h2, by simp, by simp [maxLen], rfl, rfl⟩) (by simp) (by simp)
  have hI2 : ∀ a b c w, IsInts w a [2, 1] → w.heap[b]? = some (.cells #[.int .i64 2, .int .i64 1] 3 (0,0)) → Calls Try.prog 48 #[.slice a 2 c, .slice (some ⟨b, 0, none⟩) 2 2] w (Ret (.bool true) w) := by
    intro a b c w h1 h2
    exact masks_Ints a (some ⟨b, 0, none⟩) c 2 [2, 1] [2, 1] w h1 (LAt.ints (g := some b) (cap := 2) ⟨_, h2, by simp, by simp [maxLen], rfl, rfl⟩) (by simp) (by simp)
  go_enter Try.func43, Try.ntmps43
  go_wp2_with (first
    | (
      go_at_call 42
      refine (hN _).mono ?_
      rintro e w1 ⟨d, mb, rfl, m1, x1, hd, hmb⟩
      )
    | (
      go_at_call 44
      have hx := x1
      refine (hA1 d mb _ _ (by exact hx)).mono ?_
      rintro e w2 ⟨rfl, G2, m2, x2, g2⟩
      clear hx x1
      )
    | (
      go_at_call 44
      have hx := x2
      refine (hA2 d mb _ _ (by exact hx)).mono ?_
      rintro e w3 ⟨rfl, G3, m3, x3, g3⟩
      clear hx x2
      )
    | (
      go_at_call 46
      refine (hG d mb _ _ (by exact x3)).mono ?_
      rintro e w4 ⟨rfl, G4, m4, x4, g4⟩
      )
    | (
      go_at_call 54
      refine (hX d mb _ _ (by exact x4)).mono ?_
      rintro e w5 ⟨rfl, m5, _⟩
      have x5 := x4.keep m5 (by simp)
      )
    | (
      go_at_call 47
      refine (hD d mb _ _ (by exact x5)).mono ?_
      rintro e w6 ⟨a6, c6, rfl, m6, i6⟩
      have x6 := x5.keep m6 (by simp)
      have i6' := i6.keep (S := []) ((Mod.refl _ w6).alloc (.cells #[.int .i64 2] 3)) (by simp)
      have n6 := heapNew w6 (.cells #[.int .i64 2] 3)
      )
    | (
      go_at_call 48
      have hx := i6'
      refine (hI1 _ _ _ _ (by exact hx) (by exact n6)).mono ?_
      rintro e w7 ⟨rfl, k7, rfl⟩
      have x7 := x6.keep (S := []) (((Mod.refl _ w6).alloc (.cells #[.int .i64 2] 3)).drewN k7) (by simp)
      have M7 : Mod [] w6 (((w6.alloc (.cells #[.int .i64 2] 3)).drewN k7)) := ((Mod.refl _ w6).alloc (.cells #[.int .i64 2] 3)).drewN k7
      clear i6' hx
      )
    | (
      go_at_call 61
      refine (hL d mb _ _ (by exact x7)).mono ?_
      rintro e w8 ⟨a8, c8, rfl, m8, i8⟩
      have i8' := i8.keep (S := []) ((Mod.refl _ w8).alloc (.cells #[.int .i64 2, .int .i64 1] 3)) (by simp)
      have n8 := heapNew w8 (.cells #[.int .i64 2, .int .i64 1] 3)
      )
    | (
      go_at_call 48
      have hx := i8'
      refine (hI2 _ _ _ _ (by exact hx) (by exact n8)).mono ?_
      rintro e w9 ⟨rfl, k9, rfl⟩
      )
    )
  go_ret
  have o0 : ∀ b, b ∈ wBlocks d mb (fun _ => (none, 0)) → w.heap.size ≤ b := by
    intro b hb
    rcases mem_wBlocks.1 hb with rfl | rfl | ⟨k, _, hb⟩
    · exact hd
    · exact hmb
    · simp [lF] at hb
  have M2 : Mod [] w w2 := m1.trans m2 (fun b hb => .inr (o0 b hb))
  have s1 := m1.size
  have o2 : ∀ b, b ∈ wBlocks d mb G2 → w.heap.size ≤ b := fun b hb => (g2 b hb).elim (o0 b) (by omega)
  have M3 : Mod [] w w3 := M2.trans m3 (fun b hb => .inr (o2 b hb))
  have s2 := M2.size
  have o3 : ∀ b, b ∈ wBlocks d mb G3 → w.heap.size ≤ b := fun b hb => (g3 b hb).elim (o2 b) (by omega)
  have M4 : Mod [] w w4 := M3.trans m4 (fun b hb => .inr (o3 b hb))
  have M6 : Mod [] w w6 := (M4.trans m5 (by simp)).trans m6 (by simp)
  have M8 : Mod [] w w8 := (M6.trans M7 (by simp)).trans m8 (by simp)
  exact Rets.of rfl ((M8.alloc _).drewN _) trivial
set_option maxRecDepth 100000 in
set_option maxHeartbeats 2000000 in
theorem WheelNil_walk (w : World) (id : Int) (_hi : (Lit.int .i64 id).wf = true) (n : Int) (_hn : (Lit.int .i64 n).wf = true) :
    Calls Try.prog 11 #[.int .i64 id, .int .i64 n] w (Rets (.bool true) [] w fun _ => True) := by
  have a1 := fun w => (wheel_nils w).1
  have a2 := fun w => (wheel_nils w).2.1
  have a3 := fun w => (wheel_nils w).2.2.1
  have a4 := fun w => (wheel_nils w).2.2.2.1
  have a5 := fun w => (wheel_nils w).2.2.2.2
  have b1 := fun w => (wheel_nils2 id n w).1
  have b2 := fun w => (wheel_nils2 id n w).2.1
  have b3 := fun w => (wheel_nils2 id n w).2.2.1
  have b4 := fun w => (wheel_nils2 id n w).2.2.2
  go_enter Try.func11, Try.ntmps11
  go_wp2_with (first
    | (go_at_call 58; refine (a1 _).mono ?_; rintro e w' ⟨rfl, k1, rfl⟩)
    | (go_at_call 59; refine (a2 _).mono ?_; rintro e w' ⟨rfl, k2, rfl⟩)
    | (go_at_call 47; refine (a3 _).mono ?_; rintro e w' ⟨rfl, k3, rfl⟩)
    | (go_at_call 61; refine (a4 _).mono ?_; rintro e w' ⟨rfl, k4, rfl⟩)
    | (go_at_call 54; refine (a5 _).mono ?_; rintro e w' ⟨rfl, k5, rfl⟩)
    | (go_at_call 44; refine (b1 _).mono ?_; rintro e w' ⟨rfl, k6, rfl⟩)
    | (go_at_call 51; refine (b2 _).mono ?_; rintro e w7 ⟨rfl, m7, _⟩)
    | (go_at_call 46; refine (b3 _).mono ?_; rintro e w' ⟨rfl, k8, rfl⟩)
    | (go_at_call 56; refine (b4 _).mono ?_; rintro e w' ⟨rfl, k9, rfl⟩)
    | (go_at_call 43; refine (wheel_known _).mono ?_; rintro e wk ⟨rfl, mk, _⟩)
    )
  go_ret
  exact Rets.of rfl (m7.undrewN.trans mk.undrewN (by simp)) trivial
end Go.Proofs.Ytbelcmiljjndaaa
