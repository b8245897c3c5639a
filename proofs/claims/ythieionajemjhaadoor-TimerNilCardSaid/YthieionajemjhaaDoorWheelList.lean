/- The walk over a wheel's List. -/
import Derived.Test.YthieionajemjhaaDoorWheelOwns
import Derived.Test.YthieionajemjhaaDoorShelfKeys
import Derived.Shelf.SlIterI.Collect
namespace Go.Proofs.YthieionajemjhaaDoor
set_option linter.unusedVariables false
set_option linter.unusedSimpArgs false
open Go.RowKit Go.Maps

def leW (s : SW) (x y : Int) : Bool := !(Go.Proofs.ltOf (cmpW s) y x)
theorem leW_iff (s : SW) (x y : Int) : leW s x y = true ↔ (dueW s x < dueW s y ∨ (dueW s x = dueW s y ∧ x ≤ y)) := by
  unfold leW
  rw [ltW]
  simp
  omega
theorem sortW_sorted (s : SW) (l : List Int) : (sortW s l).Pairwise (fun x y => leW s x y = true) := by
  have h := List.pairwise_mergeSort (le := leW s) (fun a b c h1 h2 => by rw [leW_iff] at *; omega) (fun a b => by
    by_cases h : leW s a b = true
    · simp [h]
    · have : leW s b a = true := by rw [leW_iff] at *; omega
      simp [this]) l
  exact h
theorem sortW_perm (s : SW) (l : List Int) : (sortW s l).Perm l := List.mergeSort_perm _ _
theorem sorted_unique (s : SW) : ∀ {l m : List Int}, l.Perm m → l.Pairwise (fun x y => leW s x y = true) → m.Pairwise (fun x y => leW s x y = true) → l = m := by
  intro l m hp h1 h2
  exact hp.eq_of_pairwise (fun a b _ _ h1 h2 => by rw [leW_iff] at *; omega) h1 h2
theorem sortW_eq (s : SW) {l m : List Int} (h : l.Perm m) : sortW s l = sortW s m :=
  sorted_unique s (((sortW_perm s l).trans h).trans (sortW_perm s m).symm) (sortW_sorted s l) (sortW_sorted s m)

theorem lat_of_owns {w : World} {B : Nat} {v : Value} {l : List Int} (h : w.ownsRow B 3 1 v l.length (l.map (Value.int .i64))) : ∃ g cap, v = .slice (lA g) l.length cap ∧ LAt w g cap l ∧ ∀ b, b ∈ lF g → B ≤ b := by
  rcases h.2 with ⟨hv, h0⟩ | ⟨g, cap, cur, hv, hB, q1, q2, q3, q4, q5⟩
  · have e : l = [] := List.eq_nil_of_length_eq_zero h0
    subst e
    exact ⟨none, 0, hv, ⟨rfl, rfl⟩, by simp [lF]⟩
  · refine ⟨some g, cap, hv, ⟨cur, q1, q2, q3, by omega, by rw [Nat.mul_one] at q5; exact q5⟩, fun b hb => ?_⟩
    simp [lF] at hb
    omega
theorem wheel_collect (mb : Nat) (l : List (Int × Nat)) (w : World) (h : MapAt .i64 w mb (duesV l)) (hwf : ∀ p, p ∈ l → (Lit.int .i64 p.1).wf = true) (hsz : l.length ≤ 1000000) (Bm : Nat) (hBm : Bm < w.heap.size) (hc : w.cell? ⟨Bm, 0, none⟩ = some (.map (some mb))) :
    Calls Tryd.prog 69 #[.func (.func 81) #[] #[.pointer (some ⟨Bm, 0, none⟩)]] w (fun e w' => ∃ g cap ss, e = .returned (.slice (lA g) ss.length cap) ∧ ss.Perm (l.map (·.1)) ∧ LAt w' g cap ss ∧ Mod [] w w') := by
  obtain ⟨D0, hown, hperm, hsize⟩ := owns_dues h hwf (by unfold maxLen; omega)
  have hseq : SeqGives Fence.wide 3 Tryd.prog 81 #[.pointer (some ⟨Bm, 0, none⟩)] encZ (fun ss => ss.Perm (intKeys D0)) (Maps.size D0) w :=
    AnyZI.keys_gives (ρ := keysL_ren) { keysL with } Fence.wide 3 trivial rfl (by omega) Bm mb _ D0 w hBm hc hown
  have hcon := AnyZI.collect_in collectL Fence.wide 5 trivial trivial rfl (by omega) 81 #[.pointer (some ⟨Bm, 0, none⟩)] trivial (enters_of Tryd.func81 (by kernel_rfl) rfl) (fun ss => ss.Perm (intKeys D0)) (Maps.size D0) (by rw [hsize]; unfold maxLen; omega) (by rw [hsize]; omega) w hseq
  refine Calls.mono (show Calls Tryd.prog 69 _ _ _ from callsIn_wide.1 hcon) ?_
  rintro e w' ⟨v, ss, rfl, hp, hr, _, hb⟩
  obtain ⟨g, cap, rfl, hL, _⟩ := lat_of_owns hr
  exact ⟨g, cap, ss, rfl, hp.trans hperm, hL, Go.Proofs.YthieionajemjhaaDoor.Below.mod hb (Nat.le_refl _)⟩
set_option maxRecDepth 100000 in
set_option maxHeartbeats 1000000 in
theorem wheel_List (d mb : Nat) (G : Nat → Option Nat × Nat) (s : SW) (w : World) (h : WheelAt w d mb G s) (hwf : ∀ p, p ∈ s.dues → (Lit.int .i64 p.1).wf = true) (hlen : s.dues.length < 1000000) :
    Calls Tryd.prog 52 #[.pointer (some ⟨d, 0, none⟩)] w (fun e w' => ∃ a cap', e = .returned (.slice a s.dues.length cap') ∧ Mod [] w w' ∧ IsInts w' a (sortW s (s.dues.map (·.1))) ∧ IsNew w a) := by
  have cM := h.cellMap
  have mK : Mod [] w (w.alloc (.cells #[.map (some mb)] 86)) := (Mod.refl _ _).alloc _
  have hK : ∀ W, Calls Tryd.prog 70 #[.map (some mb)] W (fun e w' => e = .returned (.func (.func 81) #[] #[.pointer (some ⟨W.heap.size, 0, none⟩)]) ∧ w' = W.alloc (.cells #[.map (some mb)] 86)) :=
    fun W => callsIn_wide.1 (AnyZI.keys_in keysL Fence.wide 5 trivial rfl (some mb) W)
  have hC := wheel_collect mb s.dues _ (h.map.keep mK (by simp)) hwf (by omega) w.heap.size (by simp) (cellAt (heapNew w _) 0)
  go_enter Tryd.func52, Tryd.ntmps52
  go_wp2_with (first
    | (
      go_at_call 70
      refine (hK _).mono ?_
      rintro e w1 ⟨rfl, rfl⟩
      )
    | (
      go_at_call 69
      refine hC.mono ?_
      rintro e w2 ⟨g2, cap2, ss, rfl, hp, x2, m2⟩
      have h2 := (h.keep mK (by simp)).keep m2 (by simp)
      have hl2 : ss.length = s.dues.length := by rw [hp.length_eq]; simp
      have hS := wheel_sorted d mb G s g2 cap2 ss w2 h2 x2 (by omega)
      rw [hl2] at hS ⊢
      )
    | (
      go_at_call 64
      refine hS.mono ?_
      rintro e w3 ⟨a, cap', rfl, m3, x3, n3⟩
      )
    )
  go_ret
  refine ⟨a, cap', rfl, (mK.trans m2 (by simp)).trans m3 (by simp), ?_, fun b o e => ?_⟩
  · rw [← sortW_eq s hp]
    exact x3
  · have := n3 b o e
    have h5 := (mK.trans m2 (by simp : ∀ k, k ∈ [] → k ∈ [] ∨ w.heap.size ≤ k)).size
    omega
end Go.Proofs.YthieionajemjhaaDoor
