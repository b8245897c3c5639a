/- The walk over package davitlaw13's known, and over WheelNil. -/
import Derived.Test.YthieionajemjhaaDoorWheelInts
import Derived.Test.YthieionajemjhaaDoorWheelNew
import Derived.Test.YthieionajemjhaaDoorArgs
namespace Go.Proofs.YthieionajemjhaaDoor
set_option linter.unusedVariables false
set_option linter.unusedSimpArgs false
open Go.RowKit
theorem sw0_ok {t : Nat} (h : tickOk t) : (sw0 t).ok := ⟨by have := h.2; show t ≤ _; omega, by simp [sw0]⟩
theorem SW.ok.add {s : SW} (h : s.ok) (id due : Int) : (s.add id due).ok := by
  unfold SW.add
  split
  · rename_i he
    refine (h.setDue id ?_).put id
    unfold SW.addE at he
    by_cases hr : tickOk due
    · have := hr.1; have := hr.2; omega
    · rw [if_pos hr] at he; omega
  · exact h
theorem SW.ok.go {s : SW} (h : s.ok) (t : Int) : (s.go t).ok := by
  unfold SW.go
  split
  · exact h
  · rename_i hn
    split
    · exact h
    · have hr : tickOk t := by
        by_cases hr : tickOk t
        · exact hr
        · exact absurd (.inr hr) hn
      refine SW.ok.puts ⟨?_, fun p hp => ?_⟩ _
      · show t.toNat ≤ _; have := hr.2; omega
      · refine h.due p ?_
        have hp' : p ∈ ((s.goN (lvlW t.toNat s.now)).2.leaveN (lvlW t.toNat s.now) (digW t.toNat (lvlW t.toNat s.now) + 1)).dues := hp
        rwa [leaveN_dues, goN_dues] at hp'
theorem add_len {s : SW} {M : Nat} (h : ∀ k, (s.lists k).length ≤ M) (id due : Int) (k : Nat) : ((s.add id due).lists k).length ≤ M + 1 := by
  unfold SW.add
  split
  · unfold SW.put upd
    simp only
    split
    · have := h k
      simp only [List.length_append, List.length_cons, List.length_nil]
      have := h (idxW (s.setDue id due.toNat).now (dueW (s.setDue id due.toNat) id))
      show (s.lists _).length + 1 ≤ M + 1
      omega
    · have := h k
      show (s.lists k).length ≤ M + 1
      omega
  · have := h k; omega
theorem go_len {s : SW} (hok : s.ok) {M : Nat} (h : ∀ k, (s.lists k).length ≤ M) (t : Int) (k : Nat) : ((s.go t).lists k).length ≤ M + 168 * M := by
  unfold SW.go
  split
  · have := h k; omega
  · rename_i hn
    split
    · have := h k; omega
    · have hr : tickOk t := by
        by_cases hr : tickOk t
        · exact hr
        · exact absurd (.inr hr) hn
      have htop : lvlW t.toNat s.now ≤ 20 := lvlW_le (by have := hr.2; omega) hok.now
      obtain ⟨h1, h2⟩ := goN_len s M h (lvlW t.toNat s.now)
      have h3 := tookN_len _ (lvlW t.toNat s.now) M h2 (digW t.toNat (lvlW t.toNat s.now) + 1)
      have hd := digW_bd t.toNat (lvlW t.toNat s.now)
      unfold SW.goTo
      refine Nat.le_trans (puts_len _ _ _) ?_
      have h4 : ((s.left t.toNat).lists k).length ≤ M := by
        show (((s.goN (lvlW t.toNat s.now)).2.leaveN (lvlW t.toNat s.now) (digW t.toNat (lvlW t.toNat s.now) + 1)).lists k).length ≤ M
        exact leaveN_len _ _ M h2 _ k
      have h5 : (s.gone t.toNat).length ≤ 20 * (8 * M) + 8 * M := by
        unfold SW.gone
        rw [List.length_append]
        have e1 : lvlW t.toNat s.now * (8 * M) ≤ 20 * (8 * M) := Nat.mul_le_mul_right _ htop
        have e2 : (digW t.toNat (lvlW t.toNat s.now) + 1) * M ≤ 8 * M := Nat.mul_le_mul_right _ (by omega)
        omega
      omega
def K1 : SW := (sw0 5).add 1 9
def K2 : SW := K1.add 2 7
def K3 : SW := K2.go 8
theorem K3_dues : K3.dues = [(1, 9), (2, 7)] := by kernel_rfl
theorem K3_ready : K3.lists 168 = [2] := by kernel_rfl
theorem K2_goE : K2.goE 8 = 0 := by kernel_rfl
theorem K3_due2 : dueW K3 2 = 7 := by kernel_rfl
theorem K3_due1 : dueW K3 1 = 9 := by kernel_rfl

theorem K3_sortR : sortW K3 (K3.lists 168) = [2] := by
  rw [K3_ready]
  exact List.perm_singleton.1 (sortW_perm K3 [2])
theorem K3_sortL : sortW K3 (K3.dues.map (·.1)) = [2, 1] := by
  rw [K3_dues]
  refine sorted_unique K3 ((sortW_perm K3 [1, 2]).trans (List.Perm.swap 2 1 [])) (sortW_sorted _ _) ?_
  refine List.pairwise_cons.2 ⟨fun a ha => ?_, List.pairwise_singleton _ _⟩
  have : a = 1 := by simpa using ha
  subst this
  rw [leW_iff, K3_due1, K3_due2]
  omega
theorem K3_firstK : K3.firstK = 168 := if_pos (by rw [K3_ready]; simp)
theorem K3_nextE : K3.nextE = 0 := if_neg (by rw [K3_dues]; simp)
theorem K3_nextV : K3.nextV = 7 := by
  unfold SW.nextV SW.firstL
  rw [if_neg (by rw [K3_dues]; simp), K3_firstK, K3_sortR]
  exact K3_due2
theorem K1_ok : K1.ok := (sw0_ok (by decide)).add _ _
theorem K2_ok : K2.ok := K1_ok.add _ _
theorem K1_len (k : Nat) : (K1.lists k).length ≤ 1 := add_len (s := sw0 5) (M := 0) (fun k => Nat.le_refl _) _ _ k
theorem K2_len (k : Nat) : (K2.lists k).length ≤ 2 := add_len K1_len _ _ k
theorem K3_len (k : Nat) : (K3.lists k).length ≤ 338 := go_len K2_ok K2_len _ k
end Go.Proofs.YthieionajemjhaaDoor
