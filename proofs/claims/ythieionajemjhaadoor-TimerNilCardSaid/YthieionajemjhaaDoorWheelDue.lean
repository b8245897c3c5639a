/- The walk over WheelDue: one thing that is due then. -/
import Derived.Test.YthieionajemjhaaDoorWheelInv2
namespace Go.Proofs.YthieionajemjhaaDoor
set_option linter.unusedVariables false
set_option linter.unusedSimpArgs false
open Go.RowKit

theorem goTo_dues (s : SW) (t : Nat) : (s.goTo t).dues = s.dues := by
  unfold SW.goTo
  rw [puts_dues]
  have e : (s.left t).dues = ((s.goN (lvlW t s.now)).2.leaveN (lvlW t s.now) (digW t (lvlW t s.now) + 1)).dues := rfl
  rw [e, leaveN_dues, goN_dues]
theorem go_dues (s : SW) (t : Int) : (s.go t).dues = s.dues := by
  unfold SW.go
  split
  · rfl
  · split
    · rfl
    · exact goTo_dues s _
theorem go_now {s : SW} {t : Nat} (h1 : s.now ≤ t) (h2 : t ≤ 1152921504606846976) : (s.go t).now = t := by
  unfold SW.go
  rw [if_neg (by unfold tickOk; omega)]
  split
  · omega
  · unfold SW.goTo
    rw [puts_now]
    show ((t : Int)).toNat = t
    omega
theorem goE_ok {s : SW} {t : Nat} (h1 : s.now ≤ t) (h2 : t ≤ 1152921504606846976) : s.goE t = 0 := by
  unfold SW.goE
  rw [if_neg (by unfold tickOk; omega)]
/-- The wheel holds thing 7 alone. -/
def Cur (w0 : World) (d mb due n : Nat) (u : World) : Prop := ∃ G s, WheelAt u d mb G s ∧ s.Inv ∧ s.dues = [(7, due)] ∧ s.now = n ∧ Mod [] w0 u ∧ ∀ b, b ∈ wBlocks d mb G → w0.heap.size ≤ b
theorem Cur.keep {w0 : World} {d mb due n : Nat} {u u' : World} (h : Cur w0 d mb due n u) (m : Mod [] u u') : Cur w0 d mb due n u' := by
  obtain ⟨G, s, h1, h2, h3, h4, h5, h6⟩ := h
  exact ⟨G, s, h1.keep m (by simp), h2, h3, h4, h5.trans m (by simp), h6⟩
theorem cur_Go {w0 : World} {d mb due n t : Nat} {u : World} (h : Cur w0 d mb due n u) (h1 : n ≤ t) (h2 : t ≤ 1152921504606846976) :
    Calls Tryd.prog 35 #[.pointer (some ⟨d, 0, none⟩), .int .i64 t] u (fun e u' => e = .returned (.int .i64 0) ∧ Cur w0 d mb due t u') := by
  obtain ⟨G, s, a1, a2, a3, a4, a5, a6⟩ := h
  have hlen := fun k => a2.len k
  rw [a3] at hlen
  have hG := wheel_Go d mb G s u a1 a2.ok (fun k => by have := hlen k; simp at this; omega) t
  rw [goE_ok (by omega) h2] at hG
  refine hG.mono ?_
  rintro e u' ⟨rfl, G', m, x, g⟩
  have hs := a5.size
  exact ⟨rfl, G', _, x, a2.go t, by rw [go_dues, a3], go_now (by omega) h2, a5.trans m (fun b hb => .inr (a6 b hb)), fun b hb => (g b hb).elim (a6 b) (by omega)⟩
theorem one_ready {s : SW} (h : s.Inv) {due : Nat} (hd : s.dues = [(7, due)]) : s.lists 168 = if due ≤ s.now then [7] else [] := by
  have hp := h.ready
  rw [hd] at hp
  by_cases hc : due ≤ s.now
  · rw [if_pos hc]
    simp [hc] at hp
    exact hp
  · rw [if_neg hc]
    simp [hc] at hp
    exact hp
theorem cur_Due {w0 : World} {d mb due n : Nat} {u : World} (h : Cur w0 d mb due n u) :
    Calls Tryd.prog 36 #[.pointer (some ⟨d, 0, none⟩)] u (fun e u' => ∃ a c, e = .returned (.slice a (if due ≤ n then 1 else 0 : Nat) c) ∧ Cur w0 d mb due n u' ∧ IsInts u' a (if due ≤ n then [7] else [])) := by
  have h' := h
  obtain ⟨G, s, a1, a2, a3, a4, a5, a6⟩ := h
  have hr := one_ready a2 a3
  rw [a4] at hr
  have hD := wheel_Due d mb G s u a1 (by rw [hr]; split <;> simp)
  refine hD.mono ?_
  rintro e u' ⟨a, c, rfl, m, i, _⟩
  refine ⟨a, c, ?_, h'.keep m, ?_⟩
  · rw [hr]; split <;> rfl
  · rw [hr] at i
    by_cases hc : due ≤ n
    · rw [if_pos hc] at i ⊢
      have : sortW s [7] = [7] := List.perm_singleton.1 (sortW_perm s [7])
      rwa [this] at i
    · rw [if_neg hc] at i ⊢
      have : sortW s [] = [] := List.perm_nil.1 (sortW_perm s [])
      rwa [this] at i
def onV (n z : Int) : Int := if z < 0 ∨ 1152921504606846976 - n < z then n else n + z
theorem onV_nat {n : Nat} {z : Int} (hn : n ≤ 1152921504606846976) : ∃ m : Nat, onV n z = m ∧ n ≤ m ∧ m ≤ 1152921504606846976 := by
  unfold onV
  split
  · exact ⟨n, rfl, by omega, hn⟩
  · exact ⟨(n + z).toNat, by omega, by omega, by omega⟩
end Go.Proofs.YthieionajemjhaaDoor
