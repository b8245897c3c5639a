/- The walk over a wheel's taken. -/
import Derived.Test.YthieionajemjhaaDoorWheelGo
namespace Go.Proofs.YthieionajemjhaaDoor
set_option linter.unusedVariables false
set_option linter.unusedSimpArgs false
open Go.RowKit
theorem tookN_len (s : SW) (lv M : Nat) (hM : ∀ k, (s.lists k).length ≤ M) : ∀ n, (s.tookN lv n).length ≤ n * M
  | 0 => by simp [SW.tookN]
  | n + 1 => by
    have := tookN_len s lv M hM n
    have := hM (lv * 8 + n)
    simp only [SW.tookN, List.length_append, Nat.add_mul]
    omega
/-- What taken hands back: a new list of the call's own. -/
def TakenDo (d mb : Nat) (G : Nat → Option Nat × Nat) (l : List Int) (s : SW) (w : World) (e : Ending) (w' : World) : Prop :=
  ∃ go cap G', e = .returned (.slice (lA go) l.length cap) ∧ LAt w' go cap l ∧ Mod (wBlocks d mb G) w w' ∧ WheelAt w' d mb G' s ∧ (∀ b, b ∈ wBlocks d mb G' → b ∈ wBlocks d mb G ∨ w.heap.size ≤ b) ∧ ∀ b, b ∈ lF go → w.heap.size ≤ b ∧ b ∉ wBlocks d mb G'
set_option maxRecDepth 100000 in
set_option maxHeartbeats 2000000 in
theorem wheel_taken (d mb : Nat) (G : Nat → Option Nat × Nat) (s : SW) (w : World) (h : WheelAt w d mb G s) (lv n : Nat) (hlv : lv ≤ 20) (hn : n ≤ 8) (hM : ∀ k, (s.lists k).length ≤ 10000) :
    Calls Tryd.prog 62 #[.pointer (some ⟨d, 0, none⟩), .int .i64 lv, .int .i64 n] w (TakenDo d mb G (s.tookN lv n) (s.leaveN lv n) w) := by
  go_enter Tryd.func62, Tryd.ntmps62
  go_wp2
  go_loopg [7, 11] n (fun gg out i wr => ∃ (j : Nat) (go : Option Nat) (cap : Nat) (G' : Nat → Option Nat × Nat), i = .int .i64 j ∧ j + gg = n ∧ out = .slice (lA go) (s.tookN lv j).length cap ∧ LAt wr go cap (s.tookN lv j) ∧ WheelAt wr d mb G' (s.leaveN lv j) ∧ Mod (wBlocks d mb G) w wr ∧ (∀ b, b ∈ wBlocks d mb G' → b ∈ wBlocks d mb G ∨ w.heap.size ≤ b) ∧ ∀ b, b ∈ lF go → w.heap.size ≤ b ∧ b ∉ wBlocks d mb G')
  case atStart => exact ⟨0, none, 0, G, rfl, by omega, rfl, ⟨rfl, rfl⟩, h, Mod.refl _ _, fun b hb => .inl hb, by simp [lF]⟩
  case round =>
    obtain ⟨j, go, cap, G', rfl, hj, rfl, hL, h', m, hG, hgo⟩ := hrel
    by_cases hlt : j < n
    · have hk : lv * 8 + j ≤ 168 := by omega
      have hc0 := h'.cellList hk
      have hl0 := h'.list _ hk
      have hll : (s.leaveN lv j).lists (lv * 8 + j) = s.lists (lv * 8 + j) := by rw [leaveN_lists, if_neg (by omega)]
      have hlen := tookN_len s lv 10000 hM j
      have hlen2 := hM (lv * 8 + j)
      have hlen3 : j * 10000 ≤ 80000 := by omega
      have hT := Lib.hid (show s.tookN lv (j + 1) = s.tookN lv j ++ s.lists (lv * 8 + j) from rfl)
      have hset := fun (S : List Nat) (w1 : World) (m : Mod S wr w1) (hS) => h'.setList hk m hS (g' := none) (cap' := 0) (l' := []) ⟨rfl, rfl⟩ (by simp [lF])
      have hV := Lib.hid (show s.leaveN lv (j + 1) = { s.leaveN lv j with lists := upd (s.leaveN lv j).lists (lv * 8 + j) [] } from rfl)
      rw [hll] at hl0 hc0
      obtain ⟨cs, hcs, _⟩ := h'.obj
      obtain ⟨go', cap', w2, hrun, x1, x2, x3⟩ := LAt.appendAll hL hl0 (by omega)
      have hnb : ∀ b, b ∈ lF go → b ∉ wBlocks d mb G' := fun b hb => (hgo b hb).2
      have hdn : d ∉ lF go := fun hd => hnb d hd (mem_wBlocks.2 (.inl rfl))
      have hcs2 := x2.keep hcs hdn
      have c2 := x2.at hc0 hdn
      have hW := hset (lF go) w2 x2 (fun b hb => ⟨fun e => hnb b hb (mem_wBlocks.2 (.inl e)), fun e => hnb b hb (mem_wBlocks.2 (.inr (.inl e))), fun i hi _ hbi => hnb b hb (mem_wBlocks.2 (.inr (.inr ⟨i, hi, hbi⟩)))⟩)
      clear hset hlen hlen2 hlen3 hll
      have ha : 2 + (lv * 8 + j) = 2 + lv * 8 + j := by omega
      rw [ha] at hc0 c2 hW
      have f2 := freeAt hcs2 (2 + lv * 8 + j)
      have z2 := ltOf hcs2
      have hj8 : j < 8 := by omega
      clear ha
      have HX := Lib.hid (And.intro hW (And.intro x1 (And.intro x2 x3)))
      clear hW x1 x2 x3
      generalize s.tookN lv j = lj at *
      generalize (s.lists (lv * 8 + j)) = sj at *
      go_wp2_with (first
        | (
          at_builtin
          refine wpList_append_run rfl _ _ _ rfl rfl rfl (hrun _) ?_
          )
        )
      obtain ⟨hW, x1, x2, x3⟩ := HX.out
      have hms := m.size
      have hd0 : d ∈ wBlocks d mb G := mem_wBlocks.2 (.inl rfl)
      have hgo' : ∀ b, b ∈ lF go' → w.heap.size ≤ b ∧ b ∉ wBlocks d mb G' := by
        intro b hb
        rcases x3 b hb with hb | hb
        · exact hgo b hb
        · exact ⟨by omega, fun hb' => by have := h'.lt b hb'; omega⟩
      have mB : ∀ v, Mod (wBlocks d mb G) w (w2.setCell ⟨d, 2 + lv * 8 + j, none⟩ v) := fun v => (m.trans x2 (fun b hb => .inr (hgo b hb).1)).setCell (.inl hd0) v
      have hdg : ∀ b, b ∈ lF go' → b ∉ [d] := by
        intro b hb
        have := (hgo' b hb).2
        simp
        rintro rfl
        exact this (mem_wBlocks.2 (.inl rfl))
      have hxx : ∀ v, LAt (w2.setCell ⟨d, 2 + lv * 8 + j, none⟩ v) go' cap' (lj ++ sj) := fun v => x1.keep ((Mod.refl [d] _).setCell (by simp) _) hdg
      go_roundg (gk - 1)
      case measure => omega
      case rel =>
        refine ⟨j + 1, go', cap', _, by go_num, by omega, by rw [hT.out]; simp, by rw [hT.out]; exact hxx _, by rw [hV.out]; exact hW, mB _, fun b hb => ?_, fun b hb => ⟨(hgo' b hb).1, fun hb' => ?_⟩⟩
        · rcases wBlocks_upd hb with hb | hb
          · exact hG b hb
          · simp [lF] at hb
        · rcases wBlocks_upd hb' with hb' | hb'
          · exact (hgo' b hb).2 hb'
          · simp [lF] at hb'
    · have hT : j = n := by omega
      subst hT
      go_wp2
      go_ret
      exact ⟨go, cap, G', rfl, hL, m, h', hG, hgo⟩
end Go.Proofs.YthieionajemjhaaDoor
