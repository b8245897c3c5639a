/- The walk over a wheel's Go. -/
import Derived.Test.YthieionajemjhaaDoorWheelTaken
namespace Go.Proofs.YthieionajemjhaaDoor
set_option linter.unusedVariables false
set_option linter.unusedSimpArgs false
open Go.RowKit
/-- The lists of all levels below n; the wheel without them. -/
def SW.goN (s : SW) : Nat → List Int × SW
  | 0 => ([], s)
  | n + 1 => ((s.goN n).1 ++ (s.goN n).2.tookN n 8, (s.goN n).2.leaveN n 8)
theorem goN_now (s : SW) : ∀ n, (s.goN n).2.now = s.now
  | 0 => rfl
  | n + 1 => (leaveN_now _ _ _).trans (goN_now s n)
theorem goN_dues (s : SW) : ∀ n, (s.goN n).2.dues = s.dues
  | 0 => rfl
  | n + 1 => (leaveN_dues _ _ _).trans (goN_dues s n)
theorem leaveN_len (s : SW) (lv M : Nat) (hM : ∀ k, (s.lists k).length ≤ M) (n k : Nat) : ((s.leaveN lv n).lists k).length ≤ M := by
  rw [leaveN_lists]
  split
  · simp
  · exact hM k
theorem goN_len (s : SW) (M : Nat) (hM : ∀ k, (s.lists k).length ≤ M) : ∀ n, (s.goN n).1.length ≤ n * (8 * M) ∧ ∀ k, ((s.goN n).2.lists k).length ≤ M
  | 0 => ⟨by simp [SW.goN], hM⟩
  | n + 1 => by
    obtain ⟨h1, h2⟩ := goN_len s M hM n
    refine ⟨?_, fun k => leaveN_len _ n M h2 8 k⟩
    have h3 := tookN_len _ n M h2 8
    have e : (n + 1) * (8 * M) = n * (8 * M) + 8 * M := by rw [Nat.add_mul, Nat.one_mul]
    simp only [SW.goN, List.length_append]
    omega
/-- The wheel behind a Go to a later tick. -/
def SW.gone (s : SW) (t : Nat) : List Int := (s.goN (lvlW t s.now)).1 ++ (s.goN (lvlW t s.now)).2.tookN (lvlW t s.now) (digW t (lvlW t s.now) + 1)
def SW.left (s : SW) (t : Nat) : SW := { (s.goN (lvlW t s.now)).2.leaveN (lvlW t s.now) (digW t (lvlW t s.now) + 1) with now := t }
def SW.goTo (s : SW) (t : Nat) : SW := (s.left t).puts (s.gone t)
def SW.goE (s : SW) (t : Int) : Int := if t < s.now ∨ ¬ tickOk t then 2 else 0
def SW.go (s : SW) (t : Int) : SW := if t < s.now ∨ ¬ tickOk t then s else if t = s.now then s else s.goTo t.toNat
theorem WheelAt.setNow {w : World} {d mb : Nat} {G : Nat → Option Nat × Nat} {s : SW} (h : WheelAt w d mb G s) (n : Nat) : WheelAt (w.setCell ⟨d, 0, none⟩ (.int .i64 n)) d mb G { s with now := n } := by
  obtain ⟨cs, h1, h2, h3, h4, h5⟩ := h.obj
  have mc : Mod [d] w (w.setCell ⟨d, 0, none⟩ (.int .i64 n)) := (Mod.refl _ _).setCell (by simp) _
  refine ⟨⟨_, heapSet h1 0 _, by simp [h2], ?_, ?_, ?_⟩, h.map.keep mc (by simp; exact h.ne), fun k hk => (h.list k hk).keep mc (fun b hb => by simp; exact (h.own k hk b hb).1), h.ne, h.own, h.apart⟩
  · rw [Array.getElem?_setIfInBounds_self_of_lt (by omega)]
  · rw [Array.getElem?_setIfInBounds_ne (by omega)]; exact h4
  · intro k hk
    rw [Array.getElem?_setIfInBounds_ne (by omega)]; exact h5 k hk

set_option maxRecDepth 100000 in
set_option maxHeartbeats 2000000 in
theorem wheel_Go (d mb : Nat) (G : Nat → Option Nat × Nat) (s : SW) (w : World) (h : WheelAt w d mb G s) (hok : s.ok) (hM : ∀ k, (s.lists k).length ≤ 1000) (t : Int) :
    Calls Tryd.prog 35 #[.pointer (some ⟨d, 0, none⟩), .int .i64 t] w (WheelDo d mb G (.int .i64 (s.goE t)) (s.go t) w) := by
  have c0 := h.cellNow
  by_cases hlt : t < s.now
  · have hE : s.goE t = 2 := if_pos (.inl hlt)
    have hS : s.go t = s := if_pos (.inl hlt)
    rw [hE, hS]
    clear hE hS
    go_enter Tryd.func35, Tryd.ntmps35
    go_wp2
    go_ret
    exact ⟨rfl, G, Mod.refl _ _, h, fun b hb => .inl hb⟩
  by_cases hr : tickOk t
  case neg =>
    have hE : s.goE t = 2 := if_pos (.inr hr)
    have hS : s.go t = s := if_pos (.inr hr)
    have hr2 := decide_eq_false hr
    rw [hE, hS]
    clear hE hS hr
    go_enter Tryd.func35, Tryd.ntmps35
    go_wp2_with (go_at_call 55; refine (wheel_right _ _).mono ?_; rintro e w' ⟨rfl, k1, rfl⟩)
    go_ret
    exact ⟨rfl, G, (Mod.refl _ _).drewN _, h.same rfl, fun b hb => .inl hb⟩
  have hE : s.goE t = 0 := if_neg (fun hh => hh.elim hlt (fun hh => hh hr))
  have hS : s.go t = if t = s.now then s else s.goTo t.toNat := if_neg (fun hh => hh.elim hlt (fun hh => hh hr))
  have hr2 := decide_eq_true hr
  rw [hE, hS]
  clear hE hS
  by_cases he : t = s.now
  · rw [if_pos he]
    subst he
    clear hr
    go_enter Tryd.func35, Tryd.ntmps35
    go_wp2_with (go_at_call 55; refine (wheel_right _ _).mono ?_; rintro e w' ⟨rfl, k1, rfl⟩)
    go_ret
    exact ⟨rfl, G, (Mod.refl _ _).drewN _, h.same rfl, fun b hb => .inl hb⟩
  rw [if_neg he]
  obtain ⟨n, rfl⟩ := Int.eq_ofNat_of_zero_le hr.1
  have hn := hr.2
  have hT : ((n : Nat) : Int).toNat = n := by omega
  rw [hT]
  have hnow := hok.now
  have hL0 := fun w => wheel_level n s.now (by omega) hnow (by omega) w
  have hlv := lvlW_le (a := n) (b := s.now) (by omega) hnow
  have hD0 := fun w => wheel_digit n (lvlW n s.now) (by omega) hlv w
  have hdb := digW_bd n (lvlW n s.now)
  unfold SW.goTo SW.left SW.gone
  clear hr hT
  generalize digW n (lvlW n s.now) = dg at *
  generalize lvlW n s.now = top at *
  have hd0 : d ∈ wBlocks d mb G := mem_wBlocks.2 (.inl rfl)
  go_enter Tryd.func35, Tryd.ntmps35
  go_wp2_with (first
    | (go_at_call 55; refine (wheel_right _ _).mono ?_; rintro e w' ⟨rfl, k1, rfl⟩)
    | (go_at_call 61; refine (hL0 _).mono ?_; rintro e w' ⟨rfl, k2, rfl⟩))
  go_loopg [6, 37] top (fun gg out i wr => ∃ (j : Nat) (go : Option Nat) (cap : Nat) (G' : Nat → Option Nat × Nat), i = .int .i64 j ∧ j + gg = top ∧ out = .slice (lA go) (s.goN j).1.length cap ∧ LAt wr go cap (s.goN j).1 ∧ WheelAt wr d mb G' (s.goN j).2 ∧ Mod (wBlocks d mb G) w wr ∧ (∀ b, b ∈ wBlocks d mb G' → b ∈ wBlocks d mb G ∨ w.heap.size ≤ b) ∧ ∀ b, b ∈ lF go → w.heap.size ≤ b ∧ b ∉ wBlocks d mb G')
  case atStart => exact ⟨0, none, 0, G, rfl, by omega, rfl, ⟨rfl, rfl⟩, h.same rfl, (Mod.refl _ _).drewN _, fun b hb => .inl hb, by simp [lF]⟩
  case round =>
    obtain ⟨j, go, cap, G', rfl, hj, rfl, hL, h', m, hG, hgo⟩ := hrel
    obtain ⟨hgl, hM'⟩ := goN_len s 1000 hM j
    have hM2 : ∀ k, ((s.goN j).2.lists k).length ≤ 10000 := fun k => by have := hM' k; omega
    by_cases hjt : j < top
    · have hjt2 : (j : Int) < top := by omega
      have hgl2 : j * (8 * 1000) ≤ 160000 := by omega
      have htl := tookN_len _ j 1000 hM' 8
      have h8 : 8 * 1000 ≤ 8000 := by omega
      have hSS := Lib.hid (show (s.goN (j + 1)).1 = (s.goN j).1 ++ (s.goN j).2.tookN j 8 from rfl)
      have hSS2 := Lib.hid (show (s.goN (j + 1)).2 = (s.goN j).2.leaveN j 8 from rfl)
      have hTk := wheel_taken d mb G' (s.goN j).2 wr h' j 8 (by omega) (by omega) hM2
      clear hM2 hM' c0
      generalize (s.goN j).2.tookN j 8 = tk at *
      generalize (s.goN j).2.leaveN j 8 = sl at *
      generalize (s.goN j).2 = sj at *
      generalize (s.goN j).1 = lj at *
      go_wp2_with (first
        | (
          go_at_call 62
          refine hTk.mono ?_
          rintro e w2 ⟨gt, capt, G2, rfl, xt, mt, wt, gt2, gt3⟩
          have hLt := hL.keep mt (fun b hb => (hgo b hb).2)
          obtain ⟨g3, cap3, w3, hrun, x1, x2, x3⟩ := LAt.appendAll hLt xt (by omega)
          have hgoL := hL.lt
          have hdis : ∀ b, b ∈ wBlocks d mb G2 → b ∉ lF go := by
            intro b hb hb'
            rcases gt2 b hb with hb2 | hb2
            · exact (hgo b hb').2 hb2
            · have := hgoL b hb'; omega
          have hW3 := wt.keep x2 hdis
          have hms := m.size
          have hmt := mt.size
          have hg3 : ∀ b, b ∈ lF g3 → w.heap.size ≤ b ∧ b ∉ wBlocks d mb G2 := by
            intro b hb
            rcases x3 b hb with hb | hb
            · exact ⟨(hgo b hb).1, fun hb' => hdis b hb' hb⟩
            · exact ⟨by omega, fun hb' => by have := wt.lt b hb'; omega⟩
          have mB : Mod (wBlocks d mb G) w w3 := (m.trans mt (fun b hb => hG b hb)).trans x2 (fun b hb => .inr (hgo b hb).1)
          have hG2 : ∀ b, b ∈ wBlocks d mb G2 → b ∈ wBlocks d mb G ∨ w.heap.size ≤ b := by
            intro b hb
            rcases gt2 b hb with hb | hb
            · exact hG b hb
            · right; omega
          have HX := Lib.hid (And.intro hW3 (And.intro x1 (And.intro mB (And.intro hG2 hg3))))
          clear hW3 x1 mB hG2 hg3 x2 x3 hdis hLt xt mt wt gt2 gt3 hms hmt
          )
        | (
          at_builtin
          refine wpList_append_run rfl _ _ _ rfl rfl rfl (hrun _) ?_
          )
        )
      obtain ⟨hW3, x1, mB, hG2, hg3⟩ := HX.out
      go_roundg (gk - 1)
      case measure => omega
      case rel => exact ⟨j + 1, g3, cap3, G2, by go_num, by omega, by rw [hSS.out]; simp, by rw [hSS.out]; exact x1, by rw [hSS2.out]; exact hW3, mB, hG2, hg3⟩
    · have hT : j = top := by omega
      subst hT
      have hgl2 : j * (8 * 1000) ≤ 160000 := by omega
      have htl := tookN_len _ j 1000 hM' (dg + 1)
      have h8 : (dg + 1) * 1000 ≤ 8000 := by omega
      have hMl := leaveN_len _ j 1000 hM' (dg + 1)
      have hln := leaveN_dues (s.goN j).2 j (dg + 1)
      have hln2 := goN_dues s j
      have hTk := fun (w' : World) (hh : WheelAt w' d mb G' (s.goN j).2) => wheel_taken d mb G' (s.goN j).2 w' hh j (dg + 1) (by omega) (by omega) hM2
      have ec : ((dg + 1 : Nat) : Int) = (dg : Int) + 1 := by omega
      rw [ec] at hTk
      have hok2 : SW.ok { (s.goN j).2.leaveN j (dg + 1) with now := n } := ⟨by simp only; omega, fun p hp => hok.due p (by rw [← hln2, ← hln]; exact hp)⟩
      clear hM2 hM' c0 ec hln hln2
      generalize (s.goN j).2.tookN j (dg + 1) = tk at *
      generalize (s.goN j).2.leaveN j (dg + 1) = sl at *
      generalize (s.goN j).2 = sj at *
      generalize (s.goN j).1 = lj at *
      go_wp2_with (first
        | (
          go_at_call 63
          refine (hD0 _).mono ?_
          rintro e w' ⟨rfl, k3, rfl⟩
          replace hL := hL.same (w' := wr.drewN k3) rfl
          replace h' := h'.same (w' := wr.drewN k3) rfl
          replace m := m.drewN k3
          replace hTk := hTk _ h'
          generalize wr.drewN k3 = wr3 at *
          )
        | (
          go_at_call 62
          refine hTk.mono ?_
          rintro e w2 ⟨gt, capt, G2, rfl, xt, mt, wt, gt2, gt3⟩
          have hLt := hL.keep mt (fun b hb => (hgo b hb).2)
          obtain ⟨g3, cap3, w3, hrun, x1, x2, x3⟩ := LAt.appendAll hLt xt (by omega)
          have hgoL := hL.lt
          have hdis : ∀ b, b ∈ wBlocks d mb G2 → b ∉ lF go := by
            intro b hb hb'
            rcases gt2 b hb with hb2 | hb2
            · exact (hgo b hb').2 hb2
            · have := hgoL b hb'; omega
          have hW3 := wt.keep x2 hdis
          have hms := m.size
          have hmt := mt.size
          have hg3 : ∀ b, b ∈ lF g3 → w.heap.size ≤ b ∧ b ∉ wBlocks d mb G2 := by
            intro b hb
            rcases x3 b hb with hb | hb
            · exact ⟨(hgo b hb).1, fun hb' => hdis b hb' hb⟩
            · exact ⟨by omega, fun hb' => by have := wt.lt b hb'; omega⟩
          have mB : Mod (wBlocks d mb G) w w3 := (m.trans mt (fun b hb => hG b hb)).trans x2 (fun b hb => .inr (hgo b hb).1)
          have hG2 : ∀ b, b ∈ wBlocks d mb G2 → b ∈ wBlocks d mb G ∨ w.heap.size ≤ b := by
            intro b hb
            rcases gt2 b hb with hb | hb
            · exact hG b hb
            · right; omega
          have HX := Lib.hid (And.intro hW3 (And.intro x1 (And.intro mB (And.intro hG2 hg3))))
          clear hW3 x1 mB hG2 hg3 x2 x3 hdis hLt xt mt wt gt2 gt3 hms hmt
          have c3 := HX.out.1.cellNow
          have f3 := HX.out.1.free 0
          have z3 := HX.out.1.lt d (mem_wBlocks.2 (.inl rfl))
          )
        | (
          at_builtin
          refine wpList_append_run rfl _ _ _ rfl rfl rfl (hrun _) ?_
          )
        | (
          go_at_call 57
          have hP := wheel_put d mb G2 _ _ (HX.out.1.setNow n) hok2.now (dueW_le hok2) g3 cap3 (lj ++ tk) (HX.out.2.1.keep ((Mod.refl [d] _).setCell (by simp) _) (fun b hb => by
            have := (HX.out.2.2.2.2 b hb).2
            simp
            rintro rfl
            exact this (mem_wBlocks.2 (.inl rfl)))) (fun b hb => (HX.out.2.2.2.2 b hb).2) (fun k hk => by have := hMl k; simp; omega)
          rw [List.length_append] at hP
          refine hP.mono ?_
          rintro e w4 ⟨rfl, G4, m4, x4, g4⟩
          )
        )
      obtain ⟨hW3, x1, mB, hG2, hg3⟩ := HX.out
      go_ret
      have hms := mB.size
      refine ⟨rfl, G4, (mB.setCell (.inl hd0) _).trans m4 (fun b hb => hG2 b hb), x4, fun b hb => ?_⟩
      rcases g4 b hb with hb | hb
      · exact hG2 b hb
      · right; simp [sizeSet] at hb; omega
end Go.Proofs.YthieionajemjhaaDoor
