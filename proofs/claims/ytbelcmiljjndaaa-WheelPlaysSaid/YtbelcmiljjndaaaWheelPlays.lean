/- The law WheelPlays: its walk comes to true at every input. No condition. -/
import Derived.Test.YtbelcmiljjndaaaWheelDuo
import Derived.Test.YtbelcmiljjndaaaAct13
import Derived.Deep.RegionHeld3
namespace Go.Proofs.Ytbelcmiljjndaaa
set_option linter.unusedVariables false
set_option linter.unusedSimpArgs false
open Go.RowKit

theorem getD_set_true {z : Array Bool} {i j : Nat} (h : z.getD j true = true) : (z.setIfInBounds i true).getD j true = true := by
  by_cases e : i = j
  · subst e; exact done_self _ _
  · rw [done_ne _ e]; exact h
theorem calm_loadS {P : Program} {ops : Array Oper} {md : Region.Mode} {C : Array Bool → World → Prop} {Q : Act → Prop} {i : Nat} {o : Oper} {rest : List Oper} {a : Act} {v : Value} (hw : Region.wanted o (yielded ops a.tmps) = true) (hr : ∀ s w, s.getD i true = false → UpTo md ops i s → C s w → (execOp a.eval o).run P w = .ok (.value v) w) (hm : CalmSkip C i) (h : wpCalm P md ops C Q (i + 1) rest (a.put o.dst v)) : wpCalm P md ops C Q i (o :: rest) a := by
  unfold wpCalm
  rw [if_pos hw]
  exact ⟨v, fun s w hs hW hc => by rw [hr s w hs hW hc]; exact ⟨rfl, hm s w hs hc⟩, h⟩
set_option maxRecDepth 100000 in
set_option maxHeartbeats 8000000 in
theorem WheelPlays_walk (w : World) (now : Int) (_hn : (Lit.int .i64 now).wf = true) (a : Option Addr) (len cap : Nat) (A : Nat → Act13) (hA : IsArr 3 Act13.vals Act13.ok w a len cap A) :
    Calls Try.prog 10 #[.int .i64 now, .slice a len cap] w (Rets (.bool true) [] w fun _ => True) := by
  have hlc := hA.1
  have hcm := hA.2.1
  unfold maxLen at hcm
  by_cases hT : tickOk now
  case neg =>
    have hN := wheel_New_no now hT
    have hR := rwheel_New_no now hT
    clear hA hT
    go_enter Try.func10, Try.ntmps10
    go_wp2_with (first
      | (go_at_call 42; refine (hN _).mono ?_; rintro e w' ⟨rfl, k1, rfl⟩)
      | (go_at_call 49; refine (hR _).mono ?_; rintro e w' ⟨rfl, k2, rfl⟩)
      | (go_at_call 43; refine (wheel_known _).mono ?_; rintro e wk ⟨rfl, mk, _⟩))
    go_ret
    exact Rets.of rfl mk.undrewN trivial
  have hT0 := hT.1
  obtain ⟨t, rfl⟩ := Int.eq_ofNat_of_zero_le hT0
  have hN := fun w => wheel_New t hT w
  have hR := fun w => rwheel_New t hT w
  have hS0 := sim0 hT
  clear hT0 hT _hn
  go_enter Try.func10, Try.ntmps10
  go_wp2_with (first
    | (
      go_at_call 42
      refine (hN _).mono ?_
      rintro e w1 ⟨d, mb, rfl, m1, x1, hd, hmb⟩
      )
    | (
      go_at_call 49
      refine (hR _).mono ?_
      rintro e w2 ⟨r, rfl, x2, m2, hr⟩
      have hs1 := m1.size
      have hlt1 := x1.lt
      have y2 : Duo w d mb r [] (sw0 t) t [] w2 := ⟨_, none, 0, x1.keep m2 (by simp), x2, fun b hb => ⟨by
        rcases mem_wBlocks.1 hb with rfl | rfl | ⟨k, _, hb⟩
        · exact hd
        · exact hmb
        · simp [lF] at hb, fun hb' => by
        have := hlt1 b hb
        simp [rwBlocks, rF] at hb'
        omega⟩, fun b hb => by simp [rwBlocks, rF] at hb; omega, m1.trans m2 (by simp), by simp⟩
      clear x1 m1 m2 x2 hr hs1 hlt1 hd hmb
      )
    )
  clear hN hR
  go_loopg [9] len (fun gg i wr => ∃ (k : Nat) (s : SW) (L : List (Int × Nat)), i = .int .i64 k ∧ k + gg = len ∧ Duo w d mb r [] s s.now L wr ∧ Sim s L ∧ L.length ≤ k)
  case atStart => exact ⟨0, _, _, rfl, by omega, y2, hS0, by simp⟩
  case round =>
    clear y2 hS0
    obtain ⟨k, s, L, rfl, hk, x, hs, hL⟩ := hrel
    by_cases hkl : k < len ∧ k < 120
    · obtain ⟨hkl, hk2⟩ := hkl
      obtain ⟨ba, off, rfl, hok, hba, hc⟩ := cellsOf_arr hA x.mod hkl
      have c0 := hc 0 (by omega)
      have c1 := hc 1 (by omega)
      have c2 := hc 2 (by omega)
      clear hc hA
      generalize A k = ak at *
      obtain ⟨kind, id, n⟩ := ak
      simp only [Act13.vals, List.getElem?_cons_zero, List.getElem?_cons_succ, Nat.add_zero] at c0 c1 c2
      obtain ⟨o1, o2, o3⟩ := hok
      simp only at o1 o2 o3
      have z1 : In64 kind := i64bd o1
      clear o1 o3
      obtain ⟨z2, z3⟩ := z1
      have hk3 : decide ((k : Int) < 120) = true := decide_eq_true (by omega)
      have xa := x.alloc (Obj.cells #[.int .i64 kind, .int .i64 id, .int .i64 n] 84)
      have hL2 : L.length ≤ 200 := by omega
      clear x
      by_cases e0 : kind.tmod 4 = 0
      · have q0 : (kind.tmod 4 == 0) = true := by simp [e0]
        clear e0
        go_wp2_with fail
        clear c0 c1 c2
        generalize hO : wr.alloc (Obj.cells #[.int .i64 kind, .int .i64 id, .int .i64 n] 84) = w3 at *
        clear hO
        obtain ⟨X, hX⟩ : ∃ X : List (Nat × Obj), X = [(wr.heap.size, Obj.cells #[.int .i64 kind, .int .i64 id, .int .i64 n] 84)] := ⟨_, rfl⟩
        have hmem : (wr.heap.size, Obj.cells #[.int .i64 kind, .int .i64 id, .int .i64 n] 84) ∈ X := by rw [hX]; simp
        rw [← hX] at xa
        generalize wr.heap.size = bb at *
        clear hX
        have hact : ∀ u s now L, Duo w d mb r X s now L u → u.cell? ⟨bb, 1, none⟩ = some (.int .i64 id) ∧ u.cell? ⟨bb, 2, none⟩ = some (.int .i64 n) := fun u s now L h => ⟨cellAt (h.held hmem) 1, cellAt (h.held hmem) 2⟩
        have xb : Duo w d mb r X s s.now L w3.drew := xa.drewN 1
        have cc := hact _ _ _ _ xb
        go_region_held3 (fun u => u.cell? ⟨bb, 1, none⟩ = some (.int .i64 id) ∧ u.cell? ⟨bb, 2, none⟩ = some (.int .i64 n)) (assumption) (first
          | (
            go_at_call 44
            refine (duo_Add hs hL2 id n (by exact xb)).mono ?_
            rintro e u1 ⟨rfl, y1⟩
            have cc1 := hact _ _ _ _ y1
            )
          | (
            go_at_call 50
            refine (duo_rAdd hL2 id n (by exact y1)).mono ?_
            rintro e u2 ⟨rfl, y3⟩
            have cc2 := hact _ _ _ _ y3
            )
          )
        have y4 : Duo w d mb r X (s.add id n) (s.add id n).now (radd L id n) u2 := by rw [add_now]; exact y3
        clear y1 y3 cc1 cc2
        have hs9 : Sim (s.add id n) (radd L id n) := hs.add o2 n
        have hl9 : (radd L id n).length ≤ k + 1 := by have := radd_len L id n; omega
        clear xa xb cc
        generalize s.add id n = s' at *
        generalize radd L id n = L' at *
        have hsS := hs9
        have hlS := hl9
        have y0 := y4
        clear y4
        obtain ⟨T1, T2, T3, T4, T5, T6, T7, T8, T9, T10⟩ := duo_tells (w0 := w) (d := d) (mb := mb) (r := r) (X := X) hsS (by omega) id
        have hI1 : ∀ u a1 c1 a2 c2, IsInts u a1 (idsOf (dueL s'.now L')) → IsInts u a2 (idsOf (dueL s'.now L')) → Calls Try.prog 48 #[.slice a1 (idsOf (dueL s'.now L')).length c1, .slice a2 (idsOf (dueL s'.now L')).length c2] u (Ret (.bool true) u) := by
          intro u a1 c1 a2 c2 h1 h2
          have hle : (idsOf (dueL s'.now L')).length ≤ 1000000 := by
            have : (dueL s'.now L').length ≤ L'.length := List.length_filter_le _ _
            unfold idsOf
            rw [List.length_map]
            omega
          have := masks_Ints a1 a2 c1 c2 _ _ u h1 h2 hle hle
          rwa [decide_eq_true rfl] at this
        have hI2 : ∀ u a1 c1 a2 c2, IsInts u a1 (idsOf L') → IsInts u a2 (idsOf L') → Calls Try.prog 48 #[.slice a1 (idsOf L').length c1, .slice a2 (idsOf L').length c2] u (Ret (.bool true) u) := by
          intro u a1 c1 a2 c2 h1 h2
          have hle : (idsOf L').length ≤ 1000000 := by
            unfold idsOf
            rw [List.length_map]
            omega
          have := masks_Ints a1 a2 c1 c2 _ _ u h1 h2 hle hle
          rwa [decide_eq_true rfl] at this
        obtain ⟨gL, cL, hcL⟩ := y0.cellL
        have hcN := y0.cellNow
        have hct := hact _ _ _ _ y0
        have HY := Lib.hid (And.intro hsS hlS)
        clear hsS hlS
        generalize idsOf (dueL s'.now L') = li1 at *
        generalize idsOf L' = li2 at *
        generalize rnextV L' = nv at *
        generalize rnextE L' = ne at *
        generalize (dget L' id).getD 0 = wv at *
        generalize (dget L' id).isSome = wb at *
        go_wp2_with (first
          | (
            go_at_call 54
            refine (T1 _ (by exact y0)).mono ?_
            rintro e v1 ⟨rfl, m1⟩
            have y1 := y0.keep m1
            )
          | (
            go_at_call 55
            refine (T2 _ (by exact y1)).mono ?_
            rintro e v2 ⟨rfl, m2⟩
            have y2 := y1.keep m2
            have b2 := (hact _ _ _ _ y2).1
            )
          | (
            go_at_call 56
            refine (T3 _ (by exact y2)).mono ?_
            rintro e v3 ⟨rfl, m3⟩
            have y3 := y2.keep m3
            have b3 := (hact _ _ _ _ y3).1
            )
          | (
            go_at_call 57
            refine (T4 _ (by exact y3)).mono ?_
            rintro e v4 ⟨rfl, m4⟩
            have y4 := y3.keep m4
            )
          )
        have M4 := ((m1.trans m2 (by simp)).trans m3 (by simp)).trans m4 (by simp)
        have y5 := y4.drewN 1
        have d5 : v4.drew.cell? ⟨r, 0, none⟩ = some (.int .i64 s'.now) ∧ v4.drew.cell? ⟨r, 1, none⟩ = some (.slice (rA gL) L'.length cL) := ⟨(M4.drewN 1).at hcN (by simp), (M4.drewN 1).at hcL (by simp)⟩
        clear b2 b3 m1 m2 m3 m4 M4 y0 y1 y2 y3 y4 hcL hcN hct
        go_region_held3 (fun u => u.cell? ⟨r, 0, none⟩ = some (.int .i64 s'.now) ∧ u.cell? ⟨r, 1, none⟩ = some (.slice (rA gL) L'.length cL)) (assumption) (first
          | (
            go_at_call 58
            refine (T5 _ (by exact y5)).mono ?_
            rintro e v6 ⟨rfl, m6⟩
            have y6 := y5.keep m6
            have d6 := And.intro (m6.at d5.1 (by simp)) (m6.at d5.2 (by simp))
            )
          | (
            go_at_call 59
            refine (T6 _ (by exact y6)).mono ?_
            rintro e v7 ⟨rfl, m7⟩
            have y7 := y6.keep m7
            have d7 := And.intro (m7.at d6.1 (by simp)) (m7.at d6.2 (by simp))
            )
          | (
            go_at_call 47
            refine (T7 _ (by exact y7)).mono ?_
            rintro e v8 ⟨a8, c8, rfl, m8, i8⟩
            have y8 := y7.keep m8
            have d8 := And.intro (m8.at d7.1 (by simp)) (m8.at d7.2 (by simp))
            )
          | (
            go_at_call 60
            refine (T8 _ (by exact y8)).mono ?_
            rintro e v9 ⟨a9, c9, rfl, m9, i9⟩
            have y9 := y8.keep m9
            have d9 := And.intro (m9.at d8.1 (by simp)) (m9.at d8.2 (by simp))
            have j8 := i8.keep m9 (by simp)
            )
          | (
            go_at_call 48
            have hx := j8
            refine (hI1 _ _ _ _ _ (by exact j8) (by exact i9)).mono ?_
            rintro e v10 ⟨rfl, k10, rfl⟩
            have y10 := y9.drewN k10
            have d10 : (v9.drewN k10).cell? ⟨r, 0, none⟩ = some (.int .i64 s'.now) ∧ (v9.drewN k10).cell? ⟨r, 1, none⟩ = some (.slice (rA gL) L'.length cL) := d9
            clear hx j8
            )
          | (
            go_at_call 61
            refine (T9 _ (by exact y10)).mono ?_
            rintro e v11 ⟨a11, c11, rfl, m11, i11⟩
            have y11 := y10.keep m11
            have d11 := And.intro (m11.at d10.1 (by simp)) (m11.at d10.2 (by simp))
            )
          | (
            go_at_call 62
            refine (T10 _ (by exact y11)).mono ?_
            rintro e v12 ⟨a12, c12, rfl, m12, i12⟩
            have y12 := y11.keep m12
            have d12 := And.intro (m12.at d11.1 (by simp)) (m12.at d11.2 (by simp))
            have j11 := i11.keep m12 (by simp)
            )
          | (
            go_at_call 48
            refine (hI2 _ _ _ _ _ (by exact j11) (by exact i12)).mono ?_
            rintro e v13 ⟨rfl, k13, rfl⟩
            have y13 := y12.drewN k13
            have d13 : (v12.drewN k13).cell? ⟨r, 0, none⟩ = some (.int .i64 s'.now) ∧ (v12.drewN k13).cell? ⟨r, 1, none⟩ = some (.slice (rA gL) L'.length cL) := d12
            )
          )
        go_wp2
        go_roundg (gk - 1)
        case measure => omega
        case rel => exact ⟨k + 1, s', L', by go_num, by omega, y13.drop, HY.out.1, HY.out.2⟩
      by_cases e1 : kind.tmod 4 = 1
      · have q0 : (kind.tmod 4 == 0) = false := by simp [e1]
        have q1 : (kind.tmod 4 == 1) = true := by simp [e1]
        clear e0 e1
        go_wp2_with fail
        clear c0 c1 c2
        generalize hO : wr.alloc (Obj.cells #[.int .i64 kind, .int .i64 id, .int .i64 n] 84) = w3 at *
        clear hO
        obtain ⟨X, hX⟩ : ∃ X : List (Nat × Obj), X = [(wr.heap.size, Obj.cells #[.int .i64 kind, .int .i64 id, .int .i64 n] 84)] := ⟨_, rfl⟩
        have hmem : (wr.heap.size, Obj.cells #[.int .i64 kind, .int .i64 id, .int .i64 n] 84) ∈ X := by rw [hX]; simp
        rw [← hX] at xa
        generalize wr.heap.size = bb at *
        clear hX
        have hact : ∀ u s now L, Duo w d mb r X s now L u → u.cell? ⟨bb, 1, none⟩ = some (.int .i64 id) ∧ u.cell? ⟨bb, 2, none⟩ = some (.int .i64 n) := fun u s now L h => ⟨cellAt (h.held hmem) 1, cellAt (h.held hmem) 2⟩
        have xb : Duo w d mb r X s s.now L w3.drew := xa.drewN 1
        have cc := hact _ _ _ _ xb
        go_region_held3 (fun u => u.cell? ⟨bb, 1, none⟩ = some (.int .i64 id) ∧ u.cell? ⟨bb, 2, none⟩ = some (.int .i64 n)) (assumption) (first
          | (
            go_at_call 51
            refine (duo_Drop hs id (by exact xb)).mono ?_
            rintro e u1 ⟨rfl, y1⟩
            have cc1 := hact _ _ _ _ y1
            )
          | (
            go_at_call 52
            refine (duo_rDrop hL2 id (by exact y1)).mono ?_
            rintro e u2 ⟨rfl, y3⟩
            have cc2 := hact _ _ _ _ y3
            )
          )
        have y4 : Duo w d mb r X (s.drop id) (s.drop id).now (ddel L id) u2 := by rw [drop_now]; exact y3
        clear y1 y3 cc1 cc2
        have hs9 : Sim (s.drop id) (ddel L id) := hs.drop id
        have hl9 : (ddel L id).length ≤ k + 1 := by have := ddel_len L id; omega
        clear xa xb cc
        generalize s.drop id = s' at *
        generalize ddel L id = L' at *
        have hsS := hs9
        have hlS := hl9
        have y0 := y4
        clear y4
        obtain ⟨T1, T2, T3, T4, T5, T6, T7, T8, T9, T10⟩ := duo_tells (w0 := w) (d := d) (mb := mb) (r := r) (X := X) hsS (by omega) id
        have hI1 : ∀ u a1 c1 a2 c2, IsInts u a1 (idsOf (dueL s'.now L')) → IsInts u a2 (idsOf (dueL s'.now L')) → Calls Try.prog 48 #[.slice a1 (idsOf (dueL s'.now L')).length c1, .slice a2 (idsOf (dueL s'.now L')).length c2] u (Ret (.bool true) u) := by
          intro u a1 c1 a2 c2 h1 h2
          have hle : (idsOf (dueL s'.now L')).length ≤ 1000000 := by
            have : (dueL s'.now L').length ≤ L'.length := List.length_filter_le _ _
            unfold idsOf
            rw [List.length_map]
            omega
          have := masks_Ints a1 a2 c1 c2 _ _ u h1 h2 hle hle
          rwa [decide_eq_true rfl] at this
        have hI2 : ∀ u a1 c1 a2 c2, IsInts u a1 (idsOf L') → IsInts u a2 (idsOf L') → Calls Try.prog 48 #[.slice a1 (idsOf L').length c1, .slice a2 (idsOf L').length c2] u (Ret (.bool true) u) := by
          intro u a1 c1 a2 c2 h1 h2
          have hle : (idsOf L').length ≤ 1000000 := by
            unfold idsOf
            rw [List.length_map]
            omega
          have := masks_Ints a1 a2 c1 c2 _ _ u h1 h2 hle hle
          rwa [decide_eq_true rfl] at this
        obtain ⟨gL, cL, hcL⟩ := y0.cellL
        have hcN := y0.cellNow
        have hct := hact _ _ _ _ y0
        have HY := Lib.hid (And.intro hsS hlS)
        clear hsS hlS
        generalize idsOf (dueL s'.now L') = li1 at *
        generalize idsOf L' = li2 at *
        generalize rnextV L' = nv at *
        generalize rnextE L' = ne at *
        generalize (dget L' id).getD 0 = wv at *
        generalize (dget L' id).isSome = wb at *
        go_wp2_with (first
          | (
            go_at_call 54
            refine (T1 _ (by exact y0)).mono ?_
            rintro e v1 ⟨rfl, m1⟩
            have y1 := y0.keep m1
            )
          | (
            go_at_call 55
            refine (T2 _ (by exact y1)).mono ?_
            rintro e v2 ⟨rfl, m2⟩
            have y2 := y1.keep m2
            have b2 := (hact _ _ _ _ y2).1
            )
          | (
            go_at_call 56
            refine (T3 _ (by exact y2)).mono ?_
            rintro e v3 ⟨rfl, m3⟩
            have y3 := y2.keep m3
            have b3 := (hact _ _ _ _ y3).1
            )
          | (
            go_at_call 57
            refine (T4 _ (by exact y3)).mono ?_
            rintro e v4 ⟨rfl, m4⟩
            have y4 := y3.keep m4
            )
          )
        have M4 := ((m1.trans m2 (by simp)).trans m3 (by simp)).trans m4 (by simp)
        have y5 := y4.drewN 1
        have d5 : v4.drew.cell? ⟨r, 0, none⟩ = some (.int .i64 s'.now) ∧ v4.drew.cell? ⟨r, 1, none⟩ = some (.slice (rA gL) L'.length cL) := ⟨(M4.drewN 1).at hcN (by simp), (M4.drewN 1).at hcL (by simp)⟩
        clear b2 b3 m1 m2 m3 m4 M4 y0 y1 y2 y3 y4 hcL hcN hct
        go_region_held3 (fun u => u.cell? ⟨r, 0, none⟩ = some (.int .i64 s'.now) ∧ u.cell? ⟨r, 1, none⟩ = some (.slice (rA gL) L'.length cL)) (assumption) (first
          | (
            go_at_call 58
            refine (T5 _ (by exact y5)).mono ?_
            rintro e v6 ⟨rfl, m6⟩
            have y6 := y5.keep m6
            have d6 := And.intro (m6.at d5.1 (by simp)) (m6.at d5.2 (by simp))
            )
          | (
            go_at_call 59
            refine (T6 _ (by exact y6)).mono ?_
            rintro e v7 ⟨rfl, m7⟩
            have y7 := y6.keep m7
            have d7 := And.intro (m7.at d6.1 (by simp)) (m7.at d6.2 (by simp))
            )
          | (
            go_at_call 47
            refine (T7 _ (by exact y7)).mono ?_
            rintro e v8 ⟨a8, c8, rfl, m8, i8⟩
            have y8 := y7.keep m8
            have d8 := And.intro (m8.at d7.1 (by simp)) (m8.at d7.2 (by simp))
            )
          | (
            go_at_call 60
            refine (T8 _ (by exact y8)).mono ?_
            rintro e v9 ⟨a9, c9, rfl, m9, i9⟩
            have y9 := y8.keep m9
            have d9 := And.intro (m9.at d8.1 (by simp)) (m9.at d8.2 (by simp))
            have j8 := i8.keep m9 (by simp)
            )
          | (
            go_at_call 48
            have hx := j8
            refine (hI1 _ _ _ _ _ (by exact j8) (by exact i9)).mono ?_
            rintro e v10 ⟨rfl, k10, rfl⟩
            have y10 := y9.drewN k10
            have d10 : (v9.drewN k10).cell? ⟨r, 0, none⟩ = some (.int .i64 s'.now) ∧ (v9.drewN k10).cell? ⟨r, 1, none⟩ = some (.slice (rA gL) L'.length cL) := d9
            clear hx j8
            )
          | (
            go_at_call 61
            refine (T9 _ (by exact y10)).mono ?_
            rintro e v11 ⟨a11, c11, rfl, m11, i11⟩
            have y11 := y10.keep m11
            have d11 := And.intro (m11.at d10.1 (by simp)) (m11.at d10.2 (by simp))
            )
          | (
            go_at_call 62
            refine (T10 _ (by exact y11)).mono ?_
            rintro e v12 ⟨a12, c12, rfl, m12, i12⟩
            have y12 := y11.keep m12
            have d12 := And.intro (m12.at d11.1 (by simp)) (m12.at d11.2 (by simp))
            have j11 := i11.keep m12 (by simp)
            )
          | (
            go_at_call 48
            refine (hI2 _ _ _ _ _ (by exact j11) (by exact i12)).mono ?_
            rintro e v13 ⟨rfl, k13, rfl⟩
            have y13 := y12.drewN k13
            have d13 : (v12.drewN k13).cell? ⟨r, 0, none⟩ = some (.int .i64 s'.now) ∧ (v12.drewN k13).cell? ⟨r, 1, none⟩ = some (.slice (rA gL) L'.length cL) := d12
            )
          )
        go_wp2
        go_roundg (gk - 1)
        case measure => omega
        case rel => exact ⟨k + 1, s', L', by go_num, by omega, y13.drop, HY.out.1, HY.out.2⟩
      by_cases e2 : kind.tmod 4 = 2
      · have q0 : (kind.tmod 4 == 0) = false := by simp [e2]
        have q1 : (kind.tmod 4 == 1) = false := by simp [e2]
        have q2 : (kind.tmod 4 == 2) = true := by simp [e2]
        clear e0 e1 e2
        go_wp2_with fail
        clear c0 c1 c2
        generalize hO : wr.alloc (Obj.cells #[.int .i64 kind, .int .i64 id, .int .i64 n] 84) = w3 at *
        clear hO
        obtain ⟨X, hX⟩ : ∃ X : List (Nat × Obj), X = [(wr.heap.size, Obj.cells #[.int .i64 kind, .int .i64 id, .int .i64 n] 84)] := ⟨_, rfl⟩
        have hmem : (wr.heap.size, Obj.cells #[.int .i64 kind, .int .i64 id, .int .i64 n] 84) ∈ X := by rw [hX]; simp
        rw [← hX] at xa
        generalize wr.heap.size = bb at *
        clear hX
        have hact : ∀ u s now L, Duo w d mb r X s now L u → u.cell? ⟨bb, 1, none⟩ = some (.int .i64 id) ∧ u.cell? ⟨bb, 2, none⟩ = some (.int .i64 n) := fun u s now L h => ⟨cellAt (h.held hmem) 1, cellAt (h.held hmem) 2⟩
        have xb : Duo w d mb r X s s.now L w3.drew := xa.drewN 1
        have cc := hact _ _ _ _ xb
        clear xb cc
        generalize hT : onV s.now n = T at *
        generalize hs' : s.go T = s1 at *
        generalize hn' : rgo s.now T = n1 at *
        obtain ⟨CC, hCC⟩ : ∃ CC : Array Bool → World → Prop, CC = (fun (z : Array Bool) (u : World) => Duo w d mb r X (if z.getD 8 true = true then s1 else s) (if z.getD 17 true = true then n1 else s.now) L u ∧ (z.getD 17 true = true → z.getD 4 true = true ∧ z.getD 13 true = true)) := ⟨_, rfl⟩
        refine wp_region_calm_lit (by kernel_rfl) (by kernel_rfl) CC (fun z hz => by rw [hCC]; simp only; rw [if_neg (by rw [hz 8 (by decide)]; decide), if_neg (by rw [hz 17 (by decide)]; decide)]; exact ⟨xa.drewN 1, fun h => by rw [hz 17 (by decide)] at h; cases h⟩) ?_
        have hstay : ∀ i z, i ≠ 8 ∧ i ≠ 17 → ∀ u, CC z u → CC (z.setIfInBounds i true) u := by
          rintro i z ⟨h5, h11⟩ u hc
          rw [hCC] at hc ⊢
          simp only [done_ne _ h5, done_ne _ h11]
          refine ⟨hc.1, fun h => ?_⟩
          obtain ⟨h1, h2⟩ := hc.2 h
          exact ⟨getD_set_true h1, getD_set_true h2⟩
        have hm : ∀ i, i ≠ 8 ∧ i ≠ 17 → CalmSkip CC i := fun i hi z u _ hc => hstay i z hi u hc
        have hload : ∀ z u, CC z u → u.cell? ⟨bb, 1, none⟩ = some (.int .i64 id) ∧ u.cell? ⟨bb, 2, none⟩ = some (.int .i64 n) := by
          intro z u hc
          rw [hCC] at hc
          exact hact _ _ _ _ hc.1
        have hnow : ∀ i z u, (i = 4 ∨ i = 13) → z.getD i true = false → CC z u → u.cell? ⟨r, 0, none⟩ = some (.int .i64 s.now) := by
          intro i z u hi hz hc
          rw [hCC] at hc
          have h17 : ¬ z.getD 17 true = true := by
            intro h
            obtain ⟨h1, h2⟩ := hc.2 h
            rcases hi with rfl | rfl
            · rw [hz] at h1; cases h1
            · rw [hz] at h2; cases h2
          have h3 := hc.1
          rw [if_neg h17] at h3
          exact h3.cellNow
        have hcO : ∀ i z u, i ≠ 8 ∧ i ≠ 17 → CC z u → Calls Try.prog 45 #[.int .i64 s.now, .int .i64 n] u (fun e u' => e = .returned (.int .i64 T) ∧ CC (z.setIfInBounds i true) u') := by
          intro i z u hi hc
          have h1 := law13_on s.now n ⟨by omega, by have := hs.inv.ok.now; omega⟩ u
          rw [hT] at h1
          refine h1.mono ?_
          rintro e u' ⟨rfl, k', rfl⟩
          refine ⟨rfl, hstay i z hi _ ?_⟩
          rw [hCC] at hc ⊢
          exact ⟨hc.1.drewN k', hc.2⟩
        have hcA : ∀ z u, z.getD 8 true = false → CC z u → Calls Try.prog 46 #[.pointer (some ⟨d, 0, none⟩), .int .i64 T] u (fun e u' => e = .returned (.int .i64 (rgoE s.now T)) ∧ CC (z.setIfInBounds 8 true) u') := by
          intro z u hz hc
          rw [hCC] at hc ⊢
          simp only at hc ⊢
          rw [if_neg (by simp [hz])] at hc
          rw [if_pos (done_self _ _), done_ne _ (show 8 ≠ 17 by decide), done_ne _ (show 8 ≠ 4 by decide), done_ne _ (show 8 ≠ 13 by decide), ← hs']
          refine (duo_Go hs hL2 T hc.1).mono ?_
          rintro e u' ⟨rfl, h3⟩
          exact ⟨rfl, h3, hc.2⟩
        have hcB : ∀ z u, z.getD 17 true = false → z.getD 4 true = true → z.getD 13 true = true → CC z u → Calls Try.prog 53 #[.pointer (some ⟨r, 0, none⟩), .int .i64 T] u (fun e u' => e = .returned (.int .i64 (rgoE s.now T)) ∧ CC (z.setIfInBounds 17 true) u') := by
          intro z u hz h4 h13 hc
          rw [hCC] at hc ⊢
          simp only at hc ⊢
          rw [if_neg (c := z.getD 17 true = true) (by simp [hz])] at hc
          rw [if_pos (c := (z.setIfInBounds 17 true).getD 17 true = true) (done_self _ _), done_ne _ (show 17 ≠ 8 by decide), done_ne _ (show 17 ≠ 4 by decide), done_ne _ (show 17 ≠ 13 by decide), ← hn']
          refine (duo_rGo T hc.1).mono ?_
          rintro e u' ⟨rfl, h3⟩
          exact ⟨rfl, h3, fun _ => ⟨h4, h13⟩⟩
        iterate 4 (first | (refine calm_pure (v := ?_) (by rfl) (fun w => ?_) (hm _ (by decide)) ?_; rotate_left; · (go_simp <;> with_reducible rfl)) | (refine calm_load (v := ?_) (by rfl) (fun s w hUp hC => ?_) (hm _ (by decide)) ?_; rotate_left; · (have hl := hload s w hC; go_split_ands; go_simp <;> with_reducible rfl)) | (refine calm_skip (by rfl) (hm _ (by decide)) ?_)); simp only [Act.put, List.setIfInBounds_toArray, List.set_cons_zero, List.set_cons_succ, Nat.reduceAdd, Nat.zero_add]
        refine calm_loadS (v := ?_) (by rfl) (fun z u hz hUp hC => ?_) (hm _ (by decide)) ?_
        rotate_left
        · (have hl := hnow _ z u (.inl rfl) hz hC; go_simp <;> with_reducible rfl)
        simp only [Act.put, List.setIfInBounds_toArray, List.set_cons_zero, List.set_cons_succ, Nat.reduceAdd, Nat.zero_add]
        iterate 2 (first | (refine calm_pure (v := ?_) (by rfl) (fun w => ?_) (hm _ (by decide)) ?_; rotate_left; · (go_simp <;> with_reducible rfl)) | (refine calm_load (v := ?_) (by rfl) (fun s w hUp hC => ?_) (hm _ (by decide)) ?_; rotate_left; · (have hl := hload s w hC; go_split_ands; go_simp <;> with_reducible rfl)) | (refine calm_skip (by rfl) (hm _ (by decide)) ?_)); simp only [Act.put, List.setIfInBounds_toArray, List.set_cons_zero, List.set_cons_succ, Nat.reduceAdd, Nat.zero_add]
        refine calm_call (by rfl) (fun w => ?_) (fun z u hz hUp hc => hcO _ z u (by decide) hc) ?_
        · go_simp
        simp only [Act.put, List.setIfInBounds_toArray, List.set_cons_zero, List.set_cons_succ, Nat.reduceAdd, Nat.zero_add]
        refine calm_call (by rfl) (fun w => ?_) (fun s u hs hUp hc => hcA s u hs hc) ?_
        · go_simp
        simp only [Act.put, List.setIfInBounds_toArray, List.set_cons_zero, List.set_cons_succ, Nat.reduceAdd, Nat.zero_add]
        iterate 4 (first | (refine calm_pure (v := ?_) (by rfl) (fun w => ?_) (hm _ (by decide)) ?_; rotate_left; · (go_simp <;> with_reducible rfl)) | (refine calm_load (v := ?_) (by rfl) (fun s w hUp hC => ?_) (hm _ (by decide)) ?_; rotate_left; · (have hl := hload s w hC; go_split_ands; go_simp <;> with_reducible rfl)) | (refine calm_skip (by rfl) (hm _ (by decide)) ?_)); simp only [Act.put, List.setIfInBounds_toArray, List.set_cons_zero, List.set_cons_succ, Nat.reduceAdd, Nat.zero_add]
        refine calm_loadS (v := ?_) (by rfl) (fun z u hz hUp hC => ?_) (hm _ (by decide)) ?_
        rotate_left
        · (have hl := hnow _ z u (.inr rfl) hz hC; go_simp <;> with_reducible rfl)
        simp only [Act.put, List.setIfInBounds_toArray, List.set_cons_zero, List.set_cons_succ, Nat.reduceAdd, Nat.zero_add]
        iterate 2 (first | (refine calm_pure (v := ?_) (by rfl) (fun w => ?_) (hm _ (by decide)) ?_; rotate_left; · (go_simp <;> with_reducible rfl)) | (refine calm_load (v := ?_) (by rfl) (fun s w hUp hC => ?_) (hm _ (by decide)) ?_; rotate_left; · (have hl := hload s w hC; go_split_ands; go_simp <;> with_reducible rfl)) | (refine calm_skip (by rfl) (hm _ (by decide)) ?_)); simp only [Act.put, List.setIfInBounds_toArray, List.set_cons_zero, List.set_cons_succ, Nat.reduceAdd, Nat.zero_add]
        refine calm_call (by rfl) (fun w => ?_) (fun z u hz hUp hc => hcO _ z u (by decide) hc) ?_
        · go_simp
        simp only [Act.put, List.setIfInBounds_toArray, List.set_cons_zero, List.set_cons_succ, Nat.reduceAdd, Nat.zero_add]
        refine calm_call (by rfl) (fun w => ?_) (fun z u hz hUp hc => hcB z u hz (hUp 4 19 (by kernel_rfl)) (hUp 13 19 (by kernel_rfl)) hc) ?_
        · go_simp
        simp only [Act.put, List.setIfInBounds_toArray, List.set_cons_zero, List.set_cons_succ, Nat.reduceAdd, Nat.zero_add]
        iterate 1 (first | (refine calm_pure (v := ?_) (by rfl) (fun w => ?_) (hm _ (by decide)) ?_; rotate_left; · (go_simp <;> with_reducible rfl)) | (refine calm_load (v := ?_) (by rfl) (fun s w hUp hC => ?_) (hm _ (by decide)) ?_; rotate_left; · (have hl := hload s w hC; go_split_ands; go_simp <;> with_reducible rfl)) | (refine calm_skip (by rfl) (hm _ (by decide)) ?_)); simp only [Act.put, List.setIfInBounds_toArray, List.set_cons_zero, List.set_cons_succ, Nat.reduceAdd, Nat.zero_add]
        refine calm_nil ?_
        intro z u2 hall hc
        rw [hCC] at hc
        try simp only at hc
        rw [if_pos (hall 8 (by decide)), if_pos (hall 17 (by decide))] at hc
        have y3 := hc.1
        clear hm hload hcA hcB hcO hnow hstay hCC hall CC hc
        have xb := xa
        have cc := xa
        have y4 : Duo w d mb r X s1 s1.now L u2 := by rw [← hs', hs.goNow, hn', hs']; exact y3
        clear y3
        have hs9 : Sim s1 L := by rw [← hs']; exact hs.go T
        have hl9 : L.length ≤ k + 1 := by omega
        clear hs' hn'
        go_wp2_with fail
        clear xa xb cc
        generalize s1 = s' at *
        generalize L = L' at *
        have hsS := hs9
        have hlS := hl9
        have y0 := y4
        clear y4
        obtain ⟨T1, T2, T3, T4, T5, T6, T7, T8, T9, T10⟩ := duo_tells (w0 := w) (d := d) (mb := mb) (r := r) (X := X) hsS (by omega) id
        have hI1 : ∀ u a1 c1 a2 c2, IsInts u a1 (idsOf (dueL s'.now L')) → IsInts u a2 (idsOf (dueL s'.now L')) → Calls Try.prog 48 #[.slice a1 (idsOf (dueL s'.now L')).length c1, .slice a2 (idsOf (dueL s'.now L')).length c2] u (Ret (.bool true) u) := by
          intro u a1 c1 a2 c2 h1 h2
          have hle : (idsOf (dueL s'.now L')).length ≤ 1000000 := by
            have : (dueL s'.now L').length ≤ L'.length := List.length_filter_le _ _
            unfold idsOf
            rw [List.length_map]
            omega
          have := masks_Ints a1 a2 c1 c2 _ _ u h1 h2 hle hle
          rwa [decide_eq_true rfl] at this
        have hI2 : ∀ u a1 c1 a2 c2, IsInts u a1 (idsOf L') → IsInts u a2 (idsOf L') → Calls Try.prog 48 #[.slice a1 (idsOf L').length c1, .slice a2 (idsOf L').length c2] u (Ret (.bool true) u) := by
          intro u a1 c1 a2 c2 h1 h2
          have hle : (idsOf L').length ≤ 1000000 := by
            unfold idsOf
            rw [List.length_map]
            omega
          have := masks_Ints a1 a2 c1 c2 _ _ u h1 h2 hle hle
          rwa [decide_eq_true rfl] at this
        obtain ⟨gL, cL, hcL⟩ := y0.cellL
        have hcN := y0.cellNow
        have hct := hact _ _ _ _ y0
        have HY := Lib.hid (And.intro hsS hlS)
        clear hsS hlS
        generalize idsOf (dueL s'.now L') = li1 at *
        generalize idsOf L' = li2 at *
        generalize rnextV L' = nv at *
        generalize rnextE L' = ne at *
        generalize (dget L' id).getD 0 = wv at *
        generalize (dget L' id).isSome = wb at *
        go_wp2_with (first
          | (
            go_at_call 54
            refine (T1 _ (by exact y0)).mono ?_
            rintro e v1 ⟨rfl, m1⟩
            have y1 := y0.keep m1
            )
          | (
            go_at_call 55
            refine (T2 _ (by exact y1)).mono ?_
            rintro e v2 ⟨rfl, m2⟩
            have y2 := y1.keep m2
            have b2 := (hact _ _ _ _ y2).1
            )
          | (
            go_at_call 56
            refine (T3 _ (by exact y2)).mono ?_
            rintro e v3 ⟨rfl, m3⟩
            have y3 := y2.keep m3
            have b3 := (hact _ _ _ _ y3).1
            )
          | (
            go_at_call 57
            refine (T4 _ (by exact y3)).mono ?_
            rintro e v4 ⟨rfl, m4⟩
            have y4 := y3.keep m4
            )
          )
        have M4 := ((m1.trans m2 (by simp)).trans m3 (by simp)).trans m4 (by simp)
        have y5 := y4.drewN 1
        have d5 : v4.drew.cell? ⟨r, 0, none⟩ = some (.int .i64 s'.now) ∧ v4.drew.cell? ⟨r, 1, none⟩ = some (.slice (rA gL) L'.length cL) := ⟨(M4.drewN 1).at hcN (by simp), (M4.drewN 1).at hcL (by simp)⟩
        clear b2 b3 m1 m2 m3 m4 M4 y0 y1 y2 y3 y4 hcL hcN hct
        go_region_held3 (fun u => u.cell? ⟨r, 0, none⟩ = some (.int .i64 s'.now) ∧ u.cell? ⟨r, 1, none⟩ = some (.slice (rA gL) L'.length cL)) (assumption) (first
          | (
            go_at_call 58
            refine (T5 _ (by exact y5)).mono ?_
            rintro e v6 ⟨rfl, m6⟩
            have y6 := y5.keep m6
            have d6 := And.intro (m6.at d5.1 (by simp)) (m6.at d5.2 (by simp))
            )
          | (
            go_at_call 59
            refine (T6 _ (by exact y6)).mono ?_
            rintro e v7 ⟨rfl, m7⟩
            have y7 := y6.keep m7
            have d7 := And.intro (m7.at d6.1 (by simp)) (m7.at d6.2 (by simp))
            )
          | (
            go_at_call 47
            refine (T7 _ (by exact y7)).mono ?_
            rintro e v8 ⟨a8, c8, rfl, m8, i8⟩
            have y8 := y7.keep m8
            have d8 := And.intro (m8.at d7.1 (by simp)) (m8.at d7.2 (by simp))
            )
          | (
            go_at_call 60
            refine (T8 _ (by exact y8)).mono ?_
            rintro e v9 ⟨a9, c9, rfl, m9, i9⟩
            have y9 := y8.keep m9
            have d9 := And.intro (m9.at d8.1 (by simp)) (m9.at d8.2 (by simp))
            have j8 := i8.keep m9 (by simp)
            )
          | (
            go_at_call 48
            have hx := j8
            refine (hI1 _ _ _ _ _ (by exact j8) (by exact i9)).mono ?_
            rintro e v10 ⟨rfl, k10, rfl⟩
            have y10 := y9.drewN k10
            have d10 : (v9.drewN k10).cell? ⟨r, 0, none⟩ = some (.int .i64 s'.now) ∧ (v9.drewN k10).cell? ⟨r, 1, none⟩ = some (.slice (rA gL) L'.length cL) := d9
            clear hx j8
            )
          | (
            go_at_call 61
            refine (T9 _ (by exact y10)).mono ?_
            rintro e v11 ⟨a11, c11, rfl, m11, i11⟩
            have y11 := y10.keep m11
            have d11 := And.intro (m11.at d10.1 (by simp)) (m11.at d10.2 (by simp))
            )
          | (
            go_at_call 62
            refine (T10 _ (by exact y11)).mono ?_
            rintro e v12 ⟨a12, c12, rfl, m12, i12⟩
            have y12 := y11.keep m12
            have d12 := And.intro (m12.at d11.1 (by simp)) (m12.at d11.2 (by simp))
            have j11 := i11.keep m12 (by simp)
            )
          | (
            go_at_call 48
            refine (hI2 _ _ _ _ _ (by exact j11) (by exact i12)).mono ?_
            rintro e v13 ⟨rfl, k13, rfl⟩
            have y13 := y12.drewN k13
            have d13 : (v12.drewN k13).cell? ⟨r, 0, none⟩ = some (.int .i64 s'.now) ∧ (v12.drewN k13).cell? ⟨r, 1, none⟩ = some (.slice (rA gL) L'.length cL) := d12
            )
          )
        go_wp2
        go_roundg (gk - 1)
        case measure => omega
        case rel => exact ⟨k + 1, s', L', by go_num, by omega, y13.drop, HY.out.1, HY.out.2⟩
      · have q0 : (kind.tmod 4 == 0) = false := by simpa using e0
        have q1 : (kind.tmod 4 == 1) = false := by simpa using e1
        have q2 : (kind.tmod 4 == 2) = false := by simpa using e2
        clear e0 e1 e2
        go_wp2_with fail
        clear c0 c1 c2
        generalize hO : wr.alloc (Obj.cells #[.int .i64 kind, .int .i64 id, .int .i64 n] 84) = w3 at *
        clear hO
        obtain ⟨X, hX⟩ : ∃ X : List (Nat × Obj), X = [(wr.heap.size, Obj.cells #[.int .i64 kind, .int .i64 id, .int .i64 n] 84)] := ⟨_, rfl⟩
        have hmem : (wr.heap.size, Obj.cells #[.int .i64 kind, .int .i64 id, .int .i64 n] 84) ∈ X := by rw [hX]; simp
        rw [← hX] at xa
        generalize wr.heap.size = bb at *
        clear hX
        have hact : ∀ u s now L, Duo w d mb r X s now L u → u.cell? ⟨bb, 1, none⟩ = some (.int .i64 id) ∧ u.cell? ⟨bb, 2, none⟩ = some (.int .i64 n) := fun u s now L h => ⟨cellAt (h.held hmem) 1, cellAt (h.held hmem) 2⟩
        have xb : Duo w d mb r X s s.now L w3.drew := xa.drewN 1
        have cc := hact _ _ _ _ xb
        go_region_held3 (fun u => u.cell? ⟨bb, 1, none⟩ = some (.int .i64 id) ∧ u.cell? ⟨bb, 2, none⟩ = some (.int .i64 n)) (assumption) (first
          | (
            go_at_call 46
            refine (duo_Go hs hL2 n (by exact xb)).mono ?_
            rintro e u1 ⟨rfl, y1⟩
            have cc1 := hact _ _ _ _ y1
            )
          | (
            go_at_call 53
            refine (duo_rGo n (by exact y1)).mono ?_
            rintro e u2 ⟨rfl, y3⟩
            have cc2 := hact _ _ _ _ y3
            )
          )
        have y4 : Duo w d mb r X (s.go n) (s.go n).now L u2 := by rw [hs.goNow]; exact y3
        clear y1 y3 cc1 cc2
        have hs9 : Sim (s.go n) L := hs.go n
        have hl9 : L.length ≤ k + 1 := by omega
        clear xa xb cc
        generalize s.go n = s' at *
        generalize L = L' at *
        have hsS := hs9
        have hlS := hl9
        have y0 := y4
        clear y4
        obtain ⟨T1, T2, T3, T4, T5, T6, T7, T8, T9, T10⟩ := duo_tells (w0 := w) (d := d) (mb := mb) (r := r) (X := X) hsS (by omega) id
        have hI1 : ∀ u a1 c1 a2 c2, IsInts u a1 (idsOf (dueL s'.now L')) → IsInts u a2 (idsOf (dueL s'.now L')) → Calls Try.prog 48 #[.slice a1 (idsOf (dueL s'.now L')).length c1, .slice a2 (idsOf (dueL s'.now L')).length c2] u (Ret (.bool true) u) := by
          intro u a1 c1 a2 c2 h1 h2
          have hle : (idsOf (dueL s'.now L')).length ≤ 1000000 := by
            have : (dueL s'.now L').length ≤ L'.length := List.length_filter_le _ _
            unfold idsOf
            rw [List.length_map]
            omega
          have := masks_Ints a1 a2 c1 c2 _ _ u h1 h2 hle hle
          rwa [decide_eq_true rfl] at this
        have hI2 : ∀ u a1 c1 a2 c2, IsInts u a1 (idsOf L') → IsInts u a2 (idsOf L') → Calls Try.prog 48 #[.slice a1 (idsOf L').length c1, .slice a2 (idsOf L').length c2] u (Ret (.bool true) u) := by
          intro u a1 c1 a2 c2 h1 h2
          have hle : (idsOf L').length ≤ 1000000 := by
            unfold idsOf
            rw [List.length_map]
            omega
          have := masks_Ints a1 a2 c1 c2 _ _ u h1 h2 hle hle
          rwa [decide_eq_true rfl] at this
        obtain ⟨gL, cL, hcL⟩ := y0.cellL
        have hcN := y0.cellNow
        have hct := hact _ _ _ _ y0
        have HY := Lib.hid (And.intro hsS hlS)
        clear hsS hlS
        generalize idsOf (dueL s'.now L') = li1 at *
        generalize idsOf L' = li2 at *
        generalize rnextV L' = nv at *
        generalize rnextE L' = ne at *
        generalize (dget L' id).getD 0 = wv at *
        generalize (dget L' id).isSome = wb at *
        go_wp2_with (first
          | (
            go_at_call 54
            refine (T1 _ (by exact y0)).mono ?_
            rintro e v1 ⟨rfl, m1⟩
            have y1 := y0.keep m1
            )
          | (
            go_at_call 55
            refine (T2 _ (by exact y1)).mono ?_
            rintro e v2 ⟨rfl, m2⟩
            have y2 := y1.keep m2
            have b2 := (hact _ _ _ _ y2).1
            )
          | (
            go_at_call 56
            refine (T3 _ (by exact y2)).mono ?_
            rintro e v3 ⟨rfl, m3⟩
            have y3 := y2.keep m3
            have b3 := (hact _ _ _ _ y3).1
            )
          | (
            go_at_call 57
            refine (T4 _ (by exact y3)).mono ?_
            rintro e v4 ⟨rfl, m4⟩
            have y4 := y3.keep m4
            )
          )
        have M4 := ((m1.trans m2 (by simp)).trans m3 (by simp)).trans m4 (by simp)
        have y5 := y4.drewN 1
        have d5 : v4.drew.cell? ⟨r, 0, none⟩ = some (.int .i64 s'.now) ∧ v4.drew.cell? ⟨r, 1, none⟩ = some (.slice (rA gL) L'.length cL) := ⟨(M4.drewN 1).at hcN (by simp), (M4.drewN 1).at hcL (by simp)⟩
        clear b2 b3 m1 m2 m3 m4 M4 y0 y1 y2 y3 y4 hcL hcN hct
        go_region_held3 (fun u => u.cell? ⟨r, 0, none⟩ = some (.int .i64 s'.now) ∧ u.cell? ⟨r, 1, none⟩ = some (.slice (rA gL) L'.length cL)) (assumption) (first
          | (
            go_at_call 58
            refine (T5 _ (by exact y5)).mono ?_
            rintro e v6 ⟨rfl, m6⟩
            have y6 := y5.keep m6
            have d6 := And.intro (m6.at d5.1 (by simp)) (m6.at d5.2 (by simp))
            )
          | (
            go_at_call 59
            refine (T6 _ (by exact y6)).mono ?_
            rintro e v7 ⟨rfl, m7⟩
            have y7 := y6.keep m7
            have d7 := And.intro (m7.at d6.1 (by simp)) (m7.at d6.2 (by simp))
            )
          | (
            go_at_call 47
            refine (T7 _ (by exact y7)).mono ?_
            rintro e v8 ⟨a8, c8, rfl, m8, i8⟩
            have y8 := y7.keep m8
            have d8 := And.intro (m8.at d7.1 (by simp)) (m8.at d7.2 (by simp))
            )
          | (
            go_at_call 60
            refine (T8 _ (by exact y8)).mono ?_
            rintro e v9 ⟨a9, c9, rfl, m9, i9⟩
            have y9 := y8.keep m9
            have d9 := And.intro (m9.at d8.1 (by simp)) (m9.at d8.2 (by simp))
            have j8 := i8.keep m9 (by simp)
            )
          | (
            go_at_call 48
            have hx := j8
            refine (hI1 _ _ _ _ _ (by exact j8) (by exact i9)).mono ?_
            rintro e v10 ⟨rfl, k10, rfl⟩
            have y10 := y9.drewN k10
            have d10 : (v9.drewN k10).cell? ⟨r, 0, none⟩ = some (.int .i64 s'.now) ∧ (v9.drewN k10).cell? ⟨r, 1, none⟩ = some (.slice (rA gL) L'.length cL) := d9
            clear hx j8
            )
          | (
            go_at_call 61
            refine (T9 _ (by exact y10)).mono ?_
            rintro e v11 ⟨a11, c11, rfl, m11, i11⟩
            have y11 := y10.keep m11
            have d11 := And.intro (m11.at d10.1 (by simp)) (m11.at d10.2 (by simp))
            )
          | (
            go_at_call 62
            refine (T10 _ (by exact y11)).mono ?_
            rintro e v12 ⟨a12, c12, rfl, m12, i12⟩
            have y12 := y11.keep m12
            have d12 := And.intro (m12.at d11.1 (by simp)) (m12.at d11.2 (by simp))
            have j11 := i11.keep m12 (by simp)
            )
          | (
            go_at_call 48
            refine (hI2 _ _ _ _ _ (by exact j11) (by exact i12)).mono ?_
            rintro e v13 ⟨rfl, k13, rfl⟩
            have y13 := y12.drewN k13
            have d13 : (v12.drewN k13).cell? ⟨r, 0, none⟩ = some (.int .i64 s'.now) ∧ (v12.drewN k13).cell? ⟨r, 1, none⟩ = some (.slice (rA gL) L'.length cL) := d12
            )
          )
        go_wp2
        go_roundg (gk - 1)
        case measure => omega
        case rel => exact ⟨k + 1, s', L', by go_num, by omega, y13.drop, HY.out.1, HY.out.2⟩
    · have hne : ¬ ((k : Int) < (len : Int)) ∨ ((k : Int) < (len : Int) ∧ ¬ ((k : Int) < 120)) := by omega
      clear hkl hA
      rcases hne with h4 | ⟨h3, h4⟩
      all_goals
        go_wp2_with (go_at_call 43; refine (wheel_known _).mono ?_; rintro e w7 ⟨rfl, m7, _⟩)
        go_ret
        exact Rets.of rfl (x.mod.trans m7 (by simp)) trivial
end Go.Proofs.Ytbelcmiljjndaaa
