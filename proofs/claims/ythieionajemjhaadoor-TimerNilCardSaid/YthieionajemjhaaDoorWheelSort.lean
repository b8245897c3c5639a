/- The walks over a wheel's sorted: the copy, the comparison, the library's sort. -/
import Derived.Test.YthieionajemjhaaDoorWheelFirst
import Derived.Test.YthieionajemjhaaDoorCalm
import Derived.Shelf.SlSortCmp.NoneTotal
namespace Go.Proofs.YthieionajemjhaaDoor
set_option linter.unusedVariables false
set_option linter.unusedSimpArgs false
open Go.RowKit Go.Sort

/-- A slice that may be read. -/
def IsInts (w : World) (a : Option Addr) (l : List Int) : Prop := l = [] ∨ ∃ b, a = some ⟨b, 0, none⟩ ∧ b < w.heap.size ∧ ∀ j, j < l.length → w.cell? ⟨b, j, none⟩ = some (.int .i64 (nth l j))
theorem LAt.ints {w : World} {g : Option Nat} {cap : Nat} {l : List Int} (h : LAt w g cap l) : IsInts w (lA g) l := by
  by_cases hl : l = []
  · exact .inl hl
  · right
    have h0 : 0 < l.length := List.length_pos_iff.2 hl
    obtain ⟨b, rfl, _⟩ := h.cell h0
    refine ⟨b, rfl, h.lt b (by simp [lF]), fun j hj => ?_⟩
    obtain ⟨b', e, hc⟩ := h.cell hj
    cases e; exact hc
set_option maxRecDepth 100000 in
theorem slices_Clone (g : Option Nat) (cap : Nat) (l : List Int) (w : World) (h : LAt w g cap l) (hl : l.length < 1000000) :
    Calls Tryd.prog 74 #[.slice (lA g) l.length cap] w (fun e w' => ∃ g' cap', e = .returned (.slice (lA g') l.length cap') ∧ LAt w' g' cap' l ∧ Mod [] w w' ∧ ∀ b, b ∈ lF g' → w.heap.size ≤ b) := by
  cases g with
  | none =>
    obtain ⟨rfl, rfl⟩ := h
    have hq : ∀ w, (binOp .eql 49 (.slice none 0 0) (.slice none 0 0)).run Tryd.prog w = .ok (.bool true) w := fun w => Lib.run_eql_slice_nil w _ _ none 0 0 0 0 Tryd.underlying49
    simp only [lA, List.length_nil]
    go_enter Tryd.func74, Tryd.ntmps74
    go_wp2
    go_ret
    exact ⟨none, 0, rfl, ⟨rfl, rfl⟩, Mod.refl _ _, by simp [lF]⟩
  | some b =>
    have hq : ∀ w n, (binOp .eql 49 (.slice (some ⟨b, 0, none⟩) n cap) (.slice none 0 0)).run Tryd.prog w = .ok (.bool false) w := fun w n => Lib.run_eql_slice_nil w _ _ (some ⟨b, 0, none⟩) n cap 0 0 Tryd.underlying49
    have hE : LAt (w.alloc (.cells #[] 3)) (some w.heap.size) 0 [] := ⟨#[], heapNew _ _, by simp, by simp, rfl, rfl⟩
    obtain ⟨g', cap', w2, hrun, x1, x2, x3⟩ := LAt.appendAll hE (h.keep ((Mod.refl [] w).alloc (.cells #[] 3)) (by simp)) (by simp; omega)
    simp only [List.length_nil, Nat.zero_add, List.nil_append] at hrun x1
    rw [lA_some]
    rw [lA_some, lA_some] at hrun
    go_enter Tryd.func74, Tryd.ntmps74
    go_wp2_with (at_builtin; refine wpList_append_run rfl _ _ _ rfl rfl rfl (hrun _) ?_)
    go_ret
    refine ⟨g', cap', rfl, x1, Mod.trans (S := []) (T := [w.heap.size]) ((Mod.refl _ _).alloc _) (by simpa [lF] using x2) (by simp), fun b hb => ?_⟩
    rcases x3 b hb with hb | hb
    · simp [lF] at hb; omega
    · simp at hb; omega

theorem compareInt_bd (x y : Int) : Lib.compareInt x y = -1 ∨ Lib.compareInt x y = 0 ∨ Lib.compareInt x y = 1 := by
  unfold Lib.compareInt; split
  · exact .inl rfl
  · split
    · exact .inr (.inr rfl)
    · exact .inr (.inl rfl)
theorem compare_i64
(x y : Int) (w : World) : Calls Tryd.prog 78 #[.int .i64 x, .int .i64 y] w (Ret (.int .i64 (Lib.compareInt x y)) w) := by
  have hN : ∀ (z : Int) (w : World), Calls Tryd.prog 84 #[.int .i64 z] w (Ret (.bool false) w) := by
    intro z w
    go_enter Tryd.func84, Tryd.ntmps84
    go_wp2
    go_ret
    exact Ret.of (by simp) (by repeat (first | exact Drew.refl _ | apply Drew.drewN | apply Drew.drew))
  by_cases h1 : x < y
  · have hC : Lib.compareInt x y = -1 := if_pos h1
    rw [hC]
    clear hC
    go_enter Tryd.func78, Tryd.ntmps78
    go_wp2_with (go_at_call 84; refine (hN _ _).mono ?_; rintro e w' ⟨rfl, k, rfl⟩)
    go_ret
    exact Ret.of (rfl) (by repeat (first | exact Drew.refl _ | apply Drew.drewN | apply Drew.drew))
  · by_cases h2 : y < x
    · have hC : Lib.compareInt x y = 1 := by unfold Lib.compareInt; rw [if_neg h1, if_pos h2]
      rw [hC]
      clear hC
      go_enter Tryd.func78, Tryd.ntmps78
      go_wp2_with (go_at_call 84; refine (hN _ _).mono ?_; rintro e w' ⟨rfl, k, rfl⟩)
      go_ret
      exact Ret.of (rfl) (by repeat (first | exact Drew.refl _ | apply Drew.drewN | apply Drew.drew))
    · have hC : Lib.compareInt x y = 0 := by unfold Lib.compareInt; rw [if_neg h1, if_neg h2]
      rw [hC]
      clear hC
      go_enter Tryd.func78, Tryd.ntmps78
      go_wp2_with (go_at_call 84; refine (hN _ _).mono ?_; rintro e w' ⟨rfl, k, rfl⟩)
      go_ret
      exact Ret.of (rfl) (by repeat (first | exact Drew.refl _ | apply Drew.drewN | apply Drew.drew))
theorem compare_int
(x y : Int) (w : World) : Calls Tryd.prog 79 #[.int .i64 x, .int .i64 y] w (Ret (.int .i64 (Lib.compareInt x y)) w) := by
  have hN : ∀ (z : Int) (w : World), Calls Tryd.prog 85 #[.int .i64 z] w (Ret (.bool false) w) := by
    intro z w
    go_enter Tryd.func85, Tryd.ntmps85
    go_wp2
    go_ret
    exact Ret.of (by simp) (by repeat (first | exact Drew.refl _ | apply Drew.drewN | apply Drew.drew))
  by_cases h1 : x < y
  · have hC : Lib.compareInt x y = -1 := if_pos h1
    rw [hC]
    clear hC
    go_enter Tryd.func79, Tryd.ntmps79
    go_wp2_with (go_at_call 85; refine (hN _ _).mono ?_; rintro e w' ⟨rfl, k, rfl⟩)
    go_ret
    exact Ret.of (rfl) (by repeat (first | exact Drew.refl _ | apply Drew.drewN | apply Drew.drew))
  · by_cases h2 : y < x
    · have hC : Lib.compareInt x y = 1 := by unfold Lib.compareInt; rw [if_neg h1, if_pos h2]
      rw [hC]
      clear hC
      go_enter Tryd.func79, Tryd.ntmps79
      go_wp2_with (go_at_call 85; refine (hN _ _).mono ?_; rintro e w' ⟨rfl, k, rfl⟩)
      go_ret
      exact Ret.of (rfl) (by repeat (first | exact Drew.refl _ | apply Drew.drewN | apply Drew.drew))
    · have hC : Lib.compareInt x y = 0 := by unfold Lib.compareInt; rw [if_neg h1, if_neg h2]
      rw [hC]
      clear hC
      go_enter Tryd.func79, Tryd.ntmps79
      go_wp2_with (go_at_call 85; refine (hN _ _).mono ?_; rintro e w' ⟨rfl, k, rfl⟩)
      go_ret
      exact Ret.of (rfl) (by repeat (first | exact Drew.refl _ | apply Drew.drewN | apply Drew.drew))
def orW (a b : Int) : Int := if a ≠ 0 then a else b
set_option maxRecDepth 100000 in
set_option maxHeartbeats 1000000 in
theorem cmp_Or (b : Nat) (x y : Int) (w : World) (h : w.heap[b]? = some (.cells #[.int .i64 x, .int .i64 y] 3 (0,0))) : Calls Tryd.prog 77 #[.slice (some ⟨b, 0, none⟩) 2 2] w (Ret (.int .i64 (orW x y)) w) := by
  have c0 : w.cell? ⟨b, 0, none⟩ = some (.int .i64 x) := cellAt h 0
  have c1 : w.cell? ⟨b, 1, none⟩ = some (.int .i64 y) := cellAt h 1
  clear h
  go_enter Tryd.func77, Tryd.ntmps77
  go_wp2
  go_loopg [8] 2 (fun gg i wr => wr = w ∧ ((i = .int .i64 0 ∧ gg = 2) ∨ (i = .int .i64 1 ∧ gg = 1 ∧ x = 0) ∨ (i = .int .i64 2 ∧ gg = 0 ∧ x = 0 ∧ y = 0)))
  case atStart => simp
  case round =>
    obtain ⟨rfl, hrel⟩ := hrel
    rcases hrel with ⟨rfl, hg⟩ | ⟨rfl, hg, hx⟩ | ⟨rfl, hg, hx, hy⟩
    · by_cases hx : x = 0
      · subst hx
        go_wp2
        go_roundg 1
        case measure => omega
        case rel => simp
      · have hO : orW x y = x := if_pos hx
        have HO := Lib.hid hO
        clear hO
        go_wp2
        go_ret
        exact Ret.of (by rw [HO.out]; rfl) (by repeat (first | exact Drew.refl _ | apply Drew.drewN | apply Drew.drew))
    · subst hx
      have hO : orW 0 y = y := if_neg (by simp)
      have HO := Lib.hid hO
      clear hO
      by_cases hy : y = 0
      · subst hy
        go_wp2
        go_roundg 0
        case measure => omega
        case rel => simp
      · go_wp2
        go_ret
        exact Ret.of (by rw [HO.out]; rfl) (by repeat (first | exact Drew.refl _ | apply Drew.drewN | apply Drew.drew))
    · subst hx hy
      go_wp2
      go_ret
      exact Ret.of (rfl) (by repeat (first | exact Drew.refl _ | apply Drew.drewN | apply Drew.drew))
/-- How a wheel compares two things: by their dues, then by their numbers. -/
def cmpW (s : SW) (x y : Int) : Int := orW (Lib.compareInt (dueW s x : Int) (dueW s y : Int)) (Lib.compareInt x y)
theorem dues_lookup {w : World} {d mb : Nat} {G : Nat → Option Nat × Nat} {s : SW} (h : WheelAt w d mb G s) (id : Int) :
    (Instr.lookup 86 (.map (some mb)) (.int .i64 id) false).run Tryd.prog w = .ok (.int .i64 (dueW s id)) w := by
  have := map_lookup (P := Tryd.prog) h.map Tryd.underlying86 Tryd.underlying3 id (fun w => Tryd.zeroValue2 w)
  rw [mget_dues] at this
  rw [this]
  unfold dueW
  cases dget s.dues id <;> rfl
section
variable {P : Program} {ops : Array Oper} {md : Region.Mode} {C : Array Bool → World → Prop} {Q : Act → Prop} {i : Nat} {o : Oper} {rest : List Oper} {a : Act}
theorem calm_make {v : Value} (hw : Region.wanted o (yielded ops a.tmps) = true) (hr : ∀ s w, s.getD i true = false → UpTo md ops i s → C s w → ∃ w', (execOp a.eval o).run P w = .ok (.value v) w' ∧ C (s.setIfInBounds i true) w') (h : wpCalm P md ops C Q (i + 1) rest (a.put o.dst v)) : wpCalm P md ops C Q i (o :: rest) a := by
  unfold wpCalm
  rw [if_pos hw]
  exact ⟨v, fun s w hs hW hC => by
    obtain ⟨w', e, hc⟩ := hr s w hs hW hC
    rw [e]; exact ⟨rfl, hc⟩, h⟩
end
set_option maxRecDepth 100000 in
set_option maxHeartbeats 2000000 in
theorem sorted_cmp (pb d mb : Nat) (G : Nat → Option Nat × Nat) (s : SW) (x y : Int) (W : World) (hp : W.cell? ⟨pb, 0, none⟩ = some (.pointer (some ⟨d, 0, none⟩))) (h : WheelAt W d mb G s) :
    Calls Tryd.prog 76 #[.int .i64 x, .int .i64 y, .pointer (some ⟨pb, 0, none⟩)] W (fun e w' => e = .returned (.int .i64 (cmpW s x y)) ∧ ∃ q os, w' = Sort.grow (W.drewN q) os) := by
  have cM := h.cellMap
  have hlk := fun k id => dues_lookup (h.same (w' := W.drewN k) rfl) id
  unfold cmpW
  generalize hc1 : Lib.compareInt (dueW s x : Int) (dueW s y : Int) = c1 at *
  generalize hc2 : Lib.compareInt x y = c2 at *
  have hA : ∀ w, Calls Tryd.prog 78 #[.int .i64 (dueW s x), .int .i64 (dueW s y)] w (Ret (.int .i64 c1) w) := fun w => by rw [← hc1]; exact compare_i64 _ _ w
  have hB : ∀ w, Calls Tryd.prog 79 #[.int .i64 x, .int .i64 y] w (Ret (.int .i64 c2) w) := fun w => by rw [← hc2]; exact compare_int _ _ w
  clear hc1 hc2
  clear hlk
  generalize hdx : (dueW s x) = dx at *
  generalize hdy : (dueW s y) = dy at *
  have hpl := ltOfCell hp
  have hml := ltOfCell cM
  go_enter Tryd.func76, Tryd.ntmps76
  go_wp2_with fail
  obtain ⟨CC, hCC⟩ : ∃ CC : Array Bool → World → Prop, CC = (fun (z : Array Bool) (u : World) => ∃ n, u = if z.getD 16 true = true then (W.drewN n).alloc (.cells #[.int .i64 c1, .int .i64 c2] 3) else W.drewN n) := ⟨_, rfl⟩
  refine wp_region_calm_lit (by kernel_rfl) (by kernel_rfl) CC (fun z hz => by rw [hCC]; simp only; exact ⟨1, by rw [if_neg (by rw [hz 16 (by decide)]; decide)]; rfl⟩) ?_
  have hm : ∀ i, i ≠ 16 → CalmSkip CC i := by
    intro i h16 z u _ hc
    rw [hCC] at hc ⊢
    simp only [done_ne _ h16]
    exact hc
  have hU : ∀ z u, CC z u → Mod [] W u := by
    intro z u hc
    rw [hCC] at hc
    obtain ⟨n, hn⟩ := hc
    rw [hn]
    split
    · exact ((Mod.refl _ _).drewN _).alloc _
    · exact (Mod.refl _ _).drewN _
  have hload : ∀ z u, CC z u → u.cell? ⟨pb, 0, none⟩ = some (.pointer (some ⟨d, 0, none⟩)) ∧ u.cell? ⟨d, 1, none⟩ = some (.map (some mb)) ∧ (Instr.lookup 86 (.map (some mb)) (.int .i64 x) false).run Tryd.prog u = .ok (.int .i64 dx) u ∧ (Instr.lookup 86 (.map (some mb)) (.int .i64 y) false).run Tryd.prog u = .ok (.int .i64 dy) u := by
    intro z u hc
    have mu := hU z u hc
    have hu := h.keep mu (by simp)
    exact ⟨mu.at hp (by simp), hu.cellMap, by rw [← hdx]; exact dues_lookup hu x, by rw [← hdy]; exact dues_lookup hu y⟩
  have hdr : ∀ (n k : Nat) (z : Array Bool), (if z.getD 16 true = true then (W.drewN n).alloc (.cells #[.int .i64 c1, .int .i64 c2] 3) else W.drewN n).drewN k = if z.getD 16 true = true then (W.drewN (n + k)).alloc (.cells #[.int .i64 c1, .int .i64 c2] 3) else W.drewN (n + k) := by
    intro n k z
    split
    · show ((W.drewN n).drewN k).alloc _ = _
      rw [World.drewN_drewN]
    · rw [World.drewN_drewN]
  have hcA : ∀ z u, z.getD 12 true = false → CC z u → Calls Tryd.prog 78 #[.int .i64 dx, .int .i64 dy] u (fun e u' => e = .returned (.int .i64 c1) ∧ CC (z.setIfInBounds 12 true) u') := by
    intro z u hz hc
    rw [hCC] at hc ⊢
    obtain ⟨n, hn⟩ := hc
    refine (hA u).mono ?_
    rintro e u' ⟨rfl, k, rfl⟩
    exact ⟨rfl, n + k, by rw [hn, hdr, done_ne _ (by decide)]⟩
  have hcB : ∀ z u, z.getD 15 true = false → CC z u → Calls Tryd.prog 79 #[.int .i64 x, .int .i64 y] u (fun e u' => e = .returned (.int .i64 c2) ∧ CC (z.setIfInBounds 15 true) u') := by
    intro z u hz hc
    rw [hCC] at hc ⊢
    obtain ⟨n, hn⟩ := hc
    refine (hB u).mono ?_
    rintro e u' ⟨rfl, k, rfl⟩
    exact ⟨rfl, n + k, by rw [hn, hdr, done_ne _ (by decide)]⟩
  have hcO : ∀ z u, z.getD 16 true = true → CC z u → Calls Tryd.prog 77 #[.slice (some ⟨W.heap.size, 0, none⟩) 2 2] u (fun e u' => e = .returned (.int .i64 (orW c1 c2)) ∧ CC (z.setIfInBounds 17 true) u') := by
    intro z u hz hc
    rw [hCC] at hc ⊢
    obtain ⟨n, hn⟩ := hc
    rw [if_pos hz] at hn
    subst hn
    refine (cmp_Or W.heap.size c1 c2 _ (heapNew (W.drewN n) _)).mono ?_
    rintro e u' ⟨rfl, k, rfl⟩
    refine ⟨rfl, n + k, ?_⟩
    rw [done_ne _ (by decide), if_pos hz]
    show ((W.drewN n).drewN k).alloc _ = _
    rw [World.drewN_drewN]
  iterate 12 (first | (refine calm_pure (v := ?_) (by rfl) (fun w => ?_) (hm _ (by decide)) ?_; rotate_left; · (go_simp <;> with_reducible rfl)) | (refine calm_load (v := ?_) (by rfl) (fun s w hUp hC => ?_) (hm _ (by decide)) ?_; rotate_left; · (have hl := hload s w hC; go_split_ands; go_simp <;> with_reducible rfl)) | (refine calm_skip (by rfl) (hm _ (by decide)) ?_)); simp only [Act.put, List.setIfInBounds_toArray, List.set_cons_zero, List.set_cons_succ, Nat.reduceAdd, Nat.zero_add]
  refine calm_call (by rfl) (fun w => ?_) (fun s u hs hUp hc => hcA s u hs hc) ?_
  · go_simp
  simp only [Act.put, List.setIfInBounds_toArray, List.set_cons_zero, List.set_cons_succ, Nat.reduceAdd, Nat.zero_add]
  iterate 2 (first | (refine calm_pure (v := ?_) (by rfl) (fun w => ?_) (hm _ (by decide)) ?_; rotate_left; · (go_simp <;> with_reducible rfl)) | (refine calm_load (v := ?_) (by rfl) (fun s w hUp hC => ?_) (hm _ (by decide)) ?_; rotate_left; · (have hl := hload s w hC; go_split_ands; go_simp <;> with_reducible rfl)) | (refine calm_skip (by rfl) (hm _ (by decide)) ?_)); simp only [Act.put, List.setIfInBounds_toArray, List.set_cons_zero, List.set_cons_succ, Nat.reduceAdd, Nat.zero_add]
  refine calm_call (by rfl) (fun w => ?_) (fun s u hs hUp hc => hcB s u hs hc) ?_
  · go_simp
  simp only [Act.put, List.setIfInBounds_toArray, List.set_cons_zero, List.set_cons_succ, Nat.reduceAdd, Nat.zero_add]
  refine calm_make (v := .slice (some ⟨W.heap.size, 0, none⟩) 2 2) (by rfl) (fun s u hs hUp hc => ?_) ?_
  · rw [hCC] at hc ⊢
    obtain ⟨n, hn⟩ := hc
    rw [if_neg (by rw [hs]; decide)] at hn
    subst hn
    refine ⟨(W.drewN n).alloc (.cells #[.int .i64 c1, .int .i64 c2] 3), ?_, n, by rw [if_pos (done_self _ _)]⟩
    go_simp
  simp only [Act.put, List.setIfInBounds_toArray, List.set_cons_zero, List.set_cons_succ, Nat.reduceAdd, Nat.zero_add]
  refine calm_call (by rfl) (fun w => ?_) (fun s u hs hUp hc => hcO s u (hUp 16 1 (by kernel_rfl)) hc) ?_
  · go_simp
  simp only [Act.put, List.setIfInBounds_toArray, List.set_cons_zero, List.set_cons_succ, Nat.reduceAdd, Nat.zero_add]
  iterate 1 (first | (refine calm_pure (v := ?_) (by rfl) (fun w => ?_) (hm _ (by decide)) ?_; rotate_left; · (go_simp <;> with_reducible rfl)) | (refine calm_load (v := ?_) (by rfl) (fun s w hUp hC => ?_) (hm _ (by decide)) ?_; rotate_left; · (have hl := hload s w hC; go_split_ands; go_simp <;> with_reducible rfl)) | (refine calm_skip (by rfl) (hm _ (by decide)) ?_)); simp only [Act.put, List.setIfInBounds_toArray, List.set_cons_zero, List.set_cons_succ, Nat.reduceAdd, Nat.zero_add]
  refine calm_nil ?_
  intro z w5 hall hc
  rw [hCC] at hc
  obtain ⟨n, hn⟩ := hc
  rw [if_pos (hall 16 (by decide))] at hn
  subst hn
  clear hm hload hcA hcB hcO hCC hall CC hU hdr
  go_wp2
  go_ret
  exact ⟨rfl, n, #[.cells #[.int .i64 c1, .int .i64 c2] 3], alloc_eq_grow _ _⟩
end Go.Proofs.YthieionajemjhaaDoor
