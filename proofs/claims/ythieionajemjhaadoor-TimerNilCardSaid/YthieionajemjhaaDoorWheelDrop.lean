/- The walk over a wheel's Drop. -/
import Derived.Test.YthieionajemjhaaDoorWheelInv2
import Derived.Test.YthieionajemjhaaDoorShelfDrop
import Derived.Shelf.SlicesE.DeleteFunc
namespace Go.Proofs.YthieionajemjhaaDoor
set_option linter.unusedVariables false
set_option linter.unusedSimpArgs false
open Go.RowKit Go.Sort

def wOut (l : List Int) (k : Int) : List Int := l.filter (fun x => !decide (x = k))
theorem wOut_len (l : List Int) (k : Int) : (wOut l k).length ≤ l.length := List.length_filter_le _ _
theorem heapPut {w : World} {g T : Nat} {cur : Array Value} (h : w.heap[g]? = some (.cells cur T (0,0))) (off : Nat) (d : Array Int) : (putRow (Value.int .i64) w g off d).heap[g]? = some (.cells (putCells (Value.int .i64) off d cur) T (0,0)) := by
  show (w.heap.modify g _)[g]? = _
  rw [Array.getElem?_modify, if_pos rfl, h]
  rfl
theorem putCells_take (l r : List Int) (cur : Array Value) (h : l.length + r.length ≤ cur.size) : (putCells (Value.int .i64) 0 (l ++ r).toArray cur).toList.take l.length = l.map (Value.int .i64) := by
  apply List.ext_getElem?
  intro i
  rw [List.getElem?_take]
  split
  · rename_i hi
    have hc : cur[i]? = some cur[i] := Array.getElem?_eq_getElem (by omega)
    rw [Array.getElem?_toList]
    unfold putCells
    rw [Array.getElem?_mapIdx, hc, List.getElem?_map, List.getElem?_eq_getElem hi]
    simp only [Option.map_some]
    rw [if_pos ⟨by omega, by simp; omega⟩]
    rw [getElem!_pos _ _ (by simp; omega)]
    simp [hi]
  · rename_i hi
    rw [List.getElem?_eq_none (by simp; omega)]
theorem drop_pred (B : Nat) (id x : Int) (W : World) (hc : W.cell? ⟨B, 0, none⟩ = some (.int .i64 id)) : Calls Tryd.prog 60 #[.int .i64 x, .pointer (some ⟨B, 0, none⟩)] W (Ret (.bool (decide (x = id))) W) := by
  by_cases e : x = id
  · have e' : (x == id) = true := by simpa using e
    have hD : decide (x = id) = true := decide_eq_true e
    rw [hD]
    clear hD e
    go_enter Tryd.func60, Tryd.ntmps60
    go_wp2
    go_ret
    exact Ret.of (rfl) (by repeat (first | exact Drew.refl _ | apply Drew.drewN | apply Drew.drew))
  · have e' : (x == id) = false := by simpa using e
    have hD : decide (x = id) = false := decide_eq_false e
    rw [hD]
    clear hD e
    go_enter Tryd.func60, Tryd.ntmps60
    go_wp2
    go_ret
    exact Ret.of (rfl) (by repeat (first | exact Drew.refl _ | apply Drew.drewN | apply Drew.drew))
theorem drop_list (B g cap : Nat) (l : List Int) (id : Int) (w : World) (hL : LAt w (some g) cap l) (hB : w.cell? ⟨B, 0, none⟩ = some (.int .i64 id)) (hne : B ≠ g) :
    Calls Tryd.prog 59 #[.slice (some ⟨g, 0, none⟩) l.length cap, .func (.func 60) #[] #[.pointer (some ⟨B, 0, none⟩)]] w
      (fun e w' => e = .returned (.slice (some ⟨g, 0, none⟩) (wOut l id).length cap) ∧ LAt w' (some g) cap (wOut l id) ∧ Mod [g] w w') := by
  have eg : ∀ args w, (callFunc 60 args).run Tryd.prog w = .ok (.enter 60 args) w := enters_of Tryd.func60 (by kernel_rfl) rfl
  have hcap := hL.cap
  unfold maxLen at hcap
  have hBl := ltOfCell hB
  have hH : Holds (Value.int .i64) w g 0 l.toArray := by
    intro j hj
    have hj' : j < l.length := by simpa using hj
    obtain ⟨b, e, hc⟩ := hL.cell hj'
    cases e
    obtain ⟨cur, hcur, _⟩ := hL
    rw [Nat.zero_add, arr_nth l j hj']
    exact ⟨hc, freeAt hcur j⟩
  have hp : PredAt Tryd.prog 60 #[.pointer (some ⟨B, 0, none⟩)] (Value.int .i64) (fun x => decide (x = id)) w :=
    fun W x hb => drop_pred B id x W ((hb.cell (p := ⟨B, 0, none⟩) hBl).trans hB)
  have hpo : PredOver Tryd.prog 60 #[.pointer (some ⟨B, 0, none⟩)] (Value.int .i64) (fun x => decide (x = id)) g 0 l.toArray.size w := by
    intro n os dk x hs
    have mm := sortWorld_mod (Value.int .i64) w g 0 n dk os
    exact drop_pred B id x _ (mm.at hB (by simpa using hne))
  have hcon := AnyE.slices_DeleteFunc dropL (Value.int .i64) (fun _ => rfl) (fun x => decide (x = id)) 60 #[.pointer (some ⟨B, 0, none⟩)] eg 0 Tryd.zeroValue3 g 0 cap l.toArray w hp hpo hH (by simp; omega) (by simp; omega)
  refine Calls.mono (show Calls Tryd.prog 59 _ _ _ from hcon) ?_
  rintro e w' ⟨rfl, q, rfl⟩
  obtain ⟨cur, hcur, h2, h3, h4, h5⟩ := hL
  have hle := wOut_len l id
  refine ⟨rfl, ⟨_, heapPut (w := Sort.ahead w q) hcur 0 _, by omega, h3, ?_, ?_⟩, ?_⟩
  · unfold putCells
    rw [Array.size_mapIdx]; exact h4
  · refine putCells_take (wOut l id) _ cur ?_
    rw [List.length_replicate, List.size_toArray]
    show (wOut l id).length + (l.length - (wOut l id).length) ≤ _
    omega
  · have := sortWorld_mod (Value.int .i64) w g 0 q ((wOut l id) ++ List.replicate (l.toArray.size - (wOut l id).length) 0).toArray #[]
    unfold sortWorld at this
    rwa [grow_empty] at this

/-- Drop: the errno; the wheel behind it. -/
def SW.dropE (s : SW) (id : Int) : Int := if (dget s.dues id).isSome then 0 else 4
def SW.drop (s : SW) (id : Int) : SW := if (dget s.dues id).isSome then { s with dues := ddel s.dues id, lists := upd s.lists (idxW s.now (dueW s id)) (wOut (s.lists (idxW s.now (dueW s id))) id) } else s

set_option maxRecDepth 100000 in
set_option maxHeartbeats 2000000 in
theorem wheel_Drop (d mb : Nat) (G : Nat → Option Nat × Nat) (s : SW) (w : World) (h : WheelAt w d mb G s) (hok : s.ok) (id : Int) (hne : (dget s.dues id).isSome = true → s.lists (idxW s.now (dueW s id)) ≠ []) :
    Calls Tryd.prog 34 #[.pointer (some ⟨d, 0, none⟩), .int .i64 id] w (WheelDo d mb G (.int .i64 (s.dropE id)) (s.drop id) w) := by
  have cM := h.cellMap
  have hlk := dues_lookup2 h id
  unfold SW.dropE SW.drop
  have hmB : Mod [] w (w.alloc (.cells #[.int .i64 id] 3)) := (Mod.refl _ _).alloc _
  have cB := cellAt (heapNew w (.cells #[.int .i64 id] 3)) 0
  have cM1 := hmB.at cM (by simp)
  have hlk1 := fun n => dues_lookup2 ((h.keep hmB (by simp)).same (w' := (w.alloc (.cells #[.int .i64 id] 3)).drewN n) rfl) id
  by_cases hs : (dget s.dues id).isSome = true
  · rw [if_pos hs, if_pos hs]
    rw [hs] at hlk1
    have hne' := hne hs
    have hdd := dueW_le hok id
    have hkk := idxW_le hok.now hdd
    have hL0 := fun (w' : World) (hh : WheelAt w' d mb G s) => wheel_list d mb G s w' hh (dueW s id) hok.now hdd
    have hl0 := h.list _ hkk
    have hc0 := h.cellList hkk
    have hset := fun (S : List Nat) (w1 : World) (m : Mod S w w1) (hS) (g' : Option Nat) (cap' : Nat) (l' : List Int) (hL : LAt w1 g' cap' l') (hg) => h.setList hkk m hS hL hg
    have hown := h.own _ hkk
    have hap := fun j hj hjk => h.apart _ j hkk hj hjk
    clear hne hlk cM
    generalize idxW s.now (dueW s id) = k at *
    generalize dueW s id = du at *
    obtain ⟨g, hg, _⟩ := hl0.cell (List.length_pos_iff.2 hne')
    rw [hg] at hl0 hc0 hown hap
    rw [lA_some] at hc0
    have hgl := hl0.lt g (by simp [lF])
    obtain ⟨hgd, hgm⟩ := hown g (by simp [lF])
    obtain ⟨cs, hcs, _⟩ := h.obj
    have hwl := h.lt
    clear hs
    have hc1 := hmB.at hc0 (by simp)
    generalize ho : 2 + k = o at *
    have hO := Lib.hid ho
    clear ho
    go_enter Tryd.func34, Tryd.ntmps34
    go_wp2
    go_quiet (fail)
    go_wp2_with (first
      | (
        go_at_call 58
        refine (hL0 _ (by exact (h.keep hmB (by simp)).same rfl)).mono ?_
        rintro e w2 ⟨rfl, k1, rfl⟩
        )
      | (
        go_at_call 59
        refine (drop_list w.heap.size g (G k).2 (s.lists k) id _ (by exact (hl0.keep hmB (by simp)).same rfl) (by exact cB) (by omega)).mono ?_
        rintro e w3 ⟨rfl, x3, m3⟩
        have mA : Mod [g] w w3 := Mod.trans (S := [g]) (T := [g]) (((Mod.refl _ _).alloc _).drewN _) m3 (by simp)
        have hcs2 := mA.keep hcs (by simp; omega)
        have c2 := mA.at hc0 (by simp; omega)
        have f2 := freeAt hcs2 o
        have z2 := ltOf hcs2
        have cB3 := m3.at (p := ⟨w.heap.size, 0, none⟩) (by exact cB) (by simp; omega)
        have H2 := Lib.hid (And.intro x3 (And.intro mA cB3))
        clear x3 mA m3 hcs2 cB3
        )
      )
    obtain ⟨x3, mA, cB3⟩ := H2.out
    have hW := hset [g] w3 mA (by simp; exact ⟨hgd, hgm, fun j hj hjk => fun hb => hap j hj (Ne.symm hjk) g (by simp [lF]) hb⟩) (some g) (G k).2 (wOut (s.lists k) id) x3 (by intro b hb; rw [hg]; exact .inl hb)
    rw [lA_some] at hW
    have hgw : g ∈ wBlocks d mb G := mem_wBlocks.2 (.inr (.inr ⟨k, hkk, by rw [hg]; simp [lF]⟩))
    have hmbl := hwl mb (mem_wBlocks.2 (.inr (.inl rfl)))
    have hmbd := h.ne
    have hdl := hwl d (mem_wBlocks.2 (.inl rfl))
    have m4 : Mod (wBlocks d mb G) w (w3.setCell ⟨d, o, none⟩ (.slice (some ⟨g, 0, none⟩) (wOut (s.lists k) id).length (G k).2)) := (mA.mono (T := wBlocks d mb G) (by intro b hb; rw [List.mem_singleton.1 hb]; exact .inl hgw)).setCell (.inl (mem_wBlocks.2 (.inl rfl))) _
    have cB4 : (w3.setCell ⟨d, o, none⟩ (.slice (some ⟨g, 0, none⟩) (wOut (s.lists k) id).length (G k).2)).cell? ⟨w.heap.size, 0, none⟩ = some (.int .i64 id) := ((Mod.refl [d] _).setCell (by simp) _).at cB3 (by simp; omega)
    generalize w3.setCell ⟨d, o, none⟩ (.slice (some ⟨g, 0, none⟩) (wOut (s.lists k) id).length (G k).2) = w4 at *
    have cM4 := hW.cellMap
    clear c2 f2 z2 x3 mA cB3 H2
    refine wp_region_held_drew (S := fun u => u.cell? ⟨d, 1, none⟩ = some (.map (some mb)) ∧ u.cell? ⟨w.heap.size, 0, none⟩ = some (.int .i64 id)) (by kernel_rfl) ⟨cM4, cB4⟩ (fun hHeld => ?_)
    refine wpAnyH_take (i := 0) (v := ?_) rfl (by kernel_rfl) (by kernel_rfl) (by kernel_rfl) (fun _ _ _ h => h) (Or.inl ⟨by rfl, ?_⟩) (by assumption) ?_
    rotate_left
    · intro w hSw; (try dsimp only at hSw); (go_simp <;> with_reducible rfl)
    try simp only [Act.put, List.setIfInBounds_toArray, List.set_cons_zero, List.set_cons_succ]
    refine wpAnyH_take (i := 1) (v := ?_) rfl (by kernel_rfl) (by kernel_rfl) (by kernel_rfl) (fun _ _ _ h => h) (Or.inl ⟨by rfl, ?_⟩) (by assumption) ?_
    rotate_left
    · intro w hSw; (try dsimp only at hSw); (go_simp <;> with_reducible rfl)
    try simp only [Act.put, List.setIfInBounds_toArray, List.set_cons_zero, List.set_cons_succ]
    refine wpAnyH_take (i := 2) (v := ?_) rfl (by kernel_rfl) (by kernel_rfl) (by kernel_rfl) (fun _ _ _ h => h) (Or.inl ⟨by rfl, ?_⟩) (by assumption) ?_
    rotate_left
    · intro w hSw; (try dsimp only at hSw); (go_simp <;> with_reducible rfl)
    try simp only [Act.put, List.setIfInBounds_toArray, List.set_cons_zero, List.set_cons_succ]
    refine wpAnyH_take (i := 3) (v := ?_) rfl (by kernel_rfl) (by kernel_rfl) (by kernel_rfl) (fun _ _ _ h => h) (Or.inl ⟨by rfl, ?_⟩) (by assumption) ?_
    rotate_left
    · intro w hSw; (try dsimp only at hSw); (go_simp <;> with_reducible rfl)
    try simp only [Act.put, List.setIfInBounds_toArray, List.set_cons_zero, List.set_cons_succ]
    refine wpAnyH_take (i := 4) (v := ?_) rfl (by kernel_rfl) (by kernel_rfl) (by kernel_rfl) (fun _ _ _ h => h) (Or.inl ⟨by rfl, ?_⟩) (by assumption) ?_
    rotate_left
    · intro w hSw; (try dsimp only at hSw); (go_simp <;> with_reducible rfl)
    try simp only [Act.put, List.setIfInBounds_toArray, List.set_cons_zero, List.set_cons_succ]
    obtain ⟨w5, hrun, m5, x5⟩ := map_delete (P := Tryd.prog) (w := w4.drew) (hW.map.same rfl) Tryd.underlying86 Tryd.underlying3 id
    rw [mdel_dues] at x5
    refine wpAnyH_ready (rs := [5]) (by kernel_rfl) (by simp) ?_
    refine AllReadyH.cons rfl (fun K hK => ?_) AllReadyH.nil
    go_simp
    refine hK.out _ _ ⟨m5.at cM4 (by simp; omega), m5.at cB4 (by simp; omega)⟩ (fun hHeld => ?_)
    clear hK K
    refine wpAnyH_done (by kernel_rfl) ?_ _
    go_wp2
    go_ret
    have hwl4 := hW.lt
    have hms := m4.size
    refine ⟨rfl, upd G k (some g, (G k).2), m4.trans (T := [mb]) m5.undrew (by intro b hb; rw [List.mem_singleton.1 hb]; exact .inl (mem_wBlocks.2 (.inr (.inl rfl)))), hW.setMap m5.undrew x5, fun b hb => ?_⟩
    rcases wBlocks_upd hb with hb | hb
    · exact .inl hb
    · rw [List.mem_singleton.1 hb]; exact .inl hgw
  · rw [if_neg hs, if_neg hs]
    have hs' : (dget s.dues id).isSome = false := by simpa using hs
    rw [hs'] at hlk1
    clear hne hs hs' hlk cM
    generalize dueW s id = du at *
    go_enter Tryd.func34, Tryd.ntmps34
    go_wp2
    go_quiet (fail)
    go_wp2
    go_ret
    exact ⟨rfl, G, hmB.mono (by simp) |>.drewN _, (h.keep hmB (by simp)).same rfl, fun b hb => .inl hb⟩
end Go.Proofs.YthieionajemjhaaDoor
