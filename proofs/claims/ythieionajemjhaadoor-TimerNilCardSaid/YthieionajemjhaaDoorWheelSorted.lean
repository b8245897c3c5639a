/- The walk over a wheel's sorted and Due: the ready things in the order of their dues and numbers. -/
import Derived.Test.YthieionajemjhaaDoorWheelSort
namespace Go.Proofs.YthieionajemjhaaDoor
set_option linter.unusedVariables false
set_option linter.unusedSimpArgs false
open Go.RowKit Go.Sort

theorem sortWorld_mod {α : Type} [Inhabited α] (enc : α → Value) (w : World) (blk off m : Nat) (dk : Array α) (os : Array Obj) : Mod [blk] w (sortWorld enc w blk off m dk os) := by
  refine ⟨rfl, rfl, rfl, ?_, ?_⟩
  · show w.heap.size ≤ ((w.heap.modify blk _) ++ os).size
    simp
  · intro k hk hS
    show ((w.heap.modify blk _) ++ os)[k]? = _
    rw [Array.getElem?_append_left (by simpa using hk), Array.getElem?_modify, if_neg (by simp at hS; omega)]
theorem ltW (s : SW) (x y : Int) : Go.Proofs.ltOf (cmpW s) x y = decide (dueW s x < dueW s y ∨ (dueW s x = dueW s y ∧ x < y)) := by
  unfold Go.Proofs.ltOf cmpW orW Lib.compareInt
  by_cases h1 : dueW s x < dueW s y
  · have h1' : ((dueW s x : Nat) : Int) < (dueW s y : Nat) := by omega
    rw [if_pos h1']
    simp [h1]
  · have h1' : ¬ ((dueW s x : Nat) : Int) < (dueW s y : Nat) := by omega
    rw [if_neg h1']
    by_cases h2 : dueW s y < dueW s x
    · have h2' : ((dueW s x : Nat) : Int) > (dueW s y : Nat) := by omega
      rw [if_pos h2']
      have : ¬ dueW s x = dueW s y := by omega
      simp [h1, this]
    · have h2' : ¬ ((dueW s x : Nat) : Int) > (dueW s y : Nat) := by omega
      rw [if_neg h2']
      have : dueW s x = dueW s y := by omega
      by_cases h3 : x < y
      · rw [if_pos h3]; simp [this, h3]
      · rw [if_neg h3]
        by_cases h4 : x > y
        · rw [if_pos h4]; simp [h3, this]
        · rw [if_neg h4]; simp [h3, this]
theorem cmpW_swo (s : SW) : SWO (Go.Proofs.ltOf (cmpW s)) where
  irrefl x := by rw [ltW]; simp
  trans x y z h1 h2 := by rw [ltW] at *; simp at *; omega
  ntrans x y z h1 h2 := by rw [ltW] at *; simp at *; omega
theorem cmpW_total (s : SW) (x y : Int) (h1 : Go.Proofs.ltOf (cmpW s) x y = false) (h2 : Go.Proofs.ltOf (cmpW s) y x = false) : x = y := by
  rw [ltW] at *; simp at *; omega
def sortW (s : SW) (l : List Int) : List Int := l.mergeSort (fun x y => !(Go.Proofs.ltOf (cmpW s) y x))
theorem sortW_len (s : SW) (l : List Int) : (sortW s l).length = l.length := by simp [sortW, List.length_mergeSort]
theorem arr_nth (l : List Int) (j : Nat) (h : j < l.length) : l.toArray[j]! = nth l j := by
  rw [getElem!_pos _ j (by simpa using h)]
  simp [nth, List.getD, h]
theorem wheel_SortFunc (d mb : Nat) (G : Nat → Option Nat × Nat) (s : SW) (l : List Int) (blk cap pb : Nat) (w : World) (h : WheelAt w d mb G s) (hL : LAt w (some blk) cap l) (hb : blk ∉ wBlocks d mb G) (hp : w.cell? ⟨pb, 0, none⟩ = some (.pointer (some ⟨d, 0, none⟩))) (hpb : pb ≠ blk) (hlen : l.length < 1000000) :
    Calls Tryd.prog 75 #[.slice (some ⟨blk, 0, none⟩) l.length cap, .func (.func 76) #[] #[.pointer (some ⟨pb, 0, none⟩)]] w
      (fun e w' => e = .returned (.tuple #[]) ∧ Mod [blk] w w' ∧ ∀ j, j < l.length → w'.cell? ⟨blk, j, none⟩ = some (.int .i64 (nth (sortW s l) j))) := by
  have eg : ∀ args w, (callFunc 76 args).run Tryd.prog w = .ok (.enter 76 args) w := enters_of Tryd.func76 (by kernel_rfl) rfl
  have hH : Holds (Value.int .i64) w blk 0 l.toArray := by
    intro j hj
    have hj' : j < l.length := by simpa using hj
    obtain ⟨b, e, hc⟩ := hL.cell hj'
    cases e
    obtain ⟨cur, hcur, _⟩ := hL
    rw [Nat.zero_add, arr_nth l j hj']
    exact ⟨hc, freeAt hcur j⟩
  have hlt : blk < w.heap.size := hL.lt blk (by simp [lF])
  have hcmp : CmpLays1 Tryd.prog 76 #[.pointer (some ⟨pb, 0, none⟩)] (Value.int .i64) (cmpW s) blk 0 l.toArray.size w := by
    intro m os dk hs x y
    have mm := sortWorld_mod (Value.int .i64) w blk 0 m dk os
    exact sorted_cmp pb d mb G s x y _ (mm.at hp (by simpa using hpb)) (h.keep mm (fun b hb' => by simp; rintro rfl; exact hb hb'))
  have hcon := Any.slices_SortFunc_total sortL (Value.int .i64) (fun _ => rfl) (cmpW s) (cmpW_swo s) 76 #[.pointer (some ⟨pb, 0, none⟩)] blk 0 cap l.toArray w eg hcmp hH hlt (by simp; omega) (cmpW_total s)
  refine Calls.mono (show Calls Tryd.prog 75 _ _ _ from hcon) ?_
  rintro e w' ⟨rfl, n, os, rfl⟩
  refine ⟨rfl, sortWorld_mod _ _ _ _ _ _ _, fun j hj => ?_⟩
  have hsz : (sortW s l).length = l.length := sortW_len s l
  have h1 := cell?_putRow (Value.int .i64) (Sort.ahead w n) blk 0 l.toArray (sortW s l).toArray (holds_ahead _ _ _ _ _ _ hH) (by simp [hsz]) j (by simp [hsz]; exact hj)
  rw [arr_nth _ _ (by omega), Nat.zero_add] at h1
  rw [← h1]
  unfold sortWorld
  exact cell?_grow _ _ _ (by simpa using hlt)
/-- What has been made since w. -/
def IsNew (w : World) (a : Option Addr) : Prop := ∀ b o, a = some ⟨b, o, none⟩ → w.heap.size ≤ b
theorem wheel_SortAny (d mb : Nat) (G : Nat → Option Nat × Nat) (s : SW) (l : List Int) (g : Option Nat) (cap pb : Nat) (w : World) (h : WheelAt w d mb G s) (hL : LAt w g cap l) (hb : ∀ b, b ∈ lF g → b ∉ wBlocks d mb G ∧ b ≠ pb) (hp : w.cell? ⟨pb, 0, none⟩ = some (.pointer (some ⟨d, 0, none⟩))) (hlen : l.length < 1000000) :
    Calls Tryd.prog 75 #[.slice (lA g) l.length cap, .func (.func 76) #[] #[.pointer (some ⟨pb, 0, none⟩)]] w
      (fun e w' => e = .returned (.tuple #[]) ∧ Mod (lF g) w w' ∧ IsInts w' (lA g) (sortW s l)) := by
  by_cases hl : l = []
  · subst hl
    have hcon := AnyF.slices_SortFunc_none (ρ := sortL_ren) { sortL with } (lA g) cap (.func (.func 76) #[] #[.pointer (some ⟨pb, 0, none⟩)]) w
    refine Calls.mono (show Calls Tryd.prog 75 _ _ _ from hcon) ?_
    rintro e w' ⟨rfl, rfl⟩
    exact ⟨rfl, Mod.refl _ _, .inl (by simp [sortW])⟩
  · have h0 : 0 < l.length := List.length_pos_iff.2 hl
    obtain ⟨b, rfl, _⟩ := hL.cell h0
    have hbb := hb b (by simp [lF])
    refine (wheel_SortFunc d mb G s l b cap pb w h hL hbb.1 hp (Ne.symm hbb.2) hlen).mono ?_
    rintro e w' ⟨rfl, m, hc⟩
    refine ⟨rfl, m, .inr ⟨b, rfl, Nat.lt_of_lt_of_le (hL.lt b (by simp [lF])) m.size, fun j hj => hc j (by rwa [sortW_len] at hj)⟩⟩
set_option maxRecDepth 100000 in
set_option maxHeartbeats 1000000 in
theorem wheel_sorted (d mb : Nat) (G : Nat → Option Nat × Nat) (s : SW) (g : Option Nat) (cap : Nat) (l : List Int) (w : World) (h : WheelAt w d mb G s) (hL : LAt w g cap l) (hlen : l.length < 1000000) :
    Calls Tryd.prog 64 #[.pointer (some ⟨d, 0, none⟩), .slice (lA g) l.length cap] w (fun e w' => ∃ a cap', e = .returned (.slice a l.length cap') ∧ Mod [] w w' ∧ IsInts w' a (sortW s l) ∧ IsNew w a) := by
  have mP : Mod [] w (w.alloc (.cells #[.pointer (some ⟨d, 0, none⟩)] 71)) := (Mod.refl _ _).alloc _
  have hC := slices_Clone g cap l _ (hL.keep mP (by simp)) hlen
  have hwl := h.lt
  have hp0 := heapNew w (.cells #[.pointer (some ⟨d, 0, none⟩)] 71)
  go_enter Tryd.func64, Tryd.ntmps64
  go_wp2_with (first
    | (
      go_at_call 74
      refine hC.mono ?_
      rintro e w2 ⟨g2, cap2, rfl, x2, m2, n2⟩
      )
    | (
      go_at_call 75
      have h2 := (h.keep mP (by simp)).keep m2 (by simp)
      have hp2 := m2.keep hp0 (by simp)
      have n3 : ∀ b, b ∈ lF g2 → w.heap.size + 1 ≤ b := fun b hb => by have := n2 b hb; simpa using this
      have hS := wheel_SortAny d mb G s l g2 cap2 w.heap.size w2 h2 x2 (fun b hb => ⟨fun hb' => by have := n3 b hb; have := hwl b hb'; omega, by have := n3 b hb; omega⟩) (cellAt hp2 0) hlen
      refine hS.mono ?_
      rintro e w3 ⟨rfl, m3, x3⟩
      )
    )
  go_ret
  refine ⟨lA g2, cap2, rfl, (mP.trans m2 (by simp)).trans m3 (fun b hb => ?_), x3, fun b o e => ?_⟩
  · have := n2 b hb
    simp at this
    right; omega
  · cases g2 with
    | none => simp [lA] at e
    | some g2 =>
      simp [lA] at e
      have := n2 b (by simp [lF, e.1])
      simp at this
      omega
/-- Due. -/
theorem wheel_Due (d mb : Nat) (G : Nat → Option Nat × Nat) (s : SW) (w : World) (h : WheelAt w d mb G s) (hlen : (s.lists 168).length < 1000000) :
    Calls Tryd.prog 36 #[.pointer (some ⟨d, 0, none⟩)] w (fun e w' => ∃ a cap', e = .returned (.slice a (s.lists 168).length cap') ∧ Mod [] w w' ∧ IsInts w' a (sortW s (s.lists 168)) ∧ IsNew w a) := by
  have cR : w.cell? ⟨d, 170, none⟩ = some (.slice (lA (G 168).1) (s.lists 168).length (G 168).2) := h.cellList (k := 168) (by omega)
  have hS := wheel_sorted d mb G s _ _ _ w h (h.list 168 (by omega)) hlen
  go_enter Tryd.func36, Tryd.ntmps36
  go_wp2_with (go_at_call 64; refine hS.mono ?_; rintro e w2 ⟨a, cap', rfl, m2, x2, n2⟩)
  go_ret
  exact ⟨a, cap', rfl, m2, x2, n2⟩
end Go.Proofs.YthieionajemjhaaDoor
