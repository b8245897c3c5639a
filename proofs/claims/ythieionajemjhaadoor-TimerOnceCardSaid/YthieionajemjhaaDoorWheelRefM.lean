/- Several texts in one (each with its own sentence below). -/
import Derived.Test.YthieionajemjhaaDoorWheelM
import Derived.Test.YthieionajemjhaaDoorBaseM
/- The document's wheel: where it lies, and the walks over it. -/
namespace Go.Proofs.YthieionajemjhaaDoor
set_option linter.unusedVariables false
set_option linter.unusedSimpArgs false
open Go.RowKit

def itemsV (L : List (Int × Nat)) : List Value := L.flatMap (fun p => [Value.int .i64 p.1, Value.int .i64 (p.2 : Nat)])
theorem itemsV_len : ∀ (L : List (Int × Nat)), (itemsV L).length = L.length * 2
  | [] => rfl
  | p :: L => by
    show ([_, _] ++ itemsV L).length = _
    rw [List.length_append, itemsV_len L]
    simp; omega
theorem itemsV_append (L M : List (Int × Nat)) : itemsV (L ++ M) = itemsV L ++ itemsV M := by simp [itemsV]
theorem itemsV_one : ∀ (L : List (Int × Nat)) (u : Value), u ∈ itemsV L → u.oneCell' = true := by
  intro L u hu
  obtain ⟨p, _, hp⟩ := List.mem_flatMap.1 hu
  simp at hp
  rcases hp with rfl | rfl <;> rfl
def nthP (L : List (Int × Nat)) (i : Nat) : Int × Nat := L.getD i (0, 0)
theorem nthP_mem {L : List (Int × Nat)} {i : Nat} (h : i < L.length) : nthP L i ∈ L := by
  have : nthP L i = L[i] := by simp [nthP, List.getD, h]
  rw [this]; exact List.getElem_mem h
theorem takeP {L : List (Int × Nat)} {i : Nat} (h : i < L.length) : L.take (i + 1) = L.take i ++ [nthP L i] := by
  rw [List.take_add_one, List.getElem?_eq_getElem h]
  simp [nthP, List.getD, h]
theorem itemsV_drop : ∀ (L : List (Int × Nat)) (i : Nat), (itemsV L).drop (i * 2) = itemsV (L.drop i)
  | L, 0 => by simp
  | [], i + 1 => by simp [itemsV]
  | p :: L, i + 1 => by
    have : (itemsV (p :: L)).drop ((i + 1) * 2) = (itemsV L).drop (i * 2) := by
      show ((Value.int .i64 p.1) :: (Value.int .i64 (p.2 : Nat)) :: itemsV L).drop ((i + 1) * 2) = _
      rw [show (i + 1) * 2 = i * 2 + 1 + 1 by omega]
      rfl
    rw [this, itemsV_drop L i]; rfl
theorem itemsV_take (L : List (Int × Nat)) (i : Nat) (h : i ≤ L.length) : (itemsV L).take (i * 2) = itemsV (L.take i) := by
  have h1 : itemsV L = itemsV (L.take i) ++ itemsV (L.drop i) := by rw [← itemsV_append, List.take_append_drop]
  rw [h1]
  have h2 : (itemsV (L.take i)).length = i * 2 := by rw [itemsV_len, List.length_take, Nat.min_eq_left h]
  rw [List.take_append_of_le_length (by omega), List.take_of_length_le (by omega)]
theorem itemsV_at {L : List (Int × Nat)} {i : Nat} (h : i < L.length) : (itemsV L)[i * 2]? = some (.int .i64 (nthP L i).1) ∧ (itemsV L)[i * 2 + 1]? = some (.int .i64 ((nthP L i).2 : Nat)) := by
  have h1 := itemsV_drop L i
  have h2 : L.drop i = nthP L i :: L.drop (i + 1) := by
    rw [List.drop_eq_getElem_cons h]
    simp [nthP, List.getD, h]
  rw [h2] at h1
  have h3 : ∀ k, (itemsV L)[i * 2 + k]? = (itemsV (nthP L i :: L.drop (i + 1)))[k]? := by
    intro k
    rw [← h1, List.getElem?_drop]
  exact ⟨h3 0, h3 1⟩

/-- The document's wheel at block d. -/
structure RWAt (w : World) (d : Nat) (g : Option Nat) (cap : Nat) (now : Nat) (L : List (Int × Nat)) : Prop where
  obj : w.heap[d]? = some (.cells #[.int .i64 now, .slice (rA g) L.length cap] 56 (0,0))
  row : RAt 102 2 w g cap L.length (itemsV L)
  ne : ∀ b, b ∈ rF g → b ≠ d
def rwBlocks (d : Nat) (g : Option Nat) : List Nat := d :: rF g
theorem RWAt.keep {S : List Nat} {w w' : World} {d : Nat} {g : Option Nat} {cap now : Nat} {L : List (Int × Nat)} (h : RWAt w d g cap now L) (m : Mod S w w') (hS : ∀ b, b ∈ rwBlocks d g → b ∉ S) : RWAt w' d g cap now L :=
  ⟨m.keep h.obj (hS d List.mem_cons_self), h.row.keep m (fun b hb => hS b (List.mem_cons_of_mem _ hb)), h.ne⟩
theorem RWAt.same {w w' : World} {d : Nat} {g : Option Nat} {cap now : Nat} {L : List (Int × Nat)} (h : RWAt w d g cap now L) (e : w'.heap = w.heap) : RWAt w' d g cap now L :=
  ⟨by rw [e]; exact h.obj, h.row.same e, h.ne⟩
theorem RWAt.lt {w : World} {d : Nat} {g : Option Nat} {cap now : Nat} {L : List (Int × Nat)} (h : RWAt w d g cap now L) : ∀ b, b ∈ rwBlocks d g → b < w.heap.size := by
  intro b hb
  rcases List.mem_cons.1 hb with rfl | hb
  · exact ltOf h.obj
  · exact h.row.lt b hb
/-- Item i of a list, in memory. -/
theorem RWAt.item {w : World} {d : Nat} {g : Option Nat} {cap now : Nat} {L : List (Int × Nat)} (h : RWAt w d g cap now L) {i : Nat} (hi : i < L.length) : ∃ b, g = some b ∧ w.cell? ⟨b, i * 2, none⟩ = some (.int .i64 (nthP L i).1) ∧ w.cell? ⟨b, i * 2 + 1, none⟩ = some (.int .i64 ((nthP L i).2 : Nat)) := by
  obtain ⟨e1, e2⟩ := itemsV_at hi
  obtain ⟨b, hb, h1⟩ := h.row.cell e1
  obtain ⟨b', hb', h2⟩ := h.row.cell e2
  rw [hb] at hb'
  cases hb'
  exact ⟨b, hb, h1, h2⟩
def findI (L : List (Int × Nat)) (id : Int) : Int := match dfind L id 0 with | some (n, _) => n | none => -1
theorem dfind_at : ∀ {m : List (Int × Nat)} {i : Int} {j k : Nat}, (∀ q, q < k → (nthP m q).1 ≠ i) → k < m.length → (nthP m k).1 = i → dfind m i j = some (j + k, (nthP m k).2)
  | [], i, j, k, _, h, _ => by simp at h
  | p :: m, i, j, 0, _, _, h => by
    unfold dfind
    have : nthP (p :: m) 0 = p := rfl
    rw [this] at h ⊢
    rw [if_pos h.symm]; rfl
  | p :: m, i, j, k + 1, h0, h1, h => by
    unfold dfind
    have e : ∀ q, nthP (p :: m) (q + 1) = nthP m q := fun q => by simp [nthP]
    have hp := h0 0 (by omega)
    have : nthP (p :: m) 0 = p := rfl
    rw [this] at hp
    rw [if_neg (fun x => hp x.symm)]
    rw [e] at h ⊢
    rw [dfind_at (k := k) (fun q hq => by rw [← e]; exact h0 (q + 1) (by omega)) (by simpa using h1) h]
    congr 2; omega
theorem dfind_not : ∀ {m : List (Int × Nat)} {i : Int} {j : Nat}, (∀ q, q < m.length → (nthP m q).1 ≠ i) → dfind m i j = none
  | [], i, j, _ => rfl
  | p :: m, i, j, h0 => by
    unfold dfind
    have hp := h0 0 (by simp)
    have : nthP (p :: m) 0 = p := rfl
    rw [this] at hp
    rw [if_neg (fun x => hp x.symm)]
    exact dfind_not (fun q hq => by
      have e : nthP (p :: m) (q + 1) = nthP m q := by simp [nthP]
      rw [← e]; exact h0 (q + 1) (by simpa using hq))
theorem rA_some (b : Nat) : rA (some b) = some ⟨b, 0, none⟩ := rfl
set_option maxRecDepth 100000 in
theorem rwheel_Find (d : Nat) (g : Option Nat) (cap now : Nat) (L : List (Int × Nat)) (w : World) (h : RWAt w d g cap now L) (id : Int) : Calls Tryd.prog 46 #[.pointer (some ⟨d, 0, none⟩), .int .i64 id] w (Ret (.int .i64 (findI L id)) w) := by
  have c0 : w.cell? ⟨d, 0, none⟩ = some (.int .i64 now) := cellAt h.obj 0
  have c1 : w.cell? ⟨d, 1, none⟩ = some (.slice (rA g) L.length cap) := cellAt h.obj 1
  have hcap := h.row.cap
  unfold maxLen at hcap
  obtain ⟨hcap1, hcap2⟩ := hcap
  have hIt := fun i (hi : i < L.length) => h.item hi
  clear h
  go_enter Tryd.func46, Tryd.ntmps46
  go_wp2
  go_loopg [5] L.length (fun gg i wr => ∃ j : Nat, i = .int .i64 j ∧ j + gg = L.length ∧ (∀ q, q < j → (nthP L q).1 ≠ id) ∧ w = wr)
  case atStart => exact ⟨0, rfl, by omega, fun q hq => by omega, rfl⟩
  case round =>
    obtain ⟨j, rfl, hj, hq, rfl⟩ := hrel
    by_cases hjl : j < L.length
    · obtain ⟨b, rfl, cj, cj2⟩ := hIt j hjl
      rw [rA_some] at *
      by_cases e : (nthP L j).1 = id
      · have hD : findI L id = j := by unfold findI; rw [dfind_at hq hjl e]; simp
        have HD := Lib.hid hD
        rw [e] at cj
        clear hD e hq cj2 hIt
        go_wp2
        go_ret
        exact Ret.of (by rw [HD.out]; rfl) (by repeat (first | exact Drew.refl _ | apply Drew.drewN | apply Drew.drew))
      · have e' : ((nthP L j).1 == id) = false := by simpa using e
        have hq' : ∀ q, q < j + 1 → (nthP L q).1 ≠ id := fun q h => by
          by_cases e2 : q = j
          · exact e2 ▸ e
          · exact hq q (by omega)
        clear hq
        generalize (nthP L j).1 = x at *
        clear cj2 hIt
        go_wp2
        go_roundg (gk - 1)
        case measure => omega
        case rel => exact ⟨j + 1, by go_num, by omega, hq', rfl⟩
    · have hD : findI L id = -1 := by unfold findI; rw [dfind_not (fun q hq' => hq q (by omega))]
      have HD := Lib.hid hD
      clear hD hq hIt
      go_wp2
      go_ret
      exact Ret.of (by rw [HD.out]; rfl) (by repeat (first | exact Drew.refl _ | apply Drew.drewN | apply Drew.drew))
end Go.Proofs.YthieionajemjhaaDoor

/- The walks over the document's wheel: New, Go, Next, When, List, Due. -/
namespace Go.Proofs.YthieionajemjhaaDoor
set_option linter.unusedVariables false
set_option linter.unusedSimpArgs false
open Go.RowKit

set_option maxRecDepth 100000 in
theorem rwheel_New (n : Nat) (ht : tickOk n) (w : World) : Calls Tryd.prog 37 #[.int .i64 n] w (fun e w' => ∃ d, e = .returned (.tuple #[.pointer (some ⟨d, 0, none⟩), .int .i64 0]) ∧ RWAt w' d none 0 n [] ∧ Mod [] w w' ∧ w.heap.size ≤ d) := by
  have h1 := ht.1
  have h2 := ht.2
  clear ht
  go_enter Tryd.func37, Tryd.ntmps37
  go_wp2
  go_ret2
  refine ⟨w.heap.size, rfl, ⟨heapNew _ _, RAt.nil _ _ _, by simp [rF]⟩, ?_, Nat.le_refl _⟩
  repeat (first | with_reducible exact Mod.refl _ _ | with_reducible apply Mod.alloc | with_reducible apply Mod.drewN | with_reducible apply Mod.drew | with_reducible refine Mod.setCell ?_ (by first | (simp; done) | (simp; omega)) _)
set_option maxRecDepth 100000 in
theorem rwheel_New_no (t : Int) (ht : ¬ tickOk t) (w : World) : Calls Tryd.prog 37 #[.int .i64 t] w (Ret (.tuple #[.pointer none, .int .i64 2]) w) := by
  have hc : t < 0 ∨ (0 ≤ t ∧ 1152921504606846976 < t) := by unfold tickOk at ht; omega
  clear ht
  rcases hc with h1 | ⟨h1, h2⟩
  all_goals
    go_enter Tryd.func37, Tryd.ntmps37
    go_wp2
    go_ret2
    exact Ret.of (rfl) (by repeat (first | exact Drew.refl _ | apply Drew.drewN | apply Drew.drew))
/-- Go: the errno; the tick. -/
def rgoE (now : Nat) (t : Int) : Int := if t < now ∨ 1152921504606846976 < t then 2 else 0
def rgo (now : Nat) (t : Int) : Nat := if t < now ∨ 1152921504606846976 < t then now else t.toNat
set_option maxRecDepth 100000 in
theorem rwheel_Go (d : Nat) (g : Option Nat) (cap now : Nat) (L : List (Int × Nat)) (w : World) (h : RWAt w d g cap now L) (t : Int) : Calls Tryd.prog 67 #[.pointer (some ⟨d, 0, none⟩), .int .i64 t] w (Rets (.int .i64 (rgoE now t)) [d] w fun w' => RWAt w' d g cap (rgo now t) L) := by
  have c0 : w.cell? ⟨d, 0, none⟩ = some (.int .i64 now) := cellAt h.obj 0
  have c1 : w.cell? ⟨d, 1, none⟩ = some (.slice (rA g) L.length cap) := cellAt h.obj 1
  have hcap := h.row.cap
  unfold maxLen at hcap
  obtain ⟨hcap1, hcap2⟩ := hcap
  have f0 : w.frozen? ⟨d, 0, none⟩ = false := freeAt h.obj 0
  unfold rgoE rgo
  by_cases ht : t < now
  · rw [if_pos (.inl ht), if_pos (.inl ht)]
    go_enter Tryd.func67, Tryd.ntmps67
    go_wp2
    go_ret
    exact Rets.of rfl (Mod.refl _ _) h
  · by_cases ht2 : 1152921504606846976 < t
    · rw [if_pos (.inr ht2), if_pos (.inr ht2)]
      go_enter Tryd.func67, Tryd.ntmps67
      go_wp2
      go_ret
      exact Rets.of rfl (Mod.refl _ _) h
    · rw [if_neg (by omega), if_neg (by omega)]
      obtain ⟨n, rfl⟩ := Int.eq_ofNat_of_zero_le (show 0 ≤ t by omega)
      have e : ((n : Nat) : Int).toNat = n := by omega
      rw [e]
      clear e
      go_enter Tryd.func67, Tryd.ntmps67
      go_wp2
      go_ret
      have mc : Mod [d] w (w.setCell ⟨d, 0, none⟩ (.int .i64 n)) := (Mod.refl _ _).setCell (by simp) _
      refine Rets.of rfl mc ⟨?_, h.row.keep mc (fun b hb => by simp; exact h.ne b hb), h.ne⟩
      rw [heapSet h.obj]; simp
def rnextV (L : List (Int × Nat)) : Nat := (nthP L 0).2
def rnextE (L : List (Int × Nat)) : Int := if L = [] then 12 else 0
set_option maxRecDepth 100000 in
theorem rwheel_Next (d : Nat) (g : Option Nat) (cap now : Nat) (L : List (Int × Nat)) (w : World) (h : RWAt w d g cap now L) : Calls Tryd.prog 45 #[.pointer (some ⟨d, 0, none⟩)] w (Ret (.tuple #[.int .i64 (rnextV L), .int .i64 (rnextE L)]) w) := by
  have c0 : w.cell? ⟨d, 0, none⟩ = some (.int .i64 now) := cellAt h.obj 0
  have c1 : w.cell? ⟨d, 1, none⟩ = some (.slice (rA g) L.length cap) := cellAt h.obj 1
  have hcap := h.row.cap
  unfold maxLen at hcap
  obtain ⟨hcap1, hcap2⟩ := hcap
  unfold rnextE rnextV
  by_cases hL : L = []
  · subst hL
    rw [if_pos rfl]
    have e : ((nthP [] 0).2 : Int) = 0 := rfl
    rw [e]
    simp only [List.length_nil] at c1
    clear e h hcap1
    go_enter Tryd.func45, Tryd.ntmps45
    go_wp2
    go_ret2
    exact Ret.of (rfl) (by repeat (first | exact Drew.refl _ | apply Drew.drewN | apply Drew.drew))
  · rw [if_neg hL]
    have hl : 0 < L.length := List.length_pos_iff.2 hL
    obtain ⟨b, rfl, cj, cj2⟩ := h.item hl
    rw [rA_some] at *
    simp only [Nat.zero_mul, Nat.zero_add] at cj cj2
    clear hL h
    generalize (nthP L 0).2 = x at *
    go_enter Tryd.func45, Tryd.ntmps45
    go_wp2
    go_ret2
    exact Ret.of (rfl) (by repeat (first | exact Drew.refl _ | apply Drew.drewN | apply Drew.drew))
set_option maxRecDepth 100000 in
theorem rwheel_When (d : Nat) (g : Option Nat) (cap now : Nat) (L : List (Int × Nat)) (w : World) (h : RWAt w d g cap now L) (id : Int) : Calls Tryd.prog 48 #[.pointer (some ⟨d, 0, none⟩), .int .i64 id] w (Ret (.tuple #[.int .i64 ((dget L id).getD 0 : Nat), .bool (dget L id).isSome]) w) := by
  have c0 : w.cell? ⟨d, 0, none⟩ = some (.int .i64 now) := cellAt h.obj 0
  have c1 : w.cell? ⟨d, 1, none⟩ = some (.slice (rA g) L.length cap) := cellAt h.obj 1
  have hcap := h.row.cap
  unfold maxLen at hcap
  obtain ⟨hcap1, hcap2⟩ := hcap
  have hF := rwheel_Find d g cap now L w h id
  unfold dget
  unfold findI at hF
  cases hd : dfind L id 0 with
  | none =>
    rw [hd] at hF
    simp only [Option.map_none, Option.getD_none, Option.isSome_none] at *
    clear h hd
    go_enter Tryd.func48, Tryd.ntmps48
    go_wp2_with (go_at_call 46; refine hF.mono ?_; rintro e w' ⟨rfl, k, rfl⟩)
    go_ret2
    exact Ret.of (rfl) (by repeat (first | exact Drew.refl _ | apply Drew.drewN | apply Drew.drew))
  | some p =>
    obtain ⟨n, v⟩ := p
    rw [hd] at hF
    simp only [Option.map_some, Option.getD_some, Option.isSome_some] at *
    have hn : n < L.length ∧ (nthP L n).2 = v := by
      have hx : ∀ (m : List (Int × Nat)) (j : Nat), dfind m id j = some (n, v) → ∃ q, n = j + q ∧ q < m.length ∧ (nthP m q).2 = v := by
        intro m
        induction m with
        | nil => intro j h; cases h
        | cons p m ih =>
          intro j h
          unfold dfind at h
          split at h
          · simp at h
            exact ⟨0, by omega, by simp, h.2⟩
          · obtain ⟨q, a1, a2, a3⟩ := ih (j + 1) h
            exact ⟨q + 1, by omega, by simp; omega, by simpa [nthP] using a3⟩
      obtain ⟨q, a1, a2, a3⟩ := hx L 0 hd
      rw [show n = q by omega]
      exact ⟨a2, a3⟩
    obtain ⟨hn1, hn2⟩ := hn
    obtain ⟨b, rfl, cj, cj2⟩ := h.item hn1
    rw [hn2] at cj2
    rw [rA_some] at *
    clear h hd hn2 cj
    go_enter Tryd.func48, Tryd.ntmps48
    go_wp2_with (go_at_call 46; refine hF.mono ?_; rintro e w' ⟨rfl, k, rfl⟩)
    go_ret2
    exact Ret.of (rfl) (by repeat (first | exact Drew.refl _ | apply Drew.drewN | apply Drew.drew))
/-- The call made a new slice of ints. -/
def IntsDo (l : List Int) (w : World) (e : Ending) (w' : World) : Prop :=
  ∃ g' cap', e = .returned (.slice (lA g') l.length cap') ∧ LAt w' g' cap' l ∧ Mod [] w w' ∧ ∀ b, b ∈ lF g' → w.heap.size ≤ b
def idsOf (L : List (Int × Nat)) : List Int := L.map (·.1)
set_option maxRecDepth 100000 in
theorem rwheel_List (d : Nat) (g : Option Nat) (cap now : Nat) (L : List (Int × Nat)) (w : World) (h : RWAt w d g cap now L) (hm : L.length < 1000000) : Calls Tryd.prog 49 #[.pointer (some ⟨d, 0, none⟩)] w (IntsDo (idsOf L) w) := by
  have c0 : w.cell? ⟨d, 0, none⟩ = some (.int .i64 now) := cellAt h.obj 0
  have c1 : w.cell? ⟨d, 1, none⟩ = some (.slice (rA g) L.length cap) := cellAt h.obj 1
  have hcap := h.row.cap
  unfold maxLen at hcap
  obtain ⟨hcap1, hcap2⟩ := hcap
  have hbl := h.lt
  go_enter Tryd.func49, Tryd.ntmps49
  go_wp2
  go_loopg [3, 4] L.length (fun gg out i wr => ∃ (j : Nat) (g' : Option Nat) (cap' : Nat), i = .int .i64 j ∧ j + gg = L.length ∧ out = .slice (lA g') (idsOf (L.take j)).length cap' ∧ LAt wr g' cap' (idsOf (L.take j)) ∧ Mod [] w wr ∧ ∀ b, b ∈ lF g' → w.heap.size ≤ b)
  case atStart => exact ⟨0, none, 0, rfl, by omega, rfl, ⟨rfl, rfl⟩, Mod.refl _ _, by simp [lF]⟩
  case round =>
    obtain ⟨j, g', cap', rfl, hj, rfl, hL, m, hg'⟩ := hrel
    have c1' := m.at c1 (by simp)
    by_cases hjl : j < L.length
    · obtain ⟨b, rfl, cj', _⟩ := h.item hjl
      have cj := m.at cj' (by simp)
      rw [rA_some] at *
      have hW : idsOf (L.take (j + 1)) = idsOf (L.take j) ++ [(nthP L j).1] := by rw [takeP hjl]; simp [idsOf]
      have hlen : (idsOf (L.take j)).length < 1000000 := by simp [idsOf]; omega
      obtain ⟨g2, cap2, w2, hrun, hL2, m2, hg2⟩ := (hL.keep ((Mod.refl [] wr).alloc (Obj.cells #[.int .i64 (nthP L j).1] 3)) (by simp)).append hlen (heapNew _ _)
      have m3 : Mod [] w w2 := (m.alloc _).trans m2 (fun b hb => .inr (hg' b hb))
      rw [sizeNew] at hg2
      have hms := m.size
      clear cj' hL c1
      go_wp2_with (at_builtin; refine wpList_append_run rfl _ _ _ rfl rfl rfl (hrun _) ?_)
      go_roundg (gk - 1)
      case measure => omega
      case rel =>
        refine ⟨j + 1, some g2, cap2, by go_num, by omega, by rw [hW]; simp [lA], by rw [hW]; exact hL2, m3, ?_⟩
        intro b hb
        simp [lF] at hb
        subst hb
        rcases hg2 with hg2 | hg2
        · exact hg' _ hg2
        · omega
    · have hT : L.take j = L := List.take_of_length_le (by omega)
      rw [hT] at hL ⊢
      go_wp2
      go_ret
      exact ⟨g', cap', rfl, hL, m, hg'⟩
def dueL (now : Nat) (L : List (Int × Nat)) : List (Int × Nat) := L.filter (fun p => decide (p.2 ≤ now))
set_option maxRecDepth 100000 in
theorem rwheel_Due (d : Nat) (g : Option Nat) (cap now : Nat) (L : List (Int × Nat)) (w : World) (h : RWAt w d g cap now L) (hm : L.length < 1000000) : Calls Tryd.prog 50 #[.pointer (some ⟨d, 0, none⟩)] w (IntsDo (idsOf (dueL now L)) w) := by
  have c0 : w.cell? ⟨d, 0, none⟩ = some (.int .i64 now) := cellAt h.obj 0
  have c1 : w.cell? ⟨d, 1, none⟩ = some (.slice (rA g) L.length cap) := cellAt h.obj 1
  have hcap := h.row.cap
  unfold maxLen at hcap
  obtain ⟨hcap1, hcap2⟩ := hcap
  have hbl := h.lt
  go_enter Tryd.func50, Tryd.ntmps50
  go_wp2
  go_loopg [3, 4] L.length (fun gg out i wr => ∃ (j : Nat) (g' : Option Nat) (cap' : Nat), i = .int .i64 j ∧ j + gg = L.length ∧ out = .slice (lA g') (idsOf (dueL now (L.take j))).length cap' ∧ LAt wr g' cap' (idsOf (dueL now (L.take j))) ∧ Mod [] w wr ∧ ∀ b, b ∈ lF g' → w.heap.size ≤ b)
  case atStart => exact ⟨0, none, 0, rfl, by omega, rfl, ⟨rfl, rfl⟩, Mod.refl _ _, by simp [lF]⟩
  case round =>
    obtain ⟨j, g', cap', rfl, hj, rfl, hL, m, hg'⟩ := hrel
    have c1' := m.at c1 (by simp)
    have c0' := m.at c0 (by simp)
    by_cases hjl : j < L.length
    · obtain ⟨b, rfl, cj', ck'⟩ := h.item hjl
      have cj := m.at cj' (by simp)
      have ck := m.at ck' (by simp)
      rw [rA_some] at *
      by_cases hd : (nthP L j).2 ≤ now
      · have hW : idsOf (dueL now (L.take (j + 1))) = idsOf (dueL now (L.take j)) ++ [(nthP L j).1] := by rw [takeP hjl]; simp [idsOf, dueL, hd]
        have hlen : (idsOf (dueL now (L.take j))).length < 1000000 := by
          have : (dueL now (L.take j)).length ≤ (L.take j).length := List.length_filter_le _ _
          simp [idsOf] at *; omega
        have happ := fun nq => (hL.keep (((Mod.refl [] wr).drewN nq).alloc (Obj.cells #[.int .i64 (nthP L j).1] 3)) (by simp)).append hlen (heapNew _ _)
        have hms := m.size
        have hd2 : decide (((nthP L j).2 : Int) ≤ (now : Int)) = true := decide_eq_true (by omega)
        clear cj' hL c1 ck' c0
        generalize (nthP L j).2 = v at *
        go_wp2
        go_quiet (fail)
        obtain ⟨g2, cap2, w2, hrun, hL2, m2, hg2⟩ := happ nq
        have m3 : Mod [] w w2 := ((m.drewN nq).alloc _).trans m2 (fun b hb => .inr (hg' b hb))
        rw [sizeNew] at hg2
        clear happ
        go_wp2_with (at_builtin; refine wpList_append_run rfl _ _ _ rfl rfl rfl (hrun _) ?_)
        go_roundg (gk - 1)
        case measure => omega
        case rel =>
          refine ⟨j + 1, some g2, cap2, by go_num, by omega, by rw [hW]; simp [lA], by rw [hW]; exact hL2, m3, ?_⟩
          intro b hb
          simp [lF] at hb
          subst hb
          rcases hg2 with hg2 | hg2
          · exact hg' _ hg2
          · have : (wr.drewN nq).heap.size = wr.heap.size := rfl
            omega
      · have hW : idsOf (dueL now (L.take (j + 1))) = idsOf (dueL now (L.take j)) := by rw [takeP hjl]; simp [idsOf, dueL, hd]
        have hd2 : decide (((nthP L j).2 : Int) ≤ (now : Int)) = false := decide_eq_false (by omega)
        clear cj' c1 ck' c0
        generalize (nthP L j).2 = v at *
        go_wp2
        go_quiet (fail)
        go_wp2
        go_roundg (gk - 1)
        case measure => omega
        case rel => exact ⟨j + 1, g', cap', by go_num, by omega, by rw [hW], by rw [hW]; exact hL.same rfl, m.drewN _, hg'⟩
    · have hT : L.take j = L := List.take_of_length_le (by omega)
      rw [hT] at hL ⊢
      go_wp2
      go_ret
      exact ⟨g', cap', rfl, hL, m, hg'⟩
end Go.Proofs.YthieionajemjhaaDoor

/- The walks over the document's wheel: Drop, Add. -/
namespace Go.Proofs.YthieionajemjhaaDoor
set_option linter.unusedVariables false
set_option linter.unusedSimpArgs false
open Go.RowKit

theorem infoItem : (Tryd.prog.info? 102).map (fun i => (i.zero, i.size, i.bytes)) = some (some (.agg #[.int .i64 0, .int .i64 0]), 2, 16) := by kernel_rfl
/-- append of items. -/
theorem items_append {w : World} {g : Option Nat} {cap : Nat} {L : List (Int × Nat)} (h : RAt 102 2 w g cap L.length (itemsV L)) {a : Option Addr} {n2 c2 : Nat} {M : List (Int × Nat)} (hn : n2 = M.length) (hsrc : SrcAt w 2 a n2 (itemsV M)) (hl : L.length + n2 < 1000000) (hc2 : a = none → c2 = 0) :
    ∃ g' cap' w', (∀ ty, (Builtin.append_ #[54, 54] ty #[.slice (rA g) L.length cap, .slice a n2 c2]).run Tryd.prog w = .ok (.slice (rA g') (L.length + n2) cap') w') ∧
      RAt 102 2 w' g' cap' (L ++ M).length (itemsV (L ++ M)) ∧ Mod (rF g) w w' ∧ ∀ b, b ∈ rF g' → b ∈ rF g ∨ b = w.heap.size := by
  have hI := infoItem
  obtain ⟨i, hi, hi2⟩ := Option.map_eq_some_iff.1 hI
  simp only [Prod.mk.injEq] at hi2
  obtain ⟨i1, i2, i3⟩ := hi2
  have := h.appendSrc (P := Tryd.prog) Tryd.underlying54 hi i1 i2 i3 rfl (by omega) (by omega) hsrc hl hc2
  rw [List.length_append, itemsV_append, ← hn]
  exact this
/-- A part of a list, in memory. -/
theorem src_part {w : World} {b cap : Nat} {L : List (Int × Nat)} (h : RAt 102 2 w (some b) cap L.length (itemsV L)) (i n : Nat) (hn : i + n ≤ L.length) : SrcAt w 2 (some ⟨b, i * 2, none⟩) n (itemsV ((L.drop i).take n)) := by
  refine ⟨by rw [itemsV_len, List.length_take, List.length_drop, Nat.min_eq_left (by omega)], itemsV_one _, .inr ⟨b, i * 2, rfl, fun j u hj => ?_⟩⟩
  rw [← itemsV_take _ _ (by rw [List.length_drop]; omega), ← itemsV_drop, List.getElem?_take] at hj
  split at hj
  · rw [List.getElem?_drop] at hj
    obtain ⟨b', e, hc⟩ := h.cell hj
    cases e
    exact hc
  · cases hj
theorem dfind_lt {m : List (Int × Nat)} {i : Int} {n v : Nat} (h : dfind m i 0 = some (n, v)) : n < m.length := by
  have hx : ∀ (m : List (Int × Nat)) (j : Nat), dfind m i j = some (n, v) → n < j + m.length := by
    intro m
    induction m with
    | nil => intro j h; cases h
    | cons p m ih =>
      intro j h
      unfold dfind at h
      split at h
      · simp at h
        simp; omega
      · have := ih (j + 1) h
        simp; omega
  have := hx m 0 h
  omega
def RWDo (d : Nat) (g : Option Nat) (v : Value) (now : Nat) (L : List (Int × Nat)) (w : World) (e : Ending) (w' : World) : Prop :=
  e = .returned v ∧ ∃ g' cap', Mod [d] w w' ∧ RWAt w' d g' cap' now L ∧ ∀ b, b ∈ rF g' → b ∈ rF g ∨ w.heap.size ≤ b
/-- Drop: the errno; the list behind it. -/
def rdropE (L : List (Int × Nat)) (id : Int) : Int := if (dget L id).isSome then 0 else 4
set_option maxRecDepth 100000 in
set_option maxHeartbeats 2000000 in
theorem rwheel_Drop (d : Nat) (g : Option Nat) (cap now : Nat) (L : List (Int × Nat)) (w : World) (h : RWAt w d g cap now L) (id : Int) (hm : L.length < 1000000) : Calls Tryd.prog 66 #[.pointer (some ⟨d, 0, none⟩), .int .i64 id] w (RWDo d g (.int .i64 (rdropE L id)) now (ddel L id) w) := by
  have c0 : w.cell? ⟨d, 0, none⟩ = some (.int .i64 now) := cellAt h.obj 0
  have c1 : w.cell? ⟨d, 1, none⟩ = some (.slice (rA g) L.length cap) := cellAt h.obj 1
  have hcap := h.row.cap
  unfold maxLen at hcap
  obtain ⟨hcap1, hcap2⟩ := hcap
  have hF := rwheel_Find d g cap now L w h id
  unfold rdropE ddel dget
  unfold findI at hF
  cases hd : dfind L id 0 with
  | none =>
    rw [hd] at hF
    simp only [Option.map_none, Option.isSome_none] at *
    have hh := h
    clear hd
    go_enter Tryd.func66, Tryd.ntmps66
    go_wp2_with (go_at_call 46; refine hF.mono ?_; rintro e w' ⟨rfl, k, rfl⟩)
    go_ret
    exact ⟨rfl, g, cap, (Mod.refl _ _).drewN _, hh.same rfl, fun b hb => .inl hb⟩
  | some p =>
    obtain ⟨n, v⟩ := p
    rw [hd] at hF
    simp only [Option.map_some, Option.isSome_some] at *
    have hn := dfind_lt hd
    obtain ⟨b, rfl, _⟩ := h.item hn
    rw [rA_some] at *
    have hE : L.eraseIdx n = L.take n ++ L.drop (n + 1) := List.eraseIdx_eq_take_drop_succ L n
    rw [hE]
    have hn0 : decide ((n : Int) < 0) = false := decide_eq_false (by omega)
    have hn1 : n + 1 ≤ L.length := hn
    have ha1 := fun k => items_append (w := w.drewN k) (g := none) (cap := 0) (L := []) (RAt.nil 102 2 (w.drewN k)) (M := L.take n) (n2 := n) (a := some ⟨b, 0, none⟩) (c2 := cap) (by rw [List.length_take]; omega) (by have := src_part (h.row.same (w' := w.drewN k) rfl) 0 n (by omega); simpa using this) (by show 0 + n < _; omega) (by simp)
    simp only [List.length_nil, Nat.zero_add, List.nil_append] at ha1
    clear hd hE
    have hob := Lib.hid h.obj
    have hlt0 := ltOf h.obj
    by_cases hcn : cap = n + 1
    · have hsr : ∀ u, RAt 102 2 u (some b) cap L.length (itemsV L) → SrcAt u 2 (some ⟨b, 0, none⟩) 0 (itemsV (L.drop (n + 1))) := by
        intro u hu
        have := src_part hu 0 0 (by omega)
        rw [List.drop_of_length_le (show L.length ≤ n + 1 by omega)]
        simpa using this
      subst hcn
      go_enter Tryd.func66, Tryd.ntmps66
      go_wp2_with (first
        | (
          go_at_call 46
          refine hF.mono ?_
          rintro e w' ⟨rfl, k, rfl⟩
          obtain ⟨g1, cap1, w1, hrun1, x1, m1, n1⟩ := ha1 k
          have m1' : Mod [] w w1 := m1.undrewN
          have hlt : (L.take n).length = n := by rw [List.length_take]; omega
          have hsrc := hsr w1 (h.row.keep m1' (by simp))
          obtain ⟨g2, cap2, w2, hrun2, x2, m2, n2⟩ := items_append x1 (M := L.drop (n + 1)) (n2 := 0) (c2 := 0) (by have := @List.length_drop _ (n + 1) L; omega) hsrc (by omega) (by simp)
          rw [hlt] at hrun2
          obtain ⟨N, hN⟩ : ∃ N, N = n + (0) := ⟨_, rfl⟩
          rw [← hN] at hrun2
          have hN2 : N = (L.take n ++ L.drop (n + 1)).length := by rw [List.length_append, List.length_take, List.length_drop]; omega
          have HN := Lib.hid hN2
          clear hN hN2
          have hg1 : ∀ b, b ∈ rF g1 → w.heap.size ≤ b := fun b hb => (n1 b hb).elim (by simp [rF]) (fun e => by rw [e]; exact Nat.le_refl _)
          have m2' : Mod [] w w2 := m1'.trans m2 (fun b hb => .inr (hg1 b hb))
          have m1s := m1'.size
          have c1' := m1'.at c1 (by simp)
          have q2 := m2'.keep h.obj (by simp)
          have c2' := cellAt q2 1
          have f2' := freeAt q2 1
          have z2' := ltOf q2
          simp only [List.getElem?_toArray, List.getElem?_cons_zero, List.getElem?_cons_succ] at c2'
          have HX := Lib.hid (And.intro x2 (And.intro m2' (And.intro n2 hg1)))
          clear x1 m1 n1 m1' hsrc x2 m2 n2 hg1 m2' q2 ha1
          )
        | (
          at_builtin
          refine wpList_append_run rfl _ _ _ rfl rfl rfl (hrun1 _) ?_
          clear hrun1
          )
        | (
          at_builtin
          refine wpList_append_run rfl _ _ _ rfl rfl rfl (hrun2 _) ?_
          clear hrun2
          )
        )
      go_ret
      obtain ⟨x2, m2', n2, hg1⟩ := HX.out
      rw [HN.out]
      have hdl := hlt0
      have hgn : ∀ b, b ∈ rF g2 → w.heap.size ≤ b := fun b hb => (n2 b hb).elim (hg1 b) (fun e => by rw [e]; exact m1s)
      have mc : Mod [d] w2 (w2.setCell ⟨d, 1, none⟩ (.slice (rA g2) (L.take n ++ L.drop (n + 1)).length cap2)) := (Mod.refl _ _).setCell (by simp) _
      have hnd : ∀ b, b ∈ rF g2 → b ≠ d := fun b hb e => by have := hgn b hb; omega
      refine ⟨rfl, g2, cap2, (m2'.mono (by simp)).setCell (by simp) _, ⟨?_, x2.keep mc (fun b hb => by simp; exact hnd b hb), hnd⟩, fun b hb => .inr (hgn b hb)⟩
      rw [heapSet (m2'.keep hob.out (by simp))]
      simp
    · have hcn2 : n + 1 < cap := by omega
      have hsr : ∀ u, RAt 102 2 u (some b) cap L.length (itemsV L) → SrcAt u 2 (some ⟨b, (n + 1) * 2, none⟩) (L.length - (n + 1)) (itemsV (L.drop (n + 1))) := by
        intro u hu
        have := src_part hu (n + 1) (L.length - (n + 1)) (by omega)
        rwa [List.take_of_length_le (by rw [List.length_drop]; omega)] at this
      go_enter Tryd.func66, Tryd.ntmps66
      go_wp2_with (first
        | (
          go_at_call 46
          refine hF.mono ?_
          rintro e w' ⟨rfl, k, rfl⟩
          obtain ⟨g1, cap1, w1, hrun1, x1, m1, n1⟩ := ha1 k
          have m1' : Mod [] w w1 := m1.undrewN
          have hlt : (L.take n).length = n := by rw [List.length_take]; omega
          have hsrc := hsr w1 (h.row.keep m1' (by simp))
          obtain ⟨g2, cap2, w2, hrun2, x2, m2, n2⟩ := items_append x1 (M := L.drop (n + 1)) (n2 := L.length - (n + 1)) (c2 := cap - (n + 1)) (by have := @List.length_drop _ (n + 1) L; omega) hsrc (by omega) (by simp)
          rw [hlt] at hrun2
          obtain ⟨N, hN⟩ : ∃ N, N = n + (L.length - (n + 1)) := ⟨_, rfl⟩
          rw [← hN] at hrun2
          have hN2 : N = (L.take n ++ L.drop (n + 1)).length := by rw [List.length_append, List.length_take, List.length_drop]; omega
          have HN := Lib.hid hN2
          clear hN hN2
          have hg1 : ∀ b, b ∈ rF g1 → w.heap.size ≤ b := fun b hb => (n1 b hb).elim (by simp [rF]) (fun e => by rw [e]; exact Nat.le_refl _)
          have m2' : Mod [] w w2 := m1'.trans m2 (fun b hb => .inr (hg1 b hb))
          have m1s := m1'.size
          have c1' := m1'.at c1 (by simp)
          have q2 := m2'.keep h.obj (by simp)
          have c2' := cellAt q2 1
          have f2' := freeAt q2 1
          have z2' := ltOf q2
          simp only [List.getElem?_toArray, List.getElem?_cons_zero, List.getElem?_cons_succ] at c2'
          have HX := Lib.hid (And.intro x2 (And.intro m2' (And.intro n2 hg1)))
          clear x1 m1 n1 m1' hsrc x2 m2 n2 hg1 m2' q2 ha1
          )
        | (
          at_builtin
          refine wpList_append_run rfl _ _ _ rfl rfl rfl (hrun1 _) ?_
          clear hrun1
          )
        | (
          at_builtin
          refine wpList_append_run rfl _ _ _ rfl rfl rfl (hrun2 _) ?_
          clear hrun2
          )
        )
      go_ret
      obtain ⟨x2, m2', n2, hg1⟩ := HX.out
      rw [HN.out]
      have hdl := hlt0
      have hgn : ∀ b, b ∈ rF g2 → w.heap.size ≤ b := fun b hb => (n2 b hb).elim (hg1 b) (fun e => by rw [e]; exact m1s)
      have mc : Mod [d] w2 (w2.setCell ⟨d, 1, none⟩ (.slice (rA g2) (L.take n ++ L.drop (n + 1)).length cap2)) := (Mod.refl _ _).setCell (by simp) _
      have hnd : ∀ b, b ∈ rF g2 → b ≠ d := fun b hb e => by have := hgn b hb; omega
      refine ⟨rfl, g2, cap2, (m2'.mono (by simp)).setCell (by simp) _, ⟨?_, x2.keep mc (fun b hb => by simp; exact hnd b hb), hnd⟩, fun b hb => .inr (hgn b hb)⟩
      rw [heapSet (m2'.keep hob.out (by simp))]
      simp
end Go.Proofs.YthieionajemjhaaDoor

/- The walk over the document's wheel: Add. -/
namespace Go.Proofs.YthieionajemjhaaDoor
set_option linter.unusedVariables false
set_option linter.unusedSimpArgs false
open Go.RowKit

def ltP (p : Int × Nat) (id : Int) (due : Nat) : Prop := p.2 < due ∨ (p.2 = due ∧ p.1 < id)
instance (p : Int × Nat) (id : Int) (due : Nat) : Decidable (ltP p id due) := by unfold ltP; infer_instance
/-- Where a thing comes to stand. -/
def insAt : List (Int × Nat) → Int → Nat → Nat
  | [], _, _ => 0
  | p :: L, id, due => if ltP p id due then insAt L id due + 1 else 0
theorem insAt_eq : ∀ {L : List (Int × Nat)} {id : Int} {due j : Nat}, j ≤ L.length → (∀ q, q < j → ltP (nthP L q) id due) → (j < L.length → ¬ ltP (nthP L j) id due) → insAt L id due = j
  | [], id, due, j, h, _, _ => by simp at h; simp [insAt, h]
  | p :: L, id, due, 0, _, _, h => by
    unfold insAt
    exact if_neg (show ¬ ltP p id due from h (by simp))
  | p :: L, id, due, j + 1, h0, h1, h2 => by
    have e : ∀ q, nthP (p :: L) (q + 1) = nthP L q := fun q => by simp [nthP]
    unfold insAt
    rw [if_pos (show ltP p id due from h1 0 (by omega)), insAt_eq (j := j) (by simpa using h0) (fun q hq => by rw [← e]; exact h1 (q + 1) (by omega)) (fun hj => by rw [← e]; exact h2 (by simpa using hj))]
def insL (L : List (Int × Nat)) (id : Int) (due : Nat) : List (Int × Nat) := L.take (insAt L id due) ++ [(id, due)] ++ L.drop (insAt L id due)
/-- Add: the errno; the list behind it. -/
def raddE (L : List (Int × Nat)) (id due : Int) : Int := if ¬ tickOk due then 2 else if (dget L id).isSome then 6 else 0
def radd (L : List (Int × Nat)) (id due : Int) : List (Int × Nat) := if raddE L id due = 0 then insL L id due.toNat else L

/-- append of one item. -/
theorem items_append1 {w : World} {g : Option Nat} {cap : Nat} {L : List (Int × Nat)} (h : RAt 102 2 w g cap L.length (itemsV L)) {b : Nat} {id : Int} {due : Nat} (hl : L.length < 1000000) (hb : w.heap[b]? = some (.cells #[.int .i64 id, .int .i64 due] 102 (0,0))) :
    ∃ g' cap' w', (∀ ty, (Builtin.append_ #[54, 54] ty #[.slice (rA g) L.length cap, .slice (some ⟨b, 0, none⟩) 1 1]).run Tryd.prog w = .ok (.slice (some ⟨g', 0, none⟩) (L.length + 1) cap') w') ∧
      RAt 102 2 w' (some g') cap' (L ++ [(id, due)]).length (itemsV (L ++ [(id, due)])) ∧ Mod (rF g) w w' ∧ (g' ∈ rF g ∨ g' = w.heap.size) := by
  have hI := infoItem
  obtain ⟨i, hi, hi2⟩ := Option.map_eq_some_iff.1 hI
  simp only [Prod.mk.injEq] at hi2
  obtain ⟨i1, i2, i3⟩ := hi2
  have := h.append (P := Tryd.prog) (news := [.int .i64 id, .int .i64 due]) Tryd.underlying54 hi i1 i2 i3 rfl (by omega) hl (by omega) rfl (by intro u hu; simp at hu; rcases hu with rfl | rfl <;> rfl) hb
  rw [List.length_append, itemsV_append]
  exact this
set_option maxRecDepth 100000 in
set_option maxHeartbeats 2000000 in
theorem rwheel_Add (d : Nat) (g : Option Nat) (cap now : Nat) (L : List (Int × Nat)) (w : World) (h : RWAt w d g cap now L) (id due : Int) (hm : L.length + 1 < 1000000) : Calls Tryd.prog 65 #[.pointer (some ⟨d, 0, none⟩), .int .i64 id, .int .i64 due] w (RWDo d g (.int .i64 (raddE L id due)) now (radd L id due) w) := by
  have c0 : w.cell? ⟨d, 0, none⟩ = some (.int .i64 now) := cellAt h.obj 0
  have c1 : w.cell? ⟨d, 1, none⟩ = some (.slice (rA g) L.length cap) := cellAt h.obj 1
  have hcap := h.row.cap
  unfold maxLen at hcap
  obtain ⟨hcap1, hcap2⟩ := hcap
  have hF := rwheel_Find d g cap now L w h id
  by_cases hr : tickOk due
  case neg =>
    have hE : raddE L id due = 2 := by unfold raddE; rw [if_pos hr]
    have hA : radd L id due = L := by unfold radd; rw [if_neg (by omega)]
    rw [hE, hA]
    have hc : due < 0 ∨ (0 ≤ due ∧ 1152921504606846976 < due) := by unfold tickOk at hr; omega
    clear hE hA hr hF
    have hh := h
    rcases hc with h1 | ⟨h1, h2⟩
    all_goals
      go_enter Tryd.func65, Tryd.ntmps65
      go_wp2
      go_ret
      exact ⟨rfl, g, cap, Mod.refl _ _, hh, fun b hb => .inl hb⟩
  have hr0 := hr.1
  have hr1 := hr.2
  obtain ⟨t, rfl⟩ := Int.eq_ofNat_of_zero_le hr0
  unfold findI at hF
  cases hd : dfind L id 0 with
  | some p =>
    obtain ⟨n, v⟩ := p
    have hE : raddE L id t = 6 := by unfold raddE dget; rw [if_neg (by simpa using hr), if_pos (by rw [hd]; rfl)]
    have hA : radd L id t = L := by unfold radd; rw [if_neg (by omega)]
    rw [hE, hA]
    rw [hd] at hF
    simp only at hF
    have hh := h
    clear hE hA hr hd
    go_enter Tryd.func65, Tryd.ntmps65
    go_wp2_with (go_at_call 46; refine hF.mono ?_; rintro e w' ⟨rfl, k, rfl⟩)
    go_ret
    exact ⟨rfl, g, cap, (Mod.refl _ _).drewN _, hh.same rfl, fun b hb => .inl hb⟩
  | none =>
    have hE : raddE L id t = 0 := by unfold raddE dget; rw [if_neg (by simpa using hr), if_neg (by rw [hd]; simp)]
    have hA : radd L id t = insL L id t := by unfold radd; rw [if_pos hE]; rfl
    rw [hE, hA]
    rw [hd] at hF
    simp only at hF
    clear hE hA hr hd
    go_enter Tryd.func65, Tryd.ntmps65
    go_wp2_with (go_at_call 46; refine hF.mono ?_; rintro e w' ⟨rfl, k, rfl⟩)
    have h1 := h.same (w' := w.drewN k) rfl
    have c11 : (w.drewN k).cell? ⟨d, 1, none⟩ = some (.slice (rA g) L.length cap) := c1
    have m01 : Mod [] w (w.drewN k) := (Mod.refl _ _).drewN _
    clear hF c0 c1
    generalize w.drewN k = w1 at *
    go_loopg [7] L.length (fun gg at_ wr => ∃ j : Nat, at_ = .int .i64 j ∧ j + gg = L.length ∧ (∀ q, q < j → ltP (nthP L q) id t) ∧ w1 = wr)
    case atStart => exact ⟨0, rfl, by omega, fun q hq => by omega, rfl⟩
    case round =>
      obtain ⟨j, rfl, hj, hq, rfl⟩ := hrel
      by_cases hlt : j < L.length ∧ ltP (nthP L j) id t
      · obtain ⟨hjl, hP⟩ := hlt
        obtain ⟨b, rfl, cj, ck⟩ := h1.item hjl
        rw [rA_some] at *
        have hq' : ∀ q, q < j + 1 → ltP (nthP L q) id t := fun q h => by
          by_cases e2 : q = j
          · exact e2 ▸ hP
          · exact hq q (by omega)
        clear hq
        unfold ltP at hP
        generalize (nthP L j).1 = x at *
        generalize (nthP L j).2 = v at *
        rcases hP with h2 | ⟨h2, h3⟩
        · have e1 : decide ((v : Int) < (t : Int)) = true := decide_eq_true (by omega)
          go_wp2
          go_roundg (gk - 1)
          case measure => omega
          case rel => exact ⟨j + 1, by go_num, by omega, hq', rfl⟩
        · subst h2
          go_wp2
          go_roundg (gk - 1)
          case measure => omega
          case rel => exact ⟨j + 1, by go_num, by omega, hq', rfl⟩
      · have hI : insAt L id t = j := insAt_eq (by omega) hq (fun hjl hP => hlt ⟨hjl, hP⟩)
        have hL : insL L id t = L.take j ++ [(id, t)] ++ L.drop j := by unfold insL; rw [hI]
        have HL := Lib.hid hL
        have hne : (j = L.length) ∨ (j < L.length ∧ ¬ ltP (nthP L j) id t) := by
          by_cases hjl : j < L.length
          · exact .inr ⟨hjl, fun hP => hlt ⟨hjl, hP⟩⟩
          · exact .inl (by omega)
        clear hlt hI hL hq
        cases g with
        | none =>
          obtain ⟨_, e0, e1⟩ := h1.row
          rw [e0, e1] at c11
          have ej : j = 0 := by rcases hne with h | ⟨h, _⟩ <;> omega
          subst ej
          have eL : L = [] := List.eq_nil_of_length_eq_zero e0
          have hs1 : SrcAt w1 2 none 0 (itemsV (L.take 0)) := ⟨rfl, by simp [itemsV], .inl ⟨rfl, rfl⟩⟩
          have hsr : ∀ u, RAt 102 2 u none cap L.length (itemsV L) → SrcAt u 2 none 0 (itemsV (L.drop 0)) := by
            intro u hu
            rw [eL]
            exact ⟨rfl, by simp [itemsV], .inl ⟨rfl, rfl⟩⟩
          clear hne eL
          rw [show rA none = none from rfl] at c11
          have hlt1 : (L.take 0).length = 0 := by rw [List.length_take]; omega
          obtain ⟨g1, cap1, wA, hrun1, xA, mA, nA⟩ := items_append (w := w1) (g := none) (cap := 0) (L := []) (RAt.nil 102 2 w1) (M := L.take 0) (n2 := 0) (a := none) (c2 := 0) hlt1.symm hs1 (by show 0 + 0 < _; omega) (by simp)
          simp only [List.length_nil, Nat.zero_add, List.nil_append] at hrun1 xA
          have mA' : Mod [] w1 wA := mA
          have gA : ∀ b, b ∈ rF g1 → w1.heap.size ≤ b := fun b hb => (nA b hb).elim (by simp [rF]) (fun e => by rw [e]; exact Nat.le_refl _)
          have hblk := heapNew wA (.cells #[.int .i64 id, .int .i64 (t : Nat)] 102)
          have mN : Mod [] wA (wA.alloc (.cells #[.int .i64 id, .int .i64 (t : Nat)] 102)) := (Mod.refl _ _).alloc _
          obtain ⟨g2, cap2, wB, hrun2, xB, mB, nB⟩ := items_append1 (xA.keep mN (by simp)) (by omega) hblk
          rw [hlt1] at hrun2
          have mB' : Mod [] w1 wB := (mA'.trans mN (by simp)).trans mB (fun b hb => .inr (gA b hb))
          have gB : w1.heap.size ≤ g2 := by
            rcases nB with hb | hb
            · exact gA _ hb
            · have := mA'.size; rw [sizeNew] at hb; omega
          have hlt2 : (L.take 0 ++ [(id, t)]).length = 0 + 1 := by rw [List.length_append, hlt1]; rfl
          have hs2 := hsr wB (h1.row.keep mB' (by simp))
          obtain ⟨g3, cap3, wC, hrun3, xC, mC, nC⟩ := items_append xB (M := L.drop 0) (n2 := 0) (c2 := 0) (by have := @List.length_drop _ (0) L; omega) hs2 (by omega) (by simp)
          rw [hlt2] at hrun3
          obtain ⟨N, hN⟩ : ∃ N, N = 0 + 1 + (0) := ⟨_, rfl⟩
          have hrun4 : ∀ ty, (Builtin.append_ #[54, 54] ty #[.slice (some ⟨g2, 0, none⟩) (0 + 1) cap2, .slice (none) (0) (0)]).run Tryd.prog wB = .ok (.slice (rA g3) N cap3) wC := by
            intro ty
            rw [hN]
            exact hrun3 ty
          clear hrun3
          have hN2 : N = (L.take 0 ++ [(id, t)] ++ L.drop 0).length := by rw [List.length_append, hlt2, List.length_drop]; omega
          have mC' : Mod [] w1 wC := mB'.trans mC (fun b hb => by simp [rF] at hb; right; omega)
          have gC : ∀ b, b ∈ rF g3 → w1.heap.size ≤ b := fun b hb => (nC b hb).elim (fun hb => by simp [rF] at hb; omega) (fun e => by rw [e]; exact mB'.size)
          have cA := mA'.at c11 (by simp)
          have cB := mB'.at c11 (by simp)
          have cC := mC'.at c11 (by simp)
          have qC := mC'.keep h1.obj (by simp)
          have fC := freeAt qC 1
          have zC := ltOf qC
          have hob := Lib.hid h1.obj
          have hlt0 := ltOf h1.obj
          have HX := Lib.hid (And.intro xC (And.intro mC' (And.intro gC (And.intro hN2 m01))))
          clear hs1 hsr xA mA nA mA' gA hblk mN xB mB nB mB' gB hs2 xC mC nC mC' gC qC hN hN2 m01
          try simp only [Nat.zero_add] at hrun2 hrun4
          go_wp2_with (first
            | (
              at_builtin
              refine wpList_append_run rfl _ _ _ rfl rfl rfl (hrun1 _) ?_
              clear hrun1
              )
            | (
              at_builtin
              refine wpList_append_run rfl _ _ _ rfl rfl rfl (hrun2 _) ?_
              clear hrun2
              )
            | (
              at_builtin
              refine wpList_append_run rfl _ _ _ rfl rfl rfl (hrun4 _) ?_
              clear hrun4
              )
            )
          go_ret
          obtain ⟨xC, mC', gC, hN2, m01⟩ := HX.out
          rw [HL.out]
          have hsz := m01.size
          rw [hN2]
          have mc : Mod [d] wC (wC.setCell ⟨d, 1, none⟩ (.slice (rA g3) (L.take 0 ++ [(id, t)] ++ L.drop 0).length cap3)) := (Mod.refl _ _).setCell (by simp) _
          have hnd : ∀ b, b ∈ rF g3 → b ≠ d := fun b hb e => by have := gC b hb; omega
          refine ⟨rfl, g3, cap3, ((m01.trans mC' (by simp)).mono (by simp)).setCell (by simp) _, ⟨?_, xC.keep mc (fun b hb => by simp; exact hnd b hb), hnd⟩, fun b hb => .inr (by have := gC b hb; omega)⟩
          rw [heapSet (mC'.keep hob.out (by simp))]
          simp
        | some b =>
          rw [rA_some] at *
          have hs1 : SrcAt w1 2 (some ⟨b, 0, none⟩) j (itemsV (L.take j)) := by have := src_part h1.row 0 j (by omega); simpa using this
          rcases hne with hjL | ⟨hjl, hP⟩
          · subst hjL
            by_cases hcn : cap = L.length
            · have hsr : ∀ u, RAt 102 2 u (some b) cap L.length (itemsV L) → SrcAt u 2 (some ⟨b, 0, none⟩) 0 (itemsV (L.drop L.length)) := by
                intro u hu
                have := src_part hu 0 0 (by omega)
                rw [List.drop_of_length_le (Nat.le_refl _)]
                simpa using this
              rw [hcn] at c11
              clear hcn
              have hlt1 : (L.take L.length).length = L.length := by rw [List.length_take]; omega
              obtain ⟨g1, cap1, wA, hrun1, xA, mA, nA⟩ := items_append (w := w1) (g := none) (cap := 0) (L := []) (RAt.nil 102 2 w1) (M := L.take L.length) (n2 := L.length) (a := some ⟨b, 0, none⟩) (c2 := L.length) hlt1.symm hs1 (by show 0 + L.length < _; omega) (by simp)
              simp only [List.length_nil, Nat.zero_add, List.nil_append] at hrun1 xA
              have mA' : Mod [] w1 wA := mA
              have gA : ∀ b, b ∈ rF g1 → w1.heap.size ≤ b := fun b hb => (nA b hb).elim (by simp [rF]) (fun e => by rw [e]; exact Nat.le_refl _)
              have hblk := heapNew wA (.cells #[.int .i64 id, .int .i64 (t : Nat)] 102)
              have mN : Mod [] wA (wA.alloc (.cells #[.int .i64 id, .int .i64 (t : Nat)] 102)) := (Mod.refl _ _).alloc _
              obtain ⟨g2, cap2, wB, hrun2, xB, mB, nB⟩ := items_append1 (xA.keep mN (by simp)) (by omega) hblk
              rw [hlt1] at hrun2
              have mB' : Mod [] w1 wB := (mA'.trans mN (by simp)).trans mB (fun b hb => .inr (gA b hb))
              have gB : w1.heap.size ≤ g2 := by
                rcases nB with hb | hb
                · exact gA _ hb
                · have := mA'.size; rw [sizeNew] at hb; omega
              have hlt2 : (L.take L.length ++ [(id, t)]).length = L.length + 1 := by rw [List.length_append, hlt1]; rfl
              have hs2 := hsr wB (h1.row.keep mB' (by simp))
              obtain ⟨g3, cap3, wC, hrun3, xC, mC, nC⟩ := items_append xB (M := L.drop L.length) (n2 := 0) (c2 := 0) (by have := @List.length_drop _ (L.length) L; omega) hs2 (by omega) (by simp)
              rw [hlt2] at hrun3
              obtain ⟨N, hN⟩ : ∃ N, N = L.length + 1 + (0) := ⟨_, rfl⟩
              have hrun4 : ∀ ty, (Builtin.append_ #[54, 54] ty #[.slice (some ⟨g2, 0, none⟩) (L.length + 1) cap2, .slice (some ⟨b, 0, none⟩) (0) (0)]).run Tryd.prog wB = .ok (.slice (rA g3) N cap3) wC := by
                intro ty
                rw [hN]
                exact hrun3 ty
              clear hrun3
              have hN2 : N = (L.take L.length ++ [(id, t)] ++ L.drop L.length).length := by rw [List.length_append, hlt2, List.length_drop]; omega
              have mC' : Mod [] w1 wC := mB'.trans mC (fun b hb => by simp [rF] at hb; right; omega)
              have gC : ∀ b, b ∈ rF g3 → w1.heap.size ≤ b := fun b hb => (nC b hb).elim (fun hb => by simp [rF] at hb; omega) (fun e => by rw [e]; exact mB'.size)
              have cA := mA'.at c11 (by simp)
              have cB := mB'.at c11 (by simp)
              have cC := mC'.at c11 (by simp)
              have qC := mC'.keep h1.obj (by simp)
              have fC := freeAt qC 1
              have zC := ltOf qC
              have hob := Lib.hid h1.obj
              have hlt0 := ltOf h1.obj
              have HX := Lib.hid (And.intro xC (And.intro mC' (And.intro gC (And.intro hN2 m01))))
              clear hs1 hsr xA mA nA mA' gA hblk mN xB mB nB mB' gB hs2 xC mC nC mC' gC qC hN hN2 m01
              try simp only [Nat.zero_add] at hrun2 hrun4
              go_wp2_with (first
                | (
                  at_builtin
                  refine wpList_append_run rfl _ _ _ rfl rfl rfl (hrun1 _) ?_
                  clear hrun1
                  )
                | (
                  at_builtin
                  refine wpList_append_run rfl _ _ _ rfl rfl rfl (hrun2 _) ?_
                  clear hrun2
                  )
                | (
                  at_builtin
                  refine wpList_append_run rfl _ _ _ rfl rfl rfl (hrun4 _) ?_
                  clear hrun4
                  )
                )
              go_ret
              obtain ⟨xC, mC', gC, hN2, m01⟩ := HX.out
              rw [HL.out]
              have hsz := m01.size
              rw [hN2]
              have mc : Mod [d] wC (wC.setCell ⟨d, 1, none⟩ (.slice (rA g3) (L.take L.length ++ [(id, t)] ++ L.drop L.length).length cap3)) := (Mod.refl _ _).setCell (by simp) _
              have hnd : ∀ b, b ∈ rF g3 → b ≠ d := fun b hb e => by have := gC b hb; omega
              refine ⟨rfl, g3, cap3, ((m01.trans mC' (by simp)).mono (by simp)).setCell (by simp) _, ⟨?_, xC.keep mc (fun b hb => by simp; exact hnd b hb), hnd⟩, fun b hb => .inr (by have := gC b hb; omega)⟩
              rw [heapSet (mC'.keep hob.out (by simp))]
              simp
            · have hcn2 : L.length < cap := by omega
              have hsr : ∀ u, RAt 102 2 u (some b) cap L.length (itemsV L) → SrcAt u 2 (some ⟨b, L.length * 2, none⟩) 0 (itemsV (L.drop L.length)) := by
                intro u hu
                have := src_part hu L.length 0 (by omega)
                rw [List.take_zero] at this
                rw [List.drop_of_length_le (Nat.le_refl _)]
                exact this
              have hlt1 : (L.take L.length).length = L.length := by rw [List.length_take]; omega
              obtain ⟨g1, cap1, wA, hrun1, xA, mA, nA⟩ := items_append (w := w1) (g := none) (cap := 0) (L := []) (RAt.nil 102 2 w1) (M := L.take L.length) (n2 := L.length) (a := some ⟨b, 0, none⟩) (c2 := cap) hlt1.symm hs1 (by show 0 + L.length < _; omega) (by simp)
              simp only [List.length_nil, Nat.zero_add, List.nil_append] at hrun1 xA
              have mA' : Mod [] w1 wA := mA
              have gA : ∀ b, b ∈ rF g1 → w1.heap.size ≤ b := fun b hb => (nA b hb).elim (by simp [rF]) (fun e => by rw [e]; exact Nat.le_refl _)
              have hblk := heapNew wA (.cells #[.int .i64 id, .int .i64 (t : Nat)] 102)
              have mN : Mod [] wA (wA.alloc (.cells #[.int .i64 id, .int .i64 (t : Nat)] 102)) := (Mod.refl _ _).alloc _
              obtain ⟨g2, cap2, wB, hrun2, xB, mB, nB⟩ := items_append1 (xA.keep mN (by simp)) (by omega) hblk
              rw [hlt1] at hrun2
              have mB' : Mod [] w1 wB := (mA'.trans mN (by simp)).trans mB (fun b hb => .inr (gA b hb))
              have gB : w1.heap.size ≤ g2 := by
                rcases nB with hb | hb
                · exact gA _ hb
                · have := mA'.size; rw [sizeNew] at hb; omega
              have hlt2 : (L.take L.length ++ [(id, t)]).length = L.length + 1 := by rw [List.length_append, hlt1]; rfl
              have hs2 := hsr wB (h1.row.keep mB' (by simp))
              obtain ⟨g3, cap3, wC, hrun3, xC, mC, nC⟩ := items_append xB (M := L.drop L.length) (n2 := 0) (c2 := cap - L.length) (by have := @List.length_drop _ (L.length) L; omega) hs2 (by omega) (by simp)
              rw [hlt2] at hrun3
              obtain ⟨N, hN⟩ : ∃ N, N = L.length + 1 + (0) := ⟨_, rfl⟩
              have hrun4 : ∀ ty, (Builtin.append_ #[54, 54] ty #[.slice (some ⟨g2, 0, none⟩) (L.length + 1) cap2, .slice (some ⟨b, L.length * 2, none⟩) (0) (cap - L.length)]).run Tryd.prog wB = .ok (.slice (rA g3) N cap3) wC := by
                intro ty
                rw [hN]
                exact hrun3 ty
              clear hrun3
              have hN2 : N = (L.take L.length ++ [(id, t)] ++ L.drop L.length).length := by rw [List.length_append, hlt2, List.length_drop]; omega
              have mC' : Mod [] w1 wC := mB'.trans mC (fun b hb => by simp [rF] at hb; right; omega)
              have gC : ∀ b, b ∈ rF g3 → w1.heap.size ≤ b := fun b hb => (nC b hb).elim (fun hb => by simp [rF] at hb; omega) (fun e => by rw [e]; exact mB'.size)
              have cA := mA'.at c11 (by simp)
              have cB := mB'.at c11 (by simp)
              have cC := mC'.at c11 (by simp)
              have qC := mC'.keep h1.obj (by simp)
              have fC := freeAt qC 1
              have zC := ltOf qC
              have hob := Lib.hid h1.obj
              have hlt0 := ltOf h1.obj
              have HX := Lib.hid (And.intro xC (And.intro mC' (And.intro gC (And.intro hN2 m01))))
              clear hs1 hsr xA mA nA mA' gA hblk mN xB mB nB mB' gB hs2 xC mC nC mC' gC qC hN hN2 m01
              try simp only [Nat.zero_add] at hrun2 hrun4
              go_wp2_with (first
                | (
                  at_builtin
                  refine wpList_append_run rfl _ _ _ rfl rfl rfl (hrun1 _) ?_
                  clear hrun1
                  )
                | (
                  at_builtin
                  refine wpList_append_run rfl _ _ _ rfl rfl rfl (hrun2 _) ?_
                  clear hrun2
                  )
                | (
                  at_builtin
                  refine wpList_append_run rfl _ _ _ rfl rfl rfl (hrun4 _) ?_
                  clear hrun4
                  )
                )
              go_ret
              obtain ⟨xC, mC', gC, hN2, m01⟩ := HX.out
              rw [HL.out]
              have hsz := m01.size
              rw [hN2]
              have mc : Mod [d] wC (wC.setCell ⟨d, 1, none⟩ (.slice (rA g3) (L.take L.length ++ [(id, t)] ++ L.drop L.length).length cap3)) := (Mod.refl _ _).setCell (by simp) _
              have hnd : ∀ b, b ∈ rF g3 → b ≠ d := fun b hb e => by have := gC b hb; omega
              refine ⟨rfl, g3, cap3, ((m01.trans mC' (by simp)).mono (by simp)).setCell (by simp) _, ⟨?_, xC.keep mc (fun b hb => by simp; exact hnd b hb), hnd⟩, fun b hb => .inr (by have := gC b hb; omega)⟩
              rw [heapSet (mC'.keep hob.out (by simp))]
              simp
          · have hcn2 : j < cap := by omega
            obtain ⟨b', e, cj, ck⟩ := h1.item hjl
            cases e
            have hsr : ∀ u, RAt 102 2 u (some b) cap L.length (itemsV L) → SrcAt u 2 (some ⟨b, j * 2, none⟩) (L.length - j) (itemsV (L.drop j)) := by
              intro u hu
              have := src_part hu j (L.length - j) (by omega)
              rwa [List.take_of_length_le (by rw [List.length_drop]; omega)] at this
            unfold ltP at hP
            generalize (nthP L j).1 = x at *
            generalize (nthP L j).2 = v at *
            have hv : (v = t ∧ ¬ x < id) ∨ (¬ v = t ∧ ¬ v < t) := by omega
            clear hP
            rcases hv with ⟨h2, h3⟩ | ⟨h2, h3⟩
            · have h2' := h2.symm
              subst h2'
              have h4 : decide (x < id) = false := decide_eq_false h3
              have hlt1 : (L.take j).length = j := by rw [List.length_take]; omega
              obtain ⟨g1, cap1, wA, hrun1, xA, mA, nA⟩ := items_append (w := w1) (g := none) (cap := 0) (L := []) (RAt.nil 102 2 w1) (M := L.take j) (n2 := j) (a := some ⟨b, 0, none⟩) (c2 := cap) hlt1.symm hs1 (by show 0 + j < _; omega) (by simp)
              simp only [List.length_nil, Nat.zero_add, List.nil_append] at hrun1 xA
              have mA' : Mod [] w1 wA := mA
              have gA : ∀ b, b ∈ rF g1 → w1.heap.size ≤ b := fun b hb => (nA b hb).elim (by simp [rF]) (fun e => by rw [e]; exact Nat.le_refl _)
              have hblk := heapNew wA (.cells #[.int .i64 id, .int .i64 (t : Nat)] 102)
              have mN : Mod [] wA (wA.alloc (.cells #[.int .i64 id, .int .i64 (t : Nat)] 102)) := (Mod.refl _ _).alloc _
              obtain ⟨g2, cap2, wB, hrun2, xB, mB, nB⟩ := items_append1 (xA.keep mN (by simp)) (by omega) hblk
              rw [hlt1] at hrun2
              have mB' : Mod [] w1 wB := (mA'.trans mN (by simp)).trans mB (fun b hb => .inr (gA b hb))
              have gB : w1.heap.size ≤ g2 := by
                rcases nB with hb | hb
                · exact gA _ hb
                · have := mA'.size; rw [sizeNew] at hb; omega
              have hlt2 : (L.take j ++ [(id, t)]).length = j + 1 := by rw [List.length_append, hlt1]; rfl
              have hs2 := hsr wB (h1.row.keep mB' (by simp))
              obtain ⟨g3, cap3, wC, hrun3, xC, mC, nC⟩ := items_append xB (M := L.drop j) (n2 := L.length - j) (c2 := cap - j) (by have := @List.length_drop _ (j) L; omega) hs2 (by omega) (by simp)
              rw [hlt2] at hrun3
              obtain ⟨N, hN⟩ : ∃ N, N = j + 1 + (L.length - j) := ⟨_, rfl⟩
              have hrun4 : ∀ ty, (Builtin.append_ #[54, 54] ty #[.slice (some ⟨g2, 0, none⟩) (j + 1) cap2, .slice (some ⟨b, j * 2, none⟩) (L.length - j) (cap - j)]).run Tryd.prog wB = .ok (.slice (rA g3) N cap3) wC := by
                intro ty
                rw [hN]
                exact hrun3 ty
              clear hrun3
              have hN2 : N = (L.take j ++ [(id, t)] ++ L.drop j).length := by rw [List.length_append, hlt2, List.length_drop]; omega
              have mC' : Mod [] w1 wC := mB'.trans mC (fun b hb => by simp [rF] at hb; right; omega)
              have gC : ∀ b, b ∈ rF g3 → w1.heap.size ≤ b := fun b hb => (nC b hb).elim (fun hb => by simp [rF] at hb; omega) (fun e => by rw [e]; exact mB'.size)
              have cA := mA'.at c11 (by simp)
              have cB := mB'.at c11 (by simp)
              have cC := mC'.at c11 (by simp)
              have qC := mC'.keep h1.obj (by simp)
              have fC := freeAt qC 1
              have zC := ltOf qC
              have hob := Lib.hid h1.obj
              have hlt0 := ltOf h1.obj
              have HX := Lib.hid (And.intro xC (And.intro mC' (And.intro gC (And.intro hN2 m01))))
              clear hs1 hsr xA mA nA mA' gA hblk mN xB mB nB mB' gB hs2 xC mC nC mC' gC qC hN hN2 m01
              try simp only [Nat.zero_add] at hrun2 hrun4
              go_wp2_with (first
                | (
                  at_builtin
                  refine wpList_append_run rfl _ _ _ rfl rfl rfl (hrun1 _) ?_
                  clear hrun1
                  )
                | (
                  at_builtin
                  refine wpList_append_run rfl _ _ _ rfl rfl rfl (hrun2 _) ?_
                  clear hrun2
                  )
                | (
                  at_builtin
                  refine wpList_append_run rfl _ _ _ rfl rfl rfl (hrun4 _) ?_
                  clear hrun4
                  )
                )
              go_ret
              obtain ⟨xC, mC', gC, hN2, m01⟩ := HX.out
              rw [HL.out]
              have hsz := m01.size
              rw [hN2]
              have mc : Mod [d] wC (wC.setCell ⟨d, 1, none⟩ (.slice (rA g3) (L.take j ++ [(id, t)] ++ L.drop j).length cap3)) := (Mod.refl _ _).setCell (by simp) _
              have hnd : ∀ b, b ∈ rF g3 → b ≠ d := fun b hb e => by have := gC b hb; omega
              refine ⟨rfl, g3, cap3, ((m01.trans mC' (by simp)).mono (by simp)).setCell (by simp) _, ⟨?_, xC.keep mc (fun b hb => by simp; exact hnd b hb), hnd⟩, fun b hb => .inr (by have := gC b hb; omega)⟩
              rw [heapSet (mC'.keep hob.out (by simp))]
              simp
            · have h4 : decide ((v : Int) < (t : Int)) = false := decide_eq_false (by omega)
              have h5 : ((v : Int) == (t : Int)) = false := by simp; omega
              have hlt1 : (L.take j).length = j := by rw [List.length_take]; omega
              obtain ⟨g1, cap1, wA, hrun1, xA, mA, nA⟩ := items_append (w := w1) (g := none) (cap := 0) (L := []) (RAt.nil 102 2 w1) (M := L.take j) (n2 := j) (a := some ⟨b, 0, none⟩) (c2 := cap) hlt1.symm hs1 (by show 0 + j < _; omega) (by simp)
              simp only [List.length_nil, Nat.zero_add, List.nil_append] at hrun1 xA
              have mA' : Mod [] w1 wA := mA
              have gA : ∀ b, b ∈ rF g1 → w1.heap.size ≤ b := fun b hb => (nA b hb).elim (by simp [rF]) (fun e => by rw [e]; exact Nat.le_refl _)
              have hblk := heapNew wA (.cells #[.int .i64 id, .int .i64 (t : Nat)] 102)
              have mN : Mod [] wA (wA.alloc (.cells #[.int .i64 id, .int .i64 (t : Nat)] 102)) := (Mod.refl _ _).alloc _
              obtain ⟨g2, cap2, wB, hrun2, xB, mB, nB⟩ := items_append1 (xA.keep mN (by simp)) (by omega) hblk
              rw [hlt1] at hrun2
              have mB' : Mod [] w1 wB := (mA'.trans mN (by simp)).trans mB (fun b hb => .inr (gA b hb))
              have gB : w1.heap.size ≤ g2 := by
                rcases nB with hb | hb
                · exact gA _ hb
                · have := mA'.size; rw [sizeNew] at hb; omega
              have hlt2 : (L.take j ++ [(id, t)]).length = j + 1 := by rw [List.length_append, hlt1]; rfl
              have hs2 := hsr wB (h1.row.keep mB' (by simp))
              obtain ⟨g3, cap3, wC, hrun3, xC, mC, nC⟩ := items_append xB (M := L.drop j) (n2 := L.length - j) (c2 := cap - j) (by have := @List.length_drop _ (j) L; omega) hs2 (by omega) (by simp)
              rw [hlt2] at hrun3
              obtain ⟨N, hN⟩ : ∃ N, N = j + 1 + (L.length - j) := ⟨_, rfl⟩
              have hrun4 : ∀ ty, (Builtin.append_ #[54, 54] ty #[.slice (some ⟨g2, 0, none⟩) (j + 1) cap2, .slice (some ⟨b, j * 2, none⟩) (L.length - j) (cap - j)]).run Tryd.prog wB = .ok (.slice (rA g3) N cap3) wC := by
                intro ty
                rw [hN]
                exact hrun3 ty
              clear hrun3
              have hN2 : N = (L.take j ++ [(id, t)] ++ L.drop j).length := by rw [List.length_append, hlt2, List.length_drop]; omega
              have mC' : Mod [] w1 wC := mB'.trans mC (fun b hb => by simp [rF] at hb; right; omega)
              have gC : ∀ b, b ∈ rF g3 → w1.heap.size ≤ b := fun b hb => (nC b hb).elim (fun hb => by simp [rF] at hb; omega) (fun e => by rw [e]; exact mB'.size)
              have cA := mA'.at c11 (by simp)
              have cB := mB'.at c11 (by simp)
              have cC := mC'.at c11 (by simp)
              have qC := mC'.keep h1.obj (by simp)
              have fC := freeAt qC 1
              have zC := ltOf qC
              have hob := Lib.hid h1.obj
              have hlt0 := ltOf h1.obj
              have HX := Lib.hid (And.intro xC (And.intro mC' (And.intro gC (And.intro hN2 m01))))
              clear hs1 hsr xA mA nA mA' gA hblk mN xB mB nB mB' gB hs2 xC mC nC mC' gC qC hN hN2 m01
              try simp only [Nat.zero_add] at hrun2 hrun4
              go_wp2_with (first
                | (
                  at_builtin
                  refine wpList_append_run rfl _ _ _ rfl rfl rfl (hrun1 _) ?_
                  clear hrun1
                  )
                | (
                  at_builtin
                  refine wpList_append_run rfl _ _ _ rfl rfl rfl (hrun2 _) ?_
                  clear hrun2
                  )
                | (
                  at_builtin
                  refine wpList_append_run rfl _ _ _ rfl rfl rfl (hrun4 _) ?_
                  clear hrun4
                  )
                )
              go_ret
              obtain ⟨xC, mC', gC, hN2, m01⟩ := HX.out
              rw [HL.out]
              have hsz := m01.size
              rw [hN2]
              have mc : Mod [d] wC (wC.setCell ⟨d, 1, none⟩ (.slice (rA g3) (L.take j ++ [(id, t)] ++ L.drop j).length cap3)) := (Mod.refl _ _).setCell (by simp) _
              have hnd : ∀ b, b ∈ rF g3 → b ≠ d := fun b hb e => by have := gC b hb; omega
              refine ⟨rfl, g3, cap3, ((m01.trans mC' (by simp)).mono (by simp)).setCell (by simp) _, ⟨?_, xC.keep mc (fun b hb => by simp; exact hnd b hb), hnd⟩, fun b hb => .inr (by have := gC b hb; omega)⟩
              rw [heapSet (mC'.keep hob.out (by simp))]
              simp
end Go.Proofs.YthieionajemjhaaDoor

/- The plain law of layer 13: a wheel and the document's wheel tell alike. No program in sight but the walks' words. -/
namespace Go.Proofs.YthieionajemjhaaDoor
set_option linter.unusedVariables false
set_option linter.unusedSimpArgs false
open Go.RowKit

theorem ddel_spec (i : Int) : ∀ (m : List (Int × Nat)) (j : Nat), (m.map (·.1)).Nodup → match dfind m i j with | some (n, _) => j ≤ n ∧ m.eraseIdx (n - j) = m.filter (fun p => !decide (p.1 = i)) | none => m = m.filter (fun p => !decide (p.1 = i))
  | [], j, _ => rfl
  | p :: m, j, hn => by
    have hn' := List.nodup_cons.1 (show (p.1 :: m.map (·.1)).Nodup from hn)
    unfold dfind
    by_cases e : i = p.1
    · rw [if_pos e]
      have hf : m.filter (fun p => !decide (p.1 = i)) = m := by
        rw [List.filter_eq_self]
        intro q hq
        have : q.1 ≠ i := by
          rintro rfl
          exact hn'.1 (e ▸ List.mem_map.2 ⟨q, hq, rfl⟩)
        simpa using this
      simp only [Nat.sub_self, List.eraseIdx_zero, List.tail_cons]
      refine ⟨Nat.le_refl _, ?_⟩
      rw [List.filter_cons_of_neg (by simp [e]), hf]
    · rw [if_neg e]
      have ih := ddel_spec i m (j + 1) hn'.2
      have hp : (!decide (p.1 = i)) = true := by
        have : ¬ p.1 = i := fun x => e x.symm
        simpa using this
      cases hd : dfind m i (j + 1) with
      | none =>
        rw [hd] at ih
        simp only at ih ⊢
        rw [List.filter_cons_of_pos (by simpa using hp), ← ih]
      | some q =>
        obtain ⟨n, v⟩ := q
        rw [hd] at ih
        simp only at ih ⊢
        refine ⟨by omega, ?_⟩
        rw [show n - j = (n - (j + 1)) + 1 by omega, List.eraseIdx_cons_succ, ih.2, List.filter_cons_of_pos (by simpa using hp)]
theorem ddel_eq {m : List (Int × Nat)} (i : Int) (h : (m.map (·.1)).Nodup) : ddel m i = m.filter (fun p => !decide (p.1 = i)) := by
  have := ddel_spec i m 0 h
  unfold ddel
  cases hd : dfind m i 0 with
  | none => rw [hd] at this; exact this
  | some q =>
    obtain ⟨n, v⟩ := q
    rw [hd] at this
    exact this.2
theorem dget_iff {m : List (Int × Nat)} (h : (m.map (·.1)).Nodup) (i : Int) (v : Nat) : dget m i = some v ↔ (i, v) ∈ m := ⟨dget_mem, dget_of_mem h⟩
theorem dget_perm {m n : List (Int × Nat)} (h : m.Perm n) (hn : (n.map (·.1)).Nodup) (i : Int) : dget m i = dget n i := by
  have hm : (m.map (·.1)).Nodup := (h.map (·.1)).nodup_iff.2 hn
  apply Option.ext
  intro v
  rw [dget_iff hm, dget_iff hn]
  exact h.mem_iff
theorem dget_none_iff {m : List (Int × Nat)} {i : Int} : dget m i = none → i ∉ m.map (·.1) := fun h => dfind_none (dget_none h)
theorem SW.Inv.has {s : SW} (h : s.Inv) {id : Int} (hs : (dget s.dues id).isSome = true) : (id, dueW s id) ∈ s.dues ∧ id ∈ s.lists (idxW s.now (dueW s id)) := by
  cases hd : dget s.dues id with
  | none => rw [hd] at hs; cases hs
  | some v =>
    have hm := dget_mem hd
    have hv : dueW s id = v := h.due hm
    rw [hv]
    refine ⟨hm, (h.part _).mem_iff.2 (List.mem_map.2 ⟨(id, v), List.mem_filter.2 ⟨hm, by simp⟩, rfl⟩)⟩
theorem SW.Inv.drop {s : SW} (h : s.Inv) (id : Int) : (s.drop id).Inv := by
  unfold SW.drop
  by_cases hs : (dget s.dues id).isSome = true
  case neg => rw [if_neg hs]; exact h
  rw [if_pos hs]
  obtain ⟨hm, _⟩ := h.has hs
  have hE := ddel_eq id h.nodup
  refine ⟨⟨h.ok.now, fun p hp => h.ok.due p ?_⟩, ?_, fun p hp => h.wf p ?_, fun k => ?_⟩
  · simp only at hp; rw [hE] at hp; exact (List.mem_filter.1 hp).1
  · simp only; rw [hE]; exact (List.filter_sublist.map _).nodup h.nodup
  · simp only at hp; rw [hE] at hp; exact (List.mem_filter.1 hp).1
  · simp only
    rw [hE, List.filter_filter]
    by_cases hk : k = idxW s.now (dueW s id)
    · subst hk
      rw [upd_same]
      have h1 := (h.part (idxW s.now (dueW s id))).filter (fun x => !decide (x = id))
      unfold wOut
      refine h1.trans ?_
      rw [List.filter_map, List.filter_filter]
      refine List.Perm.of_eq ?_
      congr 1
      apply List.filter_congr
      intro p _
      simp [Function.comp_def, Bool.and_comm]
    · rw [upd_ne _ _ hk]
      refine (h.part k).trans (List.Perm.of_eq ?_)
      congr 1
      apply List.filter_congr
      intro p hp
      by_cases e : p.1 = id
      · have hv : p.2 = dueW s id := by rw [← e]; exact (h.due hp).symm
        have : ¬ idxW s.now p.2 = k := fun x => hk (by rw [← x, hv])
        simp [this]
      · simp [e]

/-- The two wheels hold the same. -/
structure Sim (s : SW) (L : List (Int × Nat)) : Prop where
  inv : s.Inv
  perm : L.Perm s.dues
  sorted : L.Pairwise (fun p q => p.2 < q.2 ∨ (p.2 = q.2 ∧ p.1 < q.1))
theorem Sim.get {s : SW} {L : List (Int × Nat)} (h : Sim s L) (id : Int) : dget L id = dget s.dues id := dget_perm h.perm h.inv.nodup id
theorem Sim.len {s : SW} {L : List (Int × Nat)} (h : Sim s L) : L.length = s.dues.length := h.perm.length_eq
theorem Sim.dueE {s : SW} {L : List (Int × Nat)} (h : Sim s L) {p : Int × Nat} (hp : p ∈ L) : dueW s p.1 = p.2 := h.inv.due (h.perm.mem_iff.1 hp)
theorem sim0 {t : Nat} (h : tickOk t) : Sim (sw0 t) [] := ⟨sw0_Inv h, List.Perm.refl _, List.Pairwise.nil⟩
theorem Sim.ids {s : SW} {L M : List (Int × Nat)} (h : Sim s L) (hM : M.Sublist L) : (idsOf M).Pairwise (fun x y => leW s x y = true) := by
  unfold idsOf
  rw [List.pairwise_map]
  refine (h.sorted.sublist hM).imp_of_mem ?_
  intro p q hp hq hpq
  rw [leW_iff, h.dueE (hM.subset hp), h.dueE (hM.subset hq)]
  omega
theorem Sim.list {s : SW} {L : List (Int × Nat)} (h : Sim s L) : sortW s (s.dues.map (·.1)) = idsOf L :=
  sorted_unique s ((sortW_perm s _).trans (h.perm.map (·.1)).symm) (sortW_sorted s _) (h.ids (List.Sublist.refl _))
theorem Sim.due {s : SW} {L : List (Int × Nat)} (h : Sim s L) : sortW s (s.lists 168) = idsOf (dueL s.now L) :=
  sorted_unique s ((sortW_perm s _).trans (h.inv.ready.trans ((h.perm.filter (fun p => decide (p.2 ≤ s.now))).map (·.1)).symm)) (sortW_sorted s _) (h.ids List.filter_sublist)
theorem insL_split : ∀ (L : List (Int × Nat)) (id : Int) (due : Nat), L.Pairwise (fun p q => p.2 < q.2 ∨ (p.2 = q.2 ∧ p.1 < q.1)) → (∀ p, p ∈ L.take (insAt L id due) → ltP p id due) ∧ (∀ p, p ∈ L.drop (insAt L id due) → ¬ ltP p id due)
  | [], id, due, _ => by simp [insAt]
  | q :: L, id, due, hs => by
    have hs' := List.pairwise_cons.1 hs
    unfold insAt
    by_cases hq : ltP q id due
    · rw [if_pos hq]
      obtain ⟨i1, i2⟩ := insL_split L id due hs'.2
      refine ⟨fun p hp => ?_, fun p hp => i2 p (by simpa using hp)⟩
      simp only [List.take_succ_cons, List.mem_cons] at hp
      rcases hp with rfl | hp
      · exact hq
      · exact i1 p hp
    · rw [if_neg hq]
      refine ⟨by simp, fun p hp => ?_⟩
      simp only [List.drop_zero, List.mem_cons] at hp
      rcases hp with rfl | hp
      · exact hq
      · have := hs'.1 p hp
        unfold ltP at *
        omega
theorem insL_perm (L : List (Int × Nat)) (id : Int) (due : Nat) : (insL L id due).Perm (L ++ [(id, due)]) := by
  unfold insL
  have h1 : (L ++ [(id, due)]) = (L.take (insAt L id due) ++ L.drop (insAt L id due)) ++ [(id, due)] := by rw [List.take_append_drop]
  rw [h1, List.append_assoc, List.append_assoc]
  exact List.Perm.append_left _ List.perm_append_comm
theorem insL_sorted {L : List (Int × Nat)} {id : Int} {due : Nat} (hs : L.Pairwise (fun p q => p.2 < q.2 ∨ (p.2 = q.2 ∧ p.1 < q.1))) (hn : id ∉ L.map (·.1)) : (insL L id due).Pairwise (fun p q => p.2 < q.2 ∨ (p.2 = q.2 ∧ p.1 < q.1)) := by
  obtain ⟨i1, i2⟩ := insL_split L id due hs
  have hL : L = L.take (insAt L id due) ++ L.drop (insAt L id due) := (List.take_append_drop _ _).symm
  have hs2 := hs
  rw [hL] at hs2
  obtain ⟨a1, a2, a3⟩ := List.pairwise_append.1 hs2
  unfold insL
  rw [List.append_assoc]
  refine List.pairwise_append.2 ⟨a1, ?_, ?_⟩
  · rw [List.singleton_append]
    refine List.pairwise_cons.2 ⟨fun p hp => ?_, a2⟩
    have := i2 p hp
    have hne : p.1 ≠ id := fun e => hn (List.mem_map.2 ⟨p, List.mem_of_mem_drop hp, e⟩)
    unfold ltP at this
    simp only
    omega
  · intro p hp q hq
    rw [List.singleton_append] at hq
    rcases List.mem_cons.1 hq with rfl | hq
    · have := i1 p hp
      unfold ltP at this
      simp only
      omega
    · exact a3 p hp q hq
theorem Sim.addE {s : SW} {L : List (Int × Nat)} (h : Sim s L) (id due : Int) : s.addE id due = raddE L id due := by
  unfold SW.addE raddE
  rw [h.get]
theorem Sim.add {s : SW} {L : List (Int × Nat)} (h : Sim s L) {id : Int} (hid : (Lit.int .i64 id).wf = true) (due : Int) : Sim (s.add id due) (radd L id due) := by
  refine ⟨h.inv.add hid due, ?_, ?_⟩
  · unfold SW.add radd
    rw [← h.addE]
    by_cases he : s.addE id due = 0
    · rw [if_pos he, if_pos he]
      have hd : dget s.dues id = none := by
        unfold SW.addE at he
        by_cases ht : tickOk due
        · rw [if_neg (by simpa using ht)] at he
          cases hd : dget s.dues id with
          | none => rfl
          | some v => rw [hd] at he; simp at he
        · rw [if_pos ht] at he; cases he
      have e : ((s.setDue id due.toNat).put id).dues = dput s.dues id due.toNat := rfl
      have e2 : dput s.dues id due.toNat = s.dues ++ [(id, due.toNat)] := by
        unfold dput
        rw [dget_none hd]
      rw [e, e2]
      exact (insL_perm L id _).trans (h.perm.append_right _)
    · rw [if_neg he, if_neg he]; exact h.perm
  · unfold radd
    by_cases he : raddE L id due = 0
    · rw [if_pos he]
      refine insL_sorted h.sorted ?_
      unfold raddE at he
      by_cases ht : tickOk due
      · rw [if_neg (by simpa using ht)] at he
        cases hd : dget L id with
        | none => exact dget_none_iff hd
        | some v => rw [hd] at he; simp at he
      · rw [if_pos ht] at he; cases he
    · rw [if_neg he]; exact h.sorted
theorem Sim.nodup {s : SW} {L : List (Int × Nat)} (h : Sim s L) : (L.map (·.1)).Nodup := (h.perm.map (·.1)).nodup_iff.2 h.inv.nodup
theorem Sim.dropE {s : SW} {L : List (Int × Nat)} (h : Sim s L) (id : Int) : s.dropE id = rdropE L id := by
  unfold SW.dropE rdropE
  rw [h.get]
theorem Sim.drop {s : SW} {L : List (Int × Nat)} (h : Sim s L) (id : Int) : Sim (s.drop id) (ddel L id) := by
  have e1 := ddel_eq id h.nodup
  have e2 := ddel_eq id h.inv.nodup
  refine ⟨h.inv.drop id, ?_, ?_⟩
  · have : (s.drop id).dues = ddel s.dues id := by
      unfold SW.drop
      split
      · rfl
      · rename_i hs
        have hd : dget s.dues id = none := by
          cases hd : dget s.dues id with
          | none => rfl
          | some v => rw [hd] at hs; simp at hs
        unfold ddel
        rw [dget_none hd]
    rw [this, e1, e2]
    exact h.perm.filter _
  · rw [e1]; exact h.sorted.filter _
theorem Sim.goE {s : SW} {L : List (Int × Nat)} (h : Sim s L) (t : Int) : s.goE t = rgoE s.now t := by
  unfold SW.goE rgoE
  by_cases hc : t < s.now ∨ 1152921504606846976 < t
  · rw [if_pos hc, if_pos (by unfold tickOk; omega)]
  · rw [if_neg hc, if_neg (by unfold tickOk; omega)]
theorem Sim.goNow {s : SW} {L : List (Int × Nat)} (h : Sim s L) (t : Int) : (s.go t).now = rgo s.now t := by
  unfold rgo
  by_cases hc : t < s.now ∨ 1152921504606846976 < t
  · rw [if_pos hc]
    unfold SW.go
    rw [if_pos (by unfold tickOk; omega)]
  · rw [if_neg hc]
    obtain ⟨n, rfl⟩ := Int.eq_ofNat_of_zero_le (show 0 ≤ t by omega)
    rw [go_now (by omega) (by omega)]
    omega
theorem Sim.go {s : SW} {L : List (Int × Nat)} (h : Sim s L) (t : Int) : Sim (s.go t) L := ⟨h.inv.go t, by rw [go_dues]; exact h.perm, h.sorted⟩
theorem Sim.when {s : SW} {L : List (Int × Nat)} (h : Sim s L) (id : Int) : dueW s id = (dget L id).getD 0 := by rw [h.get]; rfl
theorem firstK_has {s : SW} (h : s.Inv) (hd : s.dues ≠ []) : s.lists s.firstK ≠ [] ∧ ∀ p, p ∈ s.dues → s.lists 168 = [] → s.firstK ≤ idxW s.now p.2 := by
  have hin : ∀ p, p ∈ s.dues → p.1 ∈ s.lists (idxW s.now p.2) := fun p hp => (h.part _).mem_iff.2 (List.mem_map.2 ⟨p, List.mem_filter.2 ⟨hp, by simp⟩, rfl⟩)
  by_cases hr : s.lists 168 = []
  case neg =>
    have : s.firstK = 168 := if_pos hr
    rw [this]
    exact ⟨hr, fun p _ h => absurd h hr⟩
  have hlt : ∀ p, p ∈ s.dues → idxW s.now p.2 < 168 := by
    intro p hp
    have h1 := idxW_le h.ok.now (h.ok.due p hp)
    rcases Nat.lt_or_ge (idxW s.now p.2) 168 with h2 | h2
    · exact h2
    · have := hin p hp
      rw [show idxW s.now p.2 = 168 by omega, hr] at this
      cases this
  unfold SW.firstK
  rw [if_neg (by simpa using hr)]
  cases hf : (List.range 168).find? (fun k => !(s.lists k).isEmpty) with
  | none =>
    exfalso
    obtain ⟨p, hp⟩ := List.exists_mem_of_ne_nil _ hd
    have := List.find?_eq_none.1 hf (idxW s.now p.2) (List.mem_range.2 (hlt p hp))
    have hx := hin p hp
    simp at this
    rw [this] at hx
    cases hx
  | some k =>
    obtain ⟨h1, i, h2, h3, h4⟩ := List.find?_eq_some_iff_getElem.1 hf
    have hi : k = i := by simpa using h3.symm
    refine ⟨by simpa using h1, fun p hp _ => ?_⟩
    show k ≤ _
    rcases Nat.lt_or_ge (idxW s.now p.2) k with h5 | h5
    · have h6 := h4 (idxW s.now p.2) (by omega)
      have hx := hin p hp
      simp at h6
      rw [h6] at hx
      cases hx
    · exact h5
theorem Sim.nextE {s : SW} {L : List (Int × Nat)} (h : Sim s L) : s.nextE = rnextE L := by
  unfold SW.nextE rnextE
  by_cases hL : L = []
  · rw [if_pos hL, if_pos (by have := h.len; rw [hL] at this; exact List.eq_nil_of_length_eq_zero this.symm)]
  · rw [if_neg hL, if_neg (by intro e; have := h.len; rw [e] at this; exact hL (List.eq_nil_of_length_eq_zero this))]
theorem Sim.next {s : SW} {L : List (Int × Nat)} (h : Sim s L) : s.nextV = rnextV L := by
  unfold SW.nextV rnextV
  by_cases hd : s.dues = []
  · rw [if_pos hd]
    have hL : L = [] := by have := h.len; rw [hd] at this; exact List.eq_nil_of_length_eq_zero this
    rw [hL]; rfl
  rw [if_neg hd]
  obtain ⟨f1, f2⟩ := firstK_has h.inv hd
  have hlen : 0 < s.firstL.length := by unfold SW.firstL; rw [sortW_len]; exact List.length_pos_iff.2 f1
  -- the first of the first list
  have hx : nth s.firstL 0 ∈ s.lists s.firstK := (sortW_perm s _).mem_iff.1 (by
    have : nth s.firstL 0 = s.firstL[0] := by simp [nth, List.getD, hlen]
    rw [this]; exact List.getElem_mem hlen)
  have hmin : ∀ y, y ∈ s.lists s.firstK → leW s (nth s.firstL 0) y = true ∨ nth s.firstL 0 = y := by
    intro y hy
    have hy' : y ∈ s.firstL := (sortW_perm s _).mem_iff.2 hy
    have hs := sortW_sorted s (s.lists s.firstK)
    have e : s.firstL = sortW s (s.lists s.firstK) := rfl
    cases hl : s.firstL with
    | nil => rw [hl] at hlen; simp at hlen
    | cons a r =>
      rw [hl] at hy'
      rw [← e, hl] at hs
      have : nth (a :: r) 0 = a := rfl
      rw [this]
      rcases List.mem_cons.1 hy' with rfl | hy'
      · exact .inr rfl
      · exact .inl ((List.pairwise_cons.1 hs).1 y hy')
  obtain ⟨p, hp, hp1⟩ := List.mem_map.1 ((h.inv.part _).mem_iff.1 hx)
  obtain ⟨hp2, hp3⟩ := List.mem_filter.1 hp
  have hp3 : idxW s.now p.2 = s.firstK := by simpa using hp3
  have hpv : dueW s p.1 = p.2 := h.inv.due hp2
  rw [← hp1, hpv]
  -- it is due no later than any
  have hall : ∀ q, q ∈ s.dues → p.2 ≤ q.2 := by
    intro q hq
    have hqv : dueW s q.1 = q.2 := h.inv.due hq
    by_cases hk : idxW s.now q.2 = s.firstK
    · have hqm : q.1 ∈ s.lists s.firstK := (h.inv.part _).mem_iff.2 (List.mem_map.2 ⟨q, List.mem_filter.2 ⟨hq, by simpa using hk⟩, rfl⟩)
      rcases hmin q.1 hqm with hle | he
      · rw [← hp1, leW_iff, hpv, hqv] at hle; omega
      · rw [← hp1] at he; rw [← hpv, ← hqv, he]; exact Nat.le_refl _
    · by_cases hr : s.lists 168 = []
      · have h1 := f2 q hq hr
        have h2 : idxW s.now p.2 < idxW s.now q.2 := by omega
        have hnr : ∀ z, z ∈ s.dues → s.now < z.2 := by
          intro z hz
          rcases Nat.lt_or_ge s.now z.2 with h3 | h3
          · exact h3
          · have hz' : z.1 ∈ s.lists 168 := (h.inv.part _).mem_iff.2 (List.mem_map.2 ⟨z, List.mem_filter.2 ⟨hz, by simp [idxW, h3]⟩, rfl⟩)
            rw [hr] at hz'; cases hz'
        exact Nat.le_of_lt (idxW_order h.inv.ok.now (hnr p hp2) (hnr q hq) (h.inv.ok.due p hp2) (h.inv.ok.due q hq) h2)
      · have hf : s.firstK = 168 := if_pos hr
        have h1 : p.2 ≤ s.now := by
          rcases Nat.lt_or_ge s.now p.2 with h3 | h3
          · have h1 : idxW s.now p.2 = lvlW p.2 s.now * 8 + digW p.2 (lvlW p.2 s.now) := if_neg (by omega)
            have h4 := lvlW_le (h.inv.ok.due p hp2) h.inv.ok.now
            have h5 := digW_bd p.2 (lvlW p.2 s.now)
            omega
          · exact h3
        have h2 : s.now < q.2 := by
          rcases Nat.lt_or_ge s.now q.2 with h3 | h3
          · exact h3
          · exact absurd (show idxW s.now q.2 = s.firstK by rw [hf]; exact if_pos h3) hk
        omega
  cases hL : L with
  | nil => have := h.len; rw [hL] at this; exact absurd (List.eq_nil_of_length_eq_zero this.symm) hd
  | cons a r =>
    have : nthP (a :: r) 0 = a := rfl
    rw [this]
    have ha : a ∈ s.dues := h.perm.mem_iff.1 (by rw [hL]; exact List.mem_cons_self)
    have h1 := hall a ha
    have hpL : p ∈ L := h.perm.mem_iff.2 hp2
    rw [hL] at hpL
    have hs := h.sorted
    rw [hL] at hs
    rcases List.mem_cons.1 hpL with rfl | hpL
    · rfl
    · have := (List.pairwise_cons.1 hs).1 p hpL
      omega
end Go.Proofs.YthieionajemjhaaDoor
