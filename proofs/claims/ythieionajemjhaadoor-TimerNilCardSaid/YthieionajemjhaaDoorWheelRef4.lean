/- The walk over the document's wheel: Add. -/
import Derived.Test.YthieionajemjhaaDoorWheelRef3
namespace Go.Proofs.YthieionajemjhaaDoor
set_option linter.unusedVariables false
set_option linter.unusedSimpArgs false
open Go.RowKit

def ltP (p : Int × Nat) (id : Int) (due : Nat) : Prop := p.2 < due ∨ (p.2 = due ∧ p.1 < id)
instance (p : Int × Nat) (id : Int) (due : Nat) : Decidable (ltP p id due) := by unfold ltP; infer_instance
/-- Where a thing comes to stand. -/
def insAt : List (Int × Nat) → Int → Nat → Nat
  | [], _, _ => 0
  | p :: L, id, due => if ltP p id due then insAt L id due + 1 else 0
theorem insAt_eq : ∀ {L : List (Int × Nat)} {id : Int} {due j : Nat}, j ≤ L.length → (∀ q, q < j → ltP (nthP L q) id due) → (j < L.length → ¬ ltP (nthP L j) id due) → insAt L id due = j
  | [], id, due, j, h, _, _ => by simp at h; simp [insAt, h]
  | p :: L, id, due, 0, _, _, h => by
    unfold insAt
    exact if_neg (show ¬ ltP p id due from h (by simp))
  | p :: L, id, due, j + 1, h0, h1, h2 => by
    have e : ∀ q, nthP (p :: L) (q + 1) = nthP L q := fun q => by simp [nthP]
    unfold insAt
    rw [if_pos (show ltP p id due from h1 0 (by omega)), insAt_eq (j := j) (by simpa using h0) (fun q hq => by rw [← e]; exact h1 (q + 1) (by omega)) (fun hj => by rw [← e]; exact h2 (by simpa using hj))]
def insL (L : List (Int × Nat)) (id : Int) (due : Nat) : List (Int × Nat) := L.take (insAt L id due) ++ [(id, due)] ++ L.drop (insAt L id due)
/-- Add: the errno; the list behind it. -/
def raddE (L : List (Int × Nat)) (id due : Int) : Int := if ¬ tickOk due then 2 else if (dget L id).isSome then 6 else 0
def radd (L : List (Int × Nat)) (id due : Int) : List (Int × Nat) := if raddE L id due = 0 then insL L id due.toNat else L

/-- append of one item. -/
theorem items_append1 {w : World} {g : Option Nat} {cap : Nat} {L : List (Int × Nat)} (h : RAt 102 2 w g cap L.length (itemsV L)) {b : Nat} {id : Int} {due : Nat} (hl : L.length < 1000000) (hb : w.heap[b]? = some (.cells #[.int .i64 id, .int .i64 due] 102 (0,0))) :
    ∃ g' cap' w', (∀ ty, (Builtin.append_ #[54, 54] ty #[.slice (rA g) L.length cap, .slice (some ⟨b, 0, none⟩) 1 1]).run Tryd.prog w = .ok (.slice (some ⟨g', 0, none⟩) (L.length + 1) cap') w') ∧
      RAt 102 2 w' (some g') cap' (L ++ [(id, due)]).length (itemsV (L ++ [(id, due)])) ∧ Mod (rF g) w w' ∧ (g' ∈ rF g ∨ g' = w.heap.size) := by
  have hI := infoItem
  obtain ⟨i, hi, hi2⟩ := Option.map_eq_some_iff.1 hI
  simp only [Prod.mk.injEq] at hi2
  obtain ⟨i1, i2, i3⟩ := hi2
  have := h.append (P := Tryd.prog) (news := [.int .i64 id, .int .i64 due]) Tryd.underlying54 hi i1 i2 i3 rfl (by omega) hl (by omega) rfl (by intro u hu; simp at hu; rcases hu with rfl | rfl <;> rfl) hb
  rw [List.length_append, itemsV_append]
  exact this
set_option maxRecDepth 100000 in
set_option maxHeartbeats 2000000 in
theorem rwheel_Add (d : Nat) (g : Option Nat) (cap now : Nat) (L : List (Int × Nat)) (w : World) (h : RWAt w d g cap now L) (id due : Int) (hm : L.length + 1 < 1000000) : Calls Tryd.prog 65 #[.pointer (some ⟨d, 0, none⟩), .int .i64 id, .int .i64 due] w (RWDo d g (.int .i64 (raddE L id due)) now (radd L id due) w) := by
  have c0 : w.cell? ⟨d, 0, none⟩ = some (.int .i64 now) := cellAt h.obj 0
  have c1 : w.cell? ⟨d, 1, none⟩ = some (.slice (rA g) L.length cap) := cellAt h.obj 1
  have hcap := h.row.cap
  unfold maxLen at hcap
  obtain ⟨hcap1, hcap2⟩ := hcap
  have hF := rwheel_Find d g cap now L w h id
  by_cases hr : tickOk due
  case neg =>
    have hE : raddE L id due = 2 := by unfold raddE; rw [if_pos hr]
    have hA : radd L id due = L := by unfold radd; rw [if_neg (by omega)]
    rw [hE, hA]
    have hc : due < 0 ∨ (0 ≤ due ∧ 1152921504606846976 < due) := by unfold tickOk at hr; omega
    clear hE hA hr hF
    have hh := h
    rcases hc with h1 | ⟨h1, h2⟩
    all_goals
      go_enter Tryd.func65, Tryd.ntmps65
      go_wp2
      go_ret
      exact ⟨rfl, g, cap, Mod.refl _ _, hh, fun b hb => .inl hb⟩
  have hr0 := hr.1
  have hr1 := hr.2
  obtain ⟨t, rfl⟩ := Int.eq_ofNat_of_zero_le hr0
  unfold findI at hF
  cases hd : dfind L id 0 with
  | some p =>
    obtain ⟨n, v⟩ := p
    have hE : raddE L id t = 6 := by unfold raddE dget; rw [if_neg (by simpa using hr), if_pos (by rw [hd]; rfl)]
    have hA : radd L id t = L := by unfold radd; rw [if_neg (by omega)]
    rw [hE, hA]
    rw [hd] at hF
    simp only at hF
    have hh := h
    clear hE hA hr hd
    go_enter Tryd.func65, Tryd.ntmps65
    go_wp2_with (go_at_call 46; refine hF.mono ?_; rintro e w' ⟨rfl, k, rfl⟩)
    go_ret
    exact ⟨rfl, g, cap, (Mod.refl _ _).drewN _, hh.same rfl, fun b hb => .inl hb⟩
  | none =>
    have hE : raddE L id t = 0 := by unfold raddE dget; rw [if_neg (by simpa using hr), if_neg (by rw [hd]; simp)]
    have hA : radd L id t = insL L id t := by unfold radd; rw [if_pos hE]; rfl
    rw [hE, hA]
    rw [hd] at hF
    simp only at hF
    clear hE hA hr hd
    go_enter Tryd.func65, Tryd.ntmps65
    go_wp2_with (go_at_call 46; refine hF.mono ?_; rintro e w' ⟨rfl, k, rfl⟩)
    have h1 := h.same (w' := w.drewN k) rfl
    have c11 : (w.drewN k).cell? ⟨d, 1, none⟩ = some (.slice (rA g) L.length cap) := c1
    have m01 : Mod [] w (w.drewN k) := (Mod.refl _ _).drewN _
    clear hF c0 c1
    generalize w.drewN k = w1 at *
    go_loopg [7] L.length (fun gg at_ wr => ∃ j : Nat, at_ = .int .i64 j ∧ j + gg = L.length ∧ (∀ q, q < j → ltP (nthP L q) id t) ∧ w1 = wr)
    case atStart => exact ⟨0, rfl, by omega, fun q hq => by omega, rfl⟩
    case round =>
      obtain ⟨j, rfl, hj, hq, rfl⟩ := hrel
      by_cases hlt : j < L.length ∧ ltP (nthP L j) id t
      · obtain ⟨hjl, hP⟩ := hlt
        obtain ⟨b, rfl, cj, ck⟩ := h1.item hjl
        rw [rA_some] at *
        have hq' : ∀ q, q < j + 1 → ltP (nthP L q) id t := fun q h => by
          by_cases e2 : q = j
          · exact e2 ▸ hP
          · exact hq q (by omega)
        clear hq
        unfold ltP at hP
        generalize (nthP L j).1 = x at *
        generalize (nthP L j).2 = v at *
        rcases hP with h2 | ⟨h2, h3⟩
        · have e1 : decide ((v : Int) < (t : Int)) = true := decide_eq_true (by omega)
          go_wp2
          go_roundg (gk - 1)
          case measure => omega
          case rel => exact ⟨j + 1, by go_num, by omega, hq', rfl⟩
        · subst h2
          go_wp2
          go_roundg (gk - 1)
          case measure => omega
          case rel => exact ⟨j + 1, by go_num, by omega, hq', rfl⟩
      · have hI : insAt L id t = j := insAt_eq (by omega) hq (fun hjl hP => hlt ⟨hjl, hP⟩)
        have hL : insL L id t = L.take j ++ [(id, t)] ++ L.drop j := by unfold insL; rw [hI]
        have HL := Lib.hid hL
        have hne : (j = L.length) ∨ (j < L.length ∧ ¬ ltP (nthP L j) id t) := by
          by_cases hjl : j < L.length
          · exact .inr ⟨hjl, fun hP => hlt ⟨hjl, hP⟩⟩
          · exact .inl (by omega)
        clear hlt hI hL hq
        cases g with
        | none =>
          obtain ⟨_, e0, e1⟩ := h1.row
          rw [e0, e1] at c11
          have ej : j = 0 := by rcases hne with h | ⟨h, _⟩ <;> omega
          subst ej
          have eL : L = [] := List.eq_nil_of_length_eq_zero e0
          have hs1 : SrcAt w1 2 none 0 (itemsV (L.take 0)) := ⟨rfl, by simp [itemsV], .inl ⟨rfl, rfl⟩⟩
          have hsr : ∀ u, RAt 102 2 u none cap L.length (itemsV L) → SrcAt u 2 none 0 (itemsV (L.drop 0)) := by
            intro u hu
            rw [eL]
            exact ⟨rfl, by simp [itemsV], .inl ⟨rfl, rfl⟩⟩
          clear hne eL
          rw [show rA none = none from rfl] at c11
          have hlt1 : (L.take 0).length = 0 := by rw [List.length_take]; omega
          obtain ⟨g1, cap1, wA, hrun1, xA, mA, nA⟩ := items_append (w := w1) (g := none) (cap := 0) (L := []) (RAt.nil 102 2 w1) (M := L.take 0) (n2 := 0) (a := none) (c2 := 0) hlt1.symm hs1 (by show 0 + 0 < _; omega) (by simp)
          simp only [List.length_nil, Nat.zero_add, List.nil_append] at hrun1 xA
          have mA' : Mod [] w1 wA := mA
          have gA : ∀ b, b ∈ rF g1 → w1.heap.size ≤ b := fun b hb => (nA b hb).elim (by simp [rF]) (fun e => by rw [e]; exact Nat.le_refl _)
          have hblk := heapNew wA (.cells #[.int .i64 id, .int .i64 (t : Nat)] 102)
          have mN : Mod [] wA (wA.alloc (.cells #[.int .i64 id, .int .i64 (t : Nat)] 102)) := (Mod.refl _ _).alloc _
          obtain ⟨g2, cap2, wB, hrun2, xB, mB, nB⟩ := items_append1 (xA.keep mN (by simp)) (by omega) hblk
          rw [hlt1] at hrun2
          have mB' : Mod [] w1 wB := (mA'.trans mN (by simp)).trans mB (fun b hb => .inr (gA b hb))
          have gB : w1.heap.size ≤ g2 := by
            rcases nB with hb | hb
            · exact gA _ hb
            · have := mA'.size; rw [sizeNew] at hb; omega
          have hlt2 : (L.take 0 ++ [(id, t)]).length = 0 + 1 := by rw [List.length_append, hlt1]; rfl
          have hs2 := hsr wB (h1.row.keep mB' (by simp))
          obtain ⟨g3, cap3, wC, hrun3, xC, mC, nC⟩ := items_append xB (M := L.drop 0) (n2 := 0) (c2 := 0) (by have := @List.length_drop _ (0) L; omega) hs2 (by omega) (by simp)
          rw [hlt2] at hrun3
          obtain ⟨N, hN⟩ : ∃ N, N = 0 + 1 + (0) := ⟨_, rfl⟩
          have hrun4 : ∀ ty, (Builtin.append_ #[54, 54] ty #[.slice (some ⟨g2, 0, none⟩) (0 + 1) cap2, .slice (none) (0) (0)]).run Tryd.prog wB = .ok (.slice (rA g3) N cap3) wC := by
            intro ty
            rw [hN]
            exact hrun3 ty
          clear hrun3
          have hN2 : N = (L.take 0 ++ [(id, t)] ++ L.drop 0).length := by rw [List.length_append, hlt2, List.length_drop]; omega
          have mC' : Mod [] w1 wC := mB'.trans mC (fun b hb => by simp [rF] at hb; right; omega)
          have gC : ∀ b, b ∈ rF g3 → w1.heap.size ≤ b := fun b hb => (nC b hb).elim (fun hb => by simp [rF] at hb; omega) (fun e => by rw [e]; exact mB'.size)
          have cA := mA'.at c11 (by simp)
          have cB := mB'.at c11 (by simp)
          have cC := mC'.at c11 (by simp)
          have qC := mC'.keep h1.obj (by simp)
          have fC := freeAt qC 1
          have zC := ltOf qC
          have hob := Lib.hid h1.obj
          have hlt0 := ltOf h1.obj
          have HX := Lib.hid (And.intro xC (And.intro mC' (And.intro gC (And.intro hN2 m01))))
          clear hs1 hsr xA mA nA mA' gA hblk mN xB mB nB mB' gB hs2 xC mC nC mC' gC qC hN hN2 m01
          try simp only [Nat.zero_add] at hrun2 hrun4
          go_wp2_with (first
            | (
              at_builtin
              refine wpList_append_run rfl _ _ _ rfl rfl rfl (hrun1 _) ?_
              clear hrun1
              )
            | (
              at_builtin
              refine wpList_append_run rfl _ _ _ rfl rfl rfl (hrun2 _) ?_
              clear hrun2
              )
            | (
              at_builtin
              refine wpList_append_run rfl _ _ _ rfl rfl rfl (hrun4 _) ?_
              clear hrun4
              )
            )
          go_ret
          obtain ⟨xC, mC', gC, hN2, m01⟩ := HX.out
          rw [HL.out]
          have hsz := m01.size
          rw [hN2]
          have mc : Mod [d] wC (wC.setCell ⟨d, 1, none⟩ (.slice (rA g3) (L.take 0 ++ [(id, t)] ++ L.drop 0).length cap3)) := (Mod.refl _ _).setCell (by simp) _
          have hnd : ∀ b, b ∈ rF g3 → b ≠ d := fun b hb e => by have := gC b hb; omega
          refine ⟨rfl, g3, cap3, ((m01.trans mC' (by simp)).mono (by simp)).setCell (by simp) _, ⟨?_, xC.keep mc (fun b hb => by simp; exact hnd b hb), hnd⟩, fun b hb => .inr (by have := gC b hb; omega)⟩
          rw [heapSet (mC'.keep hob.out (by simp))]
          simp
        | some b =>
          rw [rA_some] at *
          have hs1 : SrcAt w1 2 (some ⟨b, 0, none⟩) j (itemsV (L.take j)) := by have := src_part h1.row 0 j (by omega); simpa using this
          rcases hne with hjL | ⟨hjl, hP⟩
          · subst hjL
            by_cases hcn : cap = L.length
            · have hsr : ∀ u, RAt 102 2 u (some b) cap L.length (itemsV L) → SrcAt u 2 (some ⟨b, 0, none⟩) 0 (itemsV (L.drop L.length)) := by
                intro u hu
                have := src_part hu 0 0 (by omega)
                rw [List.drop_of_length_le (Nat.le_refl _)]
                simpa using this
              rw [hcn] at c11
              clear hcn
              have hlt1 : (L.take L.length).length = L.length := by rw [List.length_take]; omega
              obtain ⟨g1, cap1, wA, hrun1, xA, mA, nA⟩ := items_append (w := w1) (g := none) (cap := 0) (L := []) (RAt.nil 102 2 w1) (M := L.take L.length) (n2 := L.length) (a := some ⟨b, 0, none⟩) (c2 := L.length) hlt1.symm hs1 (by show 0 + L.length < _; omega) (by simp)
              simp only [List.length_nil, Nat.zero_add, List.nil_append] at hrun1 xA
              have mA' : Mod [] w1 wA := mA
              have gA : ∀ b, b ∈ rF g1 → w1.heap.size ≤ b := fun b hb => (nA b hb).elim (by simp [rF]) (fun e => by rw [e]; exact Nat.le_refl _)
              have hblk := heapNew wA (.cells #[.int .i64 id, .int .i64 (t : Nat)] 102)
              have mN : Mod [] wA (wA.alloc (.cells #[.int .i64 id, .int .i64 (t : Nat)] 102)) := (Mod.refl _ _).alloc _
              obtain ⟨g2, cap2, wB, hrun2, xB, mB, nB⟩ := items_append1 (xA.keep mN (by simp)) (by omega) hblk
              rw [hlt1] at hrun2
              have mB' : Mod [] w1 wB := (mA'.trans mN (by simp)).trans mB (fun b hb => .inr (gA b hb))
              have gB : w1.heap.size ≤ g2 := by
                rcases nB with hb | hb
                · exact gA _ hb
                · have := mA'.size; rw [sizeNew] at hb; omega
              have hlt2 : (L.take L.length ++ [(id, t)]).length = L.length + 1 := by rw [List.length_append, hlt1]; rfl
              have hs2 := hsr wB (h1.row.keep mB' (by simp))
              obtain ⟨g3, cap3, wC, hrun3, xC, mC, nC⟩ := items_append xB (M := L.drop L.length) (n2 := 0) (c2 := 0) (by have := @List.length_drop _ (L.length) L; omega) hs2 (by omega) (by simp)
              rw [hlt2] at hrun3
              obtain ⟨N, hN⟩ : ∃ N, N = L.length + 1 + (0) := ⟨_, rfl⟩
              have hrun4 : ∀ ty, (Builtin.append_ #[54, 54] ty #[.slice (some ⟨g2, 0, none⟩) (L.length + 1) cap2, .slice (some ⟨b, 0, none⟩) (0) (0)]).run Tryd.prog wB = .ok (.slice (rA g3) N cap3) wC := by
                intro ty
                rw [hN]
                exact hrun3 ty
              clear hrun3
              have hN2 : N = (L.take L.length ++ [(id, t)] ++ L.drop L.length).length := by rw [List.length_append, hlt2, List.length_drop]; omega
              have mC' : Mod [] w1 wC := mB'.trans mC (fun b hb => by simp [rF] at hb; right; omega)
              have gC : ∀ b, b ∈ rF g3 → w1.heap.size ≤ b := fun b hb => (nC b hb).elim (fun hb => by simp [rF] at hb; omega) (fun e => by rw [e]; exact mB'.size)
              have cA := mA'.at c11 (by simp)
              have cB := mB'.at c11 (by simp)
              have cC := mC'.at c11 (by simp)
              have qC := mC'.keep h1.obj (by simp)
              have fC := freeAt qC 1
              have zC := ltOf qC
              have hob := Lib.hid h1.obj
              have hlt0 := ltOf h1.obj
              have HX := Lib.hid (And.intro xC (And.intro mC' (And.intro gC (And.intro hN2 m01))))
              clear hs1 hsr xA mA nA mA' gA hblk mN xB mB nB mB' gB hs2 xC mC nC mC' gC qC hN hN2 m01
              try simp only [Nat.zero_add] at hrun2 hrun4
              go_wp2_with (first
                | (
                  at_builtin
                  refine wpList_append_run rfl _ _ _ rfl rfl rfl (hrun1 _) ?_
                  clear hrun1
                  )
                | (
                  at_builtin
                  refine wpList_append_run rfl _ _ _ rfl rfl rfl (hrun2 _) ?_
                  clear hrun2
                  )
                | (
                  at_builtin
                  refine wpList_append_run rfl _ _ _ rfl rfl rfl (hrun4 _) ?_
                  clear hrun4
                  )
                )
              go_ret
              obtain ⟨xC, mC', gC, hN2, m01⟩ := HX.out
              rw [HL.out]
              have hsz := m01.size
              rw [hN2]
              have mc : Mod [d] wC (wC.setCell ⟨d, 1, none⟩ (.slice (rA g3) (L.take L.length ++ [(id, t)] ++ L.drop L.length).length cap3)) := (Mod.refl _ _).setCell (by simp) _
              have hnd : ∀ b, b ∈ rF g3 → b ≠ d := fun b hb e => by have := gC b hb; omega
              refine ⟨rfl, g3, cap3, ((m01.trans mC' (by simp)).mono (by simp)).setCell (by simp) _, ⟨?_, xC.keep mc (fun b hb => by simp; exact hnd b hb), hnd⟩, fun b hb => .inr (by have := gC b hb; omega)⟩
              rw [heapSet (mC'.keep hob.out (by simp))]
              simp
            · have hcn2 : L.length < cap := by omega
              have hsr : ∀ u, RAt 102 2 u (some b) cap L.length (itemsV L) → SrcAt u 2 (some ⟨b, L.length * 2, none⟩) 0 (itemsV (L.drop L.length)) := by
                intro u hu
                have := src_part hu L.length 0 (by omega)
                rw [List.take_zero] at this
                rw [List.drop_of_length_le (Nat.le_refl _)]
                exact this
              have hlt1 : (L.take L.length).length = L.length := by rw [List.length_take]; omega
              obtain ⟨g1, cap1, wA, hrun1, xA, mA, nA⟩ := items_append (w := w1) (g := none) (cap := 0) (L := []) (RAt.nil 102 2 w1) (M := L.take L.length) (n2 := L.length) (a := some ⟨b, 0, none⟩) (c2 := cap) hlt1.symm hs1 (by show 0 + L.length < _; omega) (by simp)
              simp only [List.length_nil, Nat.zero_add, List.nil_append] at hrun1 xA
              have mA' : Mod [] w1 wA := mA
              have gA : ∀ b, b ∈ rF g1 → w1.heap.size ≤ b := fun b hb => (nA b hb).elim (by simp [rF]) (fun e => by rw [e]; exact Nat.le_refl _)
              have hblk := heapNew wA (.cells #[.int .i64 id, .int .i64 (t : Nat)] 102)
              have mN : Mod [] wA (wA.alloc (.cells #[.int .i64 id, .int .i64 (t : Nat)] 102)) := (Mod.refl _ _).alloc _
              obtain ⟨g2, cap2, wB, hrun2, xB, mB, nB⟩ := items_append1 (xA.keep mN (by simp)) (by omega) hblk
              rw [hlt1] at hrun2
              have mB' : Mod [] w1 wB := (mA'.trans mN (by simp)).trans mB (fun b hb => .inr (gA b hb))
              have gB : w1.heap.size ≤ g2 := by
                rcases nB with hb | hb
                · exact gA _ hb
                · have := mA'.size; rw [sizeNew] at hb; omega
              have hlt2 : (L.take L.length ++ [(id, t)]).length = L.length + 1 := by rw [List.length_append, hlt1]; rfl
              have hs2 := hsr wB (h1.row.keep mB' (by simp))
              obtain ⟨g3, cap3, wC, hrun3, xC, mC, nC⟩ := items_append xB (M := L.drop L.length) (n2 := 0) (c2 := cap - L.length) (by have := @List.length_drop _ (L.length) L; omega) hs2 (by omega) (by simp)
              rw [hlt2] at hrun3
              obtain ⟨N, hN⟩ : ∃ N, N = L.length + 1 + (0) := ⟨_, rfl⟩
              have hrun4 : ∀ ty, (Builtin.append_ #[54, 54] ty #[.slice (some ⟨g2, 0, none⟩) (L.length + 1) cap2, .slice (some ⟨b, L.length * 2, none⟩) (0) (cap - L.length)]).run Tryd.prog wB = .ok (.slice (rA g3) N cap3) wC := by
                intro ty
                rw [hN]
                exact hrun3 ty
              clear hrun3
              have hN2 : N = (L.take L.length ++ [(id, t)] ++ L.drop L.length).length := by rw [List.length_append, hlt2, List.length_drop]; omega
              have mC' : Mod [] w1 wC := mB'.trans mC (fun b hb => by simp [rF] at hb; right; omega)
              have gC : ∀ b, b ∈ rF g3 → w1.heap.size ≤ b := fun b hb => (nC b hb).elim (fun hb => by simp [rF] at hb; omega) (fun e => by rw [e]; exact mB'.size)
              have cA := mA'.at c11 (by simp)
              have cB := mB'.at c11 (by simp)
              have cC := mC'.at c11 (by simp)
              have qC := mC'.keep h1.obj (by simp)
              have fC := freeAt qC 1
              have zC := ltOf qC
              have hob := Lib.hid h1.obj
              have hlt0 := ltOf h1.obj
              have HX := Lib.hid (And.intro xC (And.intro mC' (And.intro gC (And.intro hN2 m01))))
              clear hs1 hsr xA mA nA mA' gA hblk mN xB mB nB mB' gB hs2 xC mC nC mC' gC qC hN hN2 m01
              try simp only [Nat.zero_add] at hrun2 hrun4
              go_wp2_with (first
                | (
                  at_builtin
                  refine wpList_append_run rfl _ _ _ rfl rfl rfl (hrun1 _) ?_
                  clear hrun1
                  )
                | (
                  at_builtin
                  refine wpList_append_run rfl _ _ _ rfl rfl rfl (hrun2 _) ?_
                  clear hrun2
                  )
                | (
                  at_builtin
                  refine wpList_append_run rfl _ _ _ rfl rfl rfl (hrun4 _) ?_
                  clear hrun4
                  )
                )
              go_ret
              obtain ⟨xC, mC', gC, hN2, m01⟩ := HX.out
              rw [HL.out]
              have hsz := m01.size
              rw [hN2]
              have mc : Mod [d] wC (wC.setCell ⟨d, 1, none⟩ (.slice (rA g3) (L.take L.length ++ [(id, t)] ++ L.drop L.length).length cap3)) := (Mod.refl _ _).setCell (by simp) _
              have hnd : ∀ b, b ∈ rF g3 → b ≠ d := fun b hb e => by have := gC b hb; omega
              refine ⟨rfl, g3, cap3, ((m01.trans mC' (by simp)).mono (by simp)).setCell (by simp) _, ⟨?_, xC.keep mc (fun b hb => by simp; exact hnd b hb), hnd⟩, fun b hb => .inr (by have := gC b hb; omega)⟩
              rw [heapSet (mC'.keep hob.out (by simp))]
              simp
          · have hcn2 : j < cap := by omega
            obtain ⟨b', e, cj, ck⟩ := h1.item hjl
            cases e
            have hsr : ∀ u, RAt 102 2 u (some b) cap L.length (itemsV L) → SrcAt u 2 (some ⟨b, j * 2, none⟩) (L.length - j) (itemsV (L.drop j)) := by
              intro u hu
              have := src_part hu j (L.length - j) (by omega)
              rwa [List.take_of_length_le (by rw [List.length_drop]; omega)] at this
            unfold ltP at hP
            generalize (nthP L j).1 = x at *
            generalize (nthP L j).2 = v at *
            have hv : (v = t ∧ ¬ x < id) ∨ (¬ v = t ∧ ¬ v < t) := by omega
            clear hP
            rcases hv with ⟨h2, h3⟩ | ⟨h2, h3⟩
            · have h2' := h2.symm
              subst h2'
              have h4 : decide (x < id) = false := decide_eq_false h3
              have hlt1 : (L.take j).length = j := by rw [List.length_take]; omega
              obtain ⟨g1, cap1, wA, hrun1, xA, mA, nA⟩ := items_append (w := w1) (g := none) (cap := 0) (L := []) (RAt.nil 102 2 w1) (M := L.take j) (n2 := j) (a := some ⟨b, 0, none⟩) (c2 := cap) hlt1.symm hs1 (by show 0 + j < _; omega) (by simp)
              simp only [List.length_nil, Nat.zero_add, List.nil_append] at hrun1 xA
              have mA' : Mod [] w1 wA := mA
              have gA : ∀ b, b ∈ rF g1 → w1.heap.size ≤ b := fun b hb => (nA b hb).elim (by simp [rF]) (fun e => by rw [e]; exact Nat.le_refl _)
              have hblk := heapNew wA (.cells #[.int .i64 id, .int .i64 (t : Nat)] 102)
              have mN : Mod [] wA (wA.alloc (.cells #[.int .i64 id, .int .i64 (t : Nat)] 102)) := (Mod.refl _ _).alloc _
              obtain ⟨g2, cap2, wB, hrun2, xB, mB, nB⟩ := items_append1 (xA.keep mN (by simp)) (by omega) hblk
              rw [hlt1] at hrun2
              have mB' : Mod [] w1 wB := (mA'.trans mN (by simp)).trans mB (fun b hb => .inr (gA b hb))
              have gB : w1.heap.size ≤ g2 := by
                rcases nB with hb | hb
                · exact gA _ hb
                · have := mA'.size; rw [sizeNew] at hb; omega
              have hlt2 : (L.take j ++ [(id, t)]).length = j + 1 := by rw [List.length_append, hlt1]; rfl
              have hs2 := hsr wB (h1.row.keep mB' (by simp))
              obtain ⟨g3, cap3, wC, hrun3, xC, mC, nC⟩ := items_append xB (M := L.drop j) (n2 := L.length - j) (c2 := cap - j) (by have := @List.length_drop _ (j) L; omega) hs2 (by omega) (by simp)
              rw [hlt2] at hrun3
              obtain ⟨N, hN⟩ : ∃ N, N = j + 1 + (L.length - j) := ⟨_, rfl⟩
              have hrun4 : ∀ ty, (Builtin.append_ #[54, 54] ty #[.slice (some ⟨g2, 0, none⟩) (j + 1) cap2, .slice (some ⟨b, j * 2, none⟩) (L.length - j) (cap - j)]).run Tryd.prog wB = .ok (.slice (rA g3) N cap3) wC := by
                intro ty
                rw [hN]
                exact hrun3 ty
              clear hrun3
              have hN2 : N = (L.take j ++ [(id, t)] ++ L.drop j).length := by rw [List.length_append, hlt2, List.length_drop]; omega
              have mC' : Mod [] w1 wC := mB'.trans mC (fun b hb => by simp [rF] at hb; right; omega)
              have gC : ∀ b, b ∈ rF g3 → w1.heap.size ≤ b := fun b hb => (nC b hb).elim (fun hb => by simp [rF] at hb; omega) (fun e => by rw [e]; exact mB'.size)
              have cA := mA'.at c11 (by simp)
              have cB := mB'.at c11 (by simp)
              have cC := mC'.at c11 (by simp)
              have qC := mC'.keep h1.obj (by simp)
              have fC := freeAt qC 1
              have zC := ltOf qC
              have hob := Lib.hid h1.obj
              have hlt0 := ltOf h1.obj
              have HX := Lib.hid (And.intro xC (And.intro mC' (And.intro gC (And.intro hN2 m01))))
              clear hs1 hsr xA mA nA mA' gA hblk mN xB mB nB mB' gB hs2 xC mC nC mC' gC qC hN hN2 m01
              try simp only [Nat.zero_add] at hrun2 hrun4
              go_wp2_with (first
                | (
                  at_builtin
                  refine wpList_append_run rfl _ _ _ rfl rfl rfl (hrun1 _) ?_
                  clear hrun1
                  )
                | (
                  at_builtin
                  refine wpList_append_run rfl _ _ _ rfl rfl rfl (hrun2 _) ?_
                  clear hrun2
                  )
                | (
                  at_builtin
                  refine wpList_append_run rfl _ _ _ rfl rfl rfl (hrun4 _) ?_
                  clear hrun4
                  )
                )
              go_ret
              obtain ⟨xC, mC', gC, hN2, m01⟩ := HX.out
              rw [HL.out]
              have hsz := m01.size
              rw [hN2]
              have mc : Mod [d] wC (wC.setCell ⟨d, 1, none⟩ (.slice (rA g3) (L.take j ++ [(id, t)] ++ L.drop j).length cap3)) := (Mod.refl _ _).setCell (by simp) _
              have hnd : ∀ b, b ∈ rF g3 → b ≠ d := fun b hb e => by have := gC b hb; omega
              refine ⟨rfl, g3, cap3, ((m01.trans mC' (by simp)).mono (by simp)).setCell (by simp) _, ⟨?_, xC.keep mc (fun b hb => by simp; exact hnd b hb), hnd⟩, fun b hb => .inr (by have := gC b hb; omega)⟩
              rw [heapSet (mC'.keep hob.out (by simp))]
              simp
            · have h4 : decide ((v : Int) < (t : Int)) = false := decide_eq_false (by omega)
              have h5 : ((v : Int) == (t : Int)) = false := by simp; omega
              have hlt1 : (L.take j).length = j := by rw [List.length_take]; omega
              obtain ⟨g1, cap1, wA, hrun1, xA, mA, nA⟩ := items_append (w := w1) (g := none) (cap := 0) (L := []) (RAt.nil 102 2 w1) (M := L.take j) (n2 := j) (a := some ⟨b, 0, none⟩) (c2 := cap) hlt1.symm hs1 (by show 0 + j < _; omega) (by simp)
              simp only [List.length_nil, Nat.zero_add, List.nil_append] at hrun1 xA
              have mA' : Mod [] w1 wA := mA
              have gA : ∀ b, b ∈ rF g1 → w1.heap.size ≤ b := fun b hb => (nA b hb).elim (by simp [rF]) (fun e => by rw [e]; exact Nat.le_refl _)
              have hblk := heapNew wA (.cells #[.int .i64 id, .int .i64 (t : Nat)] 102)
              have mN : Mod [] wA (wA.alloc (.cells #[.int .i64 id, .int .i64 (t : Nat)] 102)) := (Mod.refl _ _).alloc _
              obtain ⟨g2, cap2, wB, hrun2, xB, mB, nB⟩ := items_append1 (xA.keep mN (by simp)) (by omega) hblk
              rw [hlt1] at hrun2
              have mB' : Mod [] w1 wB := (mA'.trans mN (by simp)).trans mB (fun b hb => .inr (gA b hb))
              have gB : w1.heap.size ≤ g2 := by
                rcases nB with hb | hb
                · exact gA _ hb
                · have := mA'.size; rw [sizeNew] at hb; omega
              have hlt2 : (L.take j ++ [(id, t)]).length = j + 1 := by rw [List.length_append, hlt1]; rfl
              have hs2 := hsr wB (h1.row.keep mB' (by simp))
              obtain ⟨g3, cap3, wC, hrun3, xC, mC, nC⟩ := items_append xB (M := L.drop j) (n2 := L.length - j) (c2 := cap - j) (by have := @List.length_drop _ (j) L; omega) hs2 (by omega) (by simp)
              rw [hlt2] at hrun3
              obtain ⟨N, hN⟩ : ∃ N, N = j + 1 + (L.length - j) := ⟨_, rfl⟩
              have hrun4 : ∀ ty, (Builtin.append_ #[54, 54] ty #[.slice (some ⟨g2, 0, none⟩) (j + 1) cap2, .slice (some ⟨b, j * 2, none⟩) (L.length - j) (cap - j)]).run Tryd.prog wB = .ok (.slice (rA g3) N cap3) wC := by
                intro ty
                rw [hN]
                exact hrun3 ty
              clear hrun3
              have hN2 : N = (L.take j ++ [(id, t)] ++ L.drop j).length := by rw [List.length_append, hlt2, List.length_drop]; omega
              have mC' : Mod [] w1 wC := mB'.trans mC (fun b hb => by simp [rF] at hb; right; omega)
              have gC : ∀ b, b ∈ rF g3 → w1.heap.size ≤ b := fun b hb => (nC b hb).elim (fun hb => by simp [rF] at hb; omega) (fun e => by rw [e]; exact mB'.size)
              have cA := mA'.at c11 (by simp)
              have cB := mB'.at c11 (by simp)
              have cC := mC'.at c11 (by simp)
              have qC := mC'.keep h1.obj (by simp)
              have fC := freeAt qC 1
              have zC := ltOf qC
              have hob := Lib.hid h1.obj
              have hlt0 := ltOf h1.obj
              have HX := Lib.hid (And.intro xC (And.intro mC' (And.intro gC (And.intro hN2 m01))))
              clear hs1 hsr xA mA nA mA' gA hblk mN xB mB nB mB' gB hs2 xC mC nC mC' gC qC hN hN2 m01
              try simp only [Nat.zero_add] at hrun2 hrun4
              go_wp2_with (first
                | (
                  at_builtin
                  refine wpList_append_run rfl _ _ _ rfl rfl rfl (hrun1 _) ?_
                  clear hrun1
                  )
                | (
                  at_builtin
                  refine wpList_append_run rfl _ _ _ rfl rfl rfl (hrun2 _) ?_
                  clear hrun2
                  )
                | (
                  at_builtin
                  refine wpList_append_run rfl _ _ _ rfl rfl rfl (hrun4 _) ?_
                  clear hrun4
                  )
                )
              go_ret
              obtain ⟨xC, mC', gC, hN2, m01⟩ := HX.out
              rw [HL.out]
              have hsz := m01.size
              rw [hN2]
              have mc : Mod [d] wC (wC.setCell ⟨d, 1, none⟩ (.slice (rA g3) (L.take j ++ [(id, t)] ++ L.drop j).length cap3)) := (Mod.refl _ _).setCell (by simp) _
              have hnd : ∀ b, b ∈ rF g3 → b ≠ d := fun b hb e => by have := gC b hb; omega
              refine ⟨rfl, g3, cap3, ((m01.trans mC' (by simp)).mono (by simp)).setCell (by simp) _, ⟨?_, xC.keep mc (fun b hb => by simp; exact hnd b hb), hnd⟩, fun b hb => .inr (by have := gC b hb; omega)⟩
              rw [heapSet (mC'.keep hob.out (by simp))]
              simp
end Go.Proofs.YthieionajemjhaaDoor
