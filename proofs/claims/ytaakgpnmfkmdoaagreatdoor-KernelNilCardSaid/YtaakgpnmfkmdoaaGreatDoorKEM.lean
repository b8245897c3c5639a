/- Several texts in one (each with its own sentence below). -/
import Derived.Test.YtaakgpnmfkmdoaaGreatDoorTimerM
import Derived.Test.YtaakgpnmfkmdoaaGreatDoorKDM
import Derived.Test.YtaakgpnmfkmdoaaGreatDoorKCM
import Derived.RangeFuncRecord
import Derived.RangeFuncSeq
import Derived.OwnWalkIn
import Derived.Shelf.Abstract
import Derived.Test.YtaakgpnmfkmdoaaGreatDoorBaseM
import Derived.TacticsInMore
import Derived.LoopNIn
import Derived.LoopIn
import Derived.RangeFuncCalls
import Derived.Stop.RegionWithIn
import Derived.Test.YtaakgpnmfkmdoaaGreatDoorWheelM
import Derived.Test.YtaakgpnmfkmdoaaGreatDoorKBM
import Derived.Test.YtaakgpnmfkmdoaaGreatDoorKAM
/- The walks over package slot: Cap, Has, List. No condition but those named. -/
namespace Go.Proofs.YtaakgpnmfkmdoaaGreatDoor
set_option linter.unusedVariables false
set_option linter.unusedSimpArgs false
open Go.RowKit

section
variable {t most : Nat} {ids F : List Nat} {w : World}
theorem slot_Cap (h : (slotR t most ids).holds F w) : Calls Tryz.prog 346 #[.pointer (some ⟨t, 0, none⟩)] w (Ret (.int .i64 most) w) := by
  obtain ⟨hok, r, x, hx, hst⟩ := h
  have hA : On F w [Res.blk t (slotObj r most ids), Res.blk r (wordObj x)] w := On.of hst
  have c1 : w.cell? ⟨t, 1, none⟩ = some (.int .i64 most) := hA.cell 0 rfl 1
  clear hA
  go_enter Tryz.func346, Tryz.ntmps346
  go_wp2
  go_ret
  exact Ret.of (rfl) (by repeat (first | exact Drew.refl _ | apply Drew.drewN | apply Drew.drew))
def hasN (ids : List Nat) (n : Int) : Bool := decide (1 ≤ n ∧ n.toNat ∈ ids)
theorem slot_Has (h : (slotR t most ids).holds F w) (n : Int) : Calls Tryz.prog 347 #[.pointer (some ⟨t, 0, none⟩), .int .i64 n] w (Ret (.bool (hasN ids n)) w) := by
  obtain ⟨hok, r, x, hx, hst⟩ := h
  have hA : On F w [Res.blk t (slotObj r most ids), Res.blk r (wordObj x)] w := On.of hst
  have c0 : w.cell? ⟨t, 0, none⟩ = some (.slice (some ⟨r, 0, none⟩) 1 1) := hA.cell 0 rfl 0
  have c1 : w.cell? ⟨t, 1, none⟩ = some (.int .i64 most) := hA.cell 0 rfl 1
  have x0 : w.cell? ⟨r, 0, none⟩ = some (.int .u64 (x : Nat)) := hA.cell 1 rfl 0
  by_cases hn : 1 ≤ n ∧ n ≤ most
  · obtain ⟨h1, h2⟩ := hn
    obtain ⟨m, rfl⟩ := Int.eq_ofNat_of_zero_le (show 0 ≤ n by omega)
    have hm2 := hok.most2
    have hb := slot_bit_yes t r most m w c0 c1 (by omega) (by omega) hm2
    have hbit := hx.bit (m - 1) (by omega)
    have e1 : m - 1 + 1 = m := by omega
    rw [e1] at hbit
    have hp : (2 : Nat) ^ (m - 1) < 2 ^ 64 := pow_lt (by omega)
    have hand := and_pow x (m - 1)
    have hB := Lib.hid (bits_and_u64_nat x (2 ^ (m - 1)) hx.lt hp)
    have hv : hasN ids m = !(((x &&& 2 ^ (m - 1) : Nat) : Int) == 0) := by
      unfold hasN
      simp only [Int.toNat_natCast]
      by_cases hmem : m ∈ ids
      · rw [decide_eq_true hmem] at hbit
        have : (x &&& 2 ^ (m - 1)) ≠ 0 := fun e => by rw [hand.1 e] at hbit; cases hbit
        have e2 : (((x &&& 2 ^ (m - 1) : Nat) : Int) == 0) = false := by simp; omega
        rw [e2]
        simp [hmem]; omega
      · rw [decide_eq_false hmem] at hbit
        have : (x &&& 2 ^ (m - 1)) = 0 := hand.2 hbit
        rw [this]
        simp [hmem]
    rw [hv]
    clear hA hst hok hx hand hbit hv
    generalize 2 ^ (m - 1) = z at *
    go_enter Tryz.func347, Tryz.ntmps347
    go_wp2_with (go_at_call 304; refine hb.mono ?_; rintro e w' ⟨rfl, k, rfl⟩)
    go_ret
    refine ⟨?_, by repeat (first | exact Drew.refl _ | apply Drew.drewN | apply Drew.drew)⟩
    rw [← hB.out]
    simp [bne]
  · have hb := slot_bit_no t most n w c1 hn
    have hv : hasN ids n = false := by
      unfold hasN
      refine decide_eq_false (fun ⟨h1, h2⟩ => hn ⟨h1, ?_⟩)
      have := (hok.bd _ h2).2
      omega
    rw [hv]
    clear hA hst hok hx hn hv
    go_enter Tryz.func347, Tryz.ntmps347
    go_wp2_with (go_at_call 304; refine hb.mono ?_; rintro e w' ⟨rfl, k, rfl⟩)
    go_ret
    exact Ret.of (rfl) (by repeat (first | exact Drew.refl _ | apply Drew.drewN | apply Drew.drew))
theorem slot_List (h : (slotR t most ids).holds F w) : Calls Tryz.prog 330 #[.pointer (some ⟨t, 0, none⟩)] w (MadeInts (upList (fun n => decide (n ∈ ids)) most) w) := by
  have hC := slot_Cap h
  have hm2 := h.1.most2
  have hH := fun (wr : World) (m : Mod [] w wr) (n : Int) => slot_Has ((slotR t most ids).keep h m (by simp)) n
  have hp : ∀ j : Nat, hasN ids ((j : Int) + 1) = decide (j + 1 ∈ ids) := by
    intro j
    unfold hasN
    have e : ((j : Int) + 1).toNat = j + 1 := by omega
    rw [e]
    by_cases h : j + 1 ∈ ids
    · simp [h]; omega
    · simp [h]
  generalize hpp : (fun n => decide (n ∈ ids)) = p
  have hp2 : ∀ j : Nat, hasN ids ((j : Int) + 1) = p (j + 1) := by rw [← hpp]; exact hp
  clear hp hpp h
  go_enter Tryz.func330, Tryz.ntmps330
  go_wp2_with (go_at_call 346; refine hC.mono ?_; rintro e w' ⟨rfl, k, rfl⟩)
  go_loopg [3, 7] most (fun gg out i wr => ∃ (j : Nat) (g : Option Nat) (cap : Nat), i = .int .i64 j ∧ j + gg = most ∧ out = .slice (lA g) (upList p j).length cap ∧ LAt wr g cap (upList p j) ∧ Mod [] w wr ∧ ∀ b, b ∈ lF g → w.heap.size ≤ b)
  case atStart => exact ⟨0, none, 0, rfl, by omega, rfl, ⟨rfl, rfl⟩, (Mod.refl _ _).drewN _, by simp [lF]⟩
  case round =>
    obtain ⟨j, g, cap, rfl, hj, rfl, hL, m, hg⟩ := hrel
    by_cases hlt : j < most
    · have hltI : (j : Int) < most := by omega
      have hO := hH wr m ((j : Int) + 1)
      rw [hp2 j] at hO
      have hS : upList p (j + 1) = if p (j + 1) = true then upList p j ++ [((j : Int) + 1)] else upList p j := rfl
      have hlen : (upList p j).length < 1000000 := by have := upList_len p j; omega
      have hms := m.size
      have hjw : IntKind.i64.wrap ((j : Int) + 1) = (j : Int) + 1 := by rw [IntKind.wrap_i64]; omega
      have hjs : (j : Int) < 1000 := by omega
      cases hc : p (j + 1)
      · rw [hc, if_neg (by decide)] at hS
        rw [hc] at hO
        have HS := Lib.hid hS
        clear hS hH hp2 hc
        generalize upList p j = lj at *
        go_wp2_with (go_at_call 347; refine hO.mono ?_; rintro e w' ⟨rfl, k1, rfl⟩)
        go_roundg (gk - 1)
        case measure => omega
        case rel => exact ⟨j + 1, g, cap, by go_num, by omega, by rw [HS.out], by rw [HS.out]; exact hL.same rfl, m.drewN _, hg⟩
      · rw [hc, if_pos rfl] at hS
        rw [hc] at hO
        have HS := Lib.hid hS
        clear hS hH hp2 hc
        generalize upList p j = lj at *
        go_wp2_with (first | (go_at_call 347; refine hO.mono ?_; rintro e w' ⟨rfl, k1, rfl⟩) | (at_builtin; refine wpList_append_LAt rfl _ _ rfl (by exact hL.keep (((Mod.refl [] wr).drewN _).alloc _) (by simp)) hlen (heapNew _ _) rfl rfl ?_; rintro g2 cap2 w2 hL2 m2 hg2; have H2 := Lib.hid (And.intro hL2 (And.intro (Mod.trans (S := []) ((m.drewN _).alloc _) m2 (fun b hb => .inr (hg b hb))) hg2)); clear hL2 m2 hg2))
        obtain ⟨hL2, m3, hg2⟩ := H2.out
        rw [sizeNew] at hg2
        go_roundg (gk - 1)
        case measure => omega
        case rel =>
          refine ⟨j + 1, some g2, cap2, by go_num, by omega, by rw [HS.out]; simp [lA], by rw [HS.out]; exact hL2, m3, ?_⟩
          intro b hb
          simp [lF] at hb
          subst hb
          rcases hg2 with hg2 | hg2
          · exact hg _ hg2
          · simp at hg2; omega
    · obtain rfl : j = most := by omega
      clear hH hp2
      go_wp2
      go_ret
      exact ⟨g, cap, rfl, hL, m, hg⟩
end
end Go.Proofs.YtaakgpnmfkmdoaaGreatDoor

/- A queue with priorities (package prio) in memory; the walks over New, Len, Prio, Push, Drop, Back. No condition but those named. -/
namespace Go.Proofs.YtaakgpnmfkmdoaaGreatDoor
set_option linter.unusedVariables false
set_option linter.unusedSimpArgs false
open Go.RowKit

/-- The pointers of the first j levels. -/
def lvP (j : Nat) (D : Nat → Nat) : List Value := (List.range 8).map fun i => .pointer (if i < j then some ⟨D i, 0, none⟩ else none)
def prioObj (j : Nat) (D : Nat → Nat) (mb most : Nat) : Obj := .cells (lvP j D ++ [Value.map (some mb), Value.int .i64 most]).toArray 252 (0,0)
def prioF (L : PQ) : Int → Option Int := fun id => (prioP L id).map fun p => (p : Int)
def prioL (b mb most : Nat) (D : Nat → Nat) (L : PQ) : List Res := [Res.blk b (prioObj 8 D mb most), fmapR mb L.length (numF (prioF L))] ++ thingsL 8 (fun p => fifoR (D p) most (lvl L p))
def PQ.fine (most : Nat) (L : PQ) : Prop := L.ok ∧ L.length ≤ most ∧ 1 ≤ most ∧ most ≤ 1024
def prioR (b most : Nat) (L : PQ) : Res := Res.such (L.fine most) (Res.ex fun x : Nat × (Nat → Nat) => Res.star (prioL b x.1 most x.2 L))
theorem lvP_len (j : Nat) (D : Nat → Nat) : (lvP j D).length = 8 := by simp [lvP]
theorem lvP_get {D : Nat → Nat} {i : Nat} (hi : i < 8) : (lvP 8 D)[i]? = some (.pointer (some ⟨D i, 0, none⟩)) := by simp [lvP, hi]
theorem lvP_set {j : Nat} (D : Nat → Nat) (x : Nat) (hj : j < 8) : (lvP j D).set j (.pointer (some ⟨x, 0, none⟩)) = lvP (j + 1) (gupd D j x) := by
  unfold lvP
  apply List.ext_getElem?
  intro i
  rw [List.getElem?_set]
  simp only [List.getElem?_map, List.length_map, List.length_range]
  by_cases e : j = i
  · subst e; simp [hj, gupd_same]
  · rw [if_neg e]
    by_cases hi : i < 8
    · have e1 : (i < j + 1) ↔ i < j := by omega
      simp [hi, e1, gupd_ne _ _ (fun q => e q.symm)]
    · simp [hi]
section
variable {F : List Nat} {w u : World} {b mb most : Nat} {D : Nat → Nat} {L : PQ}
theorem prio_view (h : (prioR b most L).holds F w) : ∃ mb D, L.fine most ∧ On F w (prioL b mb most D L) w := by
  obtain ⟨h1, ⟨mb, D⟩, h2⟩ := h
  exact ⟨mb, D, h1, On.of h2⟩
theorem On.prio (h : On F w (prioL b mb most D L) u) (hf : L.fine most) : Gain (prioR b most L) F w u := h.gains.imp fun F' h' => ⟨hf, ⟨mb, D⟩, h'⟩
theorem On.prLvl (h : On F w (prioL b mb most D L) u) {p : Nat} (hp : p < 8) : u.cell? ⟨b, p, none⟩ = some (.pointer (some ⟨D p, 0, none⟩)) := by
  rw [h.cell 0 rfl p, List.getElem?_toArray, List.getElem?_append_left (by rw [lvP_len]; exact hp)]
  exact lvP_get hp
theorem On.prMap (h : On F w (prioL b mb most D L) u) : u.cell? ⟨b, 8, none⟩ = some (.map (some mb)) := by
  rw [h.cell 0 rfl 8, List.getElem?_toArray, List.getElem?_append_right (by rw [lvP_len]; omega), lvP_len]; rfl
theorem On.prMost (h : On F w (prioL b mb most D L) u) : u.cell? ⟨b, 9, none⟩ = some (.int .i64 most) := by
  rw [h.cell 0 rfl 9, List.getElem?_toArray, List.getElem?_append_right (by rw [lvP_len]; omega), lvP_len]; rfl
theorem prio_get {p : Nat} (hp : p < 8) : (prioL b mb most D L)[2 + p]? = some (fifoR (D p) most (lvl L p)) := by
  unfold prioL
  rw [List.getElem?_append_right (by simp)]
  simpa using thingsL_get (R := fun p => fifoR (D p) most (lvl L p)) hp
theorem pl_lookup (h : On F w (prioL b mb most D L) u) (id : Int) : (Instr.lookup 82 (.map (some mb)) (.int .i64 id) true).run Tryz.prog u = .ok (.tuple #[.int .i64 ((prioP L id).getD 0 : Nat), .bool (prioP L id).isSome]) u := by
  have := fm_lookup2 (P := Tryz.prog) (h.fm 1 rfl) Tryz.underlying82 Tryz.underlying3 id (fun w => Tryz.zeroValue3 w)
  rw [this]
  unfold numF prioF
  cases prioP L id <;> rfl
theorem prio_Len (h : (prioR b most L).holds F w) : Calls Tryz.prog 154 #[.pointer (some ⟨b, 0, none⟩)] w (Ret (.int .i64 (L.length : Nat)) w) := by
  obtain ⟨mb, D, hf, hA⟩ := prio_view h
  have c8 := hA.prMap
  have hrun := fun ty => fm_len (P := Tryz.prog) (hA.fm 1 rfl) Tryz.underlying82 ty
  clear hA h hf
  generalize L.length = n at *
  go_enter Tryz.func154, Tryz.ntmps154
  go_wp2
  go_ret
  exact Ret.of (rfl) (by repeat (first | exact Drew.refl _ | apply Drew.drewN | apply Drew.drew))
theorem prio_Prio (h : (prioR b most L).holds F w) (id : Int) : Calls Tryz.prog 274 #[.pointer (some ⟨b, 0, none⟩), .int .i64 id] w (Ret (.tuple #[.int .i64 ((prioP L id).getD 0 : Nat), .bool (prioP L id).isSome]) w) := by
  obtain ⟨mb, D, hf, hA⟩ := prio_view h
  have c8 := hA.prMap
  have hlk := pl_lookup hA id
  generalize (((prioP L id).getD 0 : Nat) : Int) = x at *
  generalize (prioP L id).isSome = y at *
  clear hA h
  go_enter Tryz.func274, Tryz.ntmps274
  go_wp2
  go_ret2
  exact Ret.of (rfl) (by repeat (first | exact Drew.refl _ | apply Drew.drewN | apply Drew.drew))
/-- A level that is another one. -/
theorem prio_set {L' : PQ} {n' : Nat} (hn : n' = L'.length) {g : Int → Option Value} (hg : g = numF (prioF L')) {p : Nat} (hp : p < 8) {l' : List Int} (hl : l' = lvl L' p) (ho : ∀ q, q ≠ p → lvl L' q = lvl L q) :
    ([Res.blk b (prioObj 8 D mb most), fmapR mb n' g] ++ thingsL 8 (fun p => fifoR (D p) most (lvl L p))).set (2 + p) (fifoR (D p) most l') = prioL b mb most D L' := by
  subst hn hg hl
  unfold prioL
  rw [List.set_append_right _ _ (by simp)]
  simp only [List.length_cons, List.length_nil, Nat.reduceAdd, Nat.add_sub_cancel_left, Nat.zero_add]
  rw [thingsL_set]
  congr 1
  refine thingsL_congr fun i hi => ?_
  by_cases e : i = p
  · subst e; rw [gupd_same]
  · rw [gupd_ne _ _ e, ho i e]
theorem prioF_push {L : PQ} {p : Nat} {id : Int} (hn : prioP L id = none) : fput (numF (prioF L)) id (.int .i64 p) = numF (prioF (L ++ [(p, id)])) := by
  rw [numF_put]
  congr 1
  funext j
  unfold oput prioF prioP
  rw [List.find?_append]
  by_cases e : j = id
  · subst e
    have : L.find? (fun x => decide (x.2 = j)) = none := by
      cases hf : L.find? (fun x => decide (x.2 = j)) with
      | none => rfl
      | some y => unfold prioP at hn; rw [hf] at hn; cases hn
    rw [if_pos rfl, this]
    simp
  · rw [if_neg e]
    have : ([(p, id)] : PQ).find? (fun x => decide (x.2 = j)) = none := by simp; exact fun h => e h.symm
    rw [this]
    simp
theorem lvl_push (L : PQ) (p : Nat) (id : Int) (q : Nat) : lvl (L ++ [(p, id)]) q = if q = p then lvl L p ++ [id] else lvl L q := by
  rw [lvl_append]
  by_cases e : q = p
  · subst e; simp [lvl]
  · rw [if_neg e]; simp [lvl]; exact fun h => e h.symm
theorem lvl_le {L : PQ} (p : Nat) : (lvl L p).length ≤ L.length := by unfold lvl; rw [List.length_map]; exact List.length_filter_le _ _
theorem not_lvl {L : PQ} {id : Int} (hn : prioP L id = none) (p : Nat) : id ∉ lvl L p := fun h => prioP_none.1 hn (List.mem_map.2 ⟨(p, id), mem_lvl.1 h, rfl⟩)
set_option maxRecDepth 100000 in
theorem prio_Push (h : (prioR b most L).holds F w) (p id : Int) : Calls Tryz.prog 271 #[.pointer (some ⟨b, 0, none⟩), .int .i64 p, .int .i64 id] w (Turns (prioR b most (pushP most L p id)) F (.int .i64 (pushE most L p id)) w) := by
  obtain ⟨mb, D, hf, hA⟩ := prio_view h
  have c8 := hA.prMap
  have c9 := hA.prMost
  have hlk := pl_lookup hA id
  have hrun := fun k ty => fm_len (P := Tryz.prog) ((hA.keep (u' := w.drewN k) ((Mod.refl _ _).drewN k)).fm 1 rfl) Tryz.underlying82 ty
  unfold pushP
  by_cases h1 : p < 0 ∨ 8 ≤ p
  · have e : pushE most L p id = 2 := if_pos h1
    rw [e, if_neg (by decide)]
    generalize (((prioP L id).getD 0 : Nat) : Int) = x at *
    generalize (prioP L id).isSome = y at *
    have H := Lib.hid (fun k => (hA.keep (u' := w.drewN k) ((Mod.refl _ _).drewN k)).prio hf)
    have h2 : p < 0 ∨ (¬ p < 0 ∧ 8 ≤ p) := by omega
    clear hA h e h1
    rcases h2 with h2 | ⟨h2, h3⟩
    all_goals
      go_enter Tryz.func271, Tryz.ntmps271
      go_wp2
      go_ret
      exact ⟨rfl, by first | exact H.out 0 | exact H.out _⟩
  by_cases h2 : (prioP L id).isSome = true
  · have e : pushE most L p id = 6 := by unfold pushE; rw [if_neg h1, if_pos h2]
    rw [e, if_neg (by decide)]
    rw [h2] at hlk
    generalize (((prioP L id).getD 0 : Nat) : Int) = x at *
    have H := Lib.hid (fun k => (hA.keep (u' := w.drewN k) ((Mod.refl _ _).drewN k)).prio hf)
    have h3 : ¬ p < 0 := by omega
    have h4 : ¬ 8 ≤ p := by omega
    clear hA h e h1 h2
    go_enter Tryz.func271, Tryz.ntmps271
    go_wp2
    go_ret
    exact ⟨rfl, by first | exact H.out 0 | exact H.out _⟩
  have hn : prioP L id = none := by cases hq : prioP L id with | none => rfl | some v => rw [hq] at h2; simp at h2
  rw [hn] at hlk
  simp only [Option.getD_none, Option.isSome_none] at hlk
  by_cases h3 : most ≤ L.length
  · have e : pushE most L p id = 5 := by unfold pushE; rw [if_neg h1, if_neg h2, if_pos h3]
    rw [e, if_neg (by decide)]
    have H := Lib.hid (fun k => (hA.keep (u' := w.drewN k) ((Mod.refl _ _).drewN k)).prio hf)
    have h4 : ¬ p < 0 := by omega
    have h5 : ¬ 8 ≤ p := by omega
    have h6 : (most : Int) ≤ (L.length : Nat) := by omega
    clear hA h e h1 h2 hn hf h3
    generalize L.length = n at *
    go_enter Tryz.func271, Tryz.ntmps271
    go_wp2
    go_quiet (fail)
    go_wp2
    go_ret
    exact ⟨rfl, by first | exact H.out 0 | exact H.out _⟩
  · have e : pushE most L p id = 0 := by unfold pushE; rw [if_neg h1, if_neg h2, if_neg h3]
    rw [e, if_pos rfl]
    obtain ⟨p, rfl⟩ := Int.eq_ofNat_of_zero_le (show 0 ≤ p by omega)
    have hp : p < 8 := by omega
    have hpI : (p : Int) < 8 := by omega
    simp only [Int.toNat_natCast]
    have hfine : PQ.fine most (L ++ [(p, id)]) := ⟨push_ok hf.1 hp hn, by simp; omega, hf.2.2⟩
    have hq : qPushE most (lvl L p) id = 0 := by
      unfold qPushE
      have := lvl_le (L := L) p
      rw [if_neg (not_lvl hn p), if_neg (by omega)]
    have hqs : qPush most (lvl L p) id = lvl L p ++ [id] := if_pos hq
    have hlen : ¬ (most : Int) ≤ (L.length : Nat) := by omega
    have HA := Lib.hid hA
    have HN := Lib.hid hn
    obtain ⟨n, hLn⟩ : ∃ n, L.length = n := ⟨_, rfl⟩
    rw [hLn] at hrun hlen
    replace hLn := Lib.hid hLn
    clear hA h e h1 h2 hn hf h3
    go_enter Tryz.func271, Tryz.ntmps271
    go_wp2
    go_quiet (fail)
    go_wp2
    obtain ⟨w1, hput, hB⟩ := (HA.out.keep (u' := w.drewN nq) ((Mod.refl _ _).drewN nq)).fmPut (P := Tryz.prog) 1 rfl Tryz.underlying82 Tryz.underlying3 id (.int .i64 (p : Int))
    rw [numF_some, show (prioF L id).isSome = false by unfold prioF; rw [HN.out]; rfl, if_neg (by decide), prioF_push HN.out] at hB
    have hB : On F w ([Res.blk b (prioObj 8 D mb most), fmapR mb (L.length + 1) (numF (prioF (L ++ [(p, id)])))] ++ thingsL 8 (fun p => fifoR (D p) most (lvl L p))) w1 := hB
    have kc : w1.cell? ⟨b, p, none⟩ = some (.pointer (some ⟨D p, 0, none⟩)) := by
      rw [hB.cell 0 rfl p, List.getElem?_toArray, List.getElem?_append_left (by rw [lvP_len]; exact hp)]
      exact lvP_get hp
    have hpush : Calls Tryz.prog 134 #[.pointer (some ⟨D p, 0, none⟩), .int .i64 id] w1 (fun e u => e = .returned (.int .i64 0) ∧ On F w (prioL b mb most D (L ++ [(p, id)])) u) := by
      have := hB.call (2 + p) (R := fifoR (D p) most (lvl L p)) (R' := fifoR (D p) most (lvl L p ++ [id])) (v := .int .i64 0) (by
        rw [List.getElem?_append_right (by simp)]
        simpa using thingsL_get (R := fun p => fifoR (D p) most (lvl L p)) hp) (fun F1 h1 => by have := fifo_Push h1 id; rwa [hq, hqs] at this)
      rw [prio_set (L' := L ++ [(p, id)]) (by simp) rfl hp (by rw [lvl_push, if_pos rfl]) (fun q hq => by rw [lvl_push, if_neg hq])] at this
      exact this
    rw [hput]
    have HB := Lib.hid hB
    clear hB
    go_wp2_with (go_at_call 134; refine hpush.mono ?_; rintro e w2 ⟨rfl, hC⟩)
    go_ret
    exact ⟨rfl, hC.prio hfine⟩
end
end Go.Proofs.YtaakgpnmfkmdoaaGreatDoor

/- The walks over the queue with priorities: Drop, Back. No condition but those named. -/
namespace Go.Proofs.YtaakgpnmfkmdoaaGreatDoor
set_option linter.unusedVariables false
set_option linter.unusedSimpArgs false
open Go.RowKit

theorem prioP_out (L : PQ) (id j : Int) : prioP (outP L id) j = if j = id then none else prioP L j := by
  unfold prioP outP
  by_cases e : j = id
  · subst e
    rw [if_pos rfl]
    have : (L.filter fun x => !decide (x.2 = j)).find? (fun x => decide (x.2 = j)) = none := by
      rw [List.find?_eq_none]
      intro x hx
      have := (List.mem_filter.1 hx).2
      simpa using this
    rw [this]; rfl
  · rw [if_neg e, List.find?_filter]
    congr 2
    funext x
    by_cases h : x.2 = j
    · simp [h, e]
    · simp [h]
theorem prioF_out (L : PQ) (id : Int) : fdel (numF (prioF L)) id = numF (prioF (outP L id)) := by
  rw [numF_del]
  congr 1
  funext j
  unfold odel prioF
  rw [prioP_out]
  split <;> rfl
theorem outP_len : ∀ {L : PQ}, L.ok → ∀ {id : Int}, (prioP L id).isSome = true → (outP L id).length = L.length - 1
  | [], _, id, h => by simp [prioP] at h
  | x :: L, hok, id, h => by
    have hnd := hok.nodup
    rw [List.map_cons, List.nodup_cons] at hnd
    have hok2 : PQ.ok L := ⟨hnd.2, fun y hy => hok.lt y (List.mem_cons_of_mem _ hy)⟩
    unfold outP
    by_cases e : x.2 = id
    · rw [List.filter_cons_of_neg (by simp [e])]
      have hni : id ∉ L.map (·.2) := e ▸ hnd.1
      have : L.filter (fun y => !decide (y.2 = id)) = L := List.filter_eq_self.2 (fun y hy => by simp; intro e2; exact hni (List.mem_map.2 ⟨y, hy, e2⟩))
      rw [this]; simp
    · rw [List.filter_cons_of_pos (by simp [e])]
      have h2 : (prioP L id).isSome = true := by
        unfold prioP at h ⊢
        rw [List.find?_cons_of_neg (by simp [e])] at h
        exact h
      have := outP_len hok2 h2
      unfold outP at this
      have hpos : 0 < L.length := by
        cases L with
        | nil => simp [prioP] at h2
        | cons _ _ => simp
      rw [List.length_cons, this, List.length_cons]; omega
theorem lvl_out {L : PQ} (hok : L.ok) {id : Int} {p : Nat} (hp : prioP L id = some p) (q : Nat) : lvl (outP L id) q = if q = p then (lvl L p).erase id else lvl L q := by
  rw [outP_lvl]
  by_cases e : q = p
  · subst e
    rw [if_pos rfl, (lvl_nodup hok q).erase_eq_filter]
    exact List.filter_congr (fun x _ => by by_cases h : x = id <;> simp [h])
  · rw [if_neg e]
    refine List.filter_eq_self.2 (fun x hx => ?_)
    simp
    rintro rfl
    have := (prioP_some hok).2 (mem_lvl.1 hx)
    rw [hp] at this
    exact e (Option.some.inj this).symm
section
variable {F : List Nat} {w u : World} {b mb most : Nat} {D : Nat → Nat} {L : PQ}
set_option maxRecDepth 100000 in
theorem prio_Drop (h : (prioR b most L).holds F w) (id : Int) : Calls Tryz.prog 272 #[.pointer (some ⟨b, 0, none⟩), .int .i64 id] w (Turns (prioR b most (outP L id)) F (.int .i64 (dropPE L id)) w) := by
  obtain ⟨mb, D, hf, hA⟩ := prio_view h
  have c8 := hA.prMap
  have hlk := pl_lookup hA id
  unfold dropPE
  cases hp : prioP L id with
  | none =>
    rw [hp] at hlk
    simp only [Option.getD_none, Option.isSome_none, Bool.false_eq_true, if_false] at hlk ⊢
    have e : outP L id = L := List.filter_eq_self.2 (fun y hy => by simp; intro e2; exact prioP_none.1 hp (List.mem_map.2 ⟨y, hy, e2⟩))
    rw [e]
    have H := Lib.hid (fun k => (hA.keep (u' := w.drewN k) ((Mod.refl _ _).drewN k)).prio hf)
    clear hA h e hp
    go_enter Tryz.func272, Tryz.ntmps272
    go_wp2
    go_ret
    exact ⟨rfl, by first | exact H.out 0 | exact H.out _⟩
  | some p =>
    rw [hp] at hlk
    simp only [Option.getD_some, Option.isSome_some, if_true] at hlk ⊢
    have hmem := (prioP_some hf.1).1 hp
    have hp8 : p < 8 := hf.1.lt _ hmem
    have hpI : (p : Int) < 8 := by omega
    have hfine : PQ.fine most (outP L id) := ⟨outP_ok hf.1 id, Nat.le_trans (List.length_filter_le _ _) hf.2.1, hf.2.2⟩
    have hq : qDropE (lvl L p) id = 0 := if_pos (mem_lvl.2 hmem)
    obtain ⟨w1, hdel, hB⟩ := hA.fmDel (P := Tryz.prog) 1 rfl Tryz.underlying82 Tryz.underlying3 id
    rw [numF_some, show (prioF L id).isSome = true by unfold prioF; rw [hp]; rfl, if_pos rfl, prioF_out] at hB
    have hB : On F w ([Res.blk b (prioObj 8 D mb most), fmapR mb (L.length - 1) (numF (prioF (outP L id)))] ++ thingsL 8 (fun p => fifoR (D p) most (lvl L p))) w1 := hB
    have kc : w1.cell? ⟨b, p, none⟩ = some (.pointer (some ⟨D p, 0, none⟩)) := by
      rw [hB.cell 0 rfl p, List.getElem?_toArray, List.getElem?_append_left (by rw [lvP_len]; exact hp8)]
      exact lvP_get hp8
    have hdrop : Calls Tryz.prog 305 #[.pointer (some ⟨D p, 0, none⟩), .int .i64 id] w1 (fun e u => e = .returned (.int .i64 0) ∧ On F w (prioL b mb most D (outP L id)) u) := by
      have := hB.call (2 + p) (R := fifoR (D p) most (lvl L p)) (R' := fifoR (D p) most ((lvl L p).erase id)) (v := .int .i64 0) (by
        rw [List.getElem?_append_right (by simp)]
        simpa using thingsL_get (R := fun p => fifoR (D p) most (lvl L p)) hp8) (fun F1 h1 => by have := fifo_Drop h1 id; rwa [hq] at this)
      rw [prio_set (L' := outP L id) (by rw [outP_len hf.1 (by rw [hp]; rfl)]) rfl hp8 (by rw [lvl_out hf.1 hp, if_pos rfl]) (fun q hq => by rw [lvl_out hf.1 hp, if_neg hq])] at this
      exact this
    clear hA hB h hf hmem hp hq
    go_enter Tryz.func272, Tryz.ntmps272
    go_wp2_with (go_at_call 305; refine hdrop.mono ?_; rintro e w2 ⟨rfl, hC⟩)
    go_ret
    exact ⟨rfl, hC.prio hfine⟩
theorem push_out {L : PQ} (hok : L.ok) (hlen : L.length ≤ most) {id : Int} {p : Nat} (hp : prioP L id = some p) : pushE most (outP L id) p id = 0 ∧ pushP most (outP L id) p id = backP L id := by
  have h8 : p < 8 := hok.lt _ ((prioP_some hok).1 hp)
  have hl := outP_len hok (by rw [hp]; rfl)
  have hpos : 0 < L.length := by
    cases L with
    | nil => simp [prioP] at hp
    | cons _ _ => simp
  have e : pushE most (outP L id) p id = 0 := by
    unfold pushE
    rw [prioP_out, if_pos rfl, if_neg (by omega), if_neg (by simp), if_neg (by omega)]
  refine ⟨e, ?_⟩
  unfold pushP backP
  rw [if_pos e, hp]
  simp
theorem prio_Back (h : (prioR b most L).holds F w) (id : Int) : Calls Tryz.prog 207 #[.pointer (some ⟨b, 0, none⟩), .int .i64 id] w (Turns (prioR b most (backP L id)) F (.int .i64 (dropPE L id)) w) := by
  have hP := prio_Prio h id
  have hf := h.1
  have hD := fun k => (On.one ((prioR b most L).keep (S := []) (w' := w.drewN k) h ((Mod.refl _ _).drewN k) (by simp)))
  have hdrop := fun k => (hD k).call (P := Tryz.prog) (f := 272) 0 rfl (fun F1 h1 => prio_Drop h1 id)
  unfold dropPE at hdrop ⊢
  cases hp : prioP L id with
  | none =>
    rw [hp] at hP hdrop
    simp only [Option.getD_none, Option.isSome_none, Bool.false_eq_true, if_false] at hP hdrop ⊢
    have e1 : backP L id = L := by unfold backP; rw [hp]
    have e : outP L id = L := List.filter_eq_self.2 (fun y hy => by simp; intro e2; exact prioP_none.1 hp (List.mem_map.2 ⟨y, hy, e2⟩))
    rw [e1]
    rw [e] at hdrop
    clear e e1 hp hD
    go_enter Tryz.func207, Tryz.ntmps207
    go_wp2_with (first
      | (go_at_call 274; refine hP.mono ?_; rintro e w1 ⟨rfl, k, rfl⟩)
      | (go_at_call 272; refine (hdrop _).mono ?_; rintro e w2 ⟨rfl, hC⟩))
    go_ret
    refine ⟨rfl, ?_⟩
    obtain ⟨F', q1, q2, q3⟩ := hC.gain1
    exact ⟨F', q1, q2.undrewN, q3⟩
  | some p =>
    rw [hp] at hP hdrop
    simp only [Option.getD_some, Option.isSome_some, if_true] at hP hdrop ⊢
    obtain ⟨e1, e2⟩ := push_out (most := most) hf.1 hf.2.1 hp
    rw [← e2]
    clear e2 hD
    go_enter Tryz.func207, Tryz.ntmps207
    go_wp2_with (first
      | (go_at_call 274; refine hP.mono ?_; rintro e w1 ⟨rfl, k, rfl⟩)
      | (go_at_call 272; refine (hdrop _).mono ?_; rintro e w2 ⟨rfl, hC⟩)
      | (go_at_call 271; refine (hC.call 0 rfl (fun F1 h1 => prio_Push h1 p id)).mono ?_; rintro e w3 ⟨rfl, hE⟩))
    go_ret
    refine ⟨rfl, ?_⟩
    obtain ⟨F', q1, q2, q3⟩ := hE.gain1
    exact ⟨F', q1, q2.undrewN, q3⟩
end
end Go.Proofs.YtaakgpnmfkmdoaaGreatDoor

/- A law of my own for a range over a function whose rounds all go on and whose iterator writes one block d of memory: the invariant I i j: i rounds are over, the iterator has made j elements. -/
namespace Go.Proofs.YtaakgpnmfkmdoaaGreatDoor
set_option linter.unusedVariables false
set_option linter.unusedSimpArgs false
open Go.RowKit

theorem wpIn_rangeFunc_counts {P : Program} {g : Operand} {ps : Array Tmp} {assign body : Code} {Q : Exit → Act → World → Prop} {a : Act} {w : World}
    {gf : Nat} {lb : Array Value} (hg : a.eval g = .func (.func gf) #[] lb) (eg : ∀ args w, (callFunc gf args).run P w = .ok (.enter gf args) w) (hps : ps.size = 1)
    (N : Nat) (enc : Nat → Value) (I : Nat → Nat → World → Prop) (d : Nat) (hd : d < w.heap.size)
    (hput : ∀ i j W b o, I i j W → (b = w.heap.size ∨ b = w.heap.size + 1) → I i j (W.putObj b o))
    (hI0 : ∀ o1 o2, I 0 0 ((w.alloc o1).alloc o2))
    (hit : ∀ (l : Nat) (J Jm : Nat → World → Prop) (W : World), (∀ i W, J i W → I i i W) → (∀ i W W', J i W → Mod [d] W W' → I i (i + 1) W' → Jm i W') →
      (∀ i W, i < N → Jm i W → YieldAt Fence.wide 1 P l #[enc i] W fun e W' => e = .returned (.bool true) ∧ J (i + 1) W') → J 0 W →
      CallsIn Fence.wide 2 P gf (#[.func (.yield l) #[] #[]] ++ lb) W fun e W' => (∃ v, e = .returned v) ∧ J N W')
    (hround : ∀ l i W, I i (i + 1) W → i < N → w.heap.size + 1 < W.heap.size →
      assign.wpIn (Fence.wide.inRound l) 1 P (Exit.then (fun a₁ W₁ => Mod [] W W₁ ∧ ∀ o, body.wpIn (Fence.wide.inRound l) 1 P
        (fun e _ W3 => e = Exit.normal ∧ W3.heap[w.heap.size]? = W₁.heap[w.heap.size]? ∧ W3.heap[w.heap.size + 1]? = (W₁.putObj (w.heap.size + 1) o).heap[w.heap.size + 1]? ∧ I (i + 1) (i + 1) W3) a₁ (W₁.putObj (w.heap.size + 1) o)) (fun _ _ _ => False))
        { tmps := (ps.zip #[enc i]).foldl (fun t (p, v) => t.setIfInBounds p v) a.tmps, defers := [] } W)
    (hdone : ∀ W, I N N W → W.heap[w.heap.size]? = some (.deferred (some [])) → Q .normal { a with defers := { target := .collected w.heap.size, args := #[] } :: a.defers } W) :
    (Code.rangeFunc g ps assign body).wpIn Fence.wide 3 P Q a w := by
  refine wpIn_rangeFunc ?_
  intro fn hfn
  obtain ⟨rec, hrec⟩ : ∃ rec : LoopState → Option Code → Loop, rec = fun st pe => { state := st, pending := pe, fn, tmps := a.tmps, params := ps, assign, body, defers := w.heap.size } := ⟨_, rfl⟩
  obtain ⟨W1, hW1⟩ : ∃ W1, (w.alloc (.deferred (some []))).alloc (.loop (rec .ready none)) = W1 := ⟨_, rfl⟩
  have hL1 : W1.heap[w.heap.size + 1]? = some (.loop (rec .ready none)) := by
    rw [← hW1]; have := World.alloc_heap_new (w.alloc (.deferred (some []))) (.loop (rec .ready none)); rwa [World.size_alloc] at this
  have hK1 : W1.heap[w.heap.size]? = some (.deferred (some [])) := by
    rw [← hW1]; exact (Below.heap_alloc _ _ _ (by simp)).trans (World.alloc_heap_new w _)
  have hI1 : I 0 0 W1 := by rw [← hW1]; exact hI0 _ _
  refine ⟨w.heap.size + 1, [{ target := .collected w.heap.size, args := #[] }], W1, { target := .fn (.func gf) lb, args := #[.func (.yield (w.heap.size + 1)) #[] #[]] }, W1, gf,
    #[.func (.yield (w.heap.size + 1)) #[] #[]] ++ lb, W1, ?_, ?_, ?_, ?_, fun _ => by omega, ?_⟩
  · rw [← hW1, hrec]; exact run_enterLoop_outer _ _ _ _ _
  · simp only [resolve, hg]
    simp [go_sem]
  · intro f' hf'; trivial
  · simp [invoke, go_sem, eg]
  · refine (hit (w.heap.size + 1)
      (fun i W => I i i W ∧ W.heap[w.heap.size + 1]? = some (.loop (rec .ready none)) ∧ W.heap[w.heap.size]? = some (.deferred (some [])))
      (fun i W => I i (i + 1) W ∧ W.heap[w.heap.size + 1]? = some (.loop (rec .ready none)) ∧ W.heap[w.heap.size]? = some (.deferred (some [])))
      W1 (fun i W h => h.1) (fun i W W' h m h' => ⟨h', m.keep h.2.1 (by simp; omega), m.keep h.2.2 (by simp; omega)⟩) ?_ ⟨hI1, hL1, hK1⟩).mono ?_
    · rintro i W hlen ⟨hi, hl, hk⟩
      have hlt : w.heap.size + 1 < W.heap.size := (Array.getElem?_eq_some_iff.1 hl).1
      have hy := run_yield (P := P) (args := #[enc i]) hl (by rw [hrec]; exact hps.symm)
      rw [hrec] at hy
      refine ⟨fn, _, assign, body, hy, roundIn_of_wpIn (trivial : Fence.wide.fn fn) (wpIn_mono (hround (w.heap.size + 1) i W hi hlen hlt) ?_)⟩
      intro e a₁ W₁ h1
      cases e with
      | normal =>
        obtain ⟨m, hb⟩ := h1
        have hl1 := m.keep hl (by simp)
        have hk1 := m.keep hk (by simp)
        refine ⟨_, run_beginRound hl1 (by rw [hrec]), wpIn_mono (hb _) ?_⟩
        rintro e2 a2 W3 ⟨rfl, k0, k1, hI3⟩
        have hl3 : W3.heap[w.heap.size + 1]? = some (.loop { rec .ready none with state := .busy }) := k1.trans (World.putObj_heap_same (ltOf hl1))
        refine ⟨_, _, run_endRound none hl3, rfl, hput _ _ _ _ _ hI3 (.inr rfl), ?_, (World.putObj_heap_other (by omega)).trans (k0.trans hk1)⟩
        rw [World.putObj_heap_same (ltOf hl3), hrec]
        rfl
      | ret => exact h1.elim
      | exit id => exact h1.elim
      | goto t => exact h1.elim
      | panic ch => exact h1.elim
      | outgrown => exact h1.elim
    · rintro e W2 ⟨⟨v, rfl⟩, hi, hl, hk⟩
      have he := run_endLoop (P := P) hl (by rw [hrec]; simp)
      rw [hrec] at he
      exact ⟨none, _, he, hdone _ (hput _ _ _ _ _ hi (.inr rfl)) ((World.putObj_heap_other (by omega)).trans hk)⟩
/-- .. append onto a slice of structs, in such a walk. -/
theorem wpListIn_append_run {F : Fence} {n : Nat} {P : Program} {w w' : World} {ops : Array Oper} {rest : List Oper} {o : Oper} {a : Act} {Q : Exit → Act → World → Prop}
    (hgd : o.guard = none) (s x : Operand) (t : TypeId) (ho : o.op = .call { callee := .builtin .append, args := #[s, x], argTypes := #[t, t] }) {v u r : Value} (hs : a.eval s = v) (hx : a.eval x = u)
    (hr : (Builtin.append_ #[t, t] o.type #[v, u]).run P w = .ok r w') (h : wpListIn F n P ops Q rest (a.put o.dst r) w') : wpListIn F n P ops Q (o :: rest) a w := by
  refine wpListIn_plain hgd fun K hK => ?_
  unfold Oper.wpIn
  refine ⟨by simp [Oper.about, ho, resolve, Target.leads, Sem.run_pure], ?_⟩
  rw [Oper.semAt_plain F _ _ (by rw [ho]; intro c hc'; cases hc')]
  simp [execOp, ho, resolve, invoke, builtin, hs, hx, hr, Result.andThen]
  exact hK _ _ h
end Go.Proofs.YtaakgpnmfkmdoaaGreatDoor

/- A law of my own for a range over a function that counts from 0 to N and writes nothing, whose rounds may leave: the invariant I i: i rounds are over; Ix c i: round i has left by the jump c. -/
namespace Go.Proofs.YtaakgpnmfkmdoaaGreatDoor
set_option linter.unusedVariables false
set_option linter.unusedSimpArgs false
open Go.RowKit

/-- What a round's end says. -/
def roundEnd (I : Nat → World → Prop) (Ix : Code → Nat → World → Prop) (i : Nat) (W : World) : Exit → Prop
  | .normal => I (i + 1) W
  | .ret => Ix .ret i W
  | .exit id => Ix (.exit id) i W
  | .goto t => Ix (.goto t) i W
  | _ => False
theorem wpIn_rangeFunc_stop {m : Nat} {P : Program} {g : Operand} {ps : Array Tmp} {assign body : Code} {Q : Exit → Act → World → Prop} {a : Act} {w : World}
    {gf : Nat} {lb : Array Value} (hg : a.eval g = .func (.func gf) #[] lb) (eg : ∀ args w, (callFunc gf args).run P w = .ok (.enter gf args) w) (hps : ps.size = 1)
    (N : Nat) (enc : Nat → Value) (I : Nat → World → Prop) (Ix : Code → Nat → World → Prop)
    (hput : ∀ i W b o, I i W → (b = w.heap.size ∨ b = w.heap.size + 1) → I i (W.putObj b o))
    (hputx : ∀ c i W b o, Ix c i W → (b = w.heap.size ∨ b = w.heap.size + 1) → Ix c i (W.putObj b o))
    (hI0 : ∀ o1 o2, I 0 ((w.alloc o1).alloc o2))
    (hit : ∀ (l : Nat) (J Jx : Nat → World → Prop) (W : World), (∀ i W, J i W → I i W) →
      (∀ i W, i < N → J i W → YieldAt Fence.wide (m + 1) P l #[enc i] W fun e W' => (e = .returned (.bool true) ∧ J (i + 1) W') ∨ (e = .returned (.bool false) ∧ Jx i W')) → J 0 W →
      CallsIn Fence.wide (m + 2) P gf (#[.func (.yield l) #[] #[]] ++ lb) W fun e W' => (∃ v, e = .returned v) ∧ (J N W' ∨ ∃ i, i < N ∧ Jx i W'))
    (hround : ∀ l i W, I i W → i < N → w.heap.size + 1 < W.heap.size →
      assign.wpIn (Fence.wide.inRound l) (m + 1) P (Exit.then (fun a₁ W₁ => Mod [] W W₁ ∧ ∀ o, body.wpIn (Fence.wide.inRound l) (m + 1) P
        (fun e _ W3 => W3.heap[w.heap.size]? = W₁.heap[w.heap.size]? ∧ W3.heap[w.heap.size + 1]? = (W₁.putObj (w.heap.size + 1) o).heap[w.heap.size + 1]? ∧ roundEnd I Ix i W3 e) a₁ (W₁.putObj (w.heap.size + 1) o)) (fun _ _ _ => False))
        { tmps := (ps.zip #[enc i]).foldl (fun t (p, v) => t.setIfInBounds p v) a.tmps, defers := [] } W)
    (hdone : ∀ W, I N W → W.heap[w.heap.size]? = some (.deferred (some [])) → Q .normal { a with defers := { target := .collected w.heap.size, args := #[] } :: a.defers } W)
    (hstop : ∀ c i W, i < N → Ix c i W → W.heap[w.heap.size]? = some (.deferred (some [])) → c.wpIn Fence.wide (m + 3) P Q { a with defers := { target := .collected w.heap.size, args := #[] } :: a.defers } W) :
    (Code.rangeFunc g ps assign body).wpIn Fence.wide (m + 3) P Q a w := by
  refine wpIn_rangeFunc ?_
  intro fn hfn
  obtain ⟨rec, hrec⟩ : ∃ rec : LoopState → Option Code → Loop, rec = fun st pe => { state := st, pending := pe, fn, tmps := a.tmps, params := ps, assign, body, defers := w.heap.size } := ⟨_, rfl⟩
  obtain ⟨W1, hW1⟩ : ∃ W1, (w.alloc (.deferred (some []))).alloc (.loop (rec .ready none)) = W1 := ⟨_, rfl⟩
  have hL1 : W1.heap[w.heap.size + 1]? = some (.loop (rec .ready none)) := by
    rw [← hW1]; have := World.alloc_heap_new (w.alloc (.deferred (some []))) (.loop (rec .ready none)); rwa [World.size_alloc] at this
  have hK1 : W1.heap[w.heap.size]? = some (.deferred (some [])) := by
    rw [← hW1]; exact (Below.heap_alloc _ _ _ (by simp)).trans (World.alloc_heap_new w _)
  have hI1 : I 0 W1 := by rw [← hW1]; exact hI0 _ _
  refine ⟨w.heap.size + 1, [{ target := .collected w.heap.size, args := #[] }], W1, { target := .fn (.func gf) lb, args := #[.func (.yield (w.heap.size + 1)) #[] #[]] }, W1, gf,
    #[.func (.yield (w.heap.size + 1)) #[] #[]] ++ lb, W1, ?_, ?_, ?_, ?_, fun _ => by omega, ?_⟩
  · rw [← hW1, hrec]; exact run_enterLoop_outer _ _ _ _ _
  · simp only [resolve, hg]
    simp [go_sem]
  · intro f' hf'; trivial
  · simp [invoke, go_sem, eg]
  · refine (hit (w.heap.size + 1)
      (fun i W => I i W ∧ W.heap[w.heap.size + 1]? = some (.loop (rec .ready none)) ∧ W.heap[w.heap.size]? = some (.deferred (some [])))
      (fun i W => ∃ c, Ix c i W ∧ W.heap[w.heap.size + 1]? = some (.loop (rec .done (some c))) ∧ W.heap[w.heap.size]? = some (.deferred (some [])))
      W1 (fun i W h => h.1) ?_ ⟨hI1, hL1, hK1⟩).mono ?_
    · rintro i W hlen ⟨hi, hl, hk⟩
      have hlt : w.heap.size + 1 < W.heap.size := (Array.getElem?_eq_some_iff.1 hl).1
      have hy := run_yield (P := P) (args := #[enc i]) hl (by rw [hrec]; exact hps.symm)
      rw [hrec] at hy
      refine ⟨fn, _, assign, body, hy, roundIn_of_wpIn (trivial : Fence.wide.fn fn) (wpIn_mono (hround (w.heap.size + 1) i W hi hlen hlt) ?_)⟩
      intro e a₁ W₁ h1
      cases e with
      | normal =>
        obtain ⟨m, hb⟩ := h1
        have hl1 := m.keep hl (by simp)
        have hk1 := m.keep hk (by simp)
        refine ⟨_, run_beginRound hl1 (by rw [hrec]), wpIn_mono (hb _) ?_⟩
        rintro e2 a2 W3 ⟨k0, k1, hI3⟩
        have hl3 : W3.heap[w.heap.size + 1]? = some (.loop { rec .ready none with state := .busy }) := k1.trans (World.putObj_heap_same (ltOf hl1))
        have hk3 := k0.trans hk1
        have fin : ∀ (jump : Option Code), (Instr.endRound (w.heap.size + 1) jump).run P W3 = .ok (.bool jump.isNone) (W3.putObj (w.heap.size + 1) (.loop (rec (if jump.isNone then .ready else .done) jump))) ∧
            (W3.putObj (w.heap.size + 1) (.loop (rec (if jump.isNone then .ready else .done) jump))).heap[w.heap.size + 1]? = some (.loop (rec (if jump.isNone then .ready else .done) jump)) ∧
            (W3.putObj (w.heap.size + 1) (.loop (rec (if jump.isNone then .ready else .done) jump))).heap[w.heap.size]? = some (.deferred (some [])) := fun jump => by
          have := run_endRound (P := P) jump hl3
          rw [hrec] at this ⊢
          exact ⟨this, World.putObj_heap_same (ltOf hl3), (World.putObj_heap_other (by omega)).trans hk3⟩
        cases e2 with
        | normal =>
          obtain ⟨hr, q1, q2⟩ := fin none
          exact ⟨_, _, hr, .inl ⟨rfl, hput _ _ _ _ hI3 (.inr rfl), q1, q2⟩⟩
        | ret =>
          obtain ⟨hr, q1, q2⟩ := fin (some .ret)
          exact ⟨_, _, hr, .inr ⟨rfl, .ret, hputx _ _ _ _ _ hI3 (.inr rfl), q1, q2⟩⟩
        | exit id =>
          obtain ⟨hr, q1, q2⟩ := fin (some (.exit id))
          exact ⟨_, _, hr, .inr ⟨rfl, .exit id, hputx _ _ _ _ _ hI3 (.inr rfl), q1, q2⟩⟩
        | goto t =>
          obtain ⟨hr, q1, q2⟩ := fin (some (.goto t))
          exact ⟨_, _, hr, .inr ⟨rfl, .goto t, hputx _ _ _ _ _ hI3 (.inr rfl), q1, q2⟩⟩
        | panic ch => exact hI3.elim
        | outgrown => exact hI3.elim
      | ret => exact h1.elim
      | exit id => exact h1.elim
      | goto t => exact h1.elim
      | panic ch => exact h1.elim
      | outgrown => exact h1.elim
    · rintro e W2 ⟨⟨v, rfl⟩, (⟨hi, hl, hk⟩ | ⟨i, hlt, c, hi, hl, hk⟩)⟩
      · have he := run_endLoop (P := P) hl (by rw [hrec]; simp)
        rw [hrec] at he
        exact ⟨none, _, he, hdone _ (hput _ _ _ _ hi (.inr rfl)) ((World.putObj_heap_other (by omega)).trans hk)⟩
      · have he := run_endLoop (P := P) hl (by rw [hrec]; simp)
        rw [hrec] at he
        exact ⟨some c, _, he, hstop c i _ hlt (hputx _ _ _ _ _ hi (.inr rfl)) ((World.putObj_heap_other (by omega)).trans hk)⟩
end Go.Proofs.YtaakgpnmfkmdoaaGreatDoor

/- The walks over the queue with priorities: down, top, Top, Turn. No condition but those named. -/
namespace Go.Proofs.YtaakgpnmfkmdoaaGreatDoor
set_option linter.unusedVariables false
set_option linter.unusedSimpArgs false
open Go.RowKit
attribute [local go_sem] Oper.semAt_some

theorem results_cell2 {fn : Func} {p u : Tmp} {t1 t2 : TypeId} (h : fn.results = #[.cell p t1, .cell u t2]) (tmps : Array Value) (P : Program) (w : World) :
    (results fn tmps).run P w =
      ((asAddr (tmps.getD p undef)).run P w).andThen fun a w₁ => ((loadVar t1 a).run P w₁).andThen fun v w₂ => ((asAddr (tmps.getD u undef)).run P w₂).andThen fun a' w₃ => ((loadVar t2 a').run P w₃).andThen fun v' w₄ => .ok (.tuple #[v, v']) w₄ := by
  simp only [results, h]
  simp [Sem.run_bind, Result.andThen]
theorem heapNewAt {w : World} {n : Nat} (o : Obj) (h : w.heap.size = n) : (w.alloc o).heap[n]? = some o := h ▸ heapNew w o
theorem modPutB (W : World) (b : Nat) (o : Obj) : Mod [b] W (W.putObj b o) :=
  ⟨rfl, rfl, rfl, by simp, fun k hk hS => World.putObj_heap_other (by simpa using hS)⟩
/-- The level that a queue's first one is in. -/
def topIn (L : PQ) : List Nat → Nat
  | [] => 0
  | p :: ds => if lvl L p = [] then topIn L ds else p
def topLv (L : PQ) : Nat := topIn L downs
theorem topIn_flat (L : PQ) : ∀ ds : List Nat, (∀ p, p ∈ ds → lvl L p = []) ∨ (lvl L (topIn L ds) ≠ [] ∧ topIn L ds ∈ ds ∧ ∃ r, ds.flatMap (lvl L) = lvl L (topIn L ds) ++ r)
  | [] => .inl (by simp)
  | p :: ds => by
    by_cases h : lvl L p = []
    · unfold topIn
      rw [if_pos h]
      rcases topIn_flat L ds with h1 | ⟨h1, h2, r, h3⟩
      · left
        intro q hq
        rcases List.mem_cons.1 hq with e | hq
        · rw [e]; exact h
        · exact h1 q hq
      · right; exact ⟨h1, List.mem_cons_of_mem _ h2, r, by rw [List.flatMap_cons, h, List.nil_append, h3]⟩
    · unfold topIn
      rw [if_neg h]
      exact .inr ⟨h, List.mem_cons_self, _, by rw [List.flatMap_cons]⟩
theorem lvl_nil_all {L : PQ} (hok : L.ok) (h : ∀ p, p ∈ downs → lvl L p = []) : L = [] := by
  cases L with
  | nil => rfl
  | cons x L =>
    exfalso
    have h8 := hok.lt x List.mem_cons_self
    have h1 := h x.1 (by simp [downs]; omega)
    have : x.2 ∈ lvl (x :: L) x.1 := mem_lvl.2 List.mem_cons_self
    rw [h1] at this
    cases this
theorem topLv_spec {L : PQ} (hok : L.ok) (h : L ≠ []) : topLv L < 8 ∧ lvl L (topLv L) ≠ [] ∧ nth (lvl L (topLv L)) 0 = topP L := by
  rcases topIn_flat L downs with h1 | ⟨h1, h2, r, h3⟩
  · exact absurd (lvl_nil_all hok h1) h
  · refine ⟨by simp [downs] at h2; unfold topLv; simp [downs]; omega, h1, ?_⟩
    unfold topP listP
    rw [h3, nth_append_left (List.length_pos_iff.2 h1)]
    rfl
/-- The levels above the i-th one are empty. -/
theorem topLv_at {L : PQ} {i : Nat} (hi : i < 8) (h0 : ∀ k, k < i → lvl L (7 - k) = []) (h1 : lvl L (7 - i) ≠ []) : topLv L = 7 - i := by
  have e0 := h0 0
  have e1 := h0 1
  have e2 := h0 2
  have e3 := h0 3
  have e4 := h0 4
  have e5 := h0 5
  have e6 := h0 6
  have hc : i = 0 ∨ i = 1 ∨ i = 2 ∨ i = 3 ∨ i = 4 ∨ i = 5 ∨ i = 6 ∨ i = 7 := by omega
  rcases hc with rfl | rfl | rfl | rfl | rfl | rfl | rfl | rfl <;> simp_all [topLv, downs, topIn]
theorem prio_down (b : Nat) (w : World) : Calls Tryz.prog 324 #[.pointer (some ⟨b, 0, none⟩)] w
    (fun e w' => e = .returned (.func (.func 341) #[] #[.pointer (some ⟨w.heap.size, 0, none⟩)]) ∧ Mod [] w w' ∧ w.heap.size < w'.heap.size ∧ w'.heap[w.heap.size]? = some (.cells #[.pointer (some ⟨b, 0, none⟩)] 167 (0,0))) := by
  go_enter Tryz.func324, Tryz.ntmps324
  go_wp2
  go_ret
  exact ⟨rfl, (Mod.refl _ _).alloc _, by simp, heapNew _ _⟩
set_option maxRecDepth 100000 in
set_option maxHeartbeats 1000000 in
theorem prio_down1 (l s b : Nat) (D : Nat → Nat) (J Jx : Nat → World → Prop) (W : World)
    (hC : ∀ i W, J i W → W.cell? ⟨s, 0, none⟩ = some (.pointer (some ⟨b, 0, none⟩)) ∧ ∀ p, p < 8 → W.cell? ⟨b, p, none⟩ = some (.pointer (some ⟨D p, 0, none⟩)))
    (hY : ∀ i W, i < 8 → J i W → YieldAt Fence.wide 2 Tryz.prog l #[.pointer (some ⟨D (7 - i), 0, none⟩)] W fun e W' => (e = .returned (.bool true) ∧ J (i + 1) W') ∨ (e = .returned (.bool false) ∧ Jx i W'))
    (h0 : J 0 W) :
    CallsIn Fence.wide 3 Tryz.prog 341 #[.func (.yield l) #[] #[], .pointer (some ⟨s, 0, none⟩)] W fun e W' => (∃ v, e = .returned v) ∧ (J 8 W' ∨ ∃ i, i < 8 ∧ Jx i W') := by
  refine callsIn_of_wp Tryz.func341 rfl trivial ?_ rfl
  simp only [Tryz.ntmps341, List.size_toArray, List.length_cons, List.length_nil, Nat.reduceAdd, Nat.reduceSub, Array.replicate_succ, Array.replicate_zero, List.push_toArray, List.append_toArray, List.nil_append, List.cons_append]
  gi_wp2
  gi_loopw [3] (fun p wr => ∃ i : Nat, p = .int .i64 (7 - (i : Int)) ∧ i ≤ 8 ∧ J i wr) (fun p _ => (intOf p + 1).toNat)
  case atStart => exact ⟨0, rfl, by omega, h0⟩
  case round =>
    obtain ⟨i, rfl, hi, hJ⟩ := hrel
    obtain ⟨c0, cD⟩ := hC i wr hJ
    by_cases hlt : i < 8
    · have c1 := cD (7 - i) (by omega)
      have h70 : (0 : Int) ≤ 7 - (i : Int) := by omega
      have h78 : (7 : Int) - (i : Int) < 8 := by omega
      have h7t : ((7 : Int) - (i : Int)).toNat = 7 - i := by omega
      obtain ⟨fn, tmps, assign, body, hy, hR⟩ := hY i wr hlt hJ
      gi_wp2
      refine hR.mono ?_
      rintro e W3 (⟨rfl, hJ3⟩ | ⟨rfl, hJ3⟩)
      · gi_wp2
        go_roundw
        case rel => exact ⟨i + 1, by congr 1; omega, by omega, hJ3⟩
        case measure => simp [intOf]; omega
      · gi_wp2
        refine bodyPost_ret (results_none rfl _ _ _) rfl ?_
        exact ⟨⟨_, rfl⟩, .inr ⟨i, hlt, hJ3⟩⟩
    · have hlt2 : ¬ (i : Int) ≤ 7 := by omega
      have e8 : i = 8 := by omega
      replace e8 := Lib.hid e8
      gi_wp2
      go_end0
      exact ⟨⟨_, rfl⟩, .inl (by rw [← e8.out]; exact hJ)⟩
section
variable {F : List Nat} {w u : World} {b mb most : Nat} {D : Nat → Nat} {L : PQ}
theorem On.prLvlAt (h : On F w (prioL b mb most D L) u) {p : Nat} (hp : p < 8) : ∃ F1, (fifoR (D p) most (lvl L p)).holds F1 u := h.get _ (prio_get hp)
set_option maxRecDepth 100000 in
set_option maxHeartbeats 2000000 in
theorem prio_top (hf : L.fine most) (h : On F w (prioL b mb most D L) w) : Calls Tryz.prog 306 #[.pointer (some ⟨b, 0, none⟩)] w
    (fun e w' => e = .returned (.tuple #[.pointer (if L = [] then none else some ⟨D (topLv L), 0, none⟩), .int .i64 (topE L)]) ∧ Mod [] w w') := by
  obtain ⟨pv, hpv⟩ : ∃ pv, pv = (if L = [] then none else some (⟨D (topLv L), 0, none⟩ : Addr)) := ⟨_, rfl⟩
  obtain ⟨ev, hev⟩ : ∃ ev, ev = topE L := ⟨_, rfl⟩
  rw [← hpv, ← hev]
  replace hpv := Lib.hid hpv
  replace hev := Lib.hid hev
  refine (callsIn_wide (n := 4)).1 ?_
  refine callsIn_of_wp_marks Tryz.func306 rfl trivial ?_ rfl
  simp only [Tryz.ntmps306, List.size_toArray, List.length_cons, List.length_nil, Nat.reduceAdd, Nat.reduceSub, Array.replicate_succ, Array.replicate_zero, List.push_toArray, List.append_toArray, List.nil_append, List.cons_append]
  gi_wp2_with (
      refine ⟨trivial, ?_⟩
      gi_at_call 324
      refine (callsIn_wide.2 (prio_down _ _)).mono ?_
      rintro e w1 ⟨rfl, m1, s1, x1⟩
    )
  have z1 : w.heap.size + 2 < w1.heap.size := by simpa using s1
  have M1 : Mod [] w w1 := Mod.trans (S := []) (T := []) (((Mod.refl _ _).alloc _).alloc _) m1 (by simp)
  have x0 : w1.heap[w.heap.size]? = some (.cells #[.pointer none] 187 (0,0)) := m1.keep (heapOld (heapNew _ _)) (by simp)
  have x2 : w1.heap[w.heap.size + 1]? = some (.cells #[.int .i64 0] 24 (0,0)) := m1.keep (heapNewAt _ (by simp)) (by simp)
  have x3 : w1.heap[w.heap.size + 2]? = some (.cells #[.pointer (some ⟨b, 0, none⟩)] 167 (0,0)) := by simpa using x1
  clear m1 s1 x1
  refine wpIn_rangeFunc_stop (gf := 341) (lb := #[.pointer (some ⟨w.heap.size + 2, 0, none⟩)]) rfl (enters_of Tryz.func341 (by kernel_rfl) rfl) rfl
    8 (fun i => .pointer (some ⟨D (7 - i), 0, none⟩))
    (fun i W => Mod [] w W ∧ w1.heap.size ≤ W.heap.size ∧ W.heap[w.heap.size]? = some (.cells #[.pointer none] 187 (0,0)) ∧ W.heap[w.heap.size + 1]? = some (.cells #[.int .i64 0] 24 (0,0)) ∧ W.heap[w.heap.size + 2]? = some (.cells #[.pointer (some ⟨b, 0, none⟩)] 167 (0,0)) ∧ ∀ k, k < i → lvl L (7 - k) = [])
    (fun c i W => c = .ret ∧ Mod [] w W ∧ w1.heap.size ≤ W.heap.size ∧ W.heap[w.heap.size]? = some (.cells #[.pointer (some ⟨D (7 - i), 0, none⟩)] 187 (0,0)) ∧ W.heap[w.heap.size + 1]? = some (.cells #[.int .i64 0] 24 (0,0)) ∧ (∀ k, k < i → lvl L (7 - k) = []) ∧ lvl L (7 - i) ≠ [])
    ?put ?putx ?i0 ?it ?round ?done ?stop
  case put =>
    rintro i W q o ⟨i1, i2, i3, i4, i5, i6⟩ hq
    have hge : w1.heap.size ≤ q := by omega
    have mq := modPutB W q o
    exact ⟨i1.trans mq (by simp; omega), by simpa using i2, mq.keep i3 (by simp; omega), mq.keep i4 (by simp; omega), mq.keep i5 (by simp; omega), i6⟩
  case putx =>
    rintro c i W q o ⟨i1, i2, i3, i4, i5, i6⟩ hq
    have hge : w1.heap.size ≤ q := by omega
    have mq := modPutB W q o
    exact ⟨i1, i2.trans mq (by simp; omega), by simpa using i3, mq.keep i4 (by simp; omega), mq.keep i5 (by simp; omega), i6⟩
  case i0 =>
    intro o1 o2
    have m2 : Mod [] w1 ((w1.alloc o1).alloc o2) := ((Mod.refl _ _).alloc _).alloc _
    exact ⟨M1.trans m2 (by simp), m2.size, m2.keep x0 (by simp), m2.keep x2 (by simp), m2.keep x3 (by simp), by omega⟩
  case it =>
    intro l J Jx W hJ hY h0
    exact prio_down1 l (w.heap.size + 2) b D J Jx W (fun i W h1 => ⟨cellAt (hJ i W h1).2.2.2.2.1 0, fun p hp => (h.keep (hJ i W h1).1).prLvl hp⟩) hY h0
  case round =>
    rintro l i W ⟨i1, i2, i3, i4, i5, i6⟩ hi hlt
    gi_wp2
    refine ⟨Mod.refl _ _, fun o => ?_⟩
    have mq := modPutB W (w1.heap.size + 1) o
    have j1 : Mod [] w (W.putObj (w1.heap.size + 1) o) := i1.trans mq (by simp; omega)
    have j3 := mq.keep i3 (by simp; omega)
    have j4 := mq.keep i4 (by simp; omega)
    have j5 := mq.keep i5 (by simp; omega)
    have hA := h.keep j1
    have hsz : w1.heap.size ≤ (W.putObj (w1.heap.size + 1) o).heap.size := by simpa using i2
    have hlt2 : w1.heap.size + 1 < (W.putObj (w1.heap.size + 1) o).heap.size := by simpa using hlt
    clear mq i1 i3 i4 i5
    have hk0 : (W.putObj (w1.heap.size + 1) o).heap[w1.heap.size]? = W.heap[w1.heap.size]? := World.putObj_heap_other (by omega)
    rw [← hk0]
    clear hk0
    generalize W.putObj (w1.heap.size + 1) o = W2 at *
    obtain ⟨F1, hL⟩ := hA.prLvlAt (p := 7 - i) (by omega)
    have hLen := fifo_Len hL
    have c0 : W2.cell? ⟨w.heap.size, 0, none⟩ = some (.pointer none) := cellAt j3 0
    have c1 : W2.cell? ⟨w.heap.size + 1, 0, none⟩ = some (.int .i64 0) := cellAt j4 0
    have f0 : W2.frozen? ⟨w.heap.size, 0, none⟩ = false := freeAt j3 0
    have f1 : W2.frozen? ⟨w.heap.size + 1, 0, none⟩ = false := freeAt j4 0
    have s0 := ltOf j3
    have s1 := ltOf j4
    clear hA hL
    by_cases hl : lvl L (7 - i) = []
    · rw [hl] at hLen
      simp only [List.length_nil] at hLen
      gi_wp2_with (
        refine ⟨trivial, ?_⟩
        gi_at_call 337
        refine (CallsIn.inRound l (callsIn_wide.2 hLen)).mono ?_
        rintro e w' ⟨rfl, k, rfl⟩
        )
      refine ⟨rfl, rfl, j1.drewN _, hsz, j3, j4, j5, ?_⟩
      · intro k hk
        by_cases e : k = i
        · rw [e]; exact hl
        · exact i6 k (by omega)
    · have hpos : 0 < (lvl L (7 - i)).length := List.length_pos_iff.2 hl
      generalize hn : (lvl L (7 - i)).length = n at *
      have hposI : (0 : Int) < n := by omega
      gi_wp2_with (
        refine ⟨trivial, ?_⟩
        gi_at_call 337
        refine (CallsIn.inRound l (callsIn_wide.2 hLen)).mono ?_
        rintro e w' ⟨rfl, k, rfl⟩
        )
      have mS : Mod [w.heap.size, w.heap.size + 1] W2 (((W2.drewN k).setCell ⟨w.heap.size, 0, none⟩ (.pointer (some ⟨D (7 - i), 0, none⟩))).setCell ⟨w.heap.size + 1, 0, none⟩ (.int .i64 0)) := (((Mod.refl _ _).drewN _).setCell (by simp) _).setCell (by simp) _
      have q0 := heapSet (w := W2.drewN k) j3 0 (.pointer (some ⟨D (7 - i), 0, none⟩))
      have q1 : ((W2.drewN k).setCell ⟨w.heap.size, 0, none⟩ (.pointer (some ⟨D (7 - i), 0, none⟩))).heap[w.heap.size + 1]? = _ := (heapSetNe (by omega)).trans j4
      refine ⟨mS.block _ (by omega) (by simp; omega), mS.block _ (by omega) (by simp; omega), rfl, j1.trans mS (by simp), by simpa using hsz, (heapSetNe (by omega)).trans q0, heapSet q1 0 _, i6, hl⟩
  case done =>
    rintro W ⟨i1, i2, i3, i4, i5, i6⟩ hK
    have hL0 : L = [] := lvl_nil_all hf.1 (fun p hp => by
      have := i6 (7 - p) (by simp [downs] at hp; omega)
      have e : 7 - (7 - p) = p := by simp [downs] at hp; omega
      rwa [e] at this)
    have c0 : W.cell? ⟨w.heap.size, 0, none⟩ = some (.pointer none) := cellAt i3 0
    have c1 : W.cell? ⟨w.heap.size + 1, 0, none⟩ = some (.int .i64 0) := cellAt i4 0
    have f0 : W.frozen? ⟨w.heap.size, 0, none⟩ = false := freeAt i3 0
    have f1 : W.frozen? ⟨w.heap.size + 1, 0, none⟩ = false := freeAt i4 0
    have s0 := ltOf i3
    have s1 := ltOf i4
    gi_wp2
    have mS : Mod [w.heap.size, w.heap.size + 1] W ((W.setCell ⟨w.heap.size, 0, none⟩ (.pointer none)).setCell ⟨w.heap.size + 1, 0, none⟩ (.int .i64 12)) := ((Mod.refl _ _).setCell (by simp) _).setCell (by simp) _
    have hK2 := mS.keep hK (by simp; omega)
    have q0 : ((W.setCell ⟨w.heap.size, 0, none⟩ (.pointer none)).setCell ⟨w.heap.size + 1, 0, none⟩ (.int .i64 12)).heap[w.heap.size]? = _ := (heapSetNe (by omega)).trans (heapSet i3 0 (.pointer none))
    have q1 : ((W.setCell ⟨w.heap.size, 0, none⟩ (.pointer none)).setCell ⟨w.heap.size + 1, 0, none⟩ (.int .i64 12)).heap[w.heap.size + 1]? = _ := heapSet ((heapSetNe (by omega)).trans i4) 0 (.int .i64 12)
    have mM := i1.trans mS (by simp)
    generalize (W.setCell ⟨w.heap.size, 0, none⟩ (.pointer none)).setCell ⟨w.heap.size + 1, 0, none⟩ (.int .i64 12) = W5 at *
    refine ⟨by simp, .inl ⟨_, _, rfl, run_takeDeferred hK2, ?_⟩⟩
    have mP := modPutB W5 w1.heap.size (.deferred none)
    have r0 := mP.keep q0 (by simp; omega)
    have r1 := mP.keep q1 (by simp; omega)
    have mF := mM.trans mP (by simp; omega)
    generalize W5.putObj w1.heap.size (.deferred none) = W6 at *
    have k0 : W6.cell? ⟨w.heap.size, 0, none⟩ = some (.pointer none) := cellAt r0 0
    have k1 : W6.cell? ⟨w.heap.size + 1, 0, none⟩ = some (.int .i64 12) := cellAt r1 0
    refine ⟨.tuple #[.pointer none, .int .i64 12], ?_, ?_, mF⟩
    · rw [results_cell2 rfl]; go_simp
    · rw [hpv.out, hev.out, if_pos hL0, show topE L = 12 from if_pos hL0]
  case stop =>
    rintro c i W hi ⟨rfl, i2, i3, i4, i5, i6, i7⟩ hK
    have hL0 : L ≠ [] := by rintro rfl; exact i7 rfl
    have c0 : W.cell? ⟨w.heap.size, 0, none⟩ = some (.pointer (some ⟨D (7 - i), 0, none⟩)) := cellAt i4 0
    have c1 : W.cell? ⟨w.heap.size + 1, 0, none⟩ = some (.int .i64 0) := cellAt i5 0
    gi_wp2
    refine ⟨by simp, .inl ⟨_, _, rfl, run_takeDeferred hK, ?_⟩⟩
    have mP := modPutB W w1.heap.size (.deferred none)
    have r0 := mP.keep i4 (by simp; omega)
    have r1 := mP.keep i5 (by simp; omega)
    have mF := i2.trans mP (by simp; omega)
    generalize W.putObj w1.heap.size (.deferred none) = W6 at *
    have k0 : W6.cell? ⟨w.heap.size, 0, none⟩ = some (.pointer (some ⟨D (7 - i), 0, none⟩)) := cellAt r0 0
    have k1 : W6.cell? ⟨w.heap.size + 1, 0, none⟩ = some (.int .i64 0) := cellAt r1 0
    refine ⟨.tuple #[.pointer (some ⟨D (7 - i), 0, none⟩), .int .i64 0], ?_, ?_, mF⟩
    · rw [results_cell2 rfl]; go_simp
    · rw [hpv.out, hev.out, if_neg hL0, show topE L = 0 from if_neg hL0, topLv_at hi i6 i7]
end
end Go.Proofs.YtaakgpnmfkmdoaaGreatDoor

/- The walks over the queue with priorities: Top, Turn. No condition but those named. -/
namespace Go.Proofs.YtaakgpnmfkmdoaaGreatDoor
set_option linter.unusedVariables false
set_option linter.unusedSimpArgs false
open Go.RowKit

section
variable {F : List Nat} {w u : World} {b mb most : Nat} {D : Nat → Nat} {L : PQ}
theorem prio_Top (h : (prioR b most L).holds F w) : Calls Tryz.prog 260 #[.pointer (some ⟨b, 0, none⟩)] w (fun e w' => e = .returned (.tuple #[.int .i64 (if L = [] then 0 else topP L), .int .i64 (topE L)]) ∧ Mod [] w w') := by
  obtain ⟨mb, D, hf, hA⟩ := prio_view h
  have hT := prio_top hf hA
  by_cases hL : L = []
  · rw [if_pos hL, show topE L = 12 from if_pos hL] at hT
    rw [if_pos hL, show topE L = 12 from if_pos hL]
    clear hA h hf hL
    go_enter Tryz.func260, Tryz.ntmps260
    go_wp2_with (go_at_call 306; refine hT.mono ?_; rintro e w1 ⟨rfl, m1⟩)
    go_ret2
    exact ⟨rfl, m1⟩
  · rw [if_neg hL, show topE L = 0 from if_neg hL] at hT
    rw [if_neg hL, show topE L = 0 from if_neg hL]
    obtain ⟨t1, t2, t3⟩ := topLv_spec hf.1 hL
    have hfr : ∀ w1, Mod [] w w1 → Calls Tryz.prog 258 #[.pointer (some ⟨D (topLv L), 0, none⟩)] w1 (Ret (.tuple #[.int .i64 (topP L), .int .i64 0]) w1) := by
      intro w1 m1
      obtain ⟨F1, h1⟩ := (hA.keep m1).prLvlAt t1
      have := fifo_Front h1
      rwa [show frontV (lvl L (topLv L)) = topP L from t3, show frontE (lvl L (topLv L)) = 0 from if_neg t2] at this
    generalize topP L = x at *
    generalize D (topLv L) = d at *
    clear hA h hf hL t1 t2 t3
    go_enter Tryz.func260, Tryz.ntmps260
    go_wp2_with (first
      | (go_at_call 306; refine hT.mono ?_; rintro e w1 ⟨rfl, m1⟩)
      | (go_at_call 258; refine (hfr _ m1).mono ?_; rintro e w2 ⟨rfl, k, rfl⟩))
    go_ret2
    exact ⟨rfl, m1.drewN _⟩
theorem turn_lvl {L : PQ} (hok : L.ok) (hL : L ≠ []) (q : Nat) : lvl (turnP L) q = if q = topLv L then (lvl L q).tail ++ [topP L] else lvl L q := by
  obtain ⟨t1, t2, t3⟩ := topLv_spec hok hL
  have hmem : topP L ∈ lvl L (topLv L) := by
    rw [← t3]
    cases hl : lvl L (topLv L) with
    | nil => exact absurd hl t2
    | cons a l => simp [nth]
  have hp : prioP L (topP L) = some (topLv L) := (prioP_some hok).2 (mem_lvl.1 hmem)
  unfold turnP
  rw [if_neg hL]
  unfold backP
  rw [hp]
  simp only
  rw [lvl_push]
  by_cases e : q = topLv L
  · rw [if_pos e, if_pos e, lvl_out hok hp, if_pos rfl, e]
    congr 1
    cases hl : lvl L (topLv L) with
    | nil => exact absurd hl t2
    | cons a l =>
      rw [hl] at t3
      have : a = topP L := by simpa [nth] using t3
      subst this
      simp
  · rw [if_neg e, if_neg e, lvl_out hok hp, if_neg e]
theorem turn_fine (hf : L.fine most) : (turnP L).fine most ∧ (turnP L).length = L.length ∧ ∀ id, prioP (turnP L) id = prioP L id := by
  by_cases hL : L = []
  · subst hL; exact ⟨hf, rfl, fun _ => rfl⟩
  · obtain ⟨t1, t2, t3⟩ := topLv_spec hf.1 hL
    have hmem : topP L ∈ lvl L (topLv L) := by
      rw [← t3]
      cases hl : lvl L (topLv L) with
      | nil => exact absurd hl t2
      | cons a l => simp [nth]
    have hp : prioP L (topP L) = some (topLv L) := (prioP_some hf.1).2 (mem_lvl.1 hmem)
    have hpos := List.length_pos_iff.2 hL
    have hlen : (turnP L).length = L.length := by
      unfold turnP backP
      rw [if_neg hL, hp]
      simp only
      rw [List.length_append, outP_len hf.1 (by rw [hp]; rfl)]
      simp; omega
    have hok : (turnP L : PQ).ok := by
      unfold turnP backP
      rw [if_neg hL, hp]
      exact push_ok (outP_ok hf.1 _) t1 (by rw [prioP_out, if_pos rfl])
    refine ⟨⟨hok, by rw [hlen]; exact hf.2.1, hf.2.2⟩, hlen, fun id => ?_⟩
    have key := @prioF_push (outP L (topP L)) (topLv L) (topP L) (by rw [prioP_out, if_pos rfl])
    have h2 := congrFun key id
    rw [← prioF_out] at h2
    have h3 : prioF (turnP L) id = prioF L id := by
      have e : turnP L = outP L (topP L) ++ [(topLv L, topP L)] := by unfold turnP backP; rw [if_neg hL, hp]
      rw [e]
      unfold fput fdel numF at h2
      by_cases ei : id = topP L
      · rw [if_pos ei] at h2
        rw [ei]
        unfold prioF
        rw [hp]
        have := (prioP_some (e ▸ hok : PQ.ok (outP L (topP L) ++ [(topLv L, topP L)]))).2 (List.mem_append_right _ (List.mem_singleton.2 rfl))
        rw [this]
      · rw [if_neg ei, if_neg ei] at h2
        have hinj : ∀ a b : Option Int, a.map (Value.int .i64) = b.map (Value.int .i64) → a = b := by
          intro a b hab
          cases a <;> cases b <;> simp_all
        exact (hinj _ _ h2).symm
    unfold prioF at h3
    cases h4 : prioP (turnP L) id <;> cases h5 : prioP L id <;> simp_all <;> omega
theorem prio_Turn (h : (prioR b most L).holds F w) : Calls Tryz.prog 261 #[.pointer (some ⟨b, 0, none⟩)] w (Turns (prioR b most (turnP L)) F (.int .i64 (topE L)) w) := by
  obtain ⟨mb, D, hf, hA⟩ := prio_view h
  have hT := prio_top hf hA
  obtain ⟨f1, f2, f3⟩ := turn_fine hf
  by_cases hL : L = []
  · rw [if_pos hL, show topE L = 12 from if_pos hL] at hT
    rw [show turnP L = L from if_pos hL, show topE L = 12 from if_pos hL]
    clear h hL f1 f2 f3
    have H := Lib.hid hA
    clear hA
    go_enter Tryz.func261, Tryz.ntmps261
    go_wp2_with (go_at_call 306; refine hT.mono ?_; rintro e w1 ⟨rfl, m1⟩)
    go_ret
    exact ⟨rfl, (H.out.keep m1).prio hf⟩
  · rw [if_neg hL, show topE L = 0 from if_neg hL] at hT
    rw [show topE L = 0 from if_neg hL]
    obtain ⟨t1, t2, t3⟩ := topLv_spec hf.1 hL
    have hl := turn_lvl hf.1 hL
    have htn : ∀ w1, Mod [] w w1 → Calls Tryz.prog 307 #[.pointer (some ⟨D (topLv L), 0, none⟩)] w1 (fun e u => e = .returned (.int .i64 0) ∧ On F w (prioL b mb most D (turnP L)) u) := by
      intro w1 m1
      have hq : qPushE most (lvl L (topLv L)).tail (frontV (lvl L (topLv L))) = 0 := by
        unfold qPushE
        have hn := lvl_nodup hf.1 (topLv L)
        have hle := lvl_le (L := L) (topLv L)
        have hlm := hf.2.1
        have hm1 := hf.2.2.1
        cases hl : lvl L (topLv L) with
        | nil => exact absurd hl t2
        | cons a l =>
          rw [hl] at hn hle
          have hni := (List.nodup_cons.1 hn).1
          simp only [List.length_cons] at hle
          rw [if_neg (by simpa [frontV, nth] using hni), if_neg (by simp; omega)]
      have hqs : qTurn most (lvl L (topLv L)) = (lvl L (topLv L)).tail ++ [topP L] := by
        unfold qTurn qPush
        rw [if_neg t2, if_pos hq, show frontV (lvl L (topLv L)) = topP L from t3]
      have := (hA.keep m1).call (2 + topLv L) (R := fifoR (D (topLv L)) most (lvl L (topLv L))) (R' := fifoR (D (topLv L)) most ((lvl L (topLv L)).tail ++ [topP L])) (v := .int .i64 0) (prio_get t1) (fun F1 h1 => by
        have := fifo_Turn h1
        rwa [if_neg t2, hq, hqs] at this)
      have e := prio_set (b := b) (mb := mb) (most := most) (D := D) (L := L) (L' := turnP L) (n' := L.length) f2.symm (g := numF (prioF L)) (by congr 1; funext id; unfold prioF; rw [f3]) t1 (l' := (lvl L (topLv L)).tail ++ [topP L]) (by rw [hl, if_pos rfl]) (fun q hq => by rw [hl, if_neg hq])
      have e2 : (prioL b mb most D L).set (2 + topLv L) (fifoR (D (topLv L)) most ((lvl L (topLv L)).tail ++ [topP L])) = prioL b mb most D (turnP L) := e
      rwa [e2] at this
    generalize D (topLv L) = d at *
    clear hA h hL t1 t2 t3 f2 f3 hl
    go_enter Tryz.func261, Tryz.ntmps261
    go_wp2_with (first
      | (go_at_call 306; refine hT.mono ?_; rintro e w1 ⟨rfl, m1⟩)
      | (go_at_call 307; refine (htn _ m1).mono ?_; rintro e w2 ⟨rfl, hC⟩))
    go_ret
    exact ⟨rfl, hC.prio f1⟩
end
end Go.Proofs.YtaakgpnmfkmdoaaGreatDoor

/- The walk over the queue with priorities: List. No condition but those named. -/
namespace Go.Proofs.YtaakgpnmfkmdoaaGreatDoor
set_option linter.unusedVariables false
set_option linter.unusedSimpArgs false
open Go.RowKit
attribute [local go_sem] Oper.semAt_some

/-- A new row of ints was made. -/
def MadeRow (l : List Int) (w : World) (e : Ending) (w' : World) : Prop := ∃ g cap, e = .returned (.slice (rA g) l.length cap) ∧ RAt 3 1 w' g cap l.length (l.map (Value.int .i64)) ∧ Mod [] w w' ∧ ∀ b, b ∈ rF g → w.heap.size ≤ b
def lstP (L : PQ) : Nat → List Int
  | 0 => []
  | i + 1 => lstP L i ++ lvl L (7 - i)
theorem lstP_all (L : PQ) : lstP L 8 = listP L := by simp [lstP, listP, downs]
theorem lvl_sum : ∀ (L : PQ) (i : Nat), (lstP L i).length ≤ L.length * i
  | L, 0 => by simp [lstP]
  | L, i + 1 => by
    have := lvl_sum L i
    have := lvl_le (L := L) (7 - i)
    unfold lstP
    rw [List.length_append, Nat.mul_add, Nat.mul_one]
    omega
theorem operIn_append_run {F : Fence} {n : Nat} {P : Program} {w w' : World} {o : Oper} {a : Act} {K : Act → World → Prop} {Q : Exit → Act → World → Prop}
    (s x : Operand) (t : TypeId) (ho : o.op = .call { callee := .builtin .append, args := #[s, x], argTypes := #[t, t] }) {v u r : Value} (hs : a.eval s = v) (hx : a.eval x = u)
    (hr : (Builtin.append_ #[t, t] o.type #[v, u]).run P w = .ok r w') (h : K (a.put o.dst r) w') : Oper.wpIn F n P o a w K Q := by
  unfold Oper.wpIn
  refine ⟨by simp [Oper.about, ho, resolve, Target.leads, Sem.run_pure], ?_⟩
  rw [Oper.semAt_plain F _ _ (by rw [ho]; intro c hc'; cases hc')]
  simp [execOp, ho, resolve, invoke, builtin, hs, hx, hr, Result.andThen]
  exact h
section
variable {F : List Nat} {w u : World} {b mb most : Nat} {D : Nat → Nat} {L : PQ}
set_option maxRecDepth 100000 in
set_option maxHeartbeats 2000000 in
theorem prio_List (h : (prioR b most L).holds F w) : Calls Tryz.prog 290 #[.pointer (some ⟨b, 0, none⟩)] w (MadeRow (listP L) w) := by
  obtain ⟨mb, D, hf, h⟩ := prio_view h
  have hlen8 : ∀ i, i ≤ 8 → (lstP L i).length < 100000 := by
    intro i hi
    have h1 := lvl_sum L i
    have h2 := hf.2.1
    have h3 := hf.2.2.2
    have h4 : L.length * i ≤ 1024 * 8 := Nat.mul_le_mul (by omega) hi
    omega
  refine (callsIn_wide (n := 4)).1 ?_
  refine callsIn_of_wp_marks Tryz.func290 rfl trivial ?_ rfl
  simp only [Tryz.ntmps290, List.size_toArray, List.length_cons, List.length_nil, Nat.reduceAdd, Nat.reduceSub, Array.replicate_succ, Array.replicate_zero, List.push_toArray, List.append_toArray, List.nil_append, List.cons_append]
  gi_wp2_with (
      refine ⟨trivial, ?_⟩
      gi_at_call 324
      refine (callsIn_wide.2 (prio_down _ _)).mono ?_
      rintro e w1 ⟨rfl, m1, s1, x1⟩
    )
  have z1 : w.heap.size + 1 < w1.heap.size := by simpa using s1
  have M1 : Mod [] w w1 := Mod.trans (S := []) (T := []) ((Mod.refl _ _).alloc _) m1 (by simp)
  have x0 : w1.heap[w.heap.size]? = some (.cells #[.slice none 0 0] 143 (0,0)) := m1.keep (heapNew _ _) (by simp)
  have x3 : w1.heap[w.heap.size + 1]? = some (.cells #[.pointer (some ⟨b, 0, none⟩)] 167 (0,0)) := by simpa using x1
  clear m1 s1 x1
  refine wpIn_rangeFunc_stop (gf := 341) (lb := #[.pointer (some ⟨w.heap.size + 1, 0, none⟩)]) rfl (enters_of Tryz.func341 (by kernel_rfl) rfl) rfl
    8 (fun i => .pointer (some ⟨D (7 - i), 0, none⟩))
    (fun i W => Mod [] w W ∧ w1.heap.size ≤ W.heap.size ∧ W.heap[w.heap.size + 1]? = some (.cells #[.pointer (some ⟨b, 0, none⟩)] 167 (0,0)) ∧ ∃ g cap, W.heap[w.heap.size]? = some (.cells #[.slice (rA g) (lstP L i).length cap] 143 (0,0)) ∧ RAt 3 1 W g cap (lstP L i).length ((lstP L i).map (Value.int .i64)) ∧ ∀ k, k ∈ rF g → w1.heap.size + 2 ≤ k)
    (fun _ _ _ => False)
    ?put ?putx ?i0 ?it ?round ?done ?stop
  case put =>
    rintro i W q o ⟨i1, i2, i3, g, cap, i4, i5, i6⟩ hq
    have hge : w1.heap.size ≤ q := by omega
    have mq := modPutB W q o
    exact ⟨i1.trans mq (by simp; omega), by simpa using i2, mq.keep i3 (by simp; omega), g, cap, mq.keep i4 (by simp; omega), i5.keep mq (fun k hk => by have := i6 k hk; simp; omega), i6⟩
  case putx => exact fun _ _ _ _ _ h _ => h
  case i0 =>
    intro o1 o2
    have m2 : Mod [] w1 ((w1.alloc o1).alloc o2) := ((Mod.refl _ _).alloc _).alloc _
    exact ⟨M1.trans m2 (by simp), m2.size, m2.keep x3 (by simp), none, 0, m2.keep x0 (by simp), RAt.nil _ _ _, by simp [rF]⟩
  case it =>
    intro l J Jx W hJ hY h0
    exact prio_down1 l (w.heap.size + 1) b D J Jx W (fun i W h1 => ⟨cellAt (hJ i W h1).2.2.1 0, fun p hp => (h.keep (hJ i W h1).1).prLvl hp⟩) hY h0
  case round =>
    rintro l i W ⟨i1, i2, i3, g, cap, i4, i5, i6⟩ hi hlt
    gi_wp2
    refine ⟨Mod.refl _ _, fun o => ?_⟩
    have mq := modPutB W (w1.heap.size + 1) o
    have j1 : Mod [] w (W.putObj (w1.heap.size + 1) o) := i1.trans mq (by simp; omega)
    have j3 := mq.keep i3 (by simp; omega)
    have j4 := mq.keep i4 (by simp; omega)
    have j5 := i5.keep mq (fun k hk => by have := i6 k hk; simp; omega)
    have hA := h.keep j1
    have hsz : w1.heap.size ≤ (W.putObj (w1.heap.size + 1) o).heap.size := by simpa using i2
    have hlt2 : w1.heap.size + 1 < (W.putObj (w1.heap.size + 1) o).heap.size := by simpa using hlt
    clear mq i1 i3 i4 i5
    have hk0 : (W.putObj (w1.heap.size + 1) o).heap[w1.heap.size]? = W.heap[w1.heap.size]? := World.putObj_heap_other (by omega)
    rw [← hk0]
    clear hk0
    generalize W.putObj (w1.heap.size + 1) o = W2 at *
    have hL : ∀ k, Calls Tryz.prog 239 #[.pointer (some ⟨D (7 - i), 0, none⟩)] (W2.drewN k) _ := fun k => by
      obtain ⟨F1, hL⟩ := (hA.keep (u' := W2.drewN k) ((Mod.refl _ _).drewN k)).prLvlAt (p := 7 - i) (by omega)
      exact fifo_List hL
    have c0 : W2.cell? ⟨w.heap.size, 0, none⟩ = some (.slice (rA g) (lstP L i).length cap) := cellAt j4 0
    have f0 : W2.frozen? ⟨w.heap.size, 0, none⟩ = false := freeAt j4 0
    have s0 := ltOf j4
    clear hA
    have hn := hlen8 i (by omega)
    have hS : (lstP L (i + 1)) = lstP L i ++ lvl L (7 - i) := rfl
    have hlv := lvl_le (L := L) (7 - i)
    have hlm := hf.2.1
    have hlx := hf.2.2.2
    generalize hl : lvl L (7 - i) = lv at *
    generalize hls : lstP L i = ls at *
    gi_wp2
    obtain ⟨j0, hi0, hi2⟩ := Option.map_eq_some_iff.1 infoInt
    simp only [Prod.mk.injEq] at hi2
    obtain ⟨y1, y2, y3⟩ := hi2
    have happ : ∀ (w' : World) (a : Option Addr) (c : Nat), Mod [] W2 w' → (lv = [] ∧ a = none ∧ c = 0 ∨ c = lv.length ∧ a = some ⟨W2.heap.size, 0, none⟩ ∧ w'.heap[W2.heap.size]? = some (ringObj lv)) →
        ∃ g' cap' w3, (∀ ty, (Builtin.append_ #[143, 143] ty #[.slice (rA g) ls.length cap, .slice a lv.length c]).run Tryz.prog w' = .ok (.slice (rA g') (ls.length + lv.length) cap') w3) ∧
          RAt 3 1 w3 g' cap' (ls ++ lv).length ((ls ++ lv).map (Value.int .i64)) ∧ Mod (rF g) W2 w3 ∧ ∀ k, k ∈ rF g' → w1.heap.size + 2 ≤ k := by
      intro w' a c m' hs
      have hsrc : SrcAt w' 1 a lv.length (lv.map (Value.int .i64)) := by
        refine ⟨by simp, by intro u hu; obtain ⟨x, _, rfl⟩ := List.mem_map.1 hu; simp [Value.oneCell'], ?_⟩
        rcases hs with ⟨h1, h2, _⟩ | ⟨_, h2, h3⟩
        · left; exact ⟨h2, by rw [h1]; rfl⟩
        · right
          refine ⟨_, _, h2, fun j u hj => ?_⟩
          rw [Nat.zero_add, cellAt h3 j]
          have hlt : j < lv.length := by have := (List.getElem?_eq_some_iff.1 hj).1; simpa using this
          rw [rowI_get hlt]
          rw [List.getElem?_map, List.getElem?_eq_getElem hlt] at hj
          simp at hj
          rw [← hj]
          simp [nth, List.getD, hlt]
      obtain ⟨g', cap', w3, r1, r2, r3, r4⟩ := (j5.keep m' (by simp)).appendSrc (P := Tryz.prog) (tt := 143) Tryz.underlying143 hi0 y1 y2 y3 rfl (by omega) (by omega) hsrc (by omega) (fun e => by
        rcases hs with ⟨_, _, h⟩ | ⟨_, h2, _⟩
        · exact h
        · rw [h2] at e; cases e)
      have hms := m'.size
      refine ⟨g', cap', w3, r1, by simpa using r2, Mod.trans (S := rF g) (T := rF g) (m'.mono (by simp)) r3 (fun k hk => .inl hk), fun k hk => ?_⟩
      rcases r4 k hk with h | h
      · exact i6 k h
      · omega
    refine wpIn_region_any (by kernel_rfl) ?_
    try (change wpAnyIn _ _ _ _ _ _ _ _ _ (World.drew _))
    refine wpAnyIn_ready (rs := [0, 1]) (by kernel_rfl) (by simp) ?_
    refine AllReadyIn.cons rfl (fun K hK => ?_) (AllReadyIn.cons rfl (fun K hK => ?_) AllReadyIn.nil)
    · rw [if_pos (by rfl)]
      go_simp
      refine hK _ _ ?_
      clear hK K
      refine wpAnyIn_ready (rs := [1]) (by kernel_rfl) (by simp) ?_
      refine AllReadyIn.cons rfl (fun K hK => ?_) AllReadyIn.nil
      rw [if_pos (by rfl)]
      go_simp
      refine hK _ _ ?_
      clear hK K
      refine wpAnyIn_ready (rs := [2]) (by kernel_rfl) (by simp) ?_
      refine AllReadyIn.cons rfl (fun K hK => ?_) AllReadyIn.nil
      rw [if_pos (by rfl)]
      go_simp
      refine ⟨trivial, ?_⟩
      gi_at_call 239
      refine (CallsIn.inRound l (callsIn_wide.2 (hL 1))).mono ?_
      rintro e w' ⟨a, c, rfl, m', hs⟩
      refine hK _ _ ?_
      clear hK K
      have d4 := m'.keep j4 (by simp)
      have d0 : w'.cell? ⟨w.heap.size, 0, none⟩ = some (.slice (rA g) ls.length cap) := cellAt d4 0
      obtain ⟨g', cap', w3, hrun, r2, r3, r4⟩ := happ w' a c m'.undrewN hs
      refine wpAnyIn_ready (rs := [3]) (by kernel_rfl) (by simp) ?_
      refine AllReadyIn.cons rfl (fun K hK => ?_) AllReadyIn.nil
      rw [if_pos (by rfl)]
      refine operIn_append_run _ _ _ rfl (by first | rfl | (go_simp; rfl)) (by first | rfl | (go_simp; rfl)) (hrun _) ?_
      refine hK _ _ ?_
      clear hK K
      have q4 := r3.keep j4 (fun hk => by have := i6 _ hk; omega)
      have k0 := freeAt q4 0
      have k1 : w3.cell? ⟨w.heap.size, 0, none⟩ = some (.slice (rA g) ls.length cap) := cellAt q4 0
      have k2 := ltOf q4
      refine wpAnyIn_ready (rs := [4]) (by kernel_rfl) (by simp) ?_
      refine AllReadyIn.cons rfl (fun K hK => ?_) AllReadyIn.nil
      rw [if_pos (by rfl)]
      go_simp
      refine hK _ _ ?_
      clear hK K
      refine wpAnyIn_done (by kernel_rfl) ?_ _
      have mC : Mod (w.heap.size :: rF g) W2 (w3.setCell ⟨w.heap.size, 0, none⟩ (.slice (rA g') (ls.length + lv.length) cap')) := (r3.mono (fun k hk => .inl (List.mem_cons_of_mem _ hk))).setCell (by simp) _
      have hni : ∀ k, k ≠ w.heap.size → k < w1.heap.size + 2 → k ∉ w.heap.size :: rF g := by
        intro k h1 h2 h3
        rcases List.mem_cons.1 h3 with h3 | h3
        · exact h1 h3
        · have := i6 _ h3; omega
      have hfin : (w3.setCell ⟨w.heap.size, 0, none⟩ (.slice (rA g') (ls.length + lv.length) cap')).heap[w.heap.size]? = some (.cells #[.slice (rA g') (ls.length + lv.length) cap'] 143 (0,0)) := heapSet q4 0 _
      have hrow := r2.keep ((Mod.refl [w.heap.size] w3).setCell (p := ⟨w.heap.size, 0, none⟩) (by simp) (.slice (rA g') (ls.length + lv.length) cap')) (fun k hk => by have := r4 k hk; simp; omega)
      exact ⟨mC.block _ (by omega) (hni _ (by omega) (by omega)), mC.block _ (by omega) (hni _ (by omega) (by omega)), j1.trans mC (fun k hk => by
          rcases List.mem_cons.1 hk with hk | hk
          · right; omega
          · right; have := i6 _ hk; omega), by have := mC.size; omega, mC.keep j3 (hni _ (by omega) (by omega)), g', cap', by rw [hS, List.length_append]; exact hfin, by rw [hS]; exact hrow, r4⟩
    · rw [if_pos (by rfl)]
      go_simp
      refine hK _ _ ?_
      clear hK K
      refine wpAnyIn_ready (rs := [0, 2]) (by kernel_rfl) (by simp) ?_
      refine AllReadyIn.cons rfl (fun K hK => ?_) (AllReadyIn.cons rfl (fun K hK => ?_) AllReadyIn.nil)
      · rw [if_pos (by rfl)]
        go_simp
        refine hK _ _ ?_
        clear hK K
        refine wpAnyIn_ready (rs := [2]) (by kernel_rfl) (by simp) ?_
        refine AllReadyIn.cons rfl (fun K hK => ?_) AllReadyIn.nil
        rw [if_pos (by rfl)]
        go_simp
        refine ⟨trivial, ?_⟩
        gi_at_call 239
        refine (CallsIn.inRound l (callsIn_wide.2 (hL 1))).mono ?_
        rintro e w' ⟨a, c, rfl, m', hs⟩
        refine hK _ _ ?_
        clear hK K
        have d4 := m'.keep j4 (by simp)
        have d0 : w'.cell? ⟨w.heap.size, 0, none⟩ = some (.slice (rA g) ls.length cap) := cellAt d4 0
        obtain ⟨g', cap', w3, hrun, r2, r3, r4⟩ := happ w' a c m'.undrewN hs
        refine wpAnyIn_ready (rs := [3]) (by kernel_rfl) (by simp) ?_
        refine AllReadyIn.cons rfl (fun K hK => ?_) AllReadyIn.nil
        rw [if_pos (by rfl)]
        refine operIn_append_run _ _ _ rfl (by first | rfl | (go_simp; rfl)) (by first | rfl | (go_simp; rfl)) (hrun _) ?_
        refine hK _ _ ?_
        clear hK K
        have q4 := r3.keep j4 (fun hk => by have := i6 _ hk; omega)
        have k0 := freeAt q4 0
        have k1 : w3.cell? ⟨w.heap.size, 0, none⟩ = some (.slice (rA g) ls.length cap) := cellAt q4 0
        have k2 := ltOf q4
        refine wpAnyIn_ready (rs := [4]) (by kernel_rfl) (by simp) ?_
        refine AllReadyIn.cons rfl (fun K hK => ?_) AllReadyIn.nil
        rw [if_pos (by rfl)]
        go_simp
        refine hK _ _ ?_
        clear hK K
        refine wpAnyIn_done (by kernel_rfl) ?_ _
        have mC : Mod (w.heap.size :: rF g) W2 (w3.setCell ⟨w.heap.size, 0, none⟩ (.slice (rA g') (ls.length + lv.length) cap')) := (r3.mono (fun k hk => .inl (List.mem_cons_of_mem _ hk))).setCell (by simp) _
        have hni : ∀ k, k ≠ w.heap.size → k < w1.heap.size + 2 → k ∉ w.heap.size :: rF g := by
          intro k h1 h2 h3
          rcases List.mem_cons.1 h3 with h3 | h3
          · exact h1 h3
          · have := i6 _ h3; omega
        have hfin : (w3.setCell ⟨w.heap.size, 0, none⟩ (.slice (rA g') (ls.length + lv.length) cap')).heap[w.heap.size]? = some (.cells #[.slice (rA g') (ls.length + lv.length) cap'] 143 (0,0)) := heapSet q4 0 _
        have hrow := r2.keep ((Mod.refl [w.heap.size] w3).setCell (p := ⟨w.heap.size, 0, none⟩) (by simp) (.slice (rA g') (ls.length + lv.length) cap')) (fun k hk => by have := r4 k hk; simp; omega)
        exact ⟨mC.block _ (by omega) (hni _ (by omega) (by omega)), mC.block _ (by omega) (hni _ (by omega) (by omega)), j1.trans mC (fun k hk => by
            rcases List.mem_cons.1 hk with hk | hk
            · right; omega
            · right; have := i6 _ hk; omega), by have := mC.size; omega, mC.keep j3 (hni _ (by omega) (by omega)), g', cap', by rw [hS, List.length_append]; exact hfin, by rw [hS]; exact hrow, r4⟩
      · rw [if_pos (by rfl)]
        go_simp
        refine ⟨trivial, ?_⟩
        gi_at_call 239
        refine (CallsIn.inRound l (callsIn_wide.2 (hL 1))).mono ?_
        rintro e w' ⟨a, c, rfl, m', hs⟩
        refine hK _ _ ?_
        clear hK K
        have d4 := m'.keep j4 (by simp)
        have d0 : w'.cell? ⟨w.heap.size, 0, none⟩ = some (.slice (rA g) ls.length cap) := cellAt d4 0
        obtain ⟨g', cap', w3, hrun, r2, r3, r4⟩ := happ w' a c m'.undrewN hs
        refine wpAnyIn_ready (rs := [0]) (by kernel_rfl) (by simp) ?_
        refine AllReadyIn.cons rfl (fun K hK => ?_) AllReadyIn.nil
        rw [if_pos (by rfl)]
        go_simp
        refine hK _ _ ?_
        clear hK K
        refine wpAnyIn_ready (rs := [3]) (by kernel_rfl) (by simp) ?_
        refine AllReadyIn.cons rfl (fun K hK => ?_) AllReadyIn.nil
        rw [if_pos (by rfl)]
        refine operIn_append_run _ _ _ rfl (by first | rfl | (go_simp; rfl)) (by first | rfl | (go_simp; rfl)) (hrun _) ?_
        refine hK _ _ ?_
        clear hK K
        have q4 := r3.keep j4 (fun hk => by have := i6 _ hk; omega)
        have k0 := freeAt q4 0
        have k1 : w3.cell? ⟨w.heap.size, 0, none⟩ = some (.slice (rA g) ls.length cap) := cellAt q4 0
        have k2 := ltOf q4
        refine wpAnyIn_ready (rs := [4]) (by kernel_rfl) (by simp) ?_
        refine AllReadyIn.cons rfl (fun K hK => ?_) AllReadyIn.nil
        rw [if_pos (by rfl)]
        go_simp
        refine hK _ _ ?_
        clear hK K
        refine wpAnyIn_done (by kernel_rfl) ?_ _
        have mC : Mod (w.heap.size :: rF g) W2 (w3.setCell ⟨w.heap.size, 0, none⟩ (.slice (rA g') (ls.length + lv.length) cap')) := (r3.mono (fun k hk => .inl (List.mem_cons_of_mem _ hk))).setCell (by simp) _
        have hni : ∀ k, k ≠ w.heap.size → k < w1.heap.size + 2 → k ∉ w.heap.size :: rF g := by
          intro k h1 h2 h3
          rcases List.mem_cons.1 h3 with h3 | h3
          · exact h1 h3
          · have := i6 _ h3; omega
        have hfin : (w3.setCell ⟨w.heap.size, 0, none⟩ (.slice (rA g') (ls.length + lv.length) cap')).heap[w.heap.size]? = some (.cells #[.slice (rA g') (ls.length + lv.length) cap'] 143 (0,0)) := heapSet q4 0 _
        have hrow := r2.keep ((Mod.refl [w.heap.size] w3).setCell (p := ⟨w.heap.size, 0, none⟩) (by simp) (.slice (rA g') (ls.length + lv.length) cap')) (fun k hk => by have := r4 k hk; simp; omega)
        exact ⟨mC.block _ (by omega) (hni _ (by omega) (by omega)), mC.block _ (by omega) (hni _ (by omega) (by omega)), j1.trans mC (fun k hk => by
            rcases List.mem_cons.1 hk with hk | hk
            · right; omega
            · right; have := i6 _ hk; omega), by have := mC.size; omega, mC.keep j3 (hni _ (by omega) (by omega)), g', cap', by rw [hS, List.length_append]; exact hfin, by rw [hS]; exact hrow, r4⟩
  case done =>
    rintro W ⟨i1, i2, i3, g, cap, i4, i5, i6⟩ hK
    rw [lstP_all] at i4 i5
    have c0 : W.cell? ⟨w.heap.size, 0, none⟩ = some (.slice (rA g) (listP L).length cap) := cellAt i4 0
    gi_wp2
    refine ⟨by simp, .inl ⟨_, _, rfl, run_takeDeferred hK, ?_⟩⟩
    have mP := modPutB W w1.heap.size (.deferred none)
    refine ⟨_, results_tmp rfl _ _ _, g, cap, rfl, i5.keep mP (fun k hk => by have := i6 k hk; simp; omega), i1.trans mP (by simp; omega), fun k hk => by have := i6 k hk; omega⟩
  case stop => exact fun _ _ _ _ h _ => h.elim
end
end Go.Proofs.YtaakgpnmfkmdoaaGreatDoor

/- Queues of cores (package runq) in memory; the walks over may, of, Load, List, Put, Take, Back, Pick. No condition but those named. -/
namespace Go.Proofs.YtaakgpnmfkmdoaaGreatDoor
set_option linter.unusedVariables false
set_option linter.unusedSimpArgs false
open Go.RowKit

/-- A new slice of ints. -/
def NewL (l : List Int) (w : World) (e : Ending) (w' : World) : Prop := ∃ a c, e = .returned (.slice a l.length c) ∧ Mod [] w w' ∧ IsInts w' a l ∧ IsNew w a
theorem MadeInts.newL {l : List Int} {w : World} {e : Ending} {w' : World} (h : MadeInts l w e w') : NewL l w e w' := by
  obtain ⟨g, cap, rfl, h1, h2, h3⟩ := h
  refine ⟨_, _, rfl, h2, h1.ints, fun b o e => ?_⟩
  cases g with
  | none => cases e
  | some g => cases e; exact h3 _ (by simp [lF])
theorem MadeRow.newL {l : List Int} {w : World} {e : Ending} {w' : World} (h : MadeRow l w e w') : NewL l w e w' := by
  obtain ⟨g, cap, rfl, h1, h2, h3⟩ := h
  refine ⟨_, _, rfl, h2, ?_, fun b o e => ?_⟩
  · by_cases hl : l = []
    · exact .inl hl
    · right
      have h0 : 0 < l.length := List.length_pos_iff.2 hl
      obtain ⟨b, rfl, _⟩ := h1.cell (j := 0) (v := .int .i64 (nth l 0)) (by simp [nth, List.getD, h0])
      refine ⟨b, rfl, h1.lt b (by simp [rF]), fun j hj => ?_⟩
      obtain ⟨b', e, h5⟩ := h1.cell (j := j) (v := .int .i64 (nth l j)) (by simp [nth, List.getD, hj])
      cases e
      exact h5
  · cases g with
    | none => cases e
    | some g => cases e; exact h3 _ (by simp [rF])
theorem back_fine {most : Nat} {L : PQ} (hf : L.fine most) (id : Int) : PQ.fine most (backP L id) ∧ (backP L id).length = L.length ∧ ∀ j, prioP (backP L id) j = prioP L j := by
  unfold backP
  cases hp : prioP L id with
  | none => exact ⟨hf, rfl, fun _ => rfl⟩
  | some p =>
    simp only
    have hp8 : p < 8 := hf.1.lt _ ((prioP_some hf.1).1 hp)
    have hpos : 0 < L.length := by
      cases L with
      | nil => simp [prioP] at hp
      | cons _ _ => simp
    have hlen : (outP L id ++ [(p, id)]).length = L.length := by
      rw [List.length_append, outP_len hf.1 (by rw [hp]; rfl)]
      simp; omega
    have hok : PQ.ok (outP L id ++ [(p, id)]) := push_ok (outP_ok hf.1 _) hp8 (by rw [prioP_out, if_pos rfl])
    refine ⟨⟨hok, by rw [hlen]; exact hf.2.1, hf.2.2⟩, hlen, fun j => ?_⟩
    apply Option.ext
    intro x
    rw [prioP_some hok, prioP_some hf.1, List.mem_append, List.mem_singleton]
    unfold outP
    rw [List.mem_filter]
    constructor
    · rintro (⟨h, _⟩ | h)
      · exact h
      · cases h; exact (prioP_some hf.1).1 hp
    · intro h
      by_cases e : j = id
      · subst e
        right
        have := (prioP_some hf.1).2 h
        rw [hp] at this
        cases this; rfl
      · exact .inl ⟨h, by simpa using e⟩

/-- No id in two queues. -/
structure RQ.ok (r : RQ) : Prop where
  n1 : 1 ≤ r.n
  n2 : r.n ≤ 64
  fine : ∀ c, (r.q c).fine 32
  uniq : ∀ c d id, c < r.n → d < r.n → (prioP (r.q c) id).isSome = true → (prioP (r.q d) id).isSome = true → c = d
theorem RQ.whr_some {r : RQ} (h : r.ok) {id : Int} {c : Nat} : r.whr id = some c ↔ c < r.n ∧ (prioP (r.q c) id).isSome = true := by
  unfold RQ.whr
  constructor
  · intro hh
    have h2 := List.find?_some hh
    exact ⟨List.mem_range.1 (List.mem_of_find?_eq_some hh), by simpa using h2⟩
  · rintro ⟨h1, h2⟩
    cases hf : (List.range r.n).find? fun c => (prioP (r.q c) id).isSome with
    | none =>
      have := List.find?_eq_none.1 hf c (List.mem_range.2 h1)
      rw [h2] at this; exact absurd rfl this
    | some d =>
      have h3 := List.find?_some hf
      have h4 := List.mem_range.1 (List.mem_of_find?_eq_some hf)
      rw [h.uniq c d id h1 h4 h2 (by simpa using h3)]
theorem RQ.whr_none {r : RQ} {id : Int} : r.whr id = none ↔ ∀ c, c < r.n → prioP (r.q c) id = none := by
  unfold RQ.whr
  rw [List.find?_eq_none]
  constructor
  · intro h c hc
    have := h c (List.mem_range.2 hc)
    cases hp : prioP (r.q c) id with
    | none => rfl
    | some v => rw [hp] at this; simp at this
  · intro h c hc
    rw [h c (List.mem_range.1 hc)]; simp
def RQ.whrI (r : RQ) : Int → Option Int := fun id => Option.map (fun c : Nat => (c : Int)) (r.whr id)
theorem RQ.put_same {r : RQ} (h : r.ok) {c : Nat} (hc : c < r.n) {L : PQ} (hL : L.fine 32) (hs : ∀ j, prioP L j = prioP (r.q c) j) : (r.putQ c L).ok ∧ (r.putQ c L).whrI = r.whrI := by
  have hq : ∀ d j, prioP ((r.putQ c L).q d) j = prioP (r.q d) j := by
    intro d j
    show prioP (gupd r.q c L d) j = _
    by_cases e : d = c
    · subst e; rw [gupd_same]; exact hs j
    · rw [gupd_ne _ _ e]
  have hok : (r.putQ c L).ok := by
    refine ⟨h.n1, h.n2, fun d => ?_, fun d e id hd he h1 h2 => ?_⟩
    · show (gupd r.q c L d).fine 32
      by_cases e : d = c
      · subst e; rw [gupd_same]; exact hL
      · rw [gupd_ne _ _ e]; exact h.fine d
    · rw [hq] at h1 h2; exact h.uniq d e id hd he h1 h2
  refine ⟨hok, ?_⟩
  funext id
  unfold RQ.whrI
  congr 1
  apply Option.ext
  intro d
  rw [RQ.whr_some hok, RQ.whr_some h, hq]
  exact Iff.rfl
theorem RQ.put_new {r : RQ} (h : r.ok) {c : Nat} (hc : c < r.n) {p : Nat} {id : Int} (hw : r.whr id = none) (hp : p < 8) (hl : (r.q c).length < 32) : (r.putQ c (r.q c ++ [(p, id)])).ok ∧ (r.putQ c (r.q c ++ [(p, id)])).whrI = oput r.whrI id (c : Int) := by
  have hn := RQ.whr_none.1 hw
  have hq : ∀ d j, d < r.n → (prioP ((r.putQ c (r.q c ++ [(p, id)])).q d) j).isSome = if d = c ∧ j = id then true else (prioP (r.q d) j).isSome := by
    intro d j hd
    show (prioP (gupd r.q c _ d) j).isSome = _
    by_cases e : d = c
    · subst e
      rw [gupd_same]
      unfold prioP
      rw [List.find?_append]
      by_cases ej : j = id
      · subst ej
        simp
      · have : ([(p, id)] : PQ).find? (fun x => decide (x.2 = j)) = none := by simp; exact fun q => ej q.symm
        rw [this]
        simp [ej]
    · rw [gupd_ne _ _ e]; simp [e]
  have hok : (r.putQ c (r.q c ++ [(p, id)])).ok := by
    refine ⟨h.n1, h.n2, fun d => ?_, fun d e j hd he h1 h2 => ?_⟩
    · show (gupd r.q c _ d).fine 32
      by_cases e : d = c
      · subst e; rw [gupd_same]; exact ⟨push_ok (h.fine d).1 hp (hn d hc), by simp; omega, (h.fine d).2.2⟩
      · rw [gupd_ne _ _ e]; exact h.fine d
    · have hd2 : d < r.n := hd
      have he2 : e < r.n := he
      rw [hq _ _ hd2] at h1
      rw [hq _ _ he2] at h2
      by_cases ej : j = id
      · subst ej
        rw [hn d hd2] at h1
        rw [hn e he2] at h2
        simp at h1 h2
        rw [h1, h2]
      · simp [ej] at h1 h2
        exact h.uniq d e j hd2 he2 h1 h2
  refine ⟨hok, ?_⟩
  funext j
  unfold RQ.whrI oput
  by_cases ej : j = id
  · subst ej
    rw [if_pos rfl, (RQ.whr_some hok (c := c)).2 ⟨hc, by rw [hq _ _ hc]; simp⟩]
    rfl
  · rw [if_neg ej]
    congr 1
    apply Option.ext
    intro d
    rw [RQ.whr_some hok, RQ.whr_some h]
    constructor
    · rintro ⟨h1, h2⟩
      have h1' : d < r.n := h1
      rw [hq _ _ h1'] at h2
      exact ⟨h1', by simpa [ej] using h2⟩
    · rintro ⟨h1, h2⟩
      exact ⟨h1, by rw [hq _ _ h1]; simp [ej, h2]⟩
theorem RQ.put_out {r : RQ} (h : r.ok) {c : Nat} {id : Int} (hw : r.whr id = some c) : (r.putQ c (outP (r.q c) id)).ok ∧ (r.putQ c (outP (r.q c) id)).whrI = odel r.whrI id := by
  obtain ⟨hc, hs⟩ := (RQ.whr_some h).1 hw
  have hq : ∀ d j, d < r.n → (prioP ((r.putQ c (outP (r.q c) id)).q d) j).isSome = if j = id then false else (prioP (r.q d) j).isSome := by
    intro d j hd
    show (prioP (gupd r.q c _ d) j).isSome = _
    by_cases e : d = c
    · subst e
      rw [gupd_same, prioP_out]
      split <;> rfl
    · rw [gupd_ne _ _ e]
      by_cases ej : j = id
      · subst ej
        rw [if_pos rfl]
        cases hp : (prioP (r.q d) j).isSome with
        | false => rfl
        | true => exact absurd (h.uniq d c j hd hc hp hs) e
      · rw [if_neg ej]
  have hok : (r.putQ c (outP (r.q c) id)).ok := by
    refine ⟨h.n1, h.n2, fun d => ?_, fun d e j hd he h1 h2 => ?_⟩
    · show (gupd r.q c _ d).fine 32
      by_cases e : d = c
      · subst e; rw [gupd_same]; exact ⟨outP_ok (h.fine d).1 id, Nat.le_trans (List.length_filter_le _ _) (h.fine d).2.1, (h.fine d).2.2⟩
      · rw [gupd_ne _ _ e]; exact h.fine d
    · have hd2 : d < r.n := hd
      have he2 : e < r.n := he
      rw [hq _ _ hd2] at h1
      rw [hq _ _ he2] at h2
      by_cases ej : j = id
      · simp [ej] at h1
      · simp [ej] at h1 h2
        exact h.uniq d e j hd2 he2 h1 h2
  refine ⟨hok, ?_⟩
  funext j
  unfold RQ.whrI odel
  by_cases ej : j = id
  · subst ej
    rw [if_pos rfl]
    have : (r.putQ c (outP (r.q c) j)).whr j = none := by
      rw [RQ.whr_none]
      intro d hd
      have hd2 : d < r.n := hd
      have := hq d j hd2
      rw [if_pos rfl] at this
      cases hp : prioP ((r.putQ c (outP (r.q c) j)).q d) j with
      | none => rfl
      | some v => rw [hp] at this; cases this
    rw [this]; rfl
  · rw [if_neg ej]
    congr 1
    apply Option.ext
    intro d
    rw [RQ.whr_some hok, RQ.whr_some h]
    constructor
    · rintro ⟨h1, h2⟩
      have h1' : d < r.n := h1
      rw [hq _ _ h1', if_neg ej] at h2
      exact ⟨h1', h2⟩
    · rintro ⟨h1, h2⟩
      exact ⟨h1, by rw [hq _ _ h1, if_neg ej]; exact h2⟩

def runqL (b : Nat) (g : Option Nat) (cap wb cnt : Nat) (f : Int → Option Int) (D : Nat → Nat) (n : Nat) (q : Nat → PQ) : List Res :=
  [Res.blk b (.cells #[.slice (rA g) n cap, .map (some wb)] 166 (0,0)), fmapR wb cnt (numF f)] ++ famL 167 g cap n D (fun c => prioR (D c) 32 (q c)) ++ []
structure RqP where
  g : Option Nat
  cap : Nat
  wb : Nat
  cnt : Nat
  D : Nat → Nat
def runqR (b : Nat) (r : RQ) : Res := Res.such r.ok (Res.ex fun p : RqP => Res.star (runqL b p.g p.cap p.wb p.cnt r.whrI p.D r.n r.q))
section
variable {F : List Nat} {w u : World} {b : Nat} {g : Option Nat} {cap wb cnt : Nat} {f : Int → Option Int} {D : Nat → Nat} {n : Nat} {q : Nat → PQ} {r : RQ}
theorem runq_view (h : (runqR b r).holds F w) : r.ok ∧ ∃ g cap wb cnt D, On F w (runqL b g cap wb cnt r.whrI D r.n r.q) w := by
  obtain ⟨h1, p, h2⟩ := h
  exact ⟨h1, p.g, p.cap, p.wb, p.cnt, p.D, On.of h2⟩
theorem On.runq (h : On F w (runqL b g cap wb cnt f D n q) u) {r : RQ} (hok : r.ok) (hn : r.n = n) (hq : r.q = q) (hf : f = r.whrI) : Gain (runqR b r) F w u := by
  subst hn hq hf
  exact h.gains.imp fun F' h' => ⟨hok, ⟨g, cap, wb, cnt, D⟩, h'⟩
theorem On.rqC (h : On F w (runqL b g cap wb cnt f D n q) u) : u.cell? ⟨b, 0, none⟩ = some (.slice (rA g) n cap) ∧ u.cell? ⟨b, 1, none⟩ = some (.map (some wb)) ∧ n ≤ cap ∧ cap ≤ maxLen :=
  ⟨h.cell 0 rfl 0, h.cell 0 rfl 1, h.famCap (k := 2) rfl⟩
theorem On.rqPtr (h : On F w (runqL b g cap wb cnt f D n q) u) {c : Nat} (hc : c < n) : ∃ gb, g = some gb ∧ u.cell? ⟨gb, c, none⟩ = some (.pointer (some ⟨D c, 0, none⟩)) := h.famPtr (k := 2) rfl hc
theorem On.rqHas (h : On F w (runqL b g cap wb cnt f D n q) u) {c : Nat} (hc : c < n) : ∃ F1, (prioR (D c) 32 (q c)).holds F1 u := h.famHas (k := 2) rfl hc
theorem On.rqDo {P : Program} {fn : FuncId} {args : Array Value} {v : Value} {L : PQ} (h : On F w (runqL b g cap wb cnt f D n q) u) {c : Nat} (hc : c < n) (hh : ∀ F1, (prioR (D c) 32 (q c)).holds F1 u → Calls P fn args u (Turns (prioR (D c) 32 L) F1 v u)) :
    Calls P fn args u (fun e u' => e = .returned v ∧ On F w (runqL b g cap wb cnt f D n (gupd q c L)) u') := by
  have := h.famDo (k := 2) rfl hc hh
  have e : gupd (fun c => prioR (D c) 32 (q c)) c (prioR (D c) 32 L) = fun i => prioR (D i) 32 (gupd q c L i) := by
    funext i
    by_cases e : i = c
    · subst e; rw [gupd_same, gupd_same]
    · rw [gupd_ne _ _ e, gupd_ne _ _ e]
  rw [e] at this
  exact this
theorem On.rqPut (h : On F w (runqL b g cap wb cnt f D n q) u) (id v : Int) : ∃ w1 cnt', (Instr.mapUpdate 82 (.map (some wb)) (.int .i64 id) (.int .i64 v)).run Tryz.prog u = .ok () w1 ∧ On F w (runqL b g cap wb cnt' (oput f id v) D n q) w1 := by
  obtain ⟨w1, h1, h2⟩ := h.fmPut (P := Tryz.prog) 1 rfl Tryz.underlying82 Tryz.underlying3 id (.int .i64 v)
  rw [numF_put] at h2
  exact ⟨w1, _, h1, h2⟩
theorem On.rqDel (h : On F w (runqL b g cap wb cnt f D n q) u) (id : Int) : ∃ w1 cnt', (∀ ty, (Builtin.delete_ #[82, 3] ty #[.map (some wb), .int .i64 id]).run Tryz.prog u = .ok (.tuple #[]) w1) ∧ On F w (runqL b g cap wb cnt' (odel f id) D n q) w1 := by
  obtain ⟨w1, h1, h2⟩ := h.fmDel (P := Tryz.prog) 1 rfl Tryz.underlying82 Tryz.underlying3 id
  rw [numF_del] at h2
  exact ⟨w1, _, h1, h2⟩
theorem On.rqLook (h : On F w (runqL b g cap wb cnt f D n q) u) (id : Int) : (Instr.lookup 82 (.map (some wb)) (.int .i64 id) true).run Tryz.prog u = .ok (.tuple #[.int .i64 ((f id).getD 0), .bool (f id).isSome]) u := by
  have := fm_lookup2 (P := Tryz.prog) (h.fm 1 rfl) Tryz.underlying82 Tryz.underlying3 id (fun w => Tryz.zeroValue3 w)
  rw [this]
  unfold numF
  cases f id <;> rfl
theorem runq_may (c0 : u.cell? ⟨b, 0, none⟩ = some (.slice (rA g) n cap)) (cpu : Int) : Calls Tryz.prog 153 #[.pointer (some ⟨b, 0, none⟩), .int .i64 cpu] u (Ret (.int .i64 (if 0 ≤ cpu ∧ cpu < n then 0 else 3)) u) := by
  by_cases hi : 0 ≤ cpu ∧ cpu < n
  · rw [if_pos hi]
    obtain ⟨h1, h2⟩ := hi
    go_enter Tryz.func153, Tryz.ntmps153
    go_wp2
    go_ret
    exact Ret.of (rfl) (by repeat (first | exact Drew.refl _ | apply Drew.drewN | apply Drew.drew))
  · rw [if_neg hi]
    have h2 : cpu < 0 ∨ (¬ cpu < 0 ∧ (n : Int) ≤ cpu) := by omega
    clear hi
    rcases h2 with h2 | ⟨h1, h2⟩
    all_goals
      go_enter Tryz.func153, Tryz.ntmps153
      go_wp2
      go_ret
      exact Ret.of (rfl) (by repeat (first | exact Drew.refl _ | apply Drew.drewN | apply Drew.drew))
theorem runq_Load (h : (runqR b r).holds F w) (cpu : Int) : Calls Tryz.prog 85 #[.pointer (some ⟨b, 0, none⟩), .int .i64 cpu] w (Ret (.int .i64 (r.load cpu)) w) := by
  obtain ⟨hok, g, cap, wb, cnt, D, hA⟩ := runq_view h
  have hm := runq_may hA.rqC.1 cpu
  unfold RQ.load
  by_cases hi : r.is cpu
  · rw [if_pos hi]
    rw [if_pos (show 0 ≤ cpu ∧ cpu < r.n from hi)] at hm
    obtain ⟨h1, h2⟩ := hi
    obtain ⟨c, rfl⟩ := Int.eq_ofNat_of_zero_le h1
    have hc : c < r.n := by omega
    obtain ⟨gb, rfl, kp⟩ := hA.rqPtr hc
    obtain ⟨k0, k1, k2, k3⟩ := hA.rqC
    unfold RQ.at
    simp only [Int.toNat_natCast]
    have hL := fun k => prio_Len ((hA.keep (u' := w.drewN k) ((Mod.refl _ _).drewN k)).rqHas hc).choose_spec
    simp only [rA] at k0 hm
    generalize (r.q c).length = x at *
    clear hA h h1
    go_enter Tryz.func85, Tryz.ntmps85
    go_wp2_with (first
      | (go_at_call 153; refine hm.mono ?_; rintro e w' ⟨rfl, k, rfl⟩)
      | (go_at_call 154; refine (hL _).mono ?_; rintro e w' ⟨rfl, k4, rfl⟩))
    go_ret
    exact Ret.of (rfl) (by repeat (first | exact Drew.refl _ | apply Drew.drewN | apply Drew.drew))
  · rw [if_neg hi]
    rw [if_neg (show ¬ (0 ≤ cpu ∧ cpu < r.n) from hi)] at hm
    clear hA h hi
    go_enter Tryz.func85, Tryz.ntmps85
    go_wp2_with (go_at_call 153; refine hm.mono ?_; rintro e w' ⟨rfl, k, rfl⟩)
    go_ret
    exact Ret.of (rfl) (by repeat (first | exact Drew.refl _ | apply Drew.drewN | apply Drew.drew))
theorem runq_List (h : (runqR b r).holds F w) (cpu : Int) : Calls Tryz.prog 238 #[.pointer (some ⟨b, 0, none⟩), .int .i64 cpu] w (NewL (r.list cpu) w) := by
  obtain ⟨hok, g, cap, wb, cnt, D, hA⟩ := runq_view h
  have hm := runq_may hA.rqC.1 cpu
  unfold RQ.list
  by_cases hi : r.is cpu
  · rw [if_pos hi]
    rw [if_pos (show 0 ≤ cpu ∧ cpu < r.n from hi)] at hm
    obtain ⟨h1, h2⟩ := hi
    obtain ⟨c, rfl⟩ := Int.eq_ofNat_of_zero_le h1
    have hc : c < r.n := by omega
    obtain ⟨gb, rfl, kp⟩ := hA.rqPtr hc
    obtain ⟨k0, k1, k2, k3⟩ := hA.rqC
    unfold RQ.at
    simp only [Int.toNat_natCast]
    have hL := fun k => prio_List ((hA.keep (u' := w.drewN k) ((Mod.refl _ _).drewN k)).rqHas hc).choose_spec
    simp only [rA] at k0 hm
    generalize listP (r.q c) = x at *
    clear hA h h1
    go_enter Tryz.func238, Tryz.ntmps238
    go_wp2_with (first
      | (go_at_call 153; refine hm.mono ?_; rintro e w' ⟨rfl, k, rfl⟩)
      | (go_at_call 290; refine (hL _).mono ?_; intro e w2 hm2; obtain ⟨a2, c2, rfl, m2, i2, n2⟩ := hm2.newL))
    go_ret
    exact ⟨a2, c2, rfl, m2.undrewN, i2, n2⟩
  · rw [if_neg hi]
    rw [if_neg (show ¬ (0 ≤ cpu ∧ cpu < r.n) from hi)] at hm
    clear hA h hi
    go_enter Tryz.func238, Tryz.ntmps238
    go_wp2_with (go_at_call 153; refine hm.mono ?_; rintro e w' ⟨rfl, k, rfl⟩)
    go_ret
    exact ⟨none, 0, rfl, (Mod.refl _ _).drewN _, .inl rfl, fun b o e => by cases e⟩
end
end Go.Proofs.YtaakgpnmfkmdoaaGreatDoor

/- The walks over the queues of cores: Put, of, Take, Back, Pick. No condition but those named. -/
namespace Go.Proofs.YtaakgpnmfkmdoaaGreatDoor
set_option linter.unusedVariables false
set_option linter.unusedSimpArgs false
open Go.RowKit

section
variable {F : List Nat} {w u : World} {b : Nat} {g : Option Nat} {cap wb cnt : Nat} {f : Int → Option Int} {D : Nat → Nat} {n : Nat} {q : Nat → PQ} {r : RQ}
theorem whrI_some (r : RQ) (id : Int) : (r.whrI id).isSome = (r.whr id).isSome := by unfold RQ.whrI; cases r.whr id <;> rfl
set_option maxRecDepth 100000 in
theorem runq_Put (h : (runqR b r).holds F w) (cpu p id : Int) : Calls Tryz.prog 199 #[.pointer (some ⟨b, 0, none⟩), .int .i64 cpu, .int .i64 p, .int .i64 id] w (Turns (runqR b (r.put cpu p id)) F (.int .i64 (r.putE cpu p id)) w) := by
  obtain ⟨hok, g, cap, wb, cnt, D, hA⟩ := runq_view h
  have hm := runq_may hA.rqC.1 cpu
  have hlk := fun k => (hA.keep (u' := w.drewN k) ((Mod.refl _ _).drewN k)).rqLook id
  by_cases hi : r.is cpu
  case neg =>
    have e : r.putE cpu p id = 3 := if_pos hi
    rw [show r.put cpu p id = r from if_neg (by rw [e]; decide), e]
    rw [if_neg (show ¬ (0 ≤ cpu ∧ cpu < r.n) from hi)] at hm
    have H := Lib.hid (fun k => (hA.keep (u' := w.drewN k) ((Mod.refl _ _).drewN k)).runq hok rfl rfl rfl)
    clear hA h hi e hlk
    go_enter Tryz.func199, Tryz.ntmps199
    go_wp2_with (go_at_call 153; refine hm.mono ?_; rintro e w' ⟨rfl, k, rfl⟩)
    go_ret
    exact ⟨rfl, H.out _⟩
  rw [if_pos (show 0 ≤ cpu ∧ cpu < r.n from hi)] at hm
  by_cases hw : (r.whr id).isSome = true
  · have e : r.putE cpu p id = 6 := by unfold RQ.putE; rw [if_neg (fun x => x hi), if_pos hw]
    rw [show r.put cpu p id = r from if_neg (by rw [e]; decide), e]
    rw [← whrI_some] at hw
    rw [hw] at hlk
    have k1 := hA.rqC.2.1
    have H := Lib.hid (fun k => (hA.keep (u' := w.drewN k) ((Mod.refl _ _).drewN k)).runq hok rfl rfl rfl)
    generalize (r.whrI id).getD 0 = x at *
    clear hA h hi e hw
    go_enter Tryz.func199, Tryz.ntmps199
    go_wp2_with (go_at_call 153; refine hm.mono ?_; rintro e w' ⟨rfl, k, rfl⟩)
    go_ret
    exact ⟨rfl, H.out _⟩
  have hwn : r.whr id = none := by cases hq : r.whr id with | none => rfl | some v => rw [hq] at hw; simp at hw
  have hwI : r.whrI id = none := by unfold RQ.whrI; rw [hwn]; rfl
  rw [hwI] at hlk
  simp only [Option.getD_none, Option.isSome_none] at hlk
  have e : r.putE cpu p id = pushE 32 (r.at cpu) p id := by unfold RQ.putE; rw [if_neg (fun x => x hi), if_neg hw]
  obtain ⟨h1, h2⟩ := hi
  obtain ⟨c, rfl⟩ := Int.eq_ofNat_of_zero_le h1
  have hc : c < r.n := by omega
  obtain ⟨gb, rfl, kp⟩ := hA.rqPtr hc
  obtain ⟨k0, k1, k2, k3⟩ := hA.rqC
  replace e : r.putE c p id = pushE 32 (r.q c) p id := e
  have hP := fun k => (hA.keep (u' := w.drewN k) ((Mod.refl _ _).drewN k)).rqDo (P := Tryz.prog) (fn := 271) hc (fun F1 hF => prio_Push hF p id)
  simp only [rA] at k0 hm
  by_cases hE : pushE 32 (r.q c) p id = 0
  · have eR : r.put c p id = r.putQ c (pushP 32 (r.q c) p id) := if_pos (e.trans hE)
    rw [eR, e, hE]
    rw [hE] at hP
    have hpp : 0 ≤ p ∧ p < 8 ∧ (r.q c).length < 32 := by
      unfold pushE at hE
      split at hE
      · omega
      · split at hE
        · omega
        · split at hE <;> omega
    obtain ⟨p1, p2, p3⟩ := hpp
    obtain ⟨p, rfl⟩ := Int.eq_ofNat_of_zero_le p1
    have hS : pushP 32 (r.q c) p id = r.q c ++ [(p, id)] := by unfold pushP; rw [if_pos hE]; simp
    rw [hS] at hP ⊢
    obtain ⟨hok2, hw2⟩ := RQ.put_new hok hc hwn (p := p) (by omega) p3
    clear hA h hwn hwI hE hS hw e eR p1 p2 p3 hok
    go_enter Tryz.func199, Tryz.ntmps199
    go_wp2_with (first
      | (go_at_call 153; refine hm.mono ?_; rintro e w' ⟨rfl, k, rfl⟩)
      | (
        go_at_call 271
        refine (hP _).mono ?_
        rintro e w2 ⟨rfl, hB⟩
        obtain ⟨w3, cnt3, hput, hC⟩ := hB.rqPut id (c : Int)
        have d1 := hB.rqC.2.1
        have HC := Lib.hid hC
        clear hP hC hlk k1
        ))
    go_ret
    exact ⟨rfl, HC.out.runq hok2 rfl rfl hw2.symm⟩
  · have eR : r.put c p id = r := if_neg (by rw [e]; exact hE)
    rw [eR, e]
    have hS : pushP 32 (r.q c) p id = r.q c := by unfold pushP; rw [if_neg hE]
    rw [hS] at hP
    have hg : gupd r.q c (r.q c) = r.q := by funext i; unfold gupd; split <;> simp_all
    rw [hg] at hP
    have hE2 : (pushE 32 (r.q c) p id == 0) = false := by simpa using hE
    generalize pushE 32 (r.q c) p id = ee at *
    clear hA h hwn hwI hS hw e eR hg
    go_enter Tryz.func199, Tryz.ntmps199
    go_wp2_with (first
      | (go_at_call 153; refine hm.mono ?_; rintro e w' ⟨rfl, k, rfl⟩)
      | (go_at_call 271; refine (hP _).mono ?_; rintro e w2 ⟨rfl, hB⟩; have HB := Lib.hid hB; clear hP hB))
    go_ret
    exact ⟨rfl, HB.out.runq hok rfl rfl rfl⟩
set_option maxRecDepth 100000 in
theorem runq_of (hok : r.ok) (hA : On F w (runqL b g cap wb cnt r.whrI D r.n r.q) u) (id : Int) : Calls Tryz.prog 206 #[.pointer (some ⟨b, 0, none⟩), .int .i64 id] u (Ret (.tuple #[.pointer ((r.whr id).map fun c => ⟨D c, 0, none⟩), .int .i64 (r.takeE id)]) u) := by
  have hlk := hA.rqLook id
  obtain ⟨k0, k1, k2, k3⟩ := hA.rqC
  unfold RQ.takeE
  cases hw : r.whr id with
  | none =>
    have hwI : r.whrI id = none := by unfold RQ.whrI; rw [hw]; rfl
    rw [hwI] at hlk
    clear hA
    go_enter Tryz.func206, Tryz.ntmps206
    go_wp2
    go_ret2
    exact Ret.of (rfl) (by repeat (first | exact Drew.refl _ | apply Drew.drewN | apply Drew.drew))
  | some c =>
    have hwI : r.whrI id = some (c : Int) := by unfold RQ.whrI; rw [hw]; rfl
    rw [hwI] at hlk
    have hc := ((RQ.whr_some hok).1 hw).1
    have hcI : (c : Int) < r.n := by omega
    obtain ⟨gb, rfl, kp⟩ := hA.rqPtr hc
    simp only [rA] at k0
    clear hA
    go_enter Tryz.func206, Tryz.ntmps206
    go_wp2
    go_ret2
    exact Ret.of (rfl) (by repeat (first | exact Drew.refl _ | apply Drew.drewN | apply Drew.drew))
set_option maxRecDepth 100000 in
theorem runq_Take (h : (runqR b r).holds F w) (id : Int) : Calls Tryz.prog 201 #[.pointer (some ⟨b, 0, none⟩), .int .i64 id] w (Turns (runqR b (r.take id)) F (.int .i64 (r.takeE id)) w) := by
  obtain ⟨hok, g, cap, wb, cnt, D, hA⟩ := runq_view h
  have hO := runq_of hok hA id
  unfold RQ.take
  unfold RQ.takeE at hO ⊢
  cases hw : r.whr id with
  | none =>
    rw [hw] at hO
    have H := Lib.hid (fun k => (hA.keep (u' := w.drewN k) ((Mod.refl _ _).drewN k)).runq hok rfl rfl rfl)
    clear hA h hw
    go_enter Tryz.func201, Tryz.ntmps201
    go_wp2_with (go_at_call 206; refine hO.mono ?_; rintro e w' ⟨rfl, k, rfl⟩)
    go_ret
    exact ⟨rfl, H.out _⟩
  | some c =>
    rw [hw] at hO
    obtain ⟨hc, hs⟩ := (RQ.whr_some hok).1 hw
    obtain ⟨hok2, hw2⟩ := RQ.put_out hok hw
    have k1 := hA.rqC.2.1
    have hd0 : dropPE (r.q c) id = 0 := if_pos hs
    have HA := Lib.hid hA
    simp only [Option.map_some, Option.isSome_some, if_true] at hO ⊢
    clear hA h hw hs
    go_enter Tryz.func201, Tryz.ntmps201
    go_wp2_with (
      go_at_call 206
      refine hO.mono ?_
      rintro e w' ⟨rfl, k, rfl⟩
      obtain ⟨w3, cnt3, hdel, hC⟩ := (HA.out.keep (u' := w.drewN k) ((Mod.refl _ _).drewN k)).rqDel id
      have hP := hC.rqDo (P := Tryz.prog) (fn := 272) hc (fun F1 hF => prio_Drop hF id)
      rw [hd0] at hP
      clear hC hO
      refine Hid.out ?_)
    refine Lib.hid ?_
    go_wp2_with (go_at_call 272; refine hP.mono ?_; rintro e w2 ⟨rfl, hB⟩)
    go_ret
    exact ⟨rfl, hB.runq hok2 rfl rfl hw2.symm⟩
theorem runq_Back (h : (runqR b r).holds F w) (id : Int) : Calls Tryz.prog 115 #[.pointer (some ⟨b, 0, none⟩), .int .i64 id] w (Turns (runqR b (r.back id)) F (.int .i64 (r.takeE id)) w) := by
  obtain ⟨hok, g, cap, wb, cnt, D, hA⟩ := runq_view h
  have hO := runq_of hok hA id
  unfold RQ.back
  unfold RQ.takeE at hO ⊢
  cases hw : r.whr id with
  | none =>
    rw [hw] at hO
    have H := Lib.hid (fun k => (hA.keep (u' := w.drewN k) ((Mod.refl _ _).drewN k)).runq hok rfl rfl rfl)
    clear hA h hw
    go_enter Tryz.func115, Tryz.ntmps115
    go_wp2_with (go_at_call 206; refine hO.mono ?_; rintro e w' ⟨rfl, k, rfl⟩)
    go_ret
    exact ⟨rfl, H.out _⟩
  | some c =>
    rw [hw] at hO
    obtain ⟨hc, hs⟩ := (RQ.whr_some hok).1 hw
    obtain ⟨f1, f2, f3⟩ := back_fine (hok.fine c) id
    obtain ⟨hok2, hw2⟩ := RQ.put_same hok hc f1 f3
    have hd0 : dropPE (r.q c) id = 0 := if_pos hs
    have hP := fun k => (hA.keep (u' := w.drewN k) ((Mod.refl _ _).drewN k)).rqDo (P := Tryz.prog) (fn := 207) hc (fun F1 hF => prio_Back hF id)
    rw [hd0] at hP
    simp only [Option.map_some, Option.isSome_some, if_true] at hO ⊢
    clear hA h hw hs f1 f2 f3
    go_enter Tryz.func115, Tryz.ntmps115
    go_wp2_with (first
      | (go_at_call 206; refine hO.mono ?_; rintro e w' ⟨rfl, k, rfl⟩)
      | (go_at_call 207; refine (hP _).mono ?_; rintro e w2 ⟨rfl, hB⟩))
    go_ret
    exact ⟨rfl, hB.runq hok2 rfl rfl hw2.symm⟩
set_option maxRecDepth 100000 in
theorem runq_Pick (h : (runqR b r).holds F w) (cpu : Int) : Calls Tryz.prog 188 #[.pointer (some ⟨b, 0, none⟩), .int .i64 cpu] w (Turns (runqR b (r.pick cpu)) F (.tuple #[.int .i64 (r.pickV cpu), .int .i64 (r.pickE cpu)]) w) := by
  obtain ⟨hok, g, cap, wb, cnt, D, hA⟩ := runq_view h
  have hm := runq_may hA.rqC.1 cpu
  by_cases hi : r.is cpu
  case neg =>
    have e : r.pickE cpu = 3 := if_pos hi
    rw [show r.pick cpu = r from if_neg (by rw [e]; decide), show r.pickV cpu = 0 from if_neg (by rw [e]; decide), e]
    rw [if_neg (show ¬ (0 ≤ cpu ∧ cpu < r.n) from hi)] at hm
    have H := Lib.hid (fun k => (hA.keep (u' := w.drewN k) ((Mod.refl _ _).drewN k)).runq hok rfl rfl rfl)
    clear hA h hi e
    go_enter Tryz.func188, Tryz.ntmps188
    go_wp2_with (go_at_call 153; refine hm.mono ?_; rintro e w' ⟨rfl, k, rfl⟩)
    go_ret2
    exact ⟨rfl, H.out _⟩
  rw [if_pos (show 0 ≤ cpu ∧ cpu < r.n from hi)] at hm
  have e : r.pickE cpu = topE (r.at cpu) := if_neg (fun x => x hi)
  obtain ⟨h1, h2⟩ := hi
  obtain ⟨c, rfl⟩ := Int.eq_ofNat_of_zero_le h1
  have hc : c < r.n := by omega
  obtain ⟨gb, rfl, kp⟩ := hA.rqPtr hc
  obtain ⟨k0, k1, k2, k3⟩ := hA.rqC
  replace e : r.pickE c = topE (r.q c) := e
  have hTop := fun k => prio_Top ((hA.keep (u' := w.drewN k) ((Mod.refl _ _).drewN k)).rqHas hc).choose_spec
  simp only [rA] at k0 hm
  by_cases hL : r.q c = []
  · have hE : topE (r.q c) = 12 := if_pos hL
    rw [if_pos hL, hE] at hTop
    rw [show r.pick c = r from if_neg (by rw [e, hE]; decide), show r.pickV c = 0 from if_neg (by rw [e, hE]; decide), e, hE]
    have HA := Lib.hid hA
    clear hA h hE hL e
    go_enter Tryz.func188, Tryz.ntmps188
    go_wp2_with (first
      | (go_at_call 153; refine hm.mono ?_; rintro e w' ⟨rfl, k, rfl⟩)
      | (go_at_call 260; refine (hTop _).mono ?_; rintro e w2 ⟨rfl, m2⟩))
    go_ret2
    exact ⟨rfl, (HA.out.keep m2.undrewN).runq hok rfl rfl rfl⟩
  · have hE : topE (r.q c) = 0 := if_neg hL
    rw [if_neg hL, hE] at hTop
    rw [show r.pick c = r.putQ c (turnP (r.q c)) from if_pos (e.trans hE), show r.pickV c = topP (r.q c) from if_pos (e.trans hE), e, hE]
    obtain ⟨f1, f2, f3⟩ := turn_fine (hok.fine c)
    obtain ⟨hok2, hw2⟩ := RQ.put_same hok hc f1 f3
    have HA := Lib.hid hA
    have hTn := fun w2 (m2 : Mod [] w w2) => (hA.keep m2).rqDo (P := Tryz.prog) (fn := 261) hc (fun F1 hF => prio_Turn hF)
    rw [hE] at hTn
    have hk := fun w2 (m2 : Mod [] w w2) => hA.keep m2
    have kc : ∀ w2, Mod [] w w2 → w2.cell? ⟨b, 0, none⟩ = some (.slice (some ⟨gb, 0, none⟩) r.n cap) ∧ w2.cell? ⟨gb, c, none⟩ = some (.pointer (some ⟨D c, 0, none⟩)) := fun w2 m2 => ⟨m2.at k0 (by simp), m2.at kp (by simp)⟩
    generalize topP (r.q c) = x at *
    clear hA h hE hL e f1 f2 f3 hk
    go_enter Tryz.func188, Tryz.ntmps188
    go_wp2_with (first
      | (go_at_call 153; refine hm.mono ?_; rintro e w' ⟨rfl, k, rfl⟩)
      | (go_at_call 260; refine (hTop _).mono ?_; rintro e w2 ⟨rfl, m2⟩; have m2 := m2.undrewN; obtain ⟨d0, dp⟩ := kc _ m2; have HT := hTn _ m2; clear hTop hTn)
      | (go_at_call 261; refine HT.mono ?_; rintro e w3 ⟨rfl, hB⟩))
    go_ret2
    exact ⟨rfl, hB.runq hok2 rfl rfl hw2.symm⟩
end
end Go.Proofs.YtaakgpnmfkmdoaaGreatDoor

/- Threads (package thread) in memory; the walks over right, find, Get, List. No condition but those named. -/
namespace Go.Proofs.YtaakgpnmfkmdoaaGreatDoor
set_option linter.unusedVariables false
set_option linter.unusedSimpArgs false
open Go.RowKit

def noneR : Res := Res.star []
theorem On.lose {F0 : List Nat} {w0 u : World} {l : List Res} (h : On F0 w0 l u) (k : Nat) (hk : k < l.length) : On F0 w0 (l.set k noneR) u := by
  refine ((h.drop k).more (P := noneR) rfl).perm ?_
  rw [List.eraseIdx_eq_take_drop_succ, List.set_eq_take_append_cons_drop, if_pos hk, List.append_assoc]
  exact List.Perm.append_left _ (List.perm_append_singleton _ _)
theorem On.move {F0 : List Nat} {w0 u : World} {l : List Res} {X : Res} (h : On F0 w0 (l ++ [X]) u) (k : Nat) (hk : k < l.length) : On F0 w0 (l.set k X) u := by
  have h2 := h.perm (m := l.set k X ++ [l[k]]) (by
    have e : l = l.take k ++ l[k] :: l.drop (k + 1) := by rw [List.getElem_cons_drop, List.take_append_drop]
    rw [List.set_eq_take_append_cons_drop, if_pos hk]
    conv => lhs; rw [e]
    rw [List.append_assoc, List.append_assoc]
    refine List.Perm.append_left _ ?_
    rw [List.cons_append, List.cons_append]
    have p1 : (l[k] :: (List.drop (k + 1) l ++ [X])).Perm (l[k] :: X :: List.drop (k + 1) l) := List.Perm.cons _ (List.perm_append_singleton _ _)
    refine p1.trans ((List.Perm.swap _ _ _).trans (List.Perm.cons _ (List.perm_append_singleton _ _).symm)))
  exact h2.take
def thV (x : ThS) : List Value := [.int .i64 x.prio, .int .u64 (x.mask : Nat), .int .i64 x.cpu, .bool x.forced, .bool x.sleeps, .int .i64 x.timer]
def thB (d : Nat) (o : Option ThS) : Res := match o with | some x => Res.blk d (.cells (thV x).toArray 226 (0,0)) | none => noneR
def thD (D : Nat → Nat) (T : Int → Option ThS) (id : Int) : Option Nat := match T id with | some _ => some (D (id - 1).toNat) | none => none
structure ThT.ok (t : ThT) : Prop where
  n1 : 1 ≤ t.n
  n2 : t.n ≤ 64
  bd : ∀ id x, t.t id = some x → 1 ≤ id ∧ id ≤ 32
  msk : ∀ id x, t.t id = some x → x.mask < 2 ^ 64
  pr : ∀ id x, t.t id = some x → 0 ≤ x.prio ∧ x.prio < 8
def IdsT (ids : List Nat) (T : Int → Option ThS) : Prop := ∀ m : Nat, m ∈ ids ↔ (T (m : Int)).isSome = true
def threadL (b tb mb cnt : Nat) (ids : List Nat) (D : Nat → Nat) (n : Nat) (T : Int → Option ThS) : List Res :=
  [Res.blk b (.cells #[.pointer (some ⟨tb, 0, none⟩), .int .i64 n, .map (some mb)] 163 (0,0)), slotR tb 32 ids, fmapR mb cnt (ptrF (thD D T))] ++ thingsL 32 (fun k => thB (D k) (T ((k : Int) + 1)))
structure ThP where
  tb : Nat
  mb : Nat
  cnt : Nat
  ids : List Nat
  D : Nat → Nat
def threadR (b : Nat) (t : ThT) : Res := Res.such t.ok (Res.ex fun p : ThP => Res.such (IdsT p.ids t.t) (Res.star (threadL b p.tb p.mb p.cnt p.ids p.D t.n t.t)))
theorem thV_get (x : ThS) (o : Nat) : (thV x).toArray[o]? = (thV x)[o]? := by simp
section
variable {F : List Nat} {w u : World} {b tb mb cnt : Nat} {ids : List Nat} {D : Nat → Nat} {n : Nat} {T : Int → Option ThS} {t : ThT}
theorem thread_view (h : (threadR b t).holds F w) : t.ok ∧ ∃ tb mb cnt ids D, IdsT ids t.t ∧ On F w (threadL b tb mb cnt ids D t.n t.t) w := by
  obtain ⟨h1, p, h2, h3⟩ := h
  exact ⟨h1, p.tb, p.mb, p.cnt, p.ids, p.D, h2, On.of h3⟩
theorem On.threadOk (h : On F w (threadL b tb mb cnt ids D n T) u) {t : ThT} (hok : t.ok) (hn : t.n = n) (hT : t.t = T) (hi : IdsT ids T) : Gain (threadR b t) F w u := by
  subst hn hT
  exact h.gains.imp fun F' h' => ⟨hok, ⟨tb, mb, cnt, ids, D⟩, hi, h'⟩
theorem On.thC (h : On F w (threadL b tb mb cnt ids D n T) u) : u.cell? ⟨b, 0, none⟩ = some (.pointer (some ⟨tb, 0, none⟩)) ∧ u.cell? ⟨b, 1, none⟩ = some (.int .i64 n) ∧ u.cell? ⟨b, 2, none⟩ = some (.map (some mb)) :=
  ⟨h.cell 0 rfl 0, h.cell 0 rfl 1, h.cell 0 rfl 2⟩
theorem thL_get {k : Nat} (hk : k < 32) : (threadL b tb mb cnt ids D n T)[3 + k]? = some (thB (D k) (T ((k : Int) + 1))) := by
  unfold threadL
  rw [List.getElem?_append_right (by simp), show 3 + k - _ = k from by simp]
  exact thingsL_get hk
theorem thL_len : (threadL b tb mb cnt ids D n T).length = 35 := by simp [threadL, thingsL]
theorem thL_set {k : Nat} (X : Res) : (threadL b tb mb cnt ids D n T).set (3 + k) X = [Res.blk b (.cells #[.pointer (some ⟨tb, 0, none⟩), .int .i64 n, .map (some mb)] 163 (0,0)), slotR tb 32 ids, fmapR mb cnt (ptrF (thD D T))] ++ thingsL 32 (gupd (fun k => thB (D k) (T ((k : Int) + 1))) k X) := by
  unfold threadL
  rw [List.set_append_right _ _ (by simp), show 3 + k - _ = k from by simp, thingsL_set]
theorem thL_put {k d : Nat} (x : ThS) : gupd (fun k => thB (D k) (T ((k : Int) + 1))) k (thB d (some x)) = fun i => thB (gupd D k d i) (oput T ((k : Int) + 1) x ((i : Int) + 1)) := by
  funext i
  by_cases e : i = k
  · subst e; rw [gupd_same, gupd_same]; unfold oput; rw [if_pos rfl]
  · rw [gupd_ne _ _ e, gupd_ne _ _ e]; unfold oput; rw [if_neg (by omega)]
theorem gupd_self (D : Nat → Nat) (k : Nat) : gupd D k (D k) = D := by
  funext i; by_cases e : i = k
  · subst e; rw [gupd_same]
  · rw [gupd_ne _ _ e]
theorem thD_some {id : Int} {x : ThS} (h : T id = some x) : thD D T id = some (D (id - 1).toNat) := by unfold thD; rw [h]
theorem thD_none {id : Int} (h : T id = none) : thD D T id = none := by unfold thD; rw [h]
theorem thD_put {k d : Nat} {x : ThS} (hb : ∀ id x, T id = some x → 1 ≤ id ∧ id ≤ 32) : oput (thD D T) ((k : Int) + 1) d = thD (gupd D k d) (oput T ((k : Int) + 1) x) := by
  funext j
  unfold thD oput
  by_cases e : j = (k : Int) + 1
  · subst e
    rw [if_pos rfl, if_pos rfl]
    simp only []
    rw [show ((k : Int) + 1 - 1).toNat = k by omega, gupd_same]
  · rw [if_neg e, if_neg e]
    simp only []
    cases hT : T j with
    | none => rfl
    | some y =>
      have := hb j y hT
      simp only []
      rw [gupd_ne _ _ (by omega)]
theorem thD_same {k : Nat} {x y : ThS} (h : T ((k : Int) + 1) = some y) : thD D (oput T ((k : Int) + 1) x) = thD D T := by
  funext j
  unfold thD oput
  by_cases e : j = (k : Int) + 1
  · subst e; rw [if_pos rfl, h]
  · rw [if_neg e]
theorem thD_del (id : Int) : odel (thD D T) id = thD D (odel T id) := by
  funext j
  unfold thD odel
  by_cases e : j = id
  · rw [if_pos e, if_pos e]
  · rw [if_neg e, if_neg e]
theorem On.thCell (h : On F w (threadL b tb mb cnt ids D n T) u) {k : Nat} (hk : k < 32) {x : ThS} (hx : T ((k : Int) + 1) = some x) (o : Nat) : u.cell? ⟨D k, o, none⟩ = (thV x)[o]? := by
  have := thL_get (b := b) (tb := tb) (mb := mb) (cnt := cnt) (ids := ids) (D := D) (n := n) (T := T) hk
  rw [hx] at this
  rw [h.cell (3 + k) this o, thV_get]
theorem On.thFree (h : On F w (threadL b tb mb cnt ids D n T) u) {k : Nat} (hk : k < 32) {x : ThS} (hx : T ((k : Int) + 1) = some x) (o : Nat) : u.frozen? ⟨D k, o, none⟩ = false := by
  have := thL_get (b := b) (tb := tb) (mb := mb) (cnt := cnt) (ids := ids) (D := D) (n := n) (T := T) hk
  rw [hx] at this
  exact h.free (3 + k) this o
theorem On.thSet (h : On F w (threadL b tb mb cnt ids D n T) u) {k : Nat} (hk : k < 32) {x : ThS} (hx : T ((k : Int) + 1) = some x) (o : Nat) (v : Value) (x' : ThS) (hv : (thV x).set o v = thV x') : On F w (threadL b tb mb cnt ids D n (oput T ((k : Int) + 1) x')) (u.setCell ⟨D k, o, none⟩ v) := by
  have hg := thL_get (b := b) (tb := tb) (mb := mb) (cnt := cnt) (ids := ids) (D := D) (n := n) (T := T) hk
  rw [hx] at hg
  have := h.set (3 + k) hg o v
  rw [thL_set] at this
  have e : Res.blk (D k) (.cells ((thV x).toArray.setIfInBounds o v) 226 (0,0)) = thB (D k) (some x') := by
    unfold thB
    simp only [List.setIfInBounds_toArray, hv]
  rw [e, thL_put, gupd_self] at this
  unfold threadL
  rw [thD_same hx]
  exact this
theorem On.thLook (h : On F w (threadL b tb mb cnt ids D n T) u) (id : Int) : (Instr.lookup 161 (.map (some mb)) (.int .i64 id) true).run Tryz.prog u = .ok (.tuple #[.pointer ((thD D T id).map fun d => ⟨d, 0, none⟩), .bool (T id).isSome]) u := by
  have := fm_lookup2 (P := Tryz.prog) (h.fm 2 rfl) Tryz.underlying161 Tryz.underlying3 id (fun w => Tryz.zeroValue285 w)
  rw [this]
  unfold ptrF thD
  cases T id <;> rfl
set_option maxRecDepth 100000 in
theorem thread_find (hA : On F w (threadL b tb mb cnt ids D t.n t.t) u) (id : Int) : Calls Tryz.prog 200 #[.pointer (some ⟨b, 0, none⟩), .int .i64 id] u (Ret (.tuple #[.pointer ((thD D t.t id).map fun d => ⟨d, 0, none⟩), .int .i64 (t.getE id)]) u) := by
  have hlk := hA.thLook id
  obtain ⟨k0, k1, k2⟩ := hA.thC
  unfold ThT.getE
  cases hx : t.t id with
  | none =>
    rw [hx, thD_none hx] at hlk
    rw [thD_none hx]
    clear hA
    go_enter Tryz.func200, Tryz.ntmps200
    go_wp2
    go_ret2
    exact Ret.of (rfl) (by repeat (first | exact Drew.refl _ | apply Drew.drewN | apply Drew.drew))
  | some x =>
    rw [hx, thD_some hx] at hlk
    rw [thD_some hx]
    clear hA
    go_enter Tryz.func200, Tryz.ntmps200
    go_wp2
    go_ret2
    exact Ret.of (rfl) (by repeat (first | exact Drew.refl _ | apply Drew.drewN | apply Drew.drew))
theorem upto_lt (n : Nat) (h : n ≤ 64) : uptoM n < 2 ^ 64 := by
  exact uptoM_lt _
theorem thread_right (h1 : w.cell? ⟨b, 1, none⟩ = some (.int .i64 t.n)) (h64 : t.n ≤ 64) (m : Nat) (hm : m < 2 ^ 64) : Calls Tryz.prog 196 #[.pointer (some ⟨b, 0, none⟩), .int .u64 (m : Nat)] w (Ret (.bool (t.right m)) w) := by
  have hU := fun w => mask_Upto t.n w
  have hW := fun w => mask_Within m (uptoM t.n) hm (upto_lt t.n h64) w
  unfold ThT.right
  by_cases h0 : m = 0
  · subst h0
    clear hW
    go_enter Tryz.func196, Tryz.ntmps196
    go_wp2
    go_ret
    exact Ret.of (rfl) (by repeat (first | exact Drew.refl _ | apply Drew.drewN | apply Drew.drew))
  · have h0I : ((m : Int) != 0) = true := by simpa using h0
    rw [decide_eq_true h0, Bool.true_and]
    generalize decide (andnM m (uptoM t.n) = 0) = x at *
    go_enter Tryz.func196, Tryz.ntmps196
    go_wp2_with (first
      | (go_at_call 42; refine (hU _).mono ?_; rintro e w' ⟨rfl, k, rfl⟩)
      | (go_at_call 14; refine (hW _).mono ?_; rintro e w' ⟨rfl, k2, rfl⟩))
    go_ret
    exact Ret.of (rfl) (by repeat (first | exact Drew.refl _ | apply Drew.drewN | apply Drew.drew))
theorem ids_dec (hi : IdsT ids T) : (fun n : Nat => decide (n ∈ ids)) = fun i : Nat => (T (i : Int)).isSome := by
  funext m
  have := hi m
  cases h : (T (m : Int)).isSome with
  | true => rw [h] at this; exact decide_eq_true (this.2 rfl)
  | false => rw [h] at this; exact decide_eq_false (fun h2 => by have := this.1 h2; cases this)
theorem thread_List (h : (threadR b t).holds F w) : Calls Tryz.prog 295 #[.pointer (some ⟨b, 0, none⟩)] w (NewL t.list w) := by
  obtain ⟨hok, tb, mb, cnt, ids, D, hI, hA⟩ := thread_view h
  have hL := slot_List (hA.get 1 rfl).choose_spec
  obtain ⟨k0, k1, k2⟩ := hA.thC
  rw [ids_dec hI] at hL
  clear hA h
  unfold ThT.list
  generalize upList (fun i : Nat => (t.t (i : Int)).isSome) 32 = l at *
  go_enter Tryz.func295, Tryz.ntmps295
  go_wp2_with (go_at_call 330; refine hL.mono ?_; intro e w2 hm2; obtain ⟨a2, c2, rfl, m2, i2, n2⟩ := hm2.newL)
  go_ret
  exact ⟨a2, c2, rfl, m2, i2, n2⟩
end
end Go.Proofs.YtaakgpnmfkmdoaaGreatDoor

/- Objects of cores (packages pool, stash) in memory; the walks over both New, may. No condition but those named. -/
namespace Go.Proofs.YtaakgpnmfkmdoaaGreatDoor
set_option linter.unusedVariables false
set_option linter.unusedSimpArgs false
open Go.RowKit

/-- A list in memory: as it was made by append or a copy, or cut at its end and full. -/
def kR (a : Option Addr) (cap : Nat) (l : List Int) : Res where
  holds F w := (∃ g, a = lA g ∧ F = lF g ∧ LAt w g cap l) ∨ (cap = l.length ∧ (l = [] ∧ F = [] ∨ ∃ b, a = some ⟨b, 0, none⟩ ∧ F = [b] ∧ b < w.heap.size ∧ ∀ j, j < l.length → w.cell? ⟨b, j, none⟩ = some (.int .i64 (nth l j))))
  keep := by
    rintro F S w w' (⟨g, h1, h2, h3⟩ | ⟨h1, h2 | ⟨b, h2, h3, h4, h5⟩⟩) m hS
    · exact .inl ⟨g, h1, h2, h3.keep m (by rw [← h2]; exact hS)⟩
    · exact .inr ⟨h1, .inl h2⟩
    · have hb : b ∉ S := hS b (by rw [h3]; exact List.mem_singleton_self _)
      exact .inr ⟨h1, .inr ⟨b, h2, h3, Nat.lt_of_lt_of_le h4 m.size, fun j hj => m.at (h5 j hj) hb⟩⟩
  lt := by
    rintro F w (⟨g, h1, h2, h3⟩ | ⟨h1, h2 | ⟨b, h2, h3, h4, h5⟩⟩) x hx
    · exact h3.lt x (by rw [← h2]; exact hx)
    · rw [h2.2] at hx; cases hx
    · rw [h3, List.mem_singleton] at hx; subst hx; exact h4
theorem kR.ints {a : Option Addr} {cap : Nat} {l : List Int} {F : List Nat} {w : World} (h : (kR a cap l).holds F w) : IsInts w a l := by
  rcases h with ⟨g, h1, h2, h3⟩ | ⟨h1, h2 | ⟨b, h2, h3, h4, h5⟩⟩
  · rw [h1]; exact h3.ints
  · exact .inl h2.1
  · exact .inr ⟨b, h2, h4, h5⟩
theorem kR.cap {a : Option Addr} {cap : Nat} {l : List Int} {F : List Nat} {w : World} (h : (kR a cap l).holds F w) (hl : l.length ≤ 1000) : l.length ≤ cap ∧ cap ≤ maxLen := by
  rcases h with ⟨g, h1, h2, h3⟩ | ⟨h1, _⟩
  · exact h3.cap
  · subst h1; exact ⟨Nat.le_refl _, by unfold maxLen; omega⟩
theorem kR.nil (w : World) : (kR none 0 []).holds [] w := .inl ⟨none, rfl, rfl, rfl, rfl⟩
def poolV (pg : Nat → Nat) : Array Value := blkV [] 12 (fun i => [.int .u8 (pg i : Nat)]) [.int .i64 12]
def headV (n : Nat) (a : Nat → Option Addr) (cap : Nat → Nat) (q : Nat → List Int) : Array Value := blkV [] n (fun c => [.slice (a c) (q c).length (cap c)]) []
structure StT.ok (t : StT) : Prop where
  n1 : 1 ≤ t.n
  n2 : t.n ≤ 64
  pg : ∀ i, t.pg i < 256
  len : ∀ c, (t.kept c).length ≤ 4
  bd : ∀ c id, id ∈ t.kept c → 1 ≤ id ∧ id ≤ 96
def stashL (b p g n : Nat) (pg : Nat → Nat) (a : Nat → Option Addr) (cap : Nat → Nat) (q : Nat → List Int) : List Res :=
  [Res.blk b (.cells #[.pointer (some ⟨p, 0, none⟩), .int .i64 12, .slice (some ⟨g, 0, none⟩) n n] 198 (0,0)), Res.blk p (.cells (poolV pg) 263 (0,0)), Res.blk g (.cells (headV n a cap q) 143 (0,0))] ++ thingsL n (fun c => kR (a c) (cap c) (q c))
structure StP where
  p : Nat
  g : Nat
  a : Nat → Option Addr
  cap : Nat → Nat
def stashR (b : Nat) (t : StT) : Res := Res.such t.ok (Res.ex fun x : StP => Res.star (stashL b x.p x.g t.n t.pg x.a x.cap t.kept))
def st0 (n : Nat) : StT := ⟨n, fun _ => 0, fun _ => []⟩
theorem st0_ok {n : Nat} (h1 : 1 ≤ n) (h2 : n ≤ 64) : (st0 n).ok := ⟨h1, h2, fun _ => by show 0 < 256; omega, fun _ => by show 0 ≤ 4; omega, fun _ _ h => by cases h⟩
theorem infoKept : (Tryz.prog.info? 143).map (fun i => (i.zero, i.size)) = some (some (.slice none 0 0), 1) := by kernel_rfl
theorem infoKeptB : ((Tryz.prog.info? 143).map (fun i => decide (i.bytes ≤ 1000))) = some true := by kernel_rfl
theorem make_kept (n : Nat) (h2 : n ≤ 64) (w : World) : (Instr.makeSlice 196 (.int .i64 n) (.int .i64 n)).run Tryz.prog w = .ok (.slice (some ⟨w.heap.size, 0, none⟩) n n) (w.alloc (.cells (headV n (fun _ => none) (fun _ => 0) (fun _ => [])) 143 (0,0))) := by
  obtain ⟨i, hi, hzz⟩ := Option.map_eq_some_iff.1 infoKept
  obtain ⟨i2, hi2, hb⟩ := Option.map_eq_some_iff.1 infoKeptB
  have : i2 = i := by rw [hi] at hi2; exact (Option.some.inj hi2).symm
  subst this
  simp only [Prod.mk.injEq] at hzz
  obtain ⟨hz, hs⟩ := hzz
  have hb2 := of_decide_eq_true hb
  have := Go.run_make (P := Tryz.prog) w 196 143 i2 _ Tryz.underlying196 hi hz .i64 .i64 n n (by omega) (by omega) (by have : (i2.bytes : Int) * n ≤ 1000 * 64 := Int.mul_le_mul (by omega) (by omega) (by omega) (by omega); omega) (by omega)
  rw [this, Int.toNat_natCast, hs]
  show Result.ok _ (w.alloc (.cells (madeCells [Value.slice none 0 0].toArray (n * 1)) 143)) = _
  rw [made_grid' [Value.slice none 0 0] 1 rfl (by decide) n]
  rfl
section
variable {F : List Nat} {w u : World} {b p g n : Nat} {pg : Nat → Nat} {a : Nat → Option Addr} {cap : Nat → Nat} {q : Nat → List Int} {t : StT}
theorem stash_view (h : (stashR b t).holds F w) : t.ok ∧ ∃ p g a cap, On F w (stashL b p g t.n t.pg a cap t.kept) w := by
  obtain ⟨h1, x, h2⟩ := h
  exact ⟨h1, x.p, x.g, x.a, x.cap, On.of h2⟩
theorem On.stOk (h : On F w (stashL b p g n pg a cap q) u) {t : StT} (hok : t.ok) (hn : t.n = n) (hp : t.pg = pg) (hq : t.kept = q) : Gain (stashR b t) F w u := by
  subst hn hp hq
  exact h.gains.imp fun F' h' => ⟨hok, ⟨p, g, a, cap⟩, h'⟩
theorem On.stC (h : On F w (stashL b p g n pg a cap q) u) : u.cell? ⟨b, 0, none⟩ = some (.pointer (some ⟨p, 0, none⟩)) ∧ u.cell? ⟨b, 2, none⟩ = some (.slice (some ⟨g, 0, none⟩) n n) := ⟨h.cell 0 rfl 0, h.cell 0 rfl 2⟩
theorem pool_New (w : World) : Calls Tryz.prog 95 #[.int .i64 12] w (TurnsV (fun d : Nat => .tuple #[.pointer (some ⟨d, 0, none⟩), .int .i64 0]) (fun d => Res.blk d (.cells (poolV fun _ => 0) 263 (0,0))) [] w) := by
  have hA := (On.start w).alloc (.cells (poolV fun _ => 0) 263 (0,0))
  have HA := Lib.hid hA.gain1
  clear hA
  go_enter Tryz.func95, Tryz.ntmps95
  go_wp2
  go_ret2
  exact ⟨w.heap.size, rfl, HA.out⟩
theorem stash_New (n : Nat) (h1 : 1 ≤ n) (h2 : n ≤ 64) (w : World) : Calls Tryz.prog 58 #[.int .i64 n, .int .i64 12] w (TurnsV (fun d : Nat => .tuple #[.pointer (some ⟨d, 0, none⟩), .int .i64 0]) (fun d => stashR d (st0 n)) [] w) := by
  have hmk := fun w => make_kept n h2 w
  have hP := (On.start w).make (pool_New w)
  go_enter Tryz.func58, Tryz.ntmps58
  go_wp2_with (
    go_at_call 95
    refine hP.mono ?_
    rintro e w1 ⟨p, rfl, hA⟩
    have hB : On [] w (stashL (w1.heap.size + 1) p w1.heap.size n (fun _ => 0) (fun _ => none) (fun _ => 0) (fun _ => [])) ((w1.alloc (.cells (headV n (fun _ => none) (fun _ => 0) (fun _ => [])) 143 (0,0))).alloc (.cells #[.pointer (some ⟨p, 0, none⟩), .int .i64 12, .slice (some ⟨w1.heap.size, 0, none⟩) n n] 198 (0,0))) := by
      have x1 := hA.alloc (.cells (headV n (fun _ => none) (fun _ => 0) (fun _ => [])) 143 (0,0))
      have x2 := (x1.alloc (.cells #[.pointer (some ⟨p, 0, none⟩), .int .i64 12, .slice (some ⟨w1.heap.size, 0, none⟩) n n] 198 (0,0))).front
      rw [sizeNew] at x2
      have hx : ∀ j : Nat, ∀ l : List Res, ∀ u, On [] w l u → On [] w (l ++ thingsL j (fun c => kR none 0 [])) u := by
        intro j
        induction j with
        | zero => intro l u h; unfold thingsL; rw [List.range_zero, List.map_nil, List.append_nil]; exact h
        | succ j ih =>
          intro l u h
          have := (ih l u h).more (P := kR none 0 []) (kR.nil _)
          unfold thingsL at *
          rw [List.range_succ, List.map_append, ← List.append_assoc]
          exact this
      exact hx n _ _ x2
    have hlen : (w1.alloc (.cells (headV n (fun _ => none) (fun _ => 0) (fun _ => [])) 143 (0,0))).heap.size = w1.heap.size + 1 := sizeNew _ _
    have HB := Lib.hid hB
    clear hB hA hP)
  go_ret2
  refine ⟨w1.heap.size + 1, by simp, ?_⟩
  exact HB.out.stOk (st0_ok h1 h2) rfl rfl rfl
theorem stash_may (k2 : u.cell? ⟨b, 2, none⟩ = some (.slice (some ⟨g, 0, none⟩) n n)) (cpu : Int) : Calls Tryz.prog 159 #[.pointer (some ⟨b, 0, none⟩), .int .i64 cpu] u (Ret (.int .i64 (if 0 ≤ cpu ∧ cpu < n then 0 else 3)) u) := by
  by_cases hi : 0 ≤ cpu ∧ cpu < n
  · rw [if_pos hi]
    obtain ⟨h1, h2⟩ := hi
    go_enter Tryz.func159, Tryz.ntmps159
    go_wp2
    go_ret
    exact Ret.of (rfl) (by repeat (first | exact Drew.refl _ | apply Drew.drewN | apply Drew.drew))
  · rw [if_neg hi]
    have h2 : cpu < 0 ∨ (¬ cpu < 0 ∧ (n : Int) ≤ cpu) := by omega
    clear hi
    rcases h2 with h2 | ⟨h1, h2⟩
    all_goals
      go_enter Tryz.func159, Tryz.ntmps159
      go_wp2
      go_ret
      exact Ret.of (rfl) (by repeat (first | exact Drew.refl _ | apply Drew.drewN | apply Drew.drew))
end
end Go.Proofs.YtaakgpnmfkmdoaaGreatDoor

/- The walks over package thread: Get, Place, Sleep, Wake, Aim. No condition but those named. -/
namespace Go.Proofs.YtaakgpnmfkmdoaaGreatDoor
set_option linter.unusedVariables false
set_option linter.unusedSimpArgs false
open Go.RowKit

theorem idsT_put {ids : List Nat} {T : Int → Option ThS} {id : Int} {x y : ThS} (hi : IdsT ids T) (hx : T id = some y) : IdsT ids (oput T id x) := by
  intro m
  rw [hi m]
  unfold oput
  by_cases e : (m : Int) = id
  · rw [if_pos e, e, hx]; simp
  · rw [if_neg e]
theorem ThT.ok.put {t : ThT} (h : t.ok) {id : Int} {x y : ThS} (hx : t.t id = some y) (hm : x.mask < 2 ^ 64) (hp : x.prio = y.prio) : (t.put id x).ok := by
  refine ⟨h.n1, h.n2, ?_, ?_, ?_⟩
  all_goals
    intro j z hz
    have hz : (if j = id then some x else t.t j) = some z := hz
    split at hz
  · rename_i e; subst e; exact h.bd _ _ hx
  · exact h.bd _ _ hz
  · cases hz; exact hm
  · exact h.msk _ _ hz
  · cases hz; rename_i e; rw [hp]; exact h.pr _ _ hx
  · exact h.pr _ _ hz
section
variable {F : List Nat} {w u : World} {b tb mb cnt : Nat} {ids : List Nat} {D : Nat → Nat} {n : Nat} {T : Int → Option ThS} {t : ThT}
set_option maxRecDepth 100000 in
theorem thread_Get (h : (threadR b t).holds F w) (id : Int) : Calls Tryz.prog 110 #[.pointer (some ⟨b, 0, none⟩), .int .i64 id] w (Nothing (.tuple #[.agg (thV (t.get id)).toArray, .int .i64 (t.getE id)]) w) := by
  obtain ⟨hok, tb, mb, cnt, ids, D, hI, hA⟩ := thread_view h
  have hC := hA.keep ((Mod.refl [] w).alloc (.cells #[.int .i64 0, .int .u64 0, .int .i64 0, .bool false, .bool false, .int .i64 0] 226 (0,0)))
  have hF := thread_find hC id
  have e0 : t.getE id = if (t.t id).isSome then 0 else 4 := rfl
  have eg : t.get id = (t.t id).getD th0 := rfl
  cases hx : t.t id with
  | none =>
    rw [hx] at e0 eg
    rw [thD_none hx, e0] at hF
    rw [e0, eg]
    clear hC hA h e0 eg
    go_enter Tryz.func110, Tryz.ntmps110
    go_wp2_with (go_at_call 200; refine hF.mono ?_; rintro e w' ⟨rfl, k, rfl⟩)
    refine bodyPost_ret_by (v := .tuple #[.agg #[.int .i64 0, .int .u64 0, .int .i64 0, .bool false, .bool false, .int .i64 0], .int .i64 4]) ?_ rfl ?_
    · rw [results_cell_tmp rfl]; go_simp
    · refine ⟨rfl, ?_⟩
      repeat (first | with_reducible exact Mod.refl _ _ | with_reducible apply Mod.alloc | with_reducible apply Mod.drewN | with_reducible apply Mod.drew | with_reducible refine Mod.setCell ?_ (by first | (simp; done) | (simp; omega)) _)
  | some x =>
    rw [hx] at e0 eg
    obtain ⟨h1, h2⟩ := hok.bd id x hx
    obtain ⟨k, rfl⟩ : ∃ k : Nat, id = (k : Int) + 1 := ⟨(id - 1).toNat, by omega⟩
    have hk : k < 32 := by omega
    have ek : ((k : Int) + 1 - 1).toNat = k := by omega
    rw [thD_some hx, e0, ek] at hF
    rw [e0, eg]
    have c0 := hC.thCell hk hx 0
    have c1 := hC.thCell hk hx 1
    have c2 := hC.thCell hk hx 2
    have c3 := hC.thCell hk hx 3
    have c4 := hC.thCell hk hx 4
    have c5 := hC.thCell hk hx 5
    simp only [thV, Option.getD_some, List.getElem?_cons_zero, List.getElem?_cons_succ] at c0 c1 c2 c3 c4 c5 ⊢
    generalize (k : Int) + 1 = id at *
    generalize D k = d at *
    clear hC hA h e0 eg hx hok
    obtain ⟨pr, mk, cp, fo, sl, ti⟩ := x
    simp only [] at *
    go_enter Tryz.func110, Tryz.ntmps110
    go_wp2_with (go_at_call 200; refine hF.mono ?_; rintro e w' ⟨rfl, k, rfl⟩)
    refine bodyPost_ret_by (v := .tuple #[.agg #[.int .i64 pr, .int .u64 (mk : Nat), .int .i64 cp, .bool fo, .bool sl, .int .i64 ti], .int .i64 0]) ?_ rfl ?_
    · rw [results_cell_tmp rfl]; go_simp
    · refine ⟨rfl, ?_⟩
      repeat (first | with_reducible exact Mod.refl _ _ | with_reducible apply Mod.alloc | with_reducible apply Mod.drewN | with_reducible apply Mod.drew | with_reducible refine Mod.setCell ?_ (by first | (simp; done) | (simp; omega)) _)
set_option maxRecDepth 100000 in
theorem thread_Place (h : (threadR b t).holds F w) (id cpu : Int) (f : Bool) : Calls Tryz.prog 198 #[.pointer (some ⟨b, 0, none⟩), .int .i64 id, .int .i64 cpu, .bool f] w (Turns (threadR b (t.place id cpu f)) F (.int .i64 (t.placeE id cpu)) w) := by
  obtain ⟨hok, tb, mb, cnt, ids, D, hI, hA⟩ := thread_view h
  have hF := thread_find hA id
  have e0 : t.getE id = if (t.t id).isSome then 0 else 4 := rfl
  cases hx : t.t id with
  | none =>
    rw [hx] at e0
    have e4 : t.getE id ≠ 0 := by rw [e0]; decide
    have e0' : t.getE id = 4 := e0
    rw [thD_none hx, e0'] at hF
    have H := Lib.hid (fun k => (hA.keep (u' := w.drewN k) ((Mod.refl _ _).drewN k)).threadOk hok rfl rfl hI)
    have eE : t.placeE id cpu = 4 := if_pos e4
    rw [show t.place id cpu f = t from if_neg (by rw [eE]; decide), eE]
    clear hA h e0 e4 e0' eE hx hok
    go_enter Tryz.func198, Tryz.ntmps198
    go_wp2_with (go_at_call 200; refine hF.mono ?_; rintro e w' ⟨rfl, k, rfl⟩)
    go_ret
    exact ⟨rfl, H.out _⟩
  | some x =>
    rw [hx] at e0
    obtain ⟨h1, h2⟩ := hok.bd id x hx
    obtain ⟨k, rfl⟩ : ∃ k : Nat, id = (k : Int) + 1 := ⟨(id - 1).toNat, by omega⟩
    have hk : k < 32 := by omega
    have ek : ((k : Int) + 1 - 1).toNat = k := by omega
    have e0' : t.getE ((k : Int) + 1) = 0 := e0
    have eg : t.get ((k : Int) + 1) = x := by unfold ThT.get; rw [hx]; rfl
    rw [thD_some hx, e0', ek] at hF
    obtain ⟨k0, k1, k2⟩ := hA.thC
    by_cases hi : cpu < 0 ∨ (t.n : Int) ≤ cpu
    · have eE : t.placeE ((k : Int) + 1) cpu = 3 := by unfold ThT.placeE; rw [if_neg (by rw [e0']; decide), if_pos hi]
      rw [show t.place ((k : Int) + 1) cpu f = t from if_neg (by rw [eE]; decide), eE]
      have H := Lib.hid (fun k => (hA.keep (u' := w.drewN k) ((Mod.refl _ _).drewN k)).threadOk hok rfl rfl hI)
      have hi2 : cpu < 0 ∨ (¬ cpu < 0 ∧ (t.n : Int) ≤ cpu) := by omega
      clear hA h e0 e0' eE hx hok hi eg
      generalize (k : Int) + 1 = id at *
      rcases hi2 with hi2 | ⟨hi1, hi2⟩
      all_goals
        go_enter Tryz.func198, Tryz.ntmps198
        go_wp2_with (go_at_call 200; refine hF.mono ?_; rintro e w' ⟨rfl, k, rfl⟩)
        go_ret
        exact ⟨rfl, H.out _⟩
    · have eE : t.placeE ((k : Int) + 1) cpu = 0 := by unfold ThT.placeE; rw [if_neg (by rw [e0']; decide), if_neg hi]
      rw [show t.place ((k : Int) + 1) cpu f = t.put ((k : Int) + 1) { x with cpu := cpu, forced := f } by unfold ThT.place; rw [if_pos eE, eg], eE]
      have hok2 := hok.put (x := { x with cpu := cpu, forced := f }) hx (show x.mask < 2 ^ 64 from hok.msk _ _ hx) rfl
      have hI2 := idsT_put (x := { x with cpu := cpu, forced := f }) hI hx
      have H := Lib.hid (fun k0 => ((hA.keep (u' := w.drewN k0) ((Mod.refl _ _).drewN k0)).thSet hk hx 2 (.int .i64 cpu) { x with cpu := cpu } rfl).thSet hk (x := { x with cpu := cpu }) (by unfold oput; rw [if_pos rfl]) 3 (.bool f) { x with cpu := cpu, forced := f } rfl)
      have c2 := hA.thCell hk hx 2
      have c3 := hA.thCell hk hx 3
      have f2 := hA.thFree hk hx 2
      have f3 := hA.thFree hk hx 3
      simp only [thV, List.getElem?_cons_zero, List.getElem?_cons_succ] at c2 c3
      have ho : oput (oput t.t ((k : Int) + 1) { x with cpu := cpu }) ((k : Int) + 1) { x with cpu := cpu, forced := f } = (t.put ((k : Int) + 1) { x with cpu := cpu, forced := f }).t := by
        funext j; unfold ThT.put oput; simp only []; split <;> rfl
      have HO := Lib.hid ho
      clear hA h e0 e0' eE eg ho
      have hi1 : ¬ cpu < 0 := by omega
      have hi2 : ¬ (t.n : Int) ≤ cpu := by omega
      generalize D k = d at *
      have HI := Lib.hid (And.intro hok2 hI2)
      clear hok2 hI2 hx hi
      go_enter Tryz.func198, Tryz.ntmps198
      go_wp2_with (go_at_call 200; refine hF.mono ?_; rintro e w' ⟨rfl, k, rfl⟩)
      go_ret
      have hE := H.out k
      rw [HO.out] at hE
      exact ⟨rfl, hE.threadOk HI.out.1 rfl rfl HI.out.2⟩
end
end Go.Proofs.YtaakgpnmfkmdoaaGreatDoor

/- The walk over prio.New. No condition but those named. -/
namespace Go.Proofs.YtaakgpnmfkmdoaaGreatDoor
set_option linter.unusedVariables false
set_option linter.unusedSimpArgs false
open Go.RowKit

set_option maxRecDepth 100000 in
set_option maxHeartbeats 1000000 in
theorem prio_New (most : Nat) (h1 : 1 ≤ most) (h2 : most ≤ 1024) (w : World) : Calls Tryz.prog 92 #[.int .i64 most] w (TurnsV (fun d : Nat => .tuple #[.pointer (some ⟨d, 0, none⟩), .int .i64 0]) (fun d => prioR d most []) [] w) := by
  have hmk := fun w => run_makeMap (P := Tryz.prog) 82 w
  have hB : On [] w ([Res.blk (w.heap.size + 1) (prioObj 0 (fun _ => 0) w.heap.size most), fmapR w.heap.size 0 (fun _ => none)] ++ thingsL 0 (fun i => fifoR 0 most []))
      ((w.alloc (.map #[] 0)).alloc (.cells #[.pointer none, .pointer none, .pointer none, .pointer none, .pointer none, .pointer none, .pointer none, .pointer none, .map (some w.heap.size), .int .i64 most] 252 (0,0))) := by
    have x1 := (On.start w).fmNew
    have x2 := (x1.alloc (.cells #[.pointer none, .pointer none, .pointer none, .pointer none, .pointer none, .pointer none, .pointer none, .pointer none, .map (some w.heap.size), .int .i64 most] 252 (0,0))).front
    rw [sizeNew] at x2
    exact x2
  have HB := Lib.hid hB
  clear hB
  go_enter Tryz.func92, Tryz.ntmps92
  go_wp2
  generalize hd : w.heap.size + 1 = d at *
  generalize hmb : w.heap.size = mb at *
  go_loopg [12] 8 (fun gg i wr => ∃ (j : Nat) (D : Nat → Nat), i = .int .i64 j ∧ j + gg = 8 ∧ On [] w ([Res.blk d (prioObj j D mb most), fmapR mb 0 (fun _ => none)] ++ thingsL j (fun i => fifoR (D i) most [])) wr)
  case atStart => exact ⟨0, fun _ => 0, rfl, by omega, HB.out⟩
  case round =>
    clear HB
    obtain ⟨j, D, rfl, hj, hB⟩ := hrel
    by_cases hlt : j < 8
    · have hltI : (j : Int) < 8 := by omega
      have hN := hB.make (fifo_New most h1 h2 wr)
      go_wp2_with (
          go_at_call 94
          refine hN.mono ?_
          rintro e w2 ⟨x, rfl, hC⟩
          have c1 : w2.cell? ⟨d, j, none⟩ = some (.pointer none) := by
            rw [hC.cell 0 rfl j, List.getElem?_toArray, List.getElem?_append_left (by rw [lvP_len]; exact hlt)]
            simp [lvP, hlt]
          have f1 : w2.frozen? ⟨d, j, none⟩ = false := hC.free 0 rfl j
          have s1 := hC.size 0 rfl
          have HC := Lib.hid hC
          clear hC hN hB
          )
      go_roundg (gk - 1)
      case measure => omega
      case rel =>
        refine ⟨j + 1, gupd D j x, by go_num, by omega, ?_⟩
        have hE := HC.out.set 0 rfl j (.pointer (some ⟨x, 0, none⟩))
        have e1 : ((lvP j D ++ [Value.map (some mb), Value.int .i64 most]).toArray).setIfInBounds j (.pointer (some ⟨x, 0, none⟩)) = (lvP (j + 1) (gupd D j x) ++ [Value.map (some mb), Value.int .i64 most]).toArray := by
          rw [List.setIfInBounds_toArray, List.set_append_left _ _ (by rw [lvP_len]; exact hlt), lvP_set _ _ hlt]
        have e2 := things_succ (fun i d => fifoR d most []) j x D
        rw [e2]
        rw [e1] at hE
        simpa [prioObj] using hE
    · have hltI : ¬ (j : Int) < 8 := by omega
      obtain rfl : j = 8 := by omega
      have HB := Lib.hid hB
      clear hB
      go_wp2
      go_ret2
      refine ⟨d, rfl, ?_⟩
      refine HB.out.gains.imp fun F' h' => ⟨⟨⟨by simp, by simp⟩, by simp, h1, h2⟩, ⟨mb, D⟩, ?_⟩
      exact h'
end Go.Proofs.YtaakgpnmfkmdoaaGreatDoor

/- The walk over runq.New. No condition but those named. -/
namespace Go.Proofs.YtaakgpnmfkmdoaaGreatDoor
set_option linter.unusedVariables false
set_option linter.unusedSimpArgs false
open Go.RowKit

theorem infoPQ : (Tryz.prog.info? 167).map (fun i => (i.zero, i.size, i.bytes)) = some (some (.pointer none), 1, 8) := by kernel_rfl
def rq0 (n : Nat) : RQ := ⟨n, fun _ => []⟩
theorem whr0 (n : Nat) (id : Int) : (rq0 n).whr id = none := by
  rw [RQ.whr_none]
  intro c hc
  rfl
theorem rq0_ok {n : Nat} (h1 : 1 ≤ n) (h2 : n ≤ 64) : (rq0 n).ok :=
  ⟨h1, h2, fun c => ⟨⟨List.Pairwise.nil, fun x hx => by cases hx⟩, by show 0 ≤ 32; omega, by omega, by omega⟩, fun c d id _ _ h _ => by cases h⟩
set_option maxRecDepth 100000 in
set_option maxHeartbeats 1000000 in
theorem runq_New (n : Nat) (h1 : 1 ≤ n) (h2 : n ≤ 64) (w : World) : Calls Tryz.prog 46 #[.int .i64 n] w (TurnsV (fun d : Nat => .tuple #[.pointer (some ⟨d, 0, none⟩), .int .i64 0]) (fun d => runqR d (rq0 n)) [] w) := by
  have hmk := fun w => run_makeMap (P := Tryz.prog) 82 w
  have hB : On [] w (runqL (w.heap.size + 1) none 0 w.heap.size 0 (fun _ => none) (fun _ => 0) 0 (fun _ => []))
      ((w.alloc (.map #[] 0)).alloc (.cells #[.slice none 0 0, .map (some w.heap.size)] 166 (0,0))) := by
    have x1 := (On.start w).fmNew
    have x2 := (x1.alloc (.cells #[.slice none 0 0, .map (some w.heap.size)] 166 (0,0))).front
    rw [sizeNew] at x2
    have x3 := x2.more (P := rowR 167 1 none 0 0 []) ⟨rfl, RAt.nil _ _ _⟩
    exact x3
  have HB := Lib.hid hB
  clear hB
  go_enter Tryz.func46, Tryz.ntmps46
  go_wp2
  generalize hd : w.heap.size + 1 = d at *
  generalize hmb : w.heap.size = mb at *
  go_loopg [17] n (fun gg i wr => ∃ (j : Nat) (g : Option Nat) (cap : Nat) (D : Nat → Nat), i = .int .i64 j ∧ j + gg = n ∧ On [] w (runqL d g cap mb 0 (fun _ => none) D j (fun _ => [])) wr)
  case atStart => exact ⟨0, none, 0, fun _ => 0, rfl, by omega, HB.out⟩
  case round =>
    clear HB
    obtain ⟨j, g, cap, D, rfl, hj, hB⟩ := hrel
    by_cases hlt : j < n
    · have hltI : (j : Int) < n := by omega
      have hN := hB.make (prio_New 32 (by omega) (by omega) wr)
      go_wp2_with (first
        | (
          go_at_call 92
          refine hN.mono ?_
          rintro e w2 ⟨x, rfl, hC⟩
          have c1 := hC.cell 0 rfl 0
          have hC2 := hC.keep (u' := w2.alloc (.cells #[.pointer (some ⟨x, 0, none⟩)] 167 (0,0))) ((Mod.refl _ _).alloc _)
          unfold runqL at hC2
          rw [List.append_nil] at hC2
          obtain ⟨g', cap', w3, hrun, hD⟩ := hC2.famMore (P := Tryz.prog) (tt := 164) (bytes := 8) Tryz.underlying164 infoPQ (by omega) (by omega) (b := w2.heap.size) (d := x) (heapNew _ _)
          have c3 := hD.cell 0 rfl 0
          have f3 := hD.free 0 rfl 0
          have z3 := hD.size 0 rfl
          have HD := Lib.hid hD
          clear hC hC2 hN hB hD
          )
        | (
          at_builtin
          refine wpList_append_run rfl _ _ _ rfl rfl rfl (hrun _) ?_
          )
        )
      have hE := HD.out.set 0 rfl 0 (.slice (some ⟨g', 0, none⟩) (j + 1) cap')
      go_roundg (gk - 1)
      case measure => omega
      case rel =>
        refine ⟨j + 1, some g', cap', gupd D j x, by go_num, by omega, ?_⟩
        have e : gupd (fun c => prioR (D c) 32 []) j (prioR x 32 []) = fun i => prioR (gupd D j x i) 32 [] := by
          funext i
          by_cases e : i = j
          · subst e; rw [gupd_same, gupd_same]
          · rw [gupd_ne _ _ e, gupd_ne _ _ e]
        rw [e] at hE
        unfold runqL
        rw [List.append_nil]
        exact hE
    · have hltI : ¬ (j : Int) < n := by omega
      obtain rfl : j = n := by omega
      have HB := Lib.hid hB
      clear hB
      go_wp2
      go_ret2
      have hw : (fun _ => none) = (rq0 j).whrI := by funext id; unfold RQ.whrI; rw [whr0]; rfl
      refine ⟨d, rfl, ?_⟩
      exact HB.out.runq (r := rq0 j) (rq0_ok h1 h2) rfl rfl hw
end Go.Proofs.YtaakgpnmfkmdoaaGreatDoor
