/- Several texts in one (each with its own sentence below). -/
import Derived.Test.YtaakgpnmfkmdoaaGreatDoorBaseM
import Derived.Test.YtaakgpnmfkmdoaaGreatDoorKAM
import Derived.Shelf.Spec.TrailingZeros
import Derived.Deep.OwnRows
import Derived.Test.YtaakgpnmfkmdoaaGreatDoorWheelRefM
import Derived.Test.YtaakgpnmfkmdoaaGreatDoorWheelM
import Derived.Test.YtaakgpnmfkmdoaaGreatDoorRows
import Derived.ProofKit
import Derived.LaidMore
import Derived.OpenShut
import Derived.FnData
import Derived.MakeChecks
/- A library's table of small numbers that is laid as listed: its cells. No condition. -/
namespace Go.Proofs.YtaakgpnmfkmdoaaGreatDoor
set_option linter.unusedVariables false
set_option linter.unusedSimpArgs false
open Go.RowKit

/-- The library's table lies in its variable. -/
def Tab (w : World) : Prop := Go.Proofs.TabAt (tzL_ren.g 1) Lib.deBruijn64tab w
theorem Tab.lt {w : World} (h : Tab w) : tzL_ren.g 1 < w.heap.size := ltOfCell (h 0 (by decide))
theorem Tab.keep {S : List Nat} {w w' : World} (h : Tab w) (m : Mod S w w') (hS : tzL_ren.g 1 ∉ S) : Tab w' := fun j hj => m.at (h j hj) hS
theorem Tab.drewN {w : World} (h : Tab w) (k : Nat) : Tab (w.drewN k) := h.keep (S := []) ((Mod.refl _ _).drewN k) (by simp)
theorem Tab.drew {w w' : World} (h : Tab w) (d : Drew w w') : Tab w' := h.keep (d.mod (S := [])) (by simp)

end Go.Proofs.YtaakgpnmfkmdoaaGreatDoor

/- Numbers that are given out (package slot): a table of bits is a list of numbers; the walks over New, Take, Give. -/
namespace Go.Proofs.YtaakgpnmfkmdoaaGreatDoor
set_option linter.unusedVariables false
set_option linter.unusedSimpArgs false
open Go.RowKit

/-- n is the least number from 1 on that is not in l. -/
def IsLow (l : List Nat) (n : Nat) : Prop := 1 ≤ n ∧ n ∉ l ∧ ∀ m, 1 ≤ m → m < n → m ∈ l
theorem IsLow.unique {l : List Nat} {n m : Nat} (h : IsLow l n) (g : IsLow l m) : n = m := by
  rcases Nat.lt_trichotomy n m with hh | hh | hh
  · exact absurd (g.2.2 n h.1 hh) h.2.1
  · exact hh
  · exact absurd (h.2.2 m g.1 hh) g.2.1
theorem sub_len {α : Type} [DecidableEq α] : ∀ (l m : List α), l.Nodup → (∀ x, x ∈ l → x ∈ m) → l.length ≤ m.length
  | [], m, _, _ => by simp
  | a :: l, m, hn, hs => by
    have ha := hs a List.mem_cons_self
    have hn' := List.nodup_cons.1 hn
    have := sub_len l (m.erase a) hn'.2 (fun x hx => by
      have hne : x ≠ a := fun e => hn'.1 (e ▸ hx)
      exact (List.mem_erase_of_ne hne).2 (hs x (List.mem_cons_of_mem _ hx)))
    rw [List.length_erase_of_mem ha] at this
    have : 0 < m.length := List.length_pos_of_mem ha
    simp only [List.length_cons]
    omega
def lowN (l : List Nat) : Nat := ((List.range (l.length + 1)).find? (fun k => !decide (k + 1 ∈ l))).getD 0 + 1
theorem low_exists (l : List Nat) : ∃ k, k ≤ l.length ∧ k + 1 ∉ l := by
  apply Classical.byContradiction
  intro h
  have h1 : ∀ k, k ≤ l.length → k + 1 ∈ l := fun k hk => Classical.byContradiction fun hn => h ⟨k, hk, hn⟩
  have := sub_len ((List.range (l.length + 1)).map (· + 1)) l (by
    refine List.Pairwise.map _ (fun a b hab h => hab (by omega)) (List.nodup_range) ) (fun x hx => by
    obtain ⟨k, hk, rfl⟩ := List.mem_map.1 hx
    exact h1 k (by have := List.mem_range.1 hk; omega))
  simp at this
  omega
theorem lowN_spec (l : List Nat) : IsLow l (lowN l) ∧ lowN l ≤ l.length + 1 := by
  unfold lowN
  cases hf : (List.range (l.length + 1)).find? (fun k => !decide (k + 1 ∈ l)) with
  | none =>
    exfalso
    obtain ⟨k, h1, h2⟩ := low_exists l
    have := List.find?_eq_none.1 hf k (List.mem_range.2 (by omega))
    simp at this
    exact h2 this
  | some k =>
    obtain ⟨h1, i, h2, h3, h4⟩ := List.find?_eq_some_iff_getElem.1 hf
    have hi : k = i := by simpa using h3.symm
    simp only [List.length_range] at h2
    simp only [Option.getD_some]
    refine ⟨⟨by omega, by simpa using h1, fun m hm hlt => ?_⟩, by omega⟩
    have := h4 (m - 1) (by omega)
    simp at this
    rwa [show m - 1 + 1 = m by omega] at this

/-- What the count of trailing zeros of a word's complement tells. -/
theorem ctz_not {x : Nat} (hx : x < 2 ^ 64) : (Lib.ctz 64 (2 ^ 64 - 1 - x) = 64 ∧ ∀ j, j < 64 → x.testBit j = true) ∨ (Lib.ctz 64 (2 ^ 64 - 1 - x) < 64 ∧ x.testBit (Lib.ctz 64 (2 ^ 64 - 1 - x)) = false ∧ ∀ j, j < Lib.ctz 64 (2 ^ 64 - 1 - x) → x.testBit j = true) := by
  have hb : ∀ j, j < 64 → (2 ^ 64 - 1 - x).testBit j = !x.testBit j := by
    intro j hj
    have := Nat.testBit_two_pow_sub_succ (n := 64) hx j
    rw [show 2 ^ 64 - 1 - x = 2 ^ 64 - (x + 1) by omega, this]
    simp [hj]
  by_cases h0 : 2 ^ 64 - 1 - x = 0
  · left
    rw [h0]
    refine ⟨rfl, fun j hj => ?_⟩
    have := hb j hj
    rw [h0] at this
    simpa using this.symm
  · right
    have hc : Lib.ctz 64 (2 ^ 64 - 1 - x) = Lib.ctzFrom 64 (2 ^ 64 - 1 - x) := by unfold Lib.ctz; rw [if_neg h0]
    obtain ⟨m, hm, hk⟩ := Lib.ctzFrom_spec 64 (2 ^ 64 - 1 - x) (by omega) (by omega)
    rw [hc]
    generalize Lib.ctzFrom 64 (2 ^ 64 - 1 - x) = k at *
    have ht : ∀ j, (2 ^ 64 - 1 - x).testBit j = (decide (k ≤ j) && (2 * m + 1).testBit (j - k)) := by
      intro j
      rw [hm, Nat.mul_comm, Nat.testBit_mul_two_pow]
    refine ⟨hk, ?_, fun j hj => ?_⟩
    · have h1 := ht k
      have h2 := hb k hk
      rw [h1] at h2
      simp [Nat.testBit_zero] at h2
      simpa using h2
    · have h1 := ht j
      have h2 := hb j (by omega)
      rw [h1] at h2
      have : decide (k ≤ j) = false := decide_eq_false (by omega)
      rw [this] at h2
      simpa using h2
theorem slot_tz (x : Nat) (hx : x < 2 ^ 64) (w : World) (hT : Tab w) : Calls Tryz.prog 217 #[.int .u64 x] w (Ret (.int .i64 (Lib.ctz 64 x)) w) := by
  refine Calls.mono (show Calls Tryz.prog 217 _ _ _ from Any7.bits_TrailingZeros64 tzL x (by omega) w (fun _ => hT)) ?_
  rintro e w' ⟨rfl, rfl⟩
  exact ⟨rfl, Drew.refl _⟩
theorem infoU64 : (Tryz.prog.info? 28).map (fun i => (i.zero, i.size, i.bytes)) = some (some (.int .u64 0), 1, 8) := by kernel_rfl
/-- A table of at most 64 numbers, of which ids are given out: one word of bits. -/
structure SlotOk (most : Nat) (ids : List Nat) : Prop where
  most1 : 1 ≤ most
  most2 : most ≤ 64
  nodup : ids.Nodup
  bd : ∀ n, n ∈ ids → 1 ≤ n ∧ n ≤ most
theorem SlotOk.len {most : Nat} {ids : List Nat} (h : SlotOk most ids) : ids.length ≤ most := by
  have := sub_len ids ((List.range most).map (· + 1)) h.nodup (fun x hx => by
    obtain ⟨h1, h2⟩ := h.bd x hx
    exact List.mem_map.2 ⟨x - 1, List.mem_range.2 (by omega), by omega⟩)
  simpa using this
structure WordOk (x : Nat) (ids : List Nat) : Prop where
  lt : x < 2 ^ 64
  bit : ∀ j, j < 64 → x.testBit j = decide (j + 1 ∈ ids)
def slotObj (r most : Nat) (ids : List Nat) : Obj := .cells #[.slice (some ⟨r, 0, none⟩) 1 1, .int .i64 most, .int .i64 ids.length] 249 (0,0)
def wordObj (x : Nat) : Obj := .cells #[.int .u64 (x : Nat)] 28 (0,0)
def slotR (t most : Nat) (ids : List Nat) : Res :=
  Res.such (SlotOk most ids) (Res.ex fun r : Nat => Res.ex fun x : Nat => Res.such (WordOk x ids) (Res.star [Res.blk t (slotObj r most ids), Res.blk r (wordObj x)]))
theorem madeU1 : madeCells #[Value.int .u64 0] 1 = #[.int .u64 0] := by kernel_rfl
set_option maxRecDepth 100000 in
theorem slot_New (n : Nat) (h1 : 1 ≤ n) (h2 : n ≤ 64) (w : World) : Calls Tryz.prog 91 #[.int .i64 n] w (TurnsV (fun t : Nat => .tuple #[.pointer (some ⟨t, 0, none⟩), .int .i64 0]) (fun t => slotR t n []) [] w) := by
  obtain ⟨k, hk⟩ : ∃ k : Nat, k = 1 := ⟨_, rfl⟩
  have hmk := fun w => Go.run_make_row' (P := Tryz.prog) 247 28 (.int .u64 0) 8 Tryz.underlying247 infoU64 rfl .i64 .i64 k (by omega) (by omega) w
  rw [show (k : Int) = ((n : Int) + 64 - 1) / 64 by omega] at hmk
  have hk9 : ((n : Int) + 64 - 1) / 64 = 1 := by omega
  have HK := Lib.hid (And.intro hk hk9)
  clear hk hk9
  go_enter Tryz.func91, Tryz.ntmps91
  go_wp2
  go_ret2
  obtain ⟨hk, hk9⟩ := HK.out
  subst hk
  simp only [madeU1, hk9]
  refine ⟨w.heap.size + 1, rfl, [w.heap.size + 1, w.heap.size], ⟨⟨h1, h2, by simp, by simp⟩, w.heap.size, 0, ⟨by omega, by simp⟩, [w.heap.size + 1], [w.heap.size], rfl, ⟨rfl, ?_⟩, ⟨[w.heap.size], [], rfl, ⟨rfl, ?_⟩, rfl, by simp⟩, by simp⟩, Mod.alloc (Mod.alloc (Mod.refl _ _) _) _, by simp⟩
  · have := heapNew (w.alloc (Obj.cells (madeCells #[Value.int .u64 0] 1) 28)) (Obj.cells #[.slice (some ⟨w.heap.size, 0, none⟩) 1 1, .int .i64 n, .int .i64 0] 249)
    rw [madeU1] at this
    simpa [slotObj, hk9] using this
  · have := heapOld (o := Obj.cells #[.slice (some ⟨w.heap.size, 0, none⟩) 1 1, .int .i64 n, .int .i64 0] 249) (heapNew w (Obj.cells (madeCells #[Value.int .u64 0] 1) 28))
    rw [madeU1] at this
    simpa [wordObj, hk9] using this
theorem not_u64 (x : Nat) (hx : x < 2 ^ 64) : bits .xor .u64 IntKind.u64.max (x : Int) = ((2 ^ 64 - 1 - x : Nat) : Int) := by
  have h1 : BitVec.ofInt 64 IntKind.u64.max = BitVec.allOnes 64 := by decide
  have h2 : (BitVec.ofInt 64 (x : Int)).toNat = x := by
    rw [BitVec.ofInt_natCast, BitVec.toNat_ofNat]; exact Nat.mod_eq_of_lt (by omega)
  show IntKind.u64.wrap ((BitVec.ofInt 64 IntKind.u64.max ^^^ BitVec.ofInt 64 (x : Int)).toNat : Int) = _
  rw [h1, BitVec.allOnes_xor, BitVec.toNat_not, h2]
  exact wrapU _ (by omega)
theorem or_u64 (x z : Nat) (hx : x < 2 ^ 64) (hz : z < 64) : bits .or .u64 (x : Int) (IntKind.u64.wrap (2 ^ z)) = ((x ||| 2 ^ z : Nat) : Int) := by
  have hp : (2 : Nat) ^ z < 2 ^ 64 := pow_lt hz
  have e : IntKind.u64.wrap (2 ^ z) = ((2 ^ z : Nat) : Int) := by
    have := wrapU (2 ^ z) hp
    rwa [Int.natCast_pow] at this
  rw [e]
  have h1 : (BitVec.ofInt 64 (x : Int)).toNat = x := by
    rw [BitVec.ofInt_natCast, BitVec.toNat_ofNat]; exact Nat.mod_eq_of_lt hx
  have h2 : (BitVec.ofInt 64 ((2 ^ z : Nat) : Int)).toNat = 2 ^ z := by
    rw [BitVec.ofInt_natCast, BitVec.toNat_ofNat]; exact Nat.mod_eq_of_lt hp
  show IntKind.u64.wrap ((BitVec.ofInt 64 (x : Int) ||| BitVec.ofInt 64 ((2 ^ z : Nat) : Int)).toNat : Int) = _
  rw [BitVec.toNat_or, h1, h2]
  exact wrapU _ (Nat.or_lt_two_pow hx hp)
set_option maxRecDepth 100000 in
theorem slot_Take_full (t most : Nat) (ids F : List Nat) (w : World) (h : (slotR t most ids).holds F w) (hf : ids.length = most) : Calls Tryz.prog 132 #[.pointer (some ⟨t, 0, none⟩)] w (Ret (.tuple #[.int .i64 0, .int .i64 5]) w) := by
  obtain ⟨hok, r, x, hx, hst⟩ := h
  have hA : On F w [Res.blk t (slotObj r most ids), Res.blk r (wordObj x)] w := On.of hst
  have c1 : w.cell? ⟨t, 1, none⟩ = some (.int .i64 most) := hA.cell 0 rfl 1
  have c2 : w.cell? ⟨t, 2, none⟩ = some (.int .i64 ids.length) := hA.cell 0 rfl 2
  rw [hf] at c2
  clear hok hx hst hA hf
  go_enter Tryz.func132, Tryz.ntmps132
  go_wp2
  go_quiet (fail)
  go_wp2
  go_ret2
  exact Ret.of (rfl) (by repeat (first | exact Drew.refl _ | apply Drew.drewN | apply Drew.drew))
set_option maxRecDepth 100000 in
set_option maxHeartbeats 1000000 in
theorem slot_Take (t most : Nat) (ids F : List Nat) (w : World) (h : (slotR t most ids).holds F w) (hT : Tab w) (hf : ids.length ≠ most) : Calls Tryz.prog 132 #[.pointer (some ⟨t, 0, none⟩)] w (Turns (slotR t most (lowN ids :: ids)) F (.tuple #[.int .i64 (lowN ids), .int .i64 0]) w) := by
  obtain ⟨hok, r, x, hx, hst⟩ := h
  have hA : On F w [Res.blk t (slotObj r most ids), Res.blk r (wordObj x)] w := On.of hst
  have hlen := hok.len
  have hm2 := hok.most2
  have c0 : w.cell? ⟨t, 0, none⟩ = some (.slice (some ⟨r, 0, none⟩) 1 1) := hA.cell 0 rfl 0
  have c1 : w.cell? ⟨t, 1, none⟩ = some (.int .i64 most) := hA.cell 0 rfl 1
  have c2 : w.cell? ⟨t, 2, none⟩ = some (.int .i64 ids.length) := hA.cell 0 rfl 2
  have f2 : w.frozen? ⟨t, 2, none⟩ = false := hA.free 0 rfl 2
  have d0 : w.cell? ⟨r, 0, none⟩ = some (.int .u64 (x : Nat)) := hA.cell 1 rfl 0
  have e0 : w.frozen? ⟨r, 0, none⟩ = false := hA.free 1 rfl 0
  have htr := hA.ne 0 1 (by decide) rfl rfl
  have hne : ((ids.length : Int) == most) = false := by simp; omega
  obtain ⟨hlow, hlow2⟩ := lowN_spec ids
  have hltx := hx.lt
  have hz := fun u hu => slot_tz (2 ^ 64 - 1 - x) (by omega) u hu
  have hcz := ctz_not hltx
  generalize hzz : Lib.ctz 64 (2 ^ 64 - 1 - x) = z at *
  have hzl : z < 64 ∧ z + 1 = lowN ids := by
    have hbit := hx.bit
    rcases hcz with ⟨rfl, hj⟩ | ⟨hz64, hzf, hj⟩
    · exfalso
      have h1 := hj (lowN ids - 1) (by omega)
      rw [hbit _ (by omega)] at h1
      have h2 := of_decide_eq_true h1
      rw [show lowN ids - 1 + 1 = lowN ids by have := hlow.1; omega] at h2
      exact hlow.2.1 h2
    · refine ⟨hz64, ?_⟩
      refine IsLow.unique (l := ids) ⟨by omega, ?_, fun m hm hlt => ?_⟩ hlow
      · have := hbit z hz64
        rw [hzf] at this
        exact of_decide_eq_false this.symm
      · have h1 := hj (m - 1) (by omega)
        rw [hbit _ (by omega)] at h1
        have h2 := of_decide_eq_true h1
        rwa [show m - 1 + 1 = m by omega] at h2
  obtain ⟨hz64, hzlow⟩ := hzl
  have hc := not_u64 x hltx
  rw [← hc] at hz
  clear hcz hzz hc
  obtain ⟨len, hL⟩ : ∃ n, n = ids.length := ⟨_, rfl⟩
  have HL := Lib.hid hL
  rw [← hL] at c2 hne hlen hlow2 hf
  clear hL
  go_enter Tryz.func132, Tryz.ntmps132
  go_wp2
  go_quiet (fail)
  go_wp2
  go_loopg [25] 1 (fun gg i wr => i = .int .i64 0 ∧ gg = 1 ∧ wr = w.drewN nq)
  case atStart => exact ⟨rfl, rfl, rfl⟩
  case round =>
    obtain ⟨rfl, hg1, rfl⟩ := hrel
    go_wp2_with (go_at_call 217; refine (hz _ (hT.drewN _)).mono ?_; rintro e w' ⟨rfl, k1, rfl⟩)
    go_region
    go_wp2
    go_ret2
    have hv : bits .or .u64 (x : Int) (IntKind.u64.wrap (2 ^ z)) = ((x ||| 2 ^ z : Nat) : Int) := or_u64 x z hltx hz64
    have hlenv : len = ids.length := HL.out
    subst hlenv
    rw [hv]
    have hB := ((hA.keep (u' := w.drewN (nq + k1 + 1)) ((Mod.refl _ _).drewN _)).set 1 rfl 0 (.int .u64 (x ||| 2 ^ z : Nat))).set 0 rfl 2 (.int .i64 ((ids.length : Int) + 1))
    refine ⟨by rw [← hzlow]; rfl, hB.gains.imp fun F' h' => ⟨⟨hok.most1, hok.most2, ?_, ?_⟩, r, x ||| 2 ^ z, ⟨Nat.or_lt_two_pow hltx (pow_lt hz64), ?_⟩, ?_⟩⟩
    · exact List.nodup_cons.2 ⟨hlow.2.1, hok.nodup⟩
    · intro n hn
      rcases List.mem_cons.1 hn with rfl | hn
      · exact ⟨hlow.1, by omega⟩
      · exact hok.bd n hn
    · intro j hj
      rw [Nat.testBit_or, hx.bit j hj, Nat.testBit_two_pow]
      by_cases e : z = j
      · subst e; simp [hzlow]
      · have e1 : ¬ (j + 1 = lowN ids) := by omega
        simp [e, e1]
    · simpa [slotObj, wordObj] using h'

theorem bit_pow (n most : Nat) (h1 : 1 ≤ n) (h2 : n ≤ 64) : IntKind.u64.wrap (2 ^ (n - 1)) = ((2 ^ (n - 1) : Nat) : Int) := by
  have := wrapU (2 ^ (n - 1)) (pow_lt (by omega))
  rwa [Int.natCast_pow] at this
/-- The bit of a number that can be. -/
theorem slot_bit_yes (t r most : Nat) (n : Nat) (w : World) (c0 : w.cell? ⟨t, 0, none⟩ = some (.slice (some ⟨r, 0, none⟩) 1 1)) (c1 : w.cell? ⟨t, 1, none⟩ = some (.int .i64 most)) (h1 : 1 ≤ n) (h2 : n ≤ most) (h3 : most ≤ 64) :
    Calls Tryz.prog 304 #[.pointer (some ⟨t, 0, none⟩), .int .i64 n] w (Ret (.tuple #[.pointer (some ⟨r, 0, none⟩), .int .u64 (2 ^ (n - 1) : Nat)]) w) := by
  have hw := bit_pow n most h1 (by omega)
  have hd : ((n : Int) - 1).tdiv 64 = 0 := by rw [Int.tdiv_eq_ediv_of_nonneg (by omega)]; omega
  have hm : ((n : Int) - 1).tmod 64 = ((n - 1 : Nat) : Int) := by rw [Int.tmod_eq_emod_of_nonneg (by omega)]; omega
  go_enter Tryz.func304, Tryz.ntmps304
  go_wp2
  go_quiet (fail)
  go_wp2
  go_ret2
  refine ⟨?_, (Drew.refl _).drewN _⟩
  rw [Int.natCast_pow]
  rfl
theorem slot_bit_no (t most : Nat) (n : Int) (w : World) (c1 : w.cell? ⟨t, 1, none⟩ = some (.int .i64 most)) (h : ¬ (1 ≤ n ∧ n ≤ most)) :
    Calls Tryz.prog 304 #[.pointer (some ⟨t, 0, none⟩), .int .i64 n] w (Ret (.tuple #[.pointer none, .int .u64 0]) w) := by
  by_cases h1 : n < 1
  · clear h
    go_enter Tryz.func304, Tryz.ntmps304
    go_wp2
    go_ret2
    exact Ret.of (rfl) (by repeat (first | exact Drew.refl _ | apply Drew.drewN | apply Drew.drew))
  · have h2 : (most : Int) < n := by omega
    clear h
    go_enter Tryz.func304, Tryz.ntmps304
    go_wp2
    go_ret2
    exact Ret.of (rfl) (by repeat (first | exact Drew.refl _ | apply Drew.drewN | apply Drew.drew))
theorem and_pow (x z : Nat) : (x &&& 2 ^ z = 0) ↔ x.testBit z = false := by
  constructor
  · intro h
    have := congrArg (fun n => n.testBit z) h
    simpa [Nat.testBit_and, Nat.testBit_two_pow] using this
  · intro h
    apply Nat.eq_of_testBit_eq
    intro j
    rw [Nat.testBit_and, Nat.testBit_two_pow]
    by_cases e : z = j
    · subst e; simp [h]
    · simp [e]
theorem andNot_u64 (x z : Nat) (hx : x < 2 ^ 64) (hz : z < 64) (hb : x.testBit z = true) : bits .andNot .u64 (x : Int) ((2 ^ z : Nat) : Int) = ((x ^^^ 2 ^ z : Nat) : Int) := by
  have hp : (2 : Nat) ^ z < 2 ^ 64 := pow_lt hz
  have hxx : x ^^^ 2 ^ z < 2 ^ 64 := Nat.xor_lt_two_pow hx hp
  have key : (BitVec.ofInt 64 (x : Int) &&& ~~~ (BitVec.ofInt 64 ((2 ^ z : Nat) : Int))) = BitVec.ofNat 64 (x ^^^ 2 ^ z) := by
    rw [BitVec.ofInt_natCast, BitVec.ofInt_natCast]
    apply BitVec.eq_of_getLsbD_eq
    intro i hi
    simp only [BitVec.getLsbD_and, BitVec.getLsbD_not, BitVec.getLsbD_ofNat, hi, decide_true, Bool.true_and, Nat.testBit_xor, Nat.testBit_two_pow]
    by_cases e : z = i
    · subst e; simp [hb]
    · simp [e]
  show IntKind.u64.wrap ((BitVec.ofInt 64 (x : Int) &&& ~~~ (BitVec.ofInt 64 ((2 ^ z : Nat) : Int))).toNat : Int) = _
  rw [key, BitVec.toNat_ofNat, Nat.mod_eq_of_lt hxx]
  exact wrapU _ hxx
set_option maxRecDepth 100000 in
set_option maxHeartbeats 1000000 in
theorem slot_Give_no (t most : Nat) (ids F : List Nat) (w : World) (h : (slotR t most ids).holds F w) (n : Int) (hn : n.toNat ∉ ids ∨ n < 1) : Calls Tryz.prog 256 #[.pointer (some ⟨t, 0, none⟩), .int .i64 n] w (Ret (.int .i64 4) w) := by
  obtain ⟨hok, r, x, hx, hst⟩ := h
  have hA : On F w [Res.blk t (slotObj r most ids), Res.blk r (wordObj x)] w := On.of hst
  have hm2 := hok.most2
  have c0 : w.cell? ⟨t, 0, none⟩ = some (.slice (some ⟨r, 0, none⟩) 1 1) := hA.cell 0 rfl 0
  have c1 : w.cell? ⟨t, 1, none⟩ = some (.int .i64 most) := hA.cell 0 rfl 1
  have d0 : w.cell? ⟨r, 0, none⟩ = some (.int .u64 (x : Nat)) := hA.cell 1 rfl 0
  by_cases hr : 1 ≤ n ∧ n ≤ most
  · obtain ⟨m, rfl⟩ := Int.eq_ofNat_of_zero_le (show 0 ≤ n by omega)
    have hmem : m ∉ ids := by
      rcases hn with hn | hn
      · simpa using hn
      · omega
    have hc := slot_bit_yes t r most m w c0 c1 (by omega) (by omega) hm2
    have hand : bits .and .u64 (x : Int) ((2 ^ (m - 1) : Nat) : Int) = 0 := by
      rw [bits_and_u64_nat x _ hx.lt (pow_lt (by omega))]
      have : x &&& 2 ^ (m - 1) = 0 := (and_pow _ _).2 (by rw [hx.bit (m - 1) (by omega), show m - 1 + 1 = m by omega]; simpa using hmem)
      rw [this]; rfl
    clear hok hx hst hA hn hmem hr
    generalize ((2 ^ (m - 1) : Nat) : Int) = bb at *
    go_enter Tryz.func256, Tryz.ntmps256
    go_wp2_with (go_at_call 304; refine hc.mono ?_; rintro e w' ⟨rfl, k1, rfl⟩)
    go_ret
    exact Ret.of (rfl) (by repeat (first | exact Drew.refl _ | apply Drew.drewN | apply Drew.drew))
  · have hc := slot_bit_no t most n w c1 hr
    clear hok hx hst hA hn hr
    go_enter Tryz.func256, Tryz.ntmps256
    go_wp2_with (go_at_call 304; refine hc.mono ?_; rintro e w' ⟨rfl, k1, rfl⟩)
    go_ret
    exact Ret.of (rfl) (by repeat (first | exact Drew.refl _ | apply Drew.drewN | apply Drew.drew))
set_option maxRecDepth 100000 in
set_option maxHeartbeats 1000000 in
theorem slot_Give (t most : Nat) (ids F : List Nat) (w : World) (h : (slotR t most ids).holds F w) (m : Nat) (hmem : m ∈ ids) : Calls Tryz.prog 256 #[.pointer (some ⟨t, 0, none⟩), .int .i64 m] w (Turns (slotR t most (ids.erase m)) F (.int .i64 0) w) := by
  obtain ⟨hok, r, x, hx, hst⟩ := h
  have hA : On F w [Res.blk t (slotObj r most ids), Res.blk r (wordObj x)] w := On.of hst
  have hm2 := hok.most2
  obtain ⟨hb1, hb2⟩ := hok.bd m hmem
  have c0 : w.cell? ⟨t, 0, none⟩ = some (.slice (some ⟨r, 0, none⟩) 1 1) := hA.cell 0 rfl 0
  have c1 : w.cell? ⟨t, 1, none⟩ = some (.int .i64 most) := hA.cell 0 rfl 1
  have c2 : w.cell? ⟨t, 2, none⟩ = some (.int .i64 ids.length) := hA.cell 0 rfl 2
  have f2 : w.frozen? ⟨t, 2, none⟩ = false := hA.free 0 rfl 2
  have d0 : w.cell? ⟨r, 0, none⟩ = some (.int .u64 (x : Nat)) := hA.cell 1 rfl 0
  have e0 : w.frozen? ⟨r, 0, none⟩ = false := hA.free 1 rfl 0
  have htr := hA.ne 0 1 (by decide) rfl rfl
  have hc := slot_bit_yes t r most m w c0 c1 hb1 hb2 hm2
  have hbt : x.testBit (m - 1) = true := by rw [hx.bit (m - 1) (by omega), show m - 1 + 1 = m by omega]; simpa using hmem
  have hand : ∃ q : Int, bits .and .u64 (x : Int) ((2 ^ (m - 1) : Nat) : Int) = q ∧ (q == 0) = false := by
    refine ⟨_, bits_and_u64_nat x _ hx.lt (pow_lt (by omega)), ?_⟩
    have : ¬ (x &&& 2 ^ (m - 1) = 0) := fun h => by rw [(and_pow _ _).1 h] at hbt; cases hbt
    simp; omega
  obtain ⟨q, hq, hq0⟩ := hand
  have hno := andNot_u64 x (m - 1) hx.lt (by omega) hbt
  have hpos : 0 < ids.length := List.length_pos_of_mem hmem
  have hle : (ids.erase m).length = ids.length - 1 := List.length_erase_of_mem hmem
  generalize hbb : ((2 ^ (m - 1) : Nat) : Int) = bb at *
  obtain ⟨y, hy⟩ : ∃ y, y = x ^^^ 2 ^ (m - 1) := ⟨_, rfl⟩
  rw [← hy] at hno
  have HY := Lib.hid hy
  have HL := Lib.hid hle
  have hlen := hok.len
  clear hy hbt hle hbb
  go_enter Tryz.func256, Tryz.ntmps256
  go_wp2_with (go_at_call 304; refine hc.mono ?_; rintro e w' ⟨rfl, k1, rfl⟩)
  go_ret
  have hB := ((hA.keep (u' := w.drewN k1) ((Mod.refl _ _).drewN _)).set 1 rfl 0 (.int .u64 (y : Nat))).set 0 rfl 2 (.int .i64 ((ids.length : Int) - 1))
  refine ⟨rfl, hB.gains.imp fun F' h' => ⟨⟨hok.most1, hok.most2, hok.nodup.erase m, fun n hn => hok.bd n (List.mem_of_mem_erase hn)⟩, r, y, ⟨?_, ?_⟩, ?_⟩⟩
  · rw [HY.out]; exact Nat.xor_lt_two_pow hx.lt (pow_lt (by omega))
  · intro j hj
    rw [HY.out, Nat.testBit_xor, hx.bit j hj, Nat.testBit_two_pow]
    have hme := hok.nodup.mem_erase_iff (a := j + 1) (b := m)
    by_cases e : m - 1 = j
    · have e2 : j + 1 = m := by omega
      rw [e2] at hme ⊢
      simp [hme, hmem, e]
    · have e1 : ¬ (j + 1 = m) := by omega
      simp [hme, e, e1]
  · have e1 : ((ids.length : Int) - 1) = (((ids.erase m).length : Nat) : Int) := by rw [HL.out]; omega
    simp only [slotObj]
    rw [← e1]
    simpa [wordObj] using h'
end Go.Proofs.YtaakgpnmfkmdoaaGreatDoor

/- Timers on cores, in plain words: what each core has, in order; what is done to it; when a table, a map and wheels hold the same. No program in sight but the words of the wheels' law. -/
namespace Go.Proofs.YtaakgpnmfkmdoaaGreatDoor
set_option linter.unusedVariables false
set_option linter.unusedSimpArgs false
open Go.RowKit

structure TA where
  n : Nat
  now : Nat
  L : Nat → List (Int × Nat)
def TA.is (A : TA) (cpu : Int) : Prop := 0 ≤ cpu ∧ cpu < A.n
instance instTimerA1 (A : TA) (cpu : Int) : Decidable (A.is cpu) := by unfold TA.is; infer_instance
def TA.whr (A : TA) (id : Int) : Option Nat := (List.range A.n).find? fun c => (dget (A.L c) id).isSome
def TA.keys (A : TA) : List Nat := (List.range A.n).flatMap fun c => (A.L c).map fun p => p.1.toNat
def TA.low (A : TA) : Nat := lowN A.keys
def TA.armE (A : TA) (cpu due : Int) : Int := if ¬ A.is cpu then 3 else if ¬ tickOk due then 2 else if 48 < A.low then 5 else 0
def TA.armV (A : TA) (cpu due : Int) : Int := if A.armE cpu due = 0 then A.low else 0
def TA.put (A : TA) (c : Nat) (l : List (Int × Nat)) : TA := { A with L := upd A.L c l }
def TA.arm (A : TA) (cpu due : Int) : TA := if A.armE cpu due = 0 then A.put cpu.toNat (insL (A.L cpu.toNat) A.low due.toNat) else A
def TA.cancelE (A : TA) (id : Int) : Int := if (A.whr id).isSome then 0 else 4
def TA.cancel (A : TA) (id : Int) : TA := match A.whr id with | some c => A.put c (ddel (A.L c) id) | none => A
def TA.goE (A : TA) (t : Int) : Int := rgoE A.now t
def TA.go (A : TA) (t : Int) : TA := { A with now := rgo A.now t }
def TA.due (A : TA) (cpu : Int) : List (Int × Nat) := dueL A.now (A.L cpu.toNat)
def TA.fireE (A : TA) (cpu : Int) : Int := if ¬ A.is cpu then 3 else if A.due cpu = [] then 12 else 0
def TA.fireV (A : TA) (cpu : Int) : Int := if A.fireE cpu = 0 then (nthP (A.due cpu) 0).1 else 0
def TA.fire (A : TA) (cpu : Int) : TA := if A.fireE cpu = 0 then A.put cpu.toNat (ddel (A.L cpu.toNat) (A.fireV cpu)) else A
def TA.ready (A : TA) (cpu : Int) : Bool := decide (A.is cpu) && !(A.due cpu).isEmpty
def TA.nextE (A : TA) (cpu : Int) : Int := if ¬ A.is cpu then 3 else rnextE (A.L cpu.toNat)
def TA.nextV (A : TA) (cpu : Int) : Int := if ¬ A.is cpu then 0 else (rnextV (A.L cpu.toNat) : Nat)
def TA.whereV (A : TA) (id : Int) : Int := ((A.whr id).getD 0 : Nat)
def TA.whenV (A : TA) (id : Int) : Int := match A.whr id with | some c => ((dget (A.L c) id).getD 0 : Nat) | none => 0
def TA.list (A : TA) (cpu : Int) : List Int := if A.is cpu then idsOf (A.L cpu.toNat) else []
def TA.moveE (A : TA) (c d : Int) : Int := if ¬ A.is c ∨ ¬ A.is d then 3 else if c = d then 2 else if A.L c.toNat = [] then 12 else 0
def TA.moveV (A : TA) (c d : Int) : Int := if A.moveE c d = 0 then (nthP (A.L c.toNat) 0).1 else 0
def TA.move (A : TA) (c d : Int) : TA :=
  if A.moveE c d = 0 then (A.put c.toNat (ddel (A.L c.toNat) (A.moveV c d))).put d.toNat (insL (A.L d.toNat) (A.moveV c d) (nthP (A.L c.toNat) 0).2) else A

/-- What the program's timers hold. -/
structure TS where
  n : Nat
  ids : List Nat
  whr : List (Int × Nat)
  s : Nat → SW
structure TSim (t : TS) (A : TA) : Prop where
  n : t.n = A.n
  n1 : 1 ≤ A.n
  n2 : A.n ≤ 64
  slot : SlotOk 48 t.ids
  nodup : (t.whr.map (·.1)).Nodup
  sim : ∀ c, c < A.n → Sim (t.s c) (A.L c)
  now : ∀ c, c < A.n → (t.s c).now = A.now
  whr : ∀ id c, dget t.whr id = some c ↔ c < A.n ∧ (dget (A.L c) id).isSome = true
  ids : ∀ id : Int, (dget t.whr id).isSome = true ↔ 1 ≤ id ∧ id.toNat ∈ t.ids
section
variable {t : TS} {A : TA}
theorem TSim.whrE (h : TSim t A) (id : Int) : A.whr id = dget t.whr id := by
  unfold TA.whr
  cases hw : dget t.whr id with
  | none =>
    rw [List.find?_eq_none]
    intro c hc hs
    have := (h.whr id c).2 ⟨List.mem_range.1 hc, by simpa using hs⟩
    rw [hw] at this
    cases this
  | some c =>
    obtain ⟨h1, h2⟩ := (h.whr id c).1 hw
    cases hf : (List.range A.n).find? fun c => (dget (A.L c) id).isSome with
    | none =>
      have := List.find?_eq_none.1 hf c (List.mem_range.2 h1)
      rw [h2] at this
      exact absurd rfl this
    | some c' =>
      have h3 := List.find?_some hf
      have h4 := List.mem_range.1 (List.mem_of_find?_eq_some hf)
      have := (h.whr id c').2 ⟨h4, by simpa using h3⟩
      rw [hw] at this
      exact this.symm
theorem TSim.keys (h : TSim t A) (m : Nat) (hm : 1 ≤ m) : m ∈ A.keys ↔ m ∈ t.ids := by
  unfold TA.keys
  simp only [List.mem_flatMap, List.mem_range, List.mem_map]
  constructor
  · rintro ⟨c, hc, p, hp, rfl⟩
    have h1 : (dget (A.L c) p.1).isSome = true := by rw [dget_of_mem (h.sim c hc).nodup (i := p.1) (v := p.2) hp]; rfl
    have h2 := (h.whr p.1 c).2 ⟨hc, h1⟩
    exact ((h.ids p.1).1 (by rw [h2]; rfl)).2
  · intro hm2
    have h1 := (h.ids (m : Int)).2 ⟨by omega, by simpa using hm2⟩
    obtain ⟨c, hc⟩ := Option.isSome_iff_exists.1 h1
    obtain ⟨h2, h3⟩ := (h.whr _ c).1 hc
    obtain ⟨v, hv⟩ := Option.isSome_iff_exists.1 h3
    exact ⟨c, h2, _, dget_mem hv, by simp⟩
theorem isLow_congr {l m : List Nat} (h : ∀ k, 1 ≤ k → (k ∈ l ↔ k ∈ m)) {n : Nat} (hl : IsLow l n) : IsLow m n :=
  ⟨hl.1, fun hn => hl.2.1 ((h n hl.1).2 hn), fun k hk hlt => (h k hk).1 (hl.2.2 k hk hlt)⟩
theorem TSim.low (h : TSim t A) : A.low = lowN t.ids :=
  (isLow_congr (fun k hk => h.keys k hk) (lowN_spec A.keys).1).unique (lowN_spec t.ids).1
theorem TSim.full (h : TSim t A) : t.ids.length = 48 ↔ 48 < A.low := by
  rw [h.low]
  obtain ⟨h1, h2⟩ := lowN_spec t.ids
  have hlen := h.slot.len
  constructor
  · intro hl
    have h3 : ∀ m, 1 ≤ m → m ≤ 48 → m ∈ t.ids := by
      intro m hm hm2
      apply Classical.byContradiction
      intro hn
      have := sub_len (m :: t.ids) ((List.range 48).map (· + 1)) (List.nodup_cons.2 ⟨hn, h.slot.nodup⟩) (fun x hx => by
        have hb : 1 ≤ x ∧ x ≤ 48 := by
          rcases List.mem_cons.1 hx with rfl | hx
          · exact ⟨hm, hm2⟩
          · exact h.slot.bd x hx
        exact List.mem_map.2 ⟨x - 1, List.mem_range.2 (by omega), by omega⟩)
      simp at this
      omega
    apply Classical.byContradiction
    intro hle
    exact h1.2.1 (h3 _ h1.1 (by omega))
  · intro hl
    have := sub_len ((List.range 48).map (· + 1)) t.ids (by
      refine List.Pairwise.map _ (fun a b hab h => hab (by omega)) (List.nodup_range)) (fun x hx => by
      obtain ⟨k, hk, rfl⟩ := List.mem_map.1 hx
      exact h1.2.2 (k + 1) (by omega) (by have := List.mem_range.1 hk; omega))
    simp at this
    omega
theorem TSim.lt (h : TSim t A) {id : Int} {c : Nat} (hw : dget t.whr id = some c) : c < A.n := ((h.whr id c).1 hw).1
/-- A core has no more than there are numbers. -/
theorem TSim.len (h : TSim t A) {c : Nat} (hc : c < A.n) : (A.L c).length ≤ 48 := by
  have := sub_len ((A.L c).map fun p => p.1.toNat) t.ids (by
    have hn := (h.sim c hc).nodup
    rw [List.Nodup, List.pairwise_map] at hn ⊢
    have hall : ∀ p, p ∈ A.L c → 1 ≤ p.1 := by
      intro p hp
      have h1 : (dget (A.L c) p.1).isSome = true := by rw [dget_of_mem (h.sim c hc).nodup (i := p.1) (v := p.2) hp]; rfl
      exact ((h.ids p.1).1 (by rw [(h.whr p.1 c).2 ⟨hc, h1⟩]; rfl)).1
    refine List.Pairwise.imp_of_mem (fun {a b} ha hb hab => ?_) hn
    have := hall a ha
    have := hall b hb
    omega) (fun x hx => by
    obtain ⟨p, hp, rfl⟩ := List.mem_map.1 hx
    have h1 : (dget (A.L c) p.1).isSome = true := by rw [dget_of_mem (h.sim c hc).nodup (i := p.1) (v := p.2) hp]; rfl
    exact ((h.ids p.1).1 (by rw [(h.whr p.1 c).2 ⟨hc, h1⟩]; rfl)).2)
  have := h.slot.len
  simp at *
  omega
theorem TSim.dues (h : TSim t A) {c : Nat} (hc : c < A.n) : (t.s c).dues.length ≤ 48 := by
  have := h.len hc
  rwa [(h.sim c hc).len] at this
end
/-- Entries of maps of numbers. -/
theorem dget_cons (p : Int × Nat) (m : List (Int × Nat)) (i : Int) : dget (p :: m) i = if i = p.1 then some p.2 else dget m i := by
  have hsh : ∀ (m : List (Int × Nat)) (j k : Nat), (dfind m i j).map (·.2) = (dfind m i k).map (·.2) := by
    intro m
    induction m with
    | nil => intro j k; rfl
    | cons q m ih =>
      intro j k
      unfold dfind
      split
      · rfl
      · exact ih _ _
  unfold dget
  rw [dfind]
  split
  · rfl
  · exact hsh m _ _
theorem dget_nil (i : Int) : dget [] i = none := rfl
theorem dget_append (l m : List (Int × Nat)) (i : Int) : dget (l ++ m) i = (dget l i).or (dget m i) := by
  induction l with
  | nil => simp [dget_nil]
  | cons p l ih =>
    rw [List.cons_append, dget_cons, dget_cons, ih]
    split <;> simp
theorem dget_isSome {m : List (Int × Nat)} {i : Int} : (dget m i).isSome = true ↔ i ∈ m.map (·.1) := by
  induction m with
  | nil => simp [dget_nil]
  | cons p m ih =>
    rw [dget_cons, List.map_cons, List.mem_cons]
    by_cases e : i = p.1
    · simp [e]
    · rw [if_neg e, ih]; simp [e]
theorem dput_get {m : List (Int × Nat)} (hn : (m.map (·.1)).Nodup) (i : Int) (v : Nat) : ((dput m i v).map (·.1)).Nodup ∧ ∀ j, dget (dput m i v) j = if j = i then some v else dget m j := by
  unfold dput
  cases hd : dfind m i 0 with
  | none =>
    have hni := dfind_none hd
    refine ⟨?_, fun j => ?_⟩
    · simp only [List.map_append, List.map_cons, List.map_nil]
      exact List.nodup_append.2 ⟨hn, by simp, by rintro x hx y hy rfl; simp at hy; exact hni (hy ▸ hx)⟩
    · simp only
      rw [dget_append, dget_cons, dget_nil]
      by_cases e : j = i
      · subst e
        have : dget m j = none := by unfold dget; rw [hd]; rfl
        simp [this]
      · simp [e]
  | some q =>
    obtain ⟨k, u⟩ := q
    have hk := dfind_lt hd
    have hm : m[k]? = some (i, u) := by
      have h2 : mfind (duesV m) i 0 = some (k, .int .i64 (u : Nat)) := by rw [mfind_dues, hd]; rfl
      have h3 := mfind_some h2
      unfold duesV at h3
      rw [List.getElem?_map] at h3
      cases hmk : m[k]? with
      | none => rw [hmk] at h3; simp at h3
      | some p =>
        rw [hmk] at h3
        simp only [Option.map_some, Option.some.injEq, Prod.mk.injEq, Value.int.injEq, true_and] at h3
        obtain ⟨a, b⟩ := p
        simp only at h3
        obtain ⟨rfl, h3⟩ := h3
        have : b = u := by omega
        rw [this]
    have hkeys : (m.set k (i, v)).map (·.1) = m.map (·.1) := by
      apply List.ext_getElem?
      intro j
      simp only [List.getElem?_map, List.getElem?_set]
      by_cases e : k = j
      · subst e; simp [hk, (List.getElem?_eq_some_iff.1 hm).2]
      · simp [e]
    refine ⟨by simp only; rw [hkeys]; exact hn, fun j => ?_⟩
    simp only
    have hn2 : ((m.set k (i, v)).map (·.1)).Nodup := by rw [hkeys]; exact hn
    by_cases e : j = i
    · subst e
      rw [if_pos rfl]
      exact dget_of_mem hn2 (List.mem_iff_getElem?.2 ⟨k, by rw [List.getElem?_set]; simp [hk]⟩)
    · rw [if_neg e]
      apply Option.ext
      intro x
      rw [dget_iff hn2, dget_iff hn, List.mem_iff_getElem?, List.mem_iff_getElem?]
      constructor
      · rintro ⟨q, hq⟩
        rw [List.getElem?_set] at hq
        by_cases e2 : k = q
        · subst e2
          simp [hk] at hq
          exact absurd hq.1.symm e
        · rw [if_neg e2] at hq
          exact ⟨q, hq⟩
      · rintro ⟨q, hq⟩
        refine ⟨q, ?_⟩
        rw [List.getElem?_set]
        by_cases e2 : k = q
        · subst e2
          rw [hm] at hq
          simp at hq
          exact absurd hq.1.symm e
        · rw [if_neg e2]
          exact hq
theorem ddel_get {m : List (Int × Nat)} (hn : (m.map (·.1)).Nodup) (i : Int) : ((ddel m i).map (·.1)).Nodup ∧ ∀ j, dget (ddel m i) j = if j = i then none else dget m j := by
  rw [ddel_eq i hn]
  have hn2 : ((m.filter (fun p => !decide (p.1 = i))).map (·.1)).Nodup := (List.filter_sublist.map _).nodup hn
  refine ⟨hn2, fun j => ?_⟩
  by_cases e : j = i
  · subst e
    rw [if_pos rfl]
    cases hd : dget (m.filter (fun p => !decide (p.1 = j))) j with
    | none => rfl
    | some v =>
      have := (dget_iff hn2 j v).1 hd
      simp at this
  · rw [if_neg e]
    apply Option.ext
    intro x
    rw [dget_iff hn2, dget_iff hn, List.mem_filter]
    simp [e]
theorem insL_get {L : List (Int × Nat)} (hn : (L.map (·.1)).Nodup) {id : Int} (hid : id ∉ L.map (·.1)) (due : Nat) : ∀ j, dget (insL L id due) j = if j = id then some due else dget L j := by
  intro j
  have hp := insL_perm L id due
  have hn2 : ((L ++ [(id, due)]).map (·.1)).Nodup := by
    simp only [List.map_append, List.map_cons, List.map_nil]
    exact List.nodup_append.2 ⟨hn, by simp, by rintro x hx y hy rfl; simp at hy; exact hid (hy ▸ hx)⟩
  rw [dget_perm hp hn2, dget_append, dget_cons, dget_nil]
  by_cases e : j = id
  · subst e
    have : dget L j = none := by
      cases hd : dget L j with
      | none => rfl
      | some v => exact absurd (dget_isSome.1 (by rw [hd]; rfl)) hid
    simp [this]
  · simp [e]
end Go.Proofs.YtaakgpnmfkmdoaaGreatDoor

/- Timers on cores, in plain words: what is done to a table, a map and wheels that hold the same keeps them alike. -/
namespace Go.Proofs.YtaakgpnmfkmdoaaGreatDoor
set_option linter.unusedVariables false
set_option linter.unusedSimpArgs false
open Go.RowKit

theorem smallI {n : Nat} (h : n ≤ 100) : (Lit.int .i64 (n : Int)).wf = true := by
  have h1 : (-9223372036854775808 : Int) ≤ (n : Int) := by omega
  have h2 : (n : Int) ≤ 9223372036854775807 := by omega
  simp [Lit.wf, IntKind.min, IntKind.max, IntKind.bits, IntKind.signed]
  omega
theorem sadd_now (s : SW) (id due : Int) : (s.add id due).now = s.now := by
  unfold SW.add
  split <;> rfl
theorem sdrop_now (s : SW) (id : Int) : (s.drop id).now = s.now := by
  unfold SW.drop
  split <;> rfl
def ts0 (n : Nat) : TS := { n := n, ids := [], whr := [], s := fun _ => sw0 0 }
def ta0 (n : Nat) : TA := { n := n, now := 0, L := fun _ => [] }
theorem tsim0 {n : Nat} (h1 : 1 ≤ n) (h2 : n ≤ 64) : TSim (ts0 n) (ta0 n) where
  n := rfl
  n1 := h1
  n2 := h2
  slot := ⟨by omega, by omega, by simp [ts0], by simp [ts0]⟩
  nodup := by simp [ts0]
  sim c hc := sim0 ⟨by omega, by omega⟩
  now c hc := rfl
  whr id c := by simp [ts0, ta0, dget_nil]
  ids id := by simp [ts0, dget_nil]
section
variable {t : TS} {A : TA}
theorem TSim.none_of (h : TSim t A) {id : Int} (hn : dget t.whr id = none) {c : Nat} (hc : c < A.n) : dget (A.L c) id = none := by
  cases hd : dget (A.L c) id with
  | none => rfl
  | some v =>
    have := (h.whr id c).2 ⟨hc, by rw [hd]; rfl⟩
    rw [hn] at this
    cases this
theorem TSim.lowNone (h : TSim t A) : dget t.whr (lowN t.ids : Int) = none := by
  cases hd : dget t.whr (lowN t.ids : Int) with
  | none => rfl
  | some c =>
    have := ((h.ids _).1 (by rw [hd]; rfl)).2
    exact absurd (by simpa using this) (lowN_spec t.ids).1.2.1
theorem not_key {m : List (Int × Nat)} {i : Int} (h : dget m i = none) : i ∉ m.map (·.1) := fun hm => by
  have := dget_isSome.2 hm
  rw [h] at this
  cases this
theorem TSim.addE (h : TSim t A) {c : Nat} (hc : c < A.n) {id : Int} (hid : dget t.whr id = none) {due : Int} (hd : tickOk due) : (t.s c).addE id due = 0 := by
  have h1 : dget (t.s c).dues id = none := by rw [← (h.sim c hc).get]; exact h.none_of hid hc
  unfold SW.addE
  rw [if_neg (by simpa using hd), h1]
  rfl
theorem TSim.radd (h : TSim t A) {c : Nat} (hc : c < A.n) {id : Int} (hid : dget t.whr id = none) {due : Int} (hd : tickOk due) : radd (A.L c) id due = insL (A.L c) id due.toNat := by
  unfold Go.Proofs.YtaakgpnmfkmdoaaGreatDoor.radd
  rw [if_pos]
  rw [← (h.sim c hc).addE]
  exact h.addE hc hid hd
def TS.arm (t : TS) (c : Nat) (due : Int) : TS := { t with ids := lowN t.ids :: t.ids, whr := dput t.whr (lowN t.ids) c, s := upd t.s c ((t.s c).add (lowN t.ids) due) }
theorem TSim.arm (h : TSim t A) {c : Nat} (hc : c < A.n) {due : Int} (hd : tickOk due) (hf : lowN t.ids ≤ 48) : TSim (t.arm c due) (A.put c (insL (A.L c) (lowN t.ids) due.toNat)) := by
  have hlow := (lowN_spec t.ids).1
  have hno := h.lowNone
  have hp := dput_get h.nodup (lowN t.ids : Int) c
  have hr := h.radd hc hno hd
  have hi := insL_get (h.sim c hc).nodup (not_key (h.none_of hno hc)) due.toNat
  refine ⟨h.n, h.n1, h.n2, ⟨by omega, by omega, List.nodup_cons.2 ⟨hlow.2.1, h.slot.nodup⟩, fun n hn => ?_⟩, hp.1, fun c' hc' => ?_, fun c' hc' => ?_, fun id c' => ?_, fun id => ?_⟩
  · rcases List.mem_cons.1 hn with rfl | hn
    · exact ⟨hlow.1, hf⟩
    · exact h.slot.bd n hn
  · show Sim (upd t.s c _ c') (upd A.L c _ c')
    by_cases e : c' = c
    · subst e
      rw [upd_same, upd_same, ← hr]
      exact (h.sim c' hc).add (smallI (by omega)) due
    · rw [upd_ne _ _ e, upd_ne _ _ e]; exact h.sim c' hc'
  · show (upd t.s c _ c').now = A.now
    by_cases e : c' = c
    · subst e; rw [upd_same, sadd_now]; exact h.now c' hc
    · rw [upd_ne _ _ e]; exact h.now c' hc'
  · show dget (dput t.whr _ c) id = some c' ↔ c' < A.n ∧ (dget (upd A.L c _ c') id).isSome = true
    rw [hp.2 id]
    by_cases ei : id = (lowN t.ids : Int)
    · subst ei
      rw [if_pos rfl]
      by_cases e : c' = c
      · subst e; rw [upd_same, hi]; simp [hc]
      · rw [upd_ne _ _ e]
        constructor
        · intro h1; simp at h1; exact absurd h1.symm e
        · rintro ⟨h1, h2⟩; rw [h.none_of hno h1] at h2; cases h2
    · rw [if_neg ei, h.whr]
      by_cases e : c' = c
      · subst e; rw [upd_same, hi, if_neg ei]
      · rw [upd_ne _ _ e]
  · show (dget (dput t.whr _ c) id).isSome = true ↔ 1 ≤ id ∧ id.toNat ∈ lowN t.ids :: t.ids
    rw [hp.2 id, List.mem_cons]
    by_cases ei : id = (lowN t.ids : Int)
    · subst ei
      have := hlow.1
      simp; omega
    · rw [if_neg ei, h.ids]
      constructor
      · rintro ⟨h1, h2⟩; exact ⟨h1, .inr h2⟩
      · rintro ⟨h1, h2 | h2⟩
        · exact absurd (by omega) ei
        · exact ⟨h1, h2⟩
def TS.cancel (t : TS) (c : Nat) (id : Int) : TS := { t with ids := t.ids.erase id.toNat, whr := ddel t.whr id, s := upd t.s c ((t.s c).drop id) }
theorem TSim.dropE (h : TSim t A) {c : Nat} {id : Int} (hid : dget t.whr id = some c) : (t.s c).dropE id = 0 ∧ (dget (t.s c).dues id).isSome = true := by
  obtain ⟨hc, h1⟩ := (h.whr id c).1 hid
  have h2 : (dget (t.s c).dues id).isSome = true := by rw [← (h.sim c hc).get]; exact h1
  exact ⟨if_pos h2, h2⟩
theorem TSim.mem (h : TSim t A) {c : Nat} {id : Int} (hid : dget t.whr id = some c) : 1 ≤ id ∧ id.toNat ∈ t.ids := (h.ids id).1 (by rw [hid]; rfl)
theorem TSim.cancel (h : TSim t A) {c : Nat} {id : Int} (hid : dget t.whr id = some c) : TSim (t.cancel c id) (A.put c (ddel (A.L c) id)) := by
  obtain ⟨hc, h1⟩ := (h.whr id c).1 hid
  obtain ⟨hi1, hi2⟩ := h.mem hid
  have hp := ddel_get h.nodup id
  have hl := ddel_get (h.sim c hc).nodup id
  refine ⟨h.n, h.n1, h.n2, ⟨by omega, by omega, h.slot.nodup.erase _, fun n hn => h.slot.bd n (List.mem_of_mem_erase hn)⟩, hp.1, fun c' hc' => ?_, fun c' hc' => ?_, fun j c' => ?_, fun j => ?_⟩
  · show Sim (upd t.s c _ c') (upd A.L c _ c')
    by_cases e : c' = c
    · subst e
      rw [upd_same, upd_same]
      exact (h.sim c' hc).drop id
    · rw [upd_ne _ _ e, upd_ne _ _ e]; exact h.sim c' hc'
  · show (upd t.s c _ c').now = A.now
    by_cases e : c' = c
    · subst e; rw [upd_same, sdrop_now]; exact h.now c' hc
    · rw [upd_ne _ _ e]; exact h.now c' hc'
  · show dget (ddel t.whr id) j = some c' ↔ c' < A.n ∧ (dget (upd A.L c _ c') j).isSome = true
    rw [hp.2 j]
    by_cases ei : j = id
    · subst ei
      rw [if_pos rfl]
      by_cases e : c' = c
      · subst e; rw [upd_same, hl.2]; simp
      · rw [upd_ne _ _ e]
        constructor
        · intro h1; cases h1
        · rintro ⟨h2, h3⟩
          have := (h.whr j c').2 ⟨h2, h3⟩
          rw [hid] at this
          simp at this
          exact absurd this.symm e
    · rw [if_neg ei, h.whr]
      by_cases e : c' = c
      · subst e; rw [upd_same, hl.2, if_neg ei]
      · rw [upd_ne _ _ e]
  · show (dget (ddel t.whr id) j).isSome = true ↔ 1 ≤ j ∧ j.toNat ∈ t.ids.erase id.toNat
    rw [hp.2 j, h.slot.nodup.mem_erase_iff]
    by_cases ei : j = id
    · subst ei; simp
    · rw [if_neg ei, h.ids]
      constructor
      · rintro ⟨h1, h2⟩; exact ⟨h1, by omega, h2⟩
      · rintro ⟨h1, h2, h3⟩; exact ⟨h1, h3⟩
def TS.go (t : TS) (T : Int) : TS := { t with s := fun c => if c < t.n then (t.s c).go T else t.s c }
theorem TSim.go (h : TSim t A) (T : Int) : TSim (t.go T) (A.go T) := by
  refine ⟨h.n, h.n1, h.n2, h.slot, h.nodup, fun c hc => ?_, fun c hc => ?_, h.whr, h.ids⟩
  · show Sim (if c < t.n then (t.s c).go T else t.s c) (A.L c)
    rw [if_pos (by rw [h.n]; exact hc)]
    exact (h.sim c hc).go T
  · show (if c < t.n then (t.s c).go T else t.s c).now = rgo A.now T
    rw [if_pos (by rw [h.n]; exact hc), (h.sim c hc).goNow, h.now c hc]
def TS.move (t : TS) (c d : Nat) (id : Int) (due : Nat) : TS := { t with whr := dput t.whr id d, s := upd (upd t.s c ((t.s c).drop id)) d ((t.s d).add id due) }
theorem TSim.move (h : TSim t A) {c d : Nat} (hd : d < A.n) (hcd : c ≠ d) {id : Int} (hid : dget t.whr id = some c) {due : Nat} (hdue : tickOk due) : TSim (t.move c d id due) ((A.put c (ddel (A.L c) id)).put d (insL (A.L d) id due)) := by
  obtain ⟨hc, h1⟩ := (h.whr id c).1 hid
  obtain ⟨hi1, hi2⟩ := h.mem hid
  have hp := dput_get h.nodup id d
  have hl := ddel_get (h.sim c hc).nodup id
  have hnd : dget (A.L d) id = none := by
    cases hx : dget (A.L d) id with
    | none => rfl
    | some v =>
      have := (h.whr id d).2 ⟨hd, by rw [hx]; rfl⟩
      rw [hid] at this
      simp at this
      exact absurd this hcd
  have hi := insL_get (h.sim d hd).nodup (not_key hnd) due
  have hr : Go.Proofs.YtaakgpnmfkmdoaaGreatDoor.radd (A.L d) id due = insL (A.L d) id due := by
    unfold Go.Proofs.YtaakgpnmfkmdoaaGreatDoor.radd raddE
    rw [if_pos (by rw [if_neg (by simpa using hdue), hnd]; rfl)]
    rfl
  refine ⟨h.n, h.n1, h.n2, h.slot, hp.1, fun c' hc' => ?_, fun c' hc' => ?_, fun j c' => ?_, fun j => ?_⟩
  · show Sim (upd (upd t.s c _) d _ c') (upd (upd A.L c _) d _ c')
    by_cases e : c' = d
    · subst e
      rw [upd_same, upd_same, ← hr]
      exact (h.sim c' hd).add (by have := h.slot.bd _ hi2; have := smallI (n := id.toNat) (by omega); rwa [show ((id.toNat : Nat) : Int) = id by omega] at this) due
    · rw [upd_ne _ _ e, upd_ne _ _ e]
      by_cases e2 : c' = c
      · subst e2
        rw [upd_same, upd_same]
        exact (h.sim c' hc).drop id
      · rw [upd_ne _ _ e2, upd_ne _ _ e2]; exact h.sim c' hc'
  · show (upd (upd t.s c _) d _ c').now = A.now
    by_cases e : c' = d
    · subst e; rw [upd_same, sadd_now]; exact h.now c' hd
    · rw [upd_ne _ _ e]
      by_cases e2 : c' = c
      · subst e2; rw [upd_same, sdrop_now]; exact h.now c' hc
      · rw [upd_ne _ _ e2]; exact h.now c' hc'
  · show dget (dput t.whr id d) j = some c' ↔ c' < A.n ∧ (dget (upd (upd A.L c _) d _ c') j).isSome = true
    rw [hp.2 j]
    by_cases ei : j = id
    · subst ei
      rw [if_pos rfl]
      by_cases e : c' = d
      · subst e; rw [upd_same, hi]; simp [hd]
      · rw [upd_ne _ _ e]
        constructor
        · intro h1; simp at h1; exact absurd h1.symm e
        · rintro ⟨h2, h3⟩
          by_cases e2 : c' = c
          · subst e2; rw [upd_same, hl.2] at h3; simp at h3
          · rw [upd_ne _ _ e2] at h3
            have := (h.whr j c').2 ⟨h2, h3⟩
            rw [hid] at this
            simp at this
            exact absurd this.symm e2
    · rw [if_neg ei, h.whr]
      by_cases e : c' = d
      · subst e; rw [upd_same, hi, if_neg ei]
      · rw [upd_ne _ _ e]
        by_cases e2 : c' = c
        · subst e2; rw [upd_same, hl.2, if_neg ei]
        · rw [upd_ne _ _ e2]
  · show (dget (dput t.whr id d) j).isSome = true ↔ 1 ≤ j ∧ j.toNat ∈ t.ids
    rw [hp.2 j]
    by_cases ei : j = id
    · subst ei; simp [hi1, hi2]
    · rw [if_neg ei, h.ids]
end
end Go.Proofs.YtaakgpnmfkmdoaaGreatDoor

/- Timers of package timer in memory: a table of numbers, a map, a wheel for each core; the walks over its small functions. No condition but those named. -/
namespace Go.Proofs.YtaakgpnmfkmdoaaGreatDoor
set_option linter.unusedVariables false
set_option linter.unusedSimpArgs false
open Go.RowKit

def wheelR (d : Nat) (s : SW) : Res where
  holds F w := ∃ mb G, F = wBlocks d mb G ∧ WheelAt w d mb G s
  keep := by
    rintro F S w w' ⟨mb, G, rfl, h⟩ m hS
    exact ⟨mb, G, rfl, h.keep m hS⟩
  lt := by
    rintro F w ⟨mb, G, rfl, h⟩
    exact h.lt
section
variable {d : Nat} {s : SW} {L : List (Int × Nat)} {F : List Nat} {w : World}
theorem wheelDo {mb : Nat} {G : Nat → Option Nat × Nat} {v : Value} {e : Ending} {w' : World} : WheelDo d mb G v s w e w' → Turns (wheelR d s) (wBlocks d mb G) v w e w' := by
  rintro ⟨rfl, G', m, x, hn⟩
  exact ⟨rfl, _, ⟨mb, G', rfl, x⟩, m, hn⟩
theorem wheelR_Add (h : (wheelR d s).holds F w) (hs : Sim s L) (hl : L.length ≤ 100) (id due : Int) : Calls Tryz.prog 273 #[.pointer (some ⟨d, 0, none⟩), .int .i64 id, .int .i64 due] w (Turns (wheelR d (s.add id due)) F (.int .i64 (s.addE id due)) w) := by
  obtain ⟨mb, G, rfl, h⟩ := h
  exact (wheel_Add d mb G s w h hs.inv.ok (fun k _ => by have := hs.inv.len k; have := hs.len; omega) id due).mono fun e w' => wheelDo
theorem wheelR_Drop (h : (wheelR d s).holds F w) (hs : Sim s L) (id : Int) : Calls Tryz.prog 275 #[.pointer (some ⟨d, 0, none⟩), .int .i64 id] w (Turns (wheelR d (s.drop id)) F (.int .i64 (s.dropE id)) w) := by
  obtain ⟨mb, G, rfl, h⟩ := h
  exact (wheel_Drop d mb G s w h hs.inv.ok id (fun hx => by
    have := (hs.inv.has hx).2
    intro e
    rw [e] at this
    cases this)).mono fun e w' => wheelDo
theorem wheelR_Go (h : (wheelR d s).holds F w) (hs : Sim s L) (hl : L.length ≤ 100) (t : Int) : Calls Tryz.prog 195 #[.pointer (some ⟨d, 0, none⟩), .int .i64 t] w (Turns (wheelR d (s.go t)) F (.int .i64 (rgoE s.now t)) w) := by
  obtain ⟨mb, G, rfl, h⟩ := h
  rw [← hs.goE]
  exact (wheel_Go d mb G s w h hs.inv.ok (fun k => by have := hs.inv.len k; have := hs.len; omega) t).mono fun e w' => wheelDo
/-- A new slice of ints. -/
def NewInts (l : List Int) (w : World) (e : Ending) (w' : World) : Prop := ∃ a c, e = .returned (.slice a l.length c) ∧ Mod [] w w' ∧ IsInts w' a l ∧ IsNew w a
theorem wheelR_Due (h : (wheelR d s).holds F w) (hs : Sim s L) (hl : L.length ≤ 100) : Calls Tryz.prog 243 #[.pointer (some ⟨d, 0, none⟩)] w (NewInts (idsOf (dueL s.now L)) w) := by
  obtain ⟨mb, G, rfl, h⟩ := h
  refine (wheel_Due d mb G s w h (by have := hs.inv.len 168; have := hs.len; omega)).mono ?_
  rintro e w' ⟨a, c, rfl, m, i, n⟩
  have hd := hs.due
  rw [hd] at i
  refine ⟨a, c, ?_, m, i, n⟩
  rw [← hd, sortW_len]
theorem wheelR_List (h : (wheelR d s).holds F w) (hs : Sim s L) (hl : L.length ≤ 100) : Calls Tryz.prog 348 #[.pointer (some ⟨d, 0, none⟩)] w (NewInts (idsOf L) w) := by
  obtain ⟨mb, G, rfl, h⟩ := h
  have hll := hs.len
  refine (wheel_List d mb G s w h hs.inv.wf (by omega)).mono ?_
  rintro e w' ⟨a, c, rfl, m, i, n⟩
  rw [hs.list] at i
  refine ⟨a, c, ?_, m, i, n⟩
  unfold idsOf
  rw [List.length_map, hll]
theorem wheelR_Next (h : (wheelR d s).holds F w) (hs : Sim s L) (hl : L.length ≤ 100) : Calls Tryz.prog 254 #[.pointer (some ⟨d, 0, none⟩)] w (fun e w' => e = .returned (.tuple #[.int .i64 (rnextV L), .int .i64 (rnextE L)]) ∧ Mod [] w w') := by
  obtain ⟨mb, G, rfl, h⟩ := h
  have := wheel_Next d mb G s w h (fun k => by have := hs.inv.len k; have := hs.len; omega) (fun hd => (firstK_has hs.inv hd).1)
  rw [hs.next, hs.nextE] at this
  refine this.mono ?_
  rintro e u' ⟨rfl, m, _⟩
  exact ⟨rfl, m⟩
theorem wheelR_When (h : (wheelR d s).holds F w) (hs : Sim s L) (id : Int) : Calls Tryz.prog 349 #[.pointer (some ⟨d, 0, none⟩), .int .i64 id] w (Ret (.tuple #[.int .i64 ((dget L id).getD 0 : Nat), .bool (dget L id).isSome]) w) := by
  obtain ⟨mb, G, rfl, h⟩ := h
  have := wheel_When d mb G s w h id
  rwa [hs.when, ← hs.get] at this
theorem wheelR_Len (h : (wheelR d s).holds F w) (hs : Sim s L) : Calls Tryz.prog 156 #[.pointer (some ⟨d, 0, none⟩)] w (Ret (.int .i64 L.length) w) := by
  obtain ⟨mb, G, rfl, h⟩ := h
  rw [hs.len]
  exact wheel_Len d mb G s w h
theorem wheelR_New (w : World) : Calls Tryz.prog 93 #[.int .i64 0] w (TurnsV (fun d : Nat => .tuple #[.pointer (some ⟨d, 0, none⟩), .int .i64 0]) (fun d => wheelR d (sw0 0)) [] w) := by
  refine (show Calls _ _ #[.int .i64 ((0 : Nat) : Int)] w _ from wheel_New 0 ⟨by omega, by omega⟩ w).mono ?_
  rintro e w' ⟨d, mb, rfl, m, x, h1, h2⟩
  refine ⟨d, rfl, _, ⟨mb, _, rfl, x⟩, m, fun b hb => ?_⟩
  rcases mem_wBlocks.1 hb with rfl | rfl | ⟨k, _, hb⟩
  · exact .inr h1
  · exact .inr h2
  · simp [lF] at hb
end

structure TP where
  tb : Nat
  gb : Nat
  cap : Nat
  mw : Nat
  D : Nat → Nat
def ptrsV (n : Nat) (D : Nat → Nat) : List Value := (List.range n).map fun i => .pointer (some ⟨D i, 0, none⟩)
def timersL (d : Nat) (p : TP) (t : TS) : List Res :=
  [Res.blk d (.cells #[.pointer (some ⟨p.tb, 0, none⟩), .slice (some ⟨p.gb, 0, none⟩) t.n p.cap, .map (some p.mw)] 172 (0,0)),
    slotR p.tb 48 t.ids, mapR .i64 p.mw (duesV t.whr), rowR 173 1 (some p.gb) p.cap t.n (ptrsV t.n p.D)] ++ (List.range t.n).map fun i => wheelR (p.D i) (t.s i)
def timersR (d : Nat) (t : TS) : Res := Res.ex fun p => Res.star (timersL d p t)
/-- Timers that hold A. -/
def timersA (d : Nat) (A : TA) : Res := Res.ex fun t : TS => Res.such (TSim t A) (timersR d t)
section
variable {F0 F : List Nat} {w0 w u : World} {d : Nat} {p : TP} {t : TS} {A : TA}
theorem timersA_view (h : (timersA d A).holds F w) : ∃ t p, TSim t A ∧ On F w (timersL d p t) w := by
  obtain ⟨t, hs, p, h⟩ := h
  exact ⟨t, p, hs, On.of h⟩
theorem On.timers (h : On F w (timersL d p t) u) (hs : TSim t A) : Gain (timersA d A) F w u := h.gains.imp fun F' h' => ⟨t, hs, p, h'⟩
theorem tl_wheel {c : Nat} (hc : c < t.n) : (timersL d p t)[4 + c]? = some (wheelR (p.D c) (t.s c)) := by
  unfold timersL
  rw [List.getElem?_append_right (by simp)]
  simp [hc]
theorem tl_set (c : Nat) (s' : SW) : (timersL d p t).set (4 + c) (wheelR (p.D c) s') = timersL d p { t with s := upd t.s c s' } := by
  unfold timersL
  rw [List.set_append_right _ _ (by simp)]
  congr 1
  apply List.ext_getElem?
  intro j
  simp only [List.length_cons, List.length_nil, Nat.reduceAdd, Nat.add_sub_cancel_left, List.getElem?_set, List.getElem?_map, List.length_map, List.length_range]
  by_cases e : c = j
  · subst e
    by_cases hc : c < t.n
    · simp [hc, upd_same]
    · simp [hc, List.getElem?_range, Nat.not_lt.1 hc]
  · have e2 : j ≠ c := fun x => e x.symm
    by_cases hj : j < t.n
    · simp [e, hj, upd_ne _ _ e2]
    · simp [e, hj]
theorem On.tcells (h : On F w (timersL d p t) u) : u.cell? ⟨d, 0, none⟩ = some (.pointer (some ⟨p.tb, 0, none⟩)) ∧ u.cell? ⟨d, 1, none⟩ = some (.slice (some ⟨p.gb, 0, none⟩) t.n p.cap) ∧ u.cell? ⟨d, 2, none⟩ = some (.map (some p.mw)) :=
  ⟨h.cell 0 rfl 0, h.cell 0 rfl 1, h.cell 0 rfl 2⟩
theorem On.tptr (h : On F w (timersL d p t) u) {c : Nat} (hc : c < t.n) : u.cell? ⟨p.gb, c, none⟩ = some (.pointer (some ⟨p.D c, 0, none⟩)) := by
  obtain ⟨F1, _, hr⟩ := h.get 3 rfl
  obtain ⟨b, e, hcell⟩ := hr.cell (j := c) (v := .pointer (some ⟨p.D c, 0, none⟩)) (by simp [ptrsV, hc])
  cases e
  exact hcell
theorem On.tcap (h : On F w (timersL d p t) u) : t.n ≤ p.cap ∧ p.cap ≤ maxLen := by
  obtain ⟨F1, _, hr⟩ := h.get 3 rfl
  exact hr.cap
theorem On.tmap (h : On F w (timersL d p t) u) : MapAt .i64 u p.mw (duesV t.whr) := by
  obtain ⟨F1, _, hr⟩ := h.get 2 rfl
  exact hr
theorem On.twheel (h : On F w (timersL d p t) u) {c : Nat} (hc : c < t.n) : ∃ F1, (wheelR (p.D c) (t.s c)).holds F1 u := h.get _ (tl_wheel hc)
theorem On.twheelDo {P : Program} {f : FuncId} {args : Array Value} {v : Value} {s' : SW} (h : On F w (timersL d p t) u) {c : Nat} (hc : c < t.n) (hh : ∀ F1, (wheelR (p.D c) (t.s c)).holds F1 u → Calls P f args u (Turns (wheelR (p.D c) s') F1 v u)) :
    Calls P f args u (fun e u' => e = .returned v ∧ On F w (timersL d p { t with s := upd t.s c s' }) u') := by
  have := h.call _ (tl_wheel hc) hh
  rw [tl_set] at this
  exact this
theorem On.tput (h : On F w (timersL d p t) u) (i : Int) (c : Nat) : ∃ w1, (Instr.mapUpdate 82 (.map (some p.mw)) (.int .i64 i) (.int .i64 c)).run Tryz.prog u = .ok () w1 ∧ On F w (timersL d p { t with whr := dput t.whr i c }) w1 := by
  obtain ⟨F1, ⟨rfl, hm⟩, h2, h3⟩ := h.gain (P' := mapR .i64 p.mw (duesV (dput t.whr i c))) 2 rfl
  obtain ⟨w1, hrun, m1, x1⟩ := map_update (P := Tryz.prog) hm Tryz.underlying82 Tryz.underlying3 i (.int .i64 (c : Nat))
  rw [mput_dues] at x1
  exact ⟨w1, hrun, h3 ⟨_, ⟨rfl, x1⟩, m1, fun b hb => .inl hb⟩⟩
theorem On.tdel (h : On F w (timersL d p t) u) (i : Int) : ∃ w1, (∀ ty, (Builtin.delete_ #[82, 3] ty #[.map (some p.mw), .int .i64 i]).run Tryz.prog u = .ok (.tuple #[]) w1) ∧ On F w (timersL d p { t with whr := ddel t.whr i }) w1 := by
  obtain ⟨F1, ⟨rfl, hm⟩, h2, h3⟩ := h.gain (P' := mapR .i64 p.mw (duesV (ddel t.whr i))) 2 rfl
  obtain ⟨w1, hrun, m1, x1⟩ := map_delete (P := Tryz.prog) hm Tryz.underlying82 Tryz.underlying3 i
  rw [mdel_dues] at x1
  exact ⟨w1, hrun, h3 ⟨_, ⟨rfl, x1⟩, m1, fun b hb => .inl hb⟩⟩
theorem whr_lookup2 {mw : Nat} {m : List (Int × Nat)} (h : MapAt .i64 u mw (duesV m)) (id : Int) :
    (Instr.lookup 82 (.map (some mw)) (.int .i64 id) true).run Tryz.prog u = .ok (.tuple #[.int .i64 ((dget m id).getD 0 : Nat), .bool (dget m id).isSome]) u := by
  have := map_lookup2 (P := Tryz.prog) h Tryz.underlying82 Tryz.underlying3 id (fun w => Tryz.zeroValue3 w)
  rw [mget_dues] at this
  rw [this]
  cases dget m id <;> rfl
end

def tmE (n : Nat) (l : List Int) : Int := if ∀ c, c ∈ l → 0 ≤ c ∧ c < n then 0 else 3
set_option maxRecDepth 100000 in
set_option maxHeartbeats 1000000 in
theorem timers_may (d n cap : Nat) (g : Option Addr) (w : World) (c1 : w.cell? ⟨d, 1, none⟩ = some (.slice g n cap)) (a : Option Addr) (cp : Nat) (l : List Int) (hl : l.length ≤ 1000) (hI : IsInts w a l) :
    Calls Tryz.prog 155 #[.pointer (some ⟨d, 0, none⟩), .slice a l.length cp] w (Ret (.int .i64 (tmE n l)) w) := by
  have hM : ∀ j, j < l.length → ¬ (0 ≤ nth l j ∧ nth l j < n) → tmE n l = 3 := by
    intro j hj hn
    exact if_neg (fun h => hn (h _ (by simp [nth, List.getD, hj])))
  have hM0 : (∀ j, j < l.length → 0 ≤ nth l j ∧ nth l j < n) → tmE n l = 0 := by
    intro h
    refine if_pos (fun c hc => ?_)
    obtain ⟨j, hj, rfl⟩ := List.getElem_of_mem hc
    have := h j hj
    simpa [nth, List.getD, hj] using this
  generalize tmE n l = v at *
  go_enter Tryz.func155, Tryz.ntmps155
  go_wp2
  go_loopg [11] l.length (fun gg i wr => ∃ j : Nat, i = .int .i64 j ∧ j + gg = l.length ∧ (∀ k, k < j → 0 ≤ nth l k ∧ nth l k < n) ∧ Drew w wr)
  case atStart => exact ⟨0, rfl, by omega, by omega, Drew.refl _⟩
  case round =>
    obtain ⟨j, rfl, hj, he, hD⟩ := hrel
    have c1r := (hD.mod (S := [])).at c1 (by simp)
    by_cases hlt : j < l.length
    · have hIr := hI.same hD.heap
      obtain ⟨b, rfl, _, hc⟩ := hIr.resolve_left (fun e => by rw [e] at hlt; simp at hlt)
      have cj := hc j hlt
      have hltI : (j : Int) < l.length := by omega
      clear hc hI hIr
      by_cases ok : 0 ≤ nth l j ∧ nth l j < n
      · have hstep : ∀ k, k < j + 1 → 0 ≤ nth l k ∧ nth l k < n := by
          intro k hk
          by_cases e : k = j
          · subst e; exact ok
          · exact he k (by omega)
        obtain ⟨ok1, ok2⟩ := ok
        clear he hM
        generalize nth l j = x at *
        have q1 : ¬ (x < 0) := by omega
        have q2 : ¬ ((n : Int) ≤ x) := by omega
        go_wp2
        go_roundg (gk - 1)
        case measure => omega
        case rel => exact ⟨j + 1, by go_num, by omega, hstep, by repeat (first | exact hD | apply Drew.drewN | apply Drew.drew)⟩
      · have hv := hM j hlt ok
        subst hv
        clear hM hM0 he
        generalize nth l j = x at *
        by_cases q1 : x < 0
        · go_wp2
          go_ret
          refine ⟨rfl, by repeat (first | exact hD | apply Drew.drewN | apply Drew.drew)⟩
        · have q2 : (n : Int) ≤ x := by omega
          go_wp2
          go_ret
          refine ⟨rfl, by repeat (first | exact hD | apply Drew.drewN | apply Drew.drew)⟩
    · have hv := hM0 (fun k hk => he k (by omega))
      subst hv
      have hltI : ¬ (j : Int) < l.length := by omega
      clear hM hM0 he hI
      go_wp2
      go_ret
      refine ⟨rfl, by repeat (first | exact hD | apply Drew.drewN | apply Drew.drew)⟩
end Go.Proofs.YtaakgpnmfkmdoaaGreatDoor

/- The walks over package timer: Where, When, Now, Next, List, Load, Ready, Cancel, Arm. No condition but those named. -/
namespace Go.Proofs.YtaakgpnmfkmdoaaGreatDoor
set_option linter.unusedVariables false
set_option linter.unusedSimpArgs false
open Go.RowKit

theorem tmE1 (n : Nat) (c : Int) : tmE n [c] = if 0 ≤ c ∧ c < n then 0 else 3 := by simp [tmE]
theorem tmE2 (n : Nat) (c d : Int) : tmE n [c, d] = if (0 ≤ c ∧ c < n) ∧ (0 ≤ d ∧ d < n) then 0 else 3 := by simp [tmE]
theorem ints_new1 (w : World) (c : Int) (T : TypeId) : IsInts (w.alloc (.cells #[.int .i64 c] T (0,0))) (some ⟨w.heap.size, 0, none⟩) [c] :=
  .inr ⟨_, rfl, by simp, fun j hj => by
    obtain rfl : j = 0 := by simpa using hj
    exact cellAt (heapNew _ _) 0⟩
theorem ints_new2 (w : World) (c d : Int) (T : TypeId) : IsInts (w.alloc (.cells #[.int .i64 c, .int .i64 d] T (0,0))) (some ⟨w.heap.size, 0, none⟩) [c, d] :=
  .inr ⟨_, rfl, by simp, fun j hj => by
    have hj2 : j = 0 ∨ j = 1 := by simp at hj; omega
    rcases hj2 with rfl | rfl
    · exact cellAt (heapNew _ _) 0
    · exact cellAt (heapNew _ _) 1⟩
section
variable {F : List Nat} {w : World} {d : Nat} {A : TA}
/-- The call asks of one core. -/
theorem timers_may1 (n cap : Nat) (g : Option Addr) (c1 : w.cell? ⟨d, 1, none⟩ = some (.slice g n cap)) (c : Int) :
    Calls Tryz.prog 155 #[.pointer (some ⟨d, 0, none⟩), .slice (some ⟨w.heap.size, 0, none⟩) 1 1] (w.alloc (.cells #[.int .i64 c] 3 (0,0))) (Ret (.int .i64 (if 0 ≤ c ∧ c < n then 0 else 3)) (w.alloc (.cells #[.int .i64 c] 3 (0,0)))) := by
  have := timers_may d n cap g (w.alloc (.cells #[.int .i64 c] 3 (0,0))) (cellNew _ c1) (some ⟨w.heap.size, 0, none⟩) 1 [c] (by simp) (ints_new1 w c _)
  rwa [tmE1] at this
theorem timers_Where_at {mw : Nat} {m : List (Int × Nat)} (c2 : w.cell? ⟨d, 2, none⟩ = some (.map (some mw))) (hm : MapAt .i64 w mw (duesV m)) (id : Int) :
    Calls Tryz.prog 230 #[.pointer (some ⟨d, 0, none⟩), .int .i64 id] w (Ret (.tuple #[.int .i64 ((dget m id).getD 0 : Nat), .bool (dget m id).isSome]) w) := by
  have hlk := whr_lookup2 hm id
  generalize (((dget m id).getD 0 : Nat) : Int) = x at *
  generalize (dget m id).isSome = b at *
  go_enter Tryz.func230, Tryz.ntmps230
  go_wp2
  go_ret2
  exact Ret.of (rfl) (by repeat (first | exact Drew.refl _ | apply Drew.drewN | apply Drew.drew))
theorem timers_Where (h : (timersA d A).holds F w) (id : Int) : Calls Tryz.prog 230 #[.pointer (some ⟨d, 0, none⟩), .int .i64 id] w (Ret (.tuple #[.int .i64 (A.whereV id), .bool (A.whr id).isSome]) w) := by
  obtain ⟨t, p, hs, hA⟩ := timersA_view h
  have := timers_Where_at hA.tcells.2.2 hA.tmap id
  unfold TA.whereV
  rwa [hs.whrE id]
set_option maxRecDepth 100000 in
theorem timers_When (h : (timersA d A).holds F w) (id : Int) : Calls Tryz.prog 332 #[.pointer (some ⟨d, 0, none⟩), .int .i64 id] w (Ret (.tuple #[.int .i64 (A.whenV id), .bool (A.whr id).isSome]) w) := by
  obtain ⟨t, p, hs, hA⟩ := timersA_view h
  obtain ⟨k0, k1, k2⟩ := hA.tcells
  have hW := timers_Where_at k2 hA.tmap id
  unfold TA.whenV
  rw [hs.whrE id]
  cases hd : dget t.whr id with
  | none =>
    rw [hd] at hW
    clear hd hA
    go_enter Tryz.func332, Tryz.ntmps332
    go_wp2_with (go_at_call 230; refine hW.mono ?_; rintro e w' ⟨rfl, k, rfl⟩)
    go_ret2
    exact Ret.of (rfl) (by repeat (first | exact Drew.refl _ | apply Drew.drewN | apply Drew.drew))
  | some c =>
    rw [hd] at hW
    have hc := hs.lt hd
    have hcn : c < t.n := by rw [hs.n]; exact hc
    obtain ⟨hcap1, hcap2⟩ := hA.tcap
    have kp := hA.tptr hcn
    obtain ⟨F1, hw1⟩ := hA.twheel hcn
    have hwhen := fun k => wheelR_When (w := w.drewN k) ((wheelR _ _).keep (S := []) hw1 ((Mod.refl _ _).drewN k) (by simp)) (hs.sim c hc) id
    obtain ⟨v, hv⟩ := Option.isSome_iff_exists.1 ((hs.whr id c).1 hd).2
    rw [hv] at hwhen
    have hcz : (c : Int) < (t.n : Int) := by omega
    simp only [Option.getD_some, Option.isSome_some] at hwhen hW ⊢
    rw [hv]
    clear hd hA hw1 hv
    go_enter Tryz.func332, Tryz.ntmps332
    go_wp2_with (first
      | (go_at_call 230; refine hW.mono ?_; rintro e w' ⟨rfl, k, rfl⟩)
      | (go_at_call 349; refine (hwhen _).mono ?_; rintro e w' ⟨rfl, k2, rfl⟩))
    go_ret2
    exact Ret.of (rfl) (by repeat (first | exact Drew.refl _ | apply Drew.drewN | apply Drew.drew))
end
end Go.Proofs.YtaakgpnmfkmdoaaGreatDoor

/- The walks over package timer: Next, List, Load, Ready, Cancel. No condition but those named. -/
namespace Go.Proofs.YtaakgpnmfkmdoaaGreatDoor
set_option linter.unusedVariables false
set_option linter.unusedSimpArgs false
open Go.RowKit
section
variable {F : List Nat} {w : World} {d : Nat} {A : TA}
set_option maxRecDepth 100000 in
theorem timers_Next (h : (timersA d A).holds F w) (cpu : Int) : Calls Tryz.prog 178 #[.pointer (some ⟨d, 0, none⟩), .int .i64 cpu] w (fun e w' => e = .returned (.tuple #[.int .i64 (A.nextV cpu), .int .i64 (A.nextE cpu)]) ∧ Mod [] w w') := by
  obtain ⟨t, p, hs, hA⟩ := timersA_view h
  obtain ⟨k0, k1, k2⟩ := hA.tcells
  have hmay := timers_may1 (w := w) _ _ _ k1 cpu
  rw [hs.n] at hmay k1
  unfold TA.nextV TA.nextE
  by_cases hi : A.is cpu
  · rw [if_neg (fun x => x hi), if_neg (fun x => x hi)]
    obtain ⟨hi1, hi2⟩ := hi
    rw [if_pos ⟨hi1, hi2⟩] at hmay
    obtain ⟨c, rfl⟩ := Int.eq_ofNat_of_zero_le hi1
    have hc : c < A.n := by omega
    have hcn : c < t.n := by rw [hs.n]; exact hc
    obtain ⟨hcap1, hcap2⟩ := hA.tcap
    rw [hs.n] at hcap1
    have mA : ∀ k, Mod [] w ((w.alloc (.cells #[.int .i64 (c : Int)] 3 (0,0))).drewN k) := fun k => ((Mod.refl _ _).alloc _).drewN k
    have hB := fun k => hA.keep (mA k)
    have kp := cellNew (.cells #[.int .i64 (c : Int)] 3 (0,0)) (hA.tptr hcn)
    have k1' := cellNew (.cells #[.int .i64 (c : Int)] 3 (0,0)) k1
    have hsim := hs.sim c hc
    have hlen := hs.len hc
    have hq := fun k => (hB k).twheel hcn
    have hN := fun k => wheelR_Next (hq k).choose_spec hsim (by omega)
    simp only [Int.toNat_natCast]
    clear hA hB hq hi1
    generalize (rnextV (A.L c) : Int) = v at *
    generalize rnextE (A.L c) = ee at *
    go_enter Tryz.func178, Tryz.ntmps178
    go_wp2_with (first
      | (go_at_call 155; refine hmay.mono ?_; rintro e w' ⟨rfl, k, rfl⟩)
      | (go_at_call 254; refine (hN _).mono ?_; rintro e w2 ⟨rfl, m2⟩))
    go_ret2
    exact ⟨rfl, (mA k).trans m2 (by simp)⟩
  · rw [if_pos hi, if_pos hi]
    rw [if_neg (show ¬ (0 ≤ cpu ∧ cpu < (A.n : Int)) from hi)] at hmay
    clear hA hi
    go_enter Tryz.func178, Tryz.ntmps178
    go_wp2_with (go_at_call 155; refine hmay.mono ?_; rintro e w' ⟨rfl, k, rfl⟩)
    go_ret2
    exact ⟨rfl, ((Mod.refl _ _).alloc _).drewN _⟩
set_option maxRecDepth 100000 in
theorem timers_List (h : (timersA d A).holds F w) (cpu : Int) : Calls Tryz.prog 331 #[.pointer (some ⟨d, 0, none⟩), .int .i64 cpu] w (NewInts (A.list cpu) w) := by
  obtain ⟨t, p, hs, hA⟩ := timersA_view h
  obtain ⟨k0, k1, k2⟩ := hA.tcells
  have hmay := timers_may1 (w := w) _ _ _ k1 cpu
  rw [hs.n] at hmay k1
  unfold TA.list
  by_cases hi : A.is cpu
  · rw [if_pos hi]
    obtain ⟨hi1, hi2⟩ := hi
    rw [if_pos ⟨hi1, hi2⟩] at hmay
    obtain ⟨c, rfl⟩ := Int.eq_ofNat_of_zero_le hi1
    have hc : c < A.n := by omega
    have hcn : c < t.n := by rw [hs.n]; exact hc
    obtain ⟨hcap1, hcap2⟩ := hA.tcap
    rw [hs.n] at hcap1
    have mA : ∀ k, Mod [] w ((w.alloc (.cells #[.int .i64 (c : Int)] 3 (0,0))).drewN k) := fun k => ((Mod.refl _ _).alloc _).drewN k
    have hB := fun k => hA.keep (mA k)
    have kp := cellNew (.cells #[.int .i64 (c : Int)] 3 (0,0)) (hA.tptr hcn)
    have k1' := cellNew (.cells #[.int .i64 (c : Int)] 3 (0,0)) k1
    have hsim := hs.sim c hc
    have hlen := hs.len hc
    have hq := fun k => (hB k).twheel hcn
    have hN := fun k => wheelR_List (hq k).choose_spec hsim (by omega)
    simp only [Int.toNat_natCast]
    clear hA hB hq hi1
    generalize idsOf (A.L c) = v at *
    go_enter Tryz.func331, Tryz.ntmps331
    go_wp2_with (first
      | (go_at_call 155; refine hmay.mono ?_; rintro e w' ⟨rfl, k, rfl⟩)
      | (go_at_call 348; refine (hN _).mono ?_; rintro e w2 ⟨a2, c2, rfl, m2, i2, n2⟩))
    go_ret
    exact ⟨a2, c2, rfl, (mA k).trans m2 (by simp), i2, fun b o e => by have := n2 b o e; simp at this; omega⟩
  · rw [if_neg hi]
    rw [if_neg (show ¬ (0 ≤ cpu ∧ cpu < (A.n : Int)) from hi)] at hmay
    clear hA hi
    go_enter Tryz.func331, Tryz.ntmps331
    go_wp2_with (go_at_call 155; refine hmay.mono ?_; rintro e w' ⟨rfl, k, rfl⟩)
    go_ret
    exact ⟨none, 0, rfl, ((Mod.refl _ _).alloc _).drewN _, .inl rfl, fun b o e => by cases e⟩
set_option maxRecDepth 100000 in
theorem timers_Load (h : (timersA d A).holds F w) (cpu : Int) : Calls Tryz.prog 86 #[.pointer (some ⟨d, 0, none⟩), .int .i64 cpu] w (fun e w' => e = .returned (.int .i64 (A.list cpu).length) ∧ Mod [] w w') := by
  obtain ⟨t, p, hs, hA⟩ := timersA_view h
  obtain ⟨k0, k1, k2⟩ := hA.tcells
  have hmay := timers_may1 (w := w) _ _ _ k1 cpu
  rw [hs.n] at hmay k1
  unfold TA.list
  by_cases hi : A.is cpu
  · rw [if_pos hi]
    obtain ⟨hi1, hi2⟩ := hi
    rw [if_pos ⟨hi1, hi2⟩] at hmay
    obtain ⟨c, rfl⟩ := Int.eq_ofNat_of_zero_le hi1
    have hc : c < A.n := by omega
    have hcn : c < t.n := by rw [hs.n]; exact hc
    obtain ⟨hcap1, hcap2⟩ := hA.tcap
    rw [hs.n] at hcap1
    have mA : ∀ k, Mod [] w ((w.alloc (.cells #[.int .i64 (c : Int)] 3 (0,0))).drewN k) := fun k => ((Mod.refl _ _).alloc _).drewN k
    have hB := fun k => hA.keep (mA k)
    have kp := cellNew (.cells #[.int .i64 (c : Int)] 3 (0,0)) (hA.tptr hcn)
    have k1' := cellNew (.cells #[.int .i64 (c : Int)] 3 (0,0)) k1
    have hsim := hs.sim c hc
    have hlen := hs.len hc
    have hq := fun k => (hB k).twheel hcn
    have hN := fun k => wheelR_Len (hq k).choose_spec hsim
    simp only [Int.toNat_natCast]
    have hle : (idsOf (A.L c)).length = (A.L c).length := by simp [idsOf]
    rw [hle]
    clear hA hB hq hi1 hle
    generalize ((A.L c).length : Int) = v at *
    go_enter Tryz.func86, Tryz.ntmps86
    go_wp2_with (first
      | (go_at_call 155; refine hmay.mono ?_; rintro e w' ⟨rfl, k, rfl⟩)
      | (go_at_call 156; refine (hN _).mono ?_; rintro e w2 ⟨rfl, k2, rfl⟩))
    go_ret
    exact ⟨rfl, ((Mod.refl _ _).alloc _).drewN _⟩
  · rw [if_neg hi]
    rw [if_neg (show ¬ (0 ≤ cpu ∧ cpu < (A.n : Int)) from hi)] at hmay
    clear hA hi
    go_enter Tryz.func86, Tryz.ntmps86
    go_wp2_with (go_at_call 155; refine hmay.mono ?_; rintro e w' ⟨rfl, k, rfl⟩)
    go_ret
    exact ⟨rfl, ((Mod.refl _ _).alloc _).drewN _⟩
set_option maxRecDepth 100000 in
theorem timers_Ready (h : (timersA d A).holds F w) (cpu : Int) : Calls Tryz.prog 168 #[.pointer (some ⟨d, 0, none⟩), .int .i64 cpu] w (fun e w' => e = .returned (.bool (A.ready cpu)) ∧ Mod [] w w') := by
  obtain ⟨t, p, hs, hA⟩ := timersA_view h
  obtain ⟨k0, k1, k2⟩ := hA.tcells
  have hmay := timers_may1 (w := w) _ _ _ k1 cpu
  rw [hs.n] at hmay k1
  unfold TA.ready TA.due
  by_cases hi : A.is cpu
  · rw [decide_eq_true hi]
    obtain ⟨hi1, hi2⟩ := hi
    rw [if_pos ⟨hi1, hi2⟩] at hmay
    obtain ⟨c, rfl⟩ := Int.eq_ofNat_of_zero_le hi1
    have hc : c < A.n := by omega
    have hcn : c < t.n := by rw [hs.n]; exact hc
    obtain ⟨hcap1, hcap2⟩ := hA.tcap
    rw [hs.n] at hcap1
    have mA : ∀ k, Mod [] w ((w.alloc (.cells #[.int .i64 (c : Int)] 3 (0,0))).drewN k) := fun k => ((Mod.refl _ _).alloc _).drewN k
    have hB := fun k => hA.keep (mA k)
    have kp := cellNew (.cells #[.int .i64 (c : Int)] 3 (0,0)) (hA.tptr hcn)
    have k1' := cellNew (.cells #[.int .i64 (c : Int)] 3 (0,0)) k1
    have hsim := hs.sim c hc
    have hlen := hs.len hc
    have hq := fun k => (hB k).twheel hcn
    have hN := fun k => wheelR_Due (hq k).choose_spec hsim (by omega)
    rw [hs.now c hc] at hN
    simp only [Int.toNat_natCast]
    have hle : (true && !(dueL A.now (A.L c)).isEmpty) = decide ((0 : Int) < (idsOf (dueL A.now (A.L c))).length) := by
      cases dueL A.now (A.L c) <;> simp [idsOf]
    rw [hle]
    clear hA hB hq hi1 hle
    generalize idsOf (dueL A.now (A.L c)) = v at *
    go_enter Tryz.func168, Tryz.ntmps168
    go_wp2_with (first
      | (go_at_call 155; refine hmay.mono ?_; rintro e w' ⟨rfl, k, rfl⟩)
      | (go_at_call 243; refine (hN _).mono ?_; rintro e w2 ⟨a2, c2, rfl, m2, i2, n2⟩))
    go_ret
    exact ⟨by simp, (mA k).trans m2 (by simp)⟩
  · rw [decide_eq_false hi]
    rw [if_neg (show ¬ (0 ≤ cpu ∧ cpu < (A.n : Int)) from hi)] at hmay
    clear hA hi
    go_enter Tryz.func168, Tryz.ntmps168
    go_wp2_with (go_at_call 155; refine hmay.mono ?_; rintro e w' ⟨rfl, k, rfl⟩)
    go_ret
    exact ⟨by simp, ((Mod.refl _ _).alloc _).drewN _⟩
end
end Go.Proofs.YtaakgpnmfkmdoaaGreatDoor

/- The walks over package timer: Cancel, Arm, Go. No condition but those named. -/
namespace Go.Proofs.YtaakgpnmfkmdoaaGreatDoor
set_option linter.unusedVariables false
set_option linter.unusedSimpArgs false
open Go.RowKit
section
variable {F : List Nat} {w : World} {d : Nat} {A : TA}
set_option maxRecDepth 100000 in
set_option maxHeartbeats 1000000 in
theorem timers_Cancel (h : (timersA d A).holds F w) (id : Int) : Calls Tryz.prog 208 #[.pointer (some ⟨d, 0, none⟩), .int .i64 id] w (Turns (timersA d (A.cancel id)) F (.int .i64 (A.cancelE id)) w) := by
  obtain ⟨t, p, hs, hA⟩ := timersA_view h
  obtain ⟨k0, k1, k2⟩ := hA.tcells
  have hW := timers_Where_at k2 hA.tmap id
  unfold TA.cancelE TA.cancel
  rw [hs.whrE id]
  cases hd : dget t.whr id with
  | none =>
    rw [hd] at hW
    have hg := fun k => (hA.keep (u' := w.drewN k) ((Mod.refl _ _).drewN k)).timers hs
    clear hd hA
    go_enter Tryz.func208, Tryz.ntmps208
    go_wp2_with (go_at_call 230; refine hW.mono ?_; rintro e w' ⟨rfl, k, rfl⟩)
    go_ret
    exact ⟨rfl, hg _⟩
  | some c =>
    rw [hd] at hW
    have hc := hs.lt hd
    have hcn : c < t.n := by rw [hs.n]; exact hc
    have hcz : (c : Int) < (t.n : Int) := by omega
    obtain ⟨hm1, hm2⟩ := hs.mem hd
    have hdr := hs.dropE hd
    have hsim := hs.sim c hc
    have hfin := hs.cancel hd
    obtain ⟨m, rfl⟩ := Int.eq_ofNat_of_zero_le (show 0 ≤ id by omega)
    simp only [Int.toNat_natCast] at hm2
    clear hm1 hd
    go_enter Tryz.func208, Tryz.ntmps208
    go_wp2_with (go_at_call 230; refine hW.mono ?_; rintro e w' ⟨rfl, k, rfl⟩)
    obtain ⟨w1, hrun, hB⟩ := (hA.keep (u' := w.drewN k) ((Mod.refl _ _).drewN k)).tdel m
    clear hA k0 k1 k2 hW
    obtain ⟨k0, k1, k2⟩ := hB.tcells
    rw [hrun]
    go_wp2_with (first
      | (
        go_at_call 256
        refine (hB.call 1 rfl (fun F1 h1 => slot_Give _ _ _ _ _ h1 m hm2)).mono ?_
        rintro e w2 ⟨rfl, hC⟩
        clear hB k0 k1 k2
        have hC : On F w (timersL d p { t with whr := ddel t.whr m, ids := t.ids.erase m }) w2 := hC
        obtain ⟨k0, k1, k2⟩ := hC.tcells
        obtain ⟨hcap1, hcap2⟩ := hC.tcap
        have kp := hC.tptr hcn
        )
      | (
        go_at_call 275
        refine (hC.twheelDo hcn (fun F1 h1 => wheelR_Drop h1 hsim m)).mono ?_
        rintro e w3 ⟨rfl, hD⟩
        )
      )
    go_ret
    exact ⟨rfl, On.timers (t := t.cancel c m) hD hfin⟩
set_option maxRecDepth 100000 in
set_option maxHeartbeats 1000000 in
theorem timers_Arm (h : (timersA d A).holds F w) (hT : Tab w) (hF : tzL_ren.g 1 ∉ F) (cpu due : Int) : Calls Tryz.prog 204 #[.pointer (some ⟨d, 0, none⟩), .int .i64 cpu, .int .i64 due] w (Turns (timersA d (A.arm cpu due)) F (.tuple #[.int .i64 (A.armV cpu due), .int .i64 (A.armE cpu due)]) w) := by
  obtain ⟨t, p, hs, hA⟩ := timersA_view h
  obtain ⟨k0, k1, k2⟩ := hA.tcells
  have hmay := timers_may1 (w := w) _ _ _ k1 cpu
  rw [hs.n] at hmay
  have mA : ∀ k, Mod [] w ((w.alloc (.cells #[.int .i64 cpu] 3 (0,0))).drewN k) := fun k => ((Mod.refl _ _).alloc _).drewN k
  unfold TA.arm TA.armV
  have hB := fun k => hA.keep (mA k)
  by_cases hi : A.is cpu
  case neg =>
    have hE : A.armE cpu due = 3 := by unfold TA.armE; rw [if_pos hi]
    rw [hE]
    rw [if_neg (show ¬ (0 ≤ cpu ∧ cpu < (A.n : Int)) from hi)] at hmay
    have hg := fun k => (hB k).timers hs
    clear hA hi hE hB
    go_enter Tryz.func204, Tryz.ntmps204
    go_wp2_with (go_at_call 155; refine hmay.mono ?_; rintro e w' ⟨rfl, k, rfl⟩)
    go_ret2
    exact ⟨rfl, hg _⟩
  obtain ⟨hi1, hi2⟩ := hi
  rw [if_pos ⟨hi1, hi2⟩] at hmay
  by_cases hd : tickOk due
  case neg =>
    have hE : A.armE cpu due = 2 := by unfold TA.armE; rw [if_neg (fun x => x ⟨hi1, hi2⟩), if_pos hd]
    rw [hE]
    have hg := fun k => (hB k).timers hs
    have hd2 : due < 0 ∨ (0 ≤ due ∧ 1152921504606846976 < due) := by unfold tickOk at hd; omega
    clear hA hE hB hd
    rcases hd2 with hd2 | ⟨hd1, hd2⟩
    all_goals
      go_enter Tryz.func204, Tryz.ntmps204
      go_wp2_with (go_at_call 155; refine hmay.mono ?_; rintro e w' ⟨rfl, k, rfl⟩)
      go_ret2
      exact ⟨rfl, hg _⟩
  have hd1 := hd.1
  have hd2 := hd.2
  have hfull := hs.full
  have hlow := hs.low
  have k0' := cellNew (.cells #[.int .i64 cpu] 3 (0,0)) k0
  by_cases hf : 48 < A.low
  · have hE : A.armE cpu due = 5 := by unfold TA.armE; rw [if_neg (fun x => x ⟨hi1, hi2⟩), if_neg (fun x => x hd), if_pos hf]
    rw [hE]
    have hg := fun k => (hB k).timers hs
    have hl := hfull.2 hf
    have hq := fun k => ((hB k).get 1 rfl)
    have hTk := fun k => slot_Take_full _ _ _ _ _ (hq k).choose_spec hl
    clear hA hE hB hfull hq hd
    go_enter Tryz.func204, Tryz.ntmps204
    go_wp2_with (first
      | (go_at_call 155; refine hmay.mono ?_; rintro e w' ⟨rfl, k, rfl⟩)
      | (go_at_call 132; refine (hTk _).mono ?_; rintro e w' ⟨rfl, k3, rfl⟩))
    go_ret2
    exact ⟨rfl, hg _⟩
  · have hE : A.armE cpu due = 0 := by unfold TA.armE; rw [if_neg (fun x => x ⟨hi1, hi2⟩), if_neg (fun x => x hd), if_neg hf]
    rw [hE]
    obtain ⟨c, rfl⟩ := Int.eq_ofNat_of_zero_le hi1
    have hc : c < A.n := by omega
    have hcn : c < t.n := by rw [hs.n]; exact hc
    have hcz : (c : Int) < (t.n : Int) := by omega
    have hl : t.ids.length ≠ 48 := fun x => hf (hfull.1 x)
    have hle : lowN t.ids ≤ 48 := by rw [← hlow]; omega
    have hfin := hs.arm hc hd hle
    have hadd := hs.addE hc hs.lowNone hd
    have hsim := hs.sim c hc
    have hlen := hs.len hc
    rw [if_pos rfl, if_pos rfl, hlow]
    have hTk := fun k => hT.keep (mA k) (by simp)
    have hFl : ∀ b, b ∈ F → b < w.heap.size := fun b hb => (timersA d A).lt h b hb
    have htl := hT.lt
    simp only [Int.toNat_natCast]
    clear hA hE hfull hlow hf hi1 k1 k2 hd
    go_enter Tryz.func204, Tryz.ntmps204
    go_wp2_with (first
      | (go_at_call 155; refine hmay.mono ?_; rintro e w' ⟨rfl, k, rfl⟩)
      | (
        go_at_call 132
        refine ((hB k).call 1 rfl (fun F1 h1 => slot_Take _ _ _ _ _ h1 (hTk k) hl)).mono ?_
        rintro e w2 ⟨rfl, hC⟩
        clear hB k0 k0' hTk
        have hC : On F w (timersL d p { t with ids := lowN t.ids :: t.ids }) w2 := hC
        obtain ⟨k0, k1, k2⟩ := hC.tcells
        obtain ⟨w3, hrun, hD⟩ := hC.tput (lowN t.ids) c
        obtain ⟨j0, j1, j2⟩ := hD.tcells
        obtain ⟨hcap1, hcap2⟩ := hD.tcap
        have kp := hD.tptr hcn
        clear hC
        )
      | (
        go_at_call 273
        refine (hD.twheelDo hcn (fun F1 h1 => wheelR_Add h1 hsim (by omega) (lowN t.ids) due)).mono ?_
        rintro e w4 ⟨rfl, hG⟩
        )
      )
    go_ret2
    exact ⟨rfl, On.timers (t := t.arm c due) hG hfin⟩
end
end Go.Proofs.YtaakgpnmfkmdoaaGreatDoor

/- The walks over package timer: Go, Fire, Move. No condition but those named. -/
namespace Go.Proofs.YtaakgpnmfkmdoaaGreatDoor
set_option linter.unusedVariables false
set_option linter.unusedSimpArgs false
open Go.RowKit
theorem ints_nil (w : World) (a : Option Addr) : IsInts w a [] := .inl rfl
theorem tmE0 (n : Nat) : tmE n [] = 0 := by simp [tmE]
def TS.goN (t : TS) (T : Int) (j : Nat) : TS := { t with s := fun c => if c < j then (t.s c).go T else t.s c }
theorem goN_step (t : TS) (T : Int) (j : Nat) : { t.goN T j with s := upd (t.goN T j).s j ((t.s j).go T) } = t.goN T (j + 1) := by
  unfold TS.goN
  simp only [TS.mk.injEq, true_and]
  funext c
  by_cases e : c = j
  · subst e; rw [upd_same, if_pos (by omega)]
  · rw [upd_ne _ _ e]
    by_cases h : c < j
    · simp [h, show c < j + 1 by omega]
    · simp [h, show ¬ c < j + 1 by omega]
theorem goN_zero (t : TS) (T : Int) : t.goN T 0 = t := by simp [TS.goN]
section
variable {F : List Nat} {w : World} {d : Nat} {A : TA}
set_option maxRecDepth 100000 in
set_option maxHeartbeats 1000000 in
theorem timers_Go (h : (timersA d A).holds F w) (T : Int) : Calls Tryz.prog 107 #[.pointer (some ⟨d, 0, none⟩), .int .i64 T] w (Turns (timersA d (A.go T)) F (.int .i64 (A.goE T)) w) := by
  obtain ⟨t, p, hs, hA⟩ := timersA_view h
  obtain ⟨k0, k1, k2⟩ := hA.tcells
  have hmay := timers_may d t.n p.cap _ w k1 none 0 [] (by simp) (ints_nil _ _)
  rw [tmE0] at hmay
  obtain ⟨hcap1, hcap2⟩ := hA.tcap
  have hn1 := hs.n1
  rw [← hs.n] at hn1
  have hn2 := hs.n2
  rw [← hs.n] at hn2
  go_enter Tryz.func107, Tryz.ntmps107
  go_wp2_with (go_at_call 155; refine hmay.mono ?_; rintro e w' ⟨rfl, k, rfl⟩)
  go_loopg [6, 19] t.n (fun gg why i wr => ∃ j : Nat, i = .int .i64 j ∧ why = .int .i64 (if j = 0 then 0 else rgoE A.now T) ∧ j + gg = t.n ∧ On F w (timersL d p (t.goN T j)) wr)
  case atStart => exact ⟨0, rfl, rfl, by omega, by rw [goN_zero]; exact hA.keep ((Mod.refl _ _).drewN k)⟩
  case round =>
    clear hA k0 k1 k2
    obtain ⟨j, rfl, rfl, hj, hB⟩ := hrel
    by_cases hlt : j < t.n
    · have hltI : (j : Int) < t.n := by omega
      have kp := hB.tptr (c := j) hlt
      have kp2 : wr.cell? ⟨p.gb, j, none⟩ = some (.pointer (some ⟨p.D j, 0, none⟩)) := kp
      have hjn : j < A.n := by rw [← hs.n]; exact hlt
      have hsim := hs.sim j hjn
      have hlen := hs.len hjn
      have hnow := hs.now j hjn
      have hsj : (t.goN T j).s j = t.s j := by simp [TS.goN]
      generalize hwv : (if j = 0 then (0 : Int) else rgoE A.now T) = wv at *
      have hst := goN_step t T j
      go_wp2_with (
        go_at_call 195
        refine (hB.twheelDo (c := j) hlt (fun F1 h1 => by rw [hsj] at h1; exact wheelR_Go h1 hsim (by omega) T)).mono ?_
        rintro e w2 ⟨rfl, hC⟩
        rw [hst] at hC
        )
      go_roundg (gk - 1)
      case measure => omega
      case rel => exact ⟨j + 1, by go_num, by rw [if_neg (by omega)], by omega, hC⟩
    · have hltI : ¬ ((j : Int) < t.n) := by omega
      obtain rfl : j = t.n := by omega
      have hv : (if t.n = 0 then (0 : Int) else rgoE A.now T) = A.goE T := by rw [if_neg (by omega)]; rfl
      rw [hv]
      go_wp2
      go_ret
      exact ⟨rfl, On.timers (t := t.go T) (p := p) hB (hs.go T)⟩
theorem due_whr {t : TS} (hs : TSim t A) {c : Nat} (hc : c < A.n) (he : dueL A.now (A.L c) ≠ []) : A.whr (nthP (dueL A.now (A.L c)) 0).1 = some c := by
  have hm : nthP (dueL A.now (A.L c)) 0 ∈ dueL A.now (A.L c) := nthP_mem (List.length_pos_iff.2 he)
  have hm2 : nthP (dueL A.now (A.L c)) 0 ∈ A.L c := (List.mem_filter.1 hm).1
  rw [hs.whrE]
  refine (hs.whr _ c).2 ⟨hc, ?_⟩
  have h1 : dget (A.L c) (nthP (dueL A.now (A.L c)) 0).1 = some (nthP (dueL A.now (A.L c)) 0).2 := dget_of_mem (hs.sim c hc).nodup hm2
  rw [h1]
  rfl
theorem idsOf_nth (L : List (Int × Nat)) {j : Nat} (hj : j < L.length) : nth (idsOf L) j = (nthP L j).1 := by
  simp [nth, idsOf, nthP, List.getD, hj]
set_option maxRecDepth 100000 in
set_option maxHeartbeats 1000000 in
theorem timers_Fire (h : (timersA d A).holds F w) (cpu : Int) : Calls Tryz.prog 257 #[.pointer (some ⟨d, 0, none⟩), .int .i64 cpu] w (Turns (timersA d (A.fire cpu)) F (.tuple #[.int .i64 (A.fireV cpu), .int .i64 (A.fireE cpu)]) w) := by
  obtain ⟨t, p, hs, hA⟩ := timersA_view h
  obtain ⟨k0, k1, k2⟩ := hA.tcells
  have hmay := timers_may1 (w := w) _ _ _ k1 cpu
  rw [hs.n] at hmay k1
  have mA : ∀ k, Mod [] w ((w.alloc (.cells #[.int .i64 cpu] 3 (0,0))).drewN k) := fun k => ((Mod.refl _ _).alloc _).drewN k
  unfold TA.fire TA.fireV
  by_cases hi : A.is cpu
  case neg =>
    have hE : A.fireE cpu = 3 := by unfold TA.fireE; rw [if_pos hi]
    rw [hE]
    rw [if_neg (show ¬ (0 ≤ cpu ∧ cpu < (A.n : Int)) from hi)] at hmay
    have hg := fun k => (hA.keep (mA k)).timers hs
    clear hA hi hE
    go_enter Tryz.func257, Tryz.ntmps257
    go_wp2_with (go_at_call 155; refine hmay.mono ?_; rintro e w' ⟨rfl, k, rfl⟩)
    go_ret2
    exact ⟨rfl, hg _⟩
  obtain ⟨hi1, hi2⟩ := hi
  rw [if_pos ⟨hi1, hi2⟩] at hmay
  obtain ⟨c, rfl⟩ := Int.eq_ofNat_of_zero_le hi1
  have hc : c < A.n := by omega
  have hcn : c < t.n := by rw [hs.n]; exact hc
  have hcz : (c : Int) < (A.n : Int) := by omega
  obtain ⟨hcap1, hcap2⟩ := hA.tcap
  rw [hs.n] at hcap1
  have kp := cellNew (.cells #[.int .i64 (c : Int)] 3 (0,0)) (hA.tptr hcn)
  have k1' := cellNew (.cells #[.int .i64 (c : Int)] 3 (0,0)) k1
  have hq := fun k => (hA.keep (mA k)).twheel hcn
  have hN := fun k => wheelR_Due (hq k).choose_spec (hs.sim c hc) (by have := hs.len hc; omega)
  rw [hs.now c hc] at hN
  have hEq : A.fireE c = if dueL A.now (A.L c) = [] then 12 else 0 := by unfold TA.fireE TA.due; rw [if_neg (fun x => x ⟨hi1, hi2⟩)]; rfl
  by_cases he : dueL A.now (A.L c) = []
  · rw [if_pos he] at hEq
    rw [hEq]
    rw [he] at hN
    have hg := fun u (m : Mod [] w u) => (hA.keep m).timers hs
    clear hA hq hEq he hi1
    go_enter Tryz.func257, Tryz.ntmps257
    go_wp2_with (first
      | (go_at_call 155; refine hmay.mono ?_; rintro e w' ⟨rfl, k, rfl⟩)
      | (go_at_call 243; refine (hN _).mono ?_; rintro e w2 ⟨a2, c2, rfl, m2, i2, n2⟩))
    go_ret2
    exact ⟨rfl, hg _ ((mA k).trans m2 (by simp))⟩
  · rw [if_neg he] at hEq
    rw [hEq, if_pos rfl, if_pos rfl]
    have hdue : A.due c = dueL A.now (A.L c) := rfl
    rw [hdue]
    have hw := due_whr hs hc he
    have hcan : A.cancel (nthP (dueL A.now (A.L c)) 0).1 = A.put c (ddel (A.L c) (nthP (dueL A.now (A.L c)) 0).1) := by unfold TA.cancel; rw [hw]
    have hcanE : A.cancelE (nthP (dueL A.now (A.L c)) 0).1 = 0 := by unfold TA.cancelE; rw [hw]; rfl
    have hne : idsOf (dueL A.now (A.L c)) ≠ [] := by simpa [idsOf] using he
    have hpos : 0 < (dueL A.now (A.L c)).length := List.length_pos_iff.2 he
    have hlp : 0 < (idsOf (dueL A.now (A.L c))).length := List.length_pos_iff.2 hne
    have hn0 := idsOf_nth _ hpos
    simp only [Int.toNat_natCast]
    rw [← hcan]
    generalize idsOf (dueL A.now (A.L c)) = v at *
    generalize (nthP (dueL A.now (A.L c)) 0).1 = id at *
    have hlt := (timersA d A).lt h
    clear hA hq hEq he hi1 hw hcan hdue hpos
    go_enter Tryz.func257, Tryz.ntmps257
    go_wp2_with (first
      | (go_at_call 155; refine hmay.mono ?_; rintro e w' ⟨rfl, k, rfl⟩)
      | (
        go_at_call 243
        refine (hN _).mono ?_
        rintro e w2 ⟨a2, c2, rfl, m2, i2, n2⟩
        obtain ⟨b, rfl, hb, hcell⟩ := i2.resolve_left hne
        have q0 := hcell 0 hlp
        rw [hn0] at q0
        have n3 := n2 b 0 rfl
        have m3 := (mA k).trans m2 (by simp)
        ))
    have hbF : b ∉ F := fun hb' => by have := hlt b hb'; simp at n3; omega
    clear hN hcell
    go_region_held3 (fun u => u.cell? ⟨b, 0, none⟩ = some (.int .i64 id)) (assumption) (first
      | (
        go_at_call 208
        refine (timers_Cancel (A := A) (F := F) ((timersA d A).keep h (S := []) ?_ (by simp)) id).mono ?_
        · exact m3.drewN _
        rintro e w4 ⟨rfl, F4, g1, g2, g3⟩
        have q4 := g2.at (p := ⟨b, 0, none⟩) (by exact q0) hbF
        ))
    go_wp2
    go_ret2
    have m4 : Mod [] w w2.drew := m3.drew
    refine ⟨rfl, F4, g1, (m4.mono (by simp)).trans g2 (fun b hb => .inl hb), fun b hb => ?_⟩
    have h6 := m4.size
    rcases g3 b hb with hb | hb
    · exact .inl hb
    · exact .inr (by omega)
theorem first_whr {t : TS} (hs : TSim t A) {c : Nat} (hc : c < A.n) (he : A.L c ≠ []) : dget t.whr (nthP (A.L c) 0).1 = some c ∧ A.whenV (nthP (A.L c) 0).1 = ((nthP (A.L c) 0).2 : Nat) ∧ tickOk ((nthP (A.L c) 0).2 : Nat) := by
  have hm : nthP (A.L c) 0 ∈ A.L c := nthP_mem (List.length_pos_iff.2 he)
  have h1 := dget_of_mem (hs.sim c hc).nodup (i := (nthP (A.L c) 0).1) (v := (nthP (A.L c) 0).2) hm
  have h2 : dget t.whr (nthP (A.L c) 0).1 = some c := (hs.whr _ c).2 ⟨hc, by rw [h1]; rfl⟩
  refine ⟨h2, ?_, ?_⟩
  · unfold TA.whenV
    rw [hs.whrE, h2]
    simp only
    rw [h1]
    rfl
  · have := (hs.sim c hc).inv.ok.due _ ((hs.sim c hc).perm.mem_iff.1 hm)
    exact ⟨by omega, by omega⟩
theorem TSim.addE2 {t : TS} (h : TSim t A) {c e : Nat} (he : e < A.n) {id : Int} (hid : dget t.whr id = some c) (hce : c ≠ e) {due : Int} (hd : tickOk due) : (t.s e).addE id due = 0 := by
  have h0 : dget (A.L e) id = none := by
    cases hx : dget (A.L e) id with
    | none => rfl
    | some v =>
      have := (h.whr id e).2 ⟨he, by rw [hx]; rfl⟩
      rw [hid] at this
      simp at this
      exact absurd this hce
  have h1 : dget (t.s e).dues id = none := by rw [← (h.sim e he).get]; exact h0
  unfold SW.addE
  rw [if_neg (by simpa using hd), h1]
  rfl
set_option maxRecDepth 100000 in
set_option maxHeartbeats 2000000 in
theorem timers_Move (h : (timersA d A).holds F w) (fr to : Int) : Calls Tryz.prog 298 #[.pointer (some ⟨d, 0, none⟩), .int .i64 fr, .int .i64 to] w (Turns (timersA d (A.move fr to)) F (.tuple #[.int .i64 (A.moveV fr to), .int .i64 (A.moveE fr to)]) w) := by
  obtain ⟨t, p, hs, hA⟩ := timersA_view h
  obtain ⟨k0, k1, k2⟩ := hA.tcells
  have hmay := timers_may d t.n p.cap _ (w.alloc (.cells #[.int .i64 fr, .int .i64 to] 3 (0,0))) (cellNew _ k1) (some ⟨w.heap.size, 0, none⟩) 2 [fr, to] (by simp) (ints_new2 w fr to _)
  rw [tmE2, hs.n] at hmay
  have mA : ∀ k, Mod [] w ((w.alloc (.cells #[.int .i64 fr, .int .i64 to] 3 (0,0))).drewN k) := fun k => ((Mod.refl _ _).alloc _).drewN k
  have hg := fun u (m : Mod [] w u) => (hA.keep m).timers hs
  unfold TA.move TA.moveV
  by_cases hi : A.is fr ∧ A.is to
  case neg =>
    have hE : A.moveE fr to = 3 := by
      unfold TA.moveE
      rw [if_pos]
      by_cases x : A.is fr
      · exact .inr (fun y => hi ⟨x, y⟩)
      · exact .inl x
    rw [hE]
    rw [if_neg (show ¬ ((0 ≤ fr ∧ fr < (A.n : Int)) ∧ (0 ≤ to ∧ to < (A.n : Int))) from hi)] at hmay
    clear hA hi hE
    go_enter Tryz.func298, Tryz.ntmps298
    go_wp2_with (go_at_call 155; refine hmay.mono ?_; rintro e w' ⟨rfl, k, rfl⟩)
    go_ret2
    exact ⟨rfl, hg _ (mA k)⟩
  obtain ⟨⟨hi1, hi2⟩, hj1, hj2⟩ := hi
  rw [if_pos ⟨⟨hi1, hi2⟩, hj1, hj2⟩] at hmay
  have hL := fun k => timers_List ((timersA d A).keep h (mA k) (by simp)) fr
  have hlist : A.list fr = idsOf (A.L fr.toNat) := by unfold TA.list; rw [if_pos ⟨hi1, hi2⟩]
  rw [hlist] at hL
  have hE0 : A.moveE fr to = if fr = to then 2 else if A.L fr.toNat = [] then 12 else 0 := by
    unfold TA.moveE
    rw [if_neg]
    rintro (x | x)
    · exact x ⟨hi1, hi2⟩
    · exact x ⟨hj1, hj2⟩
  by_cases hft : fr = to
  · rw [if_pos hft] at hE0
    rw [hE0]
    subst hft
    clear hA hE0 k0 k1 k2 hlist
    generalize idsOf (A.L fr.toNat) = v at *
    go_enter Tryz.func298, Tryz.ntmps298
    go_wp2_with (first
      | (go_at_call 155; refine hmay.mono ?_; rintro e w' ⟨rfl, k, rfl⟩)
      | (go_at_call 331; refine (hL _).mono ?_; rintro e w2 ⟨a2, c2, rfl, m2, i2, n2⟩))
    go_ret2
    exact ⟨rfl, hg _ ((mA k).trans m2 (by simp))⟩
  rw [if_neg hft] at hE0
  by_cases hem : A.L fr.toNat = []
  · rw [if_pos hem] at hE0
    rw [hE0]
    rw [hem] at hL
    clear hA hE0 k0 k1 k2 hlist hem
    go_enter Tryz.func298, Tryz.ntmps298
    go_wp2_with (first
      | (go_at_call 155; refine hmay.mono ?_; rintro e w' ⟨rfl, k, rfl⟩)
      | (go_at_call 331; refine (hL _).mono ?_; rintro e w2 ⟨a2, c2, rfl, m2, i2, n2⟩))
    go_ret2
    exact ⟨rfl, hg _ ((mA k).trans m2 (by simp))⟩
  rw [if_neg hem] at hE0
  rw [hE0, if_pos rfl, if_pos rfl]
  obtain ⟨c, rfl⟩ := Int.eq_ofNat_of_zero_le hi1
  obtain ⟨e, rfl⟩ := Int.eq_ofNat_of_zero_le hj1
  simp only [Int.toNat_natCast] at hem hL ⊢
  have hce : c ≠ e := fun x => hft (by rw [x])
  have hc : c < A.n := by omega
  have he : e < A.n := by omega
  have hcn : c < t.n := by rw [hs.n]; exact hc
  have hen : e < t.n := by rw [hs.n]; exact he
  have hcz : (c : Int) < (t.n : Int) := by omega
  have hez : (e : Int) < (t.n : Int) := by omega
  obtain ⟨f1, f2, f3⟩ := first_whr hs hc hem
  have hWh := fun u (m : Mod [] w u) => timers_When ((timersA d A).keep h m (by simp)) (nthP (A.L c) 0).1
  rw [f2] at hWh
  have hpos : 0 < (A.L c).length := List.length_pos_iff.2 hem
  have hn0 := idsOf_nth (A.L c) hpos
  have hne : idsOf (A.L c) ≠ [] := by simpa [idsOf] using hem
  have hlp : 0 < (idsOf (A.L c)).length := List.length_pos_iff.2 hne
  have hsc := hs.sim c hc
  have hse := hs.sim e he
  have hle := hs.len he
  have hadd := hs.addE2 he f1 hce f3
  have hfin := hs.move he hce f1 f3
  obtain ⟨hcap1, hcap2⟩ := hA.tcap
  generalize idsOf (A.L c) = v at *
  generalize (nthP (A.L c) 0).1 = id at *
  generalize (nthP (A.L c) 0).2 = due at *
  clear hE0 hft hem hlist hi1 hj1 hpos f1 f2 f3 k0 k2
  go_enter Tryz.func298, Tryz.ntmps298
  go_wp2_with (first
    | (go_at_call 155; refine hmay.mono ?_; rintro e w' ⟨rfl, k, rfl⟩)
    | (
      go_at_call 331
      refine (hL _).mono ?_
      rintro e w2 ⟨a2, c2, rfl, m2, i2, n2⟩
      obtain ⟨b, rfl, hb, hcell⟩ := i2.resolve_left hne
      have q0 := hcell 0 hlp
      rw [hn0] at q0
      have m3 := (mA k).trans m2 (by simp)
      have hB := hA.keep m3
      obtain ⟨k0, k1, k2⟩ := hB.tcells
      have kp := hB.tptr hcn
      clear hcell
      )
    | (
      go_at_call 332
      refine (hWh _ m3).mono ?_
      rintro e w4 ⟨rfl, k4, rfl⟩
      )
    | (
      go_at_call 275
      refine ((hB.keep (u' := w2.drewN k4) ((Mod.refl _ _).drewN _)).twheelDo hcn (fun F1 h1 => wheelR_Drop h1 hsc id)).mono ?_
      rintro e w5 ⟨rfl, hC⟩
      obtain ⟨w6, hrun, hD⟩ := hC.tput id e
      obtain ⟨i0, i1, i2⟩ := hC.tcells
      obtain ⟨j0, j1, j2⟩ := hD.tcells
      have kp := hD.tptr hen
      clear hC
      )
    | (
      go_at_call 273
      refine (hD.twheelDo hen (fun F1 h1 => by
        have h1 := h1
        simp only [upd_ne _ _ (Ne.symm hce)] at h1
        exact wheelR_Add h1 hse (by omega) id due)).mono ?_
      rintro e w7 ⟨rfl, hG⟩
      )
    )
  go_ret2
  exact ⟨rfl, On.timers (t := t.move c e id due) hG hfin⟩
end
end Go.Proofs.YtaakgpnmfkmdoaaGreatDoor

/- The walk over package timer's New. No condition but those named. -/
namespace Go.Proofs.YtaakgpnmfkmdoaaGreatDoor
set_option linter.unusedVariables false
set_option linter.unusedSimpArgs false
open Go.RowKit
theorem infoPW : (Tryz.prog.info? 173).map (fun i => (i.zero, i.size, i.bytes)) = some (some (.pointer none), 1, 8) := by kernel_rfl
/-- The timers while they are made. -/
def madeL (d tb mw : Nat) (g : Option Nat) (cap j : Nat) (D : Nat → Nat) : List Res :=
  [Res.blk d (.cells #[.pointer (some ⟨tb, 0, none⟩), .slice (rA g) j cap, .map (some mw)] 172 (0,0)),
    slotR tb 48 [], mapR .i64 mw (duesV []), rowR 173 1 g cap j (ptrsV j D)] ++ (List.range j).map fun i => wheelR (D i) (sw0 0)
theorem ptrsV_succ (j : Nat) (D : Nat → Nat) (x : Nat) : ptrsV (j + 1) (upd D j x) = ptrsV j D ++ [.pointer (some ⟨x, 0, none⟩)] := by
  unfold ptrsV
  rw [List.range_succ, List.map_append]
  congr 1
  · refine List.map_congr_left fun i hi => ?_
    rw [upd_ne _ _ (by have := List.mem_range.1 hi; omega)]
  · simp [upd_same]
theorem wheels_succ (j : Nat) (D : Nat → Nat) (x : Nat) : ((List.range (j + 1)).map fun i => wheelR (upd D j x i) (sw0 0)) = ((List.range j).map fun i => wheelR (D i) (sw0 0)) ++ [wheelR x (sw0 0)] := by
  rw [List.range_succ, List.map_append]
  congr 1
  · refine List.map_congr_left fun i hi => ?_
    rw [upd_ne _ _ (by have := List.mem_range.1 hi; omega)]
  · simp [upd_same]
theorem timers_New_no (n : Int) (hn : ¬ (1 ≤ n ∧ n ≤ 64)) (w : World) : Calls Tryz.prog 48 #[.int .i64 n] w (Ret (.tuple #[.pointer none, .int .i64 2]) w) := by
  by_cases h1 : n < 1
  · clear hn
    go_enter Tryz.func48, Tryz.ntmps48
    go_wp2
    go_ret2
    exact Ret.of (rfl) (by repeat (first | exact Drew.refl _ | apply Drew.drewN | apply Drew.drew))
  · have h2 : 64 < n := by omega
    clear hn
    go_enter Tryz.func48, Tryz.ntmps48
    go_wp2
    go_ret2
    exact Ret.of (rfl) (by repeat (first | exact Drew.refl _ | apply Drew.drewN | apply Drew.drew))
set_option maxRecDepth 100000 in
set_option maxHeartbeats 1000000 in
theorem timers_New (n : Nat) (h1 : 1 ≤ n) (h2 : n ≤ 64) (w : World) : Calls Tryz.prog 48 #[.int .i64 n] w (TurnsV (fun d : Nat => .tuple #[.pointer (some ⟨d, 0, none⟩), .int .i64 0]) (fun d => timersA d (ta0 n)) [] w) := by
  have hS := (On.start w).make (slot_New 48 (by omega) (by omega) w)
  have hmk := fun w => run_makeMap (P := Tryz.prog) 82 w
  go_enter Tryz.func48, Tryz.ntmps48
  go_wp2_with (
    go_at_call 91
    refine hS.mono ?_
    rintro e w1 ⟨tb, rfl, hA⟩
    )
  have hB : On [] w (madeL (w1.heap.size + 1) tb w1.heap.size none 0 0 (fun _ => 0)) ((w1.alloc (.map #[] 0)).alloc (.cells #[.pointer (some ⟨tb, 0, none⟩), .slice none 0 0, .map (some w1.heap.size)] 172 (0,0))) := by
    have x1 := (hA.alloc (.map #[] 0)).as (P' := mapR .i64 w1.heap.size (duesV [])) 1 rfl (fun F hF => by
      obtain ⟨rfl, hF⟩ := hF
      exact ⟨rfl, #[], 0, hF, by simp [duesV], by simp [duesV], by simp, by simp⟩)
    have x2 := x1.alloc (.cells #[.pointer (some ⟨tb, 0, none⟩), .slice none 0 0, .map (some w1.heap.size)] 172 (0,0))
    have x3 := x2.front.more (P := rowR 173 1 none 0 0 []) ⟨rfl, RAt.nil _ _ _⟩
    simpa [madeL, ptrsV, rA] using x3
  generalize hd : w1.heap.size + 1 = d at *
  have hdz : (w1.alloc (.map #[] 0)).heap.size = d := by simp [hd]
  go_loopg [27] n (fun gg i wr => ∃ (j : Nat) (g : Option Nat) (cap : Nat) (D : Nat → Nat), i = .int .i64 j ∧ j + gg = n ∧ On [] w (madeL d tb w1.heap.size g cap j D) wr)
  case atStart => exact ⟨0, none, 0, _, rfl, by omega, hB⟩
  case round =>
    clear hB
    obtain ⟨j, g, cap, D, rfl, hj, hB⟩ := hrel
    by_cases hlt : j < n
    · have hltI : (j : Int) < n := by omega
      have hN := hB.make (wheelR_New wr)
      go_wp2_with (first
        | (
          go_at_call 93
          refine hN.mono ?_
          rintro e w2 ⟨dw, rfl, hC⟩
          have c1 := hC.cell 0 rfl 1
          have hC2 := hC.keep (u' := w2.alloc (.cells #[.pointer (some ⟨dw, 0, none⟩)] 173 (0,0))) ((Mod.refl _ _).alloc _)
          have c2 := hC2.cell 0 rfl 1
          obtain ⟨g', cap', w3, hrun, hD⟩ := hC2.rowAppend (P := Tryz.prog) (tt := 170) (bytes := 8) 3 rfl Tryz.underlying170 infoPW rfl (by omega) (by omega) (by omega) (b := w2.heap.size) (news := [.pointer (some ⟨dw, 0, none⟩)]) rfl (by simp [Value.oneCell']) (heapNew _ _)
          have c3 := hD.cell 0 rfl 1
          have f3 := hD.free 0 rfl 1
          have z3 := hD.size 0 rfl
          )
        | (
          at_builtin
          refine wpList_append_run rfl _ _ _ rfl rfl rfl (hrun _) ?_
          )
        )
      have hE := hD.set 0 rfl 1 (.slice (some ⟨g', 0, none⟩) (j + 1) cap')
      go_roundg (gk - 1)
      case measure => omega
      case rel =>
        refine ⟨j + 1, some g', cap', upd D j dw, by go_num, by omega, ?_⟩
        have e : madeL d tb w1.heap.size (some g') cap' (j + 1) (upd D j dw) = (((madeL d tb w1.heap.size g cap j D ++ [wheelR dw (sw0 0)]).set 3 (rowR 173 1 (some g') cap' (j + 1) (ptrsV j D ++ [Value.pointer (some ⟨dw, 0, none⟩)]))).set 0 (Res.blk d (Obj.cells ((#[Value.pointer (some ⟨tb, 0, none⟩), Value.slice (rA g) j cap, Value.map (some w1.heap.size)] : Array Value).setIfInBounds 1 (Value.slice (some ⟨g', 0, none⟩) (j + 1) cap')) 172 (0,0)))) := by
          simp [madeL, ptrsV_succ, wheels_succ, rA]
        rw [e]
        exact hE
    · have hltI : ¬ (j : Int) < n := by omega
      obtain rfl : j = n := by omega
      obtain ⟨F1, _, hr⟩ := hB.get 3 rfl
      cases g with
      | none => obtain ⟨_, h0, _⟩ := hr; omega
      | some gb =>
        clear hr
        go_wp2
        go_ret2
        exact ⟨d, rfl, hB.gains.imp fun F' h' => ⟨ts0 j, tsim0 h1 h2, ⟨tb, gb, cap, w1.heap.size, D⟩, h'⟩⟩
end Go.Proofs.YtaakgpnmfkmdoaaGreatDoor

/- A library's table of small numbers that is laid as listed: its cells. No condition. -/
namespace Go.Proofs.YtaakgpnmfkmdoaaGreatDoor
set_option linter.unusedVariables false
set_option linter.unusedSimpArgs false
open Go.RowKit

theorem tab_of_trod {H : Type} {enc : TypeId × Value → H} {P : Program} {W : World} {base : Nat} {sp : Nat → Bool} {fuel n : Nat} {t e : TypeId} {cs : List Value} {p : List MemPlace} (ht : P.underlying t = some (.array n e)) (he : P.underlying e = some (.int .u8)) (hc : P.cellsOf e = 1) {tab : List Nat} (hl : tab.length = n)
    (h : DataW.trod enc P W base sp false fuel t cs = some (.agg (tab.map fun k : Nat => .lit (.int .u8 (k : Int))), p)) (j : Nat) (hj : j < n) : cs[j]? = some (.int .u8 (tab.getD j 0 : Nat)) := by
  obtain ⟨xs, m, rfl, hx, hcl, hn, hel⟩ := DataW.trod_array ht h
  have h1 := hel j hj
  rw [hc, Nat.mul_one, List.getElem?_eq_getElem (by omega)] at h1
  obtain ⟨k, e1, e2, _⟩ := DataW.trod_int he h1
  simp only [Prod.mk.injEq, DataW.agg.injEq] at hx
  have h2 := congrArg (fun l => l[j]?) hx.1
  simp only [List.getElem?_map, List.getElem?_eq_getElem (show j < tab.length by omega), List.getElem?_eq_getElem (show j < xs.length by omega), Option.map_some, e2, Option.some.injEq, DataW.lit.injEq, Lit.int.injEq, true_and] at h2
  have h3 : cs[j]? = some (.int .u8 k) := by
    have := congrArg (fun l => l[0]?) e1
    simpa [List.getElem?_take, List.getElem?_drop] using this
  rw [h3, ← h2, List.getD_eq_getElem?_getD, List.getElem?_eq_getElem (show j < tab.length by omega)]
  rfl
theorem tab_of_laid {W : World} (h : laidMetH Tryz.prog [("math/bits.deBruijn64tab", Rows.laid_math_bits_deBruijn64tab)] W) : Tab W := by
  rw [MakeChecks.laidMetH_plain _ _ _ (by kernel_rfl)] at h
  obtain ⟨ps, ⟨g0, t0, cs0, f0, p0, q0, hg0, ht0, hv0, hd0, _, _⟩, _, _⟩ := h
  obtain rfl := Option.some.inj ((show Tryz.prog.globalNamed "math/bits.deBruijn64tab" = some (tzL_ren.g 1) by kernel_rfl).symm.trans hg0)
  obtain rfl := Option.some.inj ((show (Tryz.prog.globals[tzL_ren.g 1]?).map (·.type) = some 333 by kernel_rfl).symm.trans ht0)
  intro j hj
  refine (World.var?_cell hg0 hv0 j).trans ?_
  have := tab_of_trod (n := 64) Tryz.underlying333 Tryz.underlying5 (by kernel_rfl) (tab := Lib.deBruijn64tab) (by decide) hd0 j hj
  simpa using this
end Go.Proofs.YtaakgpnmfkmdoaaGreatDoor
