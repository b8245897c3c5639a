/- Numbers that are given out (package slot): a table of bits is a list of numbers; the walks over New, Take, Give. -/
import Derived.Test.YthieionajemjhaaDoorRow
import Derived.Test.YthieionajemjhaaDoorRes
import Derived.Test.YthieionajemjhaaDoorMask
import Derived.Deep.OwnRows
import Derived.Test.YthieionajemjhaaDoorTab
namespace Go.Proofs.YthieionajemjhaaDoor
set_option linter.unusedVariables false
set_option linter.unusedSimpArgs false
open Go.RowKit

/-- n is the least number from 1 on that is not in l. -/
def IsLow (l : List Nat) (n : Nat) : Prop := 1 ≤ n ∧ n ∉ l ∧ ∀ m, 1 ≤ m → m < n → m ∈ l
theorem IsLow.unique {l : List Nat} {n m : Nat} (h : IsLow l n) (g : IsLow l m) : n = m := by
  rcases Nat.lt_trichotomy n m with hh | hh | hh
  · exact absurd (g.2.2 n h.1 hh) h.2.1
  · exact hh
  · exact absurd (h.2.2 m g.1 hh) g.2.1
theorem sub_len {α : Type} [DecidableEq α] : ∀ (l m : List α), l.Nodup → (∀ x, x ∈ l → x ∈ m) → l.length ≤ m.length
  | [], m, _, _ => by simp
  | a :: l, m, hn, hs => by
    have ha := hs a List.mem_cons_self
    have hn' := List.nodup_cons.1 hn
    have := sub_len l (m.erase a) hn'.2 (fun x hx => by
      have hne : x ≠ a := fun e => hn'.1 (e ▸ hx)
      exact (List.mem_erase_of_ne hne).2 (hs x (List.mem_cons_of_mem _ hx)))
    rw [List.length_erase_of_mem ha] at this
    have : 0 < m.length := List.length_pos_of_mem ha
    simp only [List.length_cons]
    omega
def lowN (l : List Nat) : Nat := ((List.range (l.length + 1)).find? (fun k => !decide (k + 1 ∈ l))).getD 0 + 1
theorem low_exists (l : List Nat) : ∃ k, k ≤ l.length ∧ k + 1 ∉ l := by
  apply Classical.byContradiction
  intro h
  have h1 : ∀ k, k ≤ l.length → k + 1 ∈ l := fun k hk => Classical.byContradiction fun hn => h ⟨k, hk, hn⟩
  have := sub_len ((List.range (l.length + 1)).map (· + 1)) l (by
    refine List.Pairwise.map _ (fun a b hab h => hab (by omega)) (List.nodup_range) ) (fun x hx => by
    obtain ⟨k, hk, rfl⟩ := List.mem_map.1 hx
    exact h1 k (by have := List.mem_range.1 hk; omega))
  simp at this
  omega
theorem lowN_spec (l : List Nat) : IsLow l (lowN l) ∧ lowN l ≤ l.length + 1 := by
  unfold lowN
  cases hf : (List.range (l.length + 1)).find? (fun k => !decide (k + 1 ∈ l)) with
  | none =>
    exfalso
    obtain ⟨k, h1, h2⟩ := low_exists l
    have := List.find?_eq_none.1 hf k (List.mem_range.2 (by omega))
    simp at this
    exact h2 this
  | some k =>
    obtain ⟨h1, i, h2, h3, h4⟩ := List.find?_eq_some_iff_getElem.1 hf
    have hi : k = i := by simpa using h3.symm
    simp only [List.length_range] at h2
    simp only [Option.getD_some]
    refine ⟨⟨by omega, by simpa using h1, fun m hm hlt => ?_⟩, by omega⟩
    have := h4 (m - 1) (by omega)
    simp at this
    rwa [show m - 1 + 1 = m by omega] at this

/-- What the count of trailing zeros of a word's complement tells. -/
theorem ctz_not {x : Nat} (hx : x < 2 ^ 64) : (Lib.ctz 64 (2 ^ 64 - 1 - x) = 64 ∧ ∀ j, j < 64 → x.testBit j = true) ∨ (Lib.ctz 64 (2 ^ 64 - 1 - x) < 64 ∧ x.testBit (Lib.ctz 64 (2 ^ 64 - 1 - x)) = false ∧ ∀ j, j < Lib.ctz 64 (2 ^ 64 - 1 - x) → x.testBit j = true) := by
  have hb : ∀ j, j < 64 → (2 ^ 64 - 1 - x).testBit j = !x.testBit j := by
    intro j hj
    have := Nat.testBit_two_pow_sub_succ (n := 64) hx j
    rw [show 2 ^ 64 - 1 - x = 2 ^ 64 - (x + 1) by omega, this]
    simp [hj]
  by_cases h0 : 2 ^ 64 - 1 - x = 0
  · left
    rw [h0]
    refine ⟨rfl, fun j hj => ?_⟩
    have := hb j hj
    rw [h0] at this
    simpa using this.symm
  · right
    have hc : Lib.ctz 64 (2 ^ 64 - 1 - x) = Lib.ctzFrom 64 (2 ^ 64 - 1 - x) := by unfold Lib.ctz; rw [if_neg h0]
    obtain ⟨m, hm, hk⟩ := Lib.ctzFrom_spec 64 (2 ^ 64 - 1 - x) (by omega) (by omega)
    rw [hc]
    generalize Lib.ctzFrom 64 (2 ^ 64 - 1 - x) = k at *
    have ht : ∀ j, (2 ^ 64 - 1 - x).testBit j = (decide (k ≤ j) && (2 * m + 1).testBit (j - k)) := by
      intro j
      rw [hm, Nat.mul_comm, Nat.testBit_mul_two_pow]
    refine ⟨hk, ?_, fun j hj => ?_⟩
    · have h1 := ht k
      have h2 := hb k hk
      rw [h1] at h2
      simp [Nat.testBit_zero] at h2
      simpa using h2
    · have h1 := ht j
      have h2 := hb j (by omega)
      rw [h1] at h2
      have : decide (k ≤ j) = false := decide_eq_false (by omega)
      rw [this] at h2
      simpa using h2
theorem slot_tz (x : Nat) (hx : x < 2 ^ 64) (w : World) (hT : Tab w) : Calls Tryd.prog 56 #[.int .u64 x] w (Ret (.int .i64 (Lib.ctz 64 x)) w) := by
  refine Calls.mono (show Calls Tryd.prog 56 _ _ _ from Any7.bits_TrailingZeros64 tzL x (by omega) w (fun _ => hT)) ?_
  rintro e w' ⟨rfl, rfl⟩
  exact ⟨rfl, Drew.refl _⟩
theorem infoU64 : (Tryd.prog.info? 91).map (fun i => (i.zero, i.size, i.bytes)) = some (some (.int .u64 0), 1, 8) := by kernel_rfl
/-- A table of at most 64 numbers, of which ids are given out: one word of bits. -/
structure SlotOk (most : Nat) (ids : List Nat) : Prop where
  most1 : 1 ≤ most
  most2 : most ≤ 64
  nodup : ids.Nodup
  bd : ∀ n, n ∈ ids → 1 ≤ n ∧ n ≤ most
theorem SlotOk.len {most : Nat} {ids : List Nat} (h : SlotOk most ids) : ids.length ≤ most := by
  have := sub_len ids ((List.range most).map (· + 1)) h.nodup (fun x hx => by
    obtain ⟨h1, h2⟩ := h.bd x hx
    exact List.mem_map.2 ⟨x - 1, List.mem_range.2 (by omega), by omega⟩)
  simpa using this
structure WordOk (x : Nat) (ids : List Nat) : Prop where
  lt : x < 2 ^ 64
  bit : ∀ j, j < 64 → x.testBit j = decide (j + 1 ∈ ids)
def slotObj (r most : Nat) (ids : List Nat) : Obj := .cells #[.slice (some ⟨r, 0, none⟩) 1 1, .int .i64 most, .int .i64 ids.length] 84 (0,0)
def wordObj (x : Nat) : Obj := .cells #[.int .u64 (x : Nat)] 91 (0,0)
def slotR (t most : Nat) (ids : List Nat) : Res :=
  Res.such (SlotOk most ids) (Res.ex fun r : Nat => Res.ex fun x : Nat => Res.such (WordOk x ids) (Res.star [Res.blk t (slotObj r most ids), Res.blk r (wordObj x)]))
theorem madeU1 : madeCells #[Value.int .u64 0] 1 = #[.int .u64 0] := by kernel_rfl
set_option maxRecDepth 100000 in
theorem slot_New (n : Nat) (h1 : 1 ≤ n) (h2 : n ≤ 64) (w : World) : Calls Tryd.prog 29 #[.int .i64 n] w (TurnsV (fun t : Nat => .tuple #[.pointer (some ⟨t, 0, none⟩), .int .i64 0]) (fun t => slotR t n []) [] w) := by
  obtain ⟨k, hk⟩ : ∃ k : Nat, k = 1 := ⟨_, rfl⟩
  have hmk := fun w => Go.run_make_row' (P := Tryd.prog) 82 91 (.int .u64 0) 8 Tryd.underlying82 infoU64 rfl .i64 .i64 k (by omega) (by omega) w
  rw [show (k : Int) = ((n : Int) + 64 - 1) / 64 by omega] at hmk
  have hk9 : ((n : Int) + 64 - 1) / 64 = 1 := by omega
  have HK := Lib.hid (And.intro hk hk9)
  clear hk hk9
  go_enter Tryd.func29, Tryd.ntmps29
  go_wp2
  go_ret2
  obtain ⟨hk, hk9⟩ := HK.out
  subst hk
  simp only [madeU1, hk9]
  refine ⟨w.heap.size + 1, rfl, [w.heap.size + 1, w.heap.size], ⟨⟨h1, h2, by simp, by simp⟩, w.heap.size, 0, ⟨by omega, by simp⟩, [w.heap.size + 1], [w.heap.size], rfl, ⟨rfl, ?_⟩, ⟨[w.heap.size], [], rfl, ⟨rfl, ?_⟩, rfl, by simp⟩, by simp⟩, Mod.alloc (Mod.alloc (Mod.refl _ _) _) _, by simp⟩
  · have := heapNew (w.alloc (Obj.cells (madeCells #[Value.int .u64 0] 1) 91)) (Obj.cells #[.slice (some ⟨w.heap.size, 0, none⟩) 1 1, .int .i64 n, .int .i64 0] 84)
    rw [madeU1] at this
    simpa [slotObj, hk9] using this
  · have := heapOld (o := Obj.cells #[.slice (some ⟨w.heap.size, 0, none⟩) 1 1, .int .i64 n, .int .i64 0] 84) (heapNew w (Obj.cells (madeCells #[Value.int .u64 0] 1) 91))
    rw [madeU1] at this
    simpa [wordObj, hk9] using this
theorem not_u64 (x : Nat) (hx : x < 2 ^ 64) : bits .xor .u64 IntKind.u64.max (x : Int) = ((2 ^ 64 - 1 - x : Nat) : Int) := by
  have h1 : BitVec.ofInt 64 IntKind.u64.max = BitVec.allOnes 64 := by decide
  have h2 : (BitVec.ofInt 64 (x : Int)).toNat = x := by
    rw [BitVec.ofInt_natCast, BitVec.toNat_ofNat]; exact Nat.mod_eq_of_lt (by omega)
  show IntKind.u64.wrap ((BitVec.ofInt 64 IntKind.u64.max ^^^ BitVec.ofInt 64 (x : Int)).toNat : Int) = _
  rw [h1, BitVec.allOnes_xor, BitVec.toNat_not, h2]
  exact wrapU _ (by omega)
theorem or_u64 (x z : Nat) (hx : x < 2 ^ 64) (hz : z < 64) : bits .or .u64 (x : Int) (IntKind.u64.wrap (2 ^ z)) = ((x ||| 2 ^ z : Nat) : Int) := by
  have hp : (2 : Nat) ^ z < 2 ^ 64 := pow_lt hz
  have e : IntKind.u64.wrap (2 ^ z) = ((2 ^ z : Nat) : Int) := by
    have := wrapU (2 ^ z) hp
    rwa [Int.natCast_pow] at this
  rw [e]
  have h1 : (BitVec.ofInt 64 (x : Int)).toNat = x := by
    rw [BitVec.ofInt_natCast, BitVec.toNat_ofNat]; exact Nat.mod_eq_of_lt hx
  have h2 : (BitVec.ofInt 64 ((2 ^ z : Nat) : Int)).toNat = 2 ^ z := by
    rw [BitVec.ofInt_natCast, BitVec.toNat_ofNat]; exact Nat.mod_eq_of_lt hp
  show IntKind.u64.wrap ((BitVec.ofInt 64 (x : Int) ||| BitVec.ofInt 64 ((2 ^ z : Nat) : Int)).toNat : Int) = _
  rw [BitVec.toNat_or, h1, h2]
  exact wrapU _ (Nat.or_lt_two_pow hx hp)
set_option maxRecDepth 100000 in
theorem slot_Take_full (t most : Nat) (ids F : List Nat) (w : World) (h : (slotR t most ids).holds F w) (hf : ids.length = most) : Calls Tryd.prog 32 #[.pointer (some ⟨t, 0, none⟩)] w (Ret (.tuple #[.int .i64 0, .int .i64 5]) w) := by
  obtain ⟨hok, r, x, hx, hst⟩ := h
  have hA : On F w [Res.blk t (slotObj r most ids), Res.blk r (wordObj x)] w := On.of hst
  have c1 : w.cell? ⟨t, 1, none⟩ = some (.int .i64 most) := hA.cell 0 rfl 1
  have c2 : w.cell? ⟨t, 2, none⟩ = some (.int .i64 ids.length) := hA.cell 0 rfl 2
  rw [hf] at c2
  clear hok hx hst hA hf
  go_enter Tryd.func32, Tryd.ntmps32
  go_wp2
  go_quiet (fail)
  go_wp2
  go_ret2
  exact Ret.of (rfl) (by repeat (first | exact Drew.refl _ | apply Drew.drewN | apply Drew.drew))
set_option maxRecDepth 100000 in
set_option maxHeartbeats 1000000 in
theorem slot_Take (t most : Nat) (ids F : List Nat) (w : World) (h : (slotR t most ids).holds F w) (hT : Tab w) (hf : ids.length ≠ most) : Calls Tryd.prog 32 #[.pointer (some ⟨t, 0, none⟩)] w (Turns (slotR t most (lowN ids :: ids)) F (.tuple #[.int .i64 (lowN ids), .int .i64 0]) w) := by
  obtain ⟨hok, r, x, hx, hst⟩ := h
  have hA : On F w [Res.blk t (slotObj r most ids), Res.blk r (wordObj x)] w := On.of hst
  have hlen := hok.len
  have hm2 := hok.most2
  have c0 : w.cell? ⟨t, 0, none⟩ = some (.slice (some ⟨r, 0, none⟩) 1 1) := hA.cell 0 rfl 0
  have c1 : w.cell? ⟨t, 1, none⟩ = some (.int .i64 most) := hA.cell 0 rfl 1
  have c2 : w.cell? ⟨t, 2, none⟩ = some (.int .i64 ids.length) := hA.cell 0 rfl 2
  have f2 : w.frozen? ⟨t, 2, none⟩ = false := hA.free 0 rfl 2
  have d0 : w.cell? ⟨r, 0, none⟩ = some (.int .u64 (x : Nat)) := hA.cell 1 rfl 0
  have e0 : w.frozen? ⟨r, 0, none⟩ = false := hA.free 1 rfl 0
  have htr := hA.ne 0 1 (by decide) rfl rfl
  have hne : ((ids.length : Int) == most) = false := by simp; omega
  obtain ⟨hlow, hlow2⟩ := lowN_spec ids
  have hltx := hx.lt
  have hz := fun u hu => slot_tz (2 ^ 64 - 1 - x) (by omega) u hu
  have hcz := ctz_not hltx
  generalize hzz : Lib.ctz 64 (2 ^ 64 - 1 - x) = z at *
  have hzl : z < 64 ∧ z + 1 = lowN ids := by
    have hbit := hx.bit
    rcases hcz with ⟨rfl, hj⟩ | ⟨hz64, hzf, hj⟩
    · exfalso
      have h1 := hj (lowN ids - 1) (by omega)
      rw [hbit _ (by omega)] at h1
      have h2 := of_decide_eq_true h1
      rw [show lowN ids - 1 + 1 = lowN ids by have := hlow.1; omega] at h2
      exact hlow.2.1 h2
    · refine ⟨hz64, ?_⟩
      refine IsLow.unique (l := ids) ⟨by omega, ?_, fun m hm hlt => ?_⟩ hlow
      · have := hbit z hz64
        rw [hzf] at this
        exact of_decide_eq_false this.symm
      · have h1 := hj (m - 1) (by omega)
        rw [hbit _ (by omega)] at h1
        have h2 := of_decide_eq_true h1
        rwa [show m - 1 + 1 = m by omega] at h2
  obtain ⟨hz64, hzlow⟩ := hzl
  have hc := not_u64 x hltx
  rw [← hc] at hz
  clear hcz hzz hc
  obtain ⟨len, hL⟩ : ∃ n, n = ids.length := ⟨_, rfl⟩
  have HL := Lib.hid hL
  rw [← hL] at c2 hne hlen hlow2 hf
  clear hL
  go_enter Tryd.func32, Tryd.ntmps32
  go_wp2
  go_quiet (fail)
  go_wp2
  go_loopg [25] 1 (fun gg i wr => i = .int .i64 0 ∧ gg = 1 ∧ wr = w.drewN nq)
  case atStart => exact ⟨rfl, rfl, rfl⟩
  case round =>
    obtain ⟨rfl, hg1, rfl⟩ := hrel
    go_wp2_with (go_at_call 56; refine (hz _ (hT.drewN _)).mono ?_; rintro e w' ⟨rfl, k1, rfl⟩)
    go_region
    go_wp2
    go_ret2
    have hv : bits .or .u64 (x : Int) (IntKind.u64.wrap (2 ^ z)) = ((x ||| 2 ^ z : Nat) : Int) := or_u64 x z hltx hz64
    have hlenv : len = ids.length := HL.out
    subst hlenv
    rw [hv]
    have hB := ((hA.keep (u' := w.drewN (nq + k1 + 1)) ((Mod.refl _ _).drewN _)).set 1 rfl 0 (.int .u64 (x ||| 2 ^ z : Nat))).set 0 rfl 2 (.int .i64 ((ids.length : Int) + 1))
    refine ⟨by rw [← hzlow]; rfl, hB.gains.imp fun F' h' => ⟨⟨hok.most1, hok.most2, ?_, ?_⟩, r, x ||| 2 ^ z, ⟨Nat.or_lt_two_pow hltx (pow_lt hz64), ?_⟩, ?_⟩⟩
    · exact List.nodup_cons.2 ⟨hlow.2.1, hok.nodup⟩
    · intro n hn
      rcases List.mem_cons.1 hn with rfl | hn
      · exact ⟨hlow.1, by omega⟩
      · exact hok.bd n hn
    · intro j hj
      rw [Nat.testBit_or, hx.bit j hj, Nat.testBit_two_pow]
      by_cases e : z = j
      · subst e; simp [hzlow]
      · have e1 : ¬ (j + 1 = lowN ids) := by omega
        simp [e, e1]
    · simpa [slotObj, wordObj] using h'

theorem bit_pow (n most : Nat) (h1 : 1 ≤ n) (h2 : n ≤ 64) : IntKind.u64.wrap (2 ^ (n - 1)) = ((2 ^ (n - 1) : Nat) : Int) := by
  have := wrapU (2 ^ (n - 1)) (pow_lt (by omega))
  rwa [Int.natCast_pow] at this
/-- The bit of a number that can be. -/
theorem slot_bit_yes (t r most : Nat) (n : Nat) (w : World) (c0 : w.cell? ⟨t, 0, none⟩ = some (.slice (some ⟨r, 0, none⟩) 1 1)) (c1 : w.cell? ⟨t, 1, none⟩ = some (.int .i64 most)) (h1 : 1 ≤ n) (h2 : n ≤ most) (h3 : most ≤ 64) :
    Calls Tryd.prog 71 #[.pointer (some ⟨t, 0, none⟩), .int .i64 n] w (Ret (.tuple #[.pointer (some ⟨r, 0, none⟩), .int .u64 (2 ^ (n - 1) : Nat)]) w) := by
  have hw := bit_pow n most h1 (by omega)
  have hd : ((n : Int) - 1).tdiv 64 = 0 := by rw [Int.tdiv_eq_ediv_of_nonneg (by omega)]; omega
  have hm : ((n : Int) - 1).tmod 64 = ((n - 1 : Nat) : Int) := by rw [Int.tmod_eq_emod_of_nonneg (by omega)]; omega
  go_enter Tryd.func71, Tryd.ntmps71
  go_wp2
  go_quiet (fail)
  go_wp2
  go_ret2
  refine ⟨?_, (Drew.refl _).drewN _⟩
  rw [Int.natCast_pow]
  rfl
theorem slot_bit_no (t most : Nat) (n : Int) (w : World) (c1 : w.cell? ⟨t, 1, none⟩ = some (.int .i64 most)) (h : ¬ (1 ≤ n ∧ n ≤ most)) :
    Calls Tryd.prog 71 #[.pointer (some ⟨t, 0, none⟩), .int .i64 n] w (Ret (.tuple #[.pointer none, .int .u64 0]) w) := by
  by_cases h1 : n < 1
  · clear h
    go_enter Tryd.func71, Tryd.ntmps71
    go_wp2
    go_ret2
    exact Ret.of (rfl) (by repeat (first | exact Drew.refl _ | apply Drew.drewN | apply Drew.drew))
  · have h2 : (most : Int) < n := by omega
    clear h
    go_enter Tryd.func71, Tryd.ntmps71
    go_wp2
    go_ret2
    exact Ret.of (rfl) (by repeat (first | exact Drew.refl _ | apply Drew.drewN | apply Drew.drew))
theorem and_pow (x z : Nat) : (x &&& 2 ^ z = 0) ↔ x.testBit z = false := by
  constructor
  · intro h
    have := congrArg (fun n => n.testBit z) h
    simpa [Nat.testBit_and, Nat.testBit_two_pow] using this
  · intro h
    apply Nat.eq_of_testBit_eq
    intro j
    rw [Nat.testBit_and, Nat.testBit_two_pow]
    by_cases e : z = j
    · subst e; simp [h]
    · simp [e]
theorem andNot_u64 (x z : Nat) (hx : x < 2 ^ 64) (hz : z < 64) (hb : x.testBit z = true) : bits .andNot .u64 (x : Int) ((2 ^ z : Nat) : Int) = ((x ^^^ 2 ^ z : Nat) : Int) := by
  have hp : (2 : Nat) ^ z < 2 ^ 64 := pow_lt hz
  have hxx : x ^^^ 2 ^ z < 2 ^ 64 := Nat.xor_lt_two_pow hx hp
  have key : (BitVec.ofInt 64 (x : Int) &&& ~~~ (BitVec.ofInt 64 ((2 ^ z : Nat) : Int))) = BitVec.ofNat 64 (x ^^^ 2 ^ z) := by
    rw [BitVec.ofInt_natCast, BitVec.ofInt_natCast]
    apply BitVec.eq_of_getLsbD_eq
    intro i hi
    simp only [BitVec.getLsbD_and, BitVec.getLsbD_not, BitVec.getLsbD_ofNat, hi, decide_true, Bool.true_and, Nat.testBit_xor, Nat.testBit_two_pow]
    by_cases e : z = i
    · subst e; simp [hb]
    · simp [e]
  show IntKind.u64.wrap ((BitVec.ofInt 64 (x : Int) &&& ~~~ (BitVec.ofInt 64 ((2 ^ z : Nat) : Int))).toNat : Int) = _
  rw [key, BitVec.toNat_ofNat, Nat.mod_eq_of_lt hxx]
  exact wrapU _ hxx
set_option maxRecDepth 100000 in
set_option maxHeartbeats 1000000 in
theorem slot_Give_no (t most : Nat) (ids F : List Nat) (w : World) (h : (slotR t most ids).holds F w) (n : Int) (hn : n.toNat ∉ ids ∨ n < 1) : Calls Tryd.prog 54 #[.pointer (some ⟨t, 0, none⟩), .int .i64 n] w (Ret (.int .i64 4) w) := by
  obtain ⟨hok, r, x, hx, hst⟩ := h
  have hA : On F w [Res.blk t (slotObj r most ids), Res.blk r (wordObj x)] w := On.of hst
  have hm2 := hok.most2
  have c0 : w.cell? ⟨t, 0, none⟩ = some (.slice (some ⟨r, 0, none⟩) 1 1) := hA.cell 0 rfl 0
  have c1 : w.cell? ⟨t, 1, none⟩ = some (.int .i64 most) := hA.cell 0 rfl 1
  have d0 : w.cell? ⟨r, 0, none⟩ = some (.int .u64 (x : Nat)) := hA.cell 1 rfl 0
  by_cases hr : 1 ≤ n ∧ n ≤ most
  · obtain ⟨m, rfl⟩ := Int.eq_ofNat_of_zero_le (show 0 ≤ n by omega)
    have hmem : m ∉ ids := by
      rcases hn with hn | hn
      · simpa using hn
      · omega
    have hc := slot_bit_yes t r most m w c0 c1 (by omega) (by omega) hm2
    have hand : bits .and .u64 (x : Int) ((2 ^ (m - 1) : Nat) : Int) = 0 := by
      rw [bits_and_u64_nat x _ hx.lt (pow_lt (by omega))]
      have : x &&& 2 ^ (m - 1) = 0 := (and_pow _ _).2 (by rw [hx.bit (m - 1) (by omega), show m - 1 + 1 = m by omega]; simpa using hmem)
      rw [this]; rfl
    clear hok hx hst hA hn hmem hr
    generalize ((2 ^ (m - 1) : Nat) : Int) = bb at *
    go_enter Tryd.func54, Tryd.ntmps54
    go_wp2_with (go_at_call 71; refine hc.mono ?_; rintro e w' ⟨rfl, k1, rfl⟩)
    go_ret
    exact Ret.of (rfl) (by repeat (first | exact Drew.refl _ | apply Drew.drewN | apply Drew.drew))
  · have hc := slot_bit_no t most n w c1 hr
    clear hok hx hst hA hn hr
    go_enter Tryd.func54, Tryd.ntmps54
    go_wp2_with (go_at_call 71; refine hc.mono ?_; rintro e w' ⟨rfl, k1, rfl⟩)
    go_ret
    exact Ret.of (rfl) (by repeat (first | exact Drew.refl _ | apply Drew.drewN | apply Drew.drew))
set_option maxRecDepth 100000 in
set_option maxHeartbeats 1000000 in
theorem slot_Give (t most : Nat) (ids F : List Nat) (w : World) (h : (slotR t most ids).holds F w) (m : Nat) (hmem : m ∈ ids) : Calls Tryd.prog 54 #[.pointer (some ⟨t, 0, none⟩), .int .i64 m] w (Turns (slotR t most (ids.erase m)) F (.int .i64 0) w) := by
  obtain ⟨hok, r, x, hx, hst⟩ := h
  have hA : On F w [Res.blk t (slotObj r most ids), Res.blk r (wordObj x)] w := On.of hst
  have hm2 := hok.most2
  obtain ⟨hb1, hb2⟩ := hok.bd m hmem
  have c0 : w.cell? ⟨t, 0, none⟩ = some (.slice (some ⟨r, 0, none⟩) 1 1) := hA.cell 0 rfl 0
  have c1 : w.cell? ⟨t, 1, none⟩ = some (.int .i64 most) := hA.cell 0 rfl 1
  have c2 : w.cell? ⟨t, 2, none⟩ = some (.int .i64 ids.length) := hA.cell 0 rfl 2
  have f2 : w.frozen? ⟨t, 2, none⟩ = false := hA.free 0 rfl 2
  have d0 : w.cell? ⟨r, 0, none⟩ = some (.int .u64 (x : Nat)) := hA.cell 1 rfl 0
  have e0 : w.frozen? ⟨r, 0, none⟩ = false := hA.free 1 rfl 0
  have htr := hA.ne 0 1 (by decide) rfl rfl
  have hc := slot_bit_yes t r most m w c0 c1 hb1 hb2 hm2
  have hbt : x.testBit (m - 1) = true := by rw [hx.bit (m - 1) (by omega), show m - 1 + 1 = m by omega]; simpa using hmem
  have hand : ∃ q : Int, bits .and .u64 (x : Int) ((2 ^ (m - 1) : Nat) : Int) = q ∧ (q == 0) = false := by
    refine ⟨_, bits_and_u64_nat x _ hx.lt (pow_lt (by omega)), ?_⟩
    have : ¬ (x &&& 2 ^ (m - 1) = 0) := fun h => by rw [(and_pow _ _).1 h] at hbt; cases hbt
    simp; omega
  obtain ⟨q, hq, hq0⟩ := hand
  have hno := andNot_u64 x (m - 1) hx.lt (by omega) hbt
  have hpos : 0 < ids.length := List.length_pos_of_mem hmem
  have hle : (ids.erase m).length = ids.length - 1 := List.length_erase_of_mem hmem
  generalize hbb : ((2 ^ (m - 1) : Nat) : Int) = bb at *
  obtain ⟨y, hy⟩ : ∃ y, y = x ^^^ 2 ^ (m - 1) := ⟨_, rfl⟩
  rw [← hy] at hno
  have HY := Lib.hid hy
  have HL := Lib.hid hle
  have hlen := hok.len
  clear hy hbt hle hbb
  go_enter Tryd.func54, Tryd.ntmps54
  go_wp2_with (go_at_call 71; refine hc.mono ?_; rintro e w' ⟨rfl, k1, rfl⟩)
  go_ret
  have hB := ((hA.keep (u' := w.drewN k1) ((Mod.refl _ _).drewN _)).set 1 rfl 0 (.int .u64 (y : Nat))).set 0 rfl 2 (.int .i64 ((ids.length : Int) - 1))
  refine ⟨rfl, hB.gains.imp fun F' h' => ⟨⟨hok.most1, hok.most2, hok.nodup.erase m, fun n hn => hok.bd n (List.mem_of_mem_erase hn)⟩, r, y, ⟨?_, ?_⟩, ?_⟩⟩
  · rw [HY.out]; exact Nat.xor_lt_two_pow hx.lt (pow_lt (by omega))
  · intro j hj
    rw [HY.out, Nat.testBit_xor, hx.bit j hj, Nat.testBit_two_pow]
    have hme := hok.nodup.mem_erase_iff (a := j + 1) (b := m)
    by_cases e : m - 1 = j
    · have e2 : j + 1 = m := by omega
      rw [e2] at hme ⊢
      simp [hme, hmem, e]
    · have e1 : ¬ (j + 1 = m) := by omega
      simp [hme, e, e1]
  · have e1 : ((ids.length : Int) - 1) = (((ids.erase m).length : Nat) : Int) := by rw [HL.out]; omega
    simp only [slotObj]
    rw [← e1]
    simpa [wordObj] using h'
end Go.Proofs.YthieionajemjhaaDoor
