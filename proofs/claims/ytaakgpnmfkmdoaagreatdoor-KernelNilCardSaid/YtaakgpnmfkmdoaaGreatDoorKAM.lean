/- Several texts in one (each with its own sentence below). -/
import Derived.Test.YtaakgpnmfkmdoaaGreatDoorBaseM
import Derived.Shelf.Lays7
import Derived.Test.YtaakgpnmfkmdoaaGreatDoorProg
import Derived.Shelf.SlLaysZI
import Derived.Shelf.SlLaysH
import Derived.Laws.Externs
import Derived.Laws.CopyOwn
import Derived.Deep.OwnRows
import Derived.Laws.CopyRow
/- A ring of numbers as a list: pushing, popping, taking one out. No program in sight. -/
namespace Go.Proofs.YtaakgpnmfkmdoaaGreatDoor
set_option linter.unusedVariables false
set_option linter.unusedSimpArgs false
open Go.RowKit

theorem ring_at {m f i : Nat} (hf : f < m) (hi : i ≤ m) : (f + i) % m = if f + i < m then f + i else f + i - m := by
  split
  · rename_i h; exact Nat.mod_eq_of_lt h
  · rename_i h
    rw [Nat.mod_eq_sub_mod (by omega)]
    by_cases e : f + i - m < m
    · exact Nat.mod_eq_of_lt e
    · omega
/-- The ring R of m places, from place f on, holds l. -/
structure Ring (R : List Int) (m f : Nat) (l : List Int) : Prop where
  len : R.length = m
  first : f < m
  fits : l.length ≤ m
  cell : ∀ i, i < l.length → nth R ((f + i) % m) = nth l i
theorem nth_append_left {l k : List Int} {i : Nat} (h : i < l.length) : nth (l ++ k) i = nth l i := by
  simp [nth, List.getD, List.getElem?_append_left h]
theorem nth_append_right {l : List Int} {x : Int} : nth (l ++ [x]) l.length = x := by
  simp [nth, List.getD]
theorem Ring.push {R : List Int} {m f : Nat} {l : List Int} (h : Ring R m f l) (hl : l.length < m) (x : Int) : Ring (R.set ((f + l.length) % m) x) m f (l ++ [x]) := by
  have hf := h.first
  refine ⟨by rw [List.length_set]; exact h.len, hf, by simp; omega, fun i hi => ?_⟩
  simp only [List.length_append, List.length_cons, List.length_nil] at hi
  have hlt : (f + l.length) % m < R.length := by rw [h.len]; exact Nat.mod_lt _ (by omega)
  rw [nth_set hlt]
  by_cases e : i = l.length
  · subst e; rw [if_pos rfl, nth_append_right]
  · have e2 : ¬ ((f + l.length) % m = (f + i) % m) := by
      rw [ring_at hf (by omega), ring_at hf (by omega)]
      split <;> split <;> omega
    rw [if_neg e2, nth_append_left (by omega)]
    exact h.cell i (by omega)
theorem Ring.front {R : List Int} {m f : Nat} {l : List Int} (h : Ring R m f l) (hl : l ≠ []) : nth R f = nth l 0 := by
  have := h.cell 0 (List.length_pos_iff.2 hl)
  rwa [Nat.add_zero, Nat.mod_eq_of_lt h.first] at this
theorem Ring.pop {R : List Int} {m f : Nat} {x : Int} {l : List Int} (h : Ring R m f (x :: l)) : Ring R m ((f + 1) % m) l := by
  have hf := h.first
  have hfit := h.fits
  simp only [List.length_cons] at hfit
  refine ⟨h.len, Nat.mod_lt _ (by omega), by omega, fun i hi => ?_⟩
  have := h.cell (i + 1) (by simp; omega)
  have e : ((f + 1) % m + i) % m = (f + (i + 1)) % m := by
    rw [Nat.mod_add_mod, Nat.add_assoc, Nat.add_comm 1 i]
  rw [e, this]
  simp [nth]
theorem nth_eraseIdx {l : List Int} {k j : Nat} : nth (l.eraseIdx k) j = if j < k then nth l j else nth l (j + 1) := by
  simp only [nth, List.getD, List.getElem?_eraseIdx]
  split <;> rfl
/-- The places from k on are filled with what stood behind them, up to place i. -/
structure Shift (R : List Int) (m f : Nat) (l : List Int) (k i : Nat) : Prop where
  len : R.length = m
  cell : ∀ j, j < i → nth R ((f + j) % m) = nth (l.eraseIdx k) j
theorem Shift.start {R : List Int} {m f : Nat} {l : List Int} (h : Ring R m f l) {k : Nat} (hk : k < l.length) : Shift R m f l k k :=
  ⟨h.len, fun j hj => by rw [nth_eraseIdx, if_pos hj]; exact h.cell j (by omega)⟩
theorem Shift.step {R : List Int} {m f : Nat} {l : List Int} {k i : Nat} (h : Shift R m f l k i) (hf : f < m) (hm : l.length ≤ m) (hk : k ≤ i) (hi : i + 1 < l.length) : Shift (R.set ((f + i) % m) (nth l (i + 1))) m f l k (i + 1) := by
  have hlt : (f + i) % m < R.length := by rw [h.len]; exact Nat.mod_lt _ (by omega)
  refine ⟨by rw [List.length_set]; exact h.len, fun j hj => ?_⟩
  rw [nth_set hlt]
  by_cases e : j = i
  · subst e; rw [if_pos rfl, nth_eraseIdx, if_neg (by omega)]
  · have e2 : ¬ ((f + i) % m = (f + j) % m) := by
      rw [ring_at hf (by omega), ring_at hf (by omega)]
      split <;> split <;> omega
    rw [if_neg e2]
    exact h.cell j (by omega)
theorem Shift.done {R : List Int} {m f : Nat} {l : List Int} {k i : Nat} (h : Shift R m f l k i) (hf : f < m) (hm : l.length ≤ m) (hk : k < l.length) (hi : l.length ≤ i + 1) : Ring R m f (l.eraseIdx k) := by
  have hl : (l.eraseIdx k).length = l.length - 1 := List.length_eraseIdx_of_lt hk
  exact ⟨h.len, hf, by omega, fun j hj => h.cell j (by omega)⟩
/-- The list in two pieces of the ring. -/
theorem Ring.two {R : List Int} {m f : Nat} {l : List Int} (h : Ring R m f l) : l = (R.drop f).take l.length ++ R.take (l.length - (m - f)) := by
  have hf := h.first
  have hR := h.len
  have hfit := h.fits
  apply List.ext_getElem?
  intro i
  by_cases hi : i < l.length
  · have hc := h.cell i hi
    rw [ring_at hf (by omega)] at hc
    have hl : l[i]? = some (nth l i) := by simp [nth, List.getD, hi]
    rw [hl, ← hc]
    by_cases h1 : f + i < m
    · rw [if_pos h1, List.getElem?_append_left (by simp; omega), List.getElem?_take, if_pos hi, List.getElem?_drop]
      simp [nth, List.getD, show f + i < R.length by omega]
    · have hl2 : ((R.drop f).take l.length).length = m - f := by simp; omega
      rw [if_neg h1, List.getElem?_append_right (by omega), hl2, List.getElem?_take, if_pos (by omega)]
      have e : i - (m - f) = f + i - m := by omega
      rw [e]
      simp [nth, List.getD, show f + i - m < R.length by omega]
  · have h1 : l[i]? = none := List.getElem?_eq_none (by omega)
    rw [h1]
    symm
    apply List.getElem?_eq_none
    simp
    omega
end Go.Proofs.YtaakgpnmfkmdoaaGreatDoor

/- The library's count of trailing zeros at this program: tables of numbers and one comparison a function (printed by the kit's lay-plain tool). No condition. -/
namespace Go.Proofs
open Go.Shelf
def YtaakgpnmfkmdoaaGreatDoor.tzL_ren : Go.Shelf.Ren := ⟨fun | 29 => 217 | n => n, fun | 22 => 28 | 3 => 3 | 4 => 4 | 25 => 150 | 54 => 333 | 0 => 0 | 5 => 5 | n => n, fun | 1 => 0 | n => n⟩
theorem YtaakgpnmfkmdoaaGreatDoor.tzL : Go.Proofs.Lays7.n29 Tryz.prog YtaakgpnmfkmdoaaGreatDoor.tzL_ren := {
  mixed := by kernel_rfl
  f29 := Tryz.func217.trans (congrArg some (by kernel_rfl))
  t0 := Tryz.underlying0
  a0 := Tryz.isAgg0
  z0 := Tryz.sizeOf0
  v0 := Tryz.zeroValue0
  i0 := by kernel_rfl
  t3 := Tryz.underlying3
  a3 := Tryz.isAgg3
  z3 := Tryz.sizeOf3
  v3 := Tryz.zeroValue3
  i3 := by kernel_rfl
  t4 := Tryz.underlying4
  a4 := Tryz.isAgg4
  z4 := Tryz.sizeOf4
  v4 := Tryz.zeroValue4
  i4 := by kernel_rfl
  t5 := Tryz.underlying5
  a5 := Tryz.isAgg5
  z5 := Tryz.sizeOf5
  v5 := Tryz.zeroValue5
  i5 := by kernel_rfl
  t22 := Tryz.underlying28
  a22 := Tryz.isAgg28
  z22 := Tryz.sizeOf28
  v22 := Tryz.zeroValue28
  i22 := by kernel_rfl
  t25 := Tryz.underlying150
  a25 := Tryz.isAgg150
  z25 := Tryz.sizeOf150
  v25 := Tryz.zeroValue150
  i25 := by kernel_rfl
  t54 := Tryz.underlying333
  a54 := Tryz.isAgg333
  z54 := Tryz.sizeOf333
  g1 := by kernel_rfl }
end Go.Proofs

/- A call that turns nothing. -/
namespace Go.Proofs.YtaakgpnmfkmdoaaGreatDoor
def Nothing (v : Value) (w : World) (e : Ending) (w' : World) : Prop := e = .returned v ∧ Mod [] w w'
end Go.Proofs.YtaakgpnmfkmdoaaGreatDoor

/- The library's maps.Keys and slices.Collect at this program: tables of numbers and one comparison a function (printed by the kit's lay-plain tool). No condition. -/
namespace Go.Proofs
open Go.Shelf
def YtaakgpnmfkmdoaaGreatDoor.keysL_ren : Go.Shelf.Ren := ⟨fun | 7 => 361 | 10 => 368 | n => n, fun | 23 => 254 | 26 => 3 | 3 => 2 | 28 => 385 | 0 => 0 | 27 => 384 | 33 => 38 | 4 => 4 | n => n, fun | n => n⟩
theorem YtaakgpnmfkmdoaaGreatDoor.keysL : Go.Proofs.SlLaysZI.n7 Tryz.prog YtaakgpnmfkmdoaaGreatDoor.keysL_ren := {
  mixed := by kernel_rfl
  f7 := ⟨Tryz.f361.name, by decide, Tryz.func361.trans (congrArg some (by kernel_rfl))⟩
  f10 := ⟨Tryz.f368.name, by decide, Tryz.func368.trans (congrArg some (by kernel_rfl))⟩
  t0 := Tryz.underlying0
  a0 := Tryz.isAgg0
  z0 := Tryz.sizeOf0
  v0 := Tryz.zeroValue0
  t4 := Tryz.underlying4
  a4 := Tryz.isAgg4
  z4 := Tryz.sizeOf4
  v4 := Tryz.zeroValue4
  t23 := Tryz.underlying254
  a23 := Tryz.isAgg254
  z23 := Tryz.sizeOf254
  v23 := Tryz.zeroValue254
  t26 := Tryz.underlying3
  a26 := Tryz.isAgg3
  z26 := Tryz.sizeOf3
  v26 := Tryz.zeroValue3
  t27 := Tryz.underlying384
  a27 := Tryz.isAgg384
  z27 := Tryz.sizeOf384
  v27 := Tryz.zeroValue384
  t28 := Tryz.underlying385
  a28 := Tryz.isAgg385
  z28 := Tryz.sizeOf385
  v28 := Tryz.zeroValue385
  t33 := Tryz.underlying38
  a33 := Tryz.isAgg38
  z33 := Tryz.sizeOf38
  v33 := Tryz.zeroValue38 }
def YtaakgpnmfkmdoaaGreatDoor.collectL_ren : Go.Shelf.Ren := ⟨fun | 8 => 360 | 11 => 367 | n => n, fun | 26 => 3 | 28 => 385 | 24 => 143 | 0 => 0 | 33 => 38 | 4 => 4 | n => n, fun | n => n⟩
theorem YtaakgpnmfkmdoaaGreatDoor.collectL : Go.Proofs.SlLaysZI.n8 Tryz.prog YtaakgpnmfkmdoaaGreatDoor.collectL_ren := {
  mixed := by kernel_rfl
  f8 := ⟨Tryz.f360.name, by decide, Tryz.func360.trans (congrArg some (by kernel_rfl))⟩
  f11 := ⟨Tryz.f367.name, by decide, Tryz.func367.trans (congrArg some (by kernel_rfl))⟩
  t0 := Tryz.underlying0
  a0 := Tryz.isAgg0
  z0 := Tryz.sizeOf0
  v0 := Tryz.zeroValue0
  t24 := Tryz.underlying143
  a24 := Tryz.isAgg143
  z24 := Tryz.sizeOf143
  v24 := Tryz.zeroValue143
  t26 := Tryz.underlying3
  a26 := Tryz.isAgg3
  z26 := Tryz.sizeOf3
  v26 := Tryz.zeroValue3
  t28 := Tryz.underlying385
  a28 := Tryz.isAgg385
  z28 := Tryz.sizeOf385
  v28 := Tryz.zeroValue385
  i26 := by kernel_rfl }
end Go.Proofs

/- The library's slices.DeleteFunc at this program: tables of numbers and one comparison a function (printed by the kit's lay-plain tool). No condition. -/
namespace Go.Proofs
open Go.Shelf
def YtaakgpnmfkmdoaaGreatDoor.dropL_ren : Go.Shelf.Ren := ⟨fun | 10 => 314 | 6 => 240 | n => n, fun | 22 => 143 | 23 => 3 | 25 => 38 | 3 => 3 | 4 => 4 | 0 => 0 | n => n, fun | n => n⟩
theorem YtaakgpnmfkmdoaaGreatDoor.dropL : Go.Proofs.SlLaysH.n10 Tryz.prog YtaakgpnmfkmdoaaGreatDoor.dropL_ren := {
  mixed := by kernel_rfl
  f6 := ⟨Tryz.f240.name, by decide, Tryz.func240.trans (congrArg some (by kernel_rfl))⟩
  f10 := ⟨Tryz.f314.name, by decide, Tryz.func314.trans (congrArg some (by kernel_rfl))⟩
  t0 := Tryz.underlying0
  a0 := Tryz.isAgg0
  z0 := Tryz.sizeOf0
  v0 := Tryz.zeroValue0
  t3 := Tryz.underlying3
  a3 := Tryz.isAgg3
  z3 := Tryz.sizeOf3
  v3 := Tryz.zeroValue3
  t4 := Tryz.underlying4
  a4 := Tryz.isAgg4
  z4 := Tryz.sizeOf4
  v4 := Tryz.zeroValue4
  t22 := Tryz.underlying143
  a22 := Tryz.isAgg143
  z22 := Tryz.sizeOf143
  v22 := Tryz.zeroValue143
  a23 := Tryz.isAgg3
  z23 := Tryz.sizeOf3
  t25 := Tryz.underlying38
  a25 := Tryz.isAgg38
  z25 := Tryz.sizeOf38
  v25 := Tryz.zeroValue38 }
end Go.Proofs

/- The walks over package split: a number for each core: what each method returns and writes. No condition but that the numbers are 64-bit ones. -/
namespace Go.Proofs.YtaakgpnmfkmdoaaGreatDoor
set_option linter.unusedVariables false
set_option linter.unusedSimpArgs false
open Go.RowKit

/-- A struct of type T at block b, whose one field is a slice over the row r of 64-bit numbers l. -/
structure SplitAt (T : Nat) (w : World) (b r : Nat) (l : List Int) : Prop where
  hb : w.heap[b]? = some (.cells #[.slice (some ⟨r, 0, none⟩) l.length l.length] T (0,0))
  hr : w.heap[r]? = some (.cells (rowI .i64 l) 2 (0,0))
  ne : r ≠ b
  pos : 1 ≤ l.length
  le : l.length ≤ 64
  inb : ∀ i, i < l.length → In64 (nth l i)

theorem SplitAt.keep {T : Nat} {S : List Nat} {w w' : World} {b r : Nat} {l : List Int} (h : SplitAt T w b r l) (m : Mod S w w') (hb : b ∉ S) (hr : r ∉ S) : SplitAt T w' b r l :=
  ⟨m.keep h.hb hb, m.keep h.hr hr, h.ne, h.pos, h.le, h.inb⟩

theorem SplitAt.alloc {T : Nat} {w : World} {b r : Nat} {l : List Int} (h : SplitAt T w b r l) (o : Obj) : SplitAt T (w.alloc o) b r l := h.keep ((Mod.refl [] w).alloc o) (by simp) (by simp)

def mayE (l : List Int) (c : Int) : Int := if 0 ≤ c ∧ c < l.length then 0 else 3
def sAddE (l : List Int) (c n : Int) : Int := if 0 ≤ c ∧ c < l.length then addE (nth l c.toNat) n else 3
def sAdd (l : List Int) (c n : Int) : List Int := if (0 ≤ c ∧ c < l.length) ∧ In64 (nth l c.toNat + n) then l.set c.toNat (nth l c.toNat + n) else l
def sGet (l : List Int) (c : Int) : Int := if 0 ≤ c ∧ c < l.length then nth l c.toNat else 0
def sFoldE (l : List Int) (f t : Int) : Int := if (0 ≤ f ∧ f < l.length) ∧ (0 ≤ t ∧ t < l.length) then (if f = t then 2 else addE (nth l t.toNat) (nth l f.toNat)) else 3
def sFold (l : List Int) (f t : Int) : List Int :=
  if ((0 ≤ f ∧ f < l.length) ∧ (0 ≤ t ∧ t < l.length)) ∧ f ≠ t ∧ In64 (nth l t.toNat + nth l f.toNat) then (l.set t.toNat (nth l t.toNat + nth l f.toNat)).set f.toNat 0 else l
def sSumV (l : List Int) : Int := if In64 l.sum then l.sum else 0
def sSumE (l : List Int) : Int := if In64 l.sum then 0 else 16

theorem sAdd_length (l : List Int) (c n : Int) : (sAdd l c n).length = l.length := by unfold sAdd; split <;> simp
theorem sFold_length (l : List Int) (c n : Int) : (sFold l c n).length = l.length := by unfold sFold; split <;> simp
theorem sAdd_in {l : List Int} (h : ∀ i, i < l.length → In64 (nth l i)) (c n : Int) : ∀ i, i < (sAdd l c n).length → In64 (nth (sAdd l c n) i) := by
  intro i hi
  rw [sAdd_length] at hi
  unfold sAdd
  split
  · rename_i hh
    rw [nth_set (by omega)]
    split
    · exact hh.2
    · exact h i hi
  · exact h i hi
theorem sFold_in {l : List Int} (h : ∀ i, i < l.length → In64 (nth l i)) (c n : Int) : ∀ i, i < (sFold l c n).length → In64 (nth (sFold l c n) i) := by
  intro i hi
  rw [sFold_length] at hi
  unfold sFold
  split
  · rename_i hh
    rw [nth_set (by simp; omega)]
    split
    · decide
    · rw [nth_set (by omega)]
      split
      · exact hh.2.2
      · exact h i hi
  · exact h i hi

theorem SplitAt.set {T : Nat} {w : World} {b r : Nat} {l : List Int} (h : SplitAt T w b r l) (i : Nat) (v : Int) (hv : In64 v) : SplitAt T (w.setCell ⟨r, i, none⟩ (.int .i64 v)) b r (l.set i v) := by
  refine ⟨?_, ?_, h.ne, by simpa using h.pos, by simpa using h.le, ?_⟩
  · rw [heapSetNe (Ne.symm h.ne), h.hb]; simp
  · rw [heapSet h.hr, rowI_set]
  · intro j hj
    rw [List.length_set] at hj
    by_cases e : i < l.length
    · rw [nth_set e]
      split
      · exact hv
      · exact h.inb j hj
    · rw [List.set_eq_of_length_le (by omega)]; exact h.inb j hj


theorem split_may (b r : Nat) (l : List Int) (c : Int) (w : World) (h : SplitAt 147 w b r l) :
    Calls Tryz.prog 283 #[.pointer (some ⟨b, 0, none⟩), .int .i64 c] w (Ret (.int .i64 (mayE l c)) w) := by
  have hlp := h.pos
  have hll := h.le
  have c0 : w.cell? ⟨b, 0, none⟩ = some (.slice (some ⟨r, 0, none⟩) l.length l.length) := cellAt h.hb 0
  clear h
  by_cases hc : 0 ≤ c ∧ c < l.length
  · have hE : mayE l c = 0 := by simp [mayE, hc]
    rw [hE]
    clear hE
    obtain ⟨hc0, hc1⟩ := hc
    go_enter Tryz.func283, Tryz.ntmps283
    go_wp2
    go_ret
    exact Ret.of (rfl) (by repeat (first | exact Drew.refl _ | apply Drew.drewN | apply Drew.drew))
  · have hE : mayE l c = 3 := by simp [mayE, hc]
    rw [hE]
    clear hE
    have hc' : c < 0 ∨ (0 ≤ c ∧ (l.length : Int) ≤ c) := by omega
    clear hc
    rcases hc' with h1 | ⟨h1, h2⟩
    all_goals
      go_enter Tryz.func283, Tryz.ntmps283
      go_wp2
      go_ret
      exact Ret.of (rfl) (by repeat (first | exact Drew.refl _ | apply Drew.drewN | apply Drew.drew))

theorem split_Add (b r : Nat) (l : List Int) (c n : Int) (hn : In64 n) (w : World) (h : SplitAt 147 w b r l) :
    Calls Tryz.prog 226 #[.pointer (some ⟨b, 0, none⟩), .int .i64 c, .int .i64 n] w (Rets (.int .i64 (sAddE l c n)) [r] w fun w' => SplitAt 147 w' b r (sAdd l c n)) := by
  have hM := split_may b r l c w h
  have hlp := h.pos
  have hll := h.le
  have c0 : w.cell? ⟨b, 0, none⟩ = some (.slice (some ⟨r, 0, none⟩) l.length l.length) := cellAt h.hb 0
  by_cases hc : 0 ≤ c ∧ c < l.length
  · have hc' := hc
    obtain ⟨hc0, hc1⟩ := hc
    obtain ⟨c, rfl⟩ := Int.eq_ofNat_of_zero_le hc0
    have hM' : mayE l c = 0 := by simp [mayE, hc']
    rw [hM'] at hM
    have hc2 : c < l.length := by omega
    have cc : w.cell? ⟨r, c, none⟩ = some (.int .i64 (nth l c)) := (cellAt h.hr c).trans (rowI_get (by omega))
    have ff : w.frozen? ⟨r, c, none⟩ = false := freeAt h.hr c
    have hA := fun w => numAdd (nth l c) n w (h.inb c hc2) hn
    by_cases hI : In64 (nth l c + n)
    · have hE : sAddE l c n = 0 := by simp [sAddE, addE, hc', hI]
      have hS : sAdd l c n = l.set c (nth l c + n) := by simp only [sAdd, Int.toNat_natCast]; rw [if_pos ⟨hc', hI⟩]
      have e1 : addV (nth l c) n = nth l c + n := by simp [addV, hI]
      have e2 : addE (nth l c) n = 0 := by simp [addE, hI]
      rw [hE, hS]
      rw [e1, e2] at hA
      have hset := fun k => SplitAt.set (w := w.drewN k) ⟨h.hb, h.hr, h.ne, h.pos, h.le, h.inb⟩ c _ hI
      clear e1 e2 hE hS hM' hI
      go_enter Tryz.func226, Tryz.ntmps226
      go_wp2_with (go_at_call 283; refine hM.mono ?_; rintro e w' ⟨rfl, k, rfl⟩)
      go_wp2_with (go_at_call 284; refine (hA _).mono ?_; rintro e w' ⟨rfl, k2, rfl⟩)
      go_ret
      exact Rets.of rfl (((Mod.refl _ _).drewN _).setCell (by simp) _) (hset _)
    · have hE : sAddE l c n = 16 := by simp [sAddE, addE, hc', hI]
      have hS : sAdd l c n = l := by simp only [sAdd, Int.toNat_natCast]; rw [if_neg (fun x => hI x.2)]
      have e1 : addV (nth l c) n = 0 := by simp [addV, hI]
      have e2 : addE (nth l c) n = 16 := by simp [addE, hI]
      rw [hE, hS]
      rw [e1, e2] at hA
      clear e1 e2 hE hS hM' hI
      go_enter Tryz.func226, Tryz.ntmps226
      go_wp2_with (go_at_call 283; refine hM.mono ?_; rintro e w' ⟨rfl, k, rfl⟩)
      go_wp2_with (go_at_call 284; refine (hA _).mono ?_; rintro e w' ⟨rfl, k2, rfl⟩)
      go_ret
      exact Rets.of rfl ((Mod.refl _ _).drewN _) ⟨h.hb, h.hr, h.ne, h.pos, h.le, h.inb⟩
  · have hM' : mayE l c = 3 := by simp [mayE, hc]
    have hE : sAddE l c n = 3 := by simp [sAddE, hc]
    have hS : sAdd l c n = l := by unfold sAdd; rw [if_neg (fun x => hc x.1)]
    rw [hM'] at hM
    rw [hE, hS]
    clear hE hS hM' hc
    go_enter Tryz.func226, Tryz.ntmps226
    go_wp2_with (go_at_call 283; refine hM.mono ?_; rintro e w' ⟨rfl, k, rfl⟩)
    go_ret
    exact Rets.of rfl ((Mod.refl _ _).drewN _) ⟨h.hb, h.hr, h.ne, h.pos, h.le, h.inb⟩

theorem SplitAt.same {T : Nat} {w w' : World} {b r : Nat} {l : List Int} (h : SplitAt T w b r l) (e : w'.heap = w.heap) : SplitAt T w' b r l :=
  ⟨by rw [e]; exact h.hb, by rw [e]; exact h.hr, h.ne, h.pos, h.le, h.inb⟩
theorem SplitAt.drew {T : Nat} {w w' : World} {b r : Nat} {l : List Int} (h : SplitAt T w b r l) (d : Drew w w') : SplitAt T w' b r l :=
  ⟨by rw [d.heap]; exact h.hb, by rw [d.heap]; exact h.hr, h.ne, h.pos, h.le, h.inb⟩

theorem split_Get (b r : Nat) (l : List Int) (c : Int) (w : World) (h : SplitAt 147 w b r l) :
    Calls Tryz.prog 282 #[.pointer (some ⟨b, 0, none⟩), .int .i64 c] w (Ret (.tuple #[.int .i64 (sGet l c), .int .i64 (mayE l c)]) w) := by
  have hM := split_may b r l c w h
  have hlp := h.pos
  have hll := h.le
  have c0 : w.cell? ⟨b, 0, none⟩ = some (.slice (some ⟨r, 0, none⟩) l.length l.length) := cellAt h.hb 0
  by_cases hc : 0 ≤ c ∧ c < l.length
  · have hc' := hc
    obtain ⟨hc0, hc1⟩ := hc
    obtain ⟨c, rfl⟩ := Int.eq_ofNat_of_zero_le hc0
    have hM' : mayE l c = 0 := by simp [mayE, hc']
    have hG : sGet l c = nth l c := by simp [sGet, hc']
    rw [hM'] at hM ⊢
    rw [hG]
    have hc2 : c < l.length := by omega
    have cc : w.cell? ⟨r, c, none⟩ = some (.int .i64 (nth l c)) := (cellAt h.hr c).trans (rowI_get (by omega))
    have ff : w.frozen? ⟨r, c, none⟩ = false := freeAt h.hr c
    clear hM' hG
    go_enter Tryz.func282, Tryz.ntmps282
    go_wp2_with (go_at_call 283; refine hM.mono ?_; rintro e w' ⟨rfl, k, rfl⟩)
    go_ret2
    exact Ret.of (rfl) (by repeat (first | exact Drew.refl _ | apply Drew.drewN | apply Drew.drew))
  · have hM' : mayE l c = 3 := by simp [mayE, hc]
    have hG : sGet l c = 0 := by simp [sGet, hc]
    rw [hM'] at hM ⊢
    rw [hG]
    clear hM' hG hc
    go_enter Tryz.func282, Tryz.ntmps282
    go_wp2_with (go_at_call 283; refine hM.mono ?_; rintro e w' ⟨rfl, k, rfl⟩)
    go_ret2
    exact Ret.of (rfl) (by repeat (first | exact Drew.refl _ | apply Drew.drewN | apply Drew.drew))

theorem split_Fold (b r : Nat) (l : List Int) (f t : Int) (w : World) (h : SplitAt 147 w b r l) :
    Calls Tryz.prog 302 #[.pointer (some ⟨b, 0, none⟩), .int .i64 f, .int .i64 t] w (Rets (.int .i64 (sFoldE l f t)) [r] w fun w' => SplitAt 147 w' b r (sFold l f t)) := by
  have hlp := h.pos
  have hll := h.le
  have c0 : w.cell? ⟨b, 0, none⟩ = some (.slice (some ⟨r, 0, none⟩) l.length l.length) := cellAt h.hb 0
  by_cases hf : 0 ≤ f ∧ f < l.length
  · by_cases ht : 0 ≤ t ∧ t < l.length
    · have hM : mayE l f = 0 := by simp [mayE, hf]
      have hM2 : mayE l t = 0 := by simp [mayE, ht]
      have hf' := hf
      have ht' := ht
      obtain ⟨hf0, hf1⟩ := hf
      obtain ⟨ht0, ht1⟩ := ht
      obtain ⟨f, rfl⟩ := Int.eq_ofNat_of_zero_le hf0
      obtain ⟨t, rfl⟩ := Int.eq_ofNat_of_zero_le ht0
      by_cases e : f = t
      · subst e
        rw [show sFoldE l f f = 2 by simp [sFoldE, hf'], show sFold l f f = l by unfold sFold; rw [if_neg (fun x => x.2.1 rfl)]]
        go_enter Tryz.func302, Tryz.ntmps302
        go_wp2_with (go_at_call 283; refine (split_may b r l _ _ (by exact h.same rfl)).mono ?_; rintro e w' ⟨rfl, k, rfl⟩)
        go_ret
        exact Rets.of rfl ((Mod.refl _ _).drewN _) ⟨h.hb, h.hr, h.ne, h.pos, h.le, h.inb⟩
      · have e' : ((f : Int) == (t : Int)) = false := by simp; omega
        have hf2 : f < l.length := by omega
        have cc : w.cell? ⟨r, f, none⟩ = some (.int .i64 (nth l f)) := (cellAt h.hr f).trans (rowI_get (by omega))
        have ff : w.frozen? ⟨r, f, none⟩ = false := freeAt h.hr f
        have hA := fun k => split_Add b r l t (nth l f) (h.inb f hf2) (w.drewN k) ⟨h.hb, h.hr, h.ne, h.pos, h.le, h.inb⟩
        by_cases hI : In64 (nth l t + nth l f)
        · rw [show sFoldE l f t = 0 by simp [sFoldE, addE, hf', ht', hI]; omega, show sFold l f t = (l.set t (nth l t + nth l f)).set f 0 by unfold sFold; rw [if_pos ⟨⟨hf', ht'⟩, by omega, hI⟩]; rfl]
          rw [show sAddE l t (nth l f) = 0 by simp [sAddE, addE, ht', hI], show sAdd l t (nth l f) = l.set t (nth l t + nth l f) by unfold sAdd; rw [if_pos ⟨ht', hI⟩]; rfl] at hA
          clear hI
          go_enter Tryz.func302, Tryz.ntmps302
          go_wp2_with (go_at_call 283; refine (split_may b r l _ _ (by exact h.same rfl)).mono ?_; rintro e w' ⟨rfl, k, rfl⟩)
          go_wp2_with (go_at_call 226; refine (hA _).mono ?_; rintro e w1 ⟨rfl, m1, x1⟩; have c1 : w1.cell? ⟨b, 0, none⟩ = some (.slice (some ⟨r, 0, none⟩) l.length l.length) := (by have := cellAt x1.hb 0; simpa using this); have cc1 : w1.cell? ⟨r, f, none⟩ = some (.int .i64 (nth (l.set t (nth l t + nth l f)) f)) := (cellAt x1.hr f).trans (rowI_get (by simpa using hf2)); have ff1 : w1.frozen? ⟨r, f, none⟩ = false := freeAt x1.hr f)
          go_ret
          exact Rets.of rfl ((((Mod.refl _ _).drewN _).trans m1 (by simp)).setCell (by simp) _) (x1.set f 0 (by decide))
        · rw [show sFoldE l f t = 16 by simp [sFoldE, addE, hf', ht', hI]; omega, show sFold l f t = l by unfold sFold; rw [if_neg (fun x => hI x.2.2)]]
          rw [show sAddE l t (nth l f) = 16 by simp [sAddE, addE, ht', hI], show sAdd l t (nth l f) = l by unfold sAdd; rw [if_neg (fun x => hI x.2)]] at hA
          clear hI
          go_enter Tryz.func302, Tryz.ntmps302
          go_wp2_with (go_at_call 283; refine (split_may b r l _ _ (by exact h.same rfl)).mono ?_; rintro e w' ⟨rfl, k, rfl⟩)
          go_wp2_with (go_at_call 226; refine (hA _).mono ?_; rintro e w1 ⟨rfl, m1, x1⟩)
          go_ret
          exact Rets.of rfl (((Mod.refl _ _).drewN _).trans m1 (by simp)) x1
    · have hM : mayE l f = 0 := by simp [mayE, hf]
      have hM2 : mayE l t = 3 := by simp [mayE, ht]
      rw [show sFoldE l f t = 3 by unfold sFoldE; rw [if_neg (fun x => ht x.2)], show sFold l f t = l by unfold sFold; rw [if_neg (fun x => ht x.1.2)]]
      clear hf ht
      go_enter Tryz.func302, Tryz.ntmps302
      go_wp2_with (go_at_call 283; refine (split_may b r l _ _ (by exact h.same rfl)).mono ?_; rintro e w' ⟨rfl, k, rfl⟩)
      go_ret
      exact Rets.of rfl ((Mod.refl _ _).drewN _) ⟨h.hb, h.hr, h.ne, h.pos, h.le, h.inb⟩
  · have hM : mayE l f = 3 := by simp [mayE, hf]
    rw [show sFoldE l f t = 3 by unfold sFoldE; rw [if_neg (fun x => hf x.1)], show sFold l f t = l by unfold sFold; rw [if_neg (fun x => hf x.1.1)]]
    clear hf
    go_enter Tryz.func302, Tryz.ntmps302
    go_wp2_with (go_at_call 283; refine (split_may b r l _ _ (by exact h.same rfl)).mono ?_; rintro e w' ⟨rfl, k, rfl⟩)
    go_ret
    exact Rets.of rfl ((Mod.refl _ _).drewN _) ⟨h.hb, h.hr, h.ne, h.pos, h.le, h.inb⟩

theorem infoI64 : (Tryz.prog.info? 2).map (fun i => (i.zero, i.size, i.bytes)) = some (some (.int .i64 0), 1, 8) := by kernel_rfl

theorem split_New_no (n : Int) (w : World) (h : n < 1 ∨ 64 < n) :
    Calls Tryz.prog 60 #[.int .i64 n] w (Ret (.tuple #[.pointer none, .int .i64 2]) w) := by
  rcases h with h | h
  all_goals
    go_enter Tryz.func60, Tryz.ntmps60
    go_wp2
    go_ret2
    exact Ret.of (rfl) (by repeat (first | exact Drew.refl _ | apply Drew.drewN | apply Drew.drew))

theorem in64_rep (n : Nat) : ∀ i, i < (List.replicate n (0 : Int)).length → In64 (nth (List.replicate n 0) i) := by
  intro i _
  rw [nth_rep]; decide

theorem split_New_ok (n : Nat) (w : World) (h1 : 1 ≤ n) (h2 : n ≤ 64) :
    Calls Tryz.prog 60 #[.int .i64 n] w (Rets (.tuple #[.pointer (some ⟨w.heap.size + 1, 0, none⟩), .int .i64 0]) [] w fun w' => w.heap.size + 1 < w'.heap.size ∧ SplitAt 147 w' (w.heap.size + 1) w.heap.size (List.replicate n 0)) := by
  have hmk := fun w => Go.run_make_row' (P := Tryz.prog) 145 2 (.int .i64 0) 8 Tryz.underlying145 infoI64 rfl .i64 .i64 n (by omega) (by omega) w
  go_enter Tryz.func60, Tryz.ntmps60
  go_wp2
  go_ret2
  refine Rets.of ?_ (Mod.alloc (Mod.alloc (Mod.refl _ _) _) _) ⟨?_, ?_, ?_, by omega, by simpa using h1, by simpa using h2, in64_rep n⟩
  · simp
  · simp
  · have := heapNew (w.alloc (Obj.cells (madeCells #[Value.int .i64 0] n) 2)) (Obj.cells #[.slice (some ⟨w.heap.size, 0, none⟩) n n] 147)
    simpa using this
  · rw [← rowI_made]; exact heapOld (heapNew _ _)

/-- What copy does where a whole row goes over into a new row of the same length. -/
theorem copyNew (w : World) (r : Nat) (l : List Int) (hr : w.heap[r]? = some (.cells (rowI .i64 l) 2 (0,0))) :
    (Builtin.copy_ #[145, 145] 3 #[.slice (some ⟨w.heap.size, 0, none⟩) l.length l.length, .slice (some ⟨r, 0, none⟩) l.length l.length]).run Tryz.prog (w.alloc (.cells (madeCells #[.int .i64 0] l.length) 2)) =
      .ok (.int .i64 l.length) ((w.alloc (.cells (madeCells #[.int .i64 0] l.length) 2)).setRow w.heap.size (rowI .i64 l)) := by
  have h := run_copy_row (P := Tryz.prog) (w.alloc (.cells (madeCells #[.int .i64 0] l.length) 2)) 145 145 3 2 w.heap.size 0 l.length l.length ⟨r, 0, none⟩ l.length l.length (madeCells #[.int .i64 0] l.length) 2 (l.map (Value.int .i64))
    Tryz.underlying145 (by kernel_rfl) (heapNew _ _) (by simp) ?_ (by simp [size_madeCells]) ?_
  · rw [h]
    have e : (List.take 0 (madeCells #[Value.int IntKind.i64 0] l.length).toList ++ List.map (Value.int IntKind.i64) l ++ List.drop (0 + (List.map (Value.int IntKind.i64) l).length) (madeCells #[Value.int IntKind.i64 0] l.length).toList).toArray = rowI .i64 l := by
      rw [List.drop_eq_nil_of_le (by simp [size_madeCells])]
      simp [rowI]
    rw [e]
    simp [goInt]
  · intro j v hj
    have := cellAt (heapOld (o := .cells (madeCells #[.int .i64 0] l.length) 2) hr) j
    simp only [rowI, List.getElem?_toArray, hj] at this
    unfold Addr.add
    split
    · rename_i e; subst e; exact this
    · simpa using this
  · intro v hv; simp at hv; obtain ⟨x, _, rfl⟩ := hv; rfl

theorem add64_run (x y : Int) (hx : 0 ≤ x) (hy : 0 ≤ y) (w : World) :
    (callFunc 83 #[.int .u64 x, .int .u64 y, .int .u64 0]).run Tryz.prog w = .ok (.value (.tuple #[.int .u64 ((x + y) % 18446744073709551616), .int .u64 ((x + y) / 18446744073709551616)])) w := by
  rw [run_callFunc_extern Tryz.func83 (by kernel_rfl) (by kernel_rfl) (by kernel_rfl) (e := add64Entry) (by kernel_rfl), run_add64 x y 0 hx hy (by omega) (by omega)]
  simp [Result.andThen]

theorem add64_step (L x : Int) (hL : 0 ≤ L) (hM : L < 18446744073709551616) (hx : In64 x) (w : World) : ∃ L' C : Int, (0 ≤ L' ∧ L' < 18446744073709551616 ∧ 0 ≤ C ∧ C ≤ 1 ∧ L' + C * 18446744073709551616 = L + x + (if x < 0 then 18446744073709551616 else 0)) ∧
    (callFunc 83 #[.int .u64 L, .int .u64 (IntKind.u64.wrap x), .int .u64 0]).run Tryz.prog w = .ok (.value (.tuple #[.int .u64 L', .int .u64 C])) w := by
  have hw : IntKind.u64.wrap x = x % 18446744073709551616 := by simp [IntKind.wrap, IntKind.signed, IntKind.bits]
  obtain ⟨h1, h2⟩ := hx
  refine ⟨_, _, ?_, add64_run L (IntKind.u64.wrap x) hL (by rw [hw]; omega) w⟩
  rw [hw]
  split <;> omega

theorem take_sum_succ (l : List Int) (k : Nat) (h : k < l.length) : (l.take (k + 1)).sum = (l.take k).sum + nth l k := by
  rw [List.take_succ_eq_append_getElem h, List.sum_append]
  simp [nth, List.getD, h]

set_option maxRecDepth 100000 in
theorem split_Sum (b r : Nat) (l : List Int) (w : World) (h : SplitAt 147 w b r l) :
    Calls Tryz.prog 21 #[.pointer (some ⟨b, 0, none⟩)] w (Ret (.tuple #[.int .i64 (sSumV l), .int .i64 (sSumE l)]) w) := by
  have hlp := h.pos
  have hll := h.le
  have c0 : w.cell? ⟨b, 0, none⟩ = some (.slice (some ⟨r, 0, none⟩) l.length l.length) := cellAt h.hb 0
  have cr : ∀ i, i < l.length → w.cell? ⟨r, i, none⟩ = some (.int .i64 (nth l i)) := fun i hi => (cellAt h.hr i).trans (rowI_get hi)
  have hin := h.inb
  clear h
  go_enter Tryz.func21, Tryz.ntmps21
  go_wp2
  go_loopg [4, 5, 17] l.length (fun g hi lo i wr => ∃ (k : Nat) (H L : Int), i = .int .i64 k ∧ k + g = l.length ∧ hi = .int .i64 H ∧ lo = .int .u64 L ∧ Hid (H * 18446744073709551616 + L = (l.take k).sum) ∧ 0 ≤ L ∧ L < 18446744073709551616 ∧ -(k : Int) ≤ H ∧ H ≤ k ∧ w = wr)
  case atStart => exact ⟨0, 0, 0, rfl, by omega, rfl, rfl, rfl, by omega, by omega, by omega, by omega, rfl⟩
  case round =>
    obtain ⟨k, H, L, rfl, hk, rfl, rfl, hS, hL0, hL1, hH0, hH1, rfl⟩ := hrel
    by_cases hkl : k < l.length
    · have ck := cr k hkl
      have hn := hin k hkl
      have hT := Lib.hid (take_sum_succ l k hkl)
      clear cr hin
      obtain ⟨L', C, hB, hadd⟩ := add64_step L (nth l k) hL0 hL1 hn w
      obtain ⟨hB1, hB2, hB3, hB4, hB5⟩ := hB
      have hB5 := Lib.hid hB5
      obtain ⟨hn1, hn2⟩ := hn
      generalize nth l k = x at *
      go_wp2
      go_roundg (gk - 1)
      case measure => omega
      case rel =>
        have h5 := hB5.out
        have hT' := hT.out
        have hS' := hS.out
        refine ⟨k + 1, _, L', by go_num, by omega, rfl, rfl, ?_, by omega, by omega, ?_, ?_, rfl⟩
        · show _ = _
          rw [hT']
          split at h5 <;> omega
        · split at h5 <;> omega
        · split at h5 <;> omega
    · have hk' : k = l.length := by omega
      have hS' := hS.out
      rw [hk', List.take_length] at hS'
      clear cr hin hS
      by_cases hL : L < 9223372036854775808
      · by_cases hH : H = 0
        · subst hH
          have e1 : sSumV l = L := (if_pos (show In64 l.sum by unfold In64; omega)).trans (by omega)
          have e2 : sSumE l = 0 := if_pos (show In64 l.sum by unfold In64; omega)
          have E1 := Lib.hid e1
          have E2 := Lib.hid e2
          clear e1 e2 hS'
          have e3 : L / 9223372036854775808 = 0 := by omega
          go_wp2
          go_ret2
          exact Ret.of (by rw [E1.out, E2.out]; rfl) (by repeat (first | exact Drew.refl _ | apply Drew.drewN | apply Drew.drew))
        · have e1 : sSumV l = 0 := if_neg (show ¬ In64 l.sum by unfold In64; omega)
          have e2 : sSumE l = 16 := if_neg (show ¬ In64 l.sum by unfold In64; omega)
          have E1 := Lib.hid e1
          have E2 := Lib.hid e2
          clear e1 e2 hS'
          have e3 : L / 9223372036854775808 = 0 := by omega
          go_wp2
          go_ret2
          exact Ret.of (by rw [E1.out, E2.out]; rfl) (by repeat (first | exact Drew.refl _ | apply Drew.drewN | apply Drew.drew))
      · have e4 : wrap64 L = L - 18446744073709551616 := by unfold wrap64; omega
        by_cases hH : H = -1
        · subst hH
          have e1 : sSumV l = L - 18446744073709551616 := (if_pos (show In64 l.sum by unfold In64; omega)).trans (by omega)
          have e2 : sSumE l = 0 := if_pos (show In64 l.sum by unfold In64; omega)
          have E1 := Lib.hid e1
          have E2 := Lib.hid e2
          clear e1 e2 hS'
          have e3 : (L - 18446744073709551616) / 9223372036854775808 = -1 := by omega
          go_wp2
          go_ret2
          exact Ret.of (by rw [E1.out, E2.out]; rfl) (by repeat (first | exact Drew.refl _ | apply Drew.drewN | apply Drew.drew))
        · have e1 : sSumV l = 0 := if_neg (show ¬ In64 l.sum by unfold In64; omega)
          have e2 : sSumE l = 16 := if_neg (show ¬ In64 l.sum by unfold In64; omega)
          have E1 := Lib.hid e1
          have E2 := Lib.hid e2
          clear e1 e2 hS'
          have e3 : (L - 18446744073709551616) / 9223372036854775808 = -1 := by omega
          go_wp2
          go_ret2
          exact Ret.of (by rw [E1.out, E2.out]; rfl) (by repeat (first | exact Drew.refl _ | apply Drew.drewN | apply Drew.drew))

theorem split_may_nil (c : Int) (w : World) : Calls Tryz.prog 283 #[.pointer none, .int .i64 c] w (Ret (.int .i64 1) w) := by
  go_enter Tryz.func283, Tryz.ntmps283
  go_wp2
  go_ret
  exact Ret.of (rfl) (by repeat (first | exact Drew.refl _ | apply Drew.drewN | apply Drew.drew))
theorem split_Add_nil (c n : Int) (w : World) : Calls Tryz.prog 226 #[.pointer none, .int .i64 c, .int .i64 n] w (Ret (.int .i64 1) w) := by
  go_enter Tryz.func226, Tryz.ntmps226
  go_wp2_with (go_at_call 283; refine (split_may_nil _ _).mono ?_; rintro e w' ⟨rfl, k, rfl⟩)
  go_ret
  exact Ret.of (rfl) (by repeat (first | exact Drew.refl _ | apply Drew.drewN | apply Drew.drew))
theorem split_Get_nil (c : Int) (w : World) : Calls Tryz.prog 282 #[.pointer none, .int .i64 c] w (Ret (.tuple #[.int .i64 0, .int .i64 1]) w) := by
  go_enter Tryz.func282, Tryz.ntmps282
  go_wp2_with (go_at_call 283; refine (split_may_nil _ _).mono ?_; rintro e w' ⟨rfl, k, rfl⟩)
  go_ret2
  exact Ret.of (rfl) (by repeat (first | exact Drew.refl _ | apply Drew.drewN | apply Drew.drew))
theorem split_Fold_nil (f t : Int) (w : World) : Calls Tryz.prog 302 #[.pointer none, .int .i64 f, .int .i64 t] w (Ret (.int .i64 1) w) := by
  go_enter Tryz.func302, Tryz.ntmps302
  go_wp2_with (go_at_call 283; refine (split_may_nil _ _).mono ?_; rintro e w' ⟨rfl, k, rfl⟩)
  go_ret
  exact Ret.of (rfl) (by repeat (first | exact Drew.refl _ | apply Drew.drewN | apply Drew.drew))
theorem split_Sum_nil (w : World) : Calls Tryz.prog 21 #[.pointer none] w (Ret (.tuple #[.int .i64 0, .int .i64 1]) w) := by
  go_enter Tryz.func21, Tryz.ntmps21
  go_wp2
  go_ret2
  exact Ret.of (rfl) (by repeat (first | exact Drew.refl _ | apply Drew.drewN | apply Drew.drew))
end Go.Proofs.YtaakgpnmfkmdoaaGreatDoor

/- The walks over package gate: what each method returns and writes, for every gate that New can have made and calls can have turned. -/
namespace Go.Proofs.YtaakgpnmfkmdoaaGreatDoor
set_option linter.unusedVariables false
set_option linter.unusedSimpArgs false
open Go.RowKit

structure SG where
  l : List Int
  st : Int
structure SG.ok (s : SG) : Prop where
  nn : ∀ i, 0 ≤ nth s.l i
  sum : s.l.sum ≤ 1000
  st0 : 0 ≤ s.st
  st1 : s.st ≤ 2
def inR (l : List Int) (c : Int) : Prop := 0 ≤ c ∧ c < l.length
instance instGate1 (l : List Int) (c : Int) : Decidable (inR l c) := by unfold inR; infer_instance
def SG.enterE (s : SG) (c : Int) : Int := if inR s.l c then (if s.st ≠ 0 then 7 else if 1000 ≤ s.l.sum then 5 else 0) else 3
def SG.enter (s : SG) (c : Int) : SG := if s.enterE c = 0 then { s with l := s.l.set c.toNat (nth s.l c.toNat + 1) } else s
def SG.leaveE (s : SG) (c : Int) : Int := if inR s.l c then (if nth s.l c.toNat = 0 then 12 else 0) else 3
def SG.leave (s : SG) (c : Int) : SG := if s.leaveE c = 0 then { s with l := s.l.set c.toNat (nth s.l c.toNat - 1) } else s
def SG.wantE (s : SG) : Int := if s.st ≠ 0 then 7 else 0
def SG.want (s : SG) : SG := if s.st ≠ 0 then s else { s with st := 1 }
def SG.takeE (s : SG) : Int := if s.st ≠ 1 then 6 else if 0 < s.l.sum then 7 else 0
def SG.take (s : SG) : SG := if s.takeE = 0 then { s with st := 2 } else s
def SG.freeE (s : SG) : Int := if s.st = 0 then 6 else 0
def SG.free (s : SG) : SG := if s.st = 0 then s else { s with st := 0 }

theorem nth_nil (i : Nat) : nth [] i = 0 := by simp [nth]
theorem nth_zero (a : Int) (l : List Int) : nth (a :: l) 0 = a := by simp [nth]
theorem nth_succ (a : Int) (l : List Int) (i : Nat) : nth (a :: l) (i + 1) = nth l i := by simp [nth]
theorem sum_nn : ∀ (l : List Int), (∀ i, 0 ≤ nth l i) → 0 ≤ l.sum
  | [], _ => by simp
  | a :: l, h => by
    have h0 := h 0
    rw [nth_zero] at h0
    have := sum_nn l (fun i => by have := h (i + 1); rwa [nth_succ] at this)
    simp; omega
theorem nth_le_sum : ∀ (l : List Int), (∀ i, 0 ≤ nth l i) → ∀ i, nth l i ≤ l.sum
  | [], _, i => by simp [nth]
  | a :: l, h, 0 => by
    rw [nth_zero]
    have := sum_nn l (fun i => by have := h (i + 1); rwa [nth_succ] at this)
    simp; omega
  | a :: l, h, i + 1 => by
    have h0 := h 0
    rw [nth_zero] at h0
    rw [nth_succ]
    have := nth_le_sum l (fun i => by have := h (i + 1); rwa [nth_succ] at this) i
    simp; omega
theorem nth_out {l : List Int} {i : Nat} (h : l.length ≤ i) : nth l i = 0 := by simp [nth, List.getD, h]

theorem SG.enter_ok {s : SG} (h : s.ok) (c : Int) : (s.enter c).ok := by
  unfold SG.enter
  split
  · rename_i e
    unfold SG.enterE at e
    split at e
    · rename_i hc
      obtain ⟨h1, h2⟩ := hc
      split at e
      · omega
      · split at e
        · omega
        · refine ⟨fun i => ?_, ?_, h.st0, h.st1⟩
          · have := h.nn i
            have := h.nn c.toNat
            rw [nth_set (by omega)]; split <;> omega
          · simp only
            rw [sum_set _ _ _ (by omega)]; omega
    · omega
  · exact h
theorem SG.leave_ok {s : SG} (h : s.ok) (c : Int) : (s.leave c).ok := by
  unfold SG.leave
  split
  · rename_i e
    unfold SG.leaveE at e
    split at e
    · rename_i hc
      obtain ⟨h1, h2⟩ := hc
      split at e
      · omega
      · have hs := h.sum
        refine ⟨fun i => ?_, ?_, h.st0, h.st1⟩
        · have := h.nn i
          have := h.nn c.toNat
          rw [nth_set (by omega)]; split <;> omega
        · simp only
          rw [sum_set _ _ _ (by omega)]; omega
    · omega
  · exact h
theorem SG.want_ok {s : SG} (h : s.ok) : s.want.ok := by
  unfold SG.want; split
  · exact h
  · exact ⟨h.nn, h.sum, by simp, by simp⟩
theorem SG.take_ok {s : SG} (h : s.ok) : s.take.ok := by
  unfold SG.take; split
  · exact ⟨h.nn, h.sum, by simp, by simp⟩
  · exact h
theorem SG.free_ok {s : SG} (h : s.ok) : s.free.ok := by
  unfold SG.free; split
  · exact h
  · exact ⟨h.nn, h.sum, by simp, by simp⟩

/-- A gate at block g, over a number in parts at block b with the row r. -/
structure GateAt (w : World) (g b r : Nat) (s : SG) : Prop where
  hg : w.heap[g]? = some (.cells #[.pointer (some ⟨b, 0, none⟩), .int .i64 s.st] 200 (0,0))
  sp : SplitAt 147 w b r s.l
  nb : g ≠ b
  nr : g ≠ r
  ok : s.ok
theorem GateAt.keep {S : List Nat} {w w' : World} {g b r : Nat} {s : SG} (h : GateAt w g b r s) (m : Mod S w w') (hg : g ∉ S) (hb : b ∉ S) (hr : r ∉ S) : GateAt w' g b r s :=
  ⟨m.keep h.hg hg, h.sp.keep m hb hr, h.nb, h.nr, h.ok⟩
theorem GateAt.same {w w' : World} {g b r : Nat} {s : SG} (h : GateAt w g b r s) (e : w'.heap = w.heap) : GateAt w' g b r s :=
  ⟨by rw [e]; exact h.hg, h.sp.same e, h.nb, h.nr, h.ok⟩


theorem In64_sum {s : SG} (h : s.ok) : In64 s.l.sum := by
  have := sum_nn s.l h.nn
  have := h.sum
  unfold In64; omega
theorem In64_nth {s : SG} (h : s.ok) (i : Nat) : 0 ≤ nth s.l i ∧ nth s.l i ≤ 1000 := by
  have := nth_le_sum s.l h.nn i
  have := h.sum
  have := h.nn i
  omega

theorem gate_Readers (g b r : Nat) (s : SG) (w : World) (h : GateAt w g b r s) : Calls Tryz.prog 225 #[.pointer (some ⟨g, 0, none⟩)] w (Ret (.int .i64 s.l.sum) w) := by
  have hst0 := h.ok.st0
  have hst1 := h.ok.st1
  have c0 : w.cell? ⟨g, 0, none⟩ = some (.pointer (some ⟨b, 0, none⟩)) := cellAt h.hg 0
  have c1 : w.cell? ⟨g, 1, none⟩ = some (.int .i64 s.st) := cellAt h.hg 1
  have f1 : w.frozen? ⟨g, 1, none⟩ = false := freeAt h.hg 1
  have e1 : sSumV s.l = s.l.sum := if_pos (In64_sum h.ok)
  have e2 := In64_sum h.ok
  obtain ⟨e3, e4⟩ := e2
  go_enter Tryz.func225, Tryz.ntmps225
  go_wp2_with (go_at_call 21; refine (split_Sum b r s.l _ (by exact h.sp.same rfl)).mono ?_; rintro e w' ⟨rfl, k, rfl⟩)
  go_ret
  exact Ret.of (rfl) (by repeat (first | exact Drew.refl _ | apply Drew.drewN | apply Drew.drew))

theorem gate_On (g b r : Nat) (s : SG) (c : Int) (w : World) (h : GateAt w g b r s) : Calls Tryz.prog 233 #[.pointer (some ⟨g, 0, none⟩), .int .i64 c] w (Ret (.int .i64 (sGet s.l c)) w) := by
  have hst0 := h.ok.st0
  have hst1 := h.ok.st1
  have c0 : w.cell? ⟨g, 0, none⟩ = some (.pointer (some ⟨b, 0, none⟩)) := cellAt h.hg 0
  have c1 : w.cell? ⟨g, 1, none⟩ = some (.int .i64 s.st) := cellAt h.hg 1
  have f1 : w.frozen? ⟨g, 1, none⟩ = false := freeAt h.hg 1
  have hb : -9223372036854775808 ≤ sGet s.l c ∧ sGet s.l c ≤ 9223372036854775807 := by
    have := In64_nth h.ok c.toNat
    unfold sGet; split <;> omega
  obtain ⟨e3, e4⟩ := hb
  go_enter Tryz.func233, Tryz.ntmps233
  go_wp2_with (go_at_call 282; refine (split_Get b r s.l _ _ (by exact h.sp.same rfl)).mono ?_; rintro e w' ⟨rfl, k, rfl⟩)
  go_ret
  exact Ret.of (rfl) (by repeat (first | exact Drew.refl _ | apply Drew.drewN | apply Drew.drew))

theorem gate_may (g b r : Nat) (s : SG) (c : Int) (w : World) (h : GateAt w g b r s) : Calls Tryz.prog 224 #[.pointer (some ⟨g, 0, none⟩), .int .i64 c] w (Ret (.int .i64 (mayE s.l c)) w) := by
  have hst0 := h.ok.st0
  have hst1 := h.ok.st1
  have c0 : w.cell? ⟨g, 0, none⟩ = some (.pointer (some ⟨b, 0, none⟩)) := cellAt h.hg 0
  have c1 : w.cell? ⟨g, 1, none⟩ = some (.int .i64 s.st) := cellAt h.hg 1
  have f1 : w.frozen? ⟨g, 1, none⟩ = false := freeAt h.hg 1
  go_enter Tryz.func224, Tryz.ntmps224
  go_wp2_with (go_at_call 282; refine (split_Get b r s.l _ _ (by exact h.sp.same rfl)).mono ?_; rintro e w' ⟨rfl, k, rfl⟩)
  go_ret
  exact Ret.of (rfl) (by repeat (first | exact Drew.refl _ | apply Drew.drewN | apply Drew.drew))

theorem gate_Want (g b r : Nat) (s : SG) (w : World) (h : GateAt w g b r s) : Calls Tryz.prog 143 #[.pointer (some ⟨g, 0, none⟩)] w (Rets (.int .i64 s.wantE) [g] w fun w' => GateAt w' g b r s.want) := by
  have hok := SG.want_ok h.ok
  have hst0 := h.ok.st0
  have hst1 := h.ok.st1
  have c0 : w.cell? ⟨g, 0, none⟩ = some (.pointer (some ⟨b, 0, none⟩)) := cellAt h.hg 0
  have c1 : w.cell? ⟨g, 1, none⟩ = some (.int .i64 s.st) := cellAt h.hg 1
  have f1 : w.frozen? ⟨g, 1, none⟩ = false := freeAt h.hg 1
  by_cases e : s.st = 0
  · have hE : s.wantE = 0 := by simp [SG.wantE, e]
    have hS : s.want = { s with st := 1 } := by simp [SG.want, e]
    rw [hE, hS]
    rw [hS] at hok
    clear hE hS
    have e' : (s.st == 0) = true := by simp [e]
    have HE := Lib.hid e
    clear e
    go_enter Tryz.func143, Tryz.ntmps143
    go_wp2
    go_ret
    refine Rets.of rfl (Mod.setCell (Mod.refl _ _) (by simp) _) ⟨?_, ?_, h.nb, h.nr, hok⟩
    · rw [heapSet h.hg]; simp
    · exact h.sp.keep (Mod.setCell (S := [g]) (Mod.refl _ _) (by simp) _) (by simp [Ne.symm h.nb]) (by simp [Ne.symm h.nr])
  · have hE : s.wantE = 7 := by simp [SG.wantE, e]
    have hS : s.want = s := by simp [SG.want, e]
    rw [hE, hS]
    have e' : (s.st == 0) = false := by simp [e]
    clear hE hS
    go_enter Tryz.func143, Tryz.ntmps143
    go_wp2
    go_ret
    exact Rets.of rfl (Mod.refl _ _) h

theorem gate_Free (g b r : Nat) (s : SG) (w : World) (h : GateAt w g b r s) : Calls Tryz.prog 177 #[.pointer (some ⟨g, 0, none⟩)] w (Rets (.int .i64 s.freeE) [g] w fun w' => GateAt w' g b r s.free) := by
  have hok := SG.free_ok h.ok
  have hst0 := h.ok.st0
  have hst1 := h.ok.st1
  have c0 : w.cell? ⟨g, 0, none⟩ = some (.pointer (some ⟨b, 0, none⟩)) := cellAt h.hg 0
  have c1 : w.cell? ⟨g, 1, none⟩ = some (.int .i64 s.st) := cellAt h.hg 1
  have f1 : w.frozen? ⟨g, 1, none⟩ = false := freeAt h.hg 1
  by_cases e : s.st = 0
  · have hE : s.freeE = 6 := by simp [SG.freeE, e]
    have hS : s.free = s := by simp [SG.free, e]
    rw [hE, hS]
    clear hE hS
    have e' : (s.st == 0) = true := by simp [e]
    clear e
    go_enter Tryz.func177, Tryz.ntmps177
    go_wp2
    go_ret
    exact Rets.of rfl (Mod.refl _ _) h
  · have hE : s.freeE = 0 := by simp [SG.freeE, e]
    have hS : s.free = { s with st := 0 } := by simp [SG.free, e]
    rw [hE, hS]
    rw [hS] at hok
    have e' : (s.st == 0) = false := by simp [e]
    clear hE hS
    go_enter Tryz.func177, Tryz.ntmps177
    go_wp2
    go_ret
    refine Rets.of rfl (Mod.setCell (Mod.refl _ _) (by simp) _) ⟨?_, ?_, h.nb, h.nr, hok⟩
    · rw [heapSet h.hg]; simp
    · exact h.sp.keep (Mod.setCell (S := [g]) (Mod.refl _ _) (by simp) _) (by simp [Ne.symm h.nb]) (by simp [Ne.symm h.nr])

theorem gate_Take (g b r : Nat) (s : SG) (w : World) (h : GateAt w g b r s) : Calls Tryz.prog 249 #[.pointer (some ⟨g, 0, none⟩)] w (Rets (.int .i64 s.takeE) [g] w fun w' => GateAt w' g b r s.take) := by
  have hok := SG.take_ok h.ok
  have hst0 := h.ok.st0
  have hst1 := h.ok.st1
  have c0 : w.cell? ⟨g, 0, none⟩ = some (.pointer (some ⟨b, 0, none⟩)) := cellAt h.hg 0
  have c1 : w.cell? ⟨g, 1, none⟩ = some (.int .i64 s.st) := cellAt h.hg 1
  have f1 : w.frozen? ⟨g, 1, none⟩ = false := freeAt h.hg 1
  by_cases e : s.st = 1
  · have e' : (s.st == 1) = true := by simp [e]
    by_cases hp : 0 < s.l.sum
    · have hE : s.takeE = 7 := by simp [SG.takeE, e, hp]
      have hS : s.take = s := by simp [SG.take, hE]
      rw [hE, hS]
      clear hE hS e
      go_enter Tryz.func249, Tryz.ntmps249
      go_wp2_with (go_at_call 225; refine (gate_Readers g b r s _ (by exact h.same rfl)).mono ?_; rintro e w' ⟨rfl, k, rfl⟩)
      go_ret
      exact Rets.of rfl ((Mod.refl _ _).drewN _) (h.same rfl)
    · have hE : s.takeE = 0 := by simp [SG.takeE, e, hp]
      have hS : s.take = { s with st := 2 } := by simp [SG.take, hE]
      rw [hE, hS]
      rw [hS] at hok
      clear hE hS e
      go_enter Tryz.func249, Tryz.ntmps249
      go_wp2_with (go_at_call 225; refine (gate_Readers g b r s _ (by exact h.same rfl)).mono ?_; rintro e w' ⟨rfl, k, rfl⟩)
      go_ret
      refine Rets.of rfl (Mod.setCell ((Mod.refl _ _).drewN _) (by simp) _) ⟨?_, ?_, h.nb, h.nr, hok⟩
      · rw [heapSet (w := w.drewN k) h.hg]; simp
      · exact h.sp.keep (Mod.setCell (S := [g]) ((Mod.refl _ _).drewN _) (by simp) _) (by simp [Ne.symm h.nb]) (by simp [Ne.symm h.nr])
  · have hE : s.takeE = 6 := by simp [SG.takeE, e]
    have hS : s.take = s := by simp [SG.take, hE]
    rw [hE, hS]
    have e' : (s.st == 1) = false := by simp [e]
    clear hE hS e
    go_enter Tryz.func249, Tryz.ntmps249
    go_wp2
    go_ret
    exact Rets.of rfl (Mod.refl _ _) h

theorem gate_Enter (g b r : Nat) (s : SG) (c : Int) (w : World) (h : GateAt w g b r s) : Calls Tryz.prog 140 #[.pointer (some ⟨g, 0, none⟩), .int .i64 c] w (Rets (.int .i64 (s.enterE c)) [r] w fun w' => GateAt w' g b r (s.enter c)) := by
  have hok := SG.enter_ok h.ok c
  have hst0 := h.ok.st0
  have hst1 := h.ok.st1
  have c0 : w.cell? ⟨g, 0, none⟩ = some (.pointer (some ⟨b, 0, none⟩)) := cellAt h.hg 0
  have c1 : w.cell? ⟨g, 1, none⟩ = some (.int .i64 s.st) := cellAt h.hg 1
  have f1 : w.frozen? ⟨g, 1, none⟩ = false := freeAt h.hg 1
  by_cases hc : inR s.l c
  · have hM : mayE s.l c = 0 := if_pos hc
    by_cases e : s.st = 0
    · have e' : (s.st == 0) = true := by simp [e]
      by_cases hs : 1000 ≤ s.l.sum
      · have hE : s.enterE c = 5 := by simp [SG.enterE, hc, e, hs]
        have hS : s.enter c = s := by simp [SG.enter, hE]
        rw [hE, hS]
        clear hE hS e hc
        go_enter Tryz.func140, Tryz.ntmps140
        go_wp2_with (first | (go_at_call 224; refine (gate_may g b r s c _ (by exact h.same rfl)).mono ?_; rintro e w' ⟨rfl, k, rfl⟩) | (go_at_call 225; refine (gate_Readers g b r s _ (by exact h.same rfl)).mono ?_; rintro e w' ⟨rfl, k2, rfl⟩))
        go_ret
        exact Rets.of rfl ((Mod.refl _ _).drewN _) (h.same rfl)
      · have hE : s.enterE c = 0 := by simp [SG.enterE, hc, e, hs]
        have hn := In64_nth h.ok c.toNat
        have hI : In64 (nth s.l c.toNat + 1) := by unfold In64; omega
        have hA : sAddE s.l c 1 = 0 := by unfold sAddE addE; rw [if_pos (show 0 ≤ c ∧ c < s.l.length from hc), if_pos hI]
        have hL : sAdd s.l c 1 = s.l.set c.toNat (nth s.l c.toNat + 1) := if_pos ⟨hc, hI⟩
        have hS : s.enter c = { s with l := sAdd s.l c 1 } := by simp only [SG.enter, hE, if_true, hL]
        rw [hE, hS]
        rw [hS] at hok
        clear hE hS e hc hL hI
        go_enter Tryz.func140, Tryz.ntmps140
        go_wp2_with (first | (go_at_call 224; refine (gate_may g b r s c _ (by exact h.same rfl)).mono ?_; rintro e w' ⟨rfl, k, rfl⟩) | (go_at_call 225; refine (gate_Readers g b r s _ (by exact h.same rfl)).mono ?_; rintro e w' ⟨rfl, k2, rfl⟩) | (go_at_call 226; refine (split_Add b r s.l c 1 (by decide) _ (by exact h.sp.same rfl)).mono ?_; rintro e w1 ⟨rfl, m1, x1⟩))
        go_ret
        exact Rets.of rfl (((Mod.refl _ _).drewN _).trans m1 (by simp)) ⟨m1.keep (w := w.drewN _) h.hg (by simp [h.nr]), x1, h.nb, h.nr, hok⟩
    · have e' : (s.st == 0) = false := by simp [e]
      have hE : s.enterE c = 7 := by simp [SG.enterE, hc, e]
      have hS : s.enter c = s := by simp [SG.enter, hE]
      rw [hE, hS]
      clear hE hS e hc
      go_enter Tryz.func140, Tryz.ntmps140
      go_wp2_with (go_at_call 224; refine (gate_may g b r s c _ (by exact h.same rfl)).mono ?_; rintro e w' ⟨rfl, k, rfl⟩)
      go_ret
      exact Rets.of rfl ((Mod.refl _ _).drewN _) (h.same rfl)
  · have hM : mayE s.l c = 3 := if_neg hc
    have hE : s.enterE c = 3 := by simp [SG.enterE, hc]
    have hS : s.enter c = s := by simp [SG.enter, hE]
    rw [hE, hS]
    clear hE hS hc
    go_enter Tryz.func140, Tryz.ntmps140
    go_wp2_with (go_at_call 224; refine (gate_may g b r s c _ (by exact h.same rfl)).mono ?_; rintro e w' ⟨rfl, k, rfl⟩)
    go_ret
    exact Rets.of rfl ((Mod.refl _ _).drewN _) (h.same rfl)

theorem gate_Leave (g b r : Nat) (s : SG) (c : Int) (w : World) (h : GateAt w g b r s) : Calls Tryz.prog 148 #[.pointer (some ⟨g, 0, none⟩), .int .i64 c] w (Rets (.int .i64 (s.leaveE c)) [r] w fun w' => GateAt w' g b r (s.leave c)) := by
  have hok := SG.leave_ok h.ok c
  have hst0 := h.ok.st0
  have hst1 := h.ok.st1
  have c0 : w.cell? ⟨g, 0, none⟩ = some (.pointer (some ⟨b, 0, none⟩)) := cellAt h.hg 0
  have c1 : w.cell? ⟨g, 1, none⟩ = some (.int .i64 s.st) := cellAt h.hg 1
  have f1 : w.frozen? ⟨g, 1, none⟩ = false := freeAt h.hg 1
  by_cases hc : inR s.l c
  · have hM : mayE s.l c = 0 := if_pos hc
    have hG : sGet s.l c = nth s.l c.toNat := if_pos hc
    by_cases e : nth s.l c.toNat = 0
    · have hE : s.leaveE c = 12 := by simp [SG.leaveE, hc, e]
      have hS : s.leave c = s := by simp [SG.leave, hE]
      rw [hE, hS]
      rw [e] at hG
      clear hE hS hc e
      go_enter Tryz.func148, Tryz.ntmps148
      go_wp2_with (first | (go_at_call 224; refine (gate_may g b r s c _ (by exact h.same rfl)).mono ?_; rintro e w' ⟨rfl, k, rfl⟩) | (go_at_call 233; refine (gate_On g b r s c _ (by exact h.same rfl)).mono ?_; rintro e w' ⟨rfl, k2, rfl⟩))
      go_ret
      exact Rets.of rfl ((Mod.refl _ _).drewN _) (h.same rfl)
    · have e' : (nth s.l c.toNat == 0) = false := by simp [e]
      have hE : s.leaveE c = 0 := by simp [SG.leaveE, hc, e]
      have hn := In64_nth h.ok c.toNat
      have hI : In64 (nth s.l c.toNat + -1) := by unfold In64; omega
      have hA : sAddE s.l c (-1) = 0 := by unfold sAddE addE; rw [if_pos (show 0 ≤ c ∧ c < s.l.length from hc), if_pos hI]
      have hL : sAdd s.l c (-1) = s.l.set c.toNat (nth s.l c.toNat + -1) := if_pos ⟨hc, hI⟩
      have hS : s.leave c = { s with l := sAdd s.l c (-1) } := by simp only [SG.leave, hE, if_true, hL]; rfl
      rw [hE, hS]
      rw [hS] at hok
      clear hE hS e hc hL hI
      go_enter Tryz.func148, Tryz.ntmps148
      go_wp2_with (first | (go_at_call 224; refine (gate_may g b r s c _ (by exact h.same rfl)).mono ?_; rintro e w' ⟨rfl, k, rfl⟩) | (go_at_call 233; refine (gate_On g b r s c _ (by exact h.same rfl)).mono ?_; rintro e w' ⟨rfl, k2, rfl⟩) | (go_at_call 226; refine (split_Add b r s.l c (-1) (by decide) _ (by exact h.sp.same rfl)).mono ?_; rintro e w1 ⟨rfl, m1, x1⟩))
      go_ret
      exact Rets.of rfl (((Mod.refl _ _).drewN _).trans m1 (by simp)) ⟨m1.keep (w := w.drewN _) h.hg (by simp [h.nr]), x1, h.nb, h.nr, hok⟩
  · have hM : mayE s.l c = 3 := if_neg hc
    have hE : s.leaveE c = 3 := by simp [SG.leaveE, hc]
    have hS : s.leave c = s := by simp [SG.leave, hE]
    rw [hE, hS]
    clear hE hS hc
    go_enter Tryz.func148, Tryz.ntmps148
    go_wp2_with (go_at_call 224; refine (gate_may g b r s c _ (by exact h.same rfl)).mono ?_; rintro e w' ⟨rfl, k, rfl⟩)
    go_ret
    exact Rets.of rfl ((Mod.refl _ _).drewN _) (h.same rfl)

theorem gate_New_no (n : Int) (w : World) (h : n < 1 ∨ 64 < n) : Calls Tryz.prog 62 #[.int .i64 n] w (Ret (.tuple #[.pointer none, .int .i64 2]) w) := by
  go_enter Tryz.func62, Tryz.ntmps62
  go_wp2_with (go_at_call 60; refine (split_New_no n _ h).mono ?_; rintro e w' ⟨rfl, k, rfl⟩)
  go_ret2
  exact Ret.of (rfl) (by repeat (first | exact Drew.refl _ | apply Drew.drewN | apply Drew.drew))
/-- A gate of n cores has been made, in new blocks. -/
def GateNew (n : Nat) (w : World) (e : Ending) (w' : World) : Prop :=
  ∃ g b r, e = .returned (.tuple #[.pointer (some ⟨g, 0, none⟩), .int .i64 0]) ∧ Mod [] w w' ∧ (w.heap.size ≤ g ∧ w.heap.size ≤ b ∧ w.heap.size ≤ r) ∧ GateAt w' g b r ⟨List.replicate n 0, 0⟩
theorem sum_rep : ∀ n, (List.replicate n (0 : Int)).sum = 0
  | 0 => rfl
  | n + 1 => by rw [List.replicate_succ, List.sum_cons, sum_rep n]; rfl
theorem gate_New_ok (n : Nat) (w : World) (h1 : 1 ≤ n) (h2 : n ≤ 64) : Calls Tryz.prog 62 #[.int .i64 n] w (GateNew n w) := by
  go_enter Tryz.func62, Tryz.ntmps62
  go_wp2_with (go_at_call 60; refine (split_New_ok n _ h1 h2).mono ?_; rintro e w1 ⟨rfl, m1, hs1, x1⟩)
  go_ret2
  refine ⟨w1.heap.size, w.heap.size + 1, w.heap.size, rfl, m1.alloc _, ⟨by omega, by omega, by omega⟩, heapNew _ _, x1.alloc _, by omega, by omega, ?_⟩
  exact ⟨fun i => by rw [nth_rep]; omega, by rw [sum_rep]; omega, by simp, by simp⟩

theorem gate_Readers_nil (w : World) : Calls Tryz.prog 225 #[.pointer none] w (Ret (.int .i64 0) w) := by
  go_enter Tryz.func225, Tryz.ntmps225
  go_wp2
  go_ret
  exact Ret.of (rfl) (by repeat (first | exact Drew.refl _ | apply Drew.drewN | apply Drew.drew))
theorem gate_Want_nil (w : World) : Calls Tryz.prog 143 #[.pointer none] w (Ret (.int .i64 1) w) := by
  go_enter Tryz.func143, Tryz.ntmps143
  go_wp2
  go_ret
  exact Ret.of (rfl) (by repeat (first | exact Drew.refl _ | apply Drew.drewN | apply Drew.drew))
theorem gate_Take_nil (w : World) : Calls Tryz.prog 249 #[.pointer none] w (Ret (.int .i64 1) w) := by
  go_enter Tryz.func249, Tryz.ntmps249
  go_wp2
  go_ret
  exact Ret.of (rfl) (by repeat (first | exact Drew.refl _ | apply Drew.drewN | apply Drew.drew))
theorem gate_Free_nil (w : World) : Calls Tryz.prog 177 #[.pointer none] w (Ret (.int .i64 1) w) := by
  go_enter Tryz.func177, Tryz.ntmps177
  go_wp2
  go_ret
  exact Ret.of (rfl) (by repeat (first | exact Drew.refl _ | apply Drew.drewN | apply Drew.drew))
theorem gate_On_nil (c : Int) (w : World) : Calls Tryz.prog 233 #[.pointer none, .int .i64 c] w (Ret (.int .i64 0) w) := by
  go_enter Tryz.func233, Tryz.ntmps233
  go_wp2
  go_ret
  exact Ret.of (rfl) (by repeat (first | exact Drew.refl _ | apply Drew.drewN | apply Drew.drew))
theorem gate_may_nil (c : Int) (w : World) : Calls Tryz.prog 224 #[.pointer none, .int .i64 c] w (Ret (.int .i64 1) w) := by
  go_enter Tryz.func224, Tryz.ntmps224
  go_wp2
  go_ret
  exact Ret.of (rfl) (by repeat (first | exact Drew.refl _ | apply Drew.drewN | apply Drew.drew))
theorem gate_Enter_nil (c : Int) (w : World) : Calls Tryz.prog 140 #[.pointer none, .int .i64 c] w (Ret (.int .i64 1) w) := by
  go_enter Tryz.func140, Tryz.ntmps140
  go_wp2_with (go_at_call 224; refine (gate_may_nil _ _).mono ?_; rintro e w' ⟨rfl, k, rfl⟩)
  go_ret
  exact Ret.of (rfl) (by repeat (first | exact Drew.refl _ | apply Drew.drewN | apply Drew.drew))
theorem gate_Leave_nil (c : Int) (w : World) : Calls Tryz.prog 148 #[.pointer none, .int .i64 c] w (Ret (.int .i64 1) w) := by
  go_enter Tryz.func148, Tryz.ntmps148
  go_wp2_with (go_at_call 224; refine (gate_may_nil _ _).mono ?_; rintro e w' ⟨rfl, k, rfl⟩)
  go_ret
  exact Ret.of (rfl) (by repeat (first | exact Drew.refl _ | apply Drew.drewN | apply Drew.drew))

end Go.Proofs.YtaakgpnmfkmdoaaGreatDoor

/- The walks over package stage: what each method returns and writes, for every run that New can have made. -/
namespace Go.Proofs.YtaakgpnmfkmdoaaGreatDoor
set_option linter.unusedVariables false
set_option linter.unusedSimpArgs false
open Go.RowKit

structure SRun where
  n : Nat
  d : Nat
  back : Bool
def SRun.ok (s : SRun) : Prop := s.d ≤ s.n ∧ s.n ≤ 64
def SRun.over (s : SRun) : Bool := (s.back && s.d == 0) || (!s.back && s.d == s.n)
def SRun.k (s : SRun) : Int := if s.over then 0 else if s.back then s.d - 1 else s.d
def SRun.doneE (s : SRun) : Int := if s.over then 6 else 0
def SRun.done (s : SRun) : SRun := if s.over then s else if s.back then { s with d := s.d - 1 } else { s with d := s.d + 1 }
def SRun.failE (s : SRun) : Int := if s.back || s.over then 6 else 0
def SRun.fail (s : SRun) : SRun := if s.back || s.over then s else { s with back := true }
def SRun.why (s : SRun) : Int := if s.over then (if s.back then 11 else 0) else 7

theorem SRun.done_ok {s : SRun} (h : s.ok) : s.done.ok := by
  obtain ⟨n, d, back⟩ := s
  obtain ⟨h1, h2⟩ := h
  simp only at h1 h2
  unfold SRun.done SRun.over
  cases back <;> simp only <;> split <;> simp_all [SRun.ok] <;> omega
theorem SRun.fail_ok {s : SRun} (h : s.ok) : s.fail.ok := by
  unfold SRun.fail; split <;> exact h

def XRun (w : World) (b : Nat) (s : SRun) : Prop := w.heap[b]? = some (.cells #[.int .i64 s.n, .int .i64 s.d, .bool s.back] 338 (0,0)) ∧ s.ok

theorem XRun.keep {S : List Nat} {w w' : World} {b : Nat} {s : SRun} (h : XRun w b s) (m : Mod S w w') (hb : b ∉ S) : XRun w' b s := ⟨m.keep h.1 hb, h.2⟩


theorem At_any (b : Nat) (s : SRun) (w : World) (h : XRun w b s) :
   Calls Tryz.prog 245 #[.pointer (some ⟨b, 0, none⟩)] w (Ret (.tuple #[.int .i64 s.k, .bool s.back, .bool s.over]) w) := by
  obtain ⟨h, h1, h2⟩ := h
  have c0 : w.cell? ⟨b, 0, none⟩ = some (.int .i64 s.n) := cellAt h 0
  have c1 : w.cell? ⟨b, 1, none⟩ = some (.int .i64 s.d) := cellAt h 1
  have c2 : w.cell? ⟨b, 2, none⟩ = some (.bool s.back) := cellAt h 2
  have f1 : w.frozen? ⟨b, 1, none⟩ = false := freeAt h 1
  have f2 : w.frozen? ⟨b, 2, none⟩ = false := freeAt h 2
  clear h f1 f2
  obtain ⟨n, d, back⟩ := s
  simp only at h1 h2 c0 c1 c2
  cases back
  · by_cases e : d = n
    · subst e
      have hd : ((d : Int) == (d : Int)) = true := by simp
      go_enter Tryz.func245, Tryz.ntmps245
      go_wp2
      go_quiet (fail)
      go_wp2
      go_quiet (fail)
      go_wp2
      go_ret3
      exact Ret.of (by simp [SRun.k, SRun.over]) (by repeat (first | exact Drew.refl _ | apply Drew.drewN | apply Drew.drew))
    · have hd : ((d : Int) == (n : Int)) = false := by simp; omega
      have hd' : (d == n) = false := by simp; omega
      go_enter Tryz.func245, Tryz.ntmps245
      go_wp2
      go_quiet (fail)
      go_wp2
      go_ret3
      exact Ret.of (by simp [SRun.k, SRun.over, hd']) (by repeat (first | exact Drew.refl _ | apply Drew.drewN | apply Drew.drew))
  · by_cases e : d = 0
    · subst e
      have hd : ((0 : Int) == (0 : Int)) = true := by simp
      go_enter Tryz.func245, Tryz.ntmps245
      go_wp2
      go_quiet (fail)
      go_wp2
      go_quiet (fail)
      go_wp2
      go_ret3
      exact Ret.of (by simp [SRun.k, SRun.over]) (by repeat (first | exact Drew.refl _ | apply Drew.drewN | apply Drew.drew))
    · have hd : ((d : Int) == (0 : Int)) = false := by simp; omega
      have hd' : (d == 0) = false := by simp; omega
      have hp : (1 : Int) ≤ d := by omega
      go_enter Tryz.func245, Tryz.ntmps245
      go_wp2
      go_quiet (fail)
      go_wp2
      go_ret3
      exact Ret.of (by simp [SRun.k, SRun.over, hd']) (by repeat (first | exact Drew.refl _ | apply Drew.drewN | apply Drew.drew))

theorem At_nil (w : World) : Calls Tryz.prog 245 #[.pointer none] w (Ret (.tuple #[.int .i64 0, .bool false, .bool true]) w) := by
  go_enter Tryz.func245, Tryz.ntmps245
  go_wp2
  go_ret3
  exact Ret.of (rfl) (by repeat (first | exact Drew.refl _ | apply Drew.drewN | apply Drew.drew))


theorem Why_any (b : Nat) (s : SRun) (w : World) (h : XRun w b s) :
   Calls Tryz.prog 253 #[.pointer (some ⟨b, 0, none⟩)] w (Ret (.int .i64 s.why) w) := by
  cases ho : s.over
  · go_enter Tryz.func253, Tryz.ntmps253
    go_wp2_with (go_at_call 245; refine (At_any b s _ h).mono ?_; rintro e w' ⟨rfl, k, rfl⟩)
    go_ret
    exact Ret.of (by simp [SRun.why, ho]) (by repeat (first | exact Drew.refl _ | apply Drew.drewN | apply Drew.drew))
  · cases hb : s.back
    all_goals
      go_enter Tryz.func253, Tryz.ntmps253
      go_wp2_with (go_at_call 245; refine (At_any b s _ h).mono ?_; rintro e w' ⟨rfl, k, rfl⟩)
      go_ret
      exact Ret.of (by simp [SRun.why, ho, hb]) (by repeat (first | exact Drew.refl _ | apply Drew.drewN | apply Drew.drew))

theorem Done_any (b : Nat) (s : SRun) (w : World) (h : XRun w b s) :
   Calls Tryz.prog 252 #[.pointer (some ⟨b, 0, none⟩)] w (Rets (.int .i64 s.doneE) [b] w fun w' => XRun w' b s.done) := by
  have hok := SRun.done_ok h.2
  have h' := h
  obtain ⟨h, h1, h2⟩ := h
  have c0 : w.cell? ⟨b, 0, none⟩ = some (.int .i64 s.n) := cellAt h 0
  have c1 : w.cell? ⟨b, 1, none⟩ = some (.int .i64 s.d) := cellAt h 1
  have c2 : w.cell? ⟨b, 2, none⟩ = some (.bool s.back) := cellAt h 2
  have f1 : w.frozen? ⟨b, 1, none⟩ = false := freeAt h 1
  have f2 : w.frozen? ⟨b, 2, none⟩ = false := freeAt h 2
  cases ho : s.over
  · have hE : s.doneE = 0 := by simp [SRun.doneE, ho]
    have HE := Lib.hid hE; clear hE
    cases hb : s.back
    · have hD : s.done = { s with d := s.d + 1 } := by simp [SRun.done, ho, hb]
      have HD := Lib.hid hD; clear hD
      go_enter Tryz.func252, Tryz.ntmps252
      go_wp2_with (go_at_call 245; refine (At_any b s _ h').mono ?_; rintro e w' ⟨rfl, k, rfl⟩)
      go_ret
      refine Rets.of (by rw [HE.out]; rfl) (Mod.setCell (Mod.drewN (Mod.refl _ _) _) (by simp) _) ⟨?_, hok⟩
      rw [toNatAdd, heapSet (w := w.drewN k) h 1, HD.out]; simp [hb]
    · have hD : s.done = { s with d := s.d - 1 } := by simp [SRun.done, ho, hb]
      have HD := Lib.hid hD; clear hD
      have hd : 1 ≤ s.d := by
        unfold SRun.over at ho; rw [hb] at ho; simp at ho; omega
      have hd' : (1 : Int) ≤ s.d := by omega
      go_enter Tryz.func252, Tryz.ntmps252
      go_wp2_with (go_at_call 245; refine (At_any b s _ h').mono ?_; rintro e w' ⟨rfl, k, rfl⟩)
      go_ret
      refine Rets.of (by rw [HE.out]; rfl) (Mod.setCell (Mod.drewN (Mod.refl _ _) _) (by simp) _) ⟨?_, hok⟩
      rw [toNatSub hd, heapSet (w := w.drewN k) h 1, HD.out]; simp [hb]
  · have hE : s.doneE = 6 := by simp [SRun.doneE, ho]
    have hD : s.done = s := by simp [SRun.done, ho]
    have HE := Lib.hid hE; clear hE
    have HD := Lib.hid hD; clear hD
    go_enter Tryz.func252, Tryz.ntmps252
    go_wp2_with (go_at_call 245; refine (At_any b s _ h').mono ?_; rintro e w' ⟨rfl, k, rfl⟩)
    go_ret
    refine Rets.of (by rw [HE.out]; rfl) (Mod.drewN (Mod.refl _ _) _) ?_
    rw [HD.out]; exact ⟨h, h1, h2⟩

theorem Fail_any (b : Nat) (s : SRun) (w : World) (h : XRun w b s) :
   Calls Tryz.prog 246 #[.pointer (some ⟨b, 0, none⟩)] w (Rets (.int .i64 s.failE) [b] w fun w' => XRun w' b s.fail) := by
  have hok := SRun.fail_ok h.2
  have h' := h
  obtain ⟨h, h1, h2⟩ := h
  have c0 : w.cell? ⟨b, 0, none⟩ = some (.int .i64 s.n) := cellAt h 0
  have c1 : w.cell? ⟨b, 1, none⟩ = some (.int .i64 s.d) := cellAt h 1
  have c2 : w.cell? ⟨b, 2, none⟩ = some (.bool s.back) := cellAt h 2
  have f1 : w.frozen? ⟨b, 1, none⟩ = false := freeAt h 1
  have f2 : w.frozen? ⟨b, 2, none⟩ = false := freeAt h 2
  cases hb : s.back
  · cases ho : s.over
    · have hE : s.failE = 0 := by simp [SRun.failE, ho, hb]
      have hD : s.fail = { s with back := true } := by simp [SRun.fail, ho, hb]
      have HE := Lib.hid hE; clear hE
      have HD := Lib.hid hD; clear hD
      go_enter Tryz.func246, Tryz.ntmps246
      go_wp2_with (go_at_call 245; refine (At_any b s _ h').mono ?_; rintro e w' ⟨rfl, k, rfl⟩)
      go_ret
      refine Rets.of (by rw [HE.out]; rfl) (Mod.setCell (Mod.drewN (Mod.refl _ _) _) (by simp) _) ⟨?_, hok⟩
      rw [heapSet (w := w.drewN k) h 2, HD.out]; simp
    · have hE : s.failE = 6 := by simp [SRun.failE, ho, hb]
      have hD : s.fail = s := by simp [SRun.fail, ho, hb]
      have HE := Lib.hid hE; clear hE
      have HD := Lib.hid hD; clear hD
      go_enter Tryz.func246, Tryz.ntmps246
      go_wp2_with (go_at_call 245; refine (At_any b s _ h').mono ?_; rintro e w' ⟨rfl, k, rfl⟩)
      go_ret
      refine Rets.of (by rw [HE.out]; rfl) (Mod.drewN (Mod.refl _ _) _) ?_
      rw [HD.out]; exact ⟨h, h1, h2⟩
  · have hE : s.failE = 6 := by simp [SRun.failE, hb]
    have hD : s.fail = s := by simp [SRun.fail, hb]
    have HE := Lib.hid hE; clear hE
    have HD := Lib.hid hD; clear hD
    go_enter Tryz.func246, Tryz.ntmps246
    go_wp2_with (go_at_call 245; refine (At_any b s _ h').mono ?_; rintro e w' ⟨rfl, k, rfl⟩)
    go_ret
    refine Rets.of (by rw [HE.out]; rfl) (Mod.drewN (Mod.refl _ _) _) ?_
    rw [HD.out]; exact ⟨h, h1, h2⟩

theorem Done_nil (w : World) : Calls Tryz.prog 252 #[.pointer none] w (Ret (.int .i64 1) w) := by
  go_enter Tryz.func252, Tryz.ntmps252
  go_wp2_with (go_at_call 245; refine (At_nil _).mono ?_; rintro e w' ⟨rfl, k, rfl⟩)
  go_ret
  exact Ret.of (rfl) (by repeat (first | exact Drew.refl _ | apply Drew.drewN | apply Drew.drew))
theorem Fail_nil (w : World) : Calls Tryz.prog 246 #[.pointer none] w (Ret (.int .i64 1) w) := by
  go_enter Tryz.func246, Tryz.ntmps246
  go_wp2_with (go_at_call 245; refine (At_nil _).mono ?_; rintro e w' ⟨rfl, k, rfl⟩)
  go_ret
  exact Ret.of (rfl) (by repeat (first | exact Drew.refl _ | apply Drew.drewN | apply Drew.drew))
theorem Why_nil (w : World) : Calls Tryz.prog 253 #[.pointer none] w (Ret (.int .i64 1) w) := by
  go_enter Tryz.func253, Tryz.ntmps253
  go_wp2_with (go_at_call 245; refine (At_nil _).mono ?_; rintro e w' ⟨rfl, k, rfl⟩)
  go_ret
  exact Ret.of (rfl) (by repeat (first | exact Drew.refl _ | apply Drew.drewN | apply Drew.drew))
theorem New_no (n : Int) (w : World) (h : n < 1 ∨ 64 < n) :
   Calls Tryz.prog 229 #[.int .i64 n] w (Ret (.tuple #[.pointer none, .int .i64 2]) w) := by
  rcases h with h | h
  all_goals
    go_enter Tryz.func229, Tryz.ntmps229
    go_wp2
    go_ret2
    exact Ret.of (rfl) (by repeat (first | exact Drew.refl _ | apply Drew.drewN | apply Drew.drew))

theorem New_ok (n : Nat) (w : World) (h1 : 1 ≤ n) (h2 : n ≤ 64) :
   Calls Tryz.prog 229 #[.int .i64 n] w (Rets (.tuple #[.pointer (some ⟨w.heap.size, 0, none⟩), .int .i64 0]) [] w fun w' => w.heap.size < w'.heap.size ∧ XRun w' w.heap.size ⟨n, 0, false⟩) := by
  go_enter Tryz.func229, Tryz.ntmps229
  go_wp2
  go_ret2
  refine Rets.of rfl (Mod.alloc (Mod.refl _ _) _) ⟨by rw [sizeNew]; omega, heapNew _ _, ?_, h2⟩
  simp
end Go.Proofs.YtaakgpnmfkmdoaaGreatDoor

/- The walks over package hot: what each method returns and writes, for every desk that calls can have turned. -/
namespace Go.Proofs.YtaakgpnmfkmdoaaGreatDoor
set_option linter.unusedVariables false
set_option linter.unusedSimpArgs false
open Go.RowKit

structure SH where
  run : Option SRun
  up : Bool
  cpu : Int
  by_ : Int
  told : Bool
  plan : List Int
structure SH.ok (s : SH) : Prop where
  nd : s.plan.Nodup
  rg : ∀ i, i ∈ s.plan → 0 ≤ i ∧ i < 10
  r : ∀ r, s.run = some r → r.ok
  none : s.run = none → s.up = false ∧ s.cpu = 0 ∧ s.by_ = 0
def SH.over (s : SH) : Bool := match s.run with | none => false | some r => r.over
def SH.mayE (s : SH) : Int := match s.run with | none => 12 | some r => if r.over then 6 else 0
def planE (k : Int) : Int := if 0 ≤ k ∧ k < 10 then 0 else 3
def SH.doPlan (s : SH) (k : Int) : SH := if 0 ≤ k ∧ k < 10 ∧ k ∉ s.plan then { s with plan := s.plan ++ [k] } else s
def isCore (c : Int) : Prop := 0 ≤ c ∧ c < 64
instance instHot1 (c : Int) : Decidable (isCore c) := by unfold isCore; infer_instance
def SH.beginE (s : SH) (cpu by_ : Int) : Int := if s.run.isSome then 7 else if ¬ isCore cpu ∨ ¬ isCore by_ then 3 else if cpu = by_ then 2 else 0
def SH.begin_ (s : SH) (up : Bool) (cpu by_ : Int) : SH := if s.beginE cpu by_ = 0 then { s with run := some ⟨if up then 4 else 10, 0, false⟩, up := up, cpu := cpu, by_ := by_, told := false } else s
def SH.failsNow (s : SH) (r : SRun) : Bool := !r.back && !s.told && decide (r.k ∈ s.plan)
def SH.step (s : SH) : Value := match s.run with
  | none => .agg #[.int .i64 0, .bool false, .bool false]
  | some r => if r.over then .agg #[.int .i64 0, .bool false, .bool false] else .agg #[.int .i64 r.k, .bool r.back, .bool (s.failsNow r)]
def SH.next (s : SH) : SH := match s.run with
  | none => s
  | some r => if r.over then s else if s.failsNow r then { s with run := some r.fail, told := true, plan := s.plan.erase r.k } else { s with told := true }
def SH.done (s : SH) : SH := match s.run with
  | none => s
  | some r => if r.over then s else { s with run := some r.done, told := false }
def SH.endE (s : SH) : Int := match s.run with | none => 12 | some r => if r.over then 0 else 6
def SH.endV (s : SH) : Int := match s.run with | none => 0 | some r => if r.over then r.why else 0
def SH.end_ (s : SH) : SH := match s.run with | none => s | some r => if r.over then { s with run := none, up := false, cpu := 0, by_ := 0, told := s.told } else s

theorem SH.doPlan_ok {s : SH} (h : s.ok) (k : Int) : (s.doPlan k).ok := by
  unfold SH.doPlan
  split
  · rename_i e
    refine ⟨?_, ?_, h.r, h.none⟩
    · refine List.nodup_append.2 ⟨h.nd, by simp, ?_⟩
      intro a ha b hb
      simp only [List.mem_singleton] at hb
      subst hb
      exact fun q => e.2.2 (q ▸ ha)
    · intro i hi
      simp only [List.mem_append, List.mem_singleton] at hi
      rcases hi with hi | rfl
      · exact h.rg i hi
      · exact ⟨e.1, e.2.1⟩
  · exact h
theorem SH.begin_ok {s : SH} (h : s.ok) (up : Bool) (cpu by_ : Int) : (s.begin_ up cpu by_).ok := by
  unfold SH.begin_
  split
  · refine ⟨h.nd, h.rg, ?_, by simp⟩
    intro r hr
    simp only [Option.some.injEq] at hr
    subst hr
    cases up <;> simp [SRun.ok]
  · exact h
theorem SH.next_ok {s : SH} (h : s.ok) : s.next.ok := by
  unfold SH.next
  split
  · exact h
  · rename_i r hr
    split
    · exact h
    · split
      · refine ⟨h.nd.erase _, fun i hi => h.rg i (List.mem_of_mem_erase hi), ?_, by simp⟩
        intro r' hr'
        simp only [Option.some.injEq] at hr'
        subst hr'
        exact SRun.fail_ok (h.r r hr)
      · exact ⟨h.nd, h.rg, h.r, h.none⟩
theorem SH.done_ok {s : SH} (h : s.ok) : s.done.ok := by
  unfold SH.done
  split
  · exact h
  · rename_i r hr
    split
    · exact h
    · refine ⟨h.nd, h.rg, ?_, by simp⟩
      intro r' hr'
      simp only [Option.some.injEq] at hr'
      subst hr'
      exact SRun.done_ok (h.r r hr)
theorem SH.end_ok {s : SH} (h : s.ok) : s.end_.ok := by
  unfold SH.end_
  split
  · exact h
  · split
    · exact ⟨h.nd, h.rg, by simp, by simp⟩
    · exact h

/-- The entries of what is planned. -/
def planM (l : List Int) : List (Int × Value) := l.map fun i => (i, .bool true)
theorem planM_find : ∀ (l : List Int) (i : Int), mfind (planM l) i 0 = if i ∈ l then some (l.idxOf i, .bool true) else none
  | [], i => by simp [planM, mfind]
  | a :: l, i => by
    simp only [planM, List.map_cons]
    unfold mfind
    by_cases e : i = a
    · simp [e]
    · simp only [e, if_false]
      rw [mfind_shift]
      have := planM_find l i
      unfold planM at this
      rw [this]
      by_cases h : i ∈ l
      · have e2 : (a == i) = false := by simpa using Ne.symm e
        simp [h, e, List.idxOf_cons, e2]
      · simp [h, e]
theorem planM_get (l : List Int) (i : Int) : (mget (planM l) i).getD (.bool false) = .bool (decide (i ∈ l)) := by
  unfold mget
  rw [planM_find]
  by_cases h : i ∈ l <;> simp [h]
theorem planM_put (l : List Int) (i : Int) : mput (planM l) i (.bool true) = planM (if i ∈ l then l else l ++ [i]) := by
  unfold mput
  rw [planM_find]
  by_cases h : i ∈ l
  · simp only [h, if_true]
    unfold planM
    apply List.ext_getElem?
    intro j
    rw [List.getElem?_set]
    split
    · rename_i e
      subst e
      have hl := List.idxOf_lt_length_iff.2 h
      simp [hl]
    · rfl
  · simp [h, planM]
theorem planM_del (l : List Int) (i : Int) : mdel (planM l) i = planM (l.erase i) := by
  unfold mdel
  rw [planM_find]
  by_cases h : i ∈ l
  · simp only [h, if_true]
    unfold planM
    rw [← mapErase]
    congr 1
    exact (List.erase_eq_eraseIdx_of_idxOf rfl).symm
  · simp only [h, if_false]
    rw [List.erase_of_not_mem h]

theorem XRun.same {w w' : World} {b : Nat} {s : SRun} (h : XRun w b s) (e : w'.heap = w.heap) : XRun w' b s := ⟨by rw [e]; exact h.1, h.2⟩
def ReqAt (w : World) : Option (Nat × Nat) → SH → Prop
  | none, s => s.run = none
  | some (a, b), s => ∃ r, s.run = some r ∧ w.heap[a]? = some (.cells #[.pointer (some ⟨b, 0, none⟩), .bool s.up, .int .i64 s.cpu, .int .i64 s.by_, .bool s.told] 306 (0,0)) ∧ XRun w b r ∧ a ≠ b
def PlanAt (w : World) : Option Nat → List Int → Prop
  | none, l => l = []
  | some b, l => MapAt .i64 w b (planM l)
def qF : Option (Nat × Nat) → List Nat
  | none => []
  | some (a, b) => [a, b]
def pF : Option Nat → List Nat
  | none => []
  | some b => [b]
def qP : Option (Nat × Nat) → Option Addr
  | none => none
  | some (a, b) => some ⟨a, 0, none⟩
theorem ReqAt.plan {w : World} {q : Option (Nat × Nat)} {s : SH} (h : ReqAt w q s) (l : List Int) : ReqAt w q { s with plan := l } := by rcases q with _ | ⟨a, b⟩ <;> exact h
/-- A desk at block d. -/
structure DeskAt (w : World) (d : Nat) (q : Option (Nat × Nat)) (pm : Option Nat) (s : SH) : Prop where
  hd : w.heap[d]? = some (.cells #[.pointer (qP q), .map pm] 129 (0,0))
  hq : ReqAt w q s
  hp : PlanAt w pm s.plan
  nq : d ∉ qF q
  np : d ∉ pF pm
  nn : ∀ k, k ∈ pF pm → k ∉ qF q
  ok : s.ok
theorem ReqAt.keep {S : List Nat} {w w' : World} {q : Option (Nat × Nat)} {s : SH} (h : ReqAt w q s) (m : Mod S w w') (hS : ∀ k, k ∈ qF q → k ∉ S) : ReqAt w' q s := by
  rcases q with _ | ⟨a, b⟩
  · exact h
  · obtain ⟨r, h1, h2, h3, h4⟩ := h
    exact ⟨r, h1, m.keep h2 (hS _ (by simp [qF])), h3.keep m (hS _ (by simp [qF])), h4⟩
theorem PlanAt.keep {S : List Nat} {w w' : World} {pm : Option Nat} {l : List Int} (h : PlanAt w pm l) (m : Mod S w w') (hS : ∀ k, k ∈ pF pm → k ∉ S) : PlanAt w' pm l := by
  cases pm with
  | none => exact h
  | some b => exact MapAt.keep h m (hS _ (by simp [pF]))
theorem DeskAt.keep {S : List Nat} {w w' : World} {d : Nat} {q : Option (Nat × Nat)} {pm : Option Nat} {s : SH} (h : DeskAt w d q pm s) (m : Mod S w w') (hS : ∀ k, k ∈ d :: (qF q ++ pF pm) → k ∉ S) : DeskAt w' d q pm s :=
  ⟨m.keep h.hd (hS _ (by simp)), h.hq.keep m (fun k hk => hS _ (by simp [hk])), h.hp.keep m (fun k hk => hS _ (by simp [hk])), h.nq, h.np, h.nn, h.ok⟩
theorem DeskAt.same {w w' : World} {d : Nat} {q : Option (Nat × Nat)} {pm : Option Nat} {s : SH} (h : DeskAt w d q pm s) (e : w'.heap = w.heap) : DeskAt w' d q pm s := by
  refine ⟨by rw [e]; exact h.hd, ?_, ?_, h.nq, h.np, h.nn, h.ok⟩
  · rcases q with _ | ⟨a, b⟩
    · exact h.hq
    · obtain ⟨r, h1, h2, h3, h4⟩ := h.hq
      exact ⟨r, h1, by rw [e]; exact h2, ⟨by rw [e]; exact h3.1, h3.2⟩, h4⟩
  · cases pm with
    | none => exact h.hp
    | some b => exact MapAt.same h.hp e
theorem DeskAt.lt {w : World} {d : Nat} {q : Option (Nat × Nat)} {pm : Option Nat} {s : SH} (h : DeskAt w d q pm s) : ∀ k, k ∈ d :: (qF q ++ pF pm) → k < w.heap.size := by
  intro k hk
  simp only [List.mem_cons, List.mem_append] at hk
  rcases hk with rfl | hk | hk
  · exact ltOf h.hd
  · rcases q with _ | ⟨a, b⟩
    · simp [qF] at hk
    · obtain ⟨r, h1, h2, h3, h4⟩ := h.hq
      simp [qF] at hk
      rcases hk with rfl | rfl
      · exact ltOf h2
      · exact ltOf h3.1
  · cases pm with
    | none => simp [pF] at hk
    | some b => simp [pF] at hk; subst hk; exact MapAt.lt h.hp

/-- A call that turned a desk: what it returned, and that the desk has no one else's blocks. -/
def DeskDo (d : Nat) (q : Option (Nat × Nat)) (pm : Option Nat) (v : Value) (s' : SH) (w : World) (e : Ending) (w' : World) : Prop :=
  ∃ q' pm', e = .returned v ∧ Mod (d :: (qF q ++ pF pm)) w w' ∧ DeskAt w' d q' pm' s' ∧ ∀ k, k ∈ qF q' ++ pF pm' → k ∈ qF q ++ pF pm ∨ w.heap.size ≤ k


theorem hot_Busy (d : Nat) (q : Option (Nat × Nat)) (pm : Option Nat) (s : SH) (w : World) (h : DeskAt w d q pm s) : Calls Tryz.prog 19 #[.pointer (some ⟨d, 0, none⟩)] w (Ret (.bool s.run.isSome) w) := by
  obtain ⟨hd, hq, hp, nq, np, nn, ok⟩ := h
  have c0 : w.cell? ⟨d, 0, none⟩ = some (.pointer (qP q)) := cellAt hd 0
  have c1 : w.cell? ⟨d, 1, none⟩ = some (.map pm) := cellAt hd 1
  have f0 : w.frozen? ⟨d, 0, none⟩ = false := freeAt hd 0
  have f1 : w.frozen? ⟨d, 1, none⟩ = false := freeAt hd 1
  rcases q with _ | ⟨qa, qb⟩
  · simp only [qP] at c0
    simp only [ReqAt] at hq
    go_enter Tryz.func19, Tryz.ntmps19
    go_wp2
    go_ret
    exact Ret.of (by simp [hq]) (by repeat (first | exact Drew.refl _ | apply Drew.drewN | apply Drew.drew))
  · obtain ⟨r, hr, ha, hx, hab⟩ := hq
    have a0 : w.cell? ⟨qa, 0, none⟩ = some (.pointer (some ⟨qb, 0, none⟩)) := cellAt ha 0
    have a1 : w.cell? ⟨qa, 1, none⟩ = some (.bool s.up) := cellAt ha 1
    have a2 : w.cell? ⟨qa, 2, none⟩ = some (.int .i64 s.cpu) := cellAt ha 2
    have a3 : w.cell? ⟨qa, 3, none⟩ = some (.int .i64 s.by_) := cellAt ha 3
    have a4 : w.cell? ⟨qa, 4, none⟩ = some (.bool s.told) := cellAt ha 4
    have g4 : w.frozen? ⟨qa, 4, none⟩ = false := freeAt ha 4
    simp only [qP] at c0
    go_enter Tryz.func19, Tryz.ntmps19
    go_wp2
    go_ret
    exact Ret.of (by simp [hr]) (by repeat (first | exact Drew.refl _ | apply Drew.drewN | apply Drew.drew))

theorem hot_Up (d : Nat) (q : Option (Nat × Nat)) (pm : Option Nat) (s : SH) (w : World) (h : DeskAt w d q pm s) : Calls Tryz.prog 247 #[.pointer (some ⟨d, 0, none⟩)] w (Ret (.bool s.up) w) := by
  have hB := hot_Busy d q pm s w h
  obtain ⟨hd, hq, hp, nq, np, nn, ok⟩ := h
  have c0 : w.cell? ⟨d, 0, none⟩ = some (.pointer (qP q)) := cellAt hd 0
  have c1 : w.cell? ⟨d, 1, none⟩ = some (.map pm) := cellAt hd 1
  have f0 : w.frozen? ⟨d, 0, none⟩ = false := freeAt hd 0
  have f1 : w.frozen? ⟨d, 1, none⟩ = false := freeAt hd 1
  rcases q with _ | ⟨qa, qb⟩
  · simp only [qP] at c0
    simp only [ReqAt] at hq
    obtain ⟨z1, z2, z3⟩ := ok.none hq
    rw [hq] at hB
    simp only [Option.isSome] at hB
    have Z1 := Lib.hid z1
    have Z2 := Lib.hid z2
    have Z3 := Lib.hid z3
    clear z1 z2 z3
    go_enter Tryz.func247, Tryz.ntmps247
    go_wp2_with (go_at_call 19; refine hB.mono ?_; rintro e w' ⟨rfl, k, rfl⟩)
    go_ret
    exact Ret.of (by simp [Z1.out, Z2.out, Z3.out]) (by repeat (first | exact Drew.refl _ | apply Drew.drewN | apply Drew.drew))
  · obtain ⟨r, hr, ha, hx, hab⟩ := hq
    have a0 : w.cell? ⟨qa, 0, none⟩ = some (.pointer (some ⟨qb, 0, none⟩)) := cellAt ha 0
    have a1 : w.cell? ⟨qa, 1, none⟩ = some (.bool s.up) := cellAt ha 1
    have a2 : w.cell? ⟨qa, 2, none⟩ = some (.int .i64 s.cpu) := cellAt ha 2
    have a3 : w.cell? ⟨qa, 3, none⟩ = some (.int .i64 s.by_) := cellAt ha 3
    have a4 : w.cell? ⟨qa, 4, none⟩ = some (.bool s.told) := cellAt ha 4
    have g4 : w.frozen? ⟨qa, 4, none⟩ = false := freeAt ha 4
    simp only [qP] at c0
    rw [hr] at hB
    simp only [Option.isSome] at hB
    go_enter Tryz.func247, Tryz.ntmps247
    go_wp2_with (go_at_call 19; refine hB.mono ?_; rintro e w' ⟨rfl, k, rfl⟩)
    go_ret
    exact Ret.of (rfl) (by repeat (first | exact Drew.refl _ | apply Drew.drewN | apply Drew.drew))
theorem hot_Cpu (d : Nat) (q : Option (Nat × Nat)) (pm : Option Nat) (s : SH) (w : World) (h : DeskAt w d q pm s) : Calls Tryz.prog 171 #[.pointer (some ⟨d, 0, none⟩)] w (Ret (.int .i64 s.cpu) w) := by
  have hB := hot_Busy d q pm s w h
  obtain ⟨hd, hq, hp, nq, np, nn, ok⟩ := h
  have c0 : w.cell? ⟨d, 0, none⟩ = some (.pointer (qP q)) := cellAt hd 0
  have c1 : w.cell? ⟨d, 1, none⟩ = some (.map pm) := cellAt hd 1
  have f0 : w.frozen? ⟨d, 0, none⟩ = false := freeAt hd 0
  have f1 : w.frozen? ⟨d, 1, none⟩ = false := freeAt hd 1
  rcases q with _ | ⟨qa, qb⟩
  · simp only [qP] at c0
    simp only [ReqAt] at hq
    obtain ⟨z1, z2, z3⟩ := ok.none hq
    rw [hq] at hB
    simp only [Option.isSome] at hB
    have Z1 := Lib.hid z1
    have Z2 := Lib.hid z2
    have Z3 := Lib.hid z3
    clear z1 z2 z3
    go_enter Tryz.func171, Tryz.ntmps171
    go_wp2_with (go_at_call 19; refine hB.mono ?_; rintro e w' ⟨rfl, k, rfl⟩)
    go_ret
    exact Ret.of (by simp [Z1.out, Z2.out, Z3.out]) (by repeat (first | exact Drew.refl _ | apply Drew.drewN | apply Drew.drew))
  · obtain ⟨r, hr, ha, hx, hab⟩ := hq
    have a0 : w.cell? ⟨qa, 0, none⟩ = some (.pointer (some ⟨qb, 0, none⟩)) := cellAt ha 0
    have a1 : w.cell? ⟨qa, 1, none⟩ = some (.bool s.up) := cellAt ha 1
    have a2 : w.cell? ⟨qa, 2, none⟩ = some (.int .i64 s.cpu) := cellAt ha 2
    have a3 : w.cell? ⟨qa, 3, none⟩ = some (.int .i64 s.by_) := cellAt ha 3
    have a4 : w.cell? ⟨qa, 4, none⟩ = some (.bool s.told) := cellAt ha 4
    have g4 : w.frozen? ⟨qa, 4, none⟩ = false := freeAt ha 4
    simp only [qP] at c0
    rw [hr] at hB
    simp only [Option.isSome] at hB
    go_enter Tryz.func171, Tryz.ntmps171
    go_wp2_with (go_at_call 19; refine hB.mono ?_; rintro e w' ⟨rfl, k, rfl⟩)
    go_ret
    exact Ret.of (rfl) (by repeat (first | exact Drew.refl _ | apply Drew.drewN | apply Drew.drew))
theorem hot_By (d : Nat) (q : Option (Nat × Nat)) (pm : Option Nat) (s : SH) (w : World) (h : DeskAt w d q pm s) : Calls Tryz.prog 167 #[.pointer (some ⟨d, 0, none⟩)] w (Ret (.int .i64 s.by_) w) := by
  have hB := hot_Busy d q pm s w h
  obtain ⟨hd, hq, hp, nq, np, nn, ok⟩ := h
  have c0 : w.cell? ⟨d, 0, none⟩ = some (.pointer (qP q)) := cellAt hd 0
  have c1 : w.cell? ⟨d, 1, none⟩ = some (.map pm) := cellAt hd 1
  have f0 : w.frozen? ⟨d, 0, none⟩ = false := freeAt hd 0
  have f1 : w.frozen? ⟨d, 1, none⟩ = false := freeAt hd 1
  rcases q with _ | ⟨qa, qb⟩
  · simp only [qP] at c0
    simp only [ReqAt] at hq
    obtain ⟨z1, z2, z3⟩ := ok.none hq
    rw [hq] at hB
    simp only [Option.isSome] at hB
    have Z1 := Lib.hid z1
    have Z2 := Lib.hid z2
    have Z3 := Lib.hid z3
    clear z1 z2 z3
    go_enter Tryz.func167, Tryz.ntmps167
    go_wp2_with (go_at_call 19; refine hB.mono ?_; rintro e w' ⟨rfl, k, rfl⟩)
    go_ret
    exact Ret.of (by simp [Z1.out, Z2.out, Z3.out]) (by repeat (first | exact Drew.refl _ | apply Drew.drewN | apply Drew.drew))
  · obtain ⟨r, hr, ha, hx, hab⟩ := hq
    have a0 : w.cell? ⟨qa, 0, none⟩ = some (.pointer (some ⟨qb, 0, none⟩)) := cellAt ha 0
    have a1 : w.cell? ⟨qa, 1, none⟩ = some (.bool s.up) := cellAt ha 1
    have a2 : w.cell? ⟨qa, 2, none⟩ = some (.int .i64 s.cpu) := cellAt ha 2
    have a3 : w.cell? ⟨qa, 3, none⟩ = some (.int .i64 s.by_) := cellAt ha 3
    have a4 : w.cell? ⟨qa, 4, none⟩ = some (.bool s.told) := cellAt ha 4
    have g4 : w.frozen? ⟨qa, 4, none⟩ = false := freeAt ha 4
    simp only [qP] at c0
    rw [hr] at hB
    simp only [Option.isSome] at hB
    go_enter Tryz.func167, Tryz.ntmps167
    go_wp2_with (go_at_call 19; refine hB.mono ?_; rintro e w' ⟨rfl, k, rfl⟩)
    go_ret
    exact Ret.of (rfl) (by repeat (first | exact Drew.refl _ | apply Drew.drewN | apply Drew.drew))

theorem hot_Over (d : Nat) (q : Option (Nat × Nat)) (pm : Option Nat) (s : SH) (w : World) (h : DeskAt w d q pm s) : Calls Tryz.prog 175 #[.pointer (some ⟨d, 0, none⟩)] w (Ret (.bool s.over) w) := by
  have hB := hot_Busy d q pm s w h
  obtain ⟨hd, hq, hp, nq, np, nn, ok⟩ := h
  have c0 : w.cell? ⟨d, 0, none⟩ = some (.pointer (qP q)) := cellAt hd 0
  have c1 : w.cell? ⟨d, 1, none⟩ = some (.map pm) := cellAt hd 1
  have f0 : w.frozen? ⟨d, 0, none⟩ = false := freeAt hd 0
  have f1 : w.frozen? ⟨d, 1, none⟩ = false := freeAt hd 1
  rcases q with _ | ⟨qa, qb⟩
  · simp only [qP] at c0
    simp only [ReqAt] at hq
    have hO : s.over = false := by simp [SH.over, hq]
    rw [hq] at hB
    rw [hO]
    simp only [Option.isSome] at hB
    clear hq hO
    go_enter Tryz.func175, Tryz.ntmps175
    go_wp2_with (go_at_call 19; refine hB.mono ?_; rintro e w' ⟨rfl, k, rfl⟩)
    go_ret
    exact Ret.of (rfl) (by repeat (first | exact Drew.refl _ | apply Drew.drewN | apply Drew.drew))
  · obtain ⟨r, hr, ha, hx, hab⟩ := hq
    have a0 : w.cell? ⟨qa, 0, none⟩ = some (.pointer (some ⟨qb, 0, none⟩)) := cellAt ha 0
    have a1 : w.cell? ⟨qa, 1, none⟩ = some (.bool s.up) := cellAt ha 1
    have a2 : w.cell? ⟨qa, 2, none⟩ = some (.int .i64 s.cpu) := cellAt ha 2
    have a3 : w.cell? ⟨qa, 3, none⟩ = some (.int .i64 s.by_) := cellAt ha 3
    have a4 : w.cell? ⟨qa, 4, none⟩ = some (.bool s.told) := cellAt ha 4
    have g4 : w.frozen? ⟨qa, 4, none⟩ = false := freeAt ha 4
    simp only [qP] at c0
    have hO : s.over = r.over := by simp [SH.over, hr]
    rw [hr] at hB
    rw [hO]
    simp only [Option.isSome] at hB
    clear hr hO
    go_enter Tryz.func175, Tryz.ntmps175
    go_wp2_with (first | (go_at_call 19; refine hB.mono ?_; rintro e w' ⟨rfl, k, rfl⟩) | (go_at_call 245; refine (At_any qb r _ (by exact hx.same rfl)).mono ?_; rintro e w' ⟨rfl, k2, rfl⟩))
    go_ret
    exact Ret.of (rfl) (by repeat (first | exact Drew.refl _ | apply Drew.drewN | apply Drew.drew))

theorem hot_may (d : Nat) (q : Option (Nat × Nat)) (pm : Option Nat) (s : SH) (w : World) (h : DeskAt w d q pm s) : Calls Tryz.prog 244 #[.pointer (some ⟨d, 0, none⟩)] w (Ret (.int .i64 s.mayE) w) := by
  have hB := hot_Over d q pm s w h
  obtain ⟨hd, hq, hp, nq, np, nn, ok⟩ := h
  have c0 : w.cell? ⟨d, 0, none⟩ = some (.pointer (qP q)) := cellAt hd 0
  have c1 : w.cell? ⟨d, 1, none⟩ = some (.map pm) := cellAt hd 1
  have f0 : w.frozen? ⟨d, 0, none⟩ = false := freeAt hd 0
  have f1 : w.frozen? ⟨d, 1, none⟩ = false := freeAt hd 1
  rcases q with _ | ⟨qa, qb⟩
  · simp only [qP] at c0
    simp only [ReqAt] at hq
    have hO : s.mayE = 12 := by simp [SH.mayE, hq]
    rw [hO]
    clear hq hO
    go_enter Tryz.func244, Tryz.ntmps244
    go_wp2
    go_ret
    exact Ret.of (rfl) (by repeat (first | exact Drew.refl _ | apply Drew.drewN | apply Drew.drew))
  · obtain ⟨r, hr, ha, hx, hab⟩ := hq
    have a0 : w.cell? ⟨qa, 0, none⟩ = some (.pointer (some ⟨qb, 0, none⟩)) := cellAt ha 0
    have a1 : w.cell? ⟨qa, 1, none⟩ = some (.bool s.up) := cellAt ha 1
    have a2 : w.cell? ⟨qa, 2, none⟩ = some (.int .i64 s.cpu) := cellAt ha 2
    have a3 : w.cell? ⟨qa, 3, none⟩ = some (.int .i64 s.by_) := cellAt ha 3
    have a4 : w.cell? ⟨qa, 4, none⟩ = some (.bool s.told) := cellAt ha 4
    have g4 : w.frozen? ⟨qa, 4, none⟩ = false := freeAt ha 4
    simp only [qP] at c0
    have hO : s.over = r.over := by simp [SH.over, hr]
    have hM : s.mayE = if r.over then 6 else 0 := by simp [SH.mayE, hr]
    rw [hO] at hB
    rw [hM]
    clear hr hO hM
    cases ho : r.over
    all_goals
      rw [ho] at hB
      go_enter Tryz.func244, Tryz.ntmps244
      go_wp2_with (go_at_call 175; refine hB.mono ?_; rintro e w' ⟨rfl, k, rfl⟩)
      go_ret
      exact Ret.of (rfl) (by repeat (first | exact Drew.refl _ | apply Drew.drewN | apply Drew.drew))

theorem hot_core (c : Int) (w : World) : Calls Tryz.prog 228 #[.int .i64 c] w (Ret (.bool (decide (isCore c))) w) := by
  by_cases h0 : 0 ≤ c
  · by_cases h1 : c < 64
    · go_enter Tryz.func228, Tryz.ntmps228
      go_wp2
      go_ret
      exact Ret.of (by simp [isCore, h0, h1]) (by repeat (first | exact Drew.refl _ | apply Drew.drewN | apply Drew.drew))
    · go_enter Tryz.func228, Tryz.ntmps228
      go_wp2
      go_ret
      exact Ret.of (by simp [isCore, h0, h1]) (by repeat (first | exact Drew.refl _ | apply Drew.drewN | apply Drew.drew))
  · have hD : decide (isCore c) = false := decide_eq_false (fun x => h0 x.1)
    rw [hD]
    clear hD
    go_enter Tryz.func228, Tryz.ntmps228
    go_wp2
    go_ret
    exact Ret.of (rfl) (by repeat (first | exact Drew.refl _ | apply Drew.drewN | apply Drew.drew))
theorem eqMapSome (b : Nat) (w : World) : (binOp .eql 127 (.map (some b)) (.map none)).run Tryz.prog w = .ok (.bool false) w := by kernel_rfl
theorem eqMapNil (w : World) : (binOp .eql 127 (.map none) (.map none)).run Tryz.prog w = .ok (.bool true) w := by kernel_rfl

set_option maxRecDepth 100000 in
theorem hot_Plan (d : Nat) (q : Option (Nat × Nat)) (pm : Option Nat) (s : SH) (k : Int) (w : World) (h : DeskAt w d q pm s) : Calls Tryz.prog 232 #[.pointer (some ⟨d, 0, none⟩), .int .i64 k] w (DeskDo d q pm (.int .i64 (planE k)) (s.doPlan k) w) := by
  have hok := SH.doPlan_ok h.ok k
  have h' := h
  obtain ⟨hd, hq, hp, nq, np, nn, ok⟩ := h
  have c0 : w.cell? ⟨d, 0, none⟩ = some (.pointer (qP q)) := cellAt hd 0
  have c1 : w.cell? ⟨d, 1, none⟩ = some (.map pm) := cellAt hd 1
  have f0 : w.frozen? ⟨d, 0, none⟩ = false := freeAt hd 0
  have f1 : w.frozen? ⟨d, 1, none⟩ = false := freeAt hd 1
  by_cases hk : 0 ≤ k ∧ k < 10
  · obtain ⟨hk1, hk2⟩ := hk
    have hE : planE k = 0 := if_pos ⟨hk1, hk2⟩
    rw [hE]
    clear hE
    cases pm with
    | none =>
      simp only [PlanAt] at hp
      have hD : s.doPlan k = { s with plan := [k] } := by simp [SH.doPlan, hk1, hk2, hp]
      rw [hD] at hok ⊢
      clear hD
      have hl := h'.lt
      have hsz : (w.setCell ⟨d, 1, none⟩ (.map (some w.heap.size))).heap.size = w.heap.size := sizeSet _ _ _
      have m0 := ((Mod.refl [d] w).setCell (p := ⟨d, 1, none⟩) (by simp) (.map (some w.heap.size))).alloc (.map #[] 0)
      obtain ⟨w1, hrun, m1, x1⟩ := map_update (m := []) (b := w.heap.size) (w := (w.setCell ⟨d, 1, none⟩ (.map (some w.heap.size))).alloc (.map #[] 0)) (by
        have := MapAt.new .i64 (w.setCell ⟨d, 1, none⟩ (.map (some w.heap.size)))
        rw [hsz] at this
        exact this) Tryz.underlying127 Tryz.underlying3 k (.bool true)
      clear hsz
      have hq' : DeskAt w1 d q (some w.heap.size) { s with plan := [k] } := by
        have := hl d (by simp)
        refine ⟨?_, ?_, x1, nq, by simp [pF]; omega, ?_, hok⟩
        · refine m1.keep ?_ (by simp; omega)
          refine heapOld ?_
          rw [heapSet hd]; simp
        · refine ((hq.keep m0 ?_).keep m1 ?_).plan _
          · intro k hk; simp; rintro rfl; exact nq hk
          · intro k hk; have := hl k (by simp [hk]); simp; omega
        · intro k hk hk2
          simp [pF] at hk
          have := hl k (by simp [hk2]); omega
      have m2 := m0.trans m1 (by simp)
      clear x1 m0 m1
      have hE1 := eqMapNil
      have hmk := fun w => run_makeMap (P := Tryz.prog) 127 w
      go_enter Tryz.func232, Tryz.ntmps232
      go_wp2
      go_ret
      refine ⟨q, some w.heap.size, rfl, m2.mono (by simp), hq', ?_⟩
      intro k hk
      simp [pF] at hk ⊢
      rcases hk with hk | rfl
      · exact .inl hk
      · exact .inr (Nat.le_refl _)
    | some b =>
      simp only [PlanAt] at hp
      obtain ⟨w1, hrun, m1, x1⟩ := map_update hp Tryz.underlying127 Tryz.underlying3 k (.bool true)
      rw [planM_put] at x1
      have hD : s.doPlan k = { s with plan := if k ∈ s.plan then s.plan else s.plan ++ [k] } := by
        unfold SH.doPlan
        by_cases e : k ∈ s.plan
        · simp [hk1, hk2, e]
        · simp [hk1, hk2, e]
      rw [hD] at hok ⊢
      clear hD
      have hbd : b ≠ d := fun e => np (by simp [pF, e])
      have hq' : DeskAt w1 d q (some b) { s with plan := if k ∈ s.plan then s.plan else s.plan ++ [k] } := by
        refine ⟨m1.keep hd (by simp; exact Ne.symm hbd), (hq.keep m1 ?_).plan _, x1, nq, np, nn, hok⟩
        intro k hk
        simp only [List.mem_singleton]
        rintro rfl
        exact nn _ (by simp [pF]) hk
      clear x1 hp
      generalize (if k ∈ s.plan then s.plan else s.plan ++ [k]) = l at *
      have hE1 := eqMapSome b
      go_enter Tryz.func232, Tryz.ntmps232
      go_wp2
      go_ret
      exact ⟨q, some b, rfl, m1.mono (by simp [pF]), hq', fun k hk => .inl hk⟩
  · have hE : planE k = 3 := if_neg hk
    have hD : s.doPlan k = s := by
      unfold SH.doPlan
      rw [if_neg (fun x => hk ⟨x.1, x.2.1⟩)]
    rw [hE, hD]
    clear hE hD
    have hne : k < 0 ∨ (0 ≤ k ∧ 10 ≤ k) := by omega
    rcases hne with h1 | ⟨h1, h2⟩
    all_goals
      go_enter Tryz.func232, Tryz.ntmps232
      go_wp2
      go_ret
      exact ⟨q, pm, rfl, Mod.refl _ _, h', fun k hk => .inl hk⟩

end Go.Proofs.YtaakgpnmfkmdoaaGreatDoor

/- A queue of numbers (package fifo) in memory; the walks over New, Len, at, Front, Pop. No condition but those named. -/
namespace Go.Proofs.YtaakgpnmfkmdoaaGreatDoor
set_option linter.unusedVariables false
set_option linter.unusedSimpArgs false
open Go.RowKit

def fifoObj (r m f n : Nat) : Obj := .cells #[.slice (some ⟨r, 0, none⟩) m m, .int .i64 (f : Nat), .int .i64 (n : Nat)] 260 (0,0)
def ringObj (R : List Int) : Obj := .cells (rowI .i64 R) 3 (0,0)
/-- The numbers are such as ints can be. -/
def qOk (m : Nat) (l : List Int) : Prop := 1 ≤ m ∧ m ≤ 1024
def fifoL (b r m f : Nat) (R : List Int) (l : List Int) : List Res := [Res.blk b (fifoObj r m f l.length), Res.blk r (ringObj R)]
def fifoR (b m : Nat) (l : List Int) : Res := Res.ex fun x : Nat × Nat × List Int => Res.such (qOk m l ∧ Ring x.2.2 m x.2.1 l) (Res.star (fifoL b x.1 m x.2.1 x.2.2 l))
def frontV (l : List Int) : Int := nth l 0
def frontE (l : List Int) : Int := if l = [] then 12 else 0
section
variable {F : List Nat} {w u : World} {b r m f : Nat} {R l : List Int}
theorem fifo_view (h : (fifoR b m l).holds F w) : ∃ r f R, qOk m l ∧ Ring R m f l ∧ On F w (fifoL b r m f R l) w := by
  obtain ⟨⟨r, f, R⟩, ⟨h1, h2⟩, h3⟩ := h
  exact ⟨r, f, R, h1, h2, On.of h3⟩
theorem On.fifo (h : On F w (fifoL b r m f R l) u) (hq : qOk m l) (hr : Ring R m f l) : Gain (fifoR b m l) F w u := h.gains.imp fun F' h' => ⟨⟨r, f, R⟩, ⟨hq, hr⟩, h'⟩
theorem fifo_New (m : Nat) (h1 : 1 ≤ m) (h2 : m ≤ 1024) (w : World) : Calls Tryz.prog 94 #[.int .i64 m] w (TurnsV (fun d : Nat => .tuple #[.pointer (some ⟨d, 0, none⟩), .int .i64 0]) (fun d => fifoR d m []) [] w) := by
  have hmk := fun w => Go.run_make_row' (P := Tryz.prog) 143 3 (.int .i64 0) 8 Tryz.underlying143 (by kernel_rfl) rfl .i64 .i64 m (by omega) (by omega) w
  have hlen : (w.alloc (.cells (madeCells #[Value.int .i64 0] m) 3)).heap.size = w.heap.size + 1 := sizeNew _ _
  go_enter Tryz.func94, Tryz.ntmps94
  go_wp2
  go_ret2
  refine ⟨w.heap.size + 1, by simp, ?_⟩
  have x1 := (On.start w).alloc (ringObj (List.replicate m 0))
  have x2 := (x1.alloc (fifoObj w.heap.size m 0 0)).front
  have e : (w.alloc (ringObj (List.replicate m 0))).heap.size = w.heap.size + 1 := sizeNew _ _
  rw [e] at x2
  rw [rowI_made]
  exact On.fifo (R := List.replicate m 0) (f := 0) x2 ⟨h1, h2⟩ ⟨by simp, by omega, by simp, fun i hi => by simp at hi⟩
theorem fifo_Len (h : (fifoR b m l).holds F w) : Calls Tryz.prog 337 #[.pointer (some ⟨b, 0, none⟩)] w (Ret (.int .i64 l.length) w) := by
  obtain ⟨r, f, R, hq, hr, hA⟩ := fifo_view h
  have c2 : w.cell? ⟨b, 2, none⟩ = some (.int .i64 (l.length : Nat)) := hA.cell 0 rfl 2
  generalize l.length = n at *
  go_enter Tryz.func337, Tryz.ntmps337
  go_wp2
  go_ret
  exact Ret.of (rfl) (by repeat (first | exact Drew.refl _ | apply Drew.drewN | apply Drew.drew))
theorem fifo_at (hq : qOk m l) (hr : Ring R m f l) (hA : On F w (fifoL b r m f R l) u) (i : Nat) (hi : i ≤ m) : Calls Tryz.prog 219 #[.pointer (some ⟨b, 0, none⟩), .int .i64 i] u (Ret (.int .i64 ((f + i) % m : Nat)) u) := by
  have c0 : u.cell? ⟨b, 0, none⟩ = some (.slice (some ⟨r, 0, none⟩) m m) := hA.cell 0 rfl 0
  have c1 : u.cell? ⟨b, 1, none⟩ = some (.int .i64 (f : Nat)) := hA.cell 0 rfl 1
  have hf := hr.first
  obtain ⟨h1, h2⟩ := hq
  clear hA hr
  have hm0 : (m : Int) ≠ 0 := by omega
  have hm1 : (0 : Int) < m := by omega
  go_enter Tryz.func219, Tryz.ntmps219
  go_wp2
  go_quiet (fail)
  go_wp2
  go_ret
  refine ⟨?_, by repeat (first | exact Drew.refl _ | apply Drew.drewN | apply Drew.drew)⟩
  show Ending.returned (Value.int .i64 (((f : Int) + i) % m)) = _
  simp
theorem fifo_Front (h : (fifoR b m l).holds F w) : Calls Tryz.prog 258 #[.pointer (some ⟨b, 0, none⟩)] w (Ret (.tuple #[.int .i64 (frontV l), .int .i64 (frontE l)]) w) := by
  obtain ⟨r, f, R, hq, hr, hA⟩ := fifo_view h
  have c0 : w.cell? ⟨b, 0, none⟩ = some (.slice (some ⟨r, 0, none⟩) m m) := hA.cell 0 rfl 0
  have c1 : w.cell? ⟨b, 1, none⟩ = some (.int .i64 (f : Nat)) := hA.cell 0 rfl 1
  have c2 : w.cell? ⟨b, 2, none⟩ = some (.int .i64 (l.length : Nat)) := hA.cell 0 rfl 2
  have hf := hr.first
  obtain ⟨h1, h2⟩ := hq
  by_cases hl : l = []
  · subst hl
    clear hA
    rw [show frontE [] = 12 from rfl, show frontV [] = 0 from rfl]
    simp only [List.length_nil] at c2
    go_enter Tryz.func258, Tryz.ntmps258
    go_wp2
    go_ret2
    exact Ret.of (rfl) (by repeat (first | exact Drew.refl _ | apply Drew.drewN | apply Drew.drew))
  · have hlen : 0 < l.length := List.length_pos_iff.2 hl
    have d0 : w.cell? ⟨r, f, none⟩ = some (.int .i64 (nth R f)) := by
      rw [hA.cell 1 rfl f]; exact rowI_get (by rw [hr.len]; exact hf)
    rw [hr.front hl] at d0
    rw [show frontE l = 0 from if_neg hl]
    unfold frontV
    have hne : ((l.length : Int) == 0) = false := by simp; omega
    generalize nth l 0 = x at *
    generalize l.length = n at *
    clear hA hr
    go_enter Tryz.func258, Tryz.ntmps258
    go_wp2
    go_quiet (fail)
    go_wp2
    go_ret2
    exact Ret.of (rfl) (by repeat (first | exact Drew.refl _ | apply Drew.drewN | apply Drew.drew))
end
end Go.Proofs.YtaakgpnmfkmdoaaGreatDoor

/- The walks over the queue of numbers: List, Has. No condition but those named. -/
namespace Go.Proofs.YtaakgpnmfkmdoaaGreatDoor
set_option linter.unusedVariables false
set_option linter.unusedSimpArgs false
open Go.RowKit

theorem copyInts (w : World) (g o dl dc r f sl sc n : Nat) (D R : List Int) (hg : w.heap[g]? = some (ringObj D)) (hr : w.heap[r]? = some (ringObj R)) (hn : n = Nat.min sl dl) (hf : f + n ≤ R.length) (ho : o + n ≤ D.length) :
    (Builtin.copy_ #[143, 143] 3 #[.slice (some ⟨g, o, none⟩) dl dc, .slice (some ⟨r, f, none⟩) sl sc]).run Tryz.prog w = .ok (.int .i64 n) (w.setRow g (rowI .i64 (D.take o ++ (R.drop f).take n ++ D.drop (o + n)))) := by
  have hlen : (((R.drop f).take n).map (Value.int .i64)).length = n := by simp; omega
  have h := run_copy_row (P := Tryz.prog) w 143 143 3 3 g o dl dc ⟨r, f, none⟩ sl sc (rowI .i64 D) 3 (((R.drop f).take n).map (Value.int .i64))
    Tryz.underlying143 (by kernel_rfl) hg (by rw [hlen]; exact hn) ?_ (by rw [hlen, rowI_size]; exact ho) ?_
  · rw [h, hlen]
    have e : ((rowI .i64 D).toList.take o ++ ((R.drop f).take n).map (Value.int .i64) ++ (rowI .i64 D).toList.drop (o + n)).toArray = rowI .i64 (D.take o ++ (R.drop f).take n ++ D.drop (o + n)) := by
      simp [rowI, List.map_take, List.map_drop]
    rw [e]
    simp [goInt]
  · intro j v hj
    have hlt : j < n := by have := (List.getElem?_eq_some_iff.1 hj).1; omega
    have := cellAt hr (f + j)
    rw [rowI_get (by omega)] at this
    rw [List.getElem?_map, List.getElem?_take, if_pos hlt, List.getElem?_drop] at hj
    have e : R[f + j]? = some (nth R (f + j)) := by
      simp [nth, List.getD, List.getElem?_eq_getElem (show f + j < R.length by omega)]
    rw [e] at hj
    simp at hj
    subst hj
    unfold Addr.add
    split
    · rename_i e; subst e; simpa using this
    · simpa using this
  · intro v hv; obtain ⟨x, _, rfl⟩ := List.mem_map.1 hv; rfl
section
variable {F : List Nat} {w u : World} {b r m f : Nat} {R l : List Int}
set_option maxRecDepth 100000 in
theorem fifo_List (h : (fifoR b m l).holds F w) : Calls Tryz.prog 239 #[.pointer (some ⟨b, 0, none⟩)] w (fun e w' => ∃ a c, e = .returned (.slice a l.length c) ∧ Mod [] w w' ∧ (l = [] ∧ a = none ∧ c = 0 ∨ c = l.length ∧ a = some ⟨w.heap.size, 0, none⟩ ∧ w'.heap[w.heap.size]? = some (ringObj l))) := by
  obtain ⟨r, f, R, hq, hr, hA⟩ := fifo_view h
  have c0 : w.cell? ⟨b, 0, none⟩ = some (.slice (some ⟨r, 0, none⟩) m m) := hA.cell 0 rfl 0
  have c1 : w.cell? ⟨b, 1, none⟩ = some (.int .i64 (f : Nat)) := hA.cell 0 rfl 1
  have c2 : w.cell? ⟨b, 2, none⟩ = some (.int .i64 (l.length : Nat)) := hA.cell 0 rfl 2
  have hf := hr.first
  have hfit := hr.fits
  obtain ⟨h1, h2⟩ := hq
  by_cases hl : l = []
  · subst hl
    clear hA
    simp only [List.length_nil] at c2
    go_enter Tryz.func239, Tryz.ntmps239
    go_wp2
    go_ret
    exact ⟨none, 0, rfl, by first | exact Mod.refl _ _ | exact (Mod.refl _ _).drewN _, .inl (by simp)⟩
  · have hlen : 0 < l.length := List.length_pos_iff.2 hl
    have hne : ((l.length : Int) == 0) = false := by simp; omega
    have hmk := fun w => Go.run_make_row' (P := Tryz.prog) 143 3 (.int .i64 0) 8 Tryz.underlying143 (by kernel_rfl) rfl .i64 .i64 l.length (by omega) (by omega) w
    have q0 := cellNew (.cells (madeCells #[.int .i64 0] l.length) 3 (0,0)) c0
    have q1 := cellNew (.cells (madeCells #[.int .i64 0] l.length) 3 (0,0)) c1
    have htwo := hr.two
    have hR := hr.len
    have hrr : w.heap[r]? = some (ringObj R) := hA.held 1 rfl
    obtain ⟨n, hn⟩ : ∃ n, l.length = n := ⟨_, rfl⟩
    rw [hn] at c2 hfit hlen hne hmk q0 q1 htwo ⊢
    have hmf : ¬ m = f := by omega
    have hfm : (f : Int) ≤ m := by omega
    have m0 : Mod [] w (w.alloc (.cells (madeCells #[.int .i64 0] n) 3 (0,0))).drew := ((Mod.refl [] w).alloc _).drew
    have g0 : (w.alloc (.cells (madeCells #[.int .i64 0] n) 3 (0,0))).drew.heap[w.heap.size]? = some (ringObj (List.replicate n 0)) := by
      show (w.alloc _).heap[w.heap.size]? = _
      rw [heapNew, rowI_made]; rfl
    have k0 := m0.keep hrr (by simp)
    clear hA
    replace hrr := Lib.hid hrr
    by_cases hs : n ≤ m - f
    · have hC := copyInts _ w.heap.size 0 n n r f (m - f) (m - f) n (List.replicate n 0) R g0 k0 (Nat.min_eq_right hs).symm (by omega) (by simp)
      have e1 : List.take 0 (List.replicate n 0) ++ List.take n (List.drop f R) ++ List.drop (0 + n) (List.replicate n 0) = l := by
        rw [htwo, show n - (m - f) = 0 by omega]; simp
      rw [e1] at hC
      have m1 := m0.setRow (g := w.heap.size) (.inr (Nat.le_refl _)) (rowI .i64 l)
      have g1 : (((w.alloc (.cells (madeCells #[.int .i64 0] n) 3 (0,0))).drew).setRow w.heap.size (rowI .i64 l)).heap[w.heap.size]? = some (ringObj l) := setRow_heap _ _ _ _ _ _ (by rw [g0]; rfl)
      have p0 := m1.at c0 (by simp)
      have p1 := m1.at c1 (by simp)
      have hC2 := copyInts (((w.alloc (.cells (madeCells #[.int .i64 0] n) 3 (0,0))).drew).setRow w.heap.size (rowI .i64 l)).drew w.heap.size 0 0 0 r 0 m m 0 l R g1 (m1.keep hrr.out (by have := ltOf hrr.out; simp)) (by simp) (by omega) (by omega)
      have e2 : List.take 0 l ++ List.take 0 (List.drop 0 R) ++ List.drop (0 + 0) l = l := by simp
      rw [e2] at hC2
      have M2 := Lib.hid ((m1.drew).setRow (g := w.heap.size) (.inr (Nat.le_refl _)) (rowI .i64 l))
      have g2 := Lib.hid (setRow_heap _ _ _ (rowI .i64 l) _ _ (show (((w.alloc (.cells (madeCells #[.int .i64 0] n) 3 (0,0))).drew).setRow w.heap.size (rowI .i64 l)).drew.heap[w.heap.size]? = _ from g1))
      replace htwo := Lib.hid htwo
      replace hn := Lib.hid hn
      clear g0 k0 m0 m1 e1 e2 g1
      go_enter Tryz.func239, Tryz.ntmps239
      go_wp2
      go_region
      go_wp2
      go_region
      go_wp2
      go_ret
      exact ⟨some ⟨w.heap.size, 0, none⟩, n, rfl, M2.out, .inr ⟨rfl, rfl, g2.out⟩⟩
    · obtain ⟨n1, hn1⟩ : ∃ n1, m - f = n1 := ⟨_, rfl⟩
      have hRl : (List.drop f R).length = n1 := by rw [List.length_drop]; omega
      have hC := copyInts _ w.heap.size 0 n n r f n1 n1 n1 (List.replicate n 0) R g0 k0 (Nat.min_eq_left (by omega)).symm (by omega) (by simp; omega)
      obtain ⟨D, hD⟩ : ∃ D, D = List.take 0 (List.replicate n 0) ++ List.take n1 (List.drop f R) ++ List.drop (0 + n1) (List.replicate n (0 : Int)) := ⟨_, rfl⟩
      rw [← hD] at hC
      have hDl : D.length = n := by rw [hD]; simp; omega
      have hT1 : List.take n1 (List.drop f R) = List.drop f R := List.take_of_length_le (by omega)
      have hDt : D.take n1 = List.drop f R := by rw [hD, hT1, List.take_zero, List.nil_append, List.take_append_of_le_length (by omega)]; exact List.take_of_length_le (by omega)
      have m1 := m0.setRow (g := w.heap.size) (.inr (Nat.le_refl _)) (rowI .i64 D)
      have g1 : (((w.alloc (.cells (madeCells #[.int .i64 0] n) 3 (0,0))).drew).setRow w.heap.size (rowI .i64 D)).heap[w.heap.size]? = some (ringObj D) := setRow_heap _ _ _ _ _ _ (by rw [g0]; rfl)
      have p0 := m1.at c0 (by simp)
      have hC2 := copyInts (((w.alloc (.cells (madeCells #[.int .i64 0] n) 3 (0,0))).drew).setRow w.heap.size (rowI .i64 D)).drew w.heap.size n1 (n - n1) (n - n1) r 0 m m (n - n1) D R g1 (m1.keep hrr.out (by have := ltOf hrr.out; simp)) (Nat.min_eq_right (by omega)).symm (by omega) (by omega)
      have e2 : List.take n1 D ++ List.take (n - n1) (List.drop 0 R) ++ List.drop (n1 + (n - n1)) D = l := by
        have e3 : List.drop (n1 + (n - n1)) D = [] := List.drop_eq_nil_of_le (by omega)
        have e4 : List.take n (List.drop f R) = List.drop f R := List.take_of_length_le (by omega)
        rw [e3, hDt, htwo, hn1, e4]; simp
      rw [e2] at hC2
      have M2 := Lib.hid ((m1.drew).setRow (g := w.heap.size) (.inr (Nat.le_refl _)) (rowI .i64 l))
      have g2 := Lib.hid (setRow_heap _ _ _ (rowI .i64 l) _ _ (show (((w.alloc (.cells (madeCells #[.int .i64 0] n) 3 (0,0))).drew).setRow w.heap.size (rowI .i64 D)).drew.heap[w.heap.size]? = _ from g1))
      replace htwo := Lib.hid htwo
      replace hn := Lib.hid hn
      have hnn : ¬ n = n1 := by omega
      have hnn2 : (n1 : Int) ≤ n := by omega
      clear g0 k0 m0 m1 e2 g1 hD hDl hDt hRl hT1
      subst hn1
      go_enter Tryz.func239, Tryz.ntmps239
      go_wp2
      go_region
      go_wp2
      go_region
      go_wp2
      go_ret
      exact ⟨some ⟨w.heap.size, 0, none⟩, n, rfl, M2.out, .inr ⟨rfl, rfl, g2.out⟩⟩
end
end Go.Proofs.YtaakgpnmfkmdoaaGreatDoor

/- The walks over slices.Index and slices.Contains at ints, and over the queue's Has and Push. No condition but those named. -/
namespace Go.Proofs.YtaakgpnmfkmdoaaGreatDoor
set_option linter.unusedVariables false
set_option linter.unusedSimpArgs false
open Go.RowKit

def IsIdx (l : List Int) (x k : Int) : Prop := (k = -1 ∧ ∀ i, i < l.length → nth l i ≠ x) ∨ ∃ j : Nat, k = j ∧ j < l.length ∧ nth l j = x ∧ ∀ i, i < j → nth l i ≠ x
theorem nth_mem_iff {l : List Int} {x : Int} : x ∈ l ↔ ∃ i, i < l.length ∧ nth l i = x := by
  rw [List.mem_iff_getElem]
  constructor
  · rintro ⟨i, h, e⟩; exact ⟨i, h, by simp [nth, List.getD, List.getElem?_eq_getElem h, e]⟩
  · rintro ⟨i, h, e⟩; exact ⟨i, h, by simpa [nth, List.getD, List.getElem?_eq_getElem h] using e⟩
theorem IsIdx.mem {l : List Int} {x k : Int} (h : IsIdx l x k) : decide (0 ≤ k) = decide (x ∈ l) := by
  rcases h with ⟨rfl, h⟩ | ⟨j, rfl, h1, h2, h3⟩
  · have : x ∉ l := fun hm => by obtain ⟨i, hi, e⟩ := nth_mem_iff.1 hm; exact h i hi e
    simp [this]
  · have : x ∈ l := nth_mem_iff.2 ⟨j, h1, h2⟩
    simp [this]
/-- The slice a holds l. -/
def SlAt (w : World) (a : Option Addr) (l : List Int) : Prop := l = [] ∨ ∃ g, a = some ⟨g, 0, none⟩ ∧ ∀ j, j < l.length → w.cell? ⟨g, j, none⟩ = some (.int .i64 (nth l j))
theorem index_any (a : Option Addr) (cap : Nat) (l : List Int) (x : Int) (w : World) (h : SlAt w a l) (hm : l.length < 1000000) : Calls Tryz.prog 316 #[.slice a l.length cap, .int .i64 x] w (fun e w' => ∃ k, e = .returned (.int .i64 k) ∧ Drew w w' ∧ IsIdx l x k) := by
  obtain ⟨n, hn⟩ : ∃ n, l.length = n := ⟨_, rfl⟩
  rw [hn] at hm ⊢
  go_enter Tryz.func316, Tryz.ntmps316
  go_wp2
  go_loopg [8] n (fun gg i wr => ∃ (j : Nat), i = .int .i64 j ∧ j + gg = n ∧ wr = w ∧ ∀ i, i < j → nth l i ≠ x)
  case atStart => exact ⟨0, rfl, by omega, rfl, by omega⟩
  case round =>
    obtain ⟨j, rfl, hj, rfl, hne⟩ := hrel
    by_cases hlt : j < n
    · have hltI : (j : Int) < n := by omega
      have hs : ∃ g, a = some ⟨g, 0, none⟩ ∧ ∀ j, j < l.length → wr.cell? ⟨g, j, none⟩ = some (.int .i64 (nth l j)) := by
        rcases h with h | h
        · rw [h] at hn; simp at hn; omega
        · exact h
      obtain ⟨g, rfl, hc⟩ := hs
      have cj := hc j (by omega)
      by_cases e : nth l j = x
      · have hI := Lib.hid (show IsIdx l x (j : Int) from .inr ⟨j, rfl, by omega, e, hne⟩)
        rw [e] at cj
        clear hc h e hne
        go_wp2
        go_ret
        exact ⟨j, rfl, by repeat (first | exact Drew.refl _ | apply Drew.drewN | apply Drew.drew), hI.out⟩
      · have hI := Lib.hid (show ∀ i, i < j + 1 → nth l i ≠ x from fun i hi => by
          rcases Nat.lt_or_ge i j with h1 | h1
          · exact hne i h1
          · rw [show i = j by omega]; exact e)
        have e2 : (x == nth l j) = false := by simp; exact fun h => e h.symm
        generalize nth l j = y at *
        clear hc h hne
        go_wp2
        go_roundg (gk - 1)
        case measure => omega
        case rel => exact ⟨j + 1, by go_num, by omega, rfl, hI.out⟩
    · have hltI : ¬ (j : Int) < n := by omega
      obtain rfl : j = n := by omega
      have hI := Lib.hid (show IsIdx l x (-1) from .inl ⟨rfl, fun i hi => hne i (by omega)⟩)
      clear h hne
      go_wp2
      go_ret
      exact ⟨-1, rfl, by repeat (first | exact Drew.refl _ | apply Drew.drewN | apply Drew.drew), hI.out⟩
theorem contains_any (a : Option Addr) (cap : Nat) (l : List Int) (x : Int) (w : World) (h : SlAt w a l) (hm : l.length < 1000000) : Calls Tryz.prog 276 #[.slice a l.length cap, .int .i64 x] w (Ret (.bool (decide (x ∈ l))) w) := by
  have hI := index_any a cap l x w h hm
  generalize l.length = n at *
  go_enter Tryz.func276, Tryz.ntmps276
  go_wp2_with (go_at_call 316; refine hI.mono ?_; rintro e w' ⟨k, rfl, hD, hk⟩; have hK := Lib.hid hk.mem; clear hk)
  go_ret
  refine ⟨?_, hD⟩
  rw [← hK.out]
  simp
section
variable {F : List Nat} {w u : World} {b r m f : Nat} {R l : List Int}
theorem fifo_Has (h : (fifoR b m l).holds F w) (x : Int) : Calls Tryz.prog 218 #[.pointer (some ⟨b, 0, none⟩), .int .i64 x] w (Nothing (.bool (decide (x ∈ l))) w) := by
  have hL := fifo_List h
  have hlen : l.length < 1000000 := by obtain ⟨r, f, R, hq, hr, _⟩ := fifo_view h; have := hr.fits; have := hq.2; omega
  go_enter Tryz.func218, Tryz.ntmps218
  go_wp2_with (first
    | (
      go_at_call 239
      refine hL.mono ?_
      rintro e w1 ⟨a, c, rfl, m1, hs⟩
      have hS : SlAt w1 a l := by
        rcases hs with ⟨h1, _⟩ | ⟨_, h2, h3⟩
        · exact .inl h1
        · exact .inr ⟨_, h2, fun j hj => by rw [cellAt h3 j]; exact rowI_get hj⟩
      have hC := contains_any a c l x w1 hS hlen
      have HM := Lib.hid m1
      clear hs hS m1
      )
    | (
      go_at_call 276
      refine hC.mono ?_
      rintro e w2 ⟨rfl, k, rfl⟩
      ))
  go_ret
  exact ⟨rfl, HM.out.drewN _⟩
end
end Go.Proofs.YtaakgpnmfkmdoaaGreatDoor

/- The walks over package hot's methods that turn a desk: Begin, Next, Done, End; and a desk that is not there. -/
namespace Go.Proofs.YtaakgpnmfkmdoaaGreatDoor
set_option linter.unusedVariables false
set_option linter.unusedSimpArgs false
open Go.RowKit

theorem heapNew' {u : World} {n : Nat} {o : Obj} (h : u.heap.size = n) : (u.alloc o).heap[n]? = some o := h ▸ heapNew u o



set_option maxRecDepth 100000 in
set_option maxHeartbeats 400000 in
theorem hot_Begin (d : Nat) (q : Option (Nat × Nat)) (pm : Option Nat) (s : SH) (up : Bool) (cpu by_ : Int) (w : World) (h : DeskAt w d q pm s) : Calls Tryz.prog 144 #[.pointer (some ⟨d, 0, none⟩), .bool up, .int .i64 cpu, .int .i64 by_] w (DeskDo d q pm (.int .i64 (s.beginE cpu by_)) (s.begin_ up cpu by_) w) := by
  have hok := SH.begin_ok h.ok up cpu by_
  have h' := h
  obtain ⟨hd, hq, hp, nq, np, nn, ok⟩ := h
  have c0 : w.cell? ⟨d, 0, none⟩ = some (.pointer (qP q)) := cellAt hd 0
  have c1 : w.cell? ⟨d, 1, none⟩ = some (.map pm) := cellAt hd 1
  have f0 : w.frozen? ⟨d, 0, none⟩ = false := freeAt hd 0
  have f1 : w.frozen? ⟨d, 1, none⟩ = false := freeAt hd 1
  rcases q with _ | ⟨qa, qb⟩
  · simp only [qP] at c0
    simp only [ReqAt] at hq
    by_cases e1 : isCore cpu
    · by_cases e2 : isCore by_
      · by_cases e3 : cpu = by_
        · have hE : s.beginE cpu by_ = 2 := by simp [SH.beginE, hq, e1, e2, e3]
          have hS : s.begin_ up cpu by_ = s := by simp [SH.begin_, hE]
          rw [hE, hS]
          have e3' : (cpu == by_) = true := by simpa using e3
          have hC1 := decide_eq_true e1
          have hC2 := decide_eq_true e2
          clear hE hS e1 e2 e3 hq
          go_enter Tryz.func144, Tryz.ntmps144
          go_wp2_with (go_at_call 228; refine (hot_core _ _).mono ?_; rintro e w' ⟨rfl, k1, rfl⟩)
          go_ret
          exact ⟨none, pm, rfl, (Mod.refl _ _).drewN _, h'.same rfl, fun k hk => .inl hk⟩
        · have hE : s.beginE cpu by_ = 0 := by simp [SH.beginE, hq, e1, e2, e3]
          have hS : s.begin_ up cpu by_ = { s with run := some ⟨if up then 4 else 10, 0, false⟩, up := up, cpu := cpu, by_ := by_, told := false } := by simp [SH.begin_, hE]
          rw [hE, hS]
          rw [hS] at hok
          have e3' : (cpu == by_) = false := by simpa using e3
          have hC1 := decide_eq_true e1
          have hC2 := decide_eq_true e2
          clear hE hS e1 e2 e3 hq
          have hl := h'.lt
          cases up
          · simp only [Bool.false_eq_true, if_false, if_true] at hok ⊢
            have hld := hl d (by simp)
            go_enter Tryz.func144, Tryz.ntmps144
            go_wp2_with (first | (go_at_call 228; refine (hot_core _ _).mono ?_; rintro e w' ⟨rfl, k1, rfl⟩) | (go_at_call 229; refine (New_ok 10 _ (by omega) (by omega)).mono ?_; rintro e w1 ⟨rfl, m1, hs1, x1⟩; have hd1 := m1.keep (w := w.drewN _) hd (by simp); have ff := freeAt hd1 0; have hd2 := ltOf hd1; have fc : w1.cell? ⟨d, 0, none⟩ = some (.pointer none) := cellAt hd1 0))
            go_ret
            have m1' := m1.undrewN
            have hs2 : w.heap.size < w1.heap.size := hs1
            have hlp : ∀ k, k ∈ pF pm → k < w.heap.size ∧ k ≠ d := fun k hk => ⟨hl k (by simp [hk]), fun e => np (e ▸ hk)⟩
            have m2 : ∀ o v, Mod [d] w1 ((w1.setCell ⟨d, 0, none⟩ v).alloc o) := fun o v => ((Mod.refl _ _).setCell (by simp) _).alloc _
            refine ⟨some (w1.heap.size, w.heap.size), pm, rfl, ?_, ⟨?_, ?_, ?_, ?_, np, ?_, hok⟩, ?_⟩
            · exact ((m1'.mono (by simp)).setCell (by simp) _).alloc _
            · refine heapOld ?_; rw [heapSet hd1]; simp [qP]
            · refine ⟨_, rfl, ?_, ?_, by omega⟩
              · exact heapNew' (sizeSet _ _ _)
              · exact x1.keep (m2 _ _) (by simp; omega)
            · exact (hp.keep m1' (by simp)).keep (m2 _ _) (fun k hk => by simp; exact (hlp k hk).2)
            · simp [qF]; omega
            · intro k hk
              have := hlp k hk
              simp [qF]; omega
            · intro k hk
              simp [qF] at hk ⊢
              rcases hk with rfl | rfl | hk
              · exact .inr (by omega)
              · exact .inr (by omega)
              · exact .inl hk
          · simp only [Bool.false_eq_true, if_false, if_true] at hok ⊢
            have hld := hl d (by simp)
            go_enter Tryz.func144, Tryz.ntmps144
            go_wp2_with (first | (go_at_call 228; refine (hot_core _ _).mono ?_; rintro e w' ⟨rfl, k1, rfl⟩) | (go_at_call 229; refine (New_ok 4 _ (by omega) (by omega)).mono ?_; rintro e w1 ⟨rfl, m1, hs1, x1⟩; have hd1 := m1.keep (w := w.drewN _) hd (by simp); have ff := freeAt hd1 0; have hd2 := ltOf hd1; have fc : w1.cell? ⟨d, 0, none⟩ = some (.pointer none) := cellAt hd1 0))
            go_ret
            have m1' := m1.undrewN
            have hs2 : w.heap.size < w1.heap.size := hs1
            have hlp : ∀ k, k ∈ pF pm → k < w.heap.size ∧ k ≠ d := fun k hk => ⟨hl k (by simp [hk]), fun e => np (e ▸ hk)⟩
            have m2 : ∀ o v, Mod [d] w1 ((w1.setCell ⟨d, 0, none⟩ v).alloc o) := fun o v => ((Mod.refl _ _).setCell (by simp) _).alloc _
            refine ⟨some (w1.heap.size, w.heap.size), pm, rfl, ?_, ⟨?_, ?_, ?_, ?_, np, ?_, hok⟩, ?_⟩
            · exact ((m1'.mono (by simp)).setCell (by simp) _).alloc _
            · refine heapOld ?_; rw [heapSet hd1]; simp [qP]
            · refine ⟨_, rfl, ?_, ?_, by omega⟩
              · exact heapNew' (sizeSet _ _ _)
              · exact x1.keep (m2 _ _) (by simp; omega)
            · exact (hp.keep m1' (by simp)).keep (m2 _ _) (fun k hk => by simp; exact (hlp k hk).2)
            · simp [qF]; omega
            · intro k hk
              have := hlp k hk
              simp [qF]; omega
            · intro k hk
              simp [qF] at hk ⊢
              rcases hk with rfl | rfl | hk
              · exact .inr (by omega)
              · exact .inr (by omega)
              · exact .inl hk
      · have hE : s.beginE cpu by_ = 3 := by simp [SH.beginE, hq, e2]
        have hS : s.begin_ up cpu by_ = s := by simp [SH.begin_, hE]
        rw [hE, hS]
        have hC1 := decide_eq_true e1
        have hC2 := decide_eq_false e2
        clear hE hS e1 e2 hq
        go_enter Tryz.func144, Tryz.ntmps144
        go_wp2_with (go_at_call 228; refine (hot_core _ _).mono ?_; rintro e w' ⟨rfl, k1, rfl⟩)
        go_ret
        exact ⟨none, pm, rfl, (Mod.refl _ _).drewN _, h'.same rfl, fun k hk => .inl hk⟩
    · have hE : s.beginE cpu by_ = 3 := by simp [SH.beginE, hq, e1]
      have hS : s.begin_ up cpu by_ = s := by simp [SH.begin_, hE]
      rw [hE, hS]
      have hC1 := decide_eq_false e1
      clear hE hS e1 hq
      go_enter Tryz.func144, Tryz.ntmps144
      go_wp2_with (go_at_call 228; refine (hot_core _ _).mono ?_; rintro e w' ⟨rfl, k1, rfl⟩)
      go_ret
      exact ⟨none, pm, rfl, (Mod.refl _ _).drewN _, h'.same rfl, fun k hk => .inl hk⟩
  · obtain ⟨r, hr, ha, hx, hab⟩ := hq
    have a0 : w.cell? ⟨qa, 0, none⟩ = some (.pointer (some ⟨qb, 0, none⟩)) := cellAt ha 0
    have a1 : w.cell? ⟨qa, 1, none⟩ = some (.bool s.up) := cellAt ha 1
    have a2 : w.cell? ⟨qa, 2, none⟩ = some (.int .i64 s.cpu) := cellAt ha 2
    have a3 : w.cell? ⟨qa, 3, none⟩ = some (.int .i64 s.by_) := cellAt ha 3
    have a4 : w.cell? ⟨qa, 4, none⟩ = some (.bool s.told) := cellAt ha 4
    have g4 : w.frozen? ⟨qa, 4, none⟩ = false := freeAt ha 4
    simp only [qP] at c0
    have hE : s.beginE cpu by_ = 7 := by simp [SH.beginE, hr]
    have hS : s.begin_ up cpu by_ = s := by simp [SH.begin_, hE]
    rw [hE, hS]
    clear hE hS hr
    go_enter Tryz.func144, Tryz.ntmps144
    go_wp2
    go_ret
    exact ⟨some (qa, qb), pm, rfl, Mod.refl _ _, h', fun k hk => .inl hk⟩

theorem erase_self {l : List Int} {k : Int} : (if k ∈ l then l.erase k else l) = l.erase k := by
  by_cases h : k ∈ l
  · simp [h]
  · simp [h, List.erase_of_not_mem h]

theorem plan_lookup {w : World} {pm : Option Nat} {l : List Int} (h : PlanAt w pm l) (k : Int) :
    (Instr.lookup 127 (.map pm) (.int .i64 k) false).run Tryz.prog w = .ok (.bool (decide (k ∈ l))) w := by
  have hz : ∀ w, (zeroValue 4).run Tryz.prog w = .ok (.bool false) w := fun w => by kernel_rfl
  cases pm with
  | none =>
    simp only [PlanAt] at h
    rw [map_lookup_nil Tryz.underlying127 Tryz.underlying3 k hz w, h]
    simp
  | some b =>
    rw [map_lookup h Tryz.underlying127 Tryz.underlying3 k hz, planM_get]

set_option maxRecDepth 100000 in
set_option maxHeartbeats 400000 in
theorem hot_Done (d : Nat) (q : Option (Nat × Nat)) (pm : Option Nat) (s : SH) (w : World) (h : DeskAt w d q pm s) : Calls Tryz.prog 174 #[.pointer (some ⟨d, 0, none⟩)] w (DeskDo d q pm (.int .i64 s.mayE) s.done w) := by
  have hok := SH.done_ok h.ok
  have h' := h
  have hM := hot_may d q pm s w h
  obtain ⟨hd, hq, hp, nq, np, nn, ok⟩ := h
  have c0 : w.cell? ⟨d, 0, none⟩ = some (.pointer (qP q)) := cellAt hd 0
  have c1 : w.cell? ⟨d, 1, none⟩ = some (.map pm) := cellAt hd 1
  have f0 : w.frozen? ⟨d, 0, none⟩ = false := freeAt hd 0
  have f1 : w.frozen? ⟨d, 1, none⟩ = false := freeAt hd 1
  rcases q with _ | ⟨qa, qb⟩
  · simp only [qP] at c0
    simp only [ReqAt] at hq
    have hO : s.mayE = 12 := by simp [SH.mayE, hq]
    have hD : s.done = s := by simp [SH.done, hq]
    rw [hO] at hM
    rw [hO, hD]
    clear hO hD hq
    go_enter Tryz.func174, Tryz.ntmps174
    go_wp2_with (go_at_call 244; refine hM.mono ?_; rintro e w' ⟨rfl, k1, rfl⟩)
    go_ret
    exact ⟨none, pm, rfl, (Mod.refl _ _).drewN _, h'.same rfl, fun k hk => .inl hk⟩
  · obtain ⟨r, hr, ha, hx, hab⟩ := hq
    have a0 : w.cell? ⟨qa, 0, none⟩ = some (.pointer (some ⟨qb, 0, none⟩)) := cellAt ha 0
    have a1 : w.cell? ⟨qa, 1, none⟩ = some (.bool s.up) := cellAt ha 1
    have a2 : w.cell? ⟨qa, 2, none⟩ = some (.int .i64 s.cpu) := cellAt ha 2
    have a3 : w.cell? ⟨qa, 3, none⟩ = some (.int .i64 s.by_) := cellAt ha 3
    have a4 : w.cell? ⟨qa, 4, none⟩ = some (.bool s.told) := cellAt ha 4
    have g4 : w.frozen? ⟨qa, 4, none⟩ = false := freeAt ha 4
    simp only [qP] at c0
    cases ho : r.over
    · have hO : s.mayE = 0 := by simp [SH.mayE, hr, ho]
      have hD : s.done = { s with run := some r.done, told := false } := by simp [SH.done, hr, ho]
      have hE : r.doneE = 0 := by simp [SRun.doneE, ho]
      rw [hO] at hM
      rw [hO, hD]
      rw [hD] at hok
      clear hO hD hr
      have hl := h'.lt
      have hqd : qa ≠ d ∧ qb ≠ d := by simp [qF] at nq; omega
      go_enter Tryz.func174, Tryz.ntmps174
      go_wp2_with (first | (go_at_call 244; refine hM.mono ?_; rintro e w' ⟨rfl, k1, rfl⟩) | (go_at_call 252; refine (Done_any qb r _ (by exact hx.keep (w := w) (((Mod.refl [qa] w).drewN _).setCell (by simp) _) (by simp; omega))).mono ?_; rintro e w1 ⟨rfl, m1, x1⟩; rw [hE]))
      go_ret
      have m2 := (((Mod.refl [qa] w).drewN k1).setCell (p := ⟨qa, 4, none⟩) (by simp) (.bool false))
      have hlp : ∀ k, k ∈ pF pm → k ≠ qa ∧ k ≠ qb := fun k hk => by have := nn k hk; simp [qF] at this; omega
      refine ⟨some (qa, qb), pm, rfl, ?_, ⟨?_, ?_, ?_, nq, np, nn, hok⟩, fun k hk => .inl hk⟩
      · exact ((m2.mono (T := [qa, qb]) (by simp)).trans m1 (by simp)).mono (by simp [qF])
      · exact m1.keep (m2.keep hd (by simp; omega)) (by simp; omega)
      · refine ⟨_, rfl, m1.keep ?_ (by simp; omega), x1, hab⟩
        rw [heapSet (w := w.drewN k1) ha 4]; simp
      · exact (hp.keep m2 (fun k hk => by have := hlp k hk; simp; omega)).keep m1 (fun k hk => by have := hlp k hk; simp; omega)
    · have hO : s.mayE = 6 := by simp [SH.mayE, hr, ho]
      have hD : s.done = s := by simp [SH.done, hr, ho]
      rw [hO] at hM
      rw [hO, hD]
      clear hO hD hr
      go_enter Tryz.func174, Tryz.ntmps174
      go_wp2_with (go_at_call 244; refine hM.mono ?_; rintro e w' ⟨rfl, k1, rfl⟩)
      go_ret
      exact ⟨some (qa, qb), pm, rfl, (Mod.refl _ _).drewN _, h'.same rfl, fun k hk => .inl hk⟩

set_option maxRecDepth 100000 in
set_option maxHeartbeats 400000 in
theorem hot_End (d : Nat) (q : Option (Nat × Nat)) (pm : Option Nat) (s : SH) (w : World) (h : DeskAt w d q pm s) : Calls Tryz.prog 176 #[.pointer (some ⟨d, 0, none⟩)] w (DeskDo d q pm (.tuple #[.int .i64 s.endV, .int .i64 s.endE]) s.end_ w) := by
  have hok := SH.end_ok h.ok
  have h' := h
  have hM := hot_Over d q pm s w h
  obtain ⟨hd, hq, hp, nq, np, nn, ok⟩ := h
  have c0 : w.cell? ⟨d, 0, none⟩ = some (.pointer (qP q)) := cellAt hd 0
  have c1 : w.cell? ⟨d, 1, none⟩ = some (.map pm) := cellAt hd 1
  have f0 : w.frozen? ⟨d, 0, none⟩ = false := freeAt hd 0
  have f1 : w.frozen? ⟨d, 1, none⟩ = false := freeAt hd 1
  rcases q with _ | ⟨qa, qb⟩
  · simp only [qP] at c0
    simp only [ReqAt] at hq
    have hO : s.endE = 12 := by simp [SH.endE, hq]
    have hV : s.endV = 0 := by simp [SH.endV, hq]
    have hD : s.end_ = s := by simp [SH.end_, hq]
    rw [hO, hD, hV]
    clear hO hD hq hV
    go_enter Tryz.func176, Tryz.ntmps176
    go_wp2
    go_ret2
    exact ⟨none, pm, rfl, (Mod.refl _ _), h'.same rfl, fun k hk => .inl hk⟩
  · obtain ⟨r, hr, ha, hx, hab⟩ := hq
    have a0 : w.cell? ⟨qa, 0, none⟩ = some (.pointer (some ⟨qb, 0, none⟩)) := cellAt ha 0
    have a1 : w.cell? ⟨qa, 1, none⟩ = some (.bool s.up) := cellAt ha 1
    have a2 : w.cell? ⟨qa, 2, none⟩ = some (.int .i64 s.cpu) := cellAt ha 2
    have a3 : w.cell? ⟨qa, 3, none⟩ = some (.int .i64 s.by_) := cellAt ha 3
    have a4 : w.cell? ⟨qa, 4, none⟩ = some (.bool s.told) := cellAt ha 4
    have g4 : w.frozen? ⟨qa, 4, none⟩ = false := freeAt ha 4
    simp only [qP] at c0
    have hOv : s.over = r.over := by simp [SH.over, hr]
    rw [hOv] at hM
    clear hOv
    cases ho : r.over
    · have hO : s.endE = 6 := by simp [SH.endE, hr, ho]
      have hV : s.endV = 0 := by simp [SH.endV, hr, ho]
      have hD : s.end_ = s := by simp [SH.end_, hr, ho]
      rw [ho] at hM
      rw [hO, hD, hV]
      clear hO hD hr hV
      go_enter Tryz.func176, Tryz.ntmps176
      go_wp2_with (go_at_call 175; refine hM.mono ?_; rintro e w' ⟨rfl, k1, rfl⟩)
      go_ret2
      exact ⟨some (qa, qb), pm, rfl, (Mod.refl _ _).drewN _, h'.same rfl, fun k hk => .inl hk⟩
    · have hO : s.endE = 0 := by simp [SH.endE, hr, ho]
      have hV : s.endV = r.why := by simp [SH.endV, hr, ho]
      have hD : s.end_ = { s with run := none, up := false, cpu := 0, by_ := 0, told := s.told } := by simp [SH.end_, hr, ho]
      rw [ho] at hM
      rw [hO, hD, hV]
      rw [hD] at hok
      clear hO hD hr hV
      go_enter Tryz.func176, Tryz.ntmps176
      go_wp2_with (first | (go_at_call 175; refine hM.mono ?_; rintro e w' ⟨rfl, k1, rfl⟩) | (go_at_call 253; refine (Why_any qb r _ (by exact hx.same rfl)).mono ?_; rintro e w' ⟨rfl, k2, rfl⟩))
      go_ret2
      have m2 := (((Mod.refl [d] w).drewN (k1 + k2)).setCell (p := ⟨d, 0, none⟩) (by simp) (.pointer none))
      refine ⟨none, pm, rfl, m2.mono (by simp), ⟨?_, rfl, ?_, by simp [qF], np, by simp [qF], hok⟩, fun k hk => .inl (by simp [qF] at hk ⊢; exact .inr (.inr hk))⟩
      · rw [heapSet (w := w.drewN _) hd 0]; simp [qP]
      · exact hp.keep m2 (fun k hk => by simp; rintro rfl; exact np hk)

end Go.Proofs.YtaakgpnmfkmdoaaGreatDoor

/- The walk over hot's Next. -/
namespace Go.Proofs.YtaakgpnmfkmdoaaGreatDoor
set_option linter.unusedVariables false
set_option linter.unusedSimpArgs false
open Go.RowKit



/-- A call that returned a step and why not. -/
def stepV (s : SH) : Value := .tuple #[s.step, .int .i64 s.mayE]

set_option maxRecDepth 100000 in
set_option maxHeartbeats 800000 in
theorem hot_Next (d : Nat) (q : Option (Nat × Nat)) (pm : Option Nat) (s : SH) (w : World) (h : DeskAt w d q pm s) : Calls Tryz.prog 172 #[.pointer (some ⟨d, 0, none⟩)] w (DeskDo d q pm (stepV s) s.next w) := by
  have hok := SH.next_ok h.ok
  have h2 := h.keep ((Mod.refl [] w).alloc (Obj.cells #[.int .i64 0, .bool false, .bool false] 265)) (by simp)
  have h' := h
  have hl := h.lt
  obtain ⟨hd, hq, hp, nq, np, nn, ok⟩ := h
  have c0 : w.cell? ⟨d, 0, none⟩ = some (.pointer (qP q)) := cellAt hd 0
  have c1 : w.cell? ⟨d, 1, none⟩ = some (.map pm) := cellAt hd 1
  have f0 : w.frozen? ⟨d, 0, none⟩ = false := freeAt hd 0
  have f1 : w.frozen? ⟨d, 1, none⟩ = false := freeAt hd 1
  have hdl := ltOf hd
  rcases q with _ | ⟨qa, qb⟩
  · simp only [qP] at c0
    simp only [ReqAt] at hq
    have hO : s.mayE = 12 := by simp [SH.mayE, hq]
    have hD : s.next = s := by simp [SH.next, hq]
    have hV : stepV s = .tuple #[.agg #[.int .i64 0, .bool false, .bool false], .int .i64 12] := by simp [stepV, SH.step, hO, hq]
    rw [hD, hV]
    clear hD hq hV
    go_enter Tryz.func172, Tryz.ntmps172
    go_wp2_with (go_at_call 244; refine (hot_may d _ pm s _ (by exact h2.same rfl)).mono ?_; rw [hO]; rintro e w' ⟨rfl, k1, rfl⟩)
    refine bodyPost_ret_by (v := .tuple #[.agg #[.int .i64 0, .bool false, .bool false], .int .i64 12]) ?_ rfl ?_
    · rw [results_cell_tmp rfl]; go_simp
    · have m3 : ∀ u1 u2 u3 : Value, Mod [] w ((((((w.alloc (Obj.cells #[.int .i64 0, .bool false, .bool false] 265)).drewN k1).setCell ⟨w.heap.size, 0, none⟩ u1).setCell ⟨w.heap.size, 1, none⟩ u2).setCell ⟨w.heap.size, 2, none⟩ u3)) := fun _ _ _ => (((((Mod.refl _ _).alloc _).drewN _).setCell (by simp) _).setCell (by simp) _).setCell (by simp) _
      exact ⟨none, pm, rfl, (m3 _ _ _).mono (by simp), h'.keep (m3 _ _ _) (by simp), fun k hk => .inl hk⟩
  · obtain ⟨r, hr, ha, hx, hab⟩ := hq
    have a0 : w.cell? ⟨qa, 0, none⟩ = some (.pointer (some ⟨qb, 0, none⟩)) := cellAt ha 0
    have a1 : w.cell? ⟨qa, 1, none⟩ = some (.bool s.up) := cellAt ha 1
    have a2 : w.cell? ⟨qa, 2, none⟩ = some (.int .i64 s.cpu) := cellAt ha 2
    have a3 : w.cell? ⟨qa, 3, none⟩ = some (.int .i64 s.by_) := cellAt ha 3
    have a4 : w.cell? ⟨qa, 4, none⟩ = some (.bool s.told) := cellAt ha 4
    have g4 : w.frozen? ⟨qa, 4, none⟩ = false := freeAt ha 4
    simp only [qP] at c0
    have hx2 := hx.keep ((Mod.refl [] w).alloc (Obj.cells #[.int .i64 0, .bool false, .bool false] 265)) (by simp)
    have hL := fun j => plan_lookup (hp.keep (((Mod.refl [] w).alloc (Obj.cells #[.int .i64 0, .bool false, .bool false] 265)).drewN j) (by simp)) r.k
    have hqd : qa ≠ d ∧ qb ≠ d := by simp [qF] at nq; omega
    have hql := hl qa (by simp [qF])
    have hM : s.mayE = if r.over then 6 else 0 := by simp [SH.mayE, hr]
    cases ho : r.over
    · rw [ho] at hM
      have hO : s.mayE = 0 := hM
      cases hb : r.back
      · cases ht : s.told
        · by_cases hm : r.k ∈ s.plan
          · cases pm with
            | none => simp only [PlanAt] at hp; rw [hp] at hm; simp at hm
            | some b =>
              have hF : s.failsNow r = true := by simp [SH.failsNow, hb, ht, hm]
              have hm' := decide_eq_true hm
              have hD : s.next = { s with run := some r.fail, told := true, plan := s.plan.erase r.k } := by simp [SH.next, hr, ho, hF]
              have hV : stepV s = .tuple #[.agg #[.int .i64 r.k, .bool r.back, .bool true], .int .i64 0] := by simp [stepV, SH.step, hO, hr, ho, hF]
              have hE : r.failE = 0 := by simp [SRun.failE, hb, ho]
              rw [hD] at hok
              rw [hD, hV]
              have HO := Lib.hid hO
              clear hD hV hF hM hO
              go_enter Tryz.func172, Tryz.ntmps172
              go_wp2_with (first | (go_at_call 244; refine (hot_may d _ _ s _ (by exact h2.same rfl)).mono ?_; rw [HO.out]; rintro e w' ⟨rfl, k1, rfl⟩) | (go_at_call 245; refine (At_any qb r _ (by exact hx2.same rfl)).mono ?_; rintro e w' ⟨rfl, k2, rfl⟩))
              have mu : Mod [] w (((w.alloc (Obj.cells #[.int .i64 0, .bool false, .bool false] 265)).drewN (k1 + k2)).alloc (Obj.cells #[.int .i64 r.k, .bool false, .bool true] 265)) := (((Mod.refl _ _).alloc _).drewN _).alloc _
              obtain ⟨w1, hrun, m1, x1⟩ := map_delete (m := planM s.plan) (b := b) (hp.keep mu (by simp)) Tryz.underlying127 Tryz.underlying3 r.k
              rw [planM_del] at x1
              have nb : b ≠ d ∧ b ≠ qa ∧ b ≠ qb := by have := nn b (by simp [pF]); simp [pF] at np; simp [qF] at this; omega
              have hbl := hl b (by simp [pF])
              have hql2 := hl qb (by simp [qF])
              have hd1 := m1.keep (mu.keep hd (by simp)) (by simp; omega)
              have ha1 := m1.keep (mu.keep ha (by simp)) (by simp; omega)
              have hx1 := (hx.keep mu (by simp)).keep m1 (by simp; omega)
              have hz1 := m1.keep (k := w.heap.size) (heapOld (heapNew w (Obj.cells #[.int .i64 0, .bool false, .bool false] 265))) (by simp; omega)
              have hz2 := m1.keep (k := w.heap.size + 1) (heapNew' (by simp)) (by simp; omega)
              have M1 := (mu.mono (T := [b]) (by simp)).trans m1 (by simp)
              have d1 : w1.cell? ⟨d, 0, none⟩ = _ := cellAt hd1 0
              have d2 : w1.cell? ⟨qa, 0, none⟩ = _ := cellAt ha1 0
              simp only [List.getElem?_toArray, List.getElem?_cons_zero, qP] at d1 d2
              clear mu m1 a0 a1 a2 a3 a4 c0 c1 f0 f1 g4 hp hx2 h2 hL
              rw [hrun]
              go_wp2_with (go_at_call 246; refine (Fail_any qb r _ hx1).mono ?_; rw [hE]; rintro e w2 ⟨rfl, m2, x2⟩; have hd2 := m2.keep hd1 (by simp; omega); have ha2 := m2.keep ha1 (by simp; omega); have hz3 := m2.keep hz1 (by simp; omega); have hz4 := m2.keep hz2 (by simp; omega); have e1 : w2.cell? ⟨d, 0, none⟩ = _ := cellAt hd2 0; have e2 : w2.frozen? ⟨qa, 4, none⟩ = false := freeAt ha2 4; have e3 : w2.cell? ⟨qa, 4, none⟩ = _ := cellAt ha2 4; have e4 := fun i => freeAt hz3 i; have e5 := fun i => cellAt hz4 i; have e6 := fun i => cellAt hz3 i; have p1 := e4 0; have p2 := e4 1; have p3 := e4 2; have p4 := e5 0; have p5 := e5 1; have p6 := e5 2; have p7 := e6 0; have p8 := e6 1; have p9 := e6 2; clear e4 e5 e6; simp only [List.getElem?_toArray, List.getElem?_cons_zero, List.getElem?_cons_succ, qP] at e1 e3 p1 p2 p3 p4 p5 p6 p7 p8 p9; clear d1 d2)
              refine bodyPost_ret_by (v := .tuple #[.agg #[.int .i64 r.k, .bool false, .bool true], .int .i64 0]) ?_ rfl ?_
              · rw [results_cell_tmp rfl]; go_simp
              · rw [hb]
                have M2 := (M1.mono (T := [b, qb, qa]) (by simp)).trans m2 (by simp)
                have m3 : ∀ u1 u2 u3, Mod [qa, w.heap.size] w2 ((((w2.setCell ⟨qa, 4, none⟩ (.bool true)).setCell ⟨w.heap.size, 0, none⟩ u1).setCell ⟨w.heap.size, 1, none⟩ u2).setCell ⟨w.heap.size, 2, none⟩ u3) := fun _ _ _ => ((((Mod.refl _ _).setCell (by simp) _).setCell (by simp) _).setCell (by simp) _).setCell (by simp) _
                refine ⟨some (qa, qb), some b, rfl, (M2.trans (m3 _ _ _) (by simp)).mono (by simp [qF, pF]), ⟨(m3 _ _ _).keep hd2 (by simp; omega), ⟨_, rfl, ?_, x2.keep (m3 _ _ _) (by simp; omega), hab⟩, (MapAt.keep x1 m2 (by simp; omega)).keep (m3 _ _ _) (by simp; omega), nq, np, nn, hok⟩, fun k hk => .inl hk⟩
                rw [heapSetNe (by omega), heapSetNe (by omega), heapSetNe (by omega), heapSet ha2]
                simp
          · have hF : s.failsNow r = false := by simp [SH.failsNow, hb, ht, hm]
            have hm' := decide_eq_false hm
            have hD : s.next = { s with told := true } := by simp [SH.next, hr, ho, hF]
            have hV : stepV s = .tuple #[.agg #[.int .i64 r.k, .bool r.back, .bool false], .int .i64 0] := by simp [stepV, SH.step, hO, hr, ho, hF]
            rw [hD] at hok
            rw [hD, hV]
            have HO := Lib.hid hO
            replace hr := Lib.hid hr
            clear hD hV hF hM hO
            go_enter Tryz.func172, Tryz.ntmps172
            go_wp2_with (first | (go_at_call 244; refine (hot_may d _ pm s _ (by exact h2.same rfl)).mono ?_; rw [HO.out]; rintro e w' ⟨rfl, k1, rfl⟩) | (go_at_call 245; refine (At_any qb r _ (by exact hx2.same rfl)).mono ?_; rintro e w' ⟨rfl, k2, rfl⟩))
            refine bodyPost_ret_by (v := .tuple #[.agg #[.int .i64 r.k, .bool false, .bool false], .int .i64 0]) ?_ rfl ?_
            · rw [results_cell_tmp rfl]; go_simp
            · rw [hb]
              have m4 : ∀ o o' u1 u2 u3, Mod [qa] w (((((((w.alloc o).drewN (k1 + k2)).setCell ⟨qa, 4, none⟩ (.bool true)).setCell ⟨w.heap.size, 0, none⟩ u1).setCell ⟨w.heap.size, 1, none⟩ u2).setCell ⟨w.heap.size, 2, none⟩ u3).alloc o') := fun _ _ _ _ _ => ((((((Mod.refl _ _).alloc _).drewN _).setCell (by simp) _).setCell (by simp) _).setCell (by simp) _).setCell (by simp) _ |>.alloc _
              refine ⟨some (qa, qb), pm, rfl, (m4 _ _ _ _ _).mono (by simp [qF]), ⟨(m4 _ _ _ _ _).keep hd (by simp; omega), ⟨r, hr.out, ?_, hx.keep (m4 _ _ _ _ _) (by simp; omega), hab⟩, hp.keep (m4 _ _ _ _ _) (fun k hk => by have := nn k hk; simp [qF] at this ⊢; omega), nq, np, nn, hok⟩, fun k hk => .inl hk⟩
              refine heapOld ?_
              rw [heapSetNe (by omega), heapSetNe (by omega), heapSetNe (by omega)]
              refine (heapSet (w := (w.alloc _).drewN _) (heapOld ha) 4 _).trans ?_
              simp
        · have hF : s.failsNow r = false := by simp [SH.failsNow, hb, ht]
          have hD : s.next = { s with told := true } := by simp [SH.next, hr, ho, hF]
          have hV : stepV s = .tuple #[.agg #[.int .i64 r.k, .bool r.back, .bool false], .int .i64 0] := by simp [stepV, SH.step, hO, hr, ho, hF]
          rw [hD] at hok
          rw [hD, hV]
          have HO := Lib.hid hO
          replace hr := Lib.hid hr
          clear hD hV hF hM hO
          go_enter Tryz.func172, Tryz.ntmps172
          go_wp2_with (first | (go_at_call 244; refine (hot_may d _ pm s _ (by exact h2.same rfl)).mono ?_; rw [HO.out]; rintro e w' ⟨rfl, k1, rfl⟩) | (go_at_call 245; refine (At_any qb r _ (by exact hx2.same rfl)).mono ?_; rintro e w' ⟨rfl, k2, rfl⟩))
          refine bodyPost_ret_by (v := .tuple #[.agg #[.int .i64 r.k, .bool false, .bool false], .int .i64 0]) ?_ rfl ?_
          · rw [results_cell_tmp rfl]; go_simp
          · rw [hb]
            have m4 : ∀ o o' u1 u2 u3, Mod [qa] w (((((((w.alloc o).drewN (k1 + k2)).setCell ⟨qa, 4, none⟩ (.bool true)).setCell ⟨w.heap.size, 0, none⟩ u1).setCell ⟨w.heap.size, 1, none⟩ u2).setCell ⟨w.heap.size, 2, none⟩ u3).alloc o') := fun _ _ _ _ _ => ((((((Mod.refl _ _).alloc _).drewN _).setCell (by simp) _).setCell (by simp) _).setCell (by simp) _).setCell (by simp) _ |>.alloc _
            refine ⟨some (qa, qb), pm, rfl, (m4 _ _ _ _ _).mono (by simp [qF]), ⟨(m4 _ _ _ _ _).keep hd (by simp; omega), ⟨r, hr.out, ?_, hx.keep (m4 _ _ _ _ _) (by simp; omega), hab⟩, hp.keep (m4 _ _ _ _ _) (fun k hk => by have := nn k hk; simp [qF] at this ⊢; omega), nq, np, nn, hok⟩, fun k hk => .inl hk⟩
            refine heapOld ?_
            rw [heapSetNe (by omega), heapSetNe (by omega), heapSetNe (by omega)]
            refine (heapSet (w := (w.alloc _).drewN _) (heapOld ha) 4 _).trans ?_
            simp
      · have hF : s.failsNow r = false := by simp [SH.failsNow, hb]
        have hD : s.next = { s with told := true } := by simp [SH.next, hr, ho, hF]
        have hV : stepV s = .tuple #[.agg #[.int .i64 r.k, .bool r.back, .bool false], .int .i64 0] := by simp [stepV, SH.step, hO, hr, ho, hF]
        rw [hD] at hok
        rw [hD, hV]
        have HO := Lib.hid hO
        replace hr := Lib.hid hr
        clear hD hV hF hM hO
        go_enter Tryz.func172, Tryz.ntmps172
        go_wp2_with (first | (go_at_call 244; refine (hot_may d _ pm s _ (by exact h2.same rfl)).mono ?_; rw [HO.out]; rintro e w' ⟨rfl, k1, rfl⟩) | (go_at_call 245; refine (At_any qb r _ (by exact hx2.same rfl)).mono ?_; rintro e w' ⟨rfl, k2, rfl⟩))
        refine bodyPost_ret_by (v := .tuple #[.agg #[.int .i64 r.k, .bool true, .bool false], .int .i64 0]) ?_ rfl ?_
        · rw [results_cell_tmp rfl]; go_simp
        · rw [hb]
          have m4 : ∀ o o' u1 u2 u3, Mod [qa] w (((((((w.alloc o).drewN (k1 + k2)).setCell ⟨qa, 4, none⟩ (.bool true)).setCell ⟨w.heap.size, 0, none⟩ u1).setCell ⟨w.heap.size, 1, none⟩ u2).setCell ⟨w.heap.size, 2, none⟩ u3).alloc o') := fun _ _ _ _ _ => ((((((Mod.refl _ _).alloc _).drewN _).setCell (by simp) _).setCell (by simp) _).setCell (by simp) _).setCell (by simp) _ |>.alloc _
          refine ⟨some (qa, qb), pm, rfl, (m4 _ _ _ _ _).mono (by simp [qF]), ⟨(m4 _ _ _ _ _).keep hd (by simp; omega), ⟨r, hr.out, ?_, hx.keep (m4 _ _ _ _ _) (by simp; omega), hab⟩, hp.keep (m4 _ _ _ _ _) (fun k hk => by have := nn k hk; simp [qF] at this ⊢; omega), nq, np, nn, hok⟩, fun k hk => .inl hk⟩
          refine heapOld ?_
          rw [heapSetNe (by omega), heapSetNe (by omega), heapSetNe (by omega)]
          refine (heapSet (w := (w.alloc _).drewN _) (heapOld ha) 4 _).trans ?_
          simp
    · have hO : s.mayE = 6 := by rw [hM, ho]; rfl
      have hD : s.next = s := by simp [SH.next, hr, ho]
      have hV : stepV s = .tuple #[.agg #[.int .i64 0, .bool false, .bool false], .int .i64 6] := by simp [stepV, SH.step, hO, hr, ho]
      rw [hD, hV]
      clear hD hr hV hL hM
      go_enter Tryz.func172, Tryz.ntmps172
      go_wp2_with (go_at_call 244; refine (hot_may d _ pm s _ (by exact h2.same rfl)).mono ?_; rw [hO]; rintro e w' ⟨rfl, k1, rfl⟩)
      refine bodyPost_ret_by (v := .tuple #[.agg #[.int .i64 0, .bool false, .bool false], .int .i64 6]) ?_ rfl ?_
      · rw [results_cell_tmp rfl]; go_simp
      · have m3 : ∀ u1 u2 u3 : Value, Mod [] w ((((((w.alloc (Obj.cells #[.int .i64 0, .bool false, .bool false] 265)).drewN k1).setCell ⟨w.heap.size, 0, none⟩ u1).setCell ⟨w.heap.size, 1, none⟩ u2).setCell ⟨w.heap.size, 2, none⟩ u3)) := fun _ _ _ => (((((Mod.refl _ _).alloc _).drewN _).setCell (by simp) _).setCell (by simp) _).setCell (by simp) _
        exact ⟨some (qa, qb), pm, rfl, (m3 _ _ _).mono (by simp), h'.keep (m3 _ _ _) (by simp), fun k hk => .inl hk⟩
end Go.Proofs.YtaakgpnmfkmdoaaGreatDoor

/- How a struct api.Ev reads: cell by cell. No condition. -/
namespace Go.Proofs.YtaakgpnmfkmdoaaGreatDoor
set_option linter.unusedVariables false
set_option linter.unusedSimpArgs false
open Go.RowKit

structure Ev28 where
  kind : Int
  cpu : Int
  id : Int
  mask : Int
  n : Int
deriving Inhabited
def Ev28.vals (a : Ev28) : List Value := [.int .i64 a.kind, .int .i64 a.cpu, .int .i64 a.id, .int .u64 a.mask, .int .i64 a.n]
def Ev28.ok (a : Ev28) : Prop := (Lit.int .i64 a.kind).wf = true ∧ (Lit.int .i64 a.cpu).wf = true ∧ (Lit.int .i64 a.id).wf = true ∧ (Lit.int .u64 a.mask).wf = true ∧ (Lit.int .i64 a.n).wf = true

theorem elem_api_Ev {H : Type} {enc : TypeId × Value → H} {w : World} {spare : Nat → Bool} {held : Bool} : ∀ m cs y, DataW.trod enc Tryz.prog w 0 spare held m 34 cs = some y → ∃ z : Ev28, cs = z.vals ∧ z.ok := by
  intro m cs y h
  obtain ⟨hl, hv⟩ := flat Tryz.underlying34 [.i .i64, .i .i64, .i .i64, .i .u64, .i .i64] (by kernel_rfl) (by rfl) (fun i k hk => by
    match i, hk with
    | 0, hk => simp at hk; subst hk; exact ⟨_, rfl, rfl, by kernel_rfl, _, Tryz.underlying3, rfl⟩
    | 1, hk => simp at hk; subst hk; exact ⟨_, rfl, rfl, by kernel_rfl, _, Tryz.underlying3, rfl⟩
    | 2, hk => simp at hk; subst hk; exact ⟨_, rfl, rfl, by kernel_rfl, _, Tryz.underlying3, rfl⟩
    | 3, hk => simp at hk; subst hk; exact ⟨_, rfl, rfl, by kernel_rfl, _, Tryz.underlying28, rfl⟩
    | 4, hk => simp at hk; subst hk; exact ⟨_, rfl, rfl, by kernel_rfl, _, Tryz.underlying2, rfl⟩
    | n + 5, hk => simp at hk) h
  match cs, hl with
  | [v0, v1, v2, v3, v4], _ =>
    obtain ⟨_, e0, n0, rfl, w0⟩ := hv 0 _ rfl
    obtain ⟨_, e1, n1, rfl, w1⟩ := hv 1 _ rfl
    obtain ⟨_, e2, n2, rfl, w2⟩ := hv 2 _ rfl
    obtain ⟨_, e3, n3, rfl, w3⟩ := hv 3 _ rfl
    obtain ⟨_, e4, n4, rfl, w4⟩ := hv 4 _ rfl
    simp at e0 e1 e2 e3 e4
    subst e0 e1 e2 e3 e4
    exact ⟨⟨n0, n1, n2, n3, n4⟩, rfl, w0, w1, w2, w3, w4⟩
end Go.Proofs.YtaakgpnmfkmdoaaGreatDoor
