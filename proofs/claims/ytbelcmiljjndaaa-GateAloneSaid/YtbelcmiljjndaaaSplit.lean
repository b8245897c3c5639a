/- The walks over package split: a number for each core: what each method returns and writes. No condition but that the numbers are 64-bit ones. -/
import Derived.Test.YtbelcmiljjndaaaRow
import Derived.Laws.Externs
import Derived.Laws.CopyOwn
namespace Go.Proofs.Ytbelcmiljjndaaa
set_option linter.unusedVariables false
set_option linter.unusedSimpArgs false
open Go.RowKit

/-- A struct of type T at block b, whose one field is a slice over the row r of 64-bit numbers l. -/
structure SplitAt (T : Nat) (w : World) (b r : Nat) (l : List Int) : Prop where
  hb : w.heap[b]? = some (.cells #[.slice (some ⟨r, 0, none⟩) l.length l.length] T (0,0))
  hr : w.heap[r]? = some (.cells (rowI .i64 l) 2 (0,0))
  ne : r ≠ b
  pos : 1 ≤ l.length
  le : l.length ≤ 64
  inb : ∀ i, i < l.length → In64 (nth l i)

theorem SplitAt.keep {T : Nat} {S : List Nat} {w w' : World} {b r : Nat} {l : List Int} (h : SplitAt T w b r l) (m : Mod S w w') (hb : b ∉ S) (hr : r ∉ S) : SplitAt T w' b r l :=
  ⟨m.keep h.hb hb, m.keep h.hr hr, h.ne, h.pos, h.le, h.inb⟩

theorem SplitAt.alloc {T : Nat} {w : World} {b r : Nat} {l : List Int} (h : SplitAt T w b r l) (o : Obj) : SplitAt T (w.alloc o) b r l := h.keep ((Mod.refl [] w).alloc o) (by simp) (by simp)

def mayE (l : List Int) (c : Int) : Int := if 0 ≤ c ∧ c < l.length then 0 else 3
def sAddE (l : List Int) (c n : Int) : Int := if 0 ≤ c ∧ c < l.length then addE (nth l c.toNat) n else 3
def sAdd (l : List Int) (c n : Int) : List Int := if (0 ≤ c ∧ c < l.length) ∧ In64 (nth l c.toNat + n) then l.set c.toNat (nth l c.toNat + n) else l
def sGet (l : List Int) (c : Int) : Int := if 0 ≤ c ∧ c < l.length then nth l c.toNat else 0
def sFoldE (l : List Int) (f t : Int) : Int := if (0 ≤ f ∧ f < l.length) ∧ (0 ≤ t ∧ t < l.length) then (if f = t then 2 else addE (nth l t.toNat) (nth l f.toNat)) else 3
def sFold (l : List Int) (f t : Int) : List Int :=
  if ((0 ≤ f ∧ f < l.length) ∧ (0 ≤ t ∧ t < l.length)) ∧ f ≠ t ∧ In64 (nth l t.toNat + nth l f.toNat) then (l.set t.toNat (nth l t.toNat + nth l f.toNat)).set f.toNat 0 else l
def sSumV (l : List Int) : Int := if In64 l.sum then l.sum else 0
def sSumE (l : List Int) : Int := if In64 l.sum then 0 else 16

theorem sAdd_length (l : List Int) (c n : Int) : (sAdd l c n).length = l.length := by unfold sAdd; split <;> simp
theorem sFold_length (l : List Int) (c n : Int) : (sFold l c n).length = l.length := by unfold sFold; split <;> simp
theorem sAdd_in {l : List Int} (h : ∀ i, i < l.length → In64 (nth l i)) (c n : Int) : ∀ i, i < (sAdd l c n).length → In64 (nth (sAdd l c n) i) := by
  intro i hi
  rw [sAdd_length] at hi
  unfold sAdd
  split
  · rename_i hh
    rw [nth_set (by omega)]
    split
    · exact hh.2
    · exact h i hi
  · exact h i hi
theorem sFold_in {l : List Int} (h : ∀ i, i < l.length → In64 (nth l i)) (c n : Int) : ∀ i, i < (sFold l c n).length → In64 (nth (sFold l c n) i) := by
  intro i hi
  rw [sFold_length] at hi
  unfold sFold
  split
  · rename_i hh
    rw [nth_set (by simp; omega)]
    split
    · decide
    · rw [nth_set (by omega)]
      split
      · exact hh.2.2
      · exact h i hi
  · exact h i hi

theorem SplitAt.set {T : Nat} {w : World} {b r : Nat} {l : List Int} (h : SplitAt T w b r l) (i : Nat) (v : Int) (hv : In64 v) : SplitAt T (w.setCell ⟨r, i, none⟩ (.int .i64 v)) b r (l.set i v) := by
  refine ⟨?_, ?_, h.ne, by simpa using h.pos, by simpa using h.le, ?_⟩
  · rw [heapSetNe (Ne.symm h.ne), h.hb]; simp
  · rw [heapSet h.hr, rowI_set]
  · intro j hj
    rw [List.length_set] at hj
    by_cases e : i < l.length
    · rw [nth_set e]
      split
      · exact hv
      · exact h.inb j hj
    · rw [List.set_eq_of_length_le (by omega)]; exact h.inb j hj


theorem split_may (b r : Nat) (l : List Int) (c : Int) (w : World) (h : SplitAt 135 w b r l) :
    Calls Try.prog 102 #[.pointer (some ⟨b, 0, none⟩), .int .i64 c] w (Ret (.int .i64 (mayE l c)) w) := by
  have hlp := h.pos
  have hll := h.le
  have c0 : w.cell? ⟨b, 0, none⟩ = some (.slice (some ⟨r, 0, none⟩) l.length l.length) := cellAt h.hb 0
  clear h
  by_cases hc : 0 ≤ c ∧ c < l.length
  · have hE : mayE l c = 0 := by simp [mayE, hc]
    rw [hE]
    clear hE
    obtain ⟨hc0, hc1⟩ := hc
    go_enter Try.func102, Try.ntmps102
    go_wp2
    go_ret
    exact Ret.of (rfl) (by repeat (first | exact Drew.refl _ | apply Drew.drewN | apply Drew.drew))
  · have hE : mayE l c = 3 := by simp [mayE, hc]
    rw [hE]
    clear hE
    have hc' : c < 0 ∨ (0 ≤ c ∧ (l.length : Int) ≤ c) := by omega
    clear hc
    rcases hc' with h1 | ⟨h1, h2⟩
    all_goals
      go_enter Try.func102, Try.ntmps102
      go_wp2
      go_ret
      exact Ret.of (rfl) (by repeat (first | exact Drew.refl _ | apply Drew.drewN | apply Drew.drew))

theorem split_Add (b r : Nat) (l : List Int) (c n : Int) (hn : In64 n) (w : World) (h : SplitAt 135 w b r l) :
    Calls Try.prog 79 #[.pointer (some ⟨b, 0, none⟩), .int .i64 c, .int .i64 n] w (Rets (.int .i64 (sAddE l c n)) [r] w fun w' => SplitAt 135 w' b r (sAdd l c n)) := by
  have hM := split_may b r l c w h
  have hlp := h.pos
  have hll := h.le
  have c0 : w.cell? ⟨b, 0, none⟩ = some (.slice (some ⟨r, 0, none⟩) l.length l.length) := cellAt h.hb 0
  by_cases hc : 0 ≤ c ∧ c < l.length
  · have hc' := hc
    obtain ⟨hc0, hc1⟩ := hc
    obtain ⟨c, rfl⟩ := Int.eq_ofNat_of_zero_le hc0
    have hM' : mayE l c = 0 := by simp [mayE, hc']
    rw [hM'] at hM
    have hc2 : c < l.length := by omega
    have cc : w.cell? ⟨r, c, none⟩ = some (.int .i64 (nth l c)) := (cellAt h.hr c).trans (rowI_get (by omega))
    have ff : w.frozen? ⟨r, c, none⟩ = false := freeAt h.hr c
    have hA := fun w => numAdd (nth l c) n w (h.inb c hc2) hn
    by_cases hI : In64 (nth l c + n)
    · have hE : sAddE l c n = 0 := by simp [sAddE, addE, hc', hI]
      have hS : sAdd l c n = l.set c (nth l c + n) := by simp only [sAdd, Int.toNat_natCast]; rw [if_pos ⟨hc', hI⟩]
      have e1 : addV (nth l c) n = nth l c + n := by simp [addV, hI]
      have e2 : addE (nth l c) n = 0 := by simp [addE, hI]
      rw [hE, hS]
      rw [e1, e2] at hA
      have hset := fun k => SplitAt.set (w := w.drewN k) ⟨h.hb, h.hr, h.ne, h.pos, h.le, h.inb⟩ c _ hI
      clear e1 e2 hE hS hM' hI
      go_enter Try.func79, Try.ntmps79
      go_wp2_with (go_at_call 102; refine hM.mono ?_; rintro e w' ⟨rfl, k, rfl⟩)
      go_wp2_with (go_at_call 103; refine (hA _).mono ?_; rintro e w' ⟨rfl, k2, rfl⟩)
      go_ret
      exact Rets.of rfl (((Mod.refl _ _).drewN _).setCell (by simp) _) (hset _)
    · have hE : sAddE l c n = 16 := by simp [sAddE, addE, hc', hI]
      have hS : sAdd l c n = l := by simp only [sAdd, Int.toNat_natCast]; rw [if_neg (fun x => hI x.2)]
      have e1 : addV (nth l c) n = 0 := by simp [addV, hI]
      have e2 : addE (nth l c) n = 16 := by simp [addE, hI]
      rw [hE, hS]
      rw [e1, e2] at hA
      clear e1 e2 hE hS hM' hI
      go_enter Try.func79, Try.ntmps79
      go_wp2_with (go_at_call 102; refine hM.mono ?_; rintro e w' ⟨rfl, k, rfl⟩)
      go_wp2_with (go_at_call 103; refine (hA _).mono ?_; rintro e w' ⟨rfl, k2, rfl⟩)
      go_ret
      exact Rets.of rfl ((Mod.refl _ _).drewN _) ⟨h.hb, h.hr, h.ne, h.pos, h.le, h.inb⟩
  · have hM' : mayE l c = 3 := by simp [mayE, hc]
    have hE : sAddE l c n = 3 := by simp [sAddE, hc]
    have hS : sAdd l c n = l := by unfold sAdd; rw [if_neg (fun x => hc x.1)]
    rw [hM'] at hM
    rw [hE, hS]
    clear hE hS hM' hc
    go_enter Try.func79, Try.ntmps79
    go_wp2_with (go_at_call 102; refine hM.mono ?_; rintro e w' ⟨rfl, k, rfl⟩)
    go_ret
    exact Rets.of rfl ((Mod.refl _ _).drewN _) ⟨h.hb, h.hr, h.ne, h.pos, h.le, h.inb⟩

theorem SplitAt.same {T : Nat} {w w' : World} {b r : Nat} {l : List Int} (h : SplitAt T w b r l) (e : w'.heap = w.heap) : SplitAt T w' b r l :=
  ⟨by rw [e]; exact h.hb, by rw [e]; exact h.hr, h.ne, h.pos, h.le, h.inb⟩
theorem SplitAt.drew {T : Nat} {w w' : World} {b r : Nat} {l : List Int} (h : SplitAt T w b r l) (d : Drew w w') : SplitAt T w' b r l :=
  ⟨by rw [d.heap]; exact h.hb, by rw [d.heap]; exact h.hr, h.ne, h.pos, h.le, h.inb⟩

theorem split_Get (b r : Nat) (l : List Int) (c : Int) (w : World) (h : SplitAt 135 w b r l) :
    Calls Try.prog 77 #[.pointer (some ⟨b, 0, none⟩), .int .i64 c] w (Ret (.tuple #[.int .i64 (sGet l c), .int .i64 (mayE l c)]) w) := by
  have hM := split_may b r l c w h
  have hlp := h.pos
  have hll := h.le
  have c0 : w.cell? ⟨b, 0, none⟩ = some (.slice (some ⟨r, 0, none⟩) l.length l.length) := cellAt h.hb 0
  by_cases hc : 0 ≤ c ∧ c < l.length
  · have hc' := hc
    obtain ⟨hc0, hc1⟩ := hc
    obtain ⟨c, rfl⟩ := Int.eq_ofNat_of_zero_le hc0
    have hM' : mayE l c = 0 := by simp [mayE, hc']
    have hG : sGet l c = nth l c := by simp [sGet, hc']
    rw [hM'] at hM ⊢
    rw [hG]
    have hc2 : c < l.length := by omega
    have cc : w.cell? ⟨r, c, none⟩ = some (.int .i64 (nth l c)) := (cellAt h.hr c).trans (rowI_get (by omega))
    have ff : w.frozen? ⟨r, c, none⟩ = false := freeAt h.hr c
    clear hM' hG
    go_enter Try.func77, Try.ntmps77
    go_wp2_with (go_at_call 102; refine hM.mono ?_; rintro e w' ⟨rfl, k, rfl⟩)
    go_ret2
    exact Ret.of (rfl) (by repeat (first | exact Drew.refl _ | apply Drew.drewN | apply Drew.drew))
  · have hM' : mayE l c = 3 := by simp [mayE, hc]
    have hG : sGet l c = 0 := by simp [sGet, hc]
    rw [hM'] at hM ⊢
    rw [hG]
    clear hM' hG hc
    go_enter Try.func77, Try.ntmps77
    go_wp2_with (go_at_call 102; refine hM.mono ?_; rintro e w' ⟨rfl, k, rfl⟩)
    go_ret2
    exact Ret.of (rfl) (by repeat (first | exact Drew.refl _ | apply Drew.drewN | apply Drew.drew))

theorem infoI64 : (Try.prog.info? 2).map (fun i => (i.zero, i.size, i.bytes)) = some (some (.int .i64 0), 1, 8) := by kernel_rfl

theorem split_New_no (n : Int) (w : World) (h : n < 1 ∨ 64 < n) :
    Calls Try.prog 70 #[.int .i64 n] w (Ret (.tuple #[.pointer none, .int .i64 2]) w) := by
  rcases h with h | h
  all_goals
    go_enter Try.func70, Try.ntmps70
    go_wp2
    go_ret2
    exact Ret.of (rfl) (by repeat (first | exact Drew.refl _ | apply Drew.drewN | apply Drew.drew))

theorem in64_rep (n : Nat) : ∀ i, i < (List.replicate n (0 : Int)).length → In64 (nth (List.replicate n 0) i) := by
  intro i _
  rw [nth_rep]; decide

theorem split_New_ok (n : Nat) (w : World) (h1 : 1 ≤ n) (h2 : n ≤ 64) :
    Calls Try.prog 70 #[.int .i64 n] w (Rets (.tuple #[.pointer (some ⟨w.heap.size + 1, 0, none⟩), .int .i64 0]) [] w fun w' => w.heap.size + 1 < w'.heap.size ∧ SplitAt 135 w' (w.heap.size + 1) w.heap.size (List.replicate n 0)) := by
  have hmk := fun w => Go.run_make_row' (P := Try.prog) 69 2 (.int .i64 0) 8 Try.underlying69 infoI64 rfl .i64 .i64 n (by omega) (by omega) w
  go_enter Try.func70, Try.ntmps70
  go_wp2
  go_ret2
  refine Rets.of ?_ (Mod.alloc (Mod.alloc (Mod.refl _ _) _) _) ⟨?_, ?_, ?_, by omega, by simpa using h1, by simpa using h2, in64_rep n⟩
  · simp
  · simp
  · have := heapNew (w.alloc (Obj.cells (madeCells #[Value.int .i64 0] n) 2)) (Obj.cells #[.slice (some ⟨w.heap.size, 0, none⟩) n n] 135)
    simpa using this
  · rw [← rowI_made]; exact heapOld (heapNew _ _)

/-- What copy does where a whole row goes over into a new row of the same length. -/
theorem copyNew (w : World) (r : Nat) (l : List Int) (hr : w.heap[r]? = some (.cells (rowI .i64 l) 2 (0,0))) :
    (Builtin.copy_ #[69, 69] 3 #[.slice (some ⟨w.heap.size, 0, none⟩) l.length l.length, .slice (some ⟨r, 0, none⟩) l.length l.length]).run Try.prog (w.alloc (.cells (madeCells #[.int .i64 0] l.length) 2)) =
      .ok (.int .i64 l.length) ((w.alloc (.cells (madeCells #[.int .i64 0] l.length) 2)).setRow w.heap.size (rowI .i64 l)) := by
  have h := run_copy_row (P := Try.prog) (w.alloc (.cells (madeCells #[.int .i64 0] l.length) 2)) 69 69 3 2 w.heap.size 0 l.length l.length ⟨r, 0, none⟩ l.length l.length (madeCells #[.int .i64 0] l.length) 2 (l.map (Value.int .i64))
    Try.underlying69 (by kernel_rfl) (heapNew _ _) (by simp) ?_ (by simp [size_madeCells]) ?_
  · rw [h]
    have e : (List.take 0 (madeCells #[Value.int IntKind.i64 0] l.length).toList ++ List.map (Value.int IntKind.i64) l ++ List.drop (0 + (List.map (Value.int IntKind.i64) l).length) (madeCells #[Value.int IntKind.i64 0] l.length).toList).toArray = rowI .i64 l := by
      rw [List.drop_eq_nil_of_le (by simp [size_madeCells])]
      simp [rowI]
    rw [e]
    simp [goInt]
  · intro j v hj
    have := cellAt (heapOld (o := .cells (madeCells #[.int .i64 0] l.length) 2) hr) j
    simp only [rowI, List.getElem?_toArray, hj] at this
    unfold Addr.add
    split
    · rename_i e; subst e; exact this
    · simpa using this
  · intro v hv; simp at hv; obtain ⟨x, _, rfl⟩ := hv; rfl

theorem add64_run (x y : Int) (hx : 0 ≤ x) (hy : 0 ≤ y) (w : World) :
    (callFunc 101 #[.int .u64 x, .int .u64 y, .int .u64 0]).run Try.prog w = .ok (.value (.tuple #[.int .u64 ((x + y) % 18446744073709551616), .int .u64 ((x + y) / 18446744073709551616)])) w := by
  rw [run_callFunc_extern Try.func101 (by kernel_rfl) (by kernel_rfl) (by kernel_rfl) (e := add64Entry) (by kernel_rfl), run_add64 x y 0 hx hy (by omega) (by omega)]
  simp [Result.andThen]

theorem add64_step (L x : Int) (hL : 0 ≤ L) (hM : L < 18446744073709551616) (hx : In64 x) (w : World) : ∃ L' C : Int, (0 ≤ L' ∧ L' < 18446744073709551616 ∧ 0 ≤ C ∧ C ≤ 1 ∧ L' + C * 18446744073709551616 = L + x + (if x < 0 then 18446744073709551616 else 0)) ∧
    (callFunc 101 #[.int .u64 L, .int .u64 (IntKind.u64.wrap x), .int .u64 0]).run Try.prog w = .ok (.value (.tuple #[.int .u64 L', .int .u64 C])) w := by
  have hw : IntKind.u64.wrap x = x % 18446744073709551616 := by simp [IntKind.wrap, IntKind.signed, IntKind.bits]
  obtain ⟨h1, h2⟩ := hx
  refine ⟨_, _, ?_, add64_run L (IntKind.u64.wrap x) hL (by rw [hw]; omega) w⟩
  rw [hw]
  split <;> omega

theorem take_sum_succ (l : List Int) (k : Nat) (h : k < l.length) : (l.take (k + 1)).sum = (l.take k).sum + nth l k := by
  rw [List.take_succ_eq_append_getElem h, List.sum_append]
  simp [nth, List.getD, h]

set_option maxRecDepth 100000 in
theorem split_Sum (b r : Nat) (l : List Int) (w : World) (h : SplitAt 135 w b r l) :
    Calls Try.prog 76 #[.pointer (some ⟨b, 0, none⟩)] w (Ret (.tuple #[.int .i64 (sSumV l), .int .i64 (sSumE l)]) w) := by
  have hlp := h.pos
  have hll := h.le
  have c0 : w.cell? ⟨b, 0, none⟩ = some (.slice (some ⟨r, 0, none⟩) l.length l.length) := cellAt h.hb 0
  have cr : ∀ i, i < l.length → w.cell? ⟨r, i, none⟩ = some (.int .i64 (nth l i)) := fun i hi => (cellAt h.hr i).trans (rowI_get hi)
  have hin := h.inb
  clear h
  go_enter Try.func76, Try.ntmps76
  go_wp2
  go_loopg [4, 5, 17] l.length (fun g hi lo i wr => ∃ (k : Nat) (H L : Int), i = .int .i64 k ∧ k + g = l.length ∧ hi = .int .i64 H ∧ lo = .int .u64 L ∧ Hid (H * 18446744073709551616 + L = (l.take k).sum) ∧ 0 ≤ L ∧ L < 18446744073709551616 ∧ -(k : Int) ≤ H ∧ H ≤ k ∧ w = wr)
  case atStart => exact ⟨0, 0, 0, rfl, by omega, rfl, rfl, rfl, by omega, by omega, by omega, by omega, rfl⟩
  case round =>
    obtain ⟨k, H, L, rfl, hk, rfl, rfl, hS, hL0, hL1, hH0, hH1, rfl⟩ := hrel
    by_cases hkl : k < l.length
    · have ck := cr k hkl
      have hn := hin k hkl
      have hT := Lib.hid (take_sum_succ l k hkl)
      clear cr hin
      obtain ⟨L', C, hB, hadd⟩ := add64_step L (nth l k) hL0 hL1 hn w
      obtain ⟨hB1, hB2, hB3, hB4, hB5⟩ := hB
      have hB5 := Lib.hid hB5
      obtain ⟨hn1, hn2⟩ := hn
      generalize nth l k = x at *
      go_wp2
      go_roundg (gk - 1)
      case measure => omega
      case rel =>
        have h5 := hB5.out
        have hT' := hT.out
        have hS' := hS.out
        refine ⟨k + 1, _, L', by go_num, by omega, rfl, rfl, ?_, by omega, by omega, ?_, ?_, rfl⟩
        · show _ = _
          rw [hT']
          split at h5 <;> omega
        · split at h5 <;> omega
        · split at h5 <;> omega
    · have hk' : k = l.length := by omega
      have hS' := hS.out
      rw [hk', List.take_length] at hS'
      clear cr hin hS
      by_cases hL : L < 9223372036854775808
      · by_cases hH : H = 0
        · subst hH
          have e1 : sSumV l = L := (if_pos (show In64 l.sum by unfold In64; omega)).trans (by omega)
          have e2 : sSumE l = 0 := if_pos (show In64 l.sum by unfold In64; omega)
          have E1 := Lib.hid e1
          have E2 := Lib.hid e2
          clear e1 e2 hS'
          have e3 : L / 9223372036854775808 = 0 := by omega
          go_wp2
          go_ret2
          exact Ret.of (by rw [E1.out, E2.out]; rfl) (by repeat (first | exact Drew.refl _ | apply Drew.drewN | apply Drew.drew))
        · have e1 : sSumV l = 0 := if_neg (show ¬ In64 l.sum by unfold In64; omega)
          have e2 : sSumE l = 16 := if_neg (show ¬ In64 l.sum by unfold In64; omega)
          have E1 := Lib.hid e1
          have E2 := Lib.hid e2
          clear e1 e2 hS'
          have e3 : L / 9223372036854775808 = 0 := by omega
          go_wp2
          go_ret2
          exact Ret.of (by rw [E1.out, E2.out]; rfl) (by repeat (first | exact Drew.refl _ | apply Drew.drewN | apply Drew.drew))
      · have e4 : wrap64 L = L - 18446744073709551616 := by unfold wrap64; omega
        by_cases hH : H = -1
        · subst hH
          have e1 : sSumV l = L - 18446744073709551616 := (if_pos (show In64 l.sum by unfold In64; omega)).trans (by omega)
          have e2 : sSumE l = 0 := if_pos (show In64 l.sum by unfold In64; omega)
          have E1 := Lib.hid e1
          have E2 := Lib.hid e2
          clear e1 e2 hS'
          have e3 : (L - 18446744073709551616) / 9223372036854775808 = -1 := by omega
          go_wp2
          go_ret2
          exact Ret.of (by rw [E1.out, E2.out]; rfl) (by repeat (first | exact Drew.refl _ | apply Drew.drewN | apply Drew.drew))
        · have e1 : sSumV l = 0 := if_neg (show ¬ In64 l.sum by unfold In64; omega)
          have e2 : sSumE l = 16 := if_neg (show ¬ In64 l.sum by unfold In64; omega)
          have E1 := Lib.hid e1
          have E2 := Lib.hid e2
          clear e1 e2 hS'
          have e3 : (L - 18446744073709551616) / 9223372036854775808 = -1 := by omega
          go_wp2
          go_ret2
          exact Ret.of (by rw [E1.out, E2.out]; rfl) (by repeat (first | exact Drew.refl _ | apply Drew.drewN | apply Drew.drew))

theorem split_may_nil (c : Int) (w : World) : Calls Try.prog 102 #[.pointer none, .int .i64 c] w (Ret (.int .i64 1) w) := by
  go_enter Try.func102, Try.ntmps102
  go_wp2
  go_ret
  exact Ret.of (rfl) (by repeat (first | exact Drew.refl _ | apply Drew.drewN | apply Drew.drew))
theorem split_Add_nil (c n : Int) (w : World) : Calls Try.prog 79 #[.pointer none, .int .i64 c, .int .i64 n] w (Ret (.int .i64 1) w) := by
  go_enter Try.func79, Try.ntmps79
  go_wp2_with (go_at_call 102; refine (split_may_nil _ _).mono ?_; rintro e w' ⟨rfl, k, rfl⟩)
  go_ret
  exact Ret.of (rfl) (by repeat (first | exact Drew.refl _ | apply Drew.drewN | apply Drew.drew))
theorem split_Get_nil (c : Int) (w : World) : Calls Try.prog 77 #[.pointer none, .int .i64 c] w (Ret (.tuple #[.int .i64 0, .int .i64 1]) w) := by
  go_enter Try.func77, Try.ntmps77
  go_wp2_with (go_at_call 102; refine (split_may_nil _ _).mono ?_; rintro e w' ⟨rfl, k, rfl⟩)
  go_ret2
  exact Ret.of (rfl) (by repeat (first | exact Drew.refl _ | apply Drew.drewN | apply Drew.drew))
theorem split_Sum_nil (w : World) : Calls Try.prog 76 #[.pointer none] w (Ret (.tuple #[.int .i64 0, .int .i64 1]) w) := by
  go_enter Try.func76, Try.ntmps76
  go_wp2
  go_ret2
  exact Ret.of (rfl) (by repeat (first | exact Drew.refl _ | apply Drew.drewN | apply Drew.drew))
end Go.Proofs.Ytbelcmiljjndaaa
