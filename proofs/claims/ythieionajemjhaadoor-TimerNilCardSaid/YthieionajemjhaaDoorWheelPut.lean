/- The walks over a wheel's list and put. -/
import Derived.Test.YthieionajemjhaaDoorWheelAt
namespace Go.Proofs.YthieionajemjhaaDoor
set_option linter.unusedVariables false
set_option linter.unusedSimpArgs false
open Go.RowKit

/-- The list in which a thing lies that is due then. -/
def idxW (now due : Nat) : Nat := if due ≤ now then 168 else lvlW due now * 8 + digW due (lvlW due now)
theorem lvlW_le {a b : Nat} (ha : a ≤ 1152921504606846976) (hb : b ≤ 1152921504606846976) : lvlW a b ≤ 20 := by
  have hx : a ^^^ b < 2 ^ 61 := Nat.xor_lt_two_pow (by omega) (by omega)
  have := Lib.bitLen_le _ 61 (by omega) hx
  unfold lvlW
  omega
theorem idxW_le {now due : Nat} (ha : now ≤ 1152921504606846976) (hb : due ≤ 1152921504606846976) : idxW now due ≤ 168 := by
  unfold idxW
  split
  · omega
  · have := lvlW_le hb ha
    have := digW_bd due (lvlW due now)
    omega
set_option maxHeartbeats 1000000 in
theorem wheel_list (d mb : Nat) (G : Nat → Option Nat × Nat) (s : SW) (w : World) (h : WheelAt w d mb G s) (due : Nat) (hn : s.now ≤ 1152921504606846976) (hd : due ≤ 1152921504606846976) :
    Calls Tryd.prog 58 #[.pointer (some ⟨d, 0, none⟩), .int .i64 due] w (Ret (.pointer (some ⟨d, 2 + idxW s.now due, none⟩)) w) := by
  have c0 := h.cellNow
  by_cases hle : due ≤ s.now
  · have hI : idxW s.now due = 168 := if_pos hle
    rw [hI]
    clear hI
    go_enter Tryd.func58, Tryd.ntmps58
    go_wp2
    go_ret
    exact Ret.of (rfl) (by repeat (first | exact Drew.refl _ | apply Drew.drewN | apply Drew.drew))
  · have hI : idxW s.now due = lvlW due s.now * 8 + digW due (lvlW due s.now) := if_neg hle
    have hL := fun w => wheel_level due s.now hd hn (by omega) w
    have hl := lvlW_le hd hn
    have hD := fun w => wheel_digit due (lvlW due s.now) hd hl w
    have hb := digW_bd due (lvlW due s.now)
    rw [hI]
    clear hI
    generalize digW due (lvlW due s.now) = dg at *
    generalize lvlW due s.now = lv at *
    go_enter Tryd.func58, Tryd.ntmps58
    go_wp2_with (go_at_call 61; refine (hL _).mono ?_; rintro e w2 ⟨rfl, hDr⟩)
    go_quiet (first | (go_at_call 63; exact Calls.quiet_of (hD _)))
    go_wp2
    go_ret
    exact Ret.of (by simp) (hDr.drewN _)

def dueW (s : SW) (id : Int) : Nat := (dget s.dues id).getD 0
def SW.put (s : SW) (id : Int) : SW := { s with lists := upd s.lists (idxW s.now (dueW s id)) (s.lists (idxW s.now (dueW s id)) ++ [id]) }
def SW.puts (s : SW) (ids : List Int) : SW := ids.foldl SW.put s
theorem puts_now (ids : List Int) : ∀ s : SW, (s.puts ids).now = s.now := by
  induction ids with
  | nil => intro s; rfl
  | cons a l ih => intro s; exact (ih (s.put a)).trans rfl
theorem puts_dues (ids : List Int) : ∀ s : SW, (s.puts ids).dues = s.dues := by
  induction ids with
  | nil => intro s; rfl
  | cons a l ih => intro s; exact (ih (s.put a)).trans rfl
theorem puts_len (ids : List Int) : ∀ (s : SW) (k : Nat), ((s.puts ids).lists k).length ≤ (s.lists k).length + ids.length := by
  induction ids with
  | nil => intro s k; simp [SW.puts]
  | cons a l ih =>
    intro s k
    refine Nat.le_trans (ih (s.put a) k) ?_
    have : ((s.put a).lists k).length ≤ (s.lists k).length + 1 := by
      unfold SW.put upd
      simp only
      split
      · rename_i e; rw [e]; simp
      · omega
    simp only [List.length_cons]
    omega
theorem puts_snoc (s : SW) (l : List Int) (a : Int) : s.puts (l ++ [a]) = (s.puts l).put a := by simp [SW.puts]
theorem mem_take_nth {l : List Int} {j : Nat} (h : j < l.length) : l.take (j + 1) = l.take j ++ [nth l j] := by
  rw [List.take_add_one]; simp [nth, List.getD, h]

theorem wBlocks_upd {d mb : Nat} {G : Nat → Option Nat × Nat} {k : Nat} {g' : Option Nat} {c : Nat} {b : Nat} (h : b ∈ wBlocks d mb (upd G k (g', c))) : b ∈ wBlocks d mb G ∨ b ∈ lF g' := by
  rcases mem_wBlocks.1 h with h | h | ⟨j, hj, h⟩
  · exact .inl (mem_wBlocks.2 (.inl h))
  · exact .inl (mem_wBlocks.2 (.inr (.inl h)))
  · by_cases e : j = k
    · subst e; rw [upd_same] at h; exact .inr h
    · rw [upd_ne _ _ e] at h; exact .inl (mem_wBlocks.2 (.inr (.inr ⟨j, hj, h⟩)))
set_option maxRecDepth 100000 in
set_option maxHeartbeats 2000000 in
theorem wheel_put (d mb : Nat) (G : Nat → Option Nat × Nat) (s : SW) (w : World) (h : WheelAt w d mb G s) (hn : s.now ≤ 1152921504606846976) (hdd : ∀ i, dueW s i ≤ 1152921504606846976)
    (gI : Option Nat) (capI : Nat) (ids : List Int) (hI : LAt w gI capI ids) (hdis : ∀ b, b ∈ lF gI → b ∉ wBlocks d mb G) (hb : ∀ k, k ≤ 168 → (s.lists k).length + ids.length < 1000000) :
    Calls Tryd.prog 57 #[.pointer (some ⟨d, 0, none⟩), .slice (lA gI) ids.length capI] w (WheelDo d mb G (.tuple #[]) (s.puts ids) w) := by
  have hcap := hI.cap
  unfold maxLen at hcap
  obtain ⟨hcap1, hcap2⟩ := hcap
  have hlI := hI.lt
  go_enter Tryd.func57, Tryd.ntmps57
  go_wp2
  go_loopg [9] ids.length (fun gg i wr => ∃ (j : Nat) (G' : Nat → Option Nat × Nat), i = .int .i64 j ∧ j + gg = ids.length ∧ WheelAt wr d mb G' (s.puts (ids.take j)) ∧ Mod (wBlocks d mb G) w wr ∧ ∀ b, b ∈ wBlocks d mb G' → b ∈ wBlocks d mb G ∨ w.heap.size ≤ b)
  case atStart => exact ⟨0, G, rfl, by omega, h, Mod.refl _ _, fun b hb => .inl hb⟩
  case round =>
    obtain ⟨j, G', rfl, hj, h', m, hG⟩ := hrel
    by_cases hlt : j < ids.length
    · have hnow := puts_now (ids.take j) s
      have hdues := puts_dues (ids.take j) s
      have hdd' : dueW (s.puts (ids.take j)) (nth ids j) ≤ 1152921504606846976 := by unfold dueW; rw [hdues]; exact hdd _
      have hnn : (s.puts (ids.take j)).now ≤ 1152921504606846976 := by rw [hnow]; exact hn
      have hS := mem_take_nth hlt
      have hSS := Lib.hid (show s.puts (ids.take (j + 1)) = (s.puts (ids.take j)).put (nth ids j) by rw [hS, puts_snoc])
      have hkk := idxW_le hnn hdd'
      have hll := puts_len (ids.take j) s (idxW (s.puts (ids.take j)).now (dueW (s.puts (ids.take j)) (nth ids j)))
      have hb2 := hb _ hkk
      have hlen : ((s.puts (ids.take j)).lists (idxW (s.puts (ids.take j)).now (dueW (s.puts (ids.take j)) (nth ids j)))).length < 1000000 := by
        have : (ids.take j).length ≤ ids.length := by simp; omega
        omega
      clear hnow hdues hS hll hb2
      have hIr := hI.keep m hdis
      obtain ⟨bI, rfl, cj⟩ := hIr.cell hlt
      generalize s.puts (ids.take j) = s' at *
      generalize nth ids j = id at *
      have hL0 := fun (w' : World) (hh : WheelAt w' d mb G' s') => wheel_list d mb G' s' w' hh (dueW s' id) hnn hdd'
      have hl0 := h'.list _ hkk
      have hc0 := h'.cellList hkk
      have hset := fun (S : List Nat) (w1 : World) (m : Mod S wr w1) (hS) (g' : Option Nat) (cap' : Nat) (l' : List Int) (hL : LAt w1 g' cap' l') (hg) => h'.setList hkk m hS hL hg
      have hput : s'.put id = { s' with lists := upd s'.lists (idxW s'.now (dueW s' id)) (s'.lists (idxW s'.now (dueW s' id)) ++ [id]) } := rfl
      have HP := Lib.hid hput
      have hlook : (Instr.lookup 86 (.map (some mb)) (.int .i64 id) false).run Tryd.prog wr = .ok (.int .i64 (dueW s' id)) wr := by
        have := map_lookup (P := Tryd.prog) h'.map Tryd.underlying86 Tryd.underlying3 id (fun w => Tryd.zeroValue2 w)
        rw [mget_dues] at this
        rw [this]
        unfold dueW
        cases dget s'.dues id <;> rfl
      have hown := h'.own _ hkk
      have hap := fun j hj hjk => h'.apart _ j hkk hj hjk
      clear hput
      generalize hkd : idxW s'.now (dueW s' id) = k at *
      have hK := Lib.hid hkd
      clear hkd
      generalize dueW s' id = due at *
      have cM := h'.cellMap
      obtain ⟨cs, hcs, _⟩ := h'.obj
      have hsz := h'.lt
      generalize ho : 2 + k = o at *
      have hO := Lib.hid ho
      clear ho
      rw [lA_some]
      go_wp2_with (first
        | (
          go_at_call 58
          refine (hL0 _ (by exact h'.same rfl)).mono ?_
          rintro e w2 ⟨rfl, k1, rfl⟩
          )
        | (
          at_builtin
          refine wpList_append_LAt rfl _ _ rfl (by exact hl0.keep (((Mod.refl [] wr).drewN _).alloc _) (by simp)) hlen (heapNew _ _) rfl rfl ?_
          rintro g2 cap2 w2 hL2 m2 hg2
          have mA : Mod (lF (G' k).1) wr w2 := Mod.trans (S := lF (G' k).1) (T := lF (G' k).1) (((Mod.refl _ _).drewN _).alloc _) m2 (fun _ h => .inl h)
          have hdn : d ∉ lF (G' k).1 := fun hd => (hown d hd).1 rfl
          have hcs2 := mA.keep hcs hdn
          have c2 := mA.at hc0 hdn
          have f2 := freeAt hcs2 o
          have z2 := ltOf hcs2
          have H2 := Lib.hid (And.intro hL2 (And.intro mA hg2))
          clear hL2 mA hg2 m2 hcs2
          )
        )
      obtain ⟨hL2, mA, hg2⟩ := H2.out
      have hgg : ∀ b, b ∈ lF (some g2) → b ∈ lF (G' k).1 ∨ wr.heap.size ≤ b := by
        intro b hb
        simp [lF] at hb
        subst hb
        rcases hg2 with hg2 | hg2
        · exact .inl hg2
        · simp at hg2; right; omega
      have hW := hset _ w2 mA (fun b hb => ⟨(hown b hb).1, (hown b hb).2, fun j hj hjk => hap j hj (Ne.symm hjk) b hb⟩) (some g2) cap2 _ hL2 hgg
      rw [show (s'.lists k ++ [id]).length = (s'.lists k).length + 1 by simp, lA_some] at hW
      have hkb : ∀ b, b ∈ lF (G' k).1 → b ∈ wBlocks d mb G' := fun b hb => mem_wBlocks.2 (.inr (.inr ⟨k, hkk, hb⟩))
      have mB := fun v => m.trans (T := d :: lF (G' k).1) ((mA.mono (fun b hb => .inl (List.mem_cons_of_mem _ hb))).setCell (p := ⟨d, o, none⟩) (by simp) v) (fun b hb => by
        rcases List.mem_cons.1 hb with rfl | hb
        · exact .inl (mem_wBlocks.2 (.inl rfl))
        · exact hG b (hkb b hb))
      have hms := m.size
      go_roundg (gk - 1)
      case measure => omega
      case rel =>
        refine ⟨j + 1, upd G' k (some g2, cap2), by go_num, by omega, by rw [hSS.out, HP.out]; exact hW, mB _, fun b hb => ?_⟩
        rcases wBlocks_upd hb with hb | hb
        · exact hG b hb
        · rcases hgg b hb with hb | hb
          · exact hG b (hkb b hb)
          · right; omega
    · have hT : ids.take j = ids := List.take_of_length_le (by omega)
      rw [hT] at h'
      go_wp2
      go_end0
      exact ⟨rfl, G', m, h', hG⟩
end Go.Proofs.YthieionajemjhaaDoor
