/- Several texts in one (each with its own sentence below). -/
import Derived.Test.YthieionajemjhaaDoorTimerM
import Derived.Test.YthieionajemjhaaDoorBaseM
/- The document's timers in memory: a wheel for each core; the walks over davitref14. No condition but those named. -/
namespace Go.Proofs.YthieionajemjhaaDoor
set_option linter.unusedVariables false
set_option linter.unusedSimpArgs false
open Go.RowKit

def rwheelR (d now : Nat) (L : List (Int × Nat)) : Res where
  holds F w := ∃ g cap, F = rwBlocks d g ∧ RWAt w d g cap now L
  keep := by
    rintro F S w w' ⟨g, cap, rfl, h⟩ m hS
    exact ⟨g, cap, rfl, h.keep m hS⟩
  lt := by
    rintro F w ⟨g, cap, rfl, h⟩
    exact h.lt
section
variable {d now : Nat} {L : List (Int × Nat)} {F : List Nat} {w : World}
theorem rwheelDo {g : Option Nat} {v : Value} {now' : Nat} {L' : List (Int × Nat)} {e : Ending} {w' : World} : RWDo d g v now' L' w e w' → Turns (rwheelR d now' L') (rwBlocks d g) v w e w' := by
  rintro ⟨rfl, g', cap', m, x, hn⟩
  refine ⟨rfl, _, ⟨g', cap', rfl, x⟩, m.mono (by simp [rwBlocks]), fun b hb => ?_⟩
  rcases List.mem_cons.1 hb with rfl | hb
  · exact .inl List.mem_cons_self
  · rcases hn b hb with hb | hb
    · exact .inl (List.mem_cons_of_mem _ hb)
    · exact .inr hb
theorem rwheelR_Add (h : (rwheelR d now L).holds F w) (hl : L.length ≤ 100) (id due : Int) : Calls Tryd.prog 65 #[.pointer (some ⟨d, 0, none⟩), .int .i64 id, .int .i64 due] w (Turns (rwheelR d now (radd L id due)) F (.int .i64 (raddE L id due)) w) := by
  obtain ⟨g, cap, rfl, h⟩ := h
  exact (rwheel_Add d g cap now L w h id due (by omega)).mono fun e w' => rwheelDo
theorem rwheelR_Drop (h : (rwheelR d now L).holds F w) (hl : L.length ≤ 100) (id : Int) : Calls Tryd.prog 66 #[.pointer (some ⟨d, 0, none⟩), .int .i64 id] w (Turns (rwheelR d now (ddel L id)) F (.int .i64 (rdropE L id)) w) := by
  obtain ⟨g, cap, rfl, h⟩ := h
  exact (rwheel_Drop d g cap now L w h id (by omega)).mono fun e w' => rwheelDo
theorem rwheelR_Go (h : (rwheelR d now L).holds F w) (t : Int) : Calls Tryd.prog 67 #[.pointer (some ⟨d, 0, none⟩), .int .i64 t] w (Turns (rwheelR d (rgo now t) L) F (.int .i64 (rgoE now t)) w) := by
  obtain ⟨g, cap, rfl, h⟩ := h
  refine (rwheel_Go d g cap now L w h t).mono ?_
  rintro e w' ⟨rfl, m, x⟩
  exact rwheelDo ⟨rfl, g, cap, m, x, fun b hb => .inl hb⟩
theorem LAt.newInts {l : List Int} {e : Ending} {w' : World} (h : IntsDo l w e w') : NewInts l w e w' := by
  obtain ⟨g', cap', rfl, x, m, n⟩ := h
  refine ⟨lA g', cap', rfl, m, x.ints, fun b o e => ?_⟩
  cases g' with
  | none => cases e
  | some g' => cases e; exact n _ (by simp [lF])
theorem rwheelR_Due (h : (rwheelR d now L).holds F w) (hl : L.length ≤ 100) : Calls Tryd.prog 50 #[.pointer (some ⟨d, 0, none⟩)] w (NewInts (idsOf (dueL now L)) w) := by
  obtain ⟨g, cap, rfl, h⟩ := h
  exact (rwheel_Due d g cap now L w h (by omega)).mono fun e w' => LAt.newInts
theorem rwheelR_List (h : (rwheelR d now L).holds F w) (hl : L.length ≤ 100) : Calls Tryd.prog 49 #[.pointer (some ⟨d, 0, none⟩)] w (NewInts (idsOf L) w) := by
  obtain ⟨g, cap, rfl, h⟩ := h
  exact (rwheel_List d g cap now L w h (by omega)).mono fun e w' => LAt.newInts
theorem rwheelR_Next (h : (rwheelR d now L).holds F w) : Calls Tryd.prog 45 #[.pointer (some ⟨d, 0, none⟩)] w (Ret (.tuple #[.int .i64 (rnextV L), .int .i64 (rnextE L)]) w) := by
  obtain ⟨g, cap, rfl, h⟩ := h
  exact rwheel_Next d g cap now L w h
theorem rwheelR_When (h : (rwheelR d now L).holds F w) (id : Int) : Calls Tryd.prog 48 #[.pointer (some ⟨d, 0, none⟩), .int .i64 id] w (Ret (.tuple #[.int .i64 ((dget L id).getD 0 : Nat), .bool (dget L id).isSome]) w) := by
  obtain ⟨g, cap, rfl, h⟩ := h
  exact rwheel_When d g cap now L w h id
theorem rwheelR_Find (h : (rwheelR d now L).holds F w) (id : Int) : Calls Tryd.prog 46 #[.pointer (some ⟨d, 0, none⟩), .int .i64 id] w (Ret (.int .i64 (findI L id)) w) := by
  obtain ⟨g, cap, rfl, h⟩ := h
  exact rwheel_Find d g cap now L w h id
theorem findI_neg {L : List (Int × Nat)} {id : Int} : (0 ≤ findI L id) ↔ (dget L id).isSome = true := by
  unfold findI dget
  cases dfind L id 0 with
  | none => simp
  | some p => simp
theorem rwheelR_New (w : World) : Calls Tryd.prog 37 #[.int .i64 0] w (TurnsV (fun d : Nat => .tuple #[.pointer (some ⟨d, 0, none⟩), .int .i64 0]) (fun d => rwheelR d 0 []) [] w) := by
  refine (show Calls _ _ #[.int .i64 ((0 : Nat) : Int)] w _ from rwheel_New 0 ⟨by omega, by omega⟩ w).mono ?_
  rintro e w' ⟨d, rfl, x, m, h1⟩
  exact ⟨d, rfl, _, ⟨none, 0, rfl, x⟩, m, fun b hb => by simp [rwBlocks, rF] at hb; subst hb; exact .inr h1⟩
end
structure RP where
  gb : Nat
  cap : Nat
  D : Nat → Nat
/-- The document's timers: each core's wheel has its own tick. -/
def rtimersL (d : Nat) (p : RP) (n : Nat) (nw : Nat → Nat) (L : Nat → List (Int × Nat)) : List Res :=
  [Res.blk d (.cells #[.slice (some ⟨p.gb, 0, none⟩) n p.cap] 60 (0,0)), rowR 57 1 (some p.gb) p.cap n (ptrsV n p.D)] ++ (List.range n).map fun i => rwheelR (p.D i) (nw i) (L i)
def rtimersA (d : Nat) (A : TA) : Res := Res.ex fun p => Res.star (rtimersL d p A.n (fun _ => A.now) A.L)
section
variable {F0 F : List Nat} {w0 w u : World} {d : Nat} {p : RP} {n : Nat} {nw : Nat → Nat} {L : Nat → List (Int × Nat)} {A : TA}
theorem rtimersA_view (h : (rtimersA d A).holds F w) : ∃ p, On F w (rtimersL d p A.n (fun _ => A.now) A.L) w := by
  obtain ⟨p, h⟩ := h
  exact ⟨p, On.of h⟩
theorem On.rtimers (h : On F w (rtimersL d p A.n (fun _ => A.now) A.L) u) : Gain (rtimersA d A) F w u := h.gains.imp fun F' h' => ⟨p, h'⟩
theorem rtl_wheel {c : Nat} (hc : c < n) : (rtimersL d p n nw L)[2 + c]? = some (rwheelR (p.D c) (nw c) (L c)) := by
  unfold rtimersL
  rw [List.getElem?_append_right (by simp)]
  simp [hc]
theorem rtl_set (c x : Nat) (l' : List (Int × Nat)) : (rtimersL d p n nw L).set (2 + c) (rwheelR (p.D c) x l') = rtimersL d p n (upd nw c x) (upd L c l') := by
  unfold rtimersL
  rw [List.set_append_right _ _ (by simp)]
  congr 1
  apply List.ext_getElem?
  intro j
  simp only [List.length_cons, List.length_nil, Nat.reduceAdd, Nat.add_sub_cancel_left, List.getElem?_set, List.getElem?_map, List.length_map, List.length_range]
  by_cases e : c = j
  · subst e
    by_cases hc : c < n
    · simp [hc, upd_same]
    · simp [hc, List.getElem?_range, Nat.not_lt.1 hc]
  · have e2 : j ≠ c := fun x => e x.symm
    by_cases hj : j < n
    · simp [e, hj, upd_ne _ _ e2]
    · simp [e, hj]
theorem upd_self {α : Type} (f : Nat → α) (c : Nat) : upd f c (f c) = f := by
  funext j
  by_cases e : j = c
  · subst e; exact upd_same _ _ _
  · exact upd_ne _ _ e
theorem On.rcells (h : On F w (rtimersL d p n nw L) u) : u.cell? ⟨d, 0, none⟩ = some (.slice (some ⟨p.gb, 0, none⟩) n p.cap) := h.cell 0 rfl 0
theorem On.rptr (h : On F w (rtimersL d p n nw L) u) {c : Nat} (hc : c < n) : u.cell? ⟨p.gb, c, none⟩ = some (.pointer (some ⟨p.D c, 0, none⟩)) := by
  obtain ⟨F1, _, hr⟩ := h.get 1 rfl
  obtain ⟨b, e, hcell⟩ := hr.cell (j := c) (v := .pointer (some ⟨p.D c, 0, none⟩)) (by simp [ptrsV, hc])
  cases e
  exact hcell
theorem On.rcap (h : On F w (rtimersL d p n nw L) u) : n ≤ p.cap ∧ p.cap ≤ maxLen := by
  obtain ⟨F1, _, hr⟩ := h.get 1 rfl
  exact hr.cap
theorem On.rwheel (h : On F w (rtimersL d p n nw L) u) {c : Nat} (hc : c < n) : ∃ F1, (rwheelR (p.D c) (nw c) (L c)).holds F1 u := h.get _ (rtl_wheel hc)
theorem On.rwheelDo {P : Program} {f : FuncId} {args : Array Value} {v : Value} {x : Nat} {l' : List (Int × Nat)} (h : On F w (rtimersL d p n nw L) u) {c : Nat} (hc : c < n) (hh : ∀ F1, (rwheelR (p.D c) (nw c) (L c)).holds F1 u → Calls P f args u (Turns (rwheelR (p.D c) x l') F1 v u)) :
    Calls P f args u (fun e u' => e = .returned v ∧ On F w (rtimersL d p n (upd nw c x) (upd L c l')) u') := by
  have := h.call _ (rtl_wheel hc) hh
  rw [rtl_set] at this
  exact this
theorem rtimers_Is (h : (rtimersA d A).holds F w) (cpu : Int) : Calls Tryd.prog 44 #[.pointer (some ⟨d, 0, none⟩), .int .i64 cpu] w (Ret (.bool (decide (A.is cpu))) w) := by
  obtain ⟨p, hA⟩ := rtimersA_view h
  have k0 := hA.rcells
  clear hA
  by_cases h1 : 0 ≤ cpu
  · by_cases h2 : cpu < A.n
    · have hD : decide (A.is cpu) = true := decide_eq_true ⟨h1, h2⟩
      rw [hD]
      clear hD
      go_enter Tryd.func44, Tryd.ntmps44
      go_wp2
      go_ret
      exact Ret.of (by simp) (by repeat (first | exact Drew.refl _ | apply Drew.drewN | apply Drew.drew))
    · have hD : decide (A.is cpu) = false := decide_eq_false (fun x => h2 x.2)
      rw [hD]
      clear hD
      go_enter Tryd.func44, Tryd.ntmps44
      go_wp2
      go_ret
      exact Ret.of (by simp) (by repeat (first | exact Drew.refl _ | apply Drew.drewN | apply Drew.drew))
  · have hD : decide (A.is cpu) = false := decide_eq_false (fun x => h1 x.1)
    rw [hD]
    clear hD
    go_enter Tryd.func44, Tryd.ntmps44
    go_wp2
    go_ret
    exact Ret.of (by simp) (by repeat (first | exact Drew.refl _ | apply Drew.drewN | apply Drew.drew))
theorem whr_find {A : TA} {id : Int} {j : Nat} (hlt : j < A.n) (h0 : ∀ k, k < j → (dget (A.L k) id).isSome = false) (hj : (dget (A.L j) id).isSome = true) : A.whr id = some j := by
  unfold TA.whr
  rw [List.find?_eq_some_iff_getElem]
  refine ⟨hj, j, by simpa using hlt, by simp, fun k hk => ?_⟩
  simp [h0 k hk]
theorem whr_none {A : TA} {id : Int} (h0 : ∀ k, k < A.n → (dget (A.L k) id).isSome = false) : A.whr id = none := by
  unfold TA.whr
  rw [List.find?_eq_none]
  intro k hk
  rw [h0 k (List.mem_range.1 hk)]
  simp
set_option maxRecDepth 100000 in
set_option maxHeartbeats 1000000 in
theorem rtimers_Where (h : (rtimersA d A).holds F w) (id : Int) : Calls Tryd.prog 19 #[.pointer (some ⟨d, 0, none⟩), .int .i64 id] w (Ret (.tuple #[.int .i64 (A.whereV id), .bool (A.whr id).isSome]) w) := by
  obtain ⟨p, hA⟩ := rtimersA_view h
  have k0 := hA.rcells
  obtain ⟨hcap1, hcap2⟩ := hA.rcap
  unfold maxLen at hcap2
  have hyes : ∀ j, j < A.n → (∀ k, k < j → (dget (A.L k) id).isSome = false) → (dget (A.L j) id).isSome = true → A.whereV id = j ∧ (A.whr id).isSome = true := by
    intro j h1 h2 h3
    have := whr_find h1 h2 h3
    unfold TA.whereV
    rw [this]; exact ⟨rfl, rfl⟩
  have hno : (∀ k, k < A.n → (dget (A.L k) id).isSome = false) → A.whereV id = 0 ∧ (A.whr id).isSome = false := by
    intro h1
    have := whr_none h1
    unfold TA.whereV
    rw [this]; exact ⟨rfl, rfl⟩
  generalize A.whereV id = v at *
  generalize (A.whr id).isSome = b at *
  go_enter Tryd.func19, Tryd.ntmps19
  go_wp2
  go_loopg [6] A.n (fun gg i wr => ∃ j : Nat, i = .int .i64 j ∧ j + gg = A.n ∧ (∀ k, k < j → (dget (A.L k) id).isSome = false) ∧ Drew w wr)
  case atStart => exact ⟨0, rfl, by omega, by omega, Drew.refl _⟩
  case round =>
    obtain ⟨j, rfl, hj, he, hD⟩ := hrel
    have k0r := (hD.mod (S := [])).at k0 (by simp)
    by_cases hlt : j < A.n
    · have hltI : (j : Int) < A.n := by omega
      have hB := hA.keep (hD.mod (S := []))
      have kp := hB.rptr hlt
      have kp2 : wr.cell? ⟨p.gb, j, none⟩ = some (.pointer (some ⟨p.D j, 0, none⟩)) := kp
      obtain ⟨F1, hw⟩ := hB.rwheel hlt
      have hF := rwheelR_Find hw id
      have hneg := findI_neg (L := A.L j) (id := id)
      have hyj := hyes j hlt he
      clear hyes hA hB hw
      cases hs : (dget (A.L j) id).isSome
      · have hstep : ∀ k, k < j + 1 → (dget (A.L k) id).isSome = false := by
          intro k hk
          by_cases e : k = j
          · subst e; exact hs
          · exact he k (by omega)
        have q : ¬ (0 ≤ findI (A.L j) id) := fun x => by rw [hneg.1 x] at hs; cases hs
        clear hneg he hyj
        generalize findI (A.L j) id = x at *
        go_wp2_with (go_at_call 46; refine hF.mono ?_; rintro e w' ⟨rfl, k, rfl⟩)
        go_roundg (gk - 1)
        case measure => omega
        case rel => exact ⟨j + 1, by go_num, by omega, hstep, by repeat (first | exact hD | apply Drew.drewN | apply Drew.drew)⟩
      · have q : 0 ≤ findI (A.L j) id := hneg.2 hs
        obtain ⟨rfl, rfl⟩ := hyj hs
        clear hneg he
        generalize findI (A.L j) id = x at *
        go_wp2_with (go_at_call 46; refine hF.mono ?_; rintro e w' ⟨rfl, k, rfl⟩)
        go_ret2
        exact ⟨rfl, by repeat (first | exact hD | apply Drew.drewN | apply Drew.drew)⟩
    · have hltI : ¬ (j : Int) < A.n := by omega
      obtain ⟨rfl, rfl⟩ := hno (fun k hk => he k (by omega))
      clear hA hyes
      go_wp2
      go_ret2
      exact ⟨rfl, by repeat (first | exact hD | apply Drew.drewN | apply Drew.drew)⟩
end
end Go.Proofs.YthieionajemjhaaDoor

/- The walks over davitref14: When, Next, List, Ready, Cancel, Go, Fire. No condition but those named. -/
namespace Go.Proofs.YthieionajemjhaaDoor
set_option linter.unusedVariables false
set_option linter.unusedSimpArgs false
open Go.RowKit
def TA.few (A : TA) : Prop := ∀ c, c < A.n → (A.L c).length ≤ 48
section
variable {F : List Nat} {w : World} {d : Nat} {A : TA}
set_option maxRecDepth 100000 in
theorem rtimers_When (h : (rtimersA d A).holds F w) (id : Int) : Calls Tryd.prog 21 #[.pointer (some ⟨d, 0, none⟩), .int .i64 id] w (Ret (.tuple #[.int .i64 (A.whenV id), .bool (A.whr id).isSome]) w) := by
  obtain ⟨p, hA⟩ := rtimersA_view h
  have k0 := hA.rcells
  obtain ⟨hcap1, hcap2⟩ := hA.rcap
  have hW := rtimers_Where h id
  unfold TA.whereV at hW
  unfold TA.whenV
  cases hd : A.whr id with
  | none =>
    rw [hd] at hW
    clear hd hA
    go_enter Tryd.func21, Tryd.ntmps21
    go_wp2_with (go_at_call 19; refine hW.mono ?_; rintro e w' ⟨rfl, k, rfl⟩)
    go_ret2
    exact Ret.of (rfl) (by repeat (first | exact Drew.refl _ | apply Drew.drewN | apply Drew.drew))
  | some c =>
    rw [hd] at hW
    have hf := hd
    unfold TA.whr at hf
    have hc : c < A.n := List.mem_range.1 (List.mem_of_find?_eq_some hf)
    have hs : (dget (A.L c) id).isSome = true := by have := List.find?_some (p := fun c => (dget (A.L c) id).isSome) hf; exact this
    have kp := hA.rptr hc
    have hq := fun k => (hA.keep (u' := w.drewN k) ((Mod.refl _ _).drewN k)).rwheel hc
    have hwhen := fun k => rwheelR_When (hq k).choose_spec id
    rw [hs] at hwhen
    have hcz : (c : Int) < (A.n : Int) := by omega
    simp only [Option.getD_some, Option.isSome_some] at hW ⊢
    clear hd hA hf hs hq
    generalize ((dget (A.L c) id).getD 0) = v at *
    go_enter Tryd.func21, Tryd.ntmps21
    go_wp2_with (first
      | (go_at_call 19; refine hW.mono ?_; rintro e w' ⟨rfl, k, rfl⟩)
      | (go_at_call 48; refine (hwhen _).mono ?_; rintro e w' ⟨rfl, k2, rfl⟩))
    go_ret2
    exact Ret.of (rfl) (by repeat (first | exact Drew.refl _ | apply Drew.drewN | apply Drew.drew))
set_option maxRecDepth 100000 in
theorem rtimers_Next (h : (rtimersA d A).holds F w) (cpu : Int) : Calls Tryd.prog 17 #[.pointer (some ⟨d, 0, none⟩), .int .i64 cpu] w (Ret (.tuple #[.int .i64 (A.nextV cpu), .int .i64 (A.nextE cpu)]) w) := by
  obtain ⟨p, hA⟩ := rtimersA_view h
  have k0 := hA.rcells
  obtain ⟨hcap1, hcap2⟩ := hA.rcap
  have hIs := rtimers_Is h cpu
  unfold TA.nextV TA.nextE
  by_cases hi : A.is cpu
  · rw [if_neg (fun x => x hi), if_neg (fun x => x hi)]
    rw [decide_eq_true hi] at hIs
    obtain ⟨hi1, hi2⟩ := hi
    obtain ⟨c, rfl⟩ := Int.eq_ofNat_of_zero_le hi1
    have hc : c < A.n := by omega
    have kp := hA.rptr hc
    have hB := fun k => hA.keep (u' := w.drewN k) ((Mod.refl _ _).drewN k)
    have hq := fun k => (hB k).rwheel hc
    have hN := fun k => rwheelR_Next (hq k).choose_spec
    simp only [Int.toNat_natCast]
    clear hA hB hq hi1
    generalize (rnextV (A.L c) : Int) = v at *
    generalize rnextE (A.L c) = ee at *
    go_enter Tryd.func17, Tryd.ntmps17
    go_wp2_with (first
      | (go_at_call 44; refine hIs.mono ?_; rintro e w' ⟨rfl, k, rfl⟩)
      | (go_at_call 45; refine (hN _).mono ?_; rintro e w2 ⟨rfl, k2, rfl⟩))
    go_ret2
    exact Ret.of (rfl) (by repeat (first | exact Drew.refl _ | apply Drew.drewN | apply Drew.drew))
  · rw [if_pos hi, if_pos hi]
    rw [decide_eq_false hi] at hIs
    clear hA hi
    go_enter Tryd.func17, Tryd.ntmps17
    go_wp2_with (go_at_call 44; refine hIs.mono ?_; rintro e w' ⟨rfl, k, rfl⟩)
    go_ret2
    exact Ret.of (rfl) (by repeat (first | exact Drew.refl _ | apply Drew.drewN | apply Drew.drew))
set_option maxRecDepth 100000 in
theorem rtimers_List (h : (rtimersA d A).holds F w) (hf : A.few) (cpu : Int) : Calls Tryd.prog 22 #[.pointer (some ⟨d, 0, none⟩), .int .i64 cpu] w (NewInts (A.list cpu) w) := by
  obtain ⟨p, hA⟩ := rtimersA_view h
  have k0 := hA.rcells
  obtain ⟨hcap1, hcap2⟩ := hA.rcap
  have hIs := rtimers_Is h cpu
  unfold TA.list
  by_cases hi : A.is cpu
  · rw [if_pos hi]
    rw [decide_eq_true hi] at hIs
    obtain ⟨hi1, hi2⟩ := hi
    obtain ⟨c, rfl⟩ := Int.eq_ofNat_of_zero_le hi1
    have hc : c < A.n := by omega
    have kp := hA.rptr hc
    have hB := fun k => hA.keep (u' := w.drewN k) ((Mod.refl _ _).drewN k)
    have hq := fun k => (hB k).rwheel hc
    have hN := fun k => rwheelR_List (hq k).choose_spec (by have := hf c hc; omega)
    simp only [Int.toNat_natCast]
    clear hA hB hq hi1
    generalize idsOf (A.L c) = v at *
    go_enter Tryd.func22, Tryd.ntmps22
    go_wp2_with (first
      | (go_at_call 44; refine hIs.mono ?_; rintro e w' ⟨rfl, k, rfl⟩)
      | (go_at_call 49; refine (hN _).mono ?_; rintro e w2 ⟨a2, c2, rfl, m2, i2, n2⟩))
    go_ret
    exact ⟨a2, c2, rfl, m2.undrewN, i2, n2⟩
  · rw [if_neg hi]
    rw [decide_eq_false hi] at hIs
    clear hA hi
    go_enter Tryd.func22, Tryd.ntmps22
    go_wp2_with (go_at_call 44; refine hIs.mono ?_; rintro e w' ⟨rfl, k, rfl⟩)
    go_ret
    exact ⟨none, 0, rfl, (Mod.refl _ _).drewN _, .inl rfl, fun b o e => by cases e⟩
set_option maxRecDepth 100000 in
theorem rtimers_Ready (h : (rtimersA d A).holds F w) (hf : A.few) (cpu : Int) : Calls Tryd.prog 23 #[.pointer (some ⟨d, 0, none⟩), .int .i64 cpu] w (fun e w' => e = .returned (.bool (A.ready cpu)) ∧ Mod [] w w') := by
  obtain ⟨p, hA⟩ := rtimersA_view h
  have k0 := hA.rcells
  obtain ⟨hcap1, hcap2⟩ := hA.rcap
  have hIs := rtimers_Is h cpu
  unfold TA.ready TA.due
  by_cases hi : A.is cpu
  · rw [decide_eq_true hi]
    rw [decide_eq_true hi] at hIs
    obtain ⟨hi1, hi2⟩ := hi
    obtain ⟨c, rfl⟩ := Int.eq_ofNat_of_zero_le hi1
    have hc : c < A.n := by omega
    have kp := hA.rptr hc
    have hB := fun k => hA.keep (u' := w.drewN k) ((Mod.refl _ _).drewN k)
    have hq := fun k => (hB k).rwheel hc
    have hN := fun k => rwheelR_Due (hq k).choose_spec (by have := hf c hc; omega)
    simp only [Int.toNat_natCast]
    have hle : (true && !(dueL A.now (A.L c)).isEmpty) = decide ((0 : Int) < (idsOf (dueL A.now (A.L c))).length) := by
      cases dueL A.now (A.L c) <;> simp [idsOf]
    rw [hle]
    clear hA hB hq hi1 hle
    generalize idsOf (dueL A.now (A.L c)) = v at *
    go_enter Tryd.func23, Tryd.ntmps23
    go_wp2_with (first
      | (go_at_call 44; refine hIs.mono ?_; rintro e w' ⟨rfl, k, rfl⟩)
      | (go_at_call 50; refine (hN _).mono ?_; rintro e w2 ⟨a2, c2, rfl, m2, i2, n2⟩))
    go_ret
    exact ⟨by simp, m2.undrewN⟩
  · rw [decide_eq_false hi]
    rw [decide_eq_false hi] at hIs
    clear hA hi
    go_enter Tryd.func23, Tryd.ntmps23
    go_wp2_with (go_at_call 44; refine hIs.mono ?_; rintro e w' ⟨rfl, k, rfl⟩)
    go_ret
    exact ⟨by simp, (Mod.refl _ _).drewN _⟩
set_option maxRecDepth 100000 in
set_option maxHeartbeats 1000000 in
theorem rtimers_Cancel (h : (rtimersA d A).holds F w) (hf : A.few) (id : Int) : Calls Tryd.prog 39 #[.pointer (some ⟨d, 0, none⟩), .int .i64 id] w (Turns (rtimersA d (A.cancel id)) F (.int .i64 (A.cancelE id)) w) := by
  obtain ⟨p, hA⟩ := rtimersA_view h
  have k0 := hA.rcells
  obtain ⟨hcap1, hcap2⟩ := hA.rcap
  have hW := rtimers_Where h id
  unfold TA.whereV at hW
  unfold TA.cancelE TA.cancel
  cases hd : A.whr id with
  | none =>
    rw [hd] at hW
    have hg := fun k => (hA.keep (u' := w.drewN k) ((Mod.refl _ _).drewN k)).rtimers
    clear hd hA
    go_enter Tryd.func39, Tryd.ntmps39
    go_wp2_with (go_at_call 19; refine hW.mono ?_; rintro e w' ⟨rfl, k, rfl⟩)
    go_ret
    exact ⟨rfl, hg _⟩
  | some c =>
    rw [hd] at hW
    have hf2 := hd
    unfold TA.whr at hf2
    have hc : c < A.n := List.mem_range.1 (List.mem_of_find?_eq_some hf2)
    have hs : (dget (A.L c) id).isSome = true := by have := List.find?_some (p := fun c => (dget (A.L c) id).isSome) hf2; exact this
    have kp := hA.rptr hc
    have hcz : (c : Int) < (A.n : Int) := by omega
    have hdr : rdropE (A.L c) id = 0 := if_pos hs
    have hlen := hf c hc
    simp only [Option.getD_some, Option.isSome_some] at hW ⊢
    clear hd hf2 hs
    go_enter Tryd.func39, Tryd.ntmps39
    go_wp2_with (first
      | (go_at_call 19; refine hW.mono ?_; rintro e w' ⟨rfl, k, rfl⟩)
      | (
        go_at_call 66
        refine ((hA.keep (u' := w.drewN k) ((Mod.refl _ _).drewN k)).rwheelDo hc (fun F1 h1 => rwheelR_Drop h1 (by omega) id)).mono ?_
        rintro e w2 ⟨rfl, hB⟩
        rw [upd_self (fun _ => A.now)] at hB
        ))
    go_ret
    exact ⟨rfl, On.rtimers (A := A.put c (ddel (A.L c) id)) hB⟩
set_option maxRecDepth 100000 in
set_option maxHeartbeats 1000000 in
theorem rtimers_Go (h : (rtimersA d A).holds F w) (h1 : 1 ≤ A.n) (T : Int) : Calls Tryd.prog 40 #[.pointer (some ⟨d, 0, none⟩), .int .i64 T] w (Turns (rtimersA d (A.go T)) F (.int .i64 (A.goE T)) w) := by
  obtain ⟨p, hA⟩ := rtimersA_view h
  have k0 := hA.rcells
  obtain ⟨hcap1, hcap2⟩ := hA.rcap
  unfold maxLen at hcap2
  have kp := hA.rptr (c := 0) h1
  have hz : (0 : Int) < (A.n : Int) := by omega
  have hst : ∀ j, (upd (fun c => if c < j then rgo A.now T else A.now) j (rgo A.now T)) = fun c => if c < j + 1 then rgo A.now T else A.now := by
    intro j
    funext c
    by_cases e : c = j
    · subst e; rw [upd_same, if_pos (by omega)]
    · rw [upd_ne _ _ e]
      by_cases hh : c < j
      · simp [hh, show c < j + 1 by omega]
      · simp [hh, show ¬ c < j + 1 by omega]
  have hst0 := hst 0
  unfold TA.goE
  go_enter Tryd.func40, Tryd.ntmps40
  go_wp2_with (
    go_at_call 67
    refine (hA.rwheelDo h1 (fun F1 h1 => rwheelR_Go h1 T)).mono ?_
    rintro e w2 ⟨rfl, hB⟩
    )
  have hB : On F w (rtimersL d p A.n (fun c => if c < 1 then rgo A.now T else A.now) A.L) w2 := by
    have e1 : upd (fun _ => A.now) 0 (rgo A.now T) = fun c => if c < 1 then rgo A.now T else A.now := by simpa using hst0
    rw [e1, upd_self A.L] at hB
    exact hB
  clear hA k0 kp hst0
  go_loopg [6] A.n (fun gg i wr => ∃ j : Nat, i = .int .i64 j ∧ j + gg = A.n + 1 ∧ (1 ≤ j ∧ j ≤ A.n) ∧ On F w (rtimersL d p A.n (fun c => if c < j then rgo A.now T else A.now) A.L) wr)
  case atStart => exact ⟨1, rfl, by omega, by omega, hB⟩
  case round =>
    clear hB
    obtain ⟨j, rfl, hj, hj1, hB⟩ := hrel
    have k0 := hB.rcells
    by_cases hlt : j < A.n
    · have hltI : (j : Int) < A.n := by omega
      have kp := hB.rptr hlt
      have kp2 : wr.cell? ⟨p.gb, j, none⟩ = some (.pointer (some ⟨p.D j, 0, none⟩)) := kp
      go_wp2_with (
        go_at_call 67
        refine (hB.rwheelDo hlt (fun F1 h1 => by rw [if_neg (Nat.lt_irrefl j)] at h1; exact rwheelR_Go h1 T)).mono ?_
        rintro e w3 ⟨rfl, hC⟩
        rw [hst, upd_self A.L] at hC
        )
      go_roundg (gk - 1)
      case measure => omega
      case rel => exact ⟨j + 1, by go_num, by omega, by omega, hC⟩
    · have hltI : ¬ ((j : Int) < A.n) := by omega
      obtain rfl : j = A.n := by omega
      go_wp2
      go_ret
      refine ⟨rfl, On.rtimers (A := A.go T) (p := p) (hB.imp fun F' hF' => ⟨F', ?_, fun _ h => h⟩)⟩
      have e : rtimersL d p A.n (fun c => if c < A.n then rgo A.now T else A.now) A.L = rtimersL d p (A.go T).n (fun _ => (A.go T).now) (A.go T).L := by
        unfold rtimersL
        congr 1
        refine List.map_congr_left fun i hi => ?_
        show rwheelR _ (if i < A.n then rgo A.now T else A.now) _ = rwheelR _ (rgo A.now T) _
        rw [if_pos (List.mem_range.1 hi)]
        rfl
      rw [← e]
      exact hF'
end
end Go.Proofs.YthieionajemjhaaDoor

/- The walks over davitref14: Arm, Fire, Move, New. No condition but those named. -/
namespace Go.Proofs.YthieionajemjhaaDoor
set_option linter.unusedVariables false
set_option linter.unusedSimpArgs false
open Go.RowKit
/-- A slice of ints that was made. -/
def intsR (a : Option Addr) (l : List Int) : Res where
  holds F w := (l = [] ∧ F = []) ∨ ∃ b, a = some ⟨b, 0, none⟩ ∧ F = [b] ∧ b < w.heap.size ∧ ∀ j, j < l.length → w.cell? ⟨b, j, none⟩ = some (.int .i64 (nth l j))
  keep := by
    rintro F S w w' (h | ⟨b, h1, h2, h3, h4⟩) m hS
    · exact .inl h
    · exact .inr ⟨b, h1, h2, Nat.lt_of_lt_of_le h3 m.size, fun j hj => m.at (h4 j hj) (hS b (by rw [h2]; exact List.mem_singleton_self _))⟩
  lt := by
    rintro F w (⟨h1, h2⟩ | ⟨b, h1, h2, h3, h4⟩) b' hb
    · rw [h2] at hb; cases hb
    · rw [h2, List.mem_singleton] at hb; subst hb; exact h3
theorem On.newInts {F0 : List Nat} {w0 u u' : World} {l : List Res} (h : On F0 w0 l u) {a : Option Addr} {x : List Int} (m : Mod [] u u') (hi : IsInts u' a x) (hn : IsNew u a) : On F0 w0 (l ++ [intsR a x]) u' := by
  obtain ⟨F, h1, h2, h3⟩ := h
  have hl := h1.lt
  have hs := h2.size
  rcases hi with hi | ⟨b, e1, e2, e3⟩
  · exact ⟨F ++ [], Stars.append.2 ⟨F, [], rfl, h1.keep m (by simp), ⟨[], [], rfl, .inl ⟨hi, rfl⟩, rfl, by simp⟩, by simp⟩, h2.trans m (by simp), by simpa using h3⟩
  · have hb := hn b 0 e1
    refine ⟨F ++ [b], Stars.append.2 ⟨F, [b], rfl, h1.keep m (by simp), ⟨[b], [], rfl, .inr ⟨b, e1, rfl, e2, e3⟩, rfl, by simp⟩, fun b' hb1 hb2 => ?_⟩, h2.trans m (by simp), fun b' hb1 => ?_⟩
    · rw [List.mem_singleton] at hb2; subst hb2; have := hl _ hb1; omega
    · rcases List.mem_append.1 hb1 with hb1 | hb1
      · exact h3 b' hb1
      · rw [List.mem_singleton] at hb1; subst hb1; exact .inr (by omega)
theorem On.ints {F0 : List Nat} {w0 u : World} {l : List Res} (h : On F0 w0 l u) (k : Nat) {a : Option Addr} {x : List Int} (hk : l[k]? = some (intsR a x)) : IsInts u a x := by
  obtain ⟨F, h1⟩ := h.get k hk
  rcases h1 with ⟨h1, _⟩ | ⟨b, h1, h2, h3, h4⟩
  · exact .inl h1
  · exact .inr ⟨b, h1, h3, h4⟩
section
variable {F : List Nat} {w u : World} {d : Nat} {A : TA} {p : RP} {n : Nat} {nw : Nat → Nat} {L : Nat → List (Int × Nat)} {m : List Res}
theorem rtl_len : (rtimersL d p n nw L).length = 2 + n := by simp [rtimersL]; omega
theorem On.rwheelDoM {P : Program} {f : FuncId} {args : Array Value} {v : Value} {l' : List (Int × Nat)} (h : On F w (rtimersL d p n nw L ++ m) u) {c : Nat} (hc : c < n) (hh : ∀ F1, (rwheelR (p.D c) (nw c) (L c)).holds F1 u → Calls P f args u (Turns (rwheelR (p.D c) (nw c) l') F1 v u)) :
    Calls P f args u (fun e u' => e = .returned v ∧ On F w (rtimersL d p n nw (upd L c l') ++ m) u') := by
  have hlt : 2 + c < (rtimersL d p n nw L).length := by rw [rtl_len]; omega
  have := h.call (2 + c) (by rw [List.getElem?_append_left hlt]; exact rtl_wheel hc) hh
  rw [List.set_append_left _ _ hlt, rtl_set, upd_self] at this
  exact this
theorem whr_none_at {id : Int} (h : A.whr id = none) {c : Nat} (hc : c < A.n) : dget (A.L c) id = none := by
  unfold TA.whr at h
  have := List.find?_eq_none.1 h c (List.mem_range.2 hc)
  cases hd : dget (A.L c) id with
  | none => rfl
  | some v => rw [hd] at this; exact absurd rfl this
theorem whr_keys {k : Nat} (hk : 1 ≤ k) : (A.whr (k : Int)).isSome = true ↔ k ∈ A.keys := by
  unfold TA.keys
  simp only [List.mem_flatMap, List.mem_range, List.mem_map]
  constructor
  · intro h
    obtain ⟨c, hc⟩ := Option.isSome_iff_exists.1 h
    unfold TA.whr at hc
    have h1 : c < A.n := List.mem_range.1 (List.mem_of_find?_eq_some hc)
    have h2 : (dget (A.L c) (k : Int)).isSome = true := by have := List.find?_some (p := fun c => (dget (A.L c) (k : Int)).isSome) hc; exact this
    obtain ⟨v, hv⟩ := Option.isSome_iff_exists.1 h2
    exact ⟨c, h1, _, dget_mem hv, by simp⟩
  · rintro ⟨c, hc, q, hq, e⟩
    cases hw : A.whr (k : Int) with
    | some c => rfl
    | none =>
      have h1 := whr_none_at hw hc
      have : q.1 = (k : Int) := by omega
      exact absurd (List.mem_map.2 ⟨q, hq, this⟩) (not_key h1)
theorem low_at {j : Nat} (h1 : 1 ≤ j) (h2 : ∀ k, 1 ≤ k → k < j → (A.whr (k : Int)).isSome = true) (h3 : A.whr (j : Int) = none) : A.low = j := by
  refine (lowN_spec A.keys).1.unique ⟨h1, fun hm => ?_, fun k hk hlt => (whr_keys hk).1 (h2 k hk hlt)⟩
  have := (whr_keys h1).2 hm
  rw [h3] at this
  cases this
theorem low_gt {j : Nat} (h2 : ∀ k, 1 ≤ k → k < j → (A.whr (k : Int)).isSome = true) (h1 : 1 ≤ j) : j ≤ A.low := by
  apply Classical.byContradiction
  intro hn
  have h3 := (lowN_spec A.keys).1
  exact h3.2.1 ((whr_keys h3.1).1 (h2 _ h3.1 (Nat.lt_of_not_le hn)))
set_option maxRecDepth 100000 in
set_option maxHeartbeats 1000000 in
theorem rtimers_Arm (h : (rtimersA d A).holds F w) (hf : A.few) (cpu due : Int) : Calls Tryd.prog 38 #[.pointer (some ⟨d, 0, none⟩), .int .i64 cpu, .int .i64 due] w (Turns (rtimersA d (A.arm cpu due)) F (.tuple #[.int .i64 (A.armV cpu due), .int .i64 (A.armE cpu due)]) w) := by
  obtain ⟨p, hA⟩ := rtimersA_view h
  have k0 := hA.rcells
  obtain ⟨hcap1, hcap2⟩ := hA.rcap
  have hIs := rtimers_Is h cpu
  have hg := fun u (m : Mod [] w u) => (hA.keep m).rtimers
  by_cases hi : A.is cpu
  case neg =>
    have hE : A.armE cpu due = 3 := by unfold TA.armE; rw [if_pos hi]
    unfold TA.arm TA.armV
    rw [hE]
    rw [decide_eq_false hi] at hIs
    clear hA hi hE
    go_enter Tryd.func38, Tryd.ntmps38
    go_wp2_with (go_at_call 44; refine hIs.mono ?_; rintro e w' ⟨rfl, k, rfl⟩)
    go_ret2
    exact ⟨rfl, hg _ ((Mod.refl _ _).drewN _)⟩
  have hi0 := hi
  rw [decide_eq_true hi] at hIs
  obtain ⟨hi1, hi2⟩ := hi
  obtain ⟨c, rfl⟩ := Int.eq_ofNat_of_zero_le hi1
  have hc : c < A.n := by omega
  have kp := hA.rptr hc
  have hB := fun k => hA.keep (u' := w.drewN k) ((Mod.refl _ _).drewN k)
  by_cases hd : tickOk due
  case neg =>
    have hE : A.armE c due = 2 := by unfold TA.armE; rw [if_neg (fun x => x hi0), if_pos hd]
    unfold TA.arm TA.armV
    rw [hE]
    have hd2 : due < 0 ∨ (0 ≤ due ∧ 1152921504606846976 < due) := by unfold tickOk at hd; omega
    clear hA hE hB hd hi0
    rcases hd2 with hd2 | ⟨hd1, hd2⟩
    all_goals
      go_enter Tryd.func38, Tryd.ntmps38
      go_wp2_with (go_at_call 44; refine hIs.mono ?_; rintro e w' ⟨rfl, k, rfl⟩)
      go_ret2
      exact ⟨rfl, hg _ ((Mod.refl _ _).drewN _)⟩
  have hd1 := hd.1
  have hd2 := hd.2
  have hcz : (c : Int) < (A.n : Int) := by omega
  have hEq : A.armE c due = if 48 < A.low then 5 else 0 := by unfold TA.armE; rw [if_neg (fun x => x hi0), if_neg (fun x => x hd)]
  have HEq := Lib.hid hEq
  clear hEq
  have hlen := hf c hc
  have hWh := fun u (m : Mod [] w u) (id : Int) => rtimers_Where ((rtimersA d A).keep h m (by simp)) id
  clear hi1 hi0 hB
  go_enter Tryd.func38, Tryd.ntmps38
  go_wp2_with (go_at_call 44; refine hIs.mono ?_; rintro e w' ⟨rfl, k, rfl⟩)
  go_loopg [8] 48 (fun gg i wr => ∃ j : Nat, i = .int .i64 j ∧ j + gg = 49 ∧ 1 ≤ j ∧ (∀ q, 1 ≤ q → q < j → (A.whr (q : Int)).isSome = true) ∧ Drew w wr)
  case atStart => exact ⟨1, rfl, by omega, by omega, by omega, ⟨k, rfl⟩⟩
  case round =>
    obtain ⟨j, rfl, hj, hj1, hall, hD⟩ := hrel
    have mD := hD.mod (S := [])
    have hW := hWh _ mD j
    have k0r := mD.at k0 (by simp)
    have kpr := mD.at kp (by simp)
    by_cases hlt : j ≤ 48
    · have hltI : (j : Int) ≤ 48 := by omega
      have hBr := hA.keep mD
      cases hw : A.whr (j : Int) with
      | some c' =>
        rw [hw] at hW
        have hstep : ∀ q, 1 ≤ q → q < j + 1 → (A.whr (q : Int)).isSome = true := by
          intro q h1 h2
          by_cases e : q = j
          · subst e; rw [hw]; rfl
          · exact hall q h1 (by omega)
        simp only [Option.isSome_some] at hW
        clear hall hA hBr hw
        go_wp2_with (go_at_call 19; refine hW.mono ?_; rintro e w' ⟨rfl, k, rfl⟩)
        go_roundg (gk - 1)
        case measure => omega
        case rel => exact ⟨j + 1, by go_num, by omega, by omega, hstep, by repeat (first | exact hD | apply Drew.drewN | apply Drew.drew)⟩
      | none =>
        rw [hw] at hW
        have hlow := low_at hj1 hall hw
        have hE : A.armE c due = 0 := by rw [HEq.out, if_neg (by omega)]
        have hno := whr_none_at hw hc
        have hadd : raddE (A.L c) j due = 0 := by
          unfold raddE
          rw [if_neg (by simpa using hd), hno]
          rfl
        have hins : radd (A.L c) j due = insL (A.L c) j due.toNat := by unfold radd; rw [if_pos hadd]
        unfold TA.arm TA.armV
        rw [hE, if_pos rfl, if_pos rfl, hlow]
        simp only [Int.toNat_natCast]
        simp only [Option.isSome_none] at hW
        clear hall hA hw HEq hE hno hd
        go_wp2_with (first
          | (go_at_call 19; refine hW.mono ?_; rintro e w' ⟨rfl, k2, rfl⟩)
          | (
            go_at_call 65
            refine ((hBr.keep (u' := wr.drewN k2) ((Mod.refl _ _).drewN _)).rwheelDo hc (fun F1 h1 => rwheelR_Add h1 (by omega) j due)).mono ?_
            rintro e w5 ⟨rfl, hG⟩
            rw [upd_self (fun _ => A.now), hins] at hG
            ))
        go_ret2
        exact ⟨rfl, On.rtimers (A := A.put c (insL (A.L c) j due.toNat)) hG⟩
    · have hltI : ¬ (j : Int) ≤ 48 := by omega
      have hlow := low_gt hall hj1
      have hE : A.armE c due = 5 := by rw [HEq.out, if_pos (by omega)]
      have e1 : A.arm c due = A := by unfold TA.arm; rw [if_neg (by rw [hE]; decide)]
      have e2 : A.armV c due = 0 := by unfold TA.armV; rw [if_neg (by rw [hE]; decide)]
      have HH := Lib.hid (And.intro e1 (And.intro e2 hE))
      clear hA hall HEq hE e1 e2
      go_wp2
      go_ret2
      obtain ⟨e1, e2, hE⟩ := HH.out
      rw [e1, e2, hE]
      exact ⟨rfl, hg _ mD⟩
set_option maxRecDepth 100000 in
set_option maxHeartbeats 1000000 in
theorem rtimers_Fire (h : (rtimersA d A).holds F w) (hf : A.few) (cpu : Int) : Calls Tryd.prog 41 #[.pointer (some ⟨d, 0, none⟩), .int .i64 cpu] w (Turns (rtimersA d (A.fire cpu)) F (.tuple #[.int .i64 (A.fireV cpu), .int .i64 (A.fireE cpu)]) w) := by
  obtain ⟨p, hA⟩ := rtimersA_view h
  have k0 := hA.rcells
  obtain ⟨hcap1, hcap2⟩ := hA.rcap
  have hIs := rtimers_Is h cpu
  have hg := fun u (m : Mod [] w u) => (hA.keep m).rtimers
  unfold TA.fire TA.fireV
  by_cases hi : A.is cpu
  case neg =>
    have hE : A.fireE cpu = 3 := by unfold TA.fireE; rw [if_pos hi]
    rw [hE]
    rw [decide_eq_false hi] at hIs
    clear hA hi hE
    go_enter Tryd.func41, Tryd.ntmps41
    go_wp2_with (go_at_call 44; refine hIs.mono ?_; rintro e w' ⟨rfl, k, rfl⟩)
    go_ret2
    exact ⟨rfl, hg _ ((Mod.refl _ _).drewN _)⟩
  have hi0 := hi
  rw [decide_eq_true hi] at hIs
  obtain ⟨hi1, hi2⟩ := hi
  obtain ⟨c, rfl⟩ := Int.eq_ofNat_of_zero_le hi1
  have hc : c < A.n := by omega
  have kp := hA.rptr hc
  have hB := fun k => hA.keep (u' := w.drewN k) ((Mod.refl _ _).drewN k)
  have hcz : (c : Int) < (A.n : Int) := by omega
  have hlen := hf c hc
  have hq := fun k => (hB k).rwheel hc
  have hN := fun k => rwheelR_Due (hq k).choose_spec (by omega)
  have hEq : A.fireE c = if dueL A.now (A.L c) = [] then 12 else 0 := by unfold TA.fireE TA.due; rw [if_neg (fun x => x hi0)]; rfl
  by_cases he : dueL A.now (A.L c) = []
  · rw [if_pos he] at hEq
    rw [hEq]
    rw [he] at hN
    clear hA hq hEq he hi1 hB hi0
    go_enter Tryd.func41, Tryd.ntmps41
    go_wp2_with (first
      | (go_at_call 44; refine hIs.mono ?_; rintro e w' ⟨rfl, k, rfl⟩)
      | (go_at_call 50; refine (hN _).mono ?_; rintro e w2 ⟨a2, c2, rfl, m2, i2, n2⟩))
    go_ret2
    exact ⟨rfl, hg _ m2.undrewN⟩
  · rw [if_neg he] at hEq
    rw [hEq, if_pos rfl, if_pos rfl]
    have hdue : A.due c = dueL A.now (A.L c) := rfl
    rw [hdue]
    have hpos : 0 < (dueL A.now (A.L c)).length := List.length_pos_iff.2 he
    have hm : nthP (dueL A.now (A.L c)) 0 ∈ A.L c := (List.mem_filter.1 (nthP_mem hpos)).1
    have hisS : (dget (A.L c) (nthP (dueL A.now (A.L c)) 0).1).isSome = true := dget_isSome.2 (List.mem_map.2 ⟨_, hm, rfl⟩)
    have hdr : rdropE (A.L c) (nthP (dueL A.now (A.L c)) 0).1 = 0 := if_pos hisS
    have hne : idsOf (dueL A.now (A.L c)) ≠ [] := by simpa [idsOf] using he
    have hlp : 0 < (idsOf (dueL A.now (A.L c))).length := List.length_pos_iff.2 hne
    have hn0 := idsOf_nth _ hpos
    simp only [Int.toNat_natCast]
    generalize idsOf (dueL A.now (A.L c)) = v at *
    generalize (nthP (dueL A.now (A.L c)) 0).1 = id at *
    clear hA hq hEq he hi1 hdue hpos hm hisS hg hi0
    go_enter Tryd.func41, Tryd.ntmps41
    go_wp2_with (first
      | (go_at_call 44; refine hIs.mono ?_; rintro e w' ⟨rfl, k, rfl⟩)
      | (
        go_at_call 50
        refine (hN _).mono ?_
        rintro e w2 ⟨a2, c2, rfl, m2, i2, n2⟩
        have hC := (hB k).newInts m2 i2 n2
        obtain ⟨b, rfl, hb, hcell⟩ := i2.resolve_left hne
        have q0 := hcell 0 hlp
        rw [hn0] at q0
        clear hcell i2
        ))
    have k0r := hC.take.rcells
    have kpr := hC.take.rptr hc
    have hS := And.intro k0r (And.intro kpr q0)
    clear hN hB k0 kp
    go_region_held3 (fun u => u.cell? ⟨d, 0, none⟩ = some (.slice (some ⟨p.gb, 0, none⟩) A.n p.cap) ∧ u.cell? ⟨p.gb, c, none⟩ = some (.pointer (some ⟨p.D c, 0, none⟩)) ∧ u.cell? ⟨b, 0, none⟩ = some (.int .i64 id)) (assumption) (first
      | (
        go_at_call 66
        refine ((hC.keep (u' := w2.drew) ((Mod.refl _ _).drew)).rwheelDoM hc (fun F1 h1 => rwheelR_Drop h1 (by omega) id)).mono ?_
        rintro e w4 ⟨rfl, hD⟩
        have k4 := hD.take.rcells
        have p4 := hD.take.rptr hc
        have i4 := hD.ints (2 + A.n) (by rw [List.getElem?_append_right (by rw [rtl_len]; omega), rtl_len]; simp; rfl)
        obtain ⟨b', e', _, hcell4⟩ := i4.resolve_left hne
        cases e'
        have q4 := hcell4 0 hlp
        rw [hn0] at q4
        have hS4 := And.intro k4 (And.intro p4 q4)
        clear hcell4 i4
        ))
    go_wp2
    go_ret2
    exact ⟨rfl, On.rtimers (A := A.put c (ddel (A.L c) id)) hD.take⟩
end
end Go.Proofs.YthieionajemjhaaDoor

/- The walks over davitref14: Move, New. No condition but those named. -/
namespace Go.Proofs.YthieionajemjhaaDoor
set_option linter.unusedVariables false
set_option linter.unusedSimpArgs false
open Go.RowKit
theorem infoPRW : (Tryd.prog.info? 57).map (fun i => (i.zero, i.size, i.bytes)) = some (some (.pointer none), 1, 8) := by kernel_rfl
theorem rwheels_succ (j : Nat) (D : Nat → Nat) (x : Nat) : ((List.range (j + 1)).map fun i => rwheelR (upd D j x i) 0 []) = ((List.range j).map fun i => rwheelR (D i) 0 []) ++ [rwheelR x 0 []] := by
  rw [List.range_succ, List.map_append]
  congr 1
  · refine List.map_congr_left fun i hi => ?_
    rw [upd_ne _ _ (by have := List.mem_range.1 hi; omega)]
  · simp [upd_same]
def rmadeL (d : Nat) (g : Option Nat) (cap j : Nat) (D : Nat → Nat) : List Res :=
  [Res.blk d (.cells #[.slice (rA g) j cap] 60 (0,0)), rowR 57 1 g cap j (ptrsV j D)] ++ (List.range j).map fun i => rwheelR (D i) 0 []
theorem rtimers_New_no (n : Int) (hn : ¬ (1 ≤ n ∧ n ≤ 64)) (w : World) : Calls Tryd.prog 14 #[.int .i64 n] w (Ret (.tuple #[.pointer none, .int .i64 2]) w) := by
  by_cases h1 : n < 1
  · clear hn
    go_enter Tryd.func14, Tryd.ntmps14
    go_wp2
    go_ret2
    exact Ret.of (rfl) (by repeat (first | exact Drew.refl _ | apply Drew.drewN | apply Drew.drew))
  · have h2 : 64 < n := by omega
    clear hn
    go_enter Tryd.func14, Tryd.ntmps14
    go_wp2
    go_ret2
    exact Ret.of (rfl) (by repeat (first | exact Drew.refl _ | apply Drew.drewN | apply Drew.drew))
set_option maxRecDepth 100000 in
set_option maxHeartbeats 1000000 in
theorem rtimers_New (n : Nat) (h1 : 1 ≤ n) (h2 : n ≤ 64) (w : World) : Calls Tryd.prog 14 #[.int .i64 n] w (TurnsV (fun d : Nat => .tuple #[.pointer (some ⟨d, 0, none⟩), .int .i64 0]) (fun d => rtimersA d (ta0 n)) [] w) := by
  have hB : On [] w (rmadeL w.heap.size none 0 0 (fun _ => 0)) (w.alloc (.cells #[.slice none 0 0] 60 (0,0))) := by
    have x3 := ((On.start w).alloc (.cells #[.slice none 0 0] 60 (0,0))).more (P := rowR 57 1 none 0 0 []) ⟨rfl, RAt.nil _ _ _⟩
    simpa [rmadeL, ptrsV, rA] using x3
  go_enter Tryd.func14, Tryd.ntmps14
  go_wp2
  go_loopg [5] n (fun gg i wr => ∃ (j : Nat) (g : Option Nat) (cap : Nat) (D : Nat → Nat), i = .int .i64 j ∧ j + gg = n ∧ On [] w (rmadeL w.heap.size g cap j D) wr)
  case atStart => exact ⟨0, none, 0, _, rfl, by omega, hB⟩
  case round =>
    clear hB
    obtain ⟨j, g, cap, D, rfl, hj, hB⟩ := hrel
    generalize hd : w.heap.size = d at *
    have HD := Lib.hid hd
    clear hd
    by_cases hlt : j < n
    · have hltI : (j : Int) < n := by omega
      have hN := hB.make (rwheelR_New wr)
      go_wp2_with (first
        | (
          go_at_call 37
          refine hN.mono ?_
          rintro e w2 ⟨dw, rfl, hC⟩
          have c1 := hC.cell 0 rfl 0
          have hC2 := hC.keep (u' := w2.alloc (.cells #[.pointer (some ⟨dw, 0, none⟩)] 57 (0,0))) ((Mod.refl _ _).alloc _)
          have c2 := hC2.cell 0 rfl 0
          obtain ⟨g', cap', w3, hrun, hD⟩ := hC2.rowAppend (P := Tryd.prog) (tt := 58) (bytes := 8) 1 rfl Tryd.underlying58 infoPRW rfl (by omega) (by omega) (by omega) (b := w2.heap.size) (news := [.pointer (some ⟨dw, 0, none⟩)]) rfl (by simp [Value.oneCell']) (heapNew _ _)
          have c3 := hD.cell 0 rfl 0
          have f3 := hD.free 0 rfl 0
          have z3 := hD.size 0 rfl
          )
        | (
          at_builtin
          refine wpList_append_run rfl _ _ _ rfl rfl rfl (hrun _) ?_
          )
        )
      have hE := hD.set 0 rfl 0 (.slice (some ⟨g', 0, none⟩) (j + 1) cap')
      go_roundg (gk - 1)
      case measure => omega
      case rel =>
        refine ⟨j + 1, some g', cap', upd D j dw, by go_num, by omega, ?_⟩
        have e : rmadeL d (some g') cap' (j + 1) (upd D j dw) = (((rmadeL d g cap j D ++ [rwheelR dw 0 []]).set 1 (rowR 57 1 (some g') cap' (j + 1) (ptrsV j D ++ [Value.pointer (some ⟨dw, 0, none⟩)]))).set 0 (Res.blk d (Obj.cells ((#[Value.slice (rA g) j cap] : Array Value).setIfInBounds 0 (Value.slice (some ⟨g', 0, none⟩) (j + 1) cap')) 60 (0,0)))) := by
          simp [rmadeL, ptrsV_succ, rwheels_succ, rA]
        rw [e]
        exact hE
    · have hltI : ¬ (j : Int) < n := by omega
      obtain rfl : j = n := by omega
      obtain ⟨F1, _, hr⟩ := hB.get 1 rfl
      cases g with
      | none => obtain ⟨_, h0, _⟩ := hr; omega
      | some gb =>
        clear hr
        go_wp2
        go_ret2
        exact ⟨d, rfl, hB.gains.imp fun F' h' => ⟨⟨gb, cap, D⟩, h'⟩⟩
section
variable {F : List Nat} {w u : World} {d : Nat} {A : TA}
theorem rwheel_cells {r now : Nat} {L : List (Int × Nat)} (h : (rwheelR r now L).holds F w) (hne : L ≠ []) : ∃ b cap, L.length ≤ cap ∧ cap ≤ maxLen ∧ w.cell? ⟨r, 1, none⟩ = some (.slice (some ⟨b, 0, none⟩) L.length cap) ∧ w.cell? ⟨b, 0, none⟩ = some (.int .i64 (nthP L 0).1) ∧ w.cell? ⟨b, 1, none⟩ = some (.int .i64 ((nthP L 0).2 : Nat)) := by
  obtain ⟨g, cap, rfl, h⟩ := h
  obtain ⟨b, rfl, c0, c1⟩ := h.item (i := 0) (List.length_pos_iff.2 hne)
  exact ⟨b, cap, h.row.cap.1, h.row.cap.2, cellAt h.obj 1, by simpa using c0, by simpa using c1⟩
theorem rwheel_cellL {r now : Nat} {L : List (Int × Nat)} (h : (rwheelR r now L).holds F w) : ∃ g cap, w.cell? ⟨r, 1, none⟩ = some (.slice (rA g) L.length cap) := by
  obtain ⟨g, cap, rfl, h⟩ := h
  exact ⟨g, cap, cellAt h.obj 1⟩
set_option maxRecDepth 100000 in
set_option maxHeartbeats 2000000 in
theorem rtimers_Move (h : (rtimersA d A).holds F w) (hf : A.few) (hT : ∀ c, c < A.n → A.L c ≠ [] → (nthP (A.L c) 0).2 ≤ 1152921504606846976 ∧ ∀ e, e < A.n → c ≠ e → dget (A.L e) (nthP (A.L c) 0).1 = none) (fr to : Int) : Calls Tryd.prog 42 #[.pointer (some ⟨d, 0, none⟩), .int .i64 fr, .int .i64 to] w (Turns (rtimersA d (A.move fr to)) F (.tuple #[.int .i64 (A.moveV fr to), .int .i64 (A.moveE fr to)]) w) := by
  obtain ⟨p, hA⟩ := rtimersA_view h
  have k0 := hA.rcells
  obtain ⟨hcap1, hcap2⟩ := hA.rcap
  have hI1 := rtimers_Is h fr
  have hI2 := fun k => rtimers_Is ((rtimersA d A).keep h (S := []) ((Mod.refl _ _).drewN k) (by simp)) to
  have hg := fun u (m : Mod [] w u) => (hA.keep m).rtimers
  unfold TA.move TA.moveV
  by_cases hi : A.is fr
  case neg =>
    have hE : A.moveE fr to = 3 := by unfold TA.moveE; rw [if_pos (.inl hi)]
    rw [hE]
    rw [decide_eq_false hi] at hI1
    clear hA hi hE hI2
    go_enter Tryd.func42, Tryd.ntmps42
    go_wp2_with (go_at_call 44; refine hI1.mono ?_; rintro e w' ⟨rfl, k, rfl⟩)
    go_ret2
    exact ⟨rfl, hg _ ((Mod.refl _ _).drewN _)⟩
  rw [decide_eq_true hi] at hI1
  by_cases hj : A.is to
  case neg =>
    have hE : A.moveE fr to = 3 := by unfold TA.moveE; rw [if_pos (.inr hj)]
    rw [hE]
    rw [decide_eq_false hj] at hI2
    clear hA hi hE hj
    go_enter Tryd.func42, Tryd.ntmps42
    go_wp2_with (first
      | (go_at_call 44; have hx := hI1; refine hI1.mono ?_; rintro e w' ⟨rfl, k, rfl⟩; clear hx hI1)
      | (go_at_call 44; refine (hI2 _).mono ?_; rintro e w' ⟨rfl, k2, rfl⟩))
    go_ret2
    exact ⟨rfl, hg _ ((Mod.refl _ _).drewN _)⟩
  rw [decide_eq_true hj] at hI2
  have hE0 : A.moveE fr to = if fr = to then 2 else if A.L fr.toNat = [] then 12 else 0 := by
    unfold TA.moveE
    rw [if_neg]
    rintro (x | x)
    · exact x hi
    · exact x hj
  by_cases hft : fr = to
  · rw [if_pos hft] at hE0
    rw [hE0]
    subst hft
    clear hA hE0 hi hj
    go_enter Tryd.func42, Tryd.ntmps42
    go_wp2_with (first
      | (go_at_call 44; have hx := hI1; refine hI1.mono ?_; rintro e w' ⟨rfl, k, rfl⟩; clear hx hI1)
      | (go_at_call 44; refine (hI2 _).mono ?_; rintro e w' ⟨rfl, k2, rfl⟩))
    go_ret2
    exact ⟨rfl, hg _ ((Mod.refl _ _).drewN _)⟩
  rw [if_neg hft] at hE0
  obtain ⟨hi1, hi2⟩ := hi
  obtain ⟨hj1, hj2⟩ := hj
  obtain ⟨c, rfl⟩ := Int.eq_ofNat_of_zero_le hi1
  obtain ⟨e, rfl⟩ := Int.eq_ofNat_of_zero_le hj1
  simp only [Int.toNat_natCast] at hE0 ⊢
  have hce : c ≠ e := fun x => hft (by rw [x])
  have hc : c < A.n := by omega
  have he : e < A.n := by omega
  have hcz : (c : Int) < (A.n : Int) := by omega
  have hez : (e : Int) < (A.n : Int) := by omega
  have kp := hA.rptr hc
  have hw1 := hA.rwheel hc
  by_cases hem : A.L c = []
  · rw [if_pos hem] at hE0
    rw [hE0]
    obtain ⟨g5, cap5, k5⟩ := rwheel_cellL hw1.choose_spec
    rw [hem] at k5
    simp only [List.length_nil] at k5
    clear hA hE0 hi1 hj1 hem hw1 hT
    go_enter Tryd.func42, Tryd.ntmps42
    go_wp2_with (first
      | (go_at_call 44; have hx := hI1; refine hI1.mono ?_; rintro e w' ⟨rfl, k, rfl⟩; clear hx hI1)
      | (go_at_call 44; refine (hI2 _).mono ?_; rintro e w' ⟨rfl, k2, rfl⟩))
    go_ret2
    exact ⟨rfl, hg _ ((Mod.refl _ _).drewN _)⟩
  rw [if_neg hem] at hE0
  rw [hE0, if_pos rfl, if_pos rfl]
  obtain ⟨b5, cap5, z51, z52, k5, q0, q1⟩ := rwheel_cells hw1.choose_spec hem
  have hpos : 0 < (A.L c).length := List.length_pos_iff.2 hem
  have hm : nthP (A.L c) 0 ∈ A.L c := nthP_mem hpos
  have hisS : (dget (A.L c) (nthP (A.L c) 0).1).isSome = true := dget_isSome.2 (List.mem_map.2 ⟨_, hm, rfl⟩)
  have hdr : rdropE (A.L c) (nthP (A.L c) 0).1 = 0 := if_pos hisS
  obtain ⟨hdue, hno⟩ := hT c hc hem
  have hno := hno e he hce
  have hadd : raddE (A.L e) (nthP (A.L c) 0).1 ((nthP (A.L c) 0).2 : Nat) = 0 := by
    unfold raddE
    rw [if_neg (by simp only [Classical.not_not]; exact ⟨by omega, by omega⟩), hno]
    rfl
  have hins : radd (A.L e) (nthP (A.L c) 0).1 ((nthP (A.L c) 0).2 : Nat) = insL (A.L e) (nthP (A.L c) 0).1 (nthP (A.L c) 0).2 := by
    unfold radd; rw [if_pos hadd]; rfl
  have hlc := hf c hc
  have hle := hf e he
  have hposI : (0 : Int) < ((A.L c).length : Int) := by omega
  generalize hidd : (nthP (A.L c) 0).1 = id at *
  generalize hdud : (nthP (A.L c) 0).2 = due at *
  clear hE0 hft hem hi1 hj1 hw1 hm hisS hT hno hdue hg
  go_enter Tryd.func42, Tryd.ntmps42
  go_wp2_with (first
    | (go_at_call 44; have hx := hI1; refine hI1.mono ?_; rintro e w' ⟨rfl, k, rfl⟩; clear hx hI1)
    | (
      go_at_call 44
      refine (hI2 _).mono ?_
      rintro e w2 ⟨rfl, hD2⟩
      have m2 : Mod [] w w2 := ((Mod.refl _ _).drewN k).trans (hD2.mod (S := [])) (by simp)
      have hA2 := hA.keep m2
      have k0 := m2.at k0 (by simp)
      have kp := m2.at kp (by simp)
      have k5 := m2.at k5 (by simp)
      have q0 := m2.at q0 (by simp)
      have q1 := m2.at q1 (by simp)
      have hA3 := hA2.alloc (.cells #[.int .i64 id, .int .i64 due] 102 (0,0))
      clear hA hI2 hD2
      ))
  have k0r := hA3.take.rcells
  have kpr := hA3.take.rptr hc
  have kpe := hA3.take.rptr he
  have c8 : (w2.alloc (.cells #[.int .i64 id, .int .i64 due] 102 (0,0))).cell? ⟨w2.heap.size, 0, none⟩ = some (.int .i64 id) := cellAt (heapNew _ _) 0
  have c9 : (w2.alloc (.cells #[.int .i64 id, .int .i64 due] 102 (0,0))).cell? ⟨w2.heap.size, 1, none⟩ = some (.int .i64 due) := cellAt (heapNew _ _) 1
  generalize hb8 : w2.heap.size = b8 at *
  generalize hw3 : w2.alloc (.cells #[.int .i64 id, .int .i64 due] 102 (0,0)) = w3 at *
  clear hb8 hw3 k0 kp k5 q0 q1 m2
  have hS := And.intro k0r (And.intro kpr c8)
  go_region_held3 (fun u => u.cell? ⟨d, 0, none⟩ = some (.slice (some ⟨p.gb, 0, none⟩) A.n p.cap) ∧ u.cell? ⟨p.gb, c, none⟩ = some (.pointer (some ⟨p.D c, 0, none⟩)) ∧ u.cell? ⟨b8, 0, none⟩ = some (.int .i64 id)) (assumption) (first
    | (
      go_at_call 66
      refine ((hA3.keep (u' := w3.drew) ((Mod.refl _ _).drew)).rwheelDoM hc (fun F1 h1 => rwheelR_Drop h1 (by omega) id)).mono ?_
      rintro e w4 ⟨rfl, hD⟩
      have k4 := hD.take.rcells
      have p4 := hD.take.rptr hc
      have p4e := hD.take.rptr he
      have hk : (rtimersL d p A.n (fun _ => A.now) (upd A.L c (ddel (A.L c) id)) ++ [Res.blk b8 (.cells #[.int .i64 id, .int .i64 due] 102 (0,0))])[2 + A.n]? = some (Res.blk b8 (.cells #[.int .i64 id, .int .i64 due] 102 (0,0))) := by rw [List.getElem?_append_right (by rw [rtl_len]; omega), rtl_len]; simp
      have q4 : w4.cell? ⟨b8, 0, none⟩ = some (.int .i64 id) := hD.cell _ hk 0
      have q5 : w4.cell? ⟨b8, 1, none⟩ = some (.int .i64 due) := hD.cell _ hk 1
      have hS4 := And.intro k4 (And.intro p4 q4)
      ))
  clear hS hS4 k0r kpr kpe c8 c9 hA3
  go_wp2
  have hS := And.intro k4 (And.intro p4e (And.intro q4 q5))
  go_region_held3 (fun u => u.cell? ⟨d, 0, none⟩ = some (.slice (some ⟨p.gb, 0, none⟩) A.n p.cap) ∧ u.cell? ⟨p.gb, e, none⟩ = some (.pointer (some ⟨p.D e, 0, none⟩)) ∧ u.cell? ⟨b8, 0, none⟩ = some (.int .i64 id) ∧ u.cell? ⟨b8, 1, none⟩ = some (.int .i64 due)) (assumption) (first
    | (
      go_at_call 65
      refine ((hD.keep (u' := w4.drew) ((Mod.refl _ _).drew)).rwheelDoM he (l' := insL (A.L e) id due) (fun F1 h1 => by
        rw [upd_ne _ _ (Ne.symm hce)] at h1
        have := rwheelR_Add h1 (by omega) id due
        rwa [hins, hadd] at this)).mono ?_
      rintro e w5 ⟨rfl, hG⟩
      have k6 := hG.take.rcells
      have p6 := hG.take.rptr he
      have hk2 : (rtimersL d p A.n (fun _ => A.now) (upd (upd A.L c (ddel (A.L c) id)) e (insL (A.L e) id due)) ++ [Res.blk b8 (.cells #[.int .i64 id, .int .i64 due] 102 (0,0))])[2 + A.n]? = some (Res.blk b8 (.cells #[.int .i64 id, .int .i64 due] 102 (0,0))) := by rw [List.getElem?_append_right (by rw [rtl_len]; omega), rtl_len]; simp
      have q6 : w5.cell? ⟨b8, 0, none⟩ = some (.int .i64 id) := hG.cell _ hk2 0
      have q7 : w5.cell? ⟨b8, 1, none⟩ = some (.int .i64 due) := hG.cell _ hk2 1
      have hS6 := And.intro k6 (And.intro p6 (And.intro q6 q7))
      ))
  go_wp2
  go_ret2
  exact ⟨rfl, On.rtimers (A := (A.put c (ddel (A.L c) id)).put e (insL (A.L e) id due)) hG.take⟩
end
end Go.Proofs.YthieionajemjhaaDoor

/- How a struct davitlaw14.Act reads: cell by cell. No condition. -/
namespace Go.Proofs.YthieionajemjhaaDoor
set_option linter.unusedVariables false
set_option linter.unusedSimpArgs false
open Go.RowKit

structure Act14 where
  kind : Int
  cpu : Int
  to_ : Int
  id : Int
  n : Int
deriving Inhabited
def Act14.vals (a : Act14) : List Value := [.int .i64 a.kind, .int .i64 a.cpu, .int .i64 a.to_, .int .i64 a.id, .int .i64 a.n]
def Act14.ok (a : Act14) : Prop := (Lit.int .i64 a.kind).wf = true ∧ (Lit.int .i64 a.cpu).wf = true ∧ (Lit.int .i64 a.to_).wf = true ∧ (Lit.int .i64 a.id).wf = true ∧ (Lit.int .i64 a.n).wf = true

theorem elem_davitlaw14_Act {H : Type} {enc : TypeId × Value → H} {w : World} {spare : Nat → Bool} {held : Bool} : ∀ m cs y, DataW.trod enc Tryd.prog w 0 spare held m 32 cs = some y → ∃ z : Act14, cs = z.vals ∧ z.ok := by
  intro m cs y h
  obtain ⟨hl, hv⟩ := flat Tryd.underlying32 [.i .i64, .i .i64, .i .i64, .i .i64, .i .i64] (by kernel_rfl) (by rfl) (fun i k hk => by
    match i, hk with
    | 0, hk => simp at hk; subst hk; exact ⟨_, rfl, rfl, by kernel_rfl, _, Tryd.underlying3, rfl⟩
    | 1, hk => simp at hk; subst hk; exact ⟨_, rfl, rfl, by kernel_rfl, _, Tryd.underlying3, rfl⟩
    | 2, hk => simp at hk; subst hk; exact ⟨_, rfl, rfl, by kernel_rfl, _, Tryd.underlying3, rfl⟩
    | 3, hk => simp at hk; subst hk; exact ⟨_, rfl, rfl, by kernel_rfl, _, Tryd.underlying3, rfl⟩
    | 4, hk => simp at hk; subst hk; exact ⟨_, rfl, rfl, by kernel_rfl, _, Tryd.underlying2, rfl⟩
    | n + 5, hk => simp at hk) h
  match cs, hl with
  | [v0, v1, v2, v3, v4], _ =>
    obtain ⟨_, e0, n0, rfl, w0⟩ := hv 0 _ rfl
    obtain ⟨_, e1, n1, rfl, w1⟩ := hv 1 _ rfl
    obtain ⟨_, e2, n2, rfl, w2⟩ := hv 2 _ rfl
    obtain ⟨_, e3, n3, rfl, w3⟩ := hv 3 _ rfl
    obtain ⟨_, e4, n4, rfl, w4⟩ := hv 4 _ rfl
    simp at e0 e1 e2 e3 e4
    subst e0 e1 e2 e3 e4
    exact ⟨⟨n0, n1, n2, n3, n4⟩, rfl, w0, w1, w2, w3, w4⟩
end Go.Proofs.YthieionajemjhaaDoor

/- The walk over davitlaw14's do: an act to the program's timers and to the document's. No condition but those named. -/
namespace Go.Proofs.YthieionajemjhaaDoor
set_option linter.unusedVariables false
set_option linter.unusedSimpArgs false
open Go.RowKit
theorem timersA_facts {d : Nat} {A : TA} {F : List Nat} {w : World} (h : (timersA d A).holds F w) : 1 ≤ A.n ∧ A.n ≤ 64 ∧ A.few ∧ ∀ c, c < A.n → A.L c ≠ [] → (nthP (A.L c) 0).2 ≤ 1152921504606846976 ∧ ∀ e, e < A.n → c ≠ e → dget (A.L e) (nthP (A.L c) 0).1 = none := by
  obtain ⟨t, hs, _⟩ := h
  refine ⟨hs.n1, hs.n2, fun c hc => hs.len hc, fun c hc hne => ?_⟩
  obtain ⟨f1, f2, f3⟩ := first_whr hs hc hne
  refine ⟨by have := f3.2; omega, fun e he hce => ?_⟩
  cases hx : dget (A.L e) (nthP (A.L c) 0).1 with
  | none => rfl
  | some v =>
    have := (hs.whr _ e).2 ⟨he, by rw [hx]; rfl⟩
    rw [f1] at this
    simp at this
    exact absurd this hce
def TA.act (A : TA) (a : Act14) : TA :=
  if a.kind.tmod 5 = 0 then A.arm a.cpu a.n else if a.kind.tmod 5 = 1 then A.cancel a.id else if a.kind.tmod 5 = 2 then A.go a.n else if a.kind.tmod 5 = 3 then A.fire a.cpu else A.move a.cpu a.to_
def actObj (a : Act14) : Obj := .cells #[.int .i64 a.kind, .int .i64 a.cpu, .int .i64 a.to_, .int .i64 a.id, .int .i64 a.n] 32 (0,0)
theorem On.act {F0 : List Nat} {w0 u : World} {l : List Res} (h : On F0 w0 l u) (k : Nat) {b : Nat} {a : Act14} (hk : l[k]? = some (Res.blk b (actObj a))) :
    u.cell? ⟨b, 0, none⟩ = some (.int .i64 a.kind) ∧ u.cell? ⟨b, 1, none⟩ = some (.int .i64 a.cpu) ∧ u.cell? ⟨b, 2, none⟩ = some (.int .i64 a.to_) ∧ u.cell? ⟨b, 3, none⟩ = some (.int .i64 a.id) ∧ u.cell? ⟨b, 4, none⟩ = some (.int .i64 a.n) :=
  ⟨h.cell k hk 0, h.cell k hk 1, h.cell k hk 2, h.cell k hk 3, h.cell k hk 4⟩
def actT (a : Act14) : Value := .agg #[.int .i64 a.kind, .int .i64 a.cpu, .int .i64 a.to_, .int .i64 a.id, .int .i64 a.n]
set_option maxRecDepth 100000 in
set_option maxHeartbeats 4000000 in
theorem law14_do (w u : World) (hT : Tab w) (d r : Nat) (A : TA) (m : List Res) (hO : On [] w (timersA d A :: rtimersA r A :: m) u) (a : Act14) (ha : -9223372036854775808 ≤ a.kind ∧ a.kind ≤ 9223372036854775807) :
    Calls Tryd.prog 15 #[.pointer (some ⟨d, 0, none⟩), .pointer (some ⟨r, 0, none⟩), actT a] u (fun e u' => e = .returned (.bool true) ∧ On [] w (timersA d (A.act a) :: rtimersA r (A.act a) :: m) u') := by
  obtain ⟨F9, hP⟩ := hO.get 0 rfl
  obtain ⟨hn1, hn2, hfew, hmv⟩ := timersA_facts hP
  obtain ⟨kind, cpu, to, id, n⟩ := a
  have hB := (hO.alloc (Obj.cells #[.int .i64 kind, .int .i64 cpu, .int .i64 to, .int .i64 id, .int .i64 n] 32 (0,0))).front
  obtain ⟨c0, c1, c2, c3, c4⟩ := On.act (a := ⟨kind, cpu, to, id, n⟩) hB 0 rfl
  simp only at c0 c1 c2 c3 c4
  clear hP hO
  obtain ⟨hk1, hk2⟩ := ha
  simp only at hk1 hk2
  unfold TA.act actT
  simp only
  by_cases e0 : kind.tmod 5 = 0
  · have q0 : (kind.tmod 5 == 0) = true := by simp [e0]
    rw [if_pos e0]
    clear e0
    go_enter Tryd.func15, Tryd.ntmps15
    go_wp2_with fail
    generalize u.alloc (Obj.cells #[.int .i64 kind, .int .i64 cpu, .int .i64 to, .int .i64 id, .int .i64 n] 32 (0,0)) = v at *
    generalize u.heap.size = b at *
    go_wp2_with (first
      | (
        go_at_call 8
        refine (hB.callT hT 1 rfl (fun F hF hT' hn => timers_Arm hF hT' hn cpu n)).mono ?_
        rintro e w1 ⟨rfl, h1⟩
        obtain ⟨x0, x1, x2, x3, x4⟩ := On.act (a := ⟨kind, cpu, to, id, n⟩) h1 0 rfl
        )
      | (
        go_at_call 38
        refine (h1.call 2 rfl (fun F hF => rtimers_Arm hF hfew cpu n)).mono ?_
        rintro e w2 ⟨rfl, h2⟩
        obtain ⟨y0, y1, y2, y3, y4⟩ := On.act (a := ⟨kind, cpu, to, id, n⟩) h2 0 rfl
        ))
    go_ret
    exact ⟨by simp, h2.drop 0⟩
  by_cases e1 : kind.tmod 5 = 1
  · have q0 : (kind.tmod 5 == 0) = false := by simp [e1]
    have q1 : (kind.tmod 5 == 1) = true := by simp [e1]
    rw [if_neg e0, if_pos e1]
    clear e0 e1
    go_enter Tryd.func15, Tryd.ntmps15
    go_wp2_with fail
    generalize u.alloc (Obj.cells #[.int .i64 kind, .int .i64 cpu, .int .i64 to, .int .i64 id, .int .i64 n] 32 (0,0)) = v at *
    generalize u.heap.size = b at *
    have hS := And.intro c0 (And.intro c1 (And.intro c2 (And.intro c3 c4)))
    go_region_held3 (fun v => v.cell? ⟨b, 0, none⟩ = some (.int .i64 kind) ∧ v.cell? ⟨b, 1, none⟩ = some (.int .i64 cpu) ∧ v.cell? ⟨b, 2, none⟩ = some (.int .i64 to) ∧ v.cell? ⟨b, 3, none⟩ = some (.int .i64 id) ∧ v.cell? ⟨b, 4, none⟩ = some (.int .i64 n)) (assumption) (first
      | (
        go_at_call 28
        refine ((hB.keep (u' := v.drew) ((Mod.refl _ _).drew)).callT hT 1 rfl (fun F hF hT' hn => timers_Cancel hF id)).mono ?_
        rintro e w1 ⟨rfl, h1⟩
        have hS1 := On.act (a := ⟨kind, cpu, to, id, n⟩) h1 0 rfl
        )
      | (
        go_at_call 39
        refine (h1.call 2 rfl (fun F hF => rtimers_Cancel hF hfew id)).mono ?_
        rintro e w2 ⟨rfl, h2⟩
        have hS2 := On.act (a := ⟨kind, cpu, to, id, n⟩) h2 0 rfl
        ))
    go_wp2
    go_ret
    exact ⟨by simp, h2.drop 0⟩
  by_cases e2 : kind.tmod 5 = 2
  · have q0 : (kind.tmod 5 == 0) = false := by simp [e2]
    have q1 : (kind.tmod 5 == 1) = false := by simp [e2]
    have q2 : (kind.tmod 5 == 2) = true := by simp [e2]
    rw [if_neg e0, if_neg e1, if_pos e2]
    clear e0 e1 e2
    go_enter Tryd.func15, Tryd.ntmps15
    go_wp2_with fail
    generalize u.alloc (Obj.cells #[.int .i64 kind, .int .i64 cpu, .int .i64 to, .int .i64 id, .int .i64 n] 32 (0,0)) = v at *
    generalize u.heap.size = b at *
    have hS := And.intro c0 (And.intro c1 (And.intro c2 (And.intro c3 c4)))
    go_region_held3 (fun v => v.cell? ⟨b, 0, none⟩ = some (.int .i64 kind) ∧ v.cell? ⟨b, 1, none⟩ = some (.int .i64 cpu) ∧ v.cell? ⟨b, 2, none⟩ = some (.int .i64 to) ∧ v.cell? ⟨b, 3, none⟩ = some (.int .i64 id) ∧ v.cell? ⟨b, 4, none⟩ = some (.int .i64 n)) (assumption) (first
      | (
        go_at_call 10
        refine ((hB.keep (u' := v.drew) ((Mod.refl _ _).drew)).callT hT 1 rfl (fun F hF hT' hn => timers_Go hF n)).mono ?_
        rintro e w1 ⟨rfl, h1⟩
        have hS1 := On.act (a := ⟨kind, cpu, to, id, n⟩) h1 0 rfl
        )
      | (
        go_at_call 40
        refine (h1.call 2 rfl (fun F hF => rtimers_Go hF hn1 n)).mono ?_
        rintro e w2 ⟨rfl, h2⟩
        have hS2 := On.act (a := ⟨kind, cpu, to, id, n⟩) h2 0 rfl
        ))
    go_wp2
    go_ret
    exact ⟨by simp, h2.drop 0⟩
  by_cases e3 : kind.tmod 5 = 3
  · have q0 : (kind.tmod 5 == 0) = false := by simp [e3]
    have q1 : (kind.tmod 5 == 1) = false := by simp [e3]
    have q2 : (kind.tmod 5 == 2) = false := by simp [e3]
    have q3 : (kind.tmod 5 == 3) = true := by simp [e3]
    rw [if_neg e0, if_neg e1, if_neg e2, if_pos e3]
    clear e0 e1 e2 e3
    go_enter Tryd.func15, Tryd.ntmps15
    go_wp2_with fail
    generalize u.alloc (Obj.cells #[.int .i64 kind, .int .i64 cpu, .int .i64 to, .int .i64 id, .int .i64 n] 32 (0,0)) = v at *
    generalize u.heap.size = b at *
    go_wp2_with (first
      | (
        go_at_call 12
        refine (hB.callT hT 1 rfl (fun F hF hT' hn => timers_Fire hF cpu)).mono ?_
        rintro e w1 ⟨rfl, h1⟩
        obtain ⟨x0, x1, x2, x3, x4⟩ := On.act (a := ⟨kind, cpu, to, id, n⟩) h1 0 rfl
        )
      | (
        go_at_call 41
        refine (h1.call 2 rfl (fun F hF => rtimers_Fire hF hfew cpu)).mono ?_
        rintro e w2 ⟨rfl, h2⟩
        obtain ⟨y0, y1, y2, y3, y4⟩ := On.act (a := ⟨kind, cpu, to, id, n⟩) h2 0 rfl
        ))
    go_ret
    exact ⟨by simp, h2.drop 0⟩
  · have q0 : (kind.tmod 5 == 0) = false := by simpa using e0
    have q1 : (kind.tmod 5 == 1) = false := by simpa using e1
    have q2 : (kind.tmod 5 == 2) = false := by simpa using e2
    have q3 : (kind.tmod 5 == 3) = false := by simpa using e3
    rw [if_neg e0, if_neg e1, if_neg e2, if_neg e3]
    clear e0 e1 e2 e3
    go_enter Tryd.func15, Tryd.ntmps15
    go_wp2_with fail
    generalize u.alloc (Obj.cells #[.int .i64 kind, .int .i64 cpu, .int .i64 to, .int .i64 id, .int .i64 n] 32 (0,0)) = v at *
    generalize u.heap.size = b at *
    go_wp2_with (first
      | (
        go_at_call 9
        refine (hB.callT hT 1 rfl (fun F hF hT' hn => timers_Move hF cpu to)).mono ?_
        rintro e w1 ⟨rfl, h1⟩
        obtain ⟨x0, x1, x2, x3, x4⟩ := On.act (a := ⟨kind, cpu, to, id, n⟩) h1 0 rfl
        )
      | (
        go_at_call 42
        refine (h1.call 2 rfl (fun F hF => rtimers_Move hF hfew hmv cpu to)).mono ?_
        rintro e w2 ⟨rfl, h2⟩
        obtain ⟨y0, y1, y2, y3, y4⟩ := On.act (a := ⟨kind, cpu, to, id, n⟩) h2 0 rfl
        ))
    go_ret
    exact ⟨by simp, h2.drop 0⟩
end Go.Proofs.YthieionajemjhaaDoor
