/- Timers of package timer in memory: a table of numbers, a map, a wheel for each core; the walks over its small functions. No condition but those named. -/
import Derived.Test.YthieionajemjhaaDoorTimerB
import Derived.Test.YthieionajemjhaaDoorRes2
import Derived.Test.YthieionajemjhaaDoorWheelNext
namespace Go.Proofs.YthieionajemjhaaDoor
set_option linter.unusedVariables false
set_option linter.unusedSimpArgs false
open Go.RowKit

def wheelR (d : Nat) (s : SW) : Res where
  holds F w := ∃ mb G, F = wBlocks d mb G ∧ WheelAt w d mb G s
  keep := by
    rintro F S w w' ⟨mb, G, rfl, h⟩ m hS
    exact ⟨mb, G, rfl, h.keep m hS⟩
  lt := by
    rintro F w ⟨mb, G, rfl, h⟩
    exact h.lt
section
variable {d : Nat} {s : SW} {L : List (Int × Nat)} {F : List Nat} {w : World}
theorem wheelDo {mb : Nat} {G : Nat → Option Nat × Nat} {v : Value} {e : Ending} {w' : World} : WheelDo d mb G v s w e w' → Turns (wheelR d s) (wBlocks d mb G) v w e w' := by
  rintro ⟨rfl, G', m, x, hn⟩
  exact ⟨rfl, _, ⟨mb, G', rfl, x⟩, m, hn⟩
theorem wheelR_Add (h : (wheelR d s).holds F w) (hs : Sim s L) (hl : L.length ≤ 100) (id due : Int) : Calls Tryd.prog 33 #[.pointer (some ⟨d, 0, none⟩), .int .i64 id, .int .i64 due] w (Turns (wheelR d (s.add id due)) F (.int .i64 (s.addE id due)) w) := by
  obtain ⟨mb, G, rfl, h⟩ := h
  exact (wheel_Add d mb G s w h hs.inv.ok (fun k _ => by have := hs.inv.len k; have := hs.len; omega) id due).mono fun e w' => wheelDo
theorem wheelR_Drop (h : (wheelR d s).holds F w) (hs : Sim s L) (id : Int) : Calls Tryd.prog 34 #[.pointer (some ⟨d, 0, none⟩), .int .i64 id] w (Turns (wheelR d (s.drop id)) F (.int .i64 (s.dropE id)) w) := by
  obtain ⟨mb, G, rfl, h⟩ := h
  exact (wheel_Drop d mb G s w h hs.inv.ok id (fun hx => by
    have := (hs.inv.has hx).2
    intro e
    rw [e] at this
    cases this)).mono fun e w' => wheelDo
theorem wheelR_Go (h : (wheelR d s).holds F w) (hs : Sim s L) (hl : L.length ≤ 100) (t : Int) : Calls Tryd.prog 35 #[.pointer (some ⟨d, 0, none⟩), .int .i64 t] w (Turns (wheelR d (s.go t)) F (.int .i64 (rgoE s.now t)) w) := by
  obtain ⟨mb, G, rfl, h⟩ := h
  rw [← hs.goE]
  exact (wheel_Go d mb G s w h hs.inv.ok (fun k => by have := hs.inv.len k; have := hs.len; omega) t).mono fun e w' => wheelDo
/-- A new slice of ints. -/
def NewInts (l : List Int) (w : World) (e : Ending) (w' : World) : Prop := ∃ a c, e = .returned (.slice a l.length c) ∧ Mod [] w w' ∧ IsInts w' a l ∧ IsNew w a
theorem wheelR_Due (h : (wheelR d s).holds F w) (hs : Sim s L) (hl : L.length ≤ 100) : Calls Tryd.prog 36 #[.pointer (some ⟨d, 0, none⟩)] w (NewInts (idsOf (dueL s.now L)) w) := by
  obtain ⟨mb, G, rfl, h⟩ := h
  refine (wheel_Due d mb G s w h (by have := hs.inv.len 168; have := hs.len; omega)).mono ?_
  rintro e w' ⟨a, c, rfl, m, i, n⟩
  have hd := hs.due
  rw [hd] at i
  refine ⟨a, c, ?_, m, i, n⟩
  rw [← hd, sortW_len]
theorem wheelR_List (h : (wheelR d s).holds F w) (hs : Sim s L) (hl : L.length ≤ 100) : Calls Tryd.prog 52 #[.pointer (some ⟨d, 0, none⟩)] w (NewInts (idsOf L) w) := by
  obtain ⟨mb, G, rfl, h⟩ := h
  have hll := hs.len
  refine (wheel_List d mb G s w h hs.inv.wf (by omega)).mono ?_
  rintro e w' ⟨a, c, rfl, m, i, n⟩
  rw [hs.list] at i
  refine ⟨a, c, ?_, m, i, n⟩
  unfold idsOf
  rw [List.length_map, hll]
theorem wheelR_Next (h : (wheelR d s).holds F w) (hs : Sim s L) (hl : L.length ≤ 100) : Calls Tryd.prog 43 #[.pointer (some ⟨d, 0, none⟩)] w (fun e w' => e = .returned (.tuple #[.int .i64 (rnextV L), .int .i64 (rnextE L)]) ∧ Mod [] w w') := by
  obtain ⟨mb, G, rfl, h⟩ := h
  have := wheel_Next d mb G s w h (fun k => by have := hs.inv.len k; have := hs.len; omega) (fun hd => (firstK_has hs.inv hd).1)
  rw [hs.next, hs.nextE] at this
  refine this.mono ?_
  rintro e u' ⟨rfl, m, _⟩
  exact ⟨rfl, m⟩
theorem wheelR_When (h : (wheelR d s).holds F w) (hs : Sim s L) (id : Int) : Calls Tryd.prog 47 #[.pointer (some ⟨d, 0, none⟩), .int .i64 id] w (Ret (.tuple #[.int .i64 ((dget L id).getD 0 : Nat), .bool (dget L id).isSome]) w) := by
  obtain ⟨mb, G, rfl, h⟩ := h
  have := wheel_When d mb G s w h id
  rwa [hs.when, ← hs.get] at this
theorem wheelR_Now (h : (wheelR d s).holds F w) : Calls Tryd.prog 53 #[.pointer (some ⟨d, 0, none⟩)] w (Ret (.int .i64 s.now) w) := by
  obtain ⟨mb, G, rfl, h⟩ := h
  exact wheel_Now d mb G s w h
theorem wheelR_Len (h : (wheelR d s).holds F w) (hs : Sim s L) : Calls Tryd.prog 51 #[.pointer (some ⟨d, 0, none⟩)] w (Ret (.int .i64 L.length) w) := by
  obtain ⟨mb, G, rfl, h⟩ := h
  rw [hs.len]
  exact wheel_Len d mb G s w h
theorem wheelR_New (w : World) : Calls Tryd.prog 30 #[.int .i64 0] w (TurnsV (fun d : Nat => .tuple #[.pointer (some ⟨d, 0, none⟩), .int .i64 0]) (fun d => wheelR d (sw0 0)) [] w) := by
  refine (show Calls _ _ #[.int .i64 ((0 : Nat) : Int)] w _ from wheel_New 0 ⟨by omega, by omega⟩ w).mono ?_
  rintro e w' ⟨d, mb, rfl, m, x, h1, h2⟩
  refine ⟨d, rfl, _, ⟨mb, _, rfl, x⟩, m, fun b hb => ?_⟩
  rcases mem_wBlocks.1 hb with rfl | rfl | ⟨k, _, hb⟩
  · exact .inr h1
  · exact .inr h2
  · simp [lF] at hb
end

structure TP where
  tb : Nat
  gb : Nat
  cap : Nat
  mw : Nat
  D : Nat → Nat
def ptrsV (n : Nat) (D : Nat → Nat) : List Value := (List.range n).map fun i => .pointer (some ⟨D i, 0, none⟩)
def timersL (d : Nat) (p : TP) (t : TS) : List Res :=
  [Res.blk d (.cells #[.pointer (some ⟨p.tb, 0, none⟩), .slice (some ⟨p.gb, 0, none⟩) t.n p.cap, .map (some p.mw)] 70 (0,0)),
    slotR p.tb 48 t.ids, mapR .i64 p.mw (duesV t.whr), rowR 71 1 (some p.gb) p.cap t.n (ptrsV t.n p.D)] ++ (List.range t.n).map fun i => wheelR (p.D i) (t.s i)
def timersR (d : Nat) (t : TS) : Res := Res.ex fun p => Res.star (timersL d p t)
/-- Timers that hold A. -/
def timersA (d : Nat) (A : TA) : Res := Res.ex fun t : TS => Res.such (TSim t A) (timersR d t)
section
variable {F0 F : List Nat} {w0 w u : World} {d : Nat} {p : TP} {t : TS} {A : TA}
theorem timersA_view (h : (timersA d A).holds F w) : ∃ t p, TSim t A ∧ On F w (timersL d p t) w := by
  obtain ⟨t, hs, p, h⟩ := h
  exact ⟨t, p, hs, On.of h⟩
theorem On.timers (h : On F w (timersL d p t) u) (hs : TSim t A) : Gain (timersA d A) F w u := h.gains.imp fun F' h' => ⟨t, hs, p, h'⟩
theorem tl_wheel {c : Nat} (hc : c < t.n) : (timersL d p t)[4 + c]? = some (wheelR (p.D c) (t.s c)) := by
  unfold timersL
  rw [List.getElem?_append_right (by simp)]
  simp [hc]
theorem tl_set (c : Nat) (s' : SW) : (timersL d p t).set (4 + c) (wheelR (p.D c) s') = timersL d p { t with s := upd t.s c s' } := by
  unfold timersL
  rw [List.set_append_right _ _ (by simp)]
  congr 1
  apply List.ext_getElem?
  intro j
  simp only [List.length_cons, List.length_nil, Nat.reduceAdd, Nat.add_sub_cancel_left, List.getElem?_set, List.getElem?_map, List.length_map, List.length_range]
  by_cases e : c = j
  · subst e
    by_cases hc : c < t.n
    · simp [hc, upd_same]
    · simp [hc, List.getElem?_range, Nat.not_lt.1 hc]
  · have e2 : j ≠ c := fun x => e x.symm
    by_cases hj : j < t.n
    · simp [e, hj, upd_ne _ _ e2]
    · simp [e, hj]
theorem On.tcells (h : On F w (timersL d p t) u) : u.cell? ⟨d, 0, none⟩ = some (.pointer (some ⟨p.tb, 0, none⟩)) ∧ u.cell? ⟨d, 1, none⟩ = some (.slice (some ⟨p.gb, 0, none⟩) t.n p.cap) ∧ u.cell? ⟨d, 2, none⟩ = some (.map (some p.mw)) :=
  ⟨h.cell 0 rfl 0, h.cell 0 rfl 1, h.cell 0 rfl 2⟩
theorem On.tptr (h : On F w (timersL d p t) u) {c : Nat} (hc : c < t.n) : u.cell? ⟨p.gb, c, none⟩ = some (.pointer (some ⟨p.D c, 0, none⟩)) := by
  obtain ⟨F1, _, hr⟩ := h.get 3 rfl
  obtain ⟨b, e, hcell⟩ := hr.cell (j := c) (v := .pointer (some ⟨p.D c, 0, none⟩)) (by simp [ptrsV, hc])
  cases e
  exact hcell
theorem On.tcap (h : On F w (timersL d p t) u) : t.n ≤ p.cap ∧ p.cap ≤ maxLen := by
  obtain ⟨F1, _, hr⟩ := h.get 3 rfl
  exact hr.cap
theorem On.tmap (h : On F w (timersL d p t) u) : MapAt .i64 u p.mw (duesV t.whr) := by
  obtain ⟨F1, _, hr⟩ := h.get 2 rfl
  exact hr
theorem On.twheel (h : On F w (timersL d p t) u) {c : Nat} (hc : c < t.n) : ∃ F1, (wheelR (p.D c) (t.s c)).holds F1 u := h.get _ (tl_wheel hc)
theorem On.twheelDo {P : Program} {f : FuncId} {args : Array Value} {v : Value} {s' : SW} (h : On F w (timersL d p t) u) {c : Nat} (hc : c < t.n) (hh : ∀ F1, (wheelR (p.D c) (t.s c)).holds F1 u → Calls P f args u (Turns (wheelR (p.D c) s') F1 v u)) :
    Calls P f args u (fun e u' => e = .returned v ∧ On F w (timersL d p { t with s := upd t.s c s' }) u') := by
  have := h.call _ (tl_wheel hc) hh
  rw [tl_set] at this
  exact this
theorem On.tput (h : On F w (timersL d p t) u) (i : Int) (c : Nat) : ∃ w1, (Instr.mapUpdate 67 (.map (some p.mw)) (.int .i64 i) (.int .i64 c)).run Tryd.prog u = .ok () w1 ∧ On F w (timersL d p { t with whr := dput t.whr i c }) w1 := by
  obtain ⟨F1, ⟨rfl, hm⟩, h2, h3⟩ := h.gain (P' := mapR .i64 p.mw (duesV (dput t.whr i c))) 2 rfl
  obtain ⟨w1, hrun, m1, x1⟩ := map_update (P := Tryd.prog) hm Tryd.underlying67 Tryd.underlying3 i (.int .i64 (c : Nat))
  rw [mput_dues] at x1
  exact ⟨w1, hrun, h3 ⟨_, ⟨rfl, x1⟩, m1, fun b hb => .inl hb⟩⟩
theorem On.tdel (h : On F w (timersL d p t) u) (i : Int) : ∃ w1, (∀ ty, (Builtin.delete_ #[67, 3] ty #[.map (some p.mw), .int .i64 i]).run Tryd.prog u = .ok (.tuple #[]) w1) ∧ On F w (timersL d p { t with whr := ddel t.whr i }) w1 := by
  obtain ⟨F1, ⟨rfl, hm⟩, h2, h3⟩ := h.gain (P' := mapR .i64 p.mw (duesV (ddel t.whr i))) 2 rfl
  obtain ⟨w1, hrun, m1, x1⟩ := map_delete (P := Tryd.prog) hm Tryd.underlying67 Tryd.underlying3 i
  rw [mdel_dues] at x1
  exact ⟨w1, hrun, h3 ⟨_, ⟨rfl, x1⟩, m1, fun b hb => .inl hb⟩⟩
theorem whr_lookup2 {mw : Nat} {m : List (Int × Nat)} (h : MapAt .i64 u mw (duesV m)) (id : Int) :
    (Instr.lookup 67 (.map (some mw)) (.int .i64 id) true).run Tryd.prog u = .ok (.tuple #[.int .i64 ((dget m id).getD 0 : Nat), .bool (dget m id).isSome]) u := by
  have := map_lookup2 (P := Tryd.prog) h Tryd.underlying67 Tryd.underlying3 id (fun w => Tryd.zeroValue3 w)
  rw [mget_dues] at this
  rw [this]
  cases dget m id <;> rfl
end

def mayE (n : Nat) (l : List Int) : Int := if ∀ c, c ∈ l → 0 ≤ c ∧ c < n then 0 else 3
set_option maxRecDepth 100000 in
set_option maxHeartbeats 1000000 in
theorem timers_may (d n cap : Nat) (g : Option Addr) (w : World) (c1 : w.cell? ⟨d, 1, none⟩ = some (.slice g n cap)) (a : Option Addr) (cp : Nat) (l : List Int) (hl : l.length ≤ 1000) (hI : IsInts w a l) :
    Calls Tryd.prog 31 #[.pointer (some ⟨d, 0, none⟩), .slice a l.length cp] w (Ret (.int .i64 (mayE n l)) w) := by
  have hM : ∀ j, j < l.length → ¬ (0 ≤ nth l j ∧ nth l j < n) → mayE n l = 3 := by
    intro j hj hn
    exact if_neg (fun h => hn (h _ (by simp [nth, List.getD, hj])))
  have hM0 : (∀ j, j < l.length → 0 ≤ nth l j ∧ nth l j < n) → mayE n l = 0 := by
    intro h
    refine if_pos (fun c hc => ?_)
    obtain ⟨j, hj, rfl⟩ := List.getElem_of_mem hc
    have := h j hj
    simpa [nth, List.getD, hj] using this
  generalize mayE n l = v at *
  go_enter Tryd.func31, Tryd.ntmps31
  go_wp2
  go_loopg [11] l.length (fun gg i wr => ∃ j : Nat, i = .int .i64 j ∧ j + gg = l.length ∧ (∀ k, k < j → 0 ≤ nth l k ∧ nth l k < n) ∧ Drew w wr)
  case atStart => exact ⟨0, rfl, by omega, by omega, Drew.refl _⟩
  case round =>
    obtain ⟨j, rfl, hj, he, hD⟩ := hrel
    have c1r := (hD.mod (S := [])).at c1 (by simp)
    by_cases hlt : j < l.length
    · have hIr := hI.same hD.heap
      obtain ⟨b, rfl, _, hc⟩ := hIr.resolve_left (fun e => by rw [e] at hlt; simp at hlt)
      have cj := hc j hlt
      have hltI : (j : Int) < l.length := by omega
      clear hc hI hIr
      by_cases ok : 0 ≤ nth l j ∧ nth l j < n
      · have hstep : ∀ k, k < j + 1 → 0 ≤ nth l k ∧ nth l k < n := by
          intro k hk
          by_cases e : k = j
          · subst e; exact ok
          · exact he k (by omega)
        obtain ⟨ok1, ok2⟩ := ok
        clear he hM
        generalize nth l j = x at *
        have q1 : ¬ (x < 0) := by omega
        have q2 : ¬ ((n : Int) ≤ x) := by omega
        go_wp2
        go_roundg (gk - 1)
        case measure => omega
        case rel => exact ⟨j + 1, by go_num, by omega, hstep, by repeat (first | exact hD | apply Drew.drewN | apply Drew.drew)⟩
      · have hv := hM j hlt ok
        subst hv
        clear hM hM0 he
        generalize nth l j = x at *
        by_cases q1 : x < 0
        · go_wp2
          go_ret
          refine ⟨rfl, by repeat (first | exact hD | apply Drew.drewN | apply Drew.drew)⟩
        · have q2 : (n : Int) ≤ x := by omega
          go_wp2
          go_ret
          refine ⟨rfl, by repeat (first | exact hD | apply Drew.drewN | apply Drew.drew)⟩
    · have hv := hM0 (fun k hk => he k (by omega))
      subst hv
      have hltI : ¬ (j : Int) < l.length := by omega
      clear hM hM0 he hI
      go_wp2
      go_ret
      refine ⟨rfl, by repeat (first | exact hD | apply Drew.drewN | apply Drew.drew)⟩
end Go.Proofs.YthieionajemjhaaDoor
