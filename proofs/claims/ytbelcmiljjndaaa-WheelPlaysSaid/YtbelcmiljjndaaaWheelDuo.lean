/- The two wheels of WheelPlays beside each other, and blocks that are held known. -/
import Derived.Test.YtbelcmiljjndaaaWheelLaw
namespace Go.Proofs.Ytbelcmiljjndaaa
set_option linter.unusedVariables false
set_option linter.unusedSimpArgs false
open Go.RowKit

def Duo (w0 : World) (d mb r : Nat) (X : List (Nat × Obj)) (s : SW) (now : Nat) (L : List (Int × Nat)) (u : World) : Prop :=
  ∃ G g cap, WheelAt u d mb G s ∧ RWAt u r g cap now L ∧ (∀ b, b ∈ wBlocks d mb G → w0.heap.size ≤ b ∧ b ∉ rwBlocks r g) ∧ (∀ b, b ∈ rwBlocks r g → w0.heap.size ≤ b) ∧ Mod [] w0 u ∧
    ∀ p, p ∈ X → u.heap[p.1]? = some p.2 ∧ p.1 ∉ wBlocks d mb G ∧ p.1 ∉ rwBlocks r g
section
variable {w0 u u' : World} {d mb r : Nat} {X : List (Nat × Obj)} {s s' : SW} {now now' : Nat} {L L' : List (Int × Nat)}
theorem Duo.mod (h : Duo w0 d mb r X s now L u) : Mod [] w0 u := by
  obtain ⟨G, g, cap, h1, h2, h3, h4, h5, h6⟩ := h
  exact h5
theorem Duo.keep (h : Duo w0 d mb r X s now L u) (m : Mod [] u u') : Duo w0 d mb r X s now L u' := by
  obtain ⟨G, g, cap, h1, h2, h3, h4, h5, h6⟩ := h
  exact ⟨G, g, cap, h1.keep m (by simp), h2.keep m (by simp), h3, h4, h5.trans m (by simp), fun p hp => ⟨m.keep (h6 p hp).1 (by simp), (h6 p hp).2⟩⟩
theorem Duo.drewN (h : Duo w0 d mb r X s now L u) (k : Nat) : Duo w0 d mb r X s now L (u.drewN k) := h.keep ((Mod.refl _ _).drewN k)
theorem Duo.drop (h : Duo w0 d mb r X s now L u) : Duo w0 d mb r [] s now L u := by
  obtain ⟨G, g, cap, h1, h2, h3, h4, h5, h6⟩ := h
  exact ⟨G, g, cap, h1, h2, h3, h4, h5, by simp⟩
theorem Duo.alloc (h : Duo w0 d mb r X s now L u) (o : Obj) : Duo w0 d mb r ((u.heap.size, o) :: X) s now L (u.alloc o) := by
  obtain ⟨G, g, cap, h1, h2, h3, h4, h5, h6⟩ := h
  have m : Mod [] u (u.alloc o) := (Mod.refl _ _).alloc _
  refine ⟨G, g, cap, h1.keep m (by simp), h2.keep m (by simp), h3, h4, h5.trans m (by simp), fun p hp => ?_⟩
  rcases List.mem_cons.1 hp with rfl | hp
  · exact ⟨heapNew _ _, fun hb => by have := h1.lt _ hb; simp at this, fun hb => by have := h2.lt _ hb; simp at this⟩
  · exact ⟨m.keep (h6 p hp).1 (by simp), (h6 p hp).2⟩
theorem Duo.held (h : Duo w0 d mb r X s now L u) {p : Nat × Obj} (hp : p ∈ X) : u.heap[p.1]? = some p.2 := by
  obtain ⟨G, g, cap, h1, h2, h3, h4, h5, h6⟩ := h
  exact (h6 p hp).1
theorem Duo.cellNow (h : Duo w0 d mb r X s now L u) : u.cell? ⟨r, 0, none⟩ = some (.int .i64 now) := by
  obtain ⟨G, g, cap, h1, h2, h3, h4, h5, h6⟩ := h
  exact cellAt h2.obj 0
theorem Duo.cellL (h : Duo w0 d mb r X s now L u) : ∃ g cap, u.cell? ⟨r, 1, none⟩ = some (.slice (rA g) L.length cap) := by
  obtain ⟨G, g, cap, h1, h2, h3, h4, h5, h6⟩ := h
  exact ⟨g, cap, cellAt h2.obj 1⟩
/-- A call that writes the program's wheel. -/
theorem Duo.callP {P : Program} {f : FuncId} {args : Array Value} {v : Value} (h : Duo w0 d mb r X s now L u) (hc : ∀ G, WheelAt u d mb G s → Calls P f args u (WheelDo d mb G v s' u)) : Calls P f args u (fun e u' => e = .returned v ∧ Duo w0 d mb r X s' now L u') := by
  obtain ⟨G, g, cap, h1, h2, h3, h4, h5, h6⟩ := h
  refine (hc G h1).mono ?_
  rintro e u' ⟨rfl, G', m, x, hn⟩
  have hsz := h5.size
  refine ⟨rfl, G', g, cap, x, h2.keep m (fun b hb hb' => (h3 b hb').2 hb), fun b hb => ?_, h4, h5.trans m (fun b hb => .inr (h3 b hb).1), fun p hp => ⟨m.keep (h6 p hp).1 (h6 p hp).2.1, fun hb => ?_, (h6 p hp).2.2⟩⟩
  · rcases hn b hb with hb | hb
    · exact h3 b hb
    · exact ⟨by omega, fun hb' => by have := h2.lt b hb'; omega⟩
  · rcases hn _ hb with hb | hb
    · exact (h6 p hp).2.1 hb
    · have := ltOf (h6 p hp).1; omega
/-- A call that writes the document's wheel. -/
theorem Duo.callR {P : Program} {f : FuncId} {args : Array Value} {v : Value} (h : Duo w0 d mb r X s now L u) (hc : ∀ g cap, RWAt u r g cap now L → Calls P f args u (RWDo r g v now' L' u)) : Calls P f args u (fun e u' => e = .returned v ∧ Duo w0 d mb r X s now' L' u') := by
  obtain ⟨G, g, cap, h1, h2, h3, h4, h5, h6⟩ := h
  refine (hc g cap h2).mono ?_
  rintro e u' ⟨rfl, g', cap', m, x, hn⟩
  have hsz := h5.size
  have hr : r ∈ rwBlocks r g := List.mem_cons_self
  have hnn : ∀ b, b ∈ rwBlocks r g' → b ∈ rwBlocks r g ∨ u.heap.size ≤ b := by
    intro b hb
    rcases List.mem_cons.1 hb with rfl | hb
    · exact .inl hr
    · rcases hn b hb with hb | hb
      · exact .inl (List.mem_cons_of_mem _ hb)
      · exact .inr hb
  refine ⟨rfl, G, g', cap', h1.keep m (fun b hb hb' => ?_), x, fun b hb => ⟨(h3 b hb).1, fun hb' => ?_⟩, fun b hb => ?_, h5.trans m (fun b hb => ?_), fun p hp => ⟨m.keep (h6 p hp).1 (fun hb => ?_), (h6 p hp).2.1, fun hb => ?_⟩⟩
  · rw [List.mem_singleton.1 hb'] at hb; exact (h3 _ hb).2 hr
  · rcases hnn b hb' with hb' | hb'
    · exact (h3 b hb).2 hb'
    · have := h1.lt b hb; omega
  · rcases hnn b hb with hb | hb
    · exact h4 b hb
    · omega
  · rw [List.mem_singleton.1 hb]; exact .inr (h4 r hr)
  · exact (h6 p hp).2.2 (by rw [List.mem_singleton.1 hb]; exact hr)
  · rcases hnn _ hb with hb | hb
    · exact (h6 p hp).2.2 hb
    · have := ltOf (h6 p hp).1; omega
theorem rwGoDo {P : Program} {f : FuncId} {args : Array Value} {v : Value} {g : Option Nat} {cap : Nat} (h : Calls P f args u (Rets v [r] u fun w' => RWAt w' r g cap now' L)) : Calls P f args u (RWDo r g v now' L u) := by
  refine h.mono ?_
  rintro e u' ⟨rfl, m, x⟩
  exact ⟨rfl, g, cap, m, x, fun b hb => .inl hb⟩

/-- What is asked: a call reads both wheels and leaves them. -/
def Tells (P : Program) (D : World → Prop) (f : FuncId) (args : Array Value) (v : Value) : Prop := ∀ u, D u → Calls P f args u (fun e u' => e = .returned v ∧ Mod [] u u')
/-- .. and makes a new slice of ints. -/
def TellsInts (P : Program) (D : World → Prop) (f : FuncId) (args : Array Value) (l : List Int) : Prop := ∀ u, D u → Calls P f args u (fun e u' => ∃ a c, e = .returned (.slice a l.length c) ∧ Mod [] u u' ∧ IsInts u' a l)

/-- All that the law asks of two wheels that hold the same. -/
theorem duo_tells (hs : Sim s L) (hL : L.length ≤ 200) (id : Int) :
    Tells Try.prog (Duo w0 d mb r X s s.now L) 54 #[.pointer (some ⟨d, 0, none⟩)] (.tuple #[.int .i64 (rnextV L), .int .i64 (rnextE L)])
    ∧ Tells Try.prog (Duo w0 d mb r X s s.now L) 55 #[.pointer (some ⟨r, 0, none⟩)] (.tuple #[.int .i64 (rnextV L), .int .i64 (rnextE L)])
    ∧ Tells Try.prog (Duo w0 d mb r X s s.now L) 56 #[.pointer (some ⟨d, 0, none⟩), .int .i64 id] (.tuple #[.int .i64 ((dget L id).getD 0 : Nat), .bool (dget L id).isSome])
    ∧ Tells Try.prog (Duo w0 d mb r X s s.now L) 57 #[.pointer (some ⟨r, 0, none⟩), .int .i64 id] (.tuple #[.int .i64 ((dget L id).getD 0 : Nat), .bool (dget L id).isSome])
    ∧ Tells Try.prog (Duo w0 d mb r X s s.now L) 58 #[.pointer (some ⟨d, 0, none⟩)] (.int .i64 s.now)
    ∧ Tells Try.prog (Duo w0 d mb r X s s.now L) 59 #[.pointer (some ⟨d, 0, none⟩)] (.int .i64 L.length)
    ∧ TellsInts Try.prog (Duo w0 d mb r X s s.now L) 47 #[.pointer (some ⟨d, 0, none⟩)] (idsOf (dueL s.now L))
    ∧ TellsInts Try.prog (Duo w0 d mb r X s s.now L) 60 #[.pointer (some ⟨r, 0, none⟩)] (idsOf (dueL s.now L))
    ∧ TellsInts Try.prog (Duo w0 d mb r X s s.now L) 61 #[.pointer (some ⟨d, 0, none⟩)] (idsOf L)
    ∧ TellsInts Try.prog (Duo w0 d mb r X s s.now L) 62 #[.pointer (some ⟨r, 0, none⟩)] (idsOf L) := by
  have hlen := fun k => hs.inv.len k
  have hl := hs.len
  refine ⟨?_, ?_, ?_, ?_, ?_, ?_, ?_, ?_, ?_, ?_⟩
  · intro u h
    have h0 := h
    obtain ⟨G, g, cap, h1, h2, _⟩ := h0
    have := wheel_Next d mb G s u h1 (fun k => by have := hlen k; omega) (fun hd => (firstK_has hs.inv hd).1)
    rw [hs.next, hs.nextE] at this
    refine this.mono ?_
    rintro e u' ⟨rfl, m, _⟩
    exact ⟨rfl, m⟩
  · intro u h
    have h0 := h
    obtain ⟨G, g, cap, h1, h2, _⟩ := h0
    refine (rwheel_Next r g cap s.now L u h2).mono ?_
    rintro e u' ⟨rfl, k, rfl⟩
    exact ⟨rfl, (Mod.refl _ _).drewN k⟩
  · intro u h
    have h0 := h
    obtain ⟨G, g, cap, h1, h2, _⟩ := h0
    have := wheel_When d mb G s u h1 id
    rw [hs.when, ← hs.get] at this
    refine this.mono ?_
    rintro e u' ⟨rfl, k, rfl⟩
    exact ⟨rfl, (Mod.refl _ _).drewN k⟩
  · intro u h
    have h0 := h
    obtain ⟨G, g, cap, h1, h2, _⟩ := h0
    refine (rwheel_When r g cap s.now L u h2 id).mono ?_
    rintro e u' ⟨rfl, k, rfl⟩
    exact ⟨rfl, (Mod.refl _ _).drewN k⟩
  · intro u h
    have h0 := h
    obtain ⟨G, g, cap, h1, h2, _⟩ := h0
    refine (wheel_Now d mb G s u h1).mono ?_
    rintro e u' ⟨rfl, k, rfl⟩
    exact ⟨rfl, (Mod.refl _ _).drewN k⟩
  · intro u h
    have h0 := h
    obtain ⟨G, g, cap, h1, h2, _⟩ := h0
    have := wheel_Len d mb G s u h1
    rw [← hl] at this
    refine this.mono ?_
    rintro e u' ⟨rfl, k, rfl⟩
    exact ⟨rfl, (Mod.refl _ _).drewN k⟩
  · intro u h
    have h0 := h
    obtain ⟨G, g, cap, h1, h2, _⟩ := h0
    refine (wheel_Due d mb G s u h1 (by have := hlen 168; omega)).mono ?_
    rintro e u' ⟨a, c, rfl, m, i⟩
    have hd := hs.due
    rw [hd] at i
    refine ⟨a, c, ?_, m, i⟩
    rw [← hd, sortW_len]
  · intro u h
    have h0 := h
    obtain ⟨G, g, cap, h1, h2, _⟩ := h0
    refine (rwheel_Due r g cap s.now L u h2 (by omega)).mono ?_
    rintro e u' ⟨g', c, rfl, i, m⟩
    exact ⟨_, c, rfl, m, i.ints⟩
  · intro u h
    have h0 := h
    obtain ⟨G, g, cap, h1, h2, _⟩ := h0
    refine (wheel_List d mb G s u h1 hs.inv.wf (by omega)).mono ?_
    rintro e u' ⟨a, c, rfl, m, i⟩
    rw [hs.list] at i
    refine ⟨a, c, ?_, m, i⟩
    unfold idsOf
    rw [List.length_map, hl]
  · intro u h
    have h0 := h
    obtain ⟨G, g, cap, h1, h2, _⟩ := h0
    refine (rwheel_List r g cap s.now L u h2 (by omega)).mono ?_
    rintro e u' ⟨g', c, rfl, i, m⟩
    exact ⟨_, c, rfl, m, i.ints⟩
/-- The four acts. -/
theorem duo_Add (hs : Sim s L) (hL : L.length ≤ 200) (id due : Int) (h : Duo w0 d mb r X s now L u) : Calls Try.prog 44 #[.pointer (some ⟨d, 0, none⟩), .int .i64 id, .int .i64 due] u (fun e u' => e = .returned (.int .i64 (raddE L id due)) ∧ Duo w0 d mb r X (s.add id due) now L u') := by
  have hl := hs.len
  rw [← hs.addE]
  exact h.callP (fun G h1 => wheel_Add d mb G s u h1 hs.inv.ok (fun k _ => by have := hs.inv.len k; omega) id due)
theorem duo_rAdd (hL : L.length ≤ 200) (id due : Int) (h : Duo w0 d mb r X s now L u) : Calls Try.prog 50 #[.pointer (some ⟨r, 0, none⟩), .int .i64 id, .int .i64 due] u (fun e u' => e = .returned (.int .i64 (raddE L id due)) ∧ Duo w0 d mb r X s now (radd L id due) u') :=
  h.callR (fun g cap h2 => rwheel_Add r g cap now L u h2 id due (by omega))
theorem duo_Drop (hs : Sim s L) (id : Int) (h : Duo w0 d mb r X s now L u) : Calls Try.prog 51 #[.pointer (some ⟨d, 0, none⟩), .int .i64 id] u (fun e u' => e = .returned (.int .i64 (rdropE L id)) ∧ Duo w0 d mb r X (s.drop id) now L u') := by
  rw [← hs.dropE]
  exact h.callP (fun G h1 => wheel_Drop d mb G s u h1 hs.inv.ok id (fun hx => by
    have := (hs.inv.has hx).2
    intro e
    rw [e] at this
    cases this))
theorem duo_rDrop (hL : L.length ≤ 200) (id : Int) (h : Duo w0 d mb r X s now L u) : Calls Try.prog 52 #[.pointer (some ⟨r, 0, none⟩), .int .i64 id] u (fun e u' => e = .returned (.int .i64 (rdropE L id)) ∧ Duo w0 d mb r X s now (ddel L id) u') :=
  h.callR (fun g cap h2 => rwheel_Drop r g cap now L u h2 id (by omega))
theorem duo_Go (hs : Sim s L) (hL : L.length ≤ 200) (t : Int) (h : Duo w0 d mb r X s now L u) : Calls Try.prog 46 #[.pointer (some ⟨d, 0, none⟩), .int .i64 t] u (fun e u' => e = .returned (.int .i64 (rgoE s.now t)) ∧ Duo w0 d mb r X (s.go t) now L u') := by
  have hl := hs.len
  rw [← hs.goE]
  exact h.callP (fun G h1 => wheel_Go d mb G s u h1 hs.inv.ok (fun k => by have := hs.inv.len k; omega) t)
theorem duo_rGo (t : Int) (h : Duo w0 d mb r X s now L u) : Calls Try.prog 53 #[.pointer (some ⟨r, 0, none⟩), .int .i64 t] u (fun e u' => e = .returned (.int .i64 (rgoE now t)) ∧ Duo w0 d mb r X s (rgo now t) L u') :=
  h.callR (fun g cap h2 => rwGoDo (rwheel_Go r g cap now L u h2 t))
end
theorem radd_len (L : List (Int × Nat)) (id due : Int) : (radd L id due).length ≤ L.length + 1 := by
  unfold radd
  split
  · have := (insL_perm L id due.toNat).length_eq
    simp at this
    omega
  · omega
theorem ddel_len (L : List (Int × Nat)) (id : Int) : (ddel L id).length ≤ L.length := by
  unfold ddel
  split
  · exact List.length_eraseIdx_le _ _
  · exact Nat.le_refl _
theorem add_now (s : SW) (id due : Int) : (s.add id due).now = s.now := by
  unfold SW.add
  split <;> rfl
theorem drop_now (s : SW) (id : Int) : (s.drop id).now = s.now := by
  unfold SW.drop
  split <;> rfl
end Go.Proofs.Ytbelcmiljjndaaa
