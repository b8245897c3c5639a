/- How a slice that came in reads for a walk: its first len elements, each written out as its cells. No condition. -/
import Derived.Test.YthieionajemjhaaDoorKit
import Derived.ProofKit
import Derived.OpenShut
import Derived.ShutString
import Derived.ChangeOld
import Derived.Deep.Slices
namespace Go.Proofs.YthieionajemjhaaDoor
set_option linter.unusedVariables false
set_option linter.unusedSimpArgs false
open Go.ChangeShapes Go.WideShapes Go.ChangeAt Go.RowKit Go.Deep

/-- A slice that came in: it has no elements; or element i lies in the n cells from off + i * n on of block b: the values of A i. -/
def IsArr {α : Type} (n : Nat) (vals : α → List Value) (ok : α → Prop) (w : World) (a : Option Addr) (len cap : Nat) (A : Nat → α) : Prop :=
  len ≤ cap ∧ cap ≤ maxLen ∧ (len = 0 ∨ ∃ b off, a = some ⟨b, off, none⟩ ∧ b < w.heap.size ∧ ∀ i, i < len → ok (A i) ∧ ∀ j, j < n → w.cell? ⟨b, off + (i * n + j), none⟩ = (vals (A i))[j]?)

/-- .. read later, in a world in which all old blocks are as they were. -/
theorem IsArr.later {α : Type} {n : Nat} {vals : α → List Value} {ok : α → Prop} {w w' : World} {a : Option Addr} {len cap : Nat} {A : Nat → α} (h : IsArr n vals ok w a len cap A) (m : Mod [] w w') : IsArr n vals ok w' a len cap A := by
  obtain ⟨h1, h2, h3⟩ := h
  refine ⟨h1, h2, ?_⟩
  rcases h3 with h3 | ⟨b, off, h3, hb, h4⟩
  · exact .inl h3
  · refine .inr ⟨b, off, h3, Nat.lt_of_lt_of_le hb m.size, fun i hi => ⟨(h4 i hi).1, fun j hj => ?_⟩⟩
    rw [← (h4 i hi).2 j hj]
    exact m.cell (p := ⟨b, off + (i * n + j), none⟩) hb (by simp)

theorem cellsOf_arr {α : Type} {n : Nat} {vals : α → List Value} {ok : α → Prop} {w wr : World} {a : Option Addr} {len cap : Nat} {A : Nat → α} (hA : IsArr n vals ok w a len cap A) (m : Mod [] w wr) {k : Nat} (hk : k < len) :
    ∃ b off, a = some ⟨b, off, none⟩ ∧ ok (A k) ∧ b < w.heap.size ∧ ∀ j, j < n → wr.cell? ⟨b, off + k * n + j, none⟩ = (vals (A k))[j]? := by
  obtain ⟨_, _, h | ⟨b, off, ha, hb, h⟩⟩ := hA
  · omega
  · exact ⟨b, off, ha, (h k hk).1, hb, fun j hj => by rw [← (h k hk).2 j hj, Nat.add_assoc]; exact m.cell (p := ⟨b, off + (k * n + j), none⟩) hb (by simp)⟩

section
variable {H : Type} {enc : TypeId × Value → H} {P : Program} {w : World} {spare : Nat → Bool} {held : Bool}

theorem isArr_of {α : Type} [Inhabited α] {t e : TypeId} {fuel : Nat} {a : Option Addr} {len cap : Nat} {x : DataW H × List MemPlace} (ht : P.underlying t = some (.slice e)) {n : Nat} (hn : P.cellsOf e = n) (hpos : 0 < n)
    (vals : α → List Value) (ok : α → Prop) (elem : ∀ m cs y, DataW.trod enc P w 0 spare held m e cs = some y → ∃ z, cs = vals z ∧ ok z)
    (h : DataW.trod enc P w 0 spare held fuel t [.slice a len cap] = some x) : ∃ A, IsArr n vals ok w a len cap A := by
  rcases open_slice ht h with ⟨h0, _⟩ | ⟨a', len', cap', m, nf, D, Pl, hcs, _, hl, hm, hmm, _, hx⟩
  · simp at h0
    obtain ⟨rfl, rfl, rfl⟩ := h0
    exact ⟨fun _ => default, Nat.le_refl _, Nat.zero_le _, .inl rfl⟩
  · simp at hcs
    obtain ⟨rfl, rfl, rfl⟩ := hcs
    have hlm : len ≤ m := by rw [hmm]; split <;> omega
    obtain ⟨A, hA⟩ := choose_lt (α := α) (p := fun i z => ok z ∧ ∀ j, j < n → w.cell? ((a'.add (i * n)).add j) = (vals z)[j]?) (fun i (hi : i < len) => by
      obtain ⟨cs', h1, h2⟩ := hx i (by omega)
      obtain ⟨z, rfl, hz⟩ := elem _ _ _ h2
      rw [hn] at h1
      obtain ⟨_, hlen, hcell⟩ := World.cells?_some h1
      refine ⟨z, hz, fun j hj => ?_⟩
      have := hcell j hj
      simpa using this)
    refine ⟨A, hl, hm, ?_⟩
    by_cases h0 : len = 0
    · exact .inl h0
    · have hc0 := (hA 0 (by omega)).2 0 hpos
      obtain ⟨cs', h1, h2⟩ := hx 0 (by omega)
      obtain ⟨z, rfl, hz⟩ := elem _ _ _ h2
      rw [hn] at h1
      obtain ⟨_, hlen, hcell⟩ := World.cells?_some h1
      have hc := hcell 0 hpos
      have hsome : ∃ v, w.cell? a' = some v := by
        have : 0 < (vals z).length := by omega
        refine ⟨(vals z)[0], ?_⟩
        simp only [Nat.zero_mul, Addr.add, if_true] at hc
        rw [hc]; simp [this]
      obtain ⟨v, hv⟩ := hsome
      have hspot := World.cell?_spot hv
      obtain ⟨b, off, spot⟩ := a'
      simp only at hspot
      subst hspot
      have hb : b < w.heap.size := by
        unfold World.cell? at hv
        split at hv
        · rename_i hh; exact ltOf hh
        · cases hv
      refine .inr ⟨b, off, rfl, hb, fun i hi => ⟨(hA i hi).1, fun j hj => ?_⟩⟩
      rw [← (hA i hi).2 j hj, add_add]
      unfold Addr.add
      split <;> simp_all

theorem elem_bool {e : TypeId} (he : P.underlying e = some .bool) : ∀ m cs y, DataW.trod enc P w 0 spare held m e cs = some y → ∃ z : Bool, cs = [.bool z] ∧ True := fun _ _ _ h => by
  obtain ⟨b, h1, _⟩ := DataW.trod_bool he h
  exact ⟨b, h1, trivial⟩
theorem elem_int {e : TypeId} {k : IntKind} (he : P.underlying e = some (.int k)) : ∀ m cs y, DataW.trod enc P w 0 spare held m e cs = some y → ∃ z : Int, cs = [.int k z] ∧ (Lit.int k z).wf = true := fun _ _ _ h => by
  obtain ⟨b, h1, _, h2⟩ := DataW.trod_int he h
  exact ⟨b, h1, h2⟩
theorem elem_string {e : TypeId} (he : P.underlying e = some .string) : ∀ m cs y, DataW.trod enc P w 0 spare held m e cs = some y → ∃ z : ByteArray, cs = [.string z] ∧ z.size ≤ maxLen := fun _ _ _ h => by
  obtain ⟨b, h1, _, h2⟩ := DataW.trod_string he h
  exact ⟨b, h1, h2⟩
end

/-- The kinds of fields that a flat struct has. -/
inductive FK where
  | i (k : IntKind)
  | b
  | s
def FK.ok : FK → Value → Prop
  | .i k, v => ∃ n, v = .int k n ∧ (Lit.int k n).wf = true
  | .b, v => ∃ x, v = .bool x
  | .s, v => ∃ s : ByteArray, v = .string s ∧ s.size ≤ maxLen
def FK.desc : FK → TypeDesc → Prop
  | .i k, d => d = .int k
  | .b, d => d = .bool
  | .s, d => d = .string

/-- A struct all of whose fields are one cell each: its cells, one by one. -/
theorem flat {H : Type} {enc : TypeId × Value → H} {P : Program} {w : World} {spare : Nat → Bool} {held : Bool} {e : TypeId} {fs : Array Field} {m : Nat} {cs : List Value} {y : DataW H × List MemPlace} (he : P.underlying e = some (.struct fs)) (ks : List FK)
    (hn : P.cellsOf e = ks.length) (hs : fs.size = ks.length) (hf : ∀ (i : Nat) (k : FK), ks[i]? = some k → ∃ f : Field, fs[i]? = some f ∧ f.offset = i ∧ P.cellsOf f.type = 1 ∧ ∃ d, P.underlying f.type = some d ∧ k.desc d)
    (h : DataW.trod enc P w 0 spare held m e cs = some y) : cs.length = ks.length ∧ ∀ (i : Nat) (k : FK), ks[i]? = some k → ∃ v, cs[i]? = some v ∧ k.ok v := by
  obtain ⟨xs, n, _, _, hl, hx, hg⟩ := DataW.trod_struct he h
  rw [hn] at hl
  refine ⟨hl, fun i k hk => ?_⟩
  obtain ⟨f, hfi, ho, hc, d, hd, hkd⟩ := hf i k hk
  have hi : i < ks.length := (List.getElem?_eq_some_iff.1 hk).1
  have hr := hg i f hfi
  rw [ho, hc, List.getElem?_eq_getElem (by omega)] at hr
  have hcs : (cs.drop i).take 1 = [cs[i]'(by omega)] := by
    rw [List.drop_eq_getElem_cons (show i < cs.length by omega)]; rfl
  rw [hcs] at hr
  refine ⟨cs[i]'(by omega), List.getElem?_eq_getElem (by omega), ?_⟩
  cases k with
  | i k =>
    have hd' : P.underlying f.type = some (.int k) := by rw [hd, show d = .int k from hkd]
    obtain ⟨b, h1, _, h2⟩ := DataW.trod_int hd' hr
    exact ⟨b, by simpa using h1, h2⟩
  | b =>
    have hd' : P.underlying f.type = some .bool := by rw [hd, show d = .bool from hkd]
    obtain ⟨b, h1, _⟩ := DataW.trod_bool hd' hr
    exact ⟨b, by simpa using h1⟩
  | s =>
    have hd' : P.underlying f.type = some .string := by rw [hd, show d = .string from hkd]
    obtain ⟨b, h1, _, h2⟩ := DataW.trod_string hd' hr
    exact ⟨b, by simpa using h1, h2⟩

theorem i64bd {z : Int} (h : (Lit.int .i64 z).wf = true) : -9223372036854775808 ≤ z ∧ z ≤ 9223372036854775807 := by
  simpa [Lit.wf, IntKind.min, IntKind.max, IntKind.signed, IntKind.bits] using h
theorem u64bd {z : Int} (h : (Lit.int .u64 z).wf = true) : 0 ≤ z ∧ z ≤ 18446744073709551615 := by
  simpa [Lit.wf, IntKind.min, IntKind.max, IntKind.signed, IntKind.bits] using h
end Go.Proofs.YthieionajemjhaaDoor
