/- A region that draws its order and holds calls that write: one walk of the text's order serves every order, if of each operation it is shown what it does in every world that the operations ahead of it or behind it may have left. No condition. -/
import Derived.Test.YthieionajemjhaaDoorKit
import Derived.Deep.Quiet
import Derived.Deep.MidRow
namespace Go.Proofs.YthieionajemjhaaDoor
set_option linter.unusedVariables false
set_option linter.unusedSimpArgs false
open Go.RowKit

section
variable {P : Program} {ops : Array Oper} {md : Region.Mode} {C : Array Bool → World → Prop}

/-- What is asked once an operation has yielded this: the value v, and a world of C'. -/
def calmUpon (P : Program) (C' : World → Prop) (v : Value) : Result Next → Prop
  | .ok (.value u) w' => u = v ∧ C' w'
  | .ok .skip w' => v = undef ∧ C' w'
  | .ok (.enter f args) w' => Calls P f args w' (fun e w'' => e = .returned v ∧ C' w'')
  | _ => False

/-- All that operation o waits for has come up. -/
def Waited (md : Region.Mode) (o : Oper) (s : Array Bool) : Prop := ∀ e ∈ o.after, Region.binds md e = true → s.getD e.on false = true
/-- Operation i waits for operation j, at once or through others. -/
def beforeB (md : Region.Mode) (ops : Array Oper) : Nat → Nat → Nat → Bool
  | 0, _, _ => false
  | n + 1, i, j => match ops[i]? with
    | none => false
    | some o => o.after.any fun e => Region.binds md e && (e.on == j || beforeB md ops n e.on j)
/-- All that operation i waits for has come up. -/
def UpTo (md : Region.Mode) (ops : Array Oper) (i : Nat) (s : Array Bool) : Prop := ∀ j n, beforeB md ops n i j = true → s.getD j true = true
/-- What has come up came up behind all that it waits for. -/
def Closed (md : Region.Mode) (ops : Array Oper) (s : Array Bool) : Prop := ∀ j o, ops[j]? = some o → s.getD j false = true → Waited md o s

theorem upOf {s : Array Bool} {j : Nat} (h : s.getD j false = true) : s.getD j true = true := by
  simp only [Array.getD_eq_getD_getElem?] at *
  cases hh : s[j]? <;> simp_all
theorem closed_up {s : Array Bool} (hc : Closed md ops s) : ∀ (n i : Nat) (o : Oper), ops[i]? = some o → Waited md o s → ∀ j, beforeB md ops n i j = true → s.getD j true = true
  | 0, _, _, _, _, _, h => by simp [beforeB] at h
  | n + 1, i, o, ho, hW, j, h => by
    unfold beforeB at h
    rw [ho] at h
    simp only [Array.any_eq_true] at h
    obtain ⟨x, hx, h⟩ := h
    simp only [Bool.and_eq_true, Bool.or_eq_true, beq_iff_eq] at h
    obtain ⟨hb, h⟩ := h
    have hup := hW _ (Array.getElem_mem hx) hb
    rcases h with h | h
    · rw [← h]; exact upOf hup
    · cases ho' : ops[(o.after[x]).on]? with
      | none => 
        cases n with
        | zero => simp [beforeB] at h
        | succ n => unfold beforeB at h; rw [ho'] at h; cases h
      | some o' => exact closed_up hc n _ o' ho' (hc _ o' ho' hup) j h
theorem closed_set {s : Array Bool} {i : Nat} (hc : Closed md ops s) (hW : ∀ o, ops[i]? = some o → Waited md o s) : Closed md ops (s.setIfInBounds i true) := by
  have mono : ∀ j, s.getD j false = true → (s.setIfInBounds i true).getD j false = true := by
    intro j hj
    by_cases e : i = j
    · subst e
      simp only [Array.getD_eq_getD_getElem?, Array.getElem?_setIfInBounds] at *
      simp only [if_true]
      split
      · rfl
      · rename_i h; simp [Array.getElem?_eq_none (Nat.le_of_not_lt h)] at hj
    · simp only [Array.getD_eq_getD_getElem?, Array.getElem?_setIfInBounds, if_neg e] at *
      exact hj
  intro j o ho hj e he hb
  by_cases hji : i = j
  · subst hji
    exact mono _ (hW o ho e he hb)
  · have hj' : s.getD j false = true := by
      simp only [Array.getD_eq_getD_getElem?, Array.getElem?_setIfInBounds, if_neg hji] at *
      exact hj
    exact mono _ (hc j o ho hj' e he hb)

/-- Operation i yields v in every world of the class in which it has not come up yet. -/
def CalmAt (P : Program) (md : Region.Mode) (ops : Array Oper) (C : Array Bool → World → Prop) (i : Nat) (o : Oper) (a : Act) (v : Value) : Prop :=
  ∀ s w, s.getD i true = false → UpTo md ops i s → C s w → calmUpon P (C (s.setIfInBounds i true)) v ((execOp a.eval o).run P w)
/-- .. and, passed over, leaves the class. -/
def CalmSkip (C : Array Bool → World → Prop) (i : Nat) : Prop := ∀ s w, s.getD i true = false → C s w → C (s.setIfInBounds i true) w

/-- The walk in the text's order. -/
def wpCalm (P : Program) (md : Region.Mode) (ops : Array Oper) (C : Array Bool → World → Prop) (Q : Act → Prop) : Nat → List Oper → Act → Prop
  | _, [], a => Q a
  | i, o :: rest, a => if Region.wanted o (yielded ops a.tmps) then ∃ v, CalmAt P md ops C i o a v ∧ wpCalm P md ops C Q (i + 1) rest (a.put o.dst v) else CalmSkip C i ∧ wpCalm P md ops C Q (i + 1) rest (a.put o.dst undef)

def cOp (P : Program) (md : Region.Mode) (ops : Array Oper) (C : Array Bool → World → Prop) (i : Nat) (K : Act → Prop) (a : Act) : Prop :=
  match ops[i]? with
  | none => CalmSkip C i ∧ K a
  | some o => if Region.wanted o (yielded ops a.tmps) then ∃ v, CalmAt P md ops C i o a v ∧ K (a.put o.dst v) else CalmSkip C i ∧ K (a.put o.dst undef)

theorem cOp_mono {i : Nat} {a : Act} {K K' : Act → Prop} (h : ∀ a, K a → K' a) (hh : cOp P md ops C i K a) : cOp P md ops C i K' a := by
  unfold cOp at *
  split
  · rename_i ho; simp only [ho] at hh; exact ⟨hh.1, h _ hh.2⟩
  · rename_i o ho
    simp only [ho] at hh
    split
    · rename_i hw; simp only [hw, if_true] at hh; obtain ⟨v, h1, h2⟩ := hh; exact ⟨v, h1, h _ h2⟩
    · rename_i hw; simp only [hw] at hh; exact ⟨hh.1, h _ hh.2⟩

def wpAnyC (P : Program) (md : Region.Mode) (ops : Array Oper) (C : Array Bool → World → Prop) (Q : Act → Prop) : Nat → Array Bool → Act → Prop
  | 0, listed, a => Region.ready md ops listed = [] ∧ (∀ i, i < ops.size → listed.getD i true = true) ∧ Q a
  | fuel + 1, listed, a =>
    (Region.ready md ops listed = [] → False) ∧
    ∀ i ∈ Region.ready md ops listed, cOp P md ops C i (wpAnyC P md ops C Q fuel (listed.setIfInBounds i true)) a

theorem wpOp_of_cOp {i : Nat} {a : Act} {K : Act → Prop} {K' : Act → World → Prop} {Q' : Exit → Act → World → Prop} {w : World} {s : Array Bool} (hs : s.getD i true = false) (hW : UpTo md ops i s) (hC : C s w) (h : ∀ a w', C (s.setIfInBounds i true) w' → K a → K' a w') (hh : cOp P md ops C i K a) : wpOp P ops Q' i K' a w := by
  unfold cOp at hh
  unfold wpOp
  split
  · rename_i ho; simp only [ho] at hh; exact h _ _ (hh.1 s w hs hC) hh.2
  · rename_i o ho
    simp only [ho] at hh
    split
    · rename_i hw
      simp only [hw, if_true] at hh
      obtain ⟨v, h1, h2⟩ := hh
      left
      have h3 := h1 s w hs hW hC
      unfold Oper.wp
      generalize (execOp a.eval o).run P w = r at *
      cases r with
      | ok n w' =>
        cases n <;> simp only [calmUpon] at h3 <;> simp only [Oper.upon]
        case value u =>
          obtain ⟨e1, e2⟩ := h3
          rw [e1]
          exact h _ _ e2 h2
        case skip =>
          obtain ⟨e1, e2⟩ := h3
          rw [← e1]
          exact h _ _ e2 h2
        case enter f args =>
          exact h3.mono fun e w'' ⟨he, hw''⟩ => by subst he; exact h _ _ hw'' h2
      | halt x w' => simp only [calmUpon] at h3
    · rename_i hw; simp only [hw] at hh; exact h _ _ (hh.1 s w hs hC) hh.2

theorem ready_waited {i : Nat} {listed : Array Bool} (h : i ∈ Region.ready md ops listed) : ∀ o, ops[i]? = some o → Waited md o listed := by
  intro o ho
  obtain ⟨_, o', ho', hall⟩ := mem_ready.1 h
  rw [ho] at ho'
  cases ho'
  exact hall
theorem ready_up {i : Nat} {listed : Array Bool} (hc : Closed md ops listed) (h : i ∈ Region.ready md ops listed) : UpTo md ops i listed := by
  intro j n hj
  obtain ⟨_, o, ho, hall⟩ := mem_ready.1 h
  exact closed_up hc n i o ho hall j hj
theorem ready_not {i : Nat} {listed : Array Bool} (h : i ∈ Region.ready md ops listed) : listed.getD i true = false := (mem_ready.1 h).1

theorem wpAny_of_calm {Q : Act → Prop} {Q' : Exit → Act → World → Prop} (hQ : ∀ a s w, (∀ i, i < ops.size → s.getD i true = true) → C s w → Q a → Q' .normal a w) : ∀ (fuel : Nat) (listed : Array Bool) (a : Act) (w : World), Closed md ops listed → C listed w →
    wpAnyC P md ops C Q fuel listed a → wpAny P md ops Q' fuel listed a w
  | 0, _, _, _, _, hw, h => ⟨h.1, hQ _ _ _ h.2.1 hw h.2.2⟩
  | fuel + 1, _, _, _, hcl, hw, h => ⟨fun h0 => (h.1 h0).elim, fun i hi => wpOp_of_cOp (ready_not hi) (ready_up hcl hi) hw (fun a' w' hw' => wpAny_of_calm hQ fuel _ a' w' (closed_set hcl (ready_waited hi)) hw') (h.2 i hi)⟩

def YieldsC (P : Program) (md : Region.Mode) (ops : Array Oper) (C : Array Bool → World → Prop) (i : Nat) (o : Oper) (v : Value) (a : Act) : Prop :=
  (Region.wanted o (yielded ops a.tmps) = true ∧ CalmAt P md ops C i o a v) ∨
  (Region.wanted o (yielded ops a.tmps) = false ∧ v = undef ∧ CalmSkip C i)

theorem YieldsC.cOp {i : Nat} {o : Oper} {v : Value} {a : Act} (hi : ops[i]? = some o) (hy : YieldsC P md ops C i o v a) {K : Act → Prop} (h : K (a.put o.dst v)) : cOp P md ops C i K a := by
  unfold Go.Proofs.YthieionajemjhaaDoor.cOp
  simp only [hi]
  rcases hy with ⟨hw, hv⟩ | ⟨hw, rfl, hs⟩
  · simp only [hw, if_true]; exact ⟨v, hv, h⟩
  · simp only [hw, Bool.false_eq_true, if_false]; exact ⟨hs, h⟩

theorem YieldsC.of_same {i : Nat} {o : Oper} {v : Value} {a a' : Act} (hy : YieldsC P md ops C i o v a) (he : execOp a'.eval o = execOp a.eval o)
    (hw : Region.wanted o (yielded ops a'.tmps) = Region.wanted o (yielded ops a.tmps)) : YieldsC P md ops C i o v a' := by
  unfold YieldsC CalmAt at *
  rw [he, hw]
  exact hy

theorem yieldsC_of_cOp {i : Nat} {o : Oper} {a : Act} {K : Act → Prop} (hi : ops[i]? = some o) (h : cOp P md ops C i K a) : ∃ v, YieldsC P md ops C i o v a ∧ K (a.put o.dst v) := by
  unfold cOp at h
  simp only [hi] at h
  by_cases hw : Region.wanted o (yielded ops a.tmps) = true
  · simp only [hw, if_true] at h
    obtain ⟨v, h1, h2⟩ := h
    exact ⟨v, .inl ⟨hw, h1⟩, h2⟩
  · simp only [hw] at h
    exact ⟨undef, .inr ⟨by simpa using hw, rfl, h.1⟩, h.2⟩

theorem cOp_put {i j : Nat} {oi oj : Oper} {v : Value} (hj : ops[j]? = some oj) (hap : oi.apart ops oj = true)
    (hsi : ∀ cs b, oi.op ≠ .select cs b) (hsj : ∀ cs b, oj.op ≠ .select cs b) {K : Act → Prop} {a : Act}
    (hy : YieldsC P md ops C i oi v a) (h : cOp P md ops C j K (a.put oi.dst v)) :
    cOp P md ops C j (fun a' => YieldsC P md ops C i oi v a' ∧ K (a'.put oi.dst v)) a := by
  obtain ⟨h1, h2, h3⟩ := Oper.apart_spec hap
  have keep : ∀ (a : Act), YieldsC P md ops C i oi v a → ∀ u, YieldsC P md ops C i oi v (a.put oj.dst u) := fun a hy u =>
    hy.of_same (execOp_put oi hsi a oj.dst u h3) (wanted_put oi a oj.dst u h3)
  unfold cOp at *
  simp only [hj] at *
  rw [wanted_put oj a oi.dst v h1] at h
  split
  · rename_i hw
    simp only [hw, if_true] at h
    obtain ⟨u, hu, hn⟩ := h
    refine ⟨u, fun s w hs hW hw' => ?_, keep a hy u, by rw [← Act.put_comm a v u h2]; exact hn⟩
    have := hu s w hs hW hw'
    rwa [execOp_put oj hsj a oi.dst v h1] at this
  · rename_i hw
    simp only [hw] at h
    exact ⟨h.1, keep a hy _, by rw [← Act.put_comm a v undef h2]; exact h.2⟩

theorem wpAnyC_first {Q : Act → Prop} {i : Nat} {oi : Oper} {v : Value} (hi : ops[i]? = some oi) (hsel : ∀ (j : Nat) (o : Oper) cs b, ops[j]? = some o → o.op ≠ .select cs b) :
    ∀ (fuel : Nat) (listed : Array Bool) (a : Act),
      (∀ j oj, ops[j]? = some oj → j ≠ i → listed.getD j true = false → (∀ e ∈ oj.after, Region.binds md e = true → e.on ≠ i) → oi.apart ops oj = true) →
      i ∈ Region.ready md ops listed → YieldsC P md ops C i oi v a →
      wpAnyC P md ops C Q fuel (listed.setIfInBounds i true) (a.put oi.dst v) → wpAnyC P md ops C Q (fuel + 1) listed a := by
  intro fuel
  induction fuel with
  | zero =>
    intro listed a _ hr hy H
    refine ⟨fun h => (by rw [h] at hr; cases hr), fun j hj => ?_⟩
    by_cases hji : j = i
    · subst hji; exact hy.cOp hi H
    · have := ready_mono hj hji
      rw [H.1] at this
      cases this
  | succ fuel ih =>
    intro listed a hfree hr hy H
    refine ⟨fun h => (by rw [h] at hr; cases hr), fun j hj => ?_⟩
    by_cases hji : j = i
    · subst hji; exact hy.cOp hi H
    · have h1 := H.2 j (ready_mono hj hji)
      obtain ⟨hjun, oj, hoj, hall⟩ := mem_ready.1 hj
      have hnot : ∀ e ∈ oj.after, Region.binds md e = true → e.on ≠ i := fun e he hb heq => by
        have h1 := hall e he hb
        have h0 := (mem_ready.1 hr).1
        rw [heq] at h1
        rcases Nat.lt_or_ge i listed.size with h' | h'
        · simp [h'] at h0 h1; rw [h0] at h1; cases h1
        · simp [Array.getElem?_eq_none h'] at h1
      have h2 := cOp_put hoj (hfree j oj hoj hji hjun hnot) (fun cs b => hsel i oi cs b hi) (fun cs b => hsel j oj cs b hoj) hy h1
      have hfree' : ∀ k ok, ops[k]? = some ok → k ≠ i → (listed.setIfInBounds j true).getD k true = false →
          (∀ e ∈ ok.after, Region.binds md e = true → e.on ≠ i) → oi.apart ops ok = true := fun k ok hk hki hun hno => by
        refine hfree k ok hk hki ?_ hno
        by_cases hjk : j = k
        · subst hjk; exact hjun
        · rw [getD_set_ne true hjk] at hun; exact hun
      refine cOp_mono (fun a' h3 => ih (listed.setIfInBounds j true) a' hfree' (ready_mono hr (Ne.symm hji)) h3.1 ?_) h2
      rw [Array.setIfInBounds_comm _ _ hji]
      exact h3.2

theorem wpAnyC_lex {Q : Act → Prop} (hs : Region.noSelect ops = true) : ∀ (l : List Oper) (k : Nat) (listed : Array Bool) (a : Act), (∀ j, l[j]? = ops[k + j]?) → (∀ j, j < k → j < ops.size → listed.getD j true = true) → listed.size = ops.size →
    Region.lexFrom md ops l.length k listed = true → wpCalm P md ops C Q k l a → wpAnyC P md ops C Q l.length listed a
  | [], k, listed, _, hl, hk, _, hB, h => ⟨by simpa [Region.lexFrom] using hB, fun i hi => hk i (by
      have h0 := (hl 0).symm
      simp at h0
      omega) hi, h⟩
  | o :: l, k, listed, a, hl, hk, hz, hB, h => by
    have h0 : ops[k]? = some o := by simpa using (hl 0).symm
    simp only [List.length_cons, Region.lexFrom, Bool.and_eq_true] at hB
    obtain ⟨⟨hr, hf⟩, hB'⟩ := hB
    have hst : cOp P md ops C k (wpCalm P md ops C Q (k + 1) l) a := by unfold cOp; simp only [h0]; exact h
    obtain ⟨v, hy, hK⟩ := yieldsC_of_cOp h0 hst
    refine wpAnyC_first h0 (Region.noSelect_spec hs) l.length listed a (Region.free_spec h0 hf) (by simpa using hr) hy
      (wpAnyC_lex hs l (k + 1) _ _ (fun j => by have := hl (j + 1); simpa [Nat.add_assoc, Nat.add_comm 1 j] using this) (fun j hj hjs => ?_) (by simpa using hz) hB' hK)
    by_cases e : k = j
    · subst e; simp [Array.getD, hz, hjs]
    · rw [getD_set_ne true e]; exact hk j (by omega) hjs

/-- One walk of the text's order serves every order. What stands behind the region is asked in every world that the class lets in when all operations have come up. -/
theorem wp_region_calm {id : Nat} {Q : Exit → Act → World → Prop} {a : Act} {w : World} (hm : P.follows .mixedOrders = true) (hB : Region.lexB .any ops = true) (C : Array Bool → World → Prop) (hC : C (Array.replicate ops.size false) { w with drawn := w.drawn + 1 })
    (h : wpCalm P .any ops C (fun a' => ∀ s w', (∀ i, i < ops.size → s.getD i true = true) → C s w' → Q .normal a' w') 0 ops.toList a) : (Code.region id ops true).wp P Q a w := by
  simp only [Region.lexB, Bool.and_eq_true] at hB
  refine wp_region_any hm (wpAny_of_calm (C := C) (Q := fun a' => ∀ s w', (∀ i, i < ops.size → s.getD i true = true) → C s w' → Q .normal a' w') (fun _ s w' hs hw' h => h s w' hs hw') _ _ _ _ (fun j o ho hj => by simp [Array.getD_eq_getD_getElem?, Array.getElem?_replicate] at hj; split at hj <;> simp_all) hC ?_)
  have := wpAnyC_lex (C := C) (md := .any) hB.1 ops.toList 0 (Array.replicate ops.size false) a (by simp) (by omega) (by simp) (by simpa using hB.2) h
  simpa using this

theorem wp_region_calm_lit {id : Nat} {l : List Oper} {Q : Exit → Act → World → Prop} {a : Act} {w : World} (hm : P.follows .mixedOrders = true) (hB : Region.lexB .any l.toArray = true) (C : Array Bool → World → Prop) (hC : ∀ s : Array Bool, (∀ i, i < l.length → s.getD i true = false) → C s w.drew)
    (h : wpCalm P .any l.toArray C (fun a' => ∀ s w', (∀ i, i < l.length → s.getD i true = true) → C s w' → Q .normal a' w') 0 l a) : (Code.region id l.toArray true).wp P Q a w :=
  wp_region_calm hm hB C (hC _ (fun i hi => by simp [Array.getD, hi])) (by simpa using h)

variable {Q : Act → Prop} {i : Nat} {o : Oper} {rest : List Oper} {a : Act}
theorem calm_pure {v : Value} (hw : Region.wanted o (yielded ops a.tmps) = true) (hr : ∀ w, (execOp a.eval o).run P w = .ok (.value v) w) (hm : CalmSkip C i) (h : wpCalm P md ops C Q (i + 1) rest (a.put o.dst v)) : wpCalm P md ops C Q i (o :: rest) a := by
  unfold wpCalm
  rw [if_pos hw]
  exact ⟨v, fun s w hs _ hc => by rw [hr]; exact ⟨rfl, hm s w hs hc⟩, h⟩
theorem calm_load {v : Value} (hw : Region.wanted o (yielded ops a.tmps) = true) (hr : ∀ s w, UpTo md ops i s → C s w → (execOp a.eval o).run P w = .ok (.value v) w) (hm : CalmSkip C i) (h : wpCalm P md ops C Q (i + 1) rest (a.put o.dst v)) : wpCalm P md ops C Q i (o :: rest) a := by
  unfold wpCalm
  rw [if_pos hw]
  exact ⟨v, fun s w hs hW hc => by rw [hr s w hW hc]; exact ⟨rfl, hm s w hs hc⟩, h⟩
theorem calm_skip (hw : Region.wanted o (yielded ops a.tmps) = false) (hm : CalmSkip C i) (h : wpCalm P md ops C Q (i + 1) rest (a.put o.dst undef)) : wpCalm P md ops C Q i (o :: rest) a := by
  unfold wpCalm
  rw [if_neg (by simp [hw])]
  exact ⟨hm, h⟩
theorem calm_call {f : FuncId} {args : Array Value} {v : Value} (hw : Region.wanted o (yielded ops a.tmps) = true) (hr : ∀ w, (execOp a.eval o).run P w = .ok (.enter f args) w)
    (hc : ∀ s w, s.getD i true = false → UpTo md ops i s → C s w → Calls P f args w (fun e w'' => e = .returned v ∧ C (s.setIfInBounds i true) w'')) (h : wpCalm P md ops C Q (i + 1) rest (a.put o.dst v)) : wpCalm P md ops C Q i (o :: rest) a := by
  unfold wpCalm
  rw [if_pos hw]
  exact ⟨v, fun s w hs hW hC => by rw [hr]; exact hc s w hs hW hC, h⟩
theorem calm_nil (h : Q a) : wpCalm P md ops C Q i [] a := h
theorem done_self (s : Array Bool) (i : Nat) : (s.setIfInBounds i true).getD i true = true := by
  simp only [Array.getD_eq_getD_getElem?, Array.getElem?_setIfInBounds]
  split <;> simp_all
  split <;> rfl
theorem done_ne (s : Array Bool) {i j : Nat} (h : i ≠ j) : (s.setIfInBounds i true).getD j true = s.getD j true := getD_set_ne true h
end
end Go.Proofs.YthieionajemjhaaDoor
