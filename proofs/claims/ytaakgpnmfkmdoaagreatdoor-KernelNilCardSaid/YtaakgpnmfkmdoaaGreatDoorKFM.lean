/- Several texts in one (each with its own sentence below). -/
import Derived.Test.YtaakgpnmfkmdoaaGreatDoorKEM
import Derived.Test.YtaakgpnmfkmdoaaGreatDoorKDM
import Derived.Test.YtaakgpnmfkmdoaaGreatDoorTimerM
import Derived.Test.YtaakgpnmfkmdoaaGreatDoorKBM
import Derived.Test.YtaakgpnmfkmdoaaGreatDoorKCM
/- The walks over package thread: Sleep, Wake, Aim, Exit. No condition but those named. -/
namespace Go.Proofs.YtaakgpnmfkmdoaaGreatDoor
set_option linter.unusedVariables false
set_option linter.unusedSimpArgs false
open Go.RowKit

section
variable {F : List Nat} {w u : World} {b tb mb cnt : Nat} {ids : List Nat} {D : Nat → Nat} {n : Nat} {T : Int → Option ThS} {t : ThT}
set_option maxRecDepth 100000 in
theorem thread_Sleep (h : (threadR b t).holds F w) (id tm : Int) : Calls Tryz.prog 205 #[.pointer (some ⟨b, 0, none⟩), .int .i64 id, .int .i64 tm] w (Turns (threadR b (t.sleep id tm)) F (.int .i64 (t.sleepE id)) w) := by
  obtain ⟨hok, tb, mb, cnt, ids, D, hI, hA⟩ := thread_view h
  have hF := thread_find hA id
  have e0 : t.getE id = if (t.t id).isSome then 0 else 4 := rfl
  cases hx : t.t id with
  | none =>
    rw [hx] at e0
    have e4 : t.getE id ≠ 0 := by rw [e0]; decide
    have e0' : t.getE id = 4 := e0
    rw [thD_none hx, e0'] at hF
    have H := Lib.hid (fun k => (hA.keep (u' := w.drewN k) ((Mod.refl _ _).drewN k)).threadOk hok rfl rfl hI)
    have eE : t.sleepE id = 4 := if_pos e4
    rw [show t.sleep id tm = t from if_neg (by rw [eE]; decide), eE]
    clear hA h e0 e4 e0' eE hx hok
    go_enter Tryz.func205, Tryz.ntmps205
    go_wp2_with (go_at_call 200; refine hF.mono ?_; rintro e w' ⟨rfl, k, rfl⟩)
    go_ret
    exact ⟨rfl, H.out _⟩
  | some x =>
    rw [hx] at e0
    obtain ⟨h1, h2⟩ := hok.bd id x hx
    obtain ⟨k, rfl⟩ : ∃ k : Nat, id = (k : Int) + 1 := ⟨(id - 1).toNat, by omega⟩
    have hk : k < 32 := by omega
    have ek : ((k : Int) + 1 - 1).toNat = k := by omega
    have e0' : t.getE ((k : Int) + 1) = 0 := e0
    have eg : t.get ((k : Int) + 1) = x := by unfold ThT.get; rw [hx]; rfl
    rw [thD_some hx, e0', ek] at hF
    have c4 := hA.thCell hk hx 4
    simp only [thV, List.getElem?_cons_zero, List.getElem?_cons_succ] at c4
    by_cases hi : x.sleeps = true
    · have eE : t.sleepE ((k : Int) + 1) = 6 := by unfold ThT.sleepE; rw [if_neg (by rw [e0']; decide), eg, if_pos hi]
      rw [show t.sleep ((k : Int) + 1) tm = t from if_neg (by rw [eE]; decide), eE]
      have H := Lib.hid (fun k => (hA.keep (u' := w.drewN k) ((Mod.refl _ _).drewN k)).threadOk hok rfl rfl hI)
      rw [hi] at c4
      clear hA h e0 e0' eE hx hok hi eg
      generalize (k : Int) + 1 = id at *
      go_enter Tryz.func205, Tryz.ntmps205
      go_wp2_with (go_at_call 200; refine hF.mono ?_; rintro e w' ⟨rfl, k, rfl⟩)
      go_ret
      exact ⟨rfl, H.out _⟩
    · have hi2 : x.sleeps = false := by simpa using hi
      have eE : t.sleepE ((k : Int) + 1) = 0 := by unfold ThT.sleepE; rw [if_neg (by rw [e0']; decide), eg, if_neg hi]
      rw [show t.sleep ((k : Int) + 1) tm = t.put ((k : Int) + 1) { x with sleeps := true, timer := tm } by unfold ThT.sleep; rw [if_pos eE, eg], eE]
      have hok2 := hok.put (x := { x with sleeps := true, timer := tm }) hx (show x.mask < 2 ^ 64 from hok.msk _ _ hx) rfl
      have hI2 := idsT_put (x := { x with sleeps := true, timer := tm }) hI hx
      have H := Lib.hid (fun k0 => ((hA.keep (u' := w.drewN k0) ((Mod.refl _ _).drewN k0)).thSet hk hx 4 (.bool true) { x with sleeps := true } rfl).thSet hk (x := { x with sleeps := true }) (by unfold oput; rw [if_pos rfl]) 5 (.int .i64 tm) { x with sleeps := true, timer := tm } rfl)
      have c5 := hA.thCell hk hx 5
      have f4 := hA.thFree hk hx 4
      have f5 := hA.thFree hk hx 5
      simp only [thV, List.getElem?_cons_zero, List.getElem?_cons_succ] at c5
      rw [hi2] at c4
      have ho : oput (oput t.t ((k : Int) + 1) { x with sleeps := true }) ((k : Int) + 1) { x with sleeps := true, timer := tm } = (t.put ((k : Int) + 1) { x with sleeps := true, timer := tm }).t := by
        funext j; unfold ThT.put oput; simp only []; split <;> rfl
      have HO := Lib.hid ho
      clear hA h e0 e0' eE eg ho
      generalize D k = d at *
      have HI := Lib.hid (And.intro hok2 hI2)
      clear hok2 hI2 hx hi hi2
      go_enter Tryz.func205, Tryz.ntmps205
      go_wp2_with (go_at_call 200; refine hF.mono ?_; rintro e w' ⟨rfl, k, rfl⟩)
      go_ret
      have hE := H.out k
      rw [HO.out] at hE
      exact ⟨rfl, hE.threadOk HI.out.1 rfl rfl HI.out.2⟩
set_option maxRecDepth 100000 in
theorem thread_Wake (h : (threadR b t).holds F w) (id : Int) : Calls Tryz.prog 209 #[.pointer (some ⟨b, 0, none⟩), .int .i64 id] w (Turns (threadR b (t.wake id)) F (.tuple #[.int .i64 (t.wakeV id), .int .i64 (t.wakeE id)]) w) := by
  obtain ⟨hok, tb, mb, cnt, ids, D, hI, hA⟩ := thread_view h
  have hF := thread_find hA id
  have e0 : t.getE id = if (t.t id).isSome then 0 else 4 := rfl
  cases hx : t.t id with
  | none =>
    rw [hx] at e0
    have e4 : t.getE id ≠ 0 := by rw [e0]; decide
    have e0' : t.getE id = 4 := e0
    rw [thD_none hx, e0'] at hF
    have H := Lib.hid (fun k => (hA.keep (u' := w.drewN k) ((Mod.refl _ _).drewN k)).threadOk hok rfl rfl hI)
    have eE : t.wakeE id = 4 := if_pos e4
    rw [show t.wake id = t from if_neg (by rw [eE]; decide), show t.wakeV id = 0 from if_neg (by rw [eE]; decide), eE]
    clear hA h e0 e4 e0' eE hx hok
    go_enter Tryz.func209, Tryz.ntmps209
    go_wp2_with (go_at_call 200; refine hF.mono ?_; rintro e w' ⟨rfl, k, rfl⟩)
    go_ret2
    exact ⟨rfl, H.out _⟩
  | some x =>
    rw [hx] at e0
    obtain ⟨h1, h2⟩ := hok.bd id x hx
    obtain ⟨k, rfl⟩ : ∃ k : Nat, id = (k : Int) + 1 := ⟨(id - 1).toNat, by omega⟩
    have hk : k < 32 := by omega
    have ek : ((k : Int) + 1 - 1).toNat = k := by omega
    have e0' : t.getE ((k : Int) + 1) = 0 := e0
    have eg : t.get ((k : Int) + 1) = x := by unfold ThT.get; rw [hx]; rfl
    rw [thD_some hx, e0', ek] at hF
    have c4 := hA.thCell hk hx 4
    simp only [thV, List.getElem?_cons_zero, List.getElem?_cons_succ] at c4
    by_cases hi : x.sleeps = true
    · have eE : t.wakeE ((k : Int) + 1) = 0 := by unfold ThT.wakeE; rw [if_neg (by rw [e0']; decide), eg, if_pos hi]
      rw [show t.wake ((k : Int) + 1) = t.put ((k : Int) + 1) { x with sleeps := false, timer := 0 } by unfold ThT.wake; rw [if_pos eE, eg], show t.wakeV ((k : Int) + 1) = x.timer by unfold ThT.wakeV; rw [if_pos eE, eg], eE]
      have hok2 := hok.put (x := { x with sleeps := false, timer := 0 }) hx (show x.mask < 2 ^ 64 from hok.msk _ _ hx) rfl
      have hI2 := idsT_put (x := { x with sleeps := false, timer := 0 }) hI hx
      have H := Lib.hid (fun k0 => ((hA.keep (u' := w.drewN k0) ((Mod.refl _ _).drewN k0)).thSet hk hx 4 (.bool false) { x with sleeps := false } rfl).thSet hk (x := { x with sleeps := false }) (by unfold oput; rw [if_pos rfl]) 5 (.int .i64 0) { x with sleeps := false, timer := 0 } rfl)
      have c5 := hA.thCell hk hx 5
      have f4 := hA.thFree hk hx 4
      have f5 := hA.thFree hk hx 5
      simp only [thV, List.getElem?_cons_zero, List.getElem?_cons_succ] at c5
      rw [hi] at c4
      have ho : oput (oput t.t ((k : Int) + 1) { x with sleeps := false }) ((k : Int) + 1) { x with sleeps := false, timer := 0 } = (t.put ((k : Int) + 1) { x with sleeps := false, timer := 0 }).t := by
        funext j; unfold ThT.put oput; simp only []; split <;> rfl
      have HO := Lib.hid ho
      clear hA h e0 e0' eE eg ho
      generalize D k = d at *
      have HI := Lib.hid (And.intro hok2 hI2)
      clear hok2 hI2 hx hi
      go_enter Tryz.func209, Tryz.ntmps209
      go_wp2_with (go_at_call 200; refine hF.mono ?_; rintro e w' ⟨rfl, k, rfl⟩)
      go_ret2
      have hE := H.out k
      rw [HO.out] at hE
      exact ⟨rfl, hE.threadOk HI.out.1 rfl rfl HI.out.2⟩
    · have hi2 : x.sleeps = false := by simpa using hi
      have eE : t.wakeE ((k : Int) + 1) = 6 := by unfold ThT.wakeE; rw [if_neg (by rw [e0']; decide), eg, if_neg hi]
      rw [show t.wake ((k : Int) + 1) = t from if_neg (by rw [eE]; decide), show t.wakeV ((k : Int) + 1) = 0 from if_neg (by rw [eE]; decide), eE]
      have H := Lib.hid (fun k => (hA.keep (u' := w.drewN k) ((Mod.refl _ _).drewN k)).threadOk hok rfl rfl hI)
      rw [hi2] at c4
      clear hA h e0 e0' eE hx hok hi hi2 eg
      generalize (k : Int) + 1 = id at *
      go_enter Tryz.func209, Tryz.ntmps209
      go_wp2_with (go_at_call 200; refine hF.mono ?_; rintro e w' ⟨rfl, k, rfl⟩)
      go_ret2
      exact ⟨rfl, H.out _⟩
set_option maxRecDepth 100000 in
theorem thread_Aim (h : (threadR b t).holds F w) (id : Int) (m : Nat) (hm : m < 2 ^ 64) : Calls Tryz.prog 112 #[.pointer (some ⟨b, 0, none⟩), .int .i64 id, .int .u64 (m : Nat)] w (Turns (threadR b (t.aim id m)) F (.int .i64 (t.aimE id m)) w) := by
  obtain ⟨hok, tb, mb, cnt, ids, D, hI, hA⟩ := thread_view h
  have hF := thread_find hA id
  have e0 : t.getE id = if (t.t id).isSome then 0 else 4 := rfl
  cases hx : t.t id with
  | none =>
    rw [hx] at e0
    have e4 : t.getE id ≠ 0 := by rw [e0]; decide
    have e0' : t.getE id = 4 := e0
    rw [thD_none hx, e0'] at hF
    have H := Lib.hid (fun k => (hA.keep (u' := w.drewN k) ((Mod.refl _ _).drewN k)).threadOk hok rfl rfl hI)
    have eE : t.aimE id m = 4 := if_pos e4
    rw [show t.aim id m = t from if_neg (by rw [eE]; decide), eE]
    clear hA h e0 e4 e0' eE hx hok
    go_enter Tryz.func112, Tryz.ntmps112
    go_wp2_with (go_at_call 200; refine hF.mono ?_; rintro e w' ⟨rfl, k, rfl⟩)
    go_ret
    exact ⟨rfl, H.out _⟩
  | some x =>
    rw [hx] at e0
    obtain ⟨h1, h2⟩ := hok.bd id x hx
    obtain ⟨k, rfl⟩ : ∃ k : Nat, id = (k : Int) + 1 := ⟨(id - 1).toNat, by omega⟩
    have hk : k < 32 := by omega
    have ek : ((k : Int) + 1 - 1).toNat = k := by omega
    have e0' : t.getE ((k : Int) + 1) = 0 := e0
    have eg : t.get ((k : Int) + 1) = x := by unfold ThT.get; rw [hx]; rfl
    rw [thD_some hx, e0', ek] at hF
    have hR := fun k => thread_right (w := w.drewN k) (by simpa using hA.thC.2.1) hok.n2 m hm
    by_cases hi : t.right m = true
    · have eE : t.aimE ((k : Int) + 1) m = 0 := by unfold ThT.aimE; rw [if_neg (by rw [e0']; decide), if_pos hi]
      rw [show t.aim ((k : Int) + 1) m = t.put ((k : Int) + 1) { x with mask := m } by unfold ThT.aim; rw [if_pos eE, eg], eE]
      have hok2 := hok.put (x := { x with mask := m }) hx hm rfl
      have hI2 := idsT_put (x := { x with mask := m }) hI hx
      have H := Lib.hid (fun k0 => ((hA.keep (u' := w.drewN k0) ((Mod.refl _ _).drewN k0)).thSet hk hx 1 (.int .u64 (m : Nat)) { x with mask := m } rfl))
      have c1 := hA.thCell hk hx 1
      have f1 := hA.thFree hk hx 1
      simp only [thV, List.getElem?_cons_zero, List.getElem?_cons_succ] at c1
      rw [hi] at hR
      clear hA h e0 e0' eE eg
      generalize D k = d at *
      have HI := Lib.hid (And.intro hok2 hI2)
      clear hok2 hI2 hx hi
      go_enter Tryz.func112, Tryz.ntmps112
      go_wp2_with (first
        | (go_at_call 200; refine hF.mono ?_; rintro e w' ⟨rfl, k, rfl⟩)
        | (go_at_call 196; refine (hR _).mono ?_; rintro e w' ⟨rfl, k2, rfl⟩))
      go_ret
      exact ⟨rfl, (H.out _).threadOk HI.out.1 rfl rfl HI.out.2⟩
    · have hi2 : t.right m = false := by simpa using hi
      have eE : t.aimE ((k : Int) + 1) m = 2 := by unfold ThT.aimE; rw [if_neg (by rw [e0']; decide), if_neg hi]
      rw [show t.aim ((k : Int) + 1) m = t from if_neg (by rw [eE]; decide), eE]
      have H := Lib.hid (fun k => (hA.keep (u' := w.drewN k) ((Mod.refl _ _).drewN k)).threadOk hok rfl rfl hI)
      rw [hi2] at hR
      clear hA h e0 e0' eE hx hok hi hi2 eg
      generalize (k : Int) + 1 = id at *
      go_enter Tryz.func112, Tryz.ntmps112
      go_wp2_with (first
        | (go_at_call 200; refine hF.mono ?_; rintro e w' ⟨rfl, k, rfl⟩)
        | (go_at_call 196; refine (hR _).mono ?_; rintro e w' ⟨rfl, k2, rfl⟩))
      go_ret
      exact ⟨rfl, H.out _⟩
end
end Go.Proofs.YtaakgpnmfkmdoaaGreatDoor

/- The walks over package thread: Exit, Spawn, New. No condition but those named. -/
namespace Go.Proofs.YtaakgpnmfkmdoaaGreatDoor
set_option linter.unusedVariables false
set_option linter.unusedSimpArgs false
open Go.RowKit

section
variable {F : List Nat} {w u : World} {b tb mb cnt : Nat} {ids : List Nat} {D : Nat → Nat} {n : Nat} {T : Int → Option ThS} {t : ThT}
theorem On.thDel (h : On F w (threadL b tb mb cnt ids D n T) u) {k : Nat} (hk : k < 32) : ∃ w1 cnt', (∀ ty, (Builtin.delete_ #[161, 3] ty #[.map (some mb), .int .i64 ((k : Int) + 1)]).run Tryz.prog u = .ok (.tuple #[]) w1) ∧ On F w (threadL b tb mb cnt' ids D n (odel T ((k : Int) + 1))) w1 := by
  have h1 := h.lose (3 + k) (by rw [thL_len]; omega)
  rw [thL_set] at h1
  have e : gupd (fun k => thB (D k) (T ((k : Int) + 1))) k noneR = fun i => thB (D i) (odel T ((k : Int) + 1) ((i : Int) + 1)) := by
    funext i
    by_cases e : i = k
    · subst e; rw [gupd_same]; unfold odel; rw [if_pos rfl]; rfl
    · rw [gupd_ne _ _ e]; unfold odel; rw [if_neg (by omega)]
  rw [e] at h1
  obtain ⟨w1, h2, h3⟩ := h1.fmDel (P := Tryz.prog) 2 rfl Tryz.underlying161 Tryz.underlying3 ((k : Int) + 1)
  rw [ptrF_del, thD_del] at h3
  exact ⟨w1, _, h2, h3⟩
theorem On.thNew {d : Nat} {x : ThS} (h : On F w (threadL b tb mb cnt ids D n T ++ [Res.blk d (.cells (thV x).toArray 226 (0,0))]) u) {k : Nat} (hk : k < 32) (hb : ∀ id x, T id = some x → 1 ≤ id ∧ id ≤ 32) :
    ∃ w1 cnt', (Instr.mapUpdate 161 (.map (some mb)) (.int .i64 ((k : Int) + 1)) (.pointer (some ⟨d, 0, none⟩))).run Tryz.prog u = .ok () w1 ∧ On F w (threadL b tb mb cnt' ids (gupd D k d) n (oput T ((k : Int) + 1) x)) w1 := by
  have h1 := h.move (3 + k) (by rw [thL_len]; omega)
  rw [thL_set, show Res.blk d (.cells (thV x).toArray 226 (0,0)) = thB d (some x) from rfl, thL_put] at h1
  obtain ⟨w1, h2, h3⟩ := h1.fmPut (P := Tryz.prog) 2 rfl Tryz.underlying161 Tryz.underlying3 ((k : Int) + 1) (.pointer (some ⟨d, 0, none⟩))
  rw [ptrF_put, thD_put hb] at h3
  exact ⟨w1, _, h2, h3⟩
theorem idsT_del {ids : List Nat} (hn : ids.Nodup) (hi : IdsT ids T) (m : Nat) : IdsT (ids.erase m) (odel T (m : Int)) := by
  intro j
  rw [hn.mem_erase_iff, hi j]
  unfold odel
  by_cases e : j = m
  · subst e; simp
  · rw [if_neg (by omega)]; simp [e]
theorem idsT_new {ids : List Nat} (hi : IdsT ids T) (m : Nat) (x : ThS) : IdsT (m :: ids) (oput T (m : Int) x) := by
  intro j
  rw [List.mem_cons, hi j]
  unfold oput
  by_cases e : j = m
  · subst e; simp
  · rw [if_neg (by omega)]; simp [e]
theorem ThT.ok.del {t : ThT} (h : t.ok) (id : Int) : (t.exit id).ok := by
  refine ⟨h.n1, h.n2, ?_, ?_, ?_⟩
  all_goals
    intro j z hz
    have hz : (if j = id then none else t.t j) = some z := hz
    split at hz
    · cases hz
  · exact h.bd _ _ hz
  · exact h.msk _ _ hz
  · exact h.pr _ _ hz
set_option maxRecDepth 100000 in
theorem thread_Exit (h : (threadR b t).holds F w) (id : Int) : Calls Tryz.prog 202 #[.pointer (some ⟨b, 0, none⟩), .int .i64 id] w (Turns (threadR b (t.exit id)) F (.int .i64 (t.getE id)) w) := by
  obtain ⟨hok, tb, mb, cnt, ids, D, hI, hA⟩ := thread_view h
  have hF := thread_find hA id
  have e0 : t.getE id = if (t.t id).isSome then 0 else 4 := rfl
  cases hx : t.t id with
  | none =>
    rw [hx] at e0
    have e0' : t.getE id = 4 := e0
    rw [thD_none hx, e0'] at hF
    have H := Lib.hid (fun k => (hA.keep (u' := w.drewN k) ((Mod.refl _ _).drewN k)).threadOk hok rfl rfl hI)
    have ee : t.exit id = t := by
      unfold ThT.exit
      have : odel t.t id = t.t := by
        funext j; unfold odel; split
        · rename_i e; rw [e, hx]
        · rfl
      rw [this]
    rw [ee, e0']
    clear hA h e0 e0' hx hok
    go_enter Tryz.func202, Tryz.ntmps202
    go_wp2_with (go_at_call 200; refine hF.mono ?_; rintro e w' ⟨rfl, k, rfl⟩)
    go_ret
    exact ⟨rfl, H.out _⟩
  | some x =>
    rw [hx] at e0
    obtain ⟨h1, h2⟩ := hok.bd id x hx
    obtain ⟨k, rfl⟩ : ∃ k : Nat, id = (k : Int) + 1 := ⟨(id - 1).toNat, by omega⟩
    have hk : k < 32 := by omega
    have ek : ((k : Int) + 1 - 1).toNat = k := by omega
    have e0' : t.getE ((k : Int) + 1) = 0 := e0
    rw [thD_some hx, e0', ek] at hF
    rw [e0']
    have hs : SlotOk 32 ids := by obtain ⟨F1, h1, _⟩ := hA.get 1 rfl; exact h1
    have hmi : k + 1 ∈ ids := (hI (k + 1)).2 (by rw [show ((k + 1 : Nat) : Int) = (k : Int) + 1 by omega, hx]; rfl)
    have hI2 := idsT_del hs.nodup hI (k + 1)
    have hdel := fun k0 => (hA.keep (u' := w.drewN k0) ((Mod.refl _ _).drewN k0)).thDel hk
    have hok2 := hok.del ((k : Int) + 1)
    rw [show ((k + 1 : Nat) : Int) = (k : Int) + 1 by omega] at hI2
    obtain ⟨k0, k1, k2⟩ := hA.thC
    have HI := Lib.hid (And.intro hI2 hok2)
    have HM := Lib.hid hmi
    generalize D k = d at *
    clear hA h e0 e0' hx hok hI2 hok2 hmi
    go_enter Tryz.func202, Tryz.ntmps202
    go_wp2_with (first
      | (
        go_at_call 200
        refine hF.mono ?_
        rintro e w' ⟨rfl, k9, rfl⟩
        obtain ⟨w1, cnt1, hrun, hB⟩ := hdel k9
        obtain ⟨d0, d1, d2⟩ := hB.thC
        have hG := hB.call (P := Tryz.prog) (f := 256) 1 rfl (fun F1 h1 => slot_Give _ _ _ _ _ h1 (k + 1) HM.out)
        rw [show ((k + 1 : Nat) : Int) = (k : Int) + 1 by omega] at hG
        clear hdel hB hF
        )
      | (at_builtin; rw [hrun])
      | (go_at_call 256; refine hG.mono ?_; rintro e w2 ⟨rfl, hE⟩))
    go_ret
    have hE : On F w (threadL b tb mb cnt1 (ids.erase (k + 1)) D t.n (odel t.t ((k : Int) + 1))) w2 := hE
    exact ⟨rfl, hE.threadOk HI.out.2 rfl rfl HI.out.1⟩
theorem ThT.ok.new {t : ThT} (h : t.ok) {id : Int} {x : ThS} (h1 : 1 ≤ id) (h2 : id ≤ 32) (hm : x.mask < 2 ^ 64) (hp : 0 ≤ x.prio ∧ x.prio < 8) : (t.put id x).ok := by
  refine ⟨h.n1, h.n2, ?_, ?_, ?_⟩
  all_goals
    intro j z hz
    have hz : (if j = id then some x else t.t j) = some z := hz
    split at hz
  · rename_i e; subst e; exact ⟨h1, h2⟩
  · exact h.bd _ _ hz
  · cases hz; exact hm
  · exact h.msk _ _ hz
  · cases hz; exact hp
  · exact h.pr _ _ hz
theorem thread_low (hok : t.ok) {ids : List Nat} (hs : SlotOk 32 ids) (hi : IdsT ids t.t) : t.low = lowN ids ∧ (ids.length = 32 ↔ 32 < t.low) := lowOf_ids hs (fun m h1 h2 => (hi m).symm)
set_option maxRecDepth 100000 in
set_option maxHeartbeats 1000000 in
theorem thread_Spawn (h : (threadR b t).holds F w) (hTb : Tab w) (hF : tzL_ren.g 1 ∉ F) (p : Int) (m : Nat) (hm : m < 2 ^ 64) : Calls Tryz.prog 108 #[.pointer (some ⟨b, 0, none⟩), .int .i64 p, .int .u64 (m : Nat)] w (Turns (threadR b (t.spawn p m)) F (.tuple #[.int .i64 (t.spawnV p m), .int .i64 (t.spawnE p m)]) w) := by
  obtain ⟨hok, tb, mb, cnt, ids, D, hI, hA⟩ := thread_view h
  have hR := fun k => thread_right (w := w.drewN k) (by simpa using hA.thC.2.1) hok.n2 m hm
  have hR0 := thread_right (w := w) hA.thC.2.1 hok.n2 m hm
  have hB := fun k => hA.keep (u' := w.drewN k) ((Mod.refl _ _).drewN k)
  have H := Lib.hid (fun k => (hB k).threadOk hok rfl rfl hI)
  have H0 := Lib.hid (hA.threadOk hok rfl rfl hI)
  by_cases hi : p < 0 ∨ 8 ≤ p ∨ t.right m = false
  · have eE : t.spawnE p m = 2 := if_pos hi
    rw [show t.spawn p m = t from if_neg (by rw [eE]; decide), show t.spawnV p m = 0 from if_neg (by rw [eE]; decide), eE]
    have hi2 : p < 0 ∨ (¬ p < 0 ∧ 8 ≤ p) ∨ (¬ p < 0 ∧ ¬ 8 ≤ p ∧ t.right m = false) := by
      by_cases h1 : p < 0
      · exact .inl h1
      · by_cases h2 : 8 ≤ p
        · exact .inr (.inl ⟨h1, h2⟩)
        · exact .inr (.inr ⟨h1, h2, hi.resolve_left h1 |>.resolve_left h2⟩)
    clear hA hB h eE hi
    rcases hi2 with h1 | ⟨h1, h2⟩ | ⟨h1, h2, h3⟩
    · clear hR hR0
      go_enter Tryz.func108, Tryz.ntmps108
      go_wp2
      go_ret2
      exact ⟨rfl, by first | exact H0.out | exact H.out _⟩
    · clear hR hR0
      go_enter Tryz.func108, Tryz.ntmps108
      go_wp2
      go_ret2
      exact ⟨rfl, by first | exact H0.out | exact H.out _⟩
    · rw [h3] at hR hR0
      clear h3
      go_enter Tryz.func108, Tryz.ntmps108
      go_wp2_with (first
        | (go_at_call 196; refine hR0.mono ?_; rintro e w' ⟨rfl, k, rfl⟩)
        | (go_at_call 196; refine (hR _).mono ?_; rintro e w' ⟨rfl, k, rfl⟩))
      go_ret2
      exact ⟨rfl, by first | exact H0.out | exact H.out _⟩
  · have h1 : ¬ p < 0 := fun x => hi (.inl x)
    have h2 : ¬ 8 ≤ p := fun x => hi (.inr (.inl x))
    have h3 : t.right m = true := by
      cases hr : t.right m with
      | true => rfl
      | false => exact absurd (.inr (.inr hr)) hi
    have hs : SlotOk 32 ids := by obtain ⟨F1, h1, _⟩ := hA.get 1 rfl; exact h1
    obtain ⟨hlow, hfull⟩ := thread_low hok hs hI
    rw [h3] at hR hR0
    obtain ⟨k0, k1, k2⟩ := hA.thC
    by_cases hf : 32 < t.low
    · have eE : t.spawnE p m = 5 := by unfold ThT.spawnE; rw [if_neg hi, if_pos hf]
      rw [show t.spawn p m = t from if_neg (by rw [eE]; decide), show t.spawnV p m = 0 from if_neg (by rw [eE]; decide), eE]
      have hTk := fun k => slot_Take_full _ _ _ _ _ ((hB k).get 1 rfl).choose_spec (hfull.2 hf)
      clear hA hB h eE hi h3 hf hlow hfull
      go_enter Tryz.func108, Tryz.ntmps108
      go_wp2_with (first
        | (go_at_call 196; refine hR0.mono ?_; rintro e w' ⟨rfl, k, rfl⟩)
        | (go_at_call 196; refine (hR _).mono ?_; rintro e w' ⟨rfl, k, rfl⟩)
        | (go_at_call 132; refine (hTk _).mono ?_; rintro e w' ⟨rfl, k3, rfl⟩))
      go_ret2
      exact ⟨rfl, by first | exact H0.out | exact H.out _⟩
    · have eE : t.spawnE p m = 0 := by unfold ThT.spawnE; rw [if_neg hi, if_neg hf]
      have hl : ids.length ≠ 32 := fun x => hf (hfull.1 x)
      have hTk := fun k => hTb.keep ((Mod.refl [] w).drewN k) (by simp)
      have h1l := (lowN_spec ids).1.1
      obtain ⟨k, hk⟩ : ∃ k : Nat, lowN ids = k + 1 := ⟨lowN ids - 1, by omega⟩
      have hk32 : k < 32 := by omega
      rw [show t.spawn p m = t.put ((k : Int) + 1) ⟨p, m, 0, false, false, 0⟩ by unfold ThT.spawn; rw [if_pos eE, hlow, hk]; rfl, show t.spawnV p m = (k : Int) + 1 by unfold ThT.spawnV; rw [if_pos eE, hlow, hk]; rfl, eE]
      have hok2 := hok.new (id := (k : Int) + 1) (x := ⟨p, m, 0, false, false, 0⟩) (by omega) (by omega) hm ⟨by simp only []; omega, by simp only []; omega⟩
      have hI2 := idsT_new hI (k + 1) ⟨p, m, 0, false, false, 0⟩
      rw [show ((k + 1 : Nat) : Int) = (k : Int) + 1 by omega] at hI2
      have hbd := hok.bd
      have HI := Lib.hid (And.intro hI2 hok2)
      have HB := Lib.hid hbd
      have HTk := Lib.hid (fun k => ((hB k).call (P := Tryz.prog) (f := 132) 1 rfl (fun F1 h1 => slot_Take _ _ _ _ _ h1 (hTk k) hl)))
      have hk2 : (lowN ids : Int) = (k : Int) + 1 := by omega
      rw [hk2] at HTk
      have HL := Lib.hid hk
      clear hA h eE hi h3 hf hlow hfull h1l hI2 hok2 hok hbd hB hTk hk hk2
      go_enter Tryz.func108, Tryz.ntmps108
      go_wp2_with (first
        | (go_at_call 196; refine hR0.mono ?_; rintro e w' ⟨rfl, k9, rfl⟩)
        | (go_at_call 196; refine (hR _).mono ?_; rintro e w' ⟨rfl, k9, rfl⟩)
        | (
          go_at_call 132
          refine (HTk.out _).mono ?_
          rintro e w2 ⟨rfl, hC⟩
          have hC : On F w (threadL b tb mb cnt (lowN ids :: ids) D t.n t.t) w2 := hC
          rw [HL.out] at hC
          obtain ⟨d0, d1, d2⟩ := hC.thC
          obtain ⟨w4, cnt4, hput, hE⟩ := (hC.alloc (.cells (thV ⟨p, m, 0, false, false, 0⟩).toArray 226 (0,0))).thNew hk32 HB.out
          have HE := Lib.hid hE
          replace hput : (Instr.mapUpdate 161 (.map (some mb)) (.int .i64 ((k : Int) + 1)) (.pointer (some ⟨w2.heap.size, 0, none⟩))).run Tryz.prog (w2.alloc (.cells #[.int .i64 p, .int .u64 (m : Nat), .int .i64 0, .bool false, .bool false, .int .i64 0] 226 (0,0))) = .ok () w4 := hput
          clear hE hC
          ))
      go_ret2
      exact ⟨rfl, HE.out.threadOk HI.out.2 rfl rfl HI.out.1⟩
end
def tht0 (n : Nat) : ThT := ⟨n, fun _ => none⟩
theorem thread_New (n : Nat) (h1 : 1 ≤ n) (h2 : n ≤ 64) (w : World) : Calls Tryz.prog 44 #[.int .i64 n] w (TurnsV (fun d : Nat => .tuple #[.pointer (some ⟨d, 0, none⟩), .int .i64 0]) (fun d => threadR d (tht0 n)) [] w) := by
  have hS := (On.start w).make (slot_New 32 (by omega) (by omega) w)
  have hmk := fun w => run_makeMap (P := Tryz.prog) 161 w
  go_enter Tryz.func44, Tryz.ntmps44
  go_wp2_with (first
    | (
      go_at_call 91
      refine hS.mono ?_
      rintro e w1 ⟨tb, rfl, hA⟩
      have hB : On [] w (threadL (w1.heap.size + 1) tb w1.heap.size 0 [] (fun _ => 0) n (fun _ => none)) ((w1.alloc (.map #[] 0)).alloc (.cells #[.pointer (some ⟨tb, 0, none⟩), .int .i64 n, .map (some w1.heap.size)] 163 (0,0))) := by
        have x2 := (hA.fmNew.alloc (.cells #[.pointer (some ⟨tb, 0, none⟩), .int .i64 n, .map (some w1.heap.size)] 163 (0,0))).front
        rw [sizeNew] at x2
        have hx : ∀ j : Nat, ∀ l : List Res, ∀ u, On [] w l u → On [] w (l ++ thingsL j (fun k => thB 0 none)) u := by
          intro j
          induction j with
          | zero => intro l u h; unfold thingsL; rw [List.range_zero, List.map_nil, List.append_nil]; exact h
          | succ j ih =>
            intro l u h
            have := (ih l u h).more (P := noneR) rfl
            unfold thingsL at *
            rw [List.range_succ, List.map_append, ← List.append_assoc]
            exact this
        exact hx 32 _ _ x2
      have HB := Lib.hid hB
      clear hB hA hS
      )
    )
  go_ret2
  refine ⟨_, rfl, ?_⟩
  exact HB.out.threadOk (t := tht0 n) ⟨h1, h2, (fun _ _ h => by cases h), (fun _ _ h => by cases h), (fun _ _ h => by cases h)⟩ rfl rfl (fun m => by simp)
end Go.Proofs.YtaakgpnmfkmdoaaGreatDoor

/- Numbers from 1 to 32 in lists that are apart; the table of numbers that are given out beside them. No program in sight but the words of slot. -/
namespace Go.Proofs.YtaakgpnmfkmdoaaGreatDoor
set_option linter.unusedVariables false
set_option linter.unusedSimpArgs false
open Go.RowKit

def whrB (N : Nat) (q : Nat → List Int) (id : Int) : Option Nat := (List.range N).find? fun i => decide (id ∈ q i)
structure BxOk (N : Nat) (q : Nat → List Int) : Prop where
  nodup : ∀ c, c < N → (q c).Nodup
  bd : ∀ c x, c < N → x ∈ q c → 1 ≤ x ∧ x ≤ 32
  uniq : ∀ c d x, c < N → d < N → x ∈ q c → x ∈ q d → c = d
section
variable {N : Nat} {q : Nat → List Int}
theorem whrB_some (h : BxOk N q) {id : Int} {c : Nat} : whrB N q id = some c ↔ c < N ∧ id ∈ q c := by
  unfold whrB
  constructor
  · intro hh
    have h2 := List.find?_some hh
    exact ⟨List.mem_range.1 (List.mem_of_find?_eq_some hh), by simpa using h2⟩
  · rintro ⟨h1, h2⟩
    cases hf : (List.range N).find? fun i => decide (id ∈ q i) with
    | none =>
      have := List.find?_eq_none.1 hf c (List.mem_range.2 h1)
      simp [h2] at this
    | some d =>
      have h3 := List.find?_some hf
      have h4 := List.mem_range.1 (List.mem_of_find?_eq_some hf)
      rw [h.uniq c d id h1 h4 h2 (by simpa using h3)]
theorem whrB_none {id : Int} : whrB N q id = none ↔ ∀ c, c < N → id ∉ q c := by
  unfold whrB
  rw [List.find?_eq_none]
  constructor
  · intro h c hc
    simpa using h c (List.mem_range.2 hc)
  · intro h c hc
    simpa using h c (List.mem_range.1 hc)
theorem whrB_isSome {id : Int} : (whrB N q id).isSome = true ↔ ∃ c, c < N ∧ id ∈ q c := by
  constructor
  · intro h
    apply Classical.byContradiction
    intro hn
    have : whrB N q id = none := whrB_none.2 (fun c hc hm => hn ⟨c, hc, hm⟩)
    rw [this] at h; cases h
  · rintro ⟨c, hc, hm⟩
    cases hw : whrB N q id with
    | none => exact absurd hm (whrB_none.1 hw c hc)
    | some d => rfl
theorem bx_len {l : List Int} (hn : l.Nodup) (hb : ∀ x, x ∈ l → 1 ≤ x ∧ x ≤ 32) : l.length ≤ 32 := by
  have := sub_len l ((List.range 32).map fun k => ((k + 1 : Nat) : Int)) hn (fun x hx => by
    have h := hb x hx
    exact List.mem_map.2 ⟨x.toNat - 1, List.mem_range.2 (by omega), by omega⟩)
  simpa using this
theorem bx_push (h : BxOk N q) {id : Int} (hw : whrB N q id = none) (h1 : 1 ≤ id) (h2 : id ≤ 32) {c : Nat} (hc : c < N) :
    BxOk N (gupd q c (q c ++ [id])) ∧ (∀ j, whrB N (gupd q c (q c ++ [id])) j = if j = id then some c else whrB N q j) ∧ (q c).length < 32 := by
  have hn := whrB_none.1 hw
  have hmem : ∀ d x, x ∈ gupd q c (q c ++ [id]) d ↔ x ∈ q d ∨ (d = c ∧ x = id) := by
    intro d x
    by_cases e : d = c
    · subst e; rw [gupd_same]; simp
    · rw [gupd_ne _ _ e]; simp [e]
  have hnd : (q c ++ [id]).Nodup := List.nodup_append.2 ⟨h.nodup c hc, by simp, by rintro x hx y hy rfl; simp at hy; exact hn c hc (hy ▸ hx)⟩
  have hlen : (q c ++ [id]).length ≤ 32 := bx_len hnd (by
    intro x hx
    rcases List.mem_append.1 hx with hx | hx
    · exact h.bd c x hc hx
    · simp at hx; omega)
  have hok : BxOk N (gupd q c (q c ++ [id])) := by
    refine ⟨fun d hd => ?_, fun d x hd hx => ?_, fun d e x hd he hx hy => ?_⟩
    · by_cases e : d = c
      · subst e; rw [gupd_same]; exact hnd
      · rw [gupd_ne _ _ e]; exact h.nodup d hd
    · rcases (hmem d x).1 hx with hx | ⟨_, rfl⟩
      · exact h.bd d x hd hx
      · exact ⟨h1, h2⟩
    · rcases (hmem d x).1 hx with hx' | ⟨hd2, hx2⟩
      · rcases (hmem e x).1 hy with hy' | ⟨he2, hy2⟩
        · exact h.uniq d e x hd he hx' hy'
        · exact absurd (hy2 ▸ hx') (hn d hd)
      · rcases (hmem e x).1 hy with hy' | ⟨he2, hy2⟩
        · exact absurd (hx2 ▸ hy') (hn e he)
        · exact hd2.trans he2.symm
  refine ⟨hok, fun j => ?_, by simp at hlen; omega⟩
  by_cases e : j = id
  · subst e
    rw [if_pos rfl]
    exact (whrB_some hok).2 ⟨hc, (hmem c j).2 (.inr ⟨rfl, rfl⟩)⟩
  · rw [if_neg e]
    apply Option.ext
    intro d
    rw [whrB_some hok, whrB_some h, hmem]
    simp [e]
theorem bx_out (h : BxOk N q) {c : Nat} (hc : c < N) {x : Int} {l : List Int} (hq : (q c).Perm (x :: l)) : BxOk N (gupd q c l) ∧ ∀ j, whrB N (gupd q c l) j = if j = x then none else whrB N q j := by
  have hnd := (hq.nodup_iff).1 (h.nodup c hc)
  rw [List.nodup_cons] at hnd
  have hmem : ∀ d y, d < N → (y ∈ gupd q c l d ↔ y ∈ q d ∧ y ≠ x) := by
    intro d y hd
    by_cases e : d = c
    · subst e
      rw [gupd_same, hq.mem_iff, List.mem_cons]
      constructor
      · intro hy
        exact ⟨.inr hy, fun e => hnd.1 (e ▸ hy)⟩
      · rintro ⟨rfl | hy, hne⟩
        · exact absurd rfl hne
        · exact hy
    · rw [gupd_ne _ _ e]
      constructor
      · intro hy
        refine ⟨hy, fun e2 => e (h.uniq d c y hd hc hy ?_)⟩
        rw [hq.mem_iff, e2]; exact List.mem_cons_self
      · exact fun hy => hy.1
  have hok : BxOk N (gupd q c l) := by
    refine ⟨fun d hd => ?_, fun d y hd hy => h.bd d y hd ((hmem d y hd).1 hy).1, fun d e y hd he hy hz => h.uniq d e y hd he ((hmem d y hd).1 hy).1 ((hmem e y he).1 hz).1⟩
    by_cases e : d = c
    · subst e; rw [gupd_same]; exact hnd.2
    · rw [gupd_ne _ _ e]; exact h.nodup d hd
  refine ⟨hok, fun j => ?_⟩
  by_cases e : j = x
  · subst e
    rw [if_pos rfl]
    exact whrB_none.2 (fun d hd hm => ((hmem d j hd).1 hm).2 rfl)
  · rw [if_neg e]
    apply Option.ext
    intro d
    rw [whrB_some hok, whrB_some h]
    constructor
    · rintro ⟨h1, h2⟩; exact ⟨h1, ((hmem d j h1).1 h2).1⟩
    · rintro ⟨h1, h2⟩; exact ⟨h1, (hmem d j h1).2 ⟨h2, e⟩⟩
/-- The numbers that are given out are those that are in a list. -/
def IdsB (ids : List Nat) (N : Nat) (q : Nat → List Int) : Prop := ∀ m : Nat, m ∈ ids ↔ (whrB N q (m : Int)).isSome = true
theorem idsB_low (h : BxOk N q) {ids : List Nat} (hs : SlotOk 32 ids) (hi : IdsB ids N q) : lowOf 32 (fun i => (whrB N q (i : Int)).isSome) = lowN ids ∧ (ids.length = 32 ↔ 32 < lowOf 32 (fun i => (whrB N q (i : Int)).isSome)) :=
  lowOf_ids hs (fun m _ _ => (hi m).symm)
theorem low_none (ids : List Nat) (hi : IdsB ids N q) : whrB N q (lowN ids : Int) = none := by
  have h := (lowN_spec ids).1.2.1
  cases hw : whrB N q (lowN ids : Int) with
  | none => rfl
  | some c => exact absurd ((hi _).2 (by rw [hw]; rfl)) h
theorem idsB_push {ids : List Nat} (hi : IdsB ids N q) {q' : Nat → List Int} {n c : Nat} (hw : ∀ j, whrB N q' j = if j = (n : Int) then some c else whrB N q j) : IdsB (n :: ids) N q' := by
  intro m
  rw [List.mem_cons, hw, hi m]
  by_cases e : m = n
  · subst e; simp
  · have : ¬ ((m : Int) = n) := by omega
    simp [e, this]
theorem idsB_out {ids : List Nat} (hn : ids.Nodup) (hi : IdsB ids N q) {q' : Nat → List Int} {n : Nat} (hw : ∀ j, whrB N q' j = if j = (n : Int) then none else whrB N q j) : IdsB (ids.erase n) N q' := by
  intro m
  rw [hn.mem_erase_iff, hw, hi m]
  by_cases e : m = n
  · subst e; simp
  · have : ¬ ((m : Int) = n) := by omega
    simp [e, this]
theorem idsB_same {ids : List Nat} (hi : IdsB ids N q) {q' : Nat → List Int} (hw : ∀ j, (whrB N q' j).isSome = (whrB N q j).isSome) : IdsB ids N q' := fun m => by rw [hw]; exact hi m
end
end Go.Proofs.YtaakgpnmfkmdoaaGreatDoor

/- Calls from core to core (package call) in memory; the walks over may, Send, Take, Move, List, Load, New. No condition but those named. -/
namespace Go.Proofs.YtaakgpnmfkmdoaaGreatDoor
set_option linter.unusedVariables false
set_option linter.unusedSimpArgs false
open Go.RowKit

theorem fifoL_newL {l : List Int} {w : World} {e : Ending} {w' : World} (h : ∃ a c, e = .returned (.slice a l.length c) ∧ Mod [] w w' ∧ (l = [] ∧ a = none ∧ c = 0 ∨ c = l.length ∧ a = some ⟨w.heap.size, 0, none⟩ ∧ w'.heap[w.heap.size]? = some (ringObj l))) : NewL l w e w' := by
  obtain ⟨a, c, rfl, m, hs⟩ := h
  refine ⟨a, c, rfl, m, ?_, ?_⟩
  · rcases hs with ⟨h1, _⟩ | ⟨_, h2, h3⟩
    · exact .inl h1
    · exact .inr ⟨_, h2, ltOf h3, fun j hj => by rw [cellAt h3 j]; exact rowI_get hj⟩
  · intro b o e
    rcases hs with ⟨_, h2, _⟩ | ⟨_, h2, _⟩
    · rw [h2] at e; cases e
    · rw [h2] at e; cases e; exact Nat.le_refl _
def CbT.ok (t : CbT) : Prop := 1 ≤ t.n ∧ t.n ≤ 64 ∧ BxOk t.n t.q
def callL (b tb : Nat) (ids : List Nat) (g : Option Nat) (cap : Nat) (D : Nat → Nat) (n : Nat) (q : Nat → List Int) : List Res :=
  [Res.blk b (.cells #[.pointer (some ⟨tb, 0, none⟩), .slice (rA g) n cap] 192 (0,0)), slotR tb 32 ids] ++ famL 187 g cap n D (fun c => fifoR (D c) 32 (q c)) ++ []
structure CbP where
  tb : Nat
  ids : List Nat
  g : Option Nat
  cap : Nat
  D : Nat → Nat
def callR (b : Nat) (t : CbT) : Res := Res.such t.ok (Res.ex fun p : CbP => Res.such (IdsB p.ids t.n t.q) (Res.star (callL b p.tb p.ids p.g p.cap p.D t.n t.q)))
section
variable {F : List Nat} {w u : World} {b tb : Nat} {ids : List Nat} {g : Option Nat} {cap : Nat} {D : Nat → Nat} {n : Nat} {q : Nat → List Int} {t : CbT}
theorem call_view (h : (callR b t).holds F w) : t.ok ∧ ∃ tb ids g cap D, IdsB ids t.n t.q ∧ On F w (callL b tb ids g cap D t.n t.q) w := by
  obtain ⟨h1, p, h2, h3⟩ := h
  exact ⟨h1, p.tb, p.ids, p.g, p.cap, p.D, h2, On.of h3⟩
theorem On.callOk (h : On F w (callL b tb ids g cap D n q) u) {t : CbT} (hok : t.ok) (hn : t.n = n) (hq : t.q = q) (hi : IdsB ids n q) : Gain (callR b t) F w u := by
  subst hn hq
  exact h.gains.imp fun F' h' => ⟨hok, ⟨tb, ids, g, cap, D⟩, hi, h'⟩
theorem On.cbC (h : On F w (callL b tb ids g cap D n q) u) : u.cell? ⟨b, 0, none⟩ = some (.pointer (some ⟨tb, 0, none⟩)) ∧ u.cell? ⟨b, 1, none⟩ = some (.slice (rA g) n cap) ∧ n ≤ cap ∧ cap ≤ maxLen :=
  ⟨h.cell 0 rfl 0, h.cell 0 rfl 1, h.famCap (k := 2) rfl⟩
theorem On.cbPtr (h : On F w (callL b tb ids g cap D n q) u) {c : Nat} (hc : c < n) : ∃ gb, g = some gb ∧ u.cell? ⟨gb, c, none⟩ = some (.pointer (some ⟨D c, 0, none⟩)) := h.famPtr (k := 2) rfl hc
theorem On.cbHas (h : On F w (callL b tb ids g cap D n q) u) {c : Nat} (hc : c < n) : ∃ F1, (fifoR (D c) 32 (q c)).holds F1 u := h.famHas (k := 2) rfl hc
theorem On.cbDo {P : Program} {fn : FuncId} {args : Array Value} {v : Value} {L : List Int} (h : On F w (callL b tb ids g cap D n q) u) {c : Nat} (hc : c < n) (hh : ∀ F1, (fifoR (D c) 32 (q c)).holds F1 u → Calls P fn args u (Turns (fifoR (D c) 32 L) F1 v u)) :
    Calls P fn args u (fun e u' => e = .returned v ∧ On F w (callL b tb ids g cap D n (gupd q c L)) u') := by
  have := h.famDo (k := 2) rfl hc hh
  have e : gupd (fun c => fifoR (D c) 32 (q c)) c (fifoR (D c) 32 L) = fun i => fifoR (D i) 32 (gupd q c L i) := by
    funext i
    by_cases e : i = c
    · subst e; rw [gupd_same, gupd_same]
    · rw [gupd_ne _ _ e, gupd_ne _ _ e]
  rw [e] at this
  exact this
set_option maxRecDepth 100000 in
set_option maxHeartbeats 1000000 in
theorem call_may (c1 : w.cell? ⟨b, 1, none⟩ = some (.slice (rA g) n cap)) (a : Option Addr) (cp : Nat) (l : List Int) (hl : l.length ≤ 1000) (hI : IsInts w a l) :
    Calls Tryz.prog 220 #[.pointer (some ⟨b, 0, none⟩), .slice a l.length cp] w (Ret (.int .i64 (tmE n l)) w) := by
  have hM : ∀ j, j < l.length → ¬ (0 ≤ nth l j ∧ nth l j < n) → tmE n l = 3 := by
    intro j hj hn
    exact if_neg (fun h => hn (h _ (by simp [nth, List.getD, hj])))
  have hM0 : (∀ j, j < l.length → 0 ≤ nth l j ∧ nth l j < n) → tmE n l = 0 := by
    intro h
    refine if_pos (fun c hc => ?_)
    obtain ⟨j, hj, rfl⟩ := List.getElem_of_mem hc
    have := h j hj
    simpa [nth, List.getD, hj] using this
  generalize tmE n l = v at *
  go_enter Tryz.func220, Tryz.ntmps220
  go_wp2
  go_loopg [11] l.length (fun gg i wr => ∃ j : Nat, i = .int .i64 j ∧ j + gg = l.length ∧ (∀ k, k < j → 0 ≤ nth l k ∧ nth l k < n) ∧ Drew w wr)
  case atStart => exact ⟨0, rfl, by omega, by omega, Drew.refl _⟩
  case round =>
    obtain ⟨j, rfl, hj, he, hD⟩ := hrel
    have c1r := (hD.mod (S := [])).at c1 (by simp)
    by_cases hlt : j < l.length
    · have hIr := hI.same hD.heap
      obtain ⟨b, rfl, _, hc⟩ := hIr.resolve_left (fun e => by rw [e] at hlt; simp at hlt)
      have cj := hc j hlt
      have hltI : (j : Int) < l.length := by omega
      clear hc hI hIr
      by_cases ok : 0 ≤ nth l j ∧ nth l j < n
      · have hstep : ∀ k, k < j + 1 → 0 ≤ nth l k ∧ nth l k < n := by
          intro k hk
          by_cases e : k = j
          · subst e; exact ok
          · exact he k (by omega)
        obtain ⟨ok1, ok2⟩ := ok
        clear he hM
        generalize nth l j = x at *
        have q1 : ¬ (x < 0) := by omega
        have q2 : ¬ ((n : Int) ≤ x) := by omega
        go_wp2
        go_roundg (gk - 1)
        case measure => omega
        case rel => exact ⟨j + 1, by go_num, by omega, hstep, by first | exact hD | exact hD.drewN _⟩
      · have hv := hM j hlt ok
        subst hv
        clear hM hM0 he
        generalize nth l j = x at *
        by_cases q1 : x < 0
        · go_wp2
          go_ret
          refine ⟨rfl, by repeat (first | exact hD | apply Drew.drewN | apply Drew.drew)⟩
        · have q2 : (n : Int) ≤ x := by omega
          go_wp2
          go_ret
          refine ⟨rfl, by repeat (first | exact hD | apply Drew.drewN | apply Drew.drew)⟩
    · have hv := hM0 (fun k hk => he k (by omega))
      subst hv
      have hltI : ¬ (j : Int) < l.length := by omega
      clear hM hM0 he hI
      go_wp2
      go_ret
      refine ⟨rfl, by repeat (first | exact hD | apply Drew.drewN | apply Drew.drew)⟩
end
end Go.Proofs.YtaakgpnmfkmdoaaGreatDoor

/- The walks over package call: Send, Take, Move, List, Load. No condition but those named. -/
namespace Go.Proofs.YtaakgpnmfkmdoaaGreatDoor
set_option linter.unusedVariables false
set_option linter.unusedSimpArgs false
open Go.RowKit

section
variable {F : List Nat} {w u : World} {b tb : Nat} {ids : List Nat} {g : Option Nat} {cap : Nat} {D : Nat → Nat} {n : Nat} {q : Nat → List Int} {t : CbT}
theorem call_may1 (c1 : w.cell? ⟨b, 1, none⟩ = some (.slice (rA g) n cap)) (c : Int) :
    Calls Tryz.prog 220 #[.pointer (some ⟨b, 0, none⟩), .slice (some ⟨w.heap.size, 0, none⟩) 1 1] (w.alloc (.cells #[.int .i64 c] 3 (0,0))) (Ret (.int .i64 (if 0 ≤ c ∧ c < n then 0 else 3)) (w.alloc (.cells #[.int .i64 c] 3 (0,0)))) := by
  have := call_may (w := w.alloc (.cells #[.int .i64 c] 3 (0,0))) (cellNew _ c1) (some ⟨w.heap.size, 0, none⟩) 1 [c] (by simp) (ints_new1 w c _)
  rwa [tmE1] at this
theorem call_may2 (c1 : w.cell? ⟨b, 1, none⟩ = some (.slice (rA g) n cap)) (c d : Int) :
    Calls Tryz.prog 220 #[.pointer (some ⟨b, 0, none⟩), .slice (some ⟨w.heap.size, 0, none⟩) 2 2] (w.alloc (.cells #[.int .i64 c, .int .i64 d] 3 (0,0))) (Ret (.int .i64 (if (0 ≤ c ∧ c < n) ∧ (0 ≤ d ∧ d < n) then 0 else 3)) (w.alloc (.cells #[.int .i64 c, .int .i64 d] 3 (0,0)))) := by
  have := call_may (w := w.alloc (.cells #[.int .i64 c, .int .i64 d] 3 (0,0))) (cellNew _ c1) (some ⟨w.heap.size, 0, none⟩) 2 [c, d] (by simp) (ints_new2 w c d _)
  rwa [tmE2] at this
theorem call_low (hok : t.ok) {ids : List Nat} (hs : SlotOk 32 ids) (hi : IdsB ids t.n t.q) : t.low = lowN ids ∧ (ids.length = 32 ↔ 32 < t.low) := idsB_low hok.2.2 hs hi
theorem call_List (h : (callR b t).holds F w) (cpu : Int) : Calls Tryz.prog 158 #[.pointer (some ⟨b, 0, none⟩), .int .i64 cpu] w (NewL (t.list cpu) w) := by
  obtain ⟨hok, tb, ids, g, cap, D, hI, hA⟩ := call_view h
  have hm := call_may1 hA.cbC.2.1 cpu
  unfold CbT.list
  by_cases hi : t.is cpu
  · rw [if_pos hi]
    rw [if_pos (show 0 ≤ cpu ∧ cpu < t.n from hi)] at hm
    obtain ⟨h1, h2⟩ := hi
    obtain ⟨c, rfl⟩ := Int.eq_ofNat_of_zero_le h1
    have hc : c < t.n := by omega
    obtain ⟨gb, rfl, kp⟩ := hA.cbPtr hc
    obtain ⟨k0, k1, k2, k3⟩ := hA.cbC
    simp only [rA] at k1 hm
    have kp' := cellNew (.cells #[.int .i64 (c : Int)] 3 (0,0)) kp
    have k0' := cellNew (.cells #[.int .i64 (c : Int)] 3 (0,0)) k0
    have k1' := cellNew (.cells #[.int .i64 (c : Int)] 3 (0,0)) k1
    have hL := fun k => fifo_List ((hA.keep (u' := (w.alloc (.cells #[.int .i64 (c : Int)] 3 (0,0))).drewN k) (((Mod.refl _ _).alloc _).drewN k)).cbHas hc).choose_spec
    rw [show t.at (c : Int) = t.q c from rfl]
    generalize t.q c = x at *
    clear hA h h1
    go_enter Tryz.func158, Tryz.ntmps158
    go_wp2_with (first
      | (go_at_call 220; refine hm.mono ?_; rintro e w' ⟨rfl, k, rfl⟩)
      | (go_at_call 239; refine (hL _).mono ?_; intro e w2 hm2; obtain ⟨a2, c2, rfl, m2, i2, n2⟩ := fifoL_newL hm2))
    go_ret
    refine ⟨a2, c2, rfl, (((Mod.refl [] w).alloc _).drewN k).trans m2 (by simp), i2, fun b o e => ?_⟩
    have := n2 b o e
    simp at this
    omega
  · rw [if_neg hi]
    rw [if_neg (show ¬ (0 ≤ cpu ∧ cpu < t.n) from hi)] at hm
    clear hA h hi
    go_enter Tryz.func158, Tryz.ntmps158
    go_wp2_with (go_at_call 220; refine hm.mono ?_; rintro e w' ⟨rfl, k, rfl⟩)
    go_ret
    exact ⟨none, 0, rfl, ((Mod.refl _ _).alloc _).drewN _, .inl rfl, fun b o e => by cases e⟩
theorem call_Load (h : (callR b t).holds F w) (cpu : Int) : Calls Tryz.prog 88 #[.pointer (some ⟨b, 0, none⟩), .int .i64 cpu] w (fun e w' => e = .returned (.int .i64 (t.list cpu).length) ∧ Mod [] w w') := by
  have hL := call_List h cpu
  clear h
  go_enter Tryz.func88, Tryz.ntmps88
  go_wp2_with (go_at_call 158; refine hL.mono ?_; rintro e w2 ⟨a2, c2, rfl, m2, i2, n2⟩)
  go_ret
  exact ⟨rfl, m2⟩
set_option maxRecDepth 100000 in
theorem call_Send (h : (callR b t).holds F w) (hT : Tab w) (hF : tzL_ren.g 1 ∉ F) (cpu : Int) : Calls Tryz.prog 137 #[.pointer (some ⟨b, 0, none⟩), .int .i64 cpu] w (Turns (callR b (t.send cpu)) F (.tuple #[.int .i64 (t.sendV cpu), .int .i64 (t.sendE cpu)]) w) := by
  obtain ⟨hok, tb, ids, g, cap, D, hI, hA⟩ := call_view h
  have hm := call_may1 hA.cbC.2.1 cpu
  have hB := fun k => hA.keep (u' := (w.alloc (.cells #[.int .i64 cpu] 3 (0,0))).drewN k) (((Mod.refl _ _).alloc _).drewN k)
  by_cases hi : t.is cpu
  case neg =>
    have e : t.sendE cpu = 3 := if_pos hi
    rw [show t.send cpu = t from if_neg (by rw [e]; decide), show t.sendV cpu = 0 from if_neg (by rw [e]; decide), e]
    rw [if_neg (show ¬ (0 ≤ cpu ∧ cpu < t.n) from hi)] at hm
    have H := Lib.hid (fun k => (hB k).callOk hok rfl rfl hI)
    clear hA h hi e hB
    go_enter Tryz.func137, Tryz.ntmps137
    go_wp2_with (go_at_call 220; refine hm.mono ?_; rintro e w' ⟨rfl, k, rfl⟩)
    go_ret2
    exact ⟨rfl, H.out _⟩
  rw [if_pos (show 0 ≤ cpu ∧ cpu < t.n from hi)] at hm
  have hs : SlotOk 32 ids := by obtain ⟨F1, h1, _⟩ := hA.get 1 rfl; exact h1
  obtain ⟨hlow, hfull⟩ := call_low hok hs hI
  by_cases hf : 32 < t.low
  · have e : t.sendE cpu = 5 := by unfold CbT.sendE; rw [if_neg (fun x => x hi), if_pos hf]
    rw [show t.send cpu = t from if_neg (by rw [e]; decide), show t.sendV cpu = 0 from if_neg (by rw [e]; decide), e]
    have H := Lib.hid (fun k => (hB k).callOk hok rfl rfl hI)
    have hTk := fun k => slot_Take_full _ _ _ _ _ ((hB k).get 1 rfl).choose_spec (hfull.2 hf)
    obtain ⟨k0, k1, k2, k3⟩ := hA.cbC
    have k0' := cellNew (.cells #[.int .i64 cpu] 3 (0,0)) k0
    clear hA h hi e hB
    go_enter Tryz.func137, Tryz.ntmps137
    go_wp2_with (first
      | (go_at_call 220; refine hm.mono ?_; rintro e w' ⟨rfl, k, rfl⟩)
      | (go_at_call 132; refine (hTk _).mono ?_; rintro e w' ⟨rfl, k3, rfl⟩))
    go_ret2
    exact ⟨rfl, H.out _⟩
  · have e : t.sendE cpu = 0 := by unfold CbT.sendE; rw [if_neg (fun x => x hi), if_neg hf]
    rw [show t.send cpu = _ from if_pos e, show t.sendV cpu = _ from if_pos e, e]
    have hl : ids.length ≠ 32 := fun x => hf (hfull.1 x)
    have hTk := fun k => hT.keep (((Mod.refl [] w).alloc (.cells #[.int .i64 cpu] 3 (0,0))).drewN k) (by simp)
    have hwn := low_none ids hI
    rw [hlow]
    obtain ⟨h1, h2⟩ := hi
    obtain ⟨c, rfl⟩ := Int.eq_ofNat_of_zero_le h1
    have hc : c < t.n := by omega
    obtain ⟨gb, rfl, kp⟩ := hA.cbPtr hc
    obtain ⟨k0, k1, k2, k3⟩ := hA.cbC
    simp only [rA] at k1 hm
    have kp' := cellNew (.cells #[.int .i64 (c : Int)] 3 (0,0)) kp
    have k0' := cellNew (.cells #[.int .i64 (c : Int)] 3 (0,0)) k0
    have k1' := cellNew (.cells #[.int .i64 (c : Int)] 3 (0,0)) k1
    obtain ⟨hx, hw2, hlen⟩ := bx_push hok.2.2 hwn (by have := (lowN_spec ids).1.1; omega) (by omega) hc
    have hpe : qPushE 32 (t.q c) (lowN ids) = 0 := by unfold qPushE; rw [if_neg (whrB_none.1 hwn c hc), if_neg (by omega)]
    have hps : qPush 32 (t.q c) (lowN ids) = t.q c ++ [(lowN ids : Int)] := if_pos hpe
    have hI2 := idsB_push hI hw2
    clear h hA e hlow hfull hf
    go_enter Tryz.func137, Tryz.ntmps137
    go_wp2_with (first
      | (go_at_call 220; refine hm.mono ?_; rintro e w' ⟨rfl, k, rfl⟩)
      | (
        go_at_call 132
        refine ((hB k).call 1 rfl (fun F1 h1 => slot_Take _ _ _ _ _ h1 (hTk k) hl)).mono ?_
        rintro e w2 ⟨rfl, hC⟩
        have hC : On F w (callL b tb (lowN ids :: ids) (some gb) cap D t.n t.q) w2 := hC
        obtain ⟨d0, d1, _, _⟩ := hC.cbC
        obtain ⟨gb2, e2, dp⟩ := hC.cbPtr hc
        cases e2
        simp only [rA] at d1
        have hP := hC.cbDo (P := Tryz.prog) (fn := 134) hc (fun F1 hF => fifo_Push hF (lowN ids))
        rw [hpe, hps] at hP
        clear hC hB kp' k0' k1'
        )
      | (go_at_call 134; refine hP.mono ?_; rintro e w3 ⟨rfl, hE⟩))
    go_ret2
    exact ⟨rfl, hE.callOk (t := ⟨t.n, gupd t.q c (t.q c ++ [(lowN ids : Int)])⟩) ⟨hok.1, hok.2.1, hx⟩ rfl rfl hI2⟩
theorem cons_perm {l : List Int} (h : l ≠ []) : l.Perm (nth l 0 :: l.tail) := by
  cases l with
  | nil => exact absurd rfl h
  | cons a l => simp [nth]
set_option maxRecDepth 100000 in
theorem call_Take (h : (callR b t).holds F w) (cpu : Int) : Calls Tryz.prog 183 #[.pointer (some ⟨b, 0, none⟩), .int .i64 cpu] w (Turns (callR b (t.take cpu)) F (.tuple #[.int .i64 (t.takeV cpu), .int .i64 (t.takeE cpu)]) w) := by
  obtain ⟨hok, tb, ids, g, cap, D, hI, hA⟩ := call_view h
  have hm := call_may1 hA.cbC.2.1 cpu
  have hB := fun k => hA.keep (u' := (w.alloc (.cells #[.int .i64 cpu] 3 (0,0))).drewN k) (((Mod.refl _ _).alloc _).drewN k)
  by_cases hi : t.is cpu
  case neg =>
    have e : t.takeE cpu = 3 := if_pos hi
    rw [show t.take cpu = t from if_neg (by rw [e]; decide), show t.takeV cpu = 0 from if_neg (by rw [e]; decide), e]
    rw [if_neg (show ¬ (0 ≤ cpu ∧ cpu < t.n) from hi)] at hm
    have H := Lib.hid (fun k => (hB k).callOk hok rfl rfl hI)
    clear hA h hi e hB
    go_enter Tryz.func183, Tryz.ntmps183
    go_wp2_with (go_at_call 220; refine hm.mono ?_; rintro e w' ⟨rfl, k, rfl⟩)
    go_ret2
    exact ⟨rfl, H.out _⟩
  rw [if_pos (show 0 ≤ cpu ∧ cpu < t.n from hi)] at hm
  have hE0 : t.takeE cpu = if t.at cpu = [] then 12 else 0 := by unfold CbT.takeE; rw [if_neg (fun x => x hi)]
  have hs : SlotOk 32 ids := by obtain ⟨F1, h1, _⟩ := hA.get 1 rfl; exact h1
  obtain ⟨h1, h2⟩ := hi
  obtain ⟨c, rfl⟩ := Int.eq_ofNat_of_zero_le h1
  have hc : c < t.n := by omega
  obtain ⟨gb, rfl, kp⟩ := hA.cbPtr hc
  obtain ⟨k0, k1, k2, k3⟩ := hA.cbC
  simp only [rA] at k1 hm
  have kp' := cellNew (.cells #[.int .i64 (c : Int)] 3 (0,0)) kp
  have k0' := cellNew (.cells #[.int .i64 (c : Int)] 3 (0,0)) k0
  have k1' := cellNew (.cells #[.int .i64 (c : Int)] 3 (0,0)) k1
  rw [show t.at (c : Int) = t.q c from rfl] at hE0
  have hP := fun k => (hB k).cbDo (P := Tryz.prog) (fn := 255) hc (fun F1 hF => fifo_Pop hF)
  by_cases hq : t.q c = []
  · rw [if_pos hq] at hE0
    rw [show t.take c = t from if_neg (by rw [hE0]; decide), show t.takeV c = 0 from if_neg (by rw [hE0]; decide), hE0]
    have e1 : gupd t.q c (t.q c).tail = t.q := by
      funext i
      by_cases e : i = c
      · subst e; rw [gupd_same, hq]; rfl
      · rw [gupd_ne _ _ e]
    rw [e1, show frontV (t.q c) = 0 by rw [hq]; rfl, show frontE (t.q c) = 12 from if_pos hq] at hP
    clear h hA hB e1 hE0 hq
    go_enter Tryz.func183, Tryz.ntmps183
    go_wp2_with (first
      | (go_at_call 220; refine hm.mono ?_; rintro e w' ⟨rfl, k, rfl⟩)
      | (go_at_call 255; refine (hP _).mono ?_; rintro e w2 ⟨rfl, hC⟩; have HC := Lib.hid hC; clear hC hP))
    go_ret2
    exact ⟨rfl, HC.out.callOk hok rfl rfl hI⟩
  · rw [if_neg hq] at hE0
    rw [show t.take c = ⟨t.n, gupd t.q c (t.q c).tail⟩ from if_pos hE0, show t.takeV c = nth (t.q c) 0 from if_pos hE0, hE0]
    rw [show frontV (t.q c) = nth (t.q c) 0 from rfl, show frontE (t.q c) = 0 from if_neg hq] at hP
    have hperm := cons_perm hq
    obtain ⟨hx, hw2⟩ := bx_out hok.2.2 hc hperm
    have hmem : nth (t.q c) 0 ∈ t.q c := hperm.mem_iff.2 List.mem_cons_self
    have hb := hok.2.2.bd c _ hc hmem
    obtain ⟨m, hm0⟩ := Int.eq_ofNat_of_zero_le (show 0 ≤ nth (t.q c) 0 by omega)
    rw [hm0] at hP hw2 hmem
    rw [hm0]
    have hmi : m ∈ ids := (hI m).2 (whrB_isSome.2 ⟨c, hc, hmem⟩)
    have hI2 := idsB_out hs.nodup hI hw2
    have HM := Lib.hid (And.intro hI2 hx)
    clear h hA hB hE0 hq hperm hw2 hmem hb hm0 hI2 hx
    go_enter Tryz.func183, Tryz.ntmps183
    go_wp2_with (first
      | (go_at_call 220; refine hm.mono ?_; rintro e w' ⟨rfl, k, rfl⟩)
      | (
        go_at_call 255
        refine (hP _).mono ?_
        rintro e w2 ⟨rfl, hC⟩
        obtain ⟨d0, d1, _, _⟩ := hC.cbC
        have hG := hC.call (P := Tryz.prog) (f := 256) 1 rfl (fun F1 h1 => slot_Give _ _ _ _ _ h1 m hmi)
        clear hC hP
        )
      | (go_at_call 256; refine hG.mono ?_; rintro e w3 ⟨rfl, hE⟩))
    go_ret2
    have hE : On F w (callL b tb (ids.erase m) (some gb) cap D t.n (gupd t.q c (t.q c).tail)) w3 := hE
    exact ⟨rfl, hE.callOk (t := ⟨t.n, gupd t.q c (t.q c).tail⟩) ⟨hok.1, hok.2.1, HM.out.2⟩ rfl rfl HM.out.1⟩
set_option maxRecDepth 100000 in
set_option maxHeartbeats 1000000 in
theorem call_Move (h : (callR b t).holds F w) (a d : Int) : Calls Tryz.prog 300 #[.pointer (some ⟨b, 0, none⟩), .int .i64 a, .int .i64 d] w (Turns (callR b (t.move a d)) F (.tuple #[.int .i64 (t.moveV a d), .int .i64 (t.moveE a d)]) w) := by
  obtain ⟨hok, tb, ids, g, cap, D, hI, hA⟩ := call_view h
  have hm := call_may2 hA.cbC.2.1 a d
  have hB := fun k => hA.keep (u' := (w.alloc (.cells #[.int .i64 a, .int .i64 d] 3 (0,0))).drewN k) (((Mod.refl _ _).alloc _).drewN k)
  have H := Lib.hid (fun k => (hB k).callOk hok rfl rfl hI)
  by_cases hi : t.is a ∧ t.is d
  case neg =>
    have e : t.moveE a d = 3 := if_pos (by by_cases x : t.is a; exact .inr (fun y => hi ⟨x, y⟩); exact .inl x)
    rw [show t.move a d = t from if_neg (by rw [e]; decide), show t.moveV a d = 0 from if_neg (by rw [e]; decide), e]
    rw [if_neg (show ¬ ((0 ≤ a ∧ a < t.n) ∧ (0 ≤ d ∧ d < t.n)) from hi)] at hm
    clear hA h hi e hB
    go_enter Tryz.func300, Tryz.ntmps300
    go_wp2_with (go_at_call 220; refine hm.mono ?_; rintro e w' ⟨rfl, k, rfl⟩)
    go_ret2
    exact ⟨rfl, H.out _⟩
  rw [if_pos (show (0 ≤ a ∧ a < t.n) ∧ (0 ≤ d ∧ d < t.n) from hi)] at hm
  by_cases had : a = d
  · have e : t.moveE a d = 2 := by unfold CbT.moveE; rw [if_neg (fun x => x.elim (fun y => y hi.1) (fun y => y hi.2)), if_pos had]
    rw [show t.move a d = t from if_neg (by rw [e]; decide), show t.moveV a d = 0 from if_neg (by rw [e]; decide), e]
    subst had
    clear hA h hi e hB
    go_enter Tryz.func300, Tryz.ntmps300
    go_wp2_with (go_at_call 220; refine hm.mono ?_; rintro e w' ⟨rfl, k, rfl⟩)
    go_ret2
    exact ⟨rfl, H.out _⟩
  have hE0 : t.moveE a d = if t.at a = [] then 12 else 0 := by unfold CbT.moveE; rw [if_neg (fun x => x.elim (fun y => y hi.1) (fun y => y hi.2)), if_neg had]
  obtain ⟨⟨h1, h2⟩, h3, h4⟩ := hi
  obtain ⟨c, rfl⟩ := Int.eq_ofNat_of_zero_le h1
  obtain ⟨d, rfl⟩ := Int.eq_ofNat_of_zero_le h3
  have hc : c < t.n := by omega
  have hd : d < t.n := by omega
  have hcd : c ≠ d := fun e => had (by rw [e])
  obtain ⟨gb, rfl, kp⟩ := hA.cbPtr hc
  obtain ⟨k0, k1, k2, k3⟩ := hA.cbC
  simp only [rA] at k1 hm
  have kp' := cellNew (.cells #[.int .i64 (c : Int), .int .i64 (d : Int)] 3 (0,0)) kp
  have k1' := cellNew (.cells #[.int .i64 (c : Int), .int .i64 (d : Int)] 3 (0,0)) k1
  rw [show t.at (c : Int) = t.q c from rfl] at hE0
  have hne : ((c : Int) == (d : Int)) = false := by simpa using had
  have hP := fun k => (hB k).cbDo (P := Tryz.prog) (fn := 255) hc (fun F1 hF => fifo_Pop hF)
  by_cases hq : t.q c = []
  · rw [if_pos hq] at hE0
    rw [show t.move c d = t from if_neg (by rw [hE0]; decide), show t.moveV c d = 0 from if_neg (by rw [hE0]; decide), hE0]
    have e1 : gupd t.q c (t.q c).tail = t.q := by
      funext i
      by_cases e : i = c
      · subst e; rw [gupd_same, hq]; rfl
      · rw [gupd_ne _ _ e]
    rw [e1, show frontV (t.q c) = 0 by rw [hq]; rfl, show frontE (t.q c) = 12 from if_pos hq] at hP
    clear h hA hB e1 hE0 hq had
    go_enter Tryz.func300, Tryz.ntmps300
    go_wp2_with (first
      | (go_at_call 220; refine hm.mono ?_; rintro e w' ⟨rfl, k, rfl⟩)
      | (go_at_call 255; refine (hP _).mono ?_; rintro e w2 ⟨rfl, hC⟩; have HC := Lib.hid hC; clear hC hP))
    go_ret2
    exact ⟨rfl, HC.out.callOk hok rfl rfl hI⟩
  · rw [if_neg hq] at hE0
    have eM : t.move c d = ⟨t.n, gupd (gupd t.q c (t.q c).tail) d (t.q d ++ [nth (t.q c) 0])⟩ := if_pos hE0
    rw [eM, show t.moveV c d = nth (t.q c) 0 from if_pos hE0, hE0]
    rw [show frontV (t.q c) = nth (t.q c) 0 from rfl, show frontE (t.q c) = 0 from if_neg hq] at hP
    have hperm := cons_perm hq
    obtain ⟨hx, hw2⟩ := bx_out hok.2.2 hc hperm
    have hmem : nth (t.q c) 0 ∈ t.q c := hperm.mem_iff.2 List.mem_cons_self
    have hb := hok.2.2.bd c _ hc hmem
    have hwn : whrB t.n (gupd t.q c (t.q c).tail) (nth (t.q c) 0) = none := by rw [hw2, if_pos rfl]
    obtain ⟨hx3, hw3, hlen⟩ := bx_push hx hwn hb.1 hb.2 hd
    have hgd : gupd t.q c (t.q c).tail d = t.q d := gupd_ne _ _ (Ne.symm hcd)
    rw [hgd] at hx3 hw3 hlen
    have hpe : qPushE 32 (t.q d) (nth (t.q c) 0) = 0 := by
      have := whrB_none.1 hwn d hd
      rw [hgd] at this
      unfold qPushE; rw [if_neg this, if_neg (by omega)]
    have hps : qPush 32 (t.q d) (nth (t.q c) 0) = t.q d ++ [nth (t.q c) 0] := if_pos hpe
    have hI2 : IdsB ids t.n (gupd (gupd t.q c (t.q c).tail) d (t.q d ++ [nth (t.q c) 0])) := idsB_same hI (fun j => by
      rw [hw3, hw2]
      by_cases e : j = nth (t.q c) 0
      · rw [if_pos e, e, whrB_isSome.2 ⟨c, hc, hmem⟩]; rfl
      · rw [if_neg e, if_neg e])
    have HM := Lib.hid (And.intro hI2 hx3)
    generalize nth (t.q c) 0 = x at *
    clear h hA hB hE0 hq hperm hw2 hmem hb hI2 hx3 had hx hwn hw3 hlen eM
    go_enter Tryz.func300, Tryz.ntmps300
    go_wp2_with (first
      | (go_at_call 220; refine hm.mono ?_; rintro e w' ⟨rfl, k, rfl⟩)
      | (
        go_at_call 255
        refine (hP _).mono ?_
        rintro e w2 ⟨rfl, hC⟩
        obtain ⟨d0, d1, _, _⟩ := hC.cbC
        obtain ⟨gb2, e2, dp⟩ := hC.cbPtr hd
        cases e2
        simp only [rA] at d1
        have hG := hC.cbDo (P := Tryz.prog) (fn := 134) (L := t.q d ++ [x]) (v := .int .i64 0) hd (fun F1 hF => by rw [hgd] at hF; have := fifo_Push hF x; rwa [hpe, hps] at this)
        clear hC hP kp' k1'
        )
      | (go_at_call 134; refine hG.mono ?_; rintro e w3 ⟨rfl, hE⟩))
    go_ret2
    exact ⟨rfl, hE.callOk (t := ⟨t.n, gupd (gupd t.q c (t.q c).tail) d (t.q d ++ [x])⟩) ⟨hok.1, hok.2.1, HM.out.2⟩ rfl rfl HM.out.1⟩
end
end Go.Proofs.YtaakgpnmfkmdoaaGreatDoor

/- The walk over call.New. No condition but those named. -/
namespace Go.Proofs.YtaakgpnmfkmdoaaGreatDoor
set_option linter.unusedVariables false
set_option linter.unusedSimpArgs false
open Go.RowKit

theorem infoFQ : (Tryz.prog.info? 187).map (fun i => (i.zero, i.size, i.bytes)) = some (some (.pointer none), 1, 8) := by kernel_rfl
theorem qOk0 (N : Nat) : BxOk N (fun _ => []) := ⟨fun _ _ => List.nodup_nil, (fun _ x _ h => by cases h), (fun _ _ x _ _ h => by cases h)⟩
def cb0 (n : Nat) : CbT := ⟨n, fun _ => []⟩
theorem idsB0 (N : Nat) : IdsB [] N (fun _ => []) := fun m => by
  rw [whrB_isSome]
  constructor
  · intro h; cases h
  · rintro ⟨_, _, h⟩; cases h
set_option maxRecDepth 100000 in
set_option maxHeartbeats 1000000 in
theorem call_New (n : Nat) (h1 : 1 ≤ n) (h2 : n ≤ 64) (w : World) : Calls Tryz.prog 56 #[.int .i64 n] w (TurnsV (fun d : Nat => .tuple #[.pointer (some ⟨d, 0, none⟩), .int .i64 0]) (fun d => callR d (cb0 n)) [] w) := by
  have hS := (On.start w).make (slot_New 32 (by omega) (by omega) w)
  go_enter Tryz.func56, Tryz.ntmps56
  go_wp2_with (first
    | (
      go_at_call 91
      refine hS.mono ?_
      rintro e w1 ⟨tb, rfl, hA⟩
      have hB : On [] w (callL w1.heap.size tb [] none 0 (fun _ => 0) 0 (fun _ => [])) (w1.alloc (.cells #[.pointer (some ⟨tb, 0, none⟩), .slice none 0 0] 192 (0,0))) := by
        have x2 := (hA.alloc (.cells #[.pointer (some ⟨tb, 0, none⟩), .slice none 0 0] 192 (0,0))).front
        have x3 := x2.more (P := rowR 187 1 none 0 0 []) ⟨rfl, RAt.nil _ _ _⟩
        exact x3
      have HB := Lib.hid hB
      clear hB hA hS
      )
    )
  generalize hd : w1.heap.size = d at *
  go_loopg [27] n (fun gg i wr => ∃ (j : Nat) (g : Option Nat) (cap : Nat) (D : Nat → Nat), i = .int .i64 j ∧ j + gg = n ∧ On [] w (callL d tb [] g cap D j (fun _ => [])) wr)
  case atStart => exact ⟨0, none, 0, fun _ => 0, rfl, by omega, HB.out⟩
  case round =>
    clear HB
    obtain ⟨j, g, cap, D, rfl, hj, hB⟩ := hrel
    by_cases hlt : j < n
    · have hltI : (j : Int) < n := by omega
      have hN := hB.make (fifo_New 32 (by omega) (by omega) wr)
      go_wp2_with (first
        | (
          go_at_call 94
          refine hN.mono ?_
          rintro e w2 ⟨x, rfl, hC⟩
          have c1 := hC.cell 0 rfl 1
          have hC2 := hC.keep (u' := w2.alloc (.cells #[.pointer (some ⟨x, 0, none⟩)] 187 (0,0))) ((Mod.refl _ _).alloc _)
          unfold callL at hC2
          rw [List.append_nil] at hC2
          obtain ⟨g', cap', w3, hrun, hD⟩ := hC2.famMore (P := Tryz.prog) (tt := 184) (bytes := 8) Tryz.underlying184 infoFQ (by omega) (by omega) (b := w2.heap.size) (d := x) (heapNew _ _)
          have c3 := hD.cell 0 rfl 1
          have f3 := hD.free 0 rfl 1
          have z3 := hD.size 0 rfl
          have HD := Lib.hid hD
          clear hC hC2 hN hB hD
          )
        | (
          at_builtin
          refine wpList_append_run rfl _ _ _ rfl rfl rfl (hrun _) ?_
          )
        )
      have hE := HD.out.set 0 rfl 1 (.slice (some ⟨g', 0, none⟩) (j + 1) cap')
      go_roundg (gk - 1)
      case measure => omega
      case rel =>
        refine ⟨j + 1, some g', cap', gupd D j x, by go_num, by omega, ?_⟩
        have e : gupd (fun c => fifoR (D c) 32 []) j (fifoR x 32 []) = fun i => fifoR (gupd D j x i) 32 [] := by
          funext i
          by_cases e : i = j
          · subst e; rw [gupd_same, gupd_same]
          · rw [gupd_ne _ _ e, gupd_ne _ _ e]
        rw [e] at hE
        unfold callL
        rw [List.append_nil]
        exact hE
    · have hltI : ¬ (j : Int) < n := by omega
      obtain rfl : j = n := by omega
      have HB := Lib.hid hB
      clear hB
      go_wp2
      go_ret2
      refine ⟨d, rfl, ?_⟩
      exact HB.out.callOk (t := cb0 j) ⟨h1, h2, qOk0 _⟩ rfl rfl (idsB0 _)
end Go.Proofs.YtaakgpnmfkmdoaaGreatDoor

/- Works of cores (package work) in memory; the walks over may, list, Where, Has, List, Load, Queue, Drop. No condition but those named. -/
namespace Go.Proofs.YtaakgpnmfkmdoaaGreatDoor
set_option linter.unusedVariables false
set_option linter.unusedSimpArgs false
open Go.RowKit

def wkI (N : Nat) (q : Nat → List Int) (id : Int) : Option Int := match whrB N q id with | some c => some ((c : Int) - 1) | none => none
theorem wkI_some {N : Nat} {q : Nat → List Int} {id : Int} : (wkI N q id).isSome = (whrB N q id).isSome := by unfold wkI; cases whrB N q id <;> rfl
def WkT.ok (t : WkT) : Prop := 1 ≤ t.n ∧ t.n ≤ 64 ∧ BxOk (t.n + 1) t.q
def workL (b tb wb cnt : Nat) (ids : List Nat) (f : Int → Option Int) (g : Option Nat) (cap : Nat) (D : Nat → Nat) (n : Nat) (q : Nat → List Int) : List Res :=
  [Res.blk b (.cells #[.pointer (some ⟨tb, 0, none⟩), .slice (rA g) n cap, .map (some wb)] 186 (0,0)), slotR tb 32 ids, fmapR wb cnt (numF f)] ++ famL 187 g cap n D (fun c => fifoR (D c) 32 (q c)) ++ []
structure WkP where
  tb : Nat
  wb : Nat
  cnt : Nat
  ids : List Nat
  g : Option Nat
  cap : Nat
  D : Nat → Nat
def workR (b : Nat) (t : WkT) : Res := Res.such t.ok (Res.ex fun p : WkP => Res.such (IdsB p.ids (t.n + 1) t.q) (Res.star (workL b p.tb p.wb p.cnt p.ids (wkI (t.n + 1) t.q) p.g p.cap p.D (t.n + 1) t.q)))
section
variable {F : List Nat} {w u : World} {b tb wb cnt : Nat} {ids : List Nat} {f : Int → Option Int} {g : Option Nat} {cap : Nat} {D : Nat → Nat} {n : Nat} {q : Nat → List Int} {t : WkT}
theorem work_view (h : (workR b t).holds F w) : t.ok ∧ ∃ tb wb cnt ids g cap D, IdsB ids (t.n + 1) t.q ∧ On F w (workL b tb wb cnt ids (wkI (t.n + 1) t.q) g cap D (t.n + 1) t.q) w := by
  obtain ⟨h1, p, h2, h3⟩ := h
  exact ⟨h1, p.tb, p.wb, p.cnt, p.ids, p.g, p.cap, p.D, h2, On.of h3⟩
theorem On.workOk (h : On F w (workL b tb wb cnt ids f g cap D n q) u) {t : WkT} (hok : t.ok) (hn : t.n + 1 = n) (hq : t.q = q) (hi : IdsB ids n q) (hf : f = wkI n q) : Gain (workR b t) F w u := by
  subst hn hq hf
  exact h.gains.imp fun F' h' => ⟨hok, ⟨tb, wb, cnt, ids, g, cap, D⟩, hi, h'⟩
theorem On.wkC (h : On F w (workL b tb wb cnt ids f g cap D n q) u) : u.cell? ⟨b, 0, none⟩ = some (.pointer (some ⟨tb, 0, none⟩)) ∧ u.cell? ⟨b, 1, none⟩ = some (.slice (rA g) n cap) ∧ u.cell? ⟨b, 2, none⟩ = some (.map (some wb)) ∧ n ≤ cap ∧ cap ≤ maxLen :=
  ⟨h.cell 0 rfl 0, h.cell 0 rfl 1, h.cell 0 rfl 2, h.famCap (k := 3) rfl⟩
theorem On.wkPtr (h : On F w (workL b tb wb cnt ids f g cap D n q) u) {c : Nat} (hc : c < n) : ∃ gb, g = some gb ∧ u.cell? ⟨gb, c, none⟩ = some (.pointer (some ⟨D c, 0, none⟩)) := h.famPtr (k := 3) rfl hc
theorem On.wkHas (h : On F w (workL b tb wb cnt ids f g cap D n q) u) {c : Nat} (hc : c < n) : ∃ F1, (fifoR (D c) 32 (q c)).holds F1 u := h.famHas (k := 3) rfl hc
theorem On.wkDo {P : Program} {fn : FuncId} {args : Array Value} {v : Value} {L : List Int} (h : On F w (workL b tb wb cnt ids f g cap D n q) u) {c : Nat} (hc : c < n) (hh : ∀ F1, (fifoR (D c) 32 (q c)).holds F1 u → Calls P fn args u (Turns (fifoR (D c) 32 L) F1 v u)) :
    Calls P fn args u (fun e u' => e = .returned v ∧ On F w (workL b tb wb cnt ids f g cap D n (gupd q c L)) u') := by
  have := h.famDo (k := 3) rfl hc hh
  have e : gupd (fun c => fifoR (D c) 32 (q c)) c (fifoR (D c) 32 L) = fun i => fifoR (D i) 32 (gupd q c L i) := by
    funext i
    by_cases e : i = c
    · subst e; rw [gupd_same, gupd_same]
    · rw [gupd_ne _ _ e, gupd_ne _ _ e]
  rw [e] at this
  exact this
theorem On.wkPut (h : On F w (workL b tb wb cnt ids f g cap D n q) u) (id v : Int) : ∃ w1 cnt', (Instr.mapUpdate 82 (.map (some wb)) (.int .i64 id) (.int .i64 v)).run Tryz.prog u = .ok () w1 ∧ On F w (workL b tb wb cnt' ids (oput f id v) g cap D n q) w1 := by
  obtain ⟨w1, h1, h2⟩ := h.fmPut (P := Tryz.prog) 2 rfl Tryz.underlying82 Tryz.underlying3 id (.int .i64 v)
  rw [numF_put] at h2
  exact ⟨w1, _, h1, h2⟩
theorem On.wkDel (h : On F w (workL b tb wb cnt ids f g cap D n q) u) (id : Int) : ∃ w1 cnt', (∀ ty, (Builtin.delete_ #[82, 3] ty #[.map (some wb), .int .i64 id]).run Tryz.prog u = .ok (.tuple #[]) w1) ∧ On F w (workL b tb wb cnt' ids (odel f id) g cap D n q) w1 := by
  obtain ⟨w1, h1, h2⟩ := h.fmDel (P := Tryz.prog) 2 rfl Tryz.underlying82 Tryz.underlying3 id
  rw [numF_del] at h2
  exact ⟨w1, _, h1, h2⟩
theorem On.wkLook (h : On F w (workL b tb wb cnt ids f g cap D n q) u) (id : Int) : (Instr.lookup 82 (.map (some wb)) (.int .i64 id) true).run Tryz.prog u = .ok (.tuple #[.int .i64 ((f id).getD 0), .bool (f id).isSome]) u := by
  have := fm_lookup2 (P := Tryz.prog) (h.fm 2 rfl) Tryz.underlying82 Tryz.underlying3 id (fun w => Tryz.zeroValue3 w)
  rw [this]
  unfold numF
  cases f id <;> rfl
theorem work_may (c1 : u.cell? ⟨b, 1, none⟩ = some (.slice (rA g) (n + 1) cap)) (hn : n ≤ 64) (cpu from_ : Int) : Calls Tryz.prog 131 #[.pointer (some ⟨b, 0, none⟩), .int .i64 cpu, .int .i64 from_] u (Ret (.int .i64 (if from_ ≤ cpu ∧ cpu < n then 0 else 3)) u) := by
  have hwn : wrap64 (n : Int) = n := by unfold wrap64; omega
  by_cases hi : from_ ≤ cpu ∧ cpu < n
  · rw [if_pos hi]
    obtain ⟨h1, h2⟩ := hi
    have q1 : ¬ cpu < from_ := by omega
    have q2 : ¬ ((n : Int) ≤ cpu) := by omega
    go_enter Tryz.func131, Tryz.ntmps131
    go_wp2
    go_ret
    exact Ret.of (rfl) (by repeat (first | exact Drew.refl _ | apply Drew.drewN | apply Drew.drew))
  · rw [if_neg hi]
    have h2 : cpu < from_ ∨ (¬ cpu < from_ ∧ (n : Int) ≤ cpu) := by omega
    clear hi
    rcases h2 with h2 | ⟨h1, h2⟩
    all_goals
      go_enter Tryz.func131, Tryz.ntmps131
      go_wp2
      go_ret
      exact Ret.of (rfl) (by repeat (first | exact Drew.refl _ | apply Drew.drewN | apply Drew.drew))
theorem work_list {gb d c : Nat} (k1 : u.cell? ⟨b, 1, none⟩ = some (.slice (some ⟨gb, 0, none⟩) n cap)) (kp : u.cell? ⟨gb, c, none⟩ = some (.pointer (some ⟨d, 0, none⟩))) (hc : c < n) (hn : n ≤ 65) (cpu : Int) (h : cpu = (c : Int) - 1) :
    Calls Tryz.prog 133 #[.pointer (some ⟨b, 0, none⟩), .int .i64 cpu] u (Ret (.pointer (some ⟨d, 0, none⟩)) u) := by
  have e : cpu - -1 = (c : Int) := by omega
  have e2 : cpu + 1 = (c : Int) := by omega
  have h3 : (-1 : Int) ≤ cpu := by omega
  have h4 : cpu ≤ 64 := by omega
  have hcI : (c : Int) < n := by omega
  clear h
  go_enter Tryz.func133, Tryz.ntmps133
  go_wp2
  go_ret
  exact Ret.of (rfl) (by repeat (first | exact Drew.refl _ | apply Drew.drewN | apply Drew.drew))
theorem work_Where (hA : On F w (workL b tb wb cnt ids f g cap D n q) u) (id : Int) : Calls Tryz.prog 285 #[.pointer (some ⟨b, 0, none⟩), .int .i64 id] u (Ret (.tuple #[.int .i64 ((f id).getD 0), .bool (f id).isSome]) u) := by
  have hlk := hA.wkLook id
  obtain ⟨k0, k1, k2, k3⟩ := hA.wkC
  generalize (f id).getD 0 = x at *
  generalize (f id).isSome = y at *
  clear hA
  go_enter Tryz.func285, Tryz.ntmps285
  go_wp2
  go_ret2
  exact Ret.of (rfl) (by repeat (first | exact Drew.refl _ | apply Drew.drewN | apply Drew.drew))
theorem work_Has (h : (workR b t).holds F w) (id : Int) : Calls Tryz.prog 231 #[.pointer (some ⟨b, 0, none⟩), .int .i64 id] w (Ret (.bool (t.has id)) w) := by
  obtain ⟨hok, tb, wb, cnt, ids, g, cap, D, hI, hA⟩ := work_view h
  have hW := work_Where hA id
  rw [wkI_some] at hW
  rw [show t.has id = (whrB (t.n + 1) t.q id).isSome from rfl]
  generalize (whrB (t.n + 1) t.q id).isSome = y at *
  clear hA h
  go_enter Tryz.func231, Tryz.ntmps231
  go_wp2_with (go_at_call 285; refine hW.mono ?_; rintro e w' ⟨rfl, k, rfl⟩)
  go_ret
  exact Ret.of (rfl) (by repeat (first | exact Drew.refl _ | apply Drew.drewN | apply Drew.drew))
end
end Go.Proofs.YtaakgpnmfkmdoaaGreatDoor

/- The walks over package work: List, Load, Queue, Drop. No condition but those named. -/
namespace Go.Proofs.YtaakgpnmfkmdoaaGreatDoor
set_option linter.unusedVariables false
set_option linter.unusedSimpArgs false
open Go.RowKit

section
variable {F : List Nat} {w u : World} {b tb wb cnt : Nat} {ids : List Nat} {f : Int → Option Int} {g : Option Nat} {cap : Nat} {D : Nat → Nat} {n : Nat} {q : Nat → List Int} {t : WkT}
theorem work_low (hok : t.ok) {ids : List Nat} (hs : SlotOk 32 ids) (hi : IdsB ids (t.n + 1) t.q) : t.low = lowN ids ∧ (ids.length = 32 ↔ 32 < t.low) := idsB_low hok.2.2 hs hi
theorem cellN {w : World} {p : Addr} {v : Value} (h : w.cell? p = some v) (k : Nat) : (w.drewN k).cell? p = some v := by simpa using h
set_option maxRecDepth 100000 in
theorem work_List (h : (workR b t).holds F w) (cpu : Int) : Calls Tryz.prog 157 #[.pointer (some ⟨b, 0, none⟩), .int .i64 cpu] w (NewL (t.list cpu) w) := by
  obtain ⟨hok, tb, wb, cnt, ids, g, cap, D, hI, hA⟩ := work_view h
  have hm := work_may hA.wkC.2.1 hok.2.1 cpu (-1)
  unfold WkT.list
  by_cases hi : t.is cpu (-1)
  · rw [if_pos hi]
    rw [if_pos (show -1 ≤ cpu ∧ cpu < t.n from hi)] at hm
    obtain ⟨h1, h2⟩ := hi
    obtain ⟨c, hcp⟩ := Int.eq_ofNat_of_zero_le (show 0 ≤ cpu + 1 by omega)
    have hc : c < t.n + 1 := by omega
    have hcl : cpu = (c : Int) - 1 := by omega
    obtain ⟨gb, rfl, kp⟩ := hA.wkPtr hc
    obtain ⟨k0, k1, kw, k2, k3⟩ := hA.wkC
    have hat : t.at cpu = t.q c := by unfold WkT.at; rw [hcp]; rfl
    have hnn : t.n + 1 ≤ 65 := by have := hok.2.1; omega
    simp only [rA] at k1 hm
    rw [hat]
    have hL := fun k => fifo_List ((hA.keep (u' := w.drewN k) ((Mod.refl _ _).drewN k)).wkHas hc).choose_spec
    have hl := fun k => work_list (cellN k1 k) (cellN kp k) hc hnn cpu hcl
    clear hcp hcl hat hA h
    generalize t.q c = x at *
    go_enter Tryz.func157, Tryz.ntmps157
    go_wp2_with (first
      | (go_at_call 131; refine hm.mono ?_; rintro e w' ⟨rfl, k, rfl⟩)
      | (go_at_call 133; refine (hl _).mono ?_; rintro e w' ⟨rfl, k2, rfl⟩)
      | (go_at_call 239; (try rw [World.drewN_drewN]); refine (hL _).mono ?_; intro e w2 hm2; obtain ⟨a2, c2, rfl, m2, i2, n2⟩ := fifoL_newL hm2))
    go_ret
    refine ⟨a2, c2, rfl, ((Mod.refl [] w).drewN _).trans m2 (by simp), i2, fun b o e => ?_⟩
    have := n2 b o e
    simp at this
    omega
  · rw [if_neg hi]
    rw [if_neg (show ¬ (-1 ≤ cpu ∧ cpu < t.n) from hi)] at hm
    clear hA h hi
    go_enter Tryz.func157, Tryz.ntmps157
    go_wp2_with (go_at_call 131; refine hm.mono ?_; rintro e w' ⟨rfl, k, rfl⟩)
    go_ret
    exact ⟨none, 0, rfl, (Mod.refl _ _).drewN _, .inl rfl, fun b o e => by cases e⟩
theorem work_Load (h : (workR b t).holds F w) (cpu : Int) : Calls Tryz.prog 87 #[.pointer (some ⟨b, 0, none⟩), .int .i64 cpu] w (fun e w' => e = .returned (.int .i64 (t.list cpu).length) ∧ Mod [] w w') := by
  have hL := work_List h cpu
  clear h
  go_enter Tryz.func87, Tryz.ntmps87
  go_wp2_with (go_at_call 157; refine hL.mono ?_; rintro e w2 ⟨a2, c2, rfl, m2, i2, n2⟩)
  go_ret
  exact ⟨rfl, m2⟩
theorem wkI_oput {N : Nat} {q q' : Nat → List Int} {id : Int} {c : Nat} (hw : ∀ j, whrB N q' j = if j = id then some c else whrB N q j) : oput (wkI N q) id ((c : Int) - 1) = wkI N q' := by
  funext j
  unfold oput wkI
  rw [hw]
  split <;> rfl
theorem wkI_odel {N : Nat} {q q' : Nat → List Int} {id : Int} (hw : ∀ j, whrB N q' j = if j = id then none else whrB N q j) : odel (wkI N q) id = wkI N q' := by
  funext j
  unfold odel wkI
  rw [hw]
  split <;> rfl
set_option maxRecDepth 100000 in
set_option maxHeartbeats 1000000 in
theorem work_Queue (h : (workR b t).holds F w) (hT : Tab w) (hF : tzL_ren.g 1 ∉ F) (cpu : Int) : Calls Tryz.prog 77 #[.pointer (some ⟨b, 0, none⟩), .int .i64 cpu] w (Turns (workR b (t.queue cpu)) F (.tuple #[.int .i64 (t.queueV cpu), .int .i64 (t.queueE cpu)]) w) := by
  obtain ⟨hok, tb, wb, cnt, ids, g, cap, D, hI, hA⟩ := work_view h
  have hm := work_may hA.wkC.2.1 hok.2.1 cpu (-1)
  have hB := fun k => hA.keep (u' := w.drewN k) ((Mod.refl _ _).drewN k)
  by_cases hi : t.is cpu (-1)
  case neg =>
    have e : t.queueE cpu = 3 := if_pos hi
    rw [show t.queue cpu = t from if_neg (by rw [e]; decide), show t.queueV cpu = 0 from if_neg (by rw [e]; decide), e]
    rw [if_neg (show ¬ (-1 ≤ cpu ∧ cpu < t.n) from hi)] at hm
    have H := Lib.hid (fun k => (hB k).workOk hok rfl rfl hI rfl)
    clear hA h hi e hB
    go_enter Tryz.func77, Tryz.ntmps77
    go_wp2_with (go_at_call 131; refine hm.mono ?_; rintro e w' ⟨rfl, k, rfl⟩)
    go_ret2
    exact ⟨rfl, H.out _⟩
  rw [if_pos (show -1 ≤ cpu ∧ cpu < t.n from hi)] at hm
  have hs : SlotOk 32 ids := by obtain ⟨F1, h1, _⟩ := hA.get 1 rfl; exact h1
  obtain ⟨hlow, hfull⟩ := work_low hok hs hI
  by_cases hf : 32 < t.low
  · have e : t.queueE cpu = 5 := by unfold WkT.queueE; rw [if_neg (fun x => x hi), if_pos hf]
    rw [show t.queue cpu = t from if_neg (by rw [e]; decide), show t.queueV cpu = 0 from if_neg (by rw [e]; decide), e]
    have H := Lib.hid (fun k => (hB k).workOk hok rfl rfl hI rfl)
    have hTk := fun k => slot_Take_full _ _ _ _ _ ((hB k).get 1 rfl).choose_spec (hfull.2 hf)
    obtain ⟨k0, k1, k2, k3⟩ := hA.wkC
    clear hA h hi e hB
    go_enter Tryz.func77, Tryz.ntmps77
    go_wp2_with (first
      | (go_at_call 131; refine hm.mono ?_; rintro e w' ⟨rfl, k, rfl⟩)
      | (go_at_call 132; refine (hTk _).mono ?_; rintro e w' ⟨rfl, k3, rfl⟩))
    go_ret2
    exact ⟨rfl, H.out _⟩
  · have e : t.queueE cpu = 0 := by unfold WkT.queueE; rw [if_neg (fun x => x hi), if_neg hf]
    have hl : ids.length ≠ 32 := fun x => hf (hfull.1 x)
    have hTk := fun k => hT.keep ((Mod.refl [] w).drewN k) (by simp)
    have hwn := low_none ids hI
    obtain ⟨h1, h2⟩ := hi
    obtain ⟨c, hcp⟩ := Int.eq_ofNat_of_zero_le (show 0 ≤ cpu + 1 by omega)
    have hc : c < t.n + 1 := by omega
    have hcl : cpu = (c : Int) - 1 := by omega
    obtain ⟨gb, rfl, kp⟩ := hA.wkPtr hc
    obtain ⟨k0, k1, kw, k2, k3⟩ := hA.wkC
    have hat : t.at cpu = t.q c := by unfold WkT.at; rw [hcp]; rfl
    have hnn : t.n + 1 ≤ 65 := by have := hok.2.1; omega
    simp only [rA] at k1 hm
    rw [show t.queue cpu = ⟨t.n, gupd t.q c (t.q c ++ [(lowN ids : Int)])⟩ by unfold WkT.queue; rw [if_pos e, hat, hlow]; unfold WkT.putQ; rw [hcp]; rfl, show t.queueV cpu = _ from if_pos e, e, hlow]
    obtain ⟨hx, hw2, hlen⟩ := bx_push hok.2.2 hwn (by have := (lowN_spec ids).1.1; omega) (by omega) hc
    have hpe : qPushE 32 (t.q c) (lowN ids) = 0 := by unfold qPushE; rw [if_neg (whrB_none.1 hwn c hc), if_neg (by omega)]
    have hps : qPush 32 (t.q c) (lowN ids) = t.q c ++ [(lowN ids : Int)] := if_pos hpe
    have hI2 := idsB_push hI hw2
    have hO := wkI_oput hw2
    rw [← hcl] at hO
    have HC := Lib.hid hcl
    clear h hA e hlow hfull hf hcl hcp hat
    go_enter Tryz.func77, Tryz.ntmps77
    go_wp2_with (first
      | (go_at_call 131; refine hm.mono ?_; rintro e w' ⟨rfl, k, rfl⟩)
      | (
        go_at_call 132
        refine ((hB k).call 1 rfl (fun F1 h1 => slot_Take _ _ _ _ _ h1 (hTk k) hl)).mono ?_
        rintro e w2 ⟨rfl, hC⟩
        have hC : On F w (workL b tb wb cnt (lowN ids :: ids) (wkI (t.n + 1) t.q) (some gb) cap D (t.n + 1) t.q) w2 := hC
        obtain ⟨d0, d1, d2, _, _⟩ := hC.wkC
        obtain ⟨w3, cnt3, hput, hD⟩ := hC.wkPut (lowN ids) cpu
        obtain ⟨f0, f1, f2, _, _⟩ := hD.wkC
        obtain ⟨gb2, e2, dp⟩ := hD.wkPtr hc
        cases e2
        simp only [rA] at f1
        have hli := work_list f1 dp hc hnn cpu HC.out
        have hP := fun k => (hD.keep (u' := w3.drewN k) ((Mod.refl _ _).drewN k)).wkDo (P := Tryz.prog) (fn := 134) hc (fun F1 hF => fifo_Push hF (lowN ids))
        rw [hpe, hps] at hP
        clear hC hD hB k0 k1 kw kp
        )
      | (go_at_call 133; refine hli.mono ?_; rintro e w' ⟨rfl, k2, rfl⟩)
      | (go_at_call 134; refine (hP _).mono ?_; rintro e w4 ⟨rfl, hE⟩))
    go_ret2
    exact ⟨rfl, hE.workOk (t := ⟨t.n, gupd t.q c (t.q c ++ [(lowN ids : Int)])⟩) ⟨hok.1, hok.2.1, hx⟩ rfl rfl hI2 hO⟩
/-- Drop: one that is in a list. -/
def WkT.drop (t : WkT) (c : Nat) (id : Int) : WkT := ⟨t.n, gupd t.q c ((t.q c).erase id)⟩
set_option maxRecDepth 100000 in
theorem work_Drop (h : (workR b t).holds F w) (id : Int) {c : Nat} (hc : c < t.n + 1) (hmem : id ∈ t.q c) : Calls Tryz.prog 259 #[.pointer (some ⟨b, 0, none⟩), .int .i64 id] w (Turns (workR b (t.drop c id)) F (.int .i64 0) w) := by
  obtain ⟨hok, tb, wb, cnt, ids, g, cap, D, hI, hA⟩ := work_view h
  have hs : SlotOk 32 ids := by obtain ⟨F1, h1, _⟩ := hA.get 1 rfl; exact h1
  have hWh := work_Where hA id
  have hwr : whrB (t.n + 1) t.q id = some c := (whrB_some hok.2.2).2 ⟨hc, hmem⟩
  have hf : wkI (t.n + 1) t.q id = some ((c : Int) - 1) := by unfold wkI; rw [hwr]
  rw [hf] at hWh
  simp only [Option.getD_some, Option.isSome_some] at hWh
  have hnn : t.n + 1 ≤ 65 := by have := hok.2.1; omega
  obtain ⟨hx, hw2⟩ := bx_out hok.2.2 hc (List.perm_cons_erase hmem)
  have hb := hok.2.2.bd c _ hc hmem
  obtain ⟨m, rfl⟩ := Int.eq_ofNat_of_zero_le (show 0 ≤ id by omega)
  have hmi : m ∈ ids := (hI m).2 (whrB_isSome.2 ⟨c, hc, hmem⟩)
  have hI2 := idsB_out hs.nodup hI hw2
  have hO := wkI_odel hw2
  have hde : qDropE (t.q c) m = 0 := if_pos hmem
  obtain ⟨k0, k1, kw, k2, k3⟩ := hA.wkC
  have hdel := fun k => (hA.keep (u' := w.drewN k) ((Mod.refl _ _).drewN k)).wkDel m
  have HM := Lib.hid (And.intro hI2 (And.intro hx hO))
  generalize hcl : (c : Int) - 1 = cpu at *
  have HC := Lib.hid hcl.symm
  clear hcl
  clear h hA hs hwr hf hI2 hx hw2 hO
  go_enter Tryz.func259, Tryz.ntmps259
  go_wp2_with (first
    | (
      go_at_call 285
      refine hWh.mono ?_
      rintro e w' ⟨rfl, k, rfl⟩
      obtain ⟨w1, cnt1, hrun, hB⟩ := hdel k
      obtain ⟨c0, c1, _, _⟩ := hB.wkC
      have hG := hB.call (P := Tryz.prog) (f := 256) 1 rfl (fun F1 h1 => slot_Give _ _ _ _ _ h1 m hmi)
      clear hdel hB hWh
      )
    | (at_builtin; rw [hrun])
    | (
      go_at_call 256
      refine hG.mono ?_
      rintro e w2 ⟨rfl, hC⟩
      have hC : On F w (workL b tb wb cnt1 (ids.erase m) (odel (wkI (t.n + 1) t.q) m) g cap D (t.n + 1) t.q) w2 := hC
      obtain ⟨gb, rfl, dp⟩ := hC.wkPtr hc
      obtain ⟨f0, f1, f2, _, _⟩ := hC.wkC
      simp only [rA] at f1
      have hli := work_list f1 dp hc hnn cpu HC.out
      have hP := fun k => (hC.keep (u' := w2.drewN k) ((Mod.refl _ _).drewN k)).wkDo (P := Tryz.prog) (fn := 305) hc (fun F1 hF => fifo_Drop hF m)
      rw [hde] at hP
      clear hC hG
      )
    | (go_at_call 133; refine hli.mono ?_; rintro e w' ⟨rfl, k2, rfl⟩)
    | (go_at_call 305; refine (hP _).mono ?_; rintro e w4 ⟨rfl, hE⟩))
  go_ret
  exact ⟨rfl, hE.workOk (t := t.drop c m) ⟨hok.1, hok.2.1, HM.out.2.1⟩ rfl rfl HM.out.1 HM.out.2.2⟩
end
end Go.Proofs.YtaakgpnmfkmdoaaGreatDoor

/- The walks over package work: Take, Unbind, New. No condition but those named. -/
namespace Go.Proofs.YtaakgpnmfkmdoaaGreatDoor
set_option linter.unusedVariables false
set_option linter.unusedSimpArgs false
open Go.RowKit

section
variable {F : List Nat} {w u : World} {b tb wb cnt : Nat} {ids : List Nat} {f : Int → Option Int} {g : Option Nat} {cap : Nat} {D : Nat → Nat} {n : Nat} {q : Nat → List Int} {t : WkT}
set_option maxRecDepth 100000 in
set_option maxHeartbeats 1000000 in
theorem work_Take (h : (workR b t).holds F w) (cpu : Int) : Calls Tryz.prog 187 #[.pointer (some ⟨b, 0, none⟩), .int .i64 cpu] w (Turns (workR b (t.take cpu)) F (.tuple #[.int .i64 (t.takeV cpu), .int .i64 (t.takeE cpu)]) w) := by
  obtain ⟨hok, tb, wb, cnt, ids, g, cap, D, hI, hA⟩ := work_view h
  have hW := On.one h
  have hm := work_may hA.wkC.2.1 hok.2.1 cpu 0
  by_cases hi : t.is cpu 0
  case neg =>
    have e : t.takeE cpu = 3 := if_pos hi
    rw [show t.take cpu = t from if_neg (by rw [e]; decide), show t.takeV cpu = 0 from if_neg (by rw [e]; decide), e]
    rw [if_neg (show ¬ (0 ≤ cpu ∧ cpu < t.n) from hi)] at hm
    have H := Lib.hid (fun k => (hW.keep (u' := w.drewN k) ((Mod.refl _ _).drewN k)).gain1)
    clear hA h hi e hW
    go_enter Tryz.func187, Tryz.ntmps187
    go_wp2_with (go_at_call 131; refine hm.mono ?_; rintro e w' ⟨rfl, k, rfl⟩)
    go_ret2
    exact ⟨rfl, H.out _⟩
  rw [if_pos (show 0 ≤ cpu ∧ cpu < t.n from hi)] at hm
  have hE0 : t.takeE cpu = if t.q (t.from_ cpu) = [] then 12 else 0 := by unfold WkT.takeE; rw [if_neg (fun x => x hi)]
  obtain ⟨h1, h2⟩ := hi
  obtain ⟨c, hcp⟩ := Int.eq_ofNat_of_zero_le (show 0 ≤ cpu + 1 by omega)
  have hc : c < t.n + 1 := by omega
  have hnn : t.n + 1 ≤ 65 := by have := hok.2.1; omega
  have hcl : cpu = (c : Int) - 1 := by omega
  obtain ⟨gb, rfl, kp⟩ := hA.wkPtr hc
  have hat : t.at cpu = t.q c := by unfold WkT.at; rw [hcp]; rfl
  have hfr : t.from_ cpu = if t.q c = [] then 0 else c := by unfold WkT.from_; rw [hat, hcp]; rfl
  rw [hfr] at hE0
  have key : ∀ d, (d = c ∧ t.q c ≠ [] ∨ t.q c = [] ∧ d = 0 ∧ t.q 0 ≠ []) → t.take cpu = t.drop d (nth (t.q d) 0) ∧ t.takeV cpu = nth (t.q d) 0 ∧ t.takeE cpu = 0 := by
    intro d hd
    have hd2 : (if t.q c = [] then 0 else c) = d ∧ t.q d ≠ [] := by
      rcases hd with ⟨rfl, h5⟩ | ⟨h5, rfl, h6⟩
      · rw [if_neg h5]; exact ⟨rfl, h5⟩
      · rw [if_pos h5]; exact ⟨rfl, h6⟩
    rw [hd2.1, if_neg hd2.2] at hE0
    refine ⟨?_, ?_, hE0⟩
    · unfold WkT.take
      rw [if_pos hE0, hfr, hd2.1]
      unfold WkT.drop WkT.putQ
      have : (t.q d).erase (nth (t.q d) 0) = (t.q d).tail := by
        cases hl : t.q d with
        | nil => exact absurd hl hd2.2
        | cons a l => simp [nth]
      rw [this]
    · unfold WkT.takeV; rw [if_pos hE0, hfr, hd2.1]
  have key0 : t.q c = [] → t.q 0 = [] → t.take cpu = t ∧ t.takeV cpu = 0 ∧ t.takeE cpu = 12 := by
    intro h5 h6
    rw [if_pos h5, if_pos h6] at hE0
    exact ⟨if_neg (by rw [hE0]; decide), if_neg (by rw [hE0]; decide), hE0⟩
  have HC := Lib.hid hcl
  have hN0 : 0 < t.n + 1 := by omega
  generalize hN : t.n + 1 = N at *
  generalize t.takeE cpu = tE at *
  generalize t.takeV cpu = tV at *
  generalize t.take cpu = tT at *
  have HK := Lib.hid key
  have HK0 := Lib.hid key0
  clear hcl hcp hat hfr hE0 key key0 kp
  try simp only [rA] at hm
  go_enter Tryz.func187, Tryz.ntmps187
  go_wp2_with (go_at_call 131; refine hm.mono ?_; rintro e w' ⟨rfl, k, rfl⟩)
  have hM : Mod [] w ((w.drewN k).alloc (.cells #[.int .i64 cpu, .int .i64 (-1)] 3 (0,0))) := ((Mod.refl [] w).drewN k).alloc _
  have hc0 := cellAt (heapNew (w.drewN k) (.cells #[.int .i64 cpu, .int .i64 (-1)] 3 (0,0))) 0
  have hc1 := cellAt (heapNew (w.drewN k) (.cells #[.int .i64 cpu, .int .i64 (-1)] 3 (0,0))) 1
  rw [World.heap_drewN] at hc0 hc1
  generalize hwA : (w.drewN k).alloc (.cells #[.int .i64 cpu, .int .i64 (-1)] 3 (0,0)) = wA at *
  go_loopg [20] 2 (fun gg i wr => ∃ j : Nat, i = .int .i64 j ∧ j + gg = 2 ∧ (1 ≤ j → t.q c = []) ∧ (2 ≤ j → t.q 0 = []) ∧ Drew wA wr)
  case atStart => exact ⟨0, rfl, by omega, by omega, by omega, Drew.refl _⟩
  case round =>
    obtain ⟨j, rfl, hj, hj1, hj2, hD⟩ := hrel
    have hM2 := hM.trans (hD.mod (S := [])) (by simp)
    have hA2 := hA.keep hM2
    by_cases hlt : j < 2
    · have hltI : (j : Int) < 2 := by omega
      have hx : ∃ (x : Int) (d : Nat), d < N ∧ x = (d : Int) - 1 ∧ wr.cell? ⟨w.heap.size, j, none⟩ = some (.int .i64 x) ∧ (t.q d ≠ [] → d = c ∧ t.q c ≠ [] ∨ t.q c = [] ∧ d = 0 ∧ t.q 0 ≠ []) ∧ (t.q d = [] → (1 ≤ j + 1 → t.q c = []) ∧ (2 ≤ j + 1 → t.q 0 = [])) := by
        by_cases e : j = 0
        · subst e
          exact ⟨cpu, c, hc, HC.out, (hD.mod (S := [])).at hc0 (by simp), fun h => .inl ⟨rfl, h⟩, fun h => ⟨fun _ => h, by omega⟩⟩
        · obtain rfl : j = 1 := by omega
          exact ⟨-1, 0, hN0, rfl, (hD.mod (S := [])).at hc1 (by simp), fun h => .inr ⟨hj1 (by omega), rfl, h⟩, fun h => ⟨fun _ => hj1 (by omega), fun _ => h⟩⟩
      obtain ⟨x, d, hd, hxd, cj, hk1, hk2⟩ := hx
      obtain ⟨gb2, e2, dp⟩ := hA2.wkPtr hd
      cases e2
      obtain ⟨f0, f1, f2, _, _⟩ := hA2.wkC
      simp only [rA] at f1
      have hli := work_list f1 dp hd hnn x hxd
      have hF := fun k => fifo_Front ((hA2.keep (u' := wr.drewN k) ((Mod.refl _ _).drewN k)).wkHas hd).choose_spec
      clear hxd hc0 hc1 hj1 hj2 hA
      by_cases hq : t.q d = []
      · rw [hq] at hF
        simp only [show frontV [] = 0 from rfl, show frontE [] = 12 from rfl] at hF
        obtain ⟨k2a, k2b⟩ := hk2 hq
        have K2 := Lib.hid (And.intro k2a k2b)
        clear hk1 hk2 hq hA2 k2a k2b
        go_wp2_with (first
          | (go_at_call 133; refine hli.mono ?_; rintro e w' ⟨rfl, k5, rfl⟩)
          | (go_at_call 258; refine (hF _).mono ?_; rintro e w' ⟨rfl, k6, rfl⟩))
        go_roundg (gk - 1)
        case measure => omega
        case rel => exact ⟨j + 1, by go_num, by omega, K2.out.1, K2.out.2, by repeat (first | exact hD | apply Drew.drewN | apply Drew.drew)⟩
      · obtain ⟨e1, e2, e3⟩ := HK.out d (hk1 hq)
        subst e1 e2 e3
        have hperm := cons_perm hq
        have hmem : nth (t.q d) 0 ∈ t.q d := hperm.mem_iff.2 List.mem_cons_self
        rw [show frontV (t.q d) = nth (t.q d) 0 from rfl, show frontE (t.q d) = 0 from if_neg hq] at hF
        have hDr := fun (u' : World) (m : Mod [] wr u') => ((hW.keep (hM2.trans m (by simp))).call (P := Tryz.prog) (f := 259) 0 rfl (fun F1 h1 => work_Drop h1 (nth (t.q d) 0) (by rw [hN]; exact hd) hmem))
        generalize nth (t.q d) 0 = id at *
        clear hk1 hk2 hq hA2 HK HK0 hperm hW
        go_wp2_with (first
          | (go_at_call 133; refine hli.mono ?_; rintro e w' ⟨rfl, k5, rfl⟩)
          | (go_at_call 258; refine (hF _).mono ?_; rintro e w' ⟨rfl, k6, rfl⟩)
          | (go_at_call 259; refine (hDr _ (by first | exact ((Mod.refl _ _).drewN _) | exact ((Mod.refl _ _).drewN _).drewN _)).mono ?_; rintro e w' ⟨rfl, hE⟩))
        go_ret2
        exact ⟨rfl, hE.gain1⟩
    · obtain rfl : j = 2 := by omega
      obtain ⟨e1, e2, e3⟩ := HK0.out (hj1 (by omega)) (hj2 (by omega))
      subst e1 e2 e3
      have HG := Lib.hid (hW.keep hM2).gain1
      clear HK HK0 hW hA hA2 hj1 hj2
      go_wp2
      go_ret2
      exact ⟨rfl, HG.out⟩
end
end Go.Proofs.YtaakgpnmfkmdoaaGreatDoor

/- The walks over package work: Unbind, New. No condition but those named. -/
namespace Go.Proofs.YtaakgpnmfkmdoaaGreatDoor
set_option linter.unusedVariables false
set_option linter.unusedSimpArgs false
open Go.RowKit

section
variable {F : List Nat} {w u : World} {b tb wb cnt : Nat} {ids : List Nat} {f : Int → Option Int} {g : Option Nat} {cap : Nat} {D : Nat → Nat} {n : Nat} {q : Nat → List Int} {t : WkT}
set_option maxRecDepth 100000 in
set_option maxHeartbeats 1000000 in
theorem work_Unbind (h : (workR b t).holds F w) (cpu : Int) : Calls Tryz.prog 299 #[.pointer (some ⟨b, 0, none⟩), .int .i64 cpu] w (Turns (workR b (t.unbind cpu)) F (.tuple #[.int .i64 (t.unbindV cpu), .int .i64 (t.unbindE cpu)]) w) := by
  obtain ⟨hok, tb, wb, cnt, ids, g, cap, D, hI, hA⟩ := work_view h
  have hm := work_may hA.wkC.2.1 hok.2.1 cpu 0
  have hB := fun k => hA.keep (u' := w.drewN k) ((Mod.refl _ _).drewN k)
  have H := Lib.hid (fun k => (hB k).workOk hok rfl rfl hI rfl)
  by_cases hi : t.is cpu 0
  case neg =>
    have e : t.unbindE cpu = 3 := if_pos hi
    rw [show t.unbind cpu = t from if_neg (by rw [e]; decide), show t.unbindV cpu = 0 from if_neg (by rw [e]; decide), e]
    rw [if_neg (show ¬ (0 ≤ cpu ∧ cpu < t.n) from hi)] at hm
    clear hA h hi e hB
    go_enter Tryz.func299, Tryz.ntmps299
    go_wp2_with (go_at_call 131; refine hm.mono ?_; rintro e w' ⟨rfl, k, rfl⟩)
    go_ret2
    exact ⟨rfl, H.out _⟩
  rw [if_pos (show 0 ≤ cpu ∧ cpu < t.n from hi)] at hm
  have hE0 : t.unbindE cpu = if t.at cpu = [] then 12 else 0 := by unfold WkT.unbindE; rw [if_neg (fun x => x hi)]
  obtain ⟨h1, h2⟩ := hi
  obtain ⟨c, hcp⟩ := Int.eq_ofNat_of_zero_le (show 0 ≤ cpu + 1 by omega)
  have hc : c < t.n + 1 := by omega
  have hc0 : c ≠ 0 := by omega
  have h0n : 0 < t.n + 1 := by omega
  have hnn : t.n + 1 ≤ 65 := by have := hok.2.1; omega
  have hcl : cpu = (c : Int) - 1 := by omega
  obtain ⟨gb, rfl, kp⟩ := hA.wkPtr hc
  obtain ⟨k0, k1, kw, _, _⟩ := hA.wkC
  have hat : t.at cpu = t.q c := by unfold WkT.at; rw [hcp]; rfl
  rw [hat] at hE0
  simp only [rA] at hm k1
  have hl := fun k => work_list (cellN k1 k) (cellN kp k) hc hnn cpu hcl
  have hP := fun k => (hB k).wkDo (P := Tryz.prog) (fn := 255) hc (fun F1 hF => fifo_Pop hF)
  by_cases hq : t.q c = []
  · rw [if_pos hq] at hE0
    rw [show t.unbind cpu = t from if_neg (by rw [hE0]; decide), show t.unbindV cpu = 0 from if_neg (by rw [hE0]; decide), hE0]
    have e1 : gupd t.q c (t.q c).tail = t.q := by
      funext i
      by_cases e : i = c
      · subst e; rw [gupd_same, hq]; rfl
      · rw [gupd_ne _ _ e]
    rw [e1, show frontV (t.q c) = 0 by rw [hq]; rfl, show frontE (t.q c) = 12 from if_pos hq] at hP
    clear h hA hB e1 hE0 hq hat hcp hcl
    go_enter Tryz.func299, Tryz.ntmps299
    go_wp2_with (first
      | (go_at_call 131; refine hm.mono ?_; rintro e w' ⟨rfl, k, rfl⟩)
      | (go_at_call 133; refine (hl _).mono ?_; rintro e w' ⟨rfl, k2, rfl⟩)
      | (go_at_call 255; (try rw [World.drewN_drewN]); refine (hP _).mono ?_; rintro e w2 ⟨rfl, hC⟩; have HC := Lib.hid hC; clear hC hP))
    go_ret2
    exact ⟨rfl, HC.out.workOk hok rfl rfl hI rfl⟩
  · rw [if_neg hq] at hE0
    have eM : t.unbind cpu = ⟨t.n, gupd (gupd t.q c (t.q c).tail) 0 (t.q 0 ++ [nth (t.q c) 0])⟩ := by unfold WkT.unbind; rw [if_pos hE0, hat, hcp]; rfl
    have eV : t.unbindV cpu = nth (t.q c) 0 := by unfold WkT.unbindV; rw [if_pos hE0, hat]
    rw [eM, eV, hE0]
    rw [show frontV (t.q c) = nth (t.q c) 0 from rfl, show frontE (t.q c) = 0 from if_neg hq] at hP
    have hperm := cons_perm hq
    obtain ⟨hx, hw2⟩ := bx_out hok.2.2 hc hperm
    have hmem : nth (t.q c) 0 ∈ t.q c := hperm.mem_iff.2 List.mem_cons_self
    have hb := hok.2.2.bd c _ hc hmem
    have hwn : whrB (t.n + 1) (gupd t.q c (t.q c).tail) (nth (t.q c) 0) = none := by rw [hw2, if_pos rfl]
    obtain ⟨hx3, hw3, hlen⟩ := bx_push hx hwn hb.1 hb.2 h0n
    have hgd : gupd t.q c (t.q c).tail 0 = t.q 0 := gupd_ne _ _ (Ne.symm hc0)
    rw [hgd] at hx3 hw3 hlen
    have hpe : qPushE 32 (t.q 0) (nth (t.q c) 0) = 0 := by
      have := whrB_none.1 hwn 0 h0n
      rw [hgd] at this
      unfold qPushE; rw [if_neg this, if_neg (by omega)]
    have hps : qPush 32 (t.q 0) (nth (t.q c) 0) = t.q 0 ++ [nth (t.q c) 0] := if_pos hpe
    have hw4 : ∀ j, whrB (t.n + 1) (gupd (gupd t.q c (t.q c).tail) 0 (t.q 0 ++ [nth (t.q c) 0])) j = if j = nth (t.q c) 0 then some 0 else whrB (t.n + 1) t.q j := by
      intro j
      rw [hw3, hw2]
      by_cases e : j = nth (t.q c) 0
      · rw [if_pos e, if_pos e]
      · rw [if_neg e, if_neg e, if_neg e]
    have hI2 : IdsB ids (t.n + 1) (gupd (gupd t.q c (t.q c).tail) 0 (t.q 0 ++ [nth (t.q c) 0])) := idsB_same hI (fun j => by
      rw [hw4]
      by_cases e : j = nth (t.q c) 0
      · rw [if_pos e, e, whrB_isSome.2 ⟨c, hc, hmem⟩]; rfl
      · rw [if_neg e])
    have hO := wkI_oput hw4
    have HM := Lib.hid (And.intro hI2 (And.intro hx3 hO))
    generalize nth (t.q c) 0 = x at *
    clear h hA hE0 hq hperm hw2 hmem hb hI2 hx3 hx hwn hw3 hlen eM eV hcp hcl hat hw4 hO hB
    go_enter Tryz.func299, Tryz.ntmps299
    go_wp2_with (first
      | (go_at_call 131; refine hm.mono ?_; rintro e w' ⟨rfl, k, rfl⟩)
      | (go_at_call 133; refine (hl _).mono ?_; rintro e w' ⟨rfl, k2, rfl⟩; clear hl)
      | (
        go_at_call 255
        (try rw [World.drewN_drewN])
        refine (hP _).mono ?_
        rintro e w2 ⟨rfl, hC⟩
        obtain ⟨d0, d1, d2, _, _⟩ := hC.wkC
        obtain ⟨w3, cnt3, hput, hD⟩ := hC.wkPut x (-1)
        obtain ⟨f0, f1, f2, _, _⟩ := hD.wkC
        obtain ⟨gb2, e2, dp⟩ := hD.wkPtr h0n
        cases e2
        simp only [rA] at f1
        have hli := work_list f1 dp h0n hnn (-1) rfl
        have hG := fun k => (hD.keep (u' := w3.drewN k) ((Mod.refl _ _).drewN k)).wkDo (P := Tryz.prog) (fn := 134) (L := t.q 0 ++ [x]) (v := .int .i64 0) h0n (fun F1 hF => by rw [hgd] at hF; have := fifo_Push hF x; rwa [hpe, hps] at this)
        clear hC hP hD kp k1 k0 kw
        )
      | (go_at_call 133; refine hli.mono ?_; rintro e w' ⟨rfl, k3, rfl⟩)
      | (go_at_call 134; refine (hG _).mono ?_; rintro e w4 ⟨rfl, hE⟩))
    go_ret2
    exact ⟨rfl, hE.workOk (t := ⟨t.n, gupd (gupd t.q c (t.q c).tail) 0 (t.q 0 ++ [x])⟩) ⟨hok.1, hok.2.1, HM.out.2.1⟩ rfl rfl HM.out.1 HM.out.2.2⟩
end
def wk0 (n : Nat) : WkT := ⟨n, fun _ => []⟩
theorem wkI0 (N : Nat) : wkI N (fun _ => []) = fun _ => none := by
  funext id
  unfold wkI
  have : whrB N (fun _ => []) id = none := whrB_none.2 (fun c _ h => by cases h)
  rw [this]
set_option maxRecDepth 100000 in
set_option maxHeartbeats 1000000 in
theorem work_New (n : Nat) (h1 : 1 ≤ n) (h2 : n ≤ 64) (w : World) : Calls Tryz.prog 54 #[.int .i64 n] w (TurnsV (fun d : Nat => .tuple #[.pointer (some ⟨d, 0, none⟩), .int .i64 0]) (fun d => workR d (wk0 n)) [] w) := by
  have hS := (On.start w).make (slot_New 32 (by omega) (by omega) w)
  have hmk := fun w => run_makeMap (P := Tryz.prog) 82 w
  go_enter Tryz.func54, Tryz.ntmps54
  go_wp2_with (first
    | (
      go_at_call 91
      refine hS.mono ?_
      rintro e w1 ⟨tb, rfl, hA⟩
      have hB : On [] w (workL (w1.heap.size + 1) tb w1.heap.size 0 [] (fun _ => none) none 0 (fun _ => 0) 0 (fun _ => [])) ((w1.alloc (.map #[] 0)).alloc (.cells #[.pointer (some ⟨tb, 0, none⟩), .slice none 0 0, .map (some w1.heap.size)] 186 (0,0))) := by
        have x2 := (hA.fmNew.alloc (.cells #[.pointer (some ⟨tb, 0, none⟩), .slice none 0 0, .map (some w1.heap.size)] 186 (0,0))).front
        rw [sizeNew] at x2
        have x3 := x2.more (P := rowR 187 1 none 0 0 []) ⟨rfl, RAt.nil _ _ _⟩
        exact x3
      have HB := Lib.hid hB
      clear hB hA hS
      )
    )
  generalize hd : w1.heap.size + 1 = d at *
  generalize hmb : w1.heap.size = mb at *
  go_loopg [28] (n + 1) (fun gg i wr => ∃ (j : Nat) (g : Option Nat) (cap : Nat) (D : Nat → Nat), i = .int .i64 j ∧ j + gg = n + 1 ∧ On [] w (workL d tb mb 0 [] (fun _ => none) g cap D j (fun _ => [])) wr)
  case atStart => exact ⟨0, none, 0, fun _ => 0, rfl, by omega, HB.out⟩
  case round =>
    clear HB
    obtain ⟨j, g, cap, D, rfl, hj, hB⟩ := hrel
    by_cases hlt : j < n + 1
    · have hltI : (j : Int) < n + 1 := by omega
      have hN := hB.make (fifo_New 32 (by omega) (by omega) wr)
      go_wp2_with (first
        | (
          go_at_call 94
          refine hN.mono ?_
          rintro e w2 ⟨x, rfl, hC⟩
          have c1 := hC.cell 0 rfl 1
          have hC2 := hC.keep (u' := w2.alloc (.cells #[.pointer (some ⟨x, 0, none⟩)] 187 (0,0))) ((Mod.refl _ _).alloc _)
          unfold workL at hC2
          rw [List.append_nil] at hC2
          obtain ⟨g', cap', w3, hrun, hD⟩ := hC2.famMore (P := Tryz.prog) (tt := 184) (bytes := 8) Tryz.underlying184 infoFQ (by omega) (by omega) (b := w2.heap.size) (d := x) (heapNew _ _)
          have c3 := hD.cell 0 rfl 1
          have f3 := hD.free 0 rfl 1
          have z3 := hD.size 0 rfl
          have HD := Lib.hid hD
          clear hC hC2 hN hB hD
          )
        | (
          at_builtin
          refine wpList_append_run rfl _ _ _ rfl rfl rfl (hrun _) ?_
          )
        )
      have hE := HD.out.set 0 rfl 1 (.slice (some ⟨g', 0, none⟩) (j + 1) cap')
      go_roundg (gk - 1)
      case measure => omega
      case rel =>
        refine ⟨j + 1, some g', cap', gupd D j x, by go_num, by omega, ?_⟩
        have e : gupd (fun c => fifoR (D c) 32 []) j (fifoR x 32 []) = fun i => fifoR (gupd D j x i) 32 [] := by
          funext i
          by_cases e : i = j
          · subst e; rw [gupd_same, gupd_same]
          · rw [gupd_ne _ _ e, gupd_ne _ _ e]
        rw [e] at hE
        unfold workL
        rw [List.append_nil]
        exact hE
    · have hltI : ¬ (j : Int) < n + 1 := by omega
      obtain rfl : j = n + 1 := by omega
      have HB := Lib.hid hB
      clear hB
      go_wp2
      go_ret2
      refine ⟨d, rfl, ?_⟩
      exact HB.out.workOk (t := wk0 n) ⟨h1, h2, qOk0 _⟩ rfl rfl (idsB0 _) (wkI0 _).symm
end Go.Proofs.YtaakgpnmfkmdoaaGreatDoor

/- A kernel in memory: its parts apart; need, New. No condition but those named. -/
namespace Go.Proofs.YtaakgpnmfkmdoaaGreatDoor
set_option linter.unusedVariables false
set_option linter.unusedSimpArgs false
open Go.RowKit

structure KP where
  ow : Nat
  th : Nat
  rq : Nat
  tm : Nat
  iq : Nat
  rt : Nat
  wk : Nat
  cb : Nat
  ob : Nat
  ct : Nat
  gt : Nat
  co : Nat
  mt : Nat
  sp : Nat
  dk : Nat
  cnt : Nat
  g : Option Nat
  cap : Nat
  D : Nat → Nat
def ptr (b : Nat) : Value := .pointer (some ⟨b, 0, none⟩)
def kcells (p : KP) (k : KT) : Array Value := #[ptr p.th, ptr p.rq, ptr p.tm, ptr p.iq, ptr p.rt, ptr p.wk, ptr p.cb, ptr p.ob, ptr p.ct, ptr p.gt, ptr p.sp, ptr p.dk, ptr p.co, ptr p.mt, .slice (rA p.g) k.n p.cap, .int .i64 k.n, .int .u64 (k.online : Nat), .int .u64 (k.active : Nat), .int .i64 k.now, .int .i64 k.limit, .map (some p.ow)]
def kernL (b : Nat) (p : KP) (k : KT) : List Res :=
  [Res.blk b (.cells (kcells p k) 87 (0,0)), fmapR p.ow p.cnt (numF k.own), threadR p.th k.th, runqR p.rq k.rq, timersA p.tm k.tm, irqR p.iq k.iq, routeR p.rt k.rt, workR p.wk k.wk, callR p.cb k.cb, stashR p.ob k.ob, splitR p.ct k.ct, gateR p.gt k.gt, coresR p.co k.co, mtR p.mt k.mt, stopR p.sp k.sp, deskR p.dk k.dk]
    ++ famL 55 p.g p.cap k.n p.D (fun c => govR (p.D c) (k.gv c)) ++ []
structure KT.ok (k : KT) : Prop where
  n1 : 1 ≤ k.n
  n2 : k.n ≤ 64
  th : k.th.n = k.n
  rq : k.rq.n = k.n
  tm : k.tm.n = k.n
  wk : k.wk.n = k.n
  cb : k.cb.n = k.n
  ob : k.ob.n = k.n
  ct : k.ct.length = k.n
  gt : k.gt.l.length = k.n
  co : k.co.n = k.n
  mt : k.mt.n = k.n
  rt : k.rt.n = k.n
  iq : k.iq.cpus = uptoM k.n
  on : k.online < 2 ^ 64
  ac : k.active < 2 ^ 64
  now : 0 ≤ k.now ∧ k.now ≤ 1152921504606846976
  lim : 0 ≤ k.limit ∧ k.limit ≤ 1073741824
def kernelR (b : Nat) (k : KT) : Res := Res.such k.ok (Res.ex fun p : KP => Res.star (kernL b p k))
section
variable {F : List Nat} {w u : World} {b : Nat} {p : KP} {k : KT}
theorem kernel_view (h : (kernelR b k).holds F w) : k.ok ∧ ∃ p, On F w (kernL b p k) w := by
  obtain ⟨h1, p, h2⟩ := h
  exact ⟨h1, p, On.of h2⟩
theorem On.kernel (h : On F w (kernL b p k) u) (hok : k.ok) : Gain (kernelR b k) F w u := h.gains.imp fun F' h' => ⟨hok, p, h'⟩
theorem On.kC (h : On F w (kernL b p k) u) (o : Nat) : u.cell? ⟨b, o, none⟩ = (kcells p k)[o]? := h.cell 0 rfl o
theorem On.kF (h : On F w (kernL b p k) u) (o : Nat) : u.frozen? ⟨b, o, none⟩ = false := h.free 0 rfl o
end
theorem need_th (v : Value) (e : Value) (w : World) : Calls Tryz.prog 43 #[v, e] w (fun e w' => e = .returned v ∧ w' = w) := by
  go_enter Tryz.func43, Tryz.ntmps43
  go_wp2
  go_ret
  exact ⟨rfl, rfl⟩
theorem need_rq (v : Value) (e : Value) (w : World) : Calls Tryz.prog 45 #[v, e] w (fun e w' => e = .returned v ∧ w' = w) := by
  go_enter Tryz.func45, Tryz.ntmps45
  go_wp2
  go_ret
  exact ⟨rfl, rfl⟩
theorem need_tm (v : Value) (e : Value) (w : World) : Calls Tryz.prog 47 #[v, e] w (fun e w' => e = .returned v ∧ w' = w) := by
  go_enter Tryz.func47, Tryz.ntmps47
  go_wp2
  go_ret
  exact ⟨rfl, rfl⟩
theorem need_iq (v : Value) (e : Value) (w : World) : Calls Tryz.prog 49 #[v, e] w (fun e w' => e = .returned v ∧ w' = w) := by
  go_enter Tryz.func49, Tryz.ntmps49
  go_wp2
  go_ret
  exact ⟨rfl, rfl⟩
theorem need_rt (v : Value) (e : Value) (w : World) : Calls Tryz.prog 51 #[v, e] w (fun e w' => e = .returned v ∧ w' = w) := by
  go_enter Tryz.func51, Tryz.ntmps51
  go_wp2
  go_ret
  exact ⟨rfl, rfl⟩
theorem need_wk (v : Value) (e : Value) (w : World) : Calls Tryz.prog 53 #[v, e] w (fun e w' => e = .returned v ∧ w' = w) := by
  go_enter Tryz.func53, Tryz.ntmps53
  go_wp2
  go_ret
  exact ⟨rfl, rfl⟩
theorem need_cb (v : Value) (e : Value) (w : World) : Calls Tryz.prog 55 #[v, e] w (fun e w' => e = .returned v ∧ w' = w) := by
  go_enter Tryz.func55, Tryz.ntmps55
  go_wp2
  go_ret
  exact ⟨rfl, rfl⟩
theorem need_ob (v : Value) (e : Value) (w : World) : Calls Tryz.prog 57 #[v, e] w (fun e w' => e = .returned v ∧ w' = w) := by
  go_enter Tryz.func57, Tryz.ntmps57
  go_wp2
  go_ret
  exact ⟨rfl, rfl⟩
theorem need_ct (v : Value) (e : Value) (w : World) : Calls Tryz.prog 59 #[v, e] w (fun e w' => e = .returned v ∧ w' = w) := by
  go_enter Tryz.func59, Tryz.ntmps59
  go_wp2
  go_ret
  exact ⟨rfl, rfl⟩
theorem need_gt (v : Value) (e : Value) (w : World) : Calls Tryz.prog 61 #[v, e] w (fun e w' => e = .returned v ∧ w' = w) := by
  go_enter Tryz.func61, Tryz.ntmps61
  go_wp2
  go_ret
  exact ⟨rfl, rfl⟩
theorem need_co (v : Value) (e : Value) (w : World) : Calls Tryz.prog 63 #[v, e] w (fun e w' => e = .returned v ∧ w' = w) := by
  go_enter Tryz.func63, Tryz.ntmps63
  go_wp2
  go_ret
  exact ⟨rfl, rfl⟩
theorem need_mt (v : Value) (e : Value) (w : World) : Calls Tryz.prog 65 #[v, e] w (fun e w' => e = .returned v ∧ w' = w) := by
  go_enter Tryz.func65, Tryz.ntmps65
  go_wp2
  go_ret
  exact ⟨rfl, rfl⟩
theorem need_gv (v : Value) (e : Value) (w : World) : Calls Tryz.prog 67 #[v, e] w (fun e w' => e = .returned v ∧ w' = w) := by
  go_enter Tryz.func67, Tryz.ntmps67
  go_wp2
  go_ret
  exact ⟨rfl, rfl⟩
/-- 21 cells, in the making. -/
def kw (f : Nat → Value) : Array Value := #[f 0, f 1, f 2, f 3, f 4, f 5, f 6, f 7, f 8, f 9, f 10, f 11, f 12, f 13, f 14, f 15, f 16, f 17, f 18, f 19, f 20]
theorem kw_set (f : Nat → Value) (i : Nat) (hi : i < 21) (v : Value) : (kw f).setIfInBounds i v = kw (gupd f i v) := by
  have : i = 0 ∨ i = 1 ∨ i = 2 ∨ i = 3 ∨ i = 4 ∨ i = 5 ∨ i = 6 ∨ i = 7 ∨ i = 8 ∨ i = 9 ∨ i = 10 ∨ i = 11 ∨ i = 12 ∨ i = 13 ∨ i = 14 ∨ i = 15 ∨ i = 16 ∨ i = 17 ∨ i = 18 ∨ i = 19 ∨ i = 20 := by omega
  rcases this with rfl | rfl | rfl | rfl | rfl | rfl | rfl | rfl | rfl | rfl | rfl | rfl | rfl | rfl | rfl | rfl | rfl | rfl | rfl | rfl | rfl <;> rfl
theorem kw_get (f : Nat → Value) (i : Nat) (hi : i < 21) : (kw f)[i]? = some (f i) := by
  have : i = 0 ∨ i = 1 ∨ i = 2 ∨ i = 3 ∨ i = 4 ∨ i = 5 ∨ i = 6 ∨ i = 7 ∨ i = 8 ∨ i = 9 ∨ i = 10 ∨ i = 11 ∨ i = 12 ∨ i = 13 ∨ i = 14 ∨ i = 15 ∨ i = 16 ∨ i = 17 ∨ i = 18 ∨ i = 19 ∨ i = 20 := by omega
  rcases this with rfl | rfl | rfl | rfl | rfl | rfl | rfl | rfl | rfl | rfl | rfl | rfl | rfl | rfl | rfl | rfl | rfl | rfl | rfl | rfl | rfl <;> rfl
section
variable {F : List Nat} {w u : World} {b : Nat} {f : Nat → Value} {l : List Res}
theorem On.wSet (h : On F w (Res.blk b (.cells (kw f) 87 (0,0)) :: l) u) (i : Nat) (hi : i < 21) (v : Value) : On F w (Res.blk b (.cells (kw (gupd f i v)) 87 (0,0)) :: l) (u.setCell ⟨b, i, none⟩ v) := by
  have := h.set 0 rfl i v
  rwa [kw_set f i hi] at this
theorem On.wCell (h : On F w (Res.blk b (.cells (kw f) 87 (0,0)) :: l) u) (i : Nat) (hi : i < 21) : u.cell? ⟨b, i, none⟩ = some (f i) := by rw [h.cell 0 rfl i, kw_get f i hi]
theorem On.wFree (h : On F w (Res.blk b (.cells (kw f) 87 (0,0)) :: l) u) (i : Nat) : u.frozen? ⟨b, i, none⟩ = false := h.free 0 rfl i
end
def gov1 : GovS := gov0 100 1000
theorem infoPG : (Tryz.prog.info? 55).map (fun i => (i.zero, i.size, i.bytes)) = some (some (.pointer none), 1, 8) := by kernel_rfl
def k0 (n : Nat) : KT := ⟨n, tht0 n, rq0 n, ta0 n, it0 n, rt0 n, wk0 n, cb0 n, st0 n, List.replicate n 0, ⟨List.replicate n 0, 0⟩, ⟨0, 0⟩, sh0, ct0 n, mt0 n, fun _ => gov1, uptoM n, uptoM n, 0, 1073741824, fun _ => none⟩
theorem k0_ok {n : Nat} (h1 : 1 ≤ n) (h2 : n ≤ 64) : (k0 n).ok := by
  refine ⟨h1, h2, rfl, rfl, rfl, rfl, rfl, rfl, ?_, ?_, rfl, rfl, rfl, ?_, uptoM_lt _, uptoM_lt _, ?_, ?_⟩
  · simp [k0]
  · simp [k0]
  · rfl
  · simp [k0]
  · simp [k0]
end Go.Proofs.YtaakgpnmfkmdoaaGreatDoor

/- The walks over a kernel's answer, plain, done, put, spawn. No condition but those named. -/
namespace Go.Proofs.YtaakgpnmfkmdoaaGreatDoor
set_option linter.unusedVariables false
set_option linter.unusedSimpArgs false
open Go.RowKit

def recV (r : RecS) : List Value := [.int .i64 r.kind, .int .i64 r.cpu, .int .i64 r.id, .int .i64 r.n, .int .i64 r.why]
/-- A new slice of records. -/
def NewRecs (l : List RecS) (w : World) (e : Ending) (w' : World) : Prop := ∃ a c, e = .returned (.slice a l.length c) ∧ Mod [] w w' ∧ (l = [] ∧ a = none ∧ c = 0 ∨ c = l.length ∧ ∃ g, a = some ⟨g, 0, none⟩ ∧ w.heap.size ≤ g ∧ w'.heap[g]? = some (.cells (blkV [] l.length (fun i => recV (l.getD i ⟨0, 0, 0, 0, 0⟩)) []) 37 (0,0)))
theorem kernel_answer (id why : Int) (w : World) : Calls Tryz.prog 73 #[.int .i64 id, .int .i64 why] w (NewRecs (ansL id why) w) := by
  unfold ansL
  by_cases h : why = 0
  · subst h
    rw [if_pos rfl]
    go_enter Tryz.func73, Tryz.ntmps73
    go_wp2
    go_ret
    exact ⟨_, 1, rfl, (Mod.refl _ _).alloc _, .inr ⟨rfl, _, rfl, Nat.le_refl _, heapNew _ _⟩⟩
  · rw [if_neg h]
    have hI : (why == 0) = false := by simpa using h
    have hI2 : (why != 0) = true := by simpa using h
    go_enter Tryz.func73, Tryz.ntmps73
    go_wp2
    go_ret
    exact ⟨_, 1, rfl, (Mod.refl _ _).alloc _, .inr ⟨rfl, _, rfl, Nat.le_refl _, heapNew _ _⟩⟩
theorem kernel_plain (why : Int) (w : World) : Calls Tryz.prog 70 #[.int .i64 why] w (NewRecs (ansL 0 why) w) := by
  have hA := fun w => kernel_answer 0 why w
  go_enter Tryz.func70, Tryz.ntmps70
  go_wp2_with (go_at_call 73; refine (hA _).mono ?_; rintro e w' ⟨a, c, rfl, h⟩)
  go_ret
  exact ⟨a, c, rfl, h⟩
end Go.Proofs.YtaakgpnmfkmdoaaGreatDoor

/- The walks over a kernel's done, put, spawn. No condition but those named. -/
namespace Go.Proofs.YtaakgpnmfkmdoaaGreatDoor
set_option linter.unusedVariables false
set_option linter.unusedSimpArgs false
open Go.RowKit

section
variable {F : List Nat} {w u : World} {b : Nat} {p : KP} {k : KT} {l : List Res}
/-- A call that only reads what lies at k. -/
theorem On.tells {P : Program} {f : FuncId} {args : Array Value} {v : Value} {F0 : List Nat} {w0 u : World} {l : List Res} {R : Res} (h : On F0 w0 l u) (k : Nat) (hk : l[k]? = some R) (hc : ∀ F, R.holds F u → Calls P f args u (fun e u' => e = .returned v ∧ Mod [] u u')) :
    Calls P f args u (fun e u' => e = .returned v ∧ On F0 w0 l u' ∧ Mod [] u u') := by
  obtain ⟨F, h1⟩ := h.get k hk
  refine (hc F h1).mono ?_
  rintro e u' ⟨rfl, m⟩
  exact ⟨rfl, h.keep m, m⟩
theorem On.tab (h : On F w l u) (hT : Tab w) (hF : tzL_ren.g 1 ∉ F) : Tab u := hT.keep h.mod hF
theorem On.callU {P : Program} {f : FuncId} {args : Array Value} {v : Value} {R R' : Res} (h : On F w l u) (hT : Tab w) (hF : tzL_ren.g 1 ∉ F) (j : Nat) (hj : l[j]? = some R) (hc : ∀ F1, R.holds F1 u → Tab u → tzL_ren.g 1 ∉ F1 → Calls P f args u (Turns R' F1 v u)) :
    Calls P f args u (fun e u' => e = .returned v ∧ On F w (l.set j R') u') := by
  obtain ⟨F1, h1, h2, h3⟩ := h.gain (P' := R') j hj
  have ht := hT.lt
  refine (hc F1 h1 (hT.keep h.mod hF) (fun hb => ?_)).mono ?_
  · rcases h2 _ hb with h | h
    · exact hF h
    · omega
  · rintro e u' ⟨rfl, g⟩
    exact ⟨rfl, h3 g⟩
theorem Gain.on {P : Res} (h : Gain P F w u) : On F w [P] u := by
  obtain ⟨F', h1, h2, h3⟩ := h
  exact ⟨F', ⟨F', [], by simp, h1, rfl, by simp⟩, h2, h3⟩
theorem thget_ok {t : ThT} (h : t.ok) (id : Int) : (t.get id).mask < 2 ^ 64 := by
  unfold ThT.get
  cases hx : t.t id with
  | none => decide
  | some x => exact h.msk _ _ hx
theorem kernel_th (h : On F w (kernL b p k) u) : k.th.ok := by
  obtain ⟨F1, h1, _⟩ := h.get 2 rfl
  exact h1
theorem KT.ok.putT (h : k.ok) (id near : Int) : (k.putT id near).ok := by
  refine ⟨h.n1, h.n2, ?_, ?_, h.tm, h.wk, h.cb, h.ob, h.ct, h.gt, h.co, h.mt, h.rt, h.iq, h.on, h.ac, h.now, h.lim⟩
  · show (k.th.place _ _ _).n = k.n
    unfold ThT.place; split <;> exact h.th
  · show (k.rq.put _ _ _).n = k.n
    unfold RQ.put; split <;> exact h.rq
set_option maxRecDepth 100000 in
set_option maxHeartbeats 1000000 in
theorem kernel_put (h : (kernelR b k).holds F w) (hT : Tab w) (hF : tzL_ren.g 1 ∉ F) (id near : Int) (hn : In64 near) : Calls Tryz.prog 109 #[.pointer (some ⟨b, 0, none⟩), .int .i64 id, .int .i64 near] w (Turns (kernelR b (k.putT id near)) F (.tuple #[]) w) := by
  obtain ⟨hok, p, hA⟩ := kernel_view h
  have hok2 := hok.putT id near
  have c0 : w.cell? ⟨b, 0, none⟩ = some (.pointer (some ⟨p.th, 0, none⟩)) := hA.kC 0
  have hG := hA.tells 2 rfl (fun F1 h1 => thread_Get h1 id)
  have hmk := thget_ok (kernel_th hA) id
  have hch := fun w hT => affin_Choose (k.th.get id).mask k.active hmk hok.ac near hn w hT
  have eT : k.putT id near = { k with th := k.th.place id (chooseV (k.th.get id).mask k.active near) (forcedM (k.th.get id).mask k.active), rq := k.rq.put (chooseV (k.th.get id).mask k.active near) (k.th.get id).prio id } := rfl
  rw [eT] at hok2 ⊢
  clear eT h hA
  generalize k.th.get id = x at *
  obtain ⟨pr, mk, cp, fo, sl, ti⟩ := x
  simp only [thV] at *
  generalize chooseV mk k.active near = cv at *
  generalize chooseE mk k.active near = ce at *
  generalize forcedM mk k.active = cf at *
  have HO := Lib.hid hok2
  clear hok2
  go_enter Tryz.func109, Tryz.ntmps109
  go_wp2_with (
    go_at_call 110
    refine hG.mono ?_
    rintro e w1 ⟨rfl, hB, m1⟩
    have HX := Lib.hid (hB.alloc (.cells #[.int .i64 pr, .int .u64 (mk : Nat), .int .i64 cp, .bool fo, .bool sl, .int .i64 ti] 226 (0,0))).front
    clear hB hG)
  generalize w1.alloc (.cells #[.int .i64 pr, .int .u64 (mk : Nat), .int .i64 cp, .bool fo, .bool sl, .int .i64 ti] 226 (0,0)) = W at *
  generalize w1.heap.size = xb at *
  have x1 : W.cell? ⟨xb, 1, none⟩ = some (.int .u64 (mk : Nat)) := HX.out.cell 0 rfl 1
  have c17 : W.cell? ⟨b, 17, none⟩ = some (.int .u64 (k.active : Nat)) := HX.out.cell 1 rfl 17
  have hC := fun j => hch (W.drewN j) ((HX.out.tab hT hF).drewN j)
  clear hch m1 c0
  go_region_held3 (fun u => u.cell? ⟨xb, 1, none⟩ = some (.int .u64 (mk : Nat)) ∧ u.cell? ⟨b, 17, none⟩ = some (.int .u64 (k.active : Nat))) (exact ⟨by assumption, by assumption⟩) (first
    | (go_at_call 197; refine (hC _).mono ?_; rintro e w3 ⟨rfl, k3, rfl⟩))
  clear hC
  generalize hj : 1 + k3 = j at *
  have hY := HX.out.keep (u' := W.drewN j) ((Mod.refl _ _).drewN _)
  have c0 : (W.drewN j).cell? ⟨b, 0, none⟩ = some (.pointer (some ⟨p.th, 0, none⟩)) := hY.cell 1 rfl 0
  have hP := hY.call (P := Tryz.prog) (f := 198) 3 rfl (fun F1 h1 => thread_Place h1 id cv cf)
  clear x1 c17 hY hj
  go_wp2_with (
    go_at_call 198
    refine hP.mono ?_
    rintro e w3 ⟨rfl, hZ⟩
    have hZ : On F w (Res.blk xb (.cells #[.int .i64 pr, .int .u64 (mk : Nat), .int .i64 cp, .bool fo, .bool sl, .int .i64 ti] 226 (0,0)) :: kernL b p { k with th := k.th.place id cv cf }) w3 := hZ
    have HZ := Lib.hid hZ
    clear hZ hP)
  have x0 : w3.cell? ⟨xb, 0, none⟩ = some (.int .i64 pr) := HZ.out.cell 0 rfl 0
  have d1 : w3.cell? ⟨b, 1, none⟩ = some (.pointer (some ⟨p.rq, 0, none⟩)) := HZ.out.cell 1 rfl 1
  have hQ := fun j => (HZ.out.keep (u' := w3.drewN j) ((Mod.refl _ _).drewN _)).call (P := Tryz.prog) (f := 199) 4 rfl (fun F1 h1 => runq_Put h1 cv pr id)
  go_region_held3 (fun u => u.cell? ⟨xb, 0, none⟩ = some (.int .i64 pr) ∧ u.cell? ⟨b, 1, none⟩ = some (.pointer (some ⟨p.rq, 0, none⟩))) (exact ⟨by assumption, by assumption⟩) (first
    | (
      go_at_call 199
      refine (hQ _).mono ?_
      rintro e w4 ⟨rfl, hK⟩
      have hK : On F w (Res.blk xb (.cells #[.int .i64 pr, .int .u64 (mk : Nat), .int .i64 cp, .bool fo, .bool sl, .int .i64 ti] 226 (0,0)) :: kernL b p { k with th := k.th.place id cv cf, rq := k.rq.put cv pr id }) w4 := hK
      have x0 : w4.cell? ⟨xb, 0, none⟩ = some (.int .i64 pr) := hK.cell 0 rfl 0
      have d1 : w4.cell? ⟨b, 1, none⟩ = some (.pointer (some ⟨p.rq, 0, none⟩)) := hK.cell 1 rfl 1
      have HQ := Lib.hid hK
      clear hK))
  go_wp2
  refine bodyPost_ret (results_none rfl _ _ _) rfl ?_
  exact ⟨rfl, (HQ.out.drop 0).kernel HO.out⟩
theorem KT.ok.spawned (h : k.ok) (q : Int) (m : Nat) : KT.ok { k with th := k.th.spawn q m } := by
  refine ⟨h.n1, h.n2, ?_, h.rq, h.tm, h.wk, h.cb, h.ob, h.ct, h.gt, h.co, h.mt, h.rt, h.iq, h.on, h.ac, h.now, h.lim⟩
  show (k.th.spawn _ _).n = k.n
  unfold ThT.spawn; split <;> exact h.th
set_option maxRecDepth 100000 in
set_option maxHeartbeats 1000000 in
theorem kernel_spawn (h : (kernelR b k).holds F w) (hT : Tab w) (hF : tzL_ren.g 1 ∉ F) (q : Int) (m : Nat) (hm : m < 2 ^ 64) : Calls Tryz.prog 74 #[.pointer (some ⟨b, 0, none⟩), .int .i64 q, .int .u64 (m : Nat)] w (Turns (kernelR b (k.spawn q m)) F (.tuple #[.int .i64 (k.th.spawnV q m), .int .i64 (k.th.spawnE q m)]) w) := by
  obtain ⟨hok, p, hA⟩ := kernel_view h
  have hok2 := hok.spawned q m
  have c0 : w.cell? ⟨b, 0, none⟩ = some (.pointer (some ⟨p.th, 0, none⟩)) := hA.kC 0
  have hS := hA.callU (P := Tryz.prog) (f := 108) hT hF 2 rfl (fun F1 h1 hT1 hF1 => thread_Spawn h1 hT1 hF1 q m hm)
  by_cases hE : k.th.spawnE q m = 0
  · have eK : k.spawn q m = ({ k with th := k.th.spawn q m } : KT).putT (k.th.spawnV q m) (k.th.spawnV q m % k.n) := if_pos hE
    rw [eK, hE]
    rw [hE] at hS
    have hV : k.th.spawnV q m = k.th.low := if_pos hE
    have hlo := lowOf_spec 32 (fun i => (k.th.t i).isSome)
    have hv : 1 ≤ k.th.spawnV q m ∧ k.th.spawnV q m ≤ 33 := by
      rw [hV]; unfold ThT.low; omega
    generalize k.th.spawnV q m = v at *
    have hn1 := hok.n1
    have hn2 := hok.n2
    have hnI : (0 : Int) < k.n := by omega
    have hnear : In64 (v % k.n) := by
      have h1 := Int.emod_nonneg v (show (k.n : Int) ≠ 0 by omega)
      have h2 := Int.emod_lt_of_pos v hnI
      unfold In64; omega
    have hmod : Int.tmod v k.n = v % k.n := Int.tmod_eq_emod_of_nonneg (by omega)
    have HK := Lib.hid hok2
    have HM := Lib.hid hmod
    have hk0 : ((k.n : Int) == 0) = false := by simp; omega
    clear hA h eK hE hV hlo hok2 hmod
    go_enter Tryz.func74, Tryz.ntmps74
    go_wp2_with (first
      | (
        go_at_call 108
        refine hS.mono ?_
        rintro e w1 ⟨rfl, hB⟩
        have hB : On F w (kernL b p { k with th := k.th.spawn q m }) w1 := hB
        have c15 : w1.cell? ⟨b, 15, none⟩ = some (.int .i64 k.n) := hB.kC 15
        have hP := (hB.kernel HK.out).on.callU (P := Tryz.prog) (f := 109) hT hF 0 rfl (fun F1 h1 hT1 hF1 => kernel_put h1 hT1 hF1 v (v % k.n) hnear)
        clear hB hS
        )
      | (
        go_at_call 109
        first | rw [HM.out] | skip
        refine hP.mono ?_
        rintro e w2 ⟨rfl, hC⟩
        have HC := Lib.hid hC
        clear hC hP
        ))
    go_ret2
    exact ⟨rfl, HC.out.gain1⟩
  · have eK : k.spawn q m = k := if_neg hE
    have hSp : k.th.spawn q m = k.th := if_neg hE
    rw [eK]
    rw [hSp] at hS
    have hEb : (k.th.spawnE q m == 0) = false := by simpa using hE
    generalize k.th.spawnE q m = ee at *
    generalize k.th.spawnV q m = v at *
    have HK := Lib.hid hok
    clear hA h eK hE hok2 hSp
    go_enter Tryz.func74, Tryz.ntmps74
    go_wp2_with (
        go_at_call 108
        refine hS.mono ?_
        rintro e w1 ⟨rfl, hB⟩
        have HB := Lib.hid (show On F w (kernL b p k) w1 from hB)
        clear hB hS)
    go_ret2
    exact ⟨rfl, HB.out.kernel HK.out⟩
end
end Go.Proofs.YtaakgpnmfkmdoaaGreatDoor

/- The walks over a kernel's waits, flags, done. No condition but those named. -/
namespace Go.Proofs.YtaakgpnmfkmdoaaGreatDoor
set_option linter.unusedVariables false
set_option linter.unusedSimpArgs false
open Go.RowKit

theorem find_none_take {l : List Int} {f : Int → Bool} (h : ∀ i, i < l.length → f (nth l i) = false) : l.find? f = none := by
  rw [List.find?_eq_none]
  intro x hx
  obtain ⟨i, hi, rfl⟩ := List.getElem_of_mem hx
  have := h i hi
  simp only [nth, List.getD, hi, List.getElem?_eq_getElem, Option.getD_some] at this
  simp [this]
theorem find_some_at {l : List Int} {f : Int → Bool} {j : Nat} (hj : j < l.length) (h : ∀ i, i < j → f (nth l i) = false) (hy : f (nth l j) = true) : l.find? f = some (nth l j) := by
  rw [List.find?_eq_some_iff_getElem]
  refine ⟨hy, j, hj, by simp [nth, List.getD, hj], fun i hi => ?_⟩
  have := h i hi
  simp only [nth, List.getD, Nat.lt_trans hi hj, List.getElem?_eq_getElem, Option.getD_some] at this
  simp [this]
/-- The place of the first one that is so; -1: there is none. -/
def IdxOf (f : Int → Bool) (l : List Int) (kk : Int) : Prop := kk = -1 ∧ l.find? f = none ∨ ∃ j : Nat, j < l.length ∧ kk = j ∧ l.find? f = some (nth l j)
set_option maxRecDepth 100000 in
theorem index_ready {F : List Nat} {w : World} {q : Nat} {t : IT} (h : (irqR q t).holds F w) (a : Option Addr) (cap : Nat) (l : List Int) (hI : IsInts w a l) (hlen : l.length < 1000) : Calls Tryz.prog 240 #[.slice a l.length cap, .func (.func 241) #[.pointer (some ⟨q, 0, none⟩)] #[]] w
    (fun e w' => ∃ kk, e = .returned (.int .i64 kk) ∧ Drew w w' ∧ IdxOf t.ready l kk) := by
  obtain ⟨n, hn⟩ : ∃ n, l.length = n := ⟨_, rfl⟩
  rw [hn] at hlen ⊢
  have hN := Lib.hid hn
  clear hn
  go_enter Tryz.func240, Tryz.ntmps240
  go_wp2
  go_loopg [8] n (fun gg i wr => ∃ (j : Nat), i = .int .i64 j ∧ j + gg = n ∧ Drew w wr ∧ ∀ i, i < j → t.ready (nth l i) = false)
  case atStart => exact ⟨0, rfl, by omega, Drew.refl _, fun i hi => by omega⟩
  case round =>
    obtain ⟨j, rfl, hj, hD, hlo⟩ := hrel
    by_cases hlt : j < n
    · have hltI : (j : Int) < n := by omega
      have hIr := hI.same hD.heap
      obtain ⟨b, rfl, _, hc⟩ := hIr.resolve_left (fun e => by rw [e] at hN; have := hN.out; simp at this; omega)
      have cj := hc j (by rw [hN.out]; exact hlt)
      have hR := irq_Ready ((irqR q t).keep h (hD.mod (S := [])) (by simp)) (nth l j)
      have hlo' := Lib.hid hlo
      clear hc hIr hI hlo
      cases hr : t.ready (nth l j)
      · rw [hr] at hR
        have hr' := Lib.hid hr
        clear hr
        generalize hx : nth l j = x at *
        have hx' := Lib.hid hx
        clear hx h
        go_wp2_with (go_at_call 241; refine hR.mono ?_; rintro e w' ⟨rfl, k, rfl⟩)
        go_roundg (gk - 1)
        case measure => omega
        case rel =>
          refine ⟨j + 1, by go_num, by omega, hD.drewN _, fun i hi => ?_⟩
          by_cases e : i = j
          · subst e; rw [hx'.out]; exact hr'.out
          · exact hlo'.out i (by omega)
      · rw [hr] at hR
        have hf := Lib.hid (show IdxOf t.ready l (j : Int) from .inr ⟨j, by rw [hN.out]; exact hlt, rfl, find_some_at (by rw [hN.out]; exact hlt) hlo'.out hr⟩)
        clear hr
        generalize nth l j = x at *
        clear h
        go_wp2_with (go_at_call 241; refine hR.mono ?_; rintro e w' ⟨rfl, k, rfl⟩)
        go_ret
        exact ⟨j, rfl, hD.drewN _, hf.out⟩
    · have hltI : ¬ (j : Int) < n := by omega
      have hf := Lib.hid (show IdxOf t.ready l (-1) from .inl ⟨rfl, find_none_take (l := l) (f := t.ready) (fun i hi => hlo i (by have := hN.out; omega))⟩)
      clear hlo hI h
      go_wp2
      go_ret
      exact ⟨-1, rfl, hD, hf.out⟩
section
variable {F : List Nat} {w u : World} {b : Nat} {p : KP} {k : KT}
set_option maxRecDepth 100000 in
theorem kernel_waits (hA : On F w (kernL b p k) u) (cpu : Int) : Calls Tryz.prog 164 #[.pointer (some ⟨b, 0, none⟩), .int .i64 cpu] u (fun e u' => e = .returned (.tuple #[.int .i64 ((k.waits cpu).getD 0), .bool (k.waits cpu).isSome]) ∧ Mod [] u u') := by
  have c4 : u.cell? ⟨b, 4, none⟩ = some (.pointer (some ⟨p.rt, 0, none⟩)) := hA.kC 4
  have c3 : u.cell? ⟨b, 3, none⟩ = some (.pointer (some ⟨p.iq, 0, none⟩)) := hA.kC 3
  obtain ⟨F4, h4⟩ := hA.get 6 rfl
  obtain ⟨F3, h3⟩ := hA.get 5 rfl
  have hOn := route_On h4 cpu
  have hlen := onL_len k.rt cpu 16
  have hw : k.waits cpu = (k.rt.onL cpu 16).find? k.iq.ready := rfl
  rw [hw]
  generalize k.rt.onL cpu 16 = l at *
  have hIx := fun u' (m : Mod [] u u') a cap (hI : IsInts u' a l) => index_ready ((irqR p.iq k.iq).keep h3 m (by simp)) a cap l hI (by omega)
  obtain ⟨n, hn⟩ : ∃ n, l.length = n := ⟨_, rfl⟩
  have hN := Lib.hid hn
  rw [hn] at hIx
  clear hA h4 h3 hw hn hlen
  have key : ∀ kk, IdxOf k.iq.ready l kk → (kk = -1 ∧ l.find? k.iq.ready = none) ∨ ∃ j : Nat, j < n ∧ kk = j ∧ l.find? k.iq.ready = some (nth l j) := fun kk h => by rw [← hN.out]; exact h
  cases hfi : l.find? k.iq.ready with
  | none =>
    rw [hfi] at key
    clear hfi
    go_enter Tryz.func164, Tryz.ntmps164
    go_wp2_with (first
      | (
        go_at_call 90
        refine hOn.mono ?_
        intro e w2 hm2
        obtain ⟨a2, c2, e2, m2, i2, n2⟩ := hm2.newL
        rw [hN.out] at e2
        subst e2
        have d3 := m2.at c3 (by simp)
        have hIx2 := hIx w2 m2 a2 c2 i2
        clear hIx hOn hm2)
      | (
        go_at_call 240
        refine hIx2.mono ?_
        rintro e w3 ⟨kk, rfl, hD, hk⟩
        have hk := key kk hk
        clear key hIx2
        obtain rfl : kk = -1 := by
          rcases hk with ⟨h, _⟩ | ⟨j, _, _, h⟩
          · exact h
          · cases h
        clear hk i2
        ))
    go_ret2
    exact ⟨rfl, m2.trans (hD.mod (S := [])) (by simp)⟩
  | some v =>
    rw [hfi] at key
    clear hfi
    go_enter Tryz.func164, Tryz.ntmps164
    go_wp2_with (first
      | (
        go_at_call 90
        refine hOn.mono ?_
        intro e w2 hm2
        obtain ⟨a2, c2, e2, m2, i2, n2⟩ := hm2.newL
        rw [hN.out] at e2
        subst e2
        have d3 := m2.at c3 (by simp)
        have hIx2 := hIx w2 m2 a2 c2 i2
        clear hIx hOn hm2)
      | (
        go_at_call 240
        refine hIx2.mono ?_
        rintro e w3 ⟨kk, rfl, hD, hk⟩
        have hk := key kk hk
        clear key hIx2
        obtain ⟨j, hj, rfl, hv⟩ : ∃ j : Nat, j < n ∧ kk = j ∧ v = nth l j := by
          rcases hk with ⟨_, h⟩ | ⟨j, h1, h2, h⟩
          · cases h
          · exact ⟨j, h1, h2, Option.some.inj h⟩
        clear hk
        obtain ⟨gb, rfl, _, i3⟩ := i2.resolve_left (fun e => by rw [e] at hN; have := hN.out; simp at this; omega)
        have cj := (hD.mod (S := [])).at (i3 j (by rw [hN.out]; exact hj)) (by simp)
        rw [← hv] at cj
        have hjI : (j : Int) < n := by omega
        clear i3 i2 hv
        ))
    go_ret2
    exact ⟨rfl, m2.trans (hD.mod (S := [])) (by simp)⟩
end
end Go.Proofs.YtaakgpnmfkmdoaaGreatDoor
