/- Walks and plain laws of the kernel. No condition. -/
import Derived.Test.YtaakgpnmfkmdoaaGreatDoorKLM
namespace Go.Proofs.YtaakgpnmfkmdoaaGreatDoor
set_option linter.unusedVariables false
set_option linter.unusedSimpArgs false
set_option maxRecDepth 100000
set_option maxHeartbeats 20000000
open Go.RowKit
open Go.Proofs.Tryz renaming prog → tp
open List renaming setIfInBounds_toArray → sA, set_cons_zero → sB, set_cons_succ → sC
open Go renaming World → wW
open Go.Value renaming pointer → vp, bool → vb, int → vi
open Go.IntKind renaming i64 → iQ, u64 → uQ
open Option renaming none → nN, some → sS
open Bool renaming true → tQ, false → fF
open Int renaming eq_ofNat_of_zero_le → iN
theorem gM {m:Nat} (h0:m≠0) (hm:m<2 ^ 64):aw m (bc m)=tQ:=by
 obtain ⟨h1,h2,_⟩:=zj h0 hm
 unfold bc aw
 rw [nG h0]
 simp only [Bool.and_eq_true,decide_eq_true_eq]
 exact ⟨⟨by omega,by omega⟩,by simpa using h2⟩
theorem DI {a b:Nat} {c:Int} (h:aw (a &&& b) c=tQ):aw b c=tQ:=by
 unfold aw at h ⊢
 simp only [Bool.and_eq_true,decide_eq_true_eq,Nat.testBit_and] at h ⊢
 exact ⟨h.1,h.2.2⟩
theorem yo {want active:Nat} {c:Int} (h:aw (dL want active) c=tQ):aw active c=tQ:=by
 unfold dL at h
 split at h
 ·exact h
 ·exact DI h
theorem BR {want active:Nat} (h:active≠0):dL want active≠0:=by
 unfold dL
 split
 ·exact h
 ·assumption
theorem vM {want active:Nat} (h:active<2 ^ 64):dL want active<2 ^ 64:=by
 unfold dL
 split
 ·exact h
 ·exact Nat.and_lt_two_pow _ h
theorem Ea {m:Nat} {c d:Int} (h:aw (oF m c) d=tQ):aw m d=tQ:=by
 unfold oF at h
 first
  | (
   unfold aw at h ⊢
   simp only [Bool.and_eq_true,decide_eq_true_eq,kO,Nat.testBit_and] at h ⊢
   exact ⟨h.1,by first|exact h.2.1|exact h.2.2|simp_all⟩)
  | skip
theorem sP {want active:Nat} (h0:active≠0) (ha:active<2 ^ 64) (near:Int):aw active (cK want active near)=tQ:=by
 unfold cK
 rw [nG h0]
 by_cases hn:aw (dL want active) near=tQ
 ·rw [pG hn];exact yo hn
 ·rw [nG hn]
  apply yo (want:=want)
  unfold mD
  split
  ·exact gM (BR h0) (vM ha)
  ·split
   ·rename_i hne
    exact Ea (gM hne (dC _ (vM ha)))
   ·exact gM (BR h0) (vM ha)
/-- What is not on a core does not come to it. -/
structure iz (c:Nat) (k k':KT):Prop where
 a:aw k'.active c=fF
 q:k.rq.q c=[] -> k'.rq.q c=[]
 t:k.tm.L c=[] -> k'.tm.L c=[]
 w:k.wk.q (c+1)=[] -> k'.wk.q (c+1)=[]
 b:k.cb.q c=[] -> k'.cb.q c=[]
 r:(∀ i,i<16 -> k.rt.c i≠(c:Int)+1) -> ∀ i,i<16 -> k'.rt.c i≠(c:Int)+1
 o:k.ob.kept c=[] -> k'.ob.kept c=[]
 p:(k.co.c c).power=fF -> (k'.co.c c).power=fF
theorem iz.trans {c:Nat} {k k' k'':KT} (h:iz c k k') (g:iz c k' k''):iz c k k'':=
 ⟨g.a,λx=>g.q (h.q x),λx=>g.t (h.t x),λx=>g.w (h.w x),λx=>g.b (h.b x),λx=>g.r (h.r x),λx=>g.o (h.o x),λx=>g.p (h.p x)⟩
theorem zw {m:Nat} {c:Nat} {d:Int} (h:aw m c=fF) (g:aw m d=tQ):d.toNat≠c /\ d≠(c:Int) /\ 0 <= d:=by
 have hd:=dQ g
 refine ⟨λe=>?_,λe=>?_,hd.1⟩
 ·have:d=(c:Int):=by omega
  rw [this,h] at g;cases g
 ·rw [e,h] at g;cases g
section
variable {c:Nat}
theorem RQ.take_off {r:RQ} (id:Int) (h:r.q c=[]):(r.take id).q c=[]:=by
 unfold RQ.take
 split
 ·show ar _ _ _ c=[]
  unfold ar
  split
  ·rename_i e;rw [<- e,h];rfl
  ·exact h
 ·exact h
theorem RQ.back_off {r:RQ} (id:Int) (h:r.q c=[]):(r.back id).q c=[]:=by
 unfold RQ.back
 split
 ·show ar _ _ _ c=[]
  unfold ar
  split
  ·rename_i e;rw [<- e,h];rfl
  ·exact h
 ·exact h
theorem RQ.pick_off {r:RQ} (cpu:Int) (h:r.q c=[]):(r.pick cpu).q c=[]:=by
 unfold RQ.pick
 split
 ·show ar _ _ _ c=[]
  unfold ar
  split
  ·rename_i e;show eH (r.q cpu.toNat)=[];rw [<- e,h];rfl
  ·exact h
 ·exact h
theorem RQ.put_off {r:RQ} {cpu p id:Int} (hc:cpu.toNat≠c) (h:r.q c=[]):(r.put cpu p id).q c=[]:=by
 unfold RQ.put
 split
 ·show ar _ _ _ c=[]
  rw [al _ _ (Ne.symm hc)]
  exact h
 ·exact h
theorem TA.cancel_off {t:TA} (id:Int) (h:t.L c=[]):(t.cancel id).L c=[]:=by
 unfold TA.cancel
 split
 ·show ir _ _ _ c=[]
  unfold ir
  split
  ·rename_i e;rw [<- e,h];rfl
  ·exact h
 ·exact h
theorem TA.fire_off {t:TA} (cpu:Int) (h:t.L c=[]):(t.fire cpu).L c=[]:=by
 unfold TA.fire
 split
 ·show ir _ _ _ c=[]
  unfold ir
  split
  ·rename_i e;rw [<- e,h];rfl
  ·exact h
 ·exact h
theorem TA.arm_off {t:TA} {cpu d:Int} (hc:cpu.toNat≠c) (h:t.L c=[]):(t.arm cpu d).L c=[]:=by
 unfold TA.arm
 split
 ·show ir _ _ _ c=[]
  rw [bg _ _ (Ne.symm hc)];exact h
 ·exact h
theorem TA.move_off {t:TA} (a:Int) {d:Int} (hc:d.toNat≠c) (h:t.L c=[]):(t.move a d).L c=[]:=by
 unfold TA.move
 split
 ·show ir _ _ _ c=[]
  rw [bg _ _ (Ne.symm hc)]
  show ir _ _ _ c=[]
  unfold ir
  split
  ·rename_i e;rw [<- e,h];rfl
  ·exact h
 ·exact h
theorem cu.queue_off {t:cu} {cpu:Int} (hc:(cpu+1).toNat≠c+1) (h:t.q (c+1)=[]):(t.queue cpu).q (c+1)=[]:=by
 unfold cu.queue
 split
 ·show ar _ _ _ (c+1)=[]
  rw [al _ _ (Ne.symm hc)];exact h
 ·exact h
theorem cu.take_off {t:cu} (cpu:Int) (h:t.q (c+1)=[]):(t.take cpu).q (c+1)=[]:=by
 unfold cu.take
 split
 ·show ar _ _ _ (c+1)=[]
  unfold ar
  split
  ·rename_i e;rw [<- e,h];rfl
  ·exact h
 ·exact h
theorem cu.unbind_off {t:cu} (cpu:Int) (h:t.q (c+1)=[]):(t.unbind cpu).q (c+1)=[]:=by
 unfold cu.unbind
 split
 ·show ar _ _ _ (c+1)=[]
  unfold ar
  split
  ·rename_i e;show List.tail (t.q (cpu+1).toNat)=[];rw [<- e,h];rfl
  ·exact h
 ·exact h
theorem dO.send_off {t:dO} {cpu:Int} (hc:cpu.toNat≠c) (h:t.q c=[]):(t.send cpu).q c=[]:=by
 unfold dO.send
 split
 ·show ar _ _ _ c=[]
  rw [al _ _ (Ne.symm hc)];exact h
 ·exact h
theorem dO.take_off {t:dO} (cpu:Int) (h:t.q c=[]):(t.take cpu).q c=[]:=by
 unfold dO.take
 split
 ·show ar _ _ _ c=[]
  unfold ar
  split
  ·rename_i e;show List.tail (t.q cpu.toNat)=[];rw [<- e,h];rfl
  ·exact h
 ·exact h
theorem dO.move_off {t:dO} (a:Int) {d:Int} (hc:d.toNat≠c) (h:t.q c=[]):(t.move a d).q c=[]:=by
 unfold dO.move
 split
 ·show ar _ _ _ c=[]
  rw [al _ _ (Ne.symm hc)]
  show ar _ _ _ c=[]
  unfold ar
  split
  ·rename_i e;show List.tail (t.q a.toNat)=[];rw [<- e,h];rfl
  ·exact h
 ·exact h
theorem RT.set_off {t:RT} (i:Int) {d:Int} (hc:d≠(c:Int)) (h:∀ j,j<16 -> t.c j≠(c:Int)+1):∀ j,j<16 -> (t.set i d).c j≠(c:Int)+1:=by
 intro j hj
 unfold RT.set
 split
 ·show ar _ _ _ j≠_
  unfold ar
  split
  ·omega
  ·exact h j hj
 ·exact h j hj
theorem RT.off_off {t:RT} (i:Int) (h:∀ j,j<16 -> t.c j≠(c:Int)+1):∀ j,j<16 -> (t.off i).c j≠(c:Int)+1:=by
 intro j hj
 unfold RT.off
 split
 ·show ar _ _ _ j≠_
  unfold ar
  split
  ·omega
  ·exact h j hj
 ·exact h j hj
theorem bL.one_off {t:bL} {d:Nat} (hc:d≠c) (h:t.kept c=[]):(t.one d).kept c=[]:=by
 unfold bL.one
 split
 ·show ar _ _ _ c=[]
  rw [al _ _ (Ne.symm hc)];exact h
 ·exact h
theorem bL.fill_off {t:bL} {d:Nat} (hc:d≠c) (h:t.kept c=[]):(t.fill d).kept c=[]:=by
 unfold bL.fill
 split
 ·exact bL.one_off hc (bL.one_off hc h)
 ·exact h
theorem bL.alloc_off {t:bL} {d:Int} (hc:d.toNat≠c) (h:t.kept c=[]):(t.alloc d).kept c=[]:=by
 unfold bL.alloc
 split
 ·show ar _ _ _ c=[]
  rw [al _ _ (Ne.symm hc)]
  exact bL.fill_off hc h
 ·exact h
theorem bL.back_off {t:bL} (d m:Nat) (h:t.kept c=[]):(t.back d m).kept c=[]:=by
 unfold bL.back
 show ar _ _ _ c=[]
 unfold ar
 split
 ·rename_i e;rw [<- e,h];simp
 ·exact h
theorem bL.room_off {t:bL} (d:Nat) (h:t.kept c=[]):(t.room d).kept c=[]:=by
 unfold bL.room
 split
 ·exact bL.back_off _ _ h
 ·exact h
theorem bL.give_off {t:bL} {d:Int} (id:Int) (hc:d.toNat≠c) (h:t.kept c=[]):(t.give d id).kept c=[]:=by
 unfold bL.give
 split
 ·show ar _ _ _ c=[]
  rw [al _ _ (Ne.symm hc)]
  exact bL.room_off _ h
 ·exact h
theorem bL.drain_off {t:bL} (d:Int) (h:t.kept c=[]):(t.drain d).kept c=[]:=by
 unfold bL.drain
 split
 ·exact bL.back_off _ _ h
 ·exact h
/-- One core's part is put to one of the same power. -/
theorem CT.put_off {t:CT} {i:Nat} {x:cW} (hx:x.power=(t.c i).power) (h:(t.c c).power=fF):((t.put i x).c c).power=fF:=by
 show cW.power (ar _ _ _ c)=fF
 unfold ar
 split
 ·rename_i e;rw [hx,<- e];exact h
 ·exact h
theorem CT.rest_off {t:CT} (cpu way now:Int) (h:(t.c c).power=fF):((t.rest cpu way now).c c).power=fF:=by
 unfold CT.rest;split
 ·exact CT.put_off rfl h
 ·exact h
theorem CT.count_off {t:CT} (cpu:Int) (f:Bool) (h:(t.c c).power=fF):((t.count cpu f).c c).power=fF:=by
 unfold CT.count;split
 ·exact CT.put_off rfl h
 ·exact h
theorem CT.take_off {t:CT} (cpu:Int) (h:(t.c c).power=fF):((t.take cpu).c c).power=fF:=by
 unfold CT.take;split
 ·exact CT.put_off rfl h
 ·exact h
theorem CT.wake_off {t:CT} (cpu now:Int) (h:(t.c c).power=fF):((t.wake cpu now).c c).power=fF:=by
 unfold CT.wake;split
 ·exact CT.put_off rfl h
 ·exact h
theorem CT.pow_off {t:CT} {d:Int} (on:Bool) (hd:d.toNat≠c) (h:(t.c c).power=fF):((t.pow d on).c c).power=fF:=by
 unfold CT.pow;split
 ·show cW.power (ar _ _ _ c)=fF
  rw [al _ _ (Ne.symm hd)];exact h
 ·exact h
end
theorem xh (n:Int) (i:Nat):(bs n).testBit i=decide (i<min n.toNat 64):=by
 unfold bs
 rw [Nat.testBit_two_pow_sub_one]
/-- Ready: sS core is active, all that are active are cores. -/
structure rX (k:KT):Prop where
 ne:k.active≠0
 lt:k.active<2 ^ 64
 rg:∀ c:Nat,aw k.active c=tQ -> c<k.n
theorem iz.of {c:Nat} {k k':KT} (h:aw k'.active c=fF) (hq:k'.rq=k.rq) (ht:k'.tm=k.tm) (hw:k'.wk=k.wk) (hb:k'.cb=k.cb) (hr:k'.rt=k.rt) (ho:k'.ob=k.ob) (hp:k'.co=k.co):iz c k k':=
 ⟨h,λx=>by rw [hq];exact x,λx=>by rw [ht];exact x,λx=>by rw [hw];exact x,λx=>by rw [hb];exact x,λx=>by rw [hr];exact x,λx=>by rw [ho];exact x,λx=>by rw [hp];exact x⟩
section
variable {c:Nat} {k:KT}
theorem lu (hc:aw k.active c=fF) (hk:rX k) (m:Nat) (near:Int):(cK m k.active near).toNat≠c /\ cK m k.active near≠(c:Int):=by
 obtain ⟨h1,h2,_⟩:=zw hc (sP hk.ne hk.lt near (want:=m))
 exact ⟨h1,h2⟩
theorem bJ (hc:aw k.active c=fF) (hk:rX k):iz c k k:=.of hc rfl rfl rfl rfl rfl rfl rfl
theorem cJ (hc:aw k.active c=fF) (hk:rX k) {a b:KT} {q:Prop} [Decidable q] (h:iz c k a) (g:iz c k b):iz c k (if q then a else b):=by split<;>assumption
theorem pc (hc:aw k.active c=fF) (hk:rX k) (id near:Int):iz c k (k.putT id near):=
 ⟨hc,λx=>RQ.put_off (lu hc hk _ _).1 x,λx=>x,λx=>x,λx=>x,λx=>x,λx=>x,λx=>x⟩
theorem uC (hc:aw k.active c=fF) (hk:rX k) {r:RQ} (h:k.rq.q c=[] -> r.q c=[]):iz c k { k with rq:=r }:=⟨hc,h,λx=>x,λx=>x,λx=>x,λx=>x,λx=>x,λx=>x⟩
theorem yZ (hc:aw k.active c=fF) (hk:rX k) {r:TA} (h:k.tm.L c=[] -> r.L c=[]):iz c k { k with tm:=r }:=⟨hc,λx=>x,h,λx=>x,λx=>x,λx=>x,λx=>x,λx=>x⟩
theorem yY (hc:aw k.active c=fF) (hk:rX k) {r:cu} (h:k.wk.q (c+1)=[] -> r.q (c+1)=[]):iz c k { k with wk:=r }:=⟨hc,λx=>x,λx=>x,h,λx=>x,λx=>x,λx=>x,λx=>x⟩
theorem Dh (hc:aw k.active c=fF) (hk:rX k) {r:dO} (h:k.cb.q c=[] -> r.q c=[]):iz c k { k with cb:=r }:=⟨hc,λx=>x,λx=>x,λx=>x,h,λx=>x,λx=>x,λx=>x⟩
theorem Mr (hc:aw k.active c=fF) (hk:rX k) {r:RT} (h:(∀ i,i<16 -> k.rt.c i≠(c:Int)+1) -> ∀ i,i<16 -> r.c i≠(c:Int)+1):iz c k { k with rt:=r }:=⟨hc,λx=>x,λx=>x,λx=>x,λx=>x,h,λx=>x,λx=>x⟩
theorem zb (hc:aw k.active c=fF) (hk:rX k) {r:bL} (h:k.ob.kept c=[] -> r.kept c=[]):iz c k { k with ob:=r }:=⟨hc,λx=>x,λx=>x,λx=>x,λx=>x,λx=>x,h,λx=>x⟩
theorem qU (hc:aw k.active c=fF) (hk:rX k) {r:CT} (h:(k.co.c c).power=fF -> (r.c c).power=fF):iz c k { k with co:=r }:=⟨hc,λx=>x,λx=>x,λx=>x,λx=>x,λx=>x,λx=>x,h⟩
theorem rX.of (hk:rX k) {k':KT} (h1:k'.active=k.active) (h2:k'.n=k.n):rX k':=⟨by rw [h1];exact hk.ne,by rw [h1];exact hk.lt,by rw [h1,h2];exact hk.rg⟩
theorem qT {k1 k':KT} (g:iz c k1 k') (h1:k1.rq=k.rq:=by rfl) (h2:k1.tm=k.tm:=by rfl) (h3:k1.wk=k.wk:=by rfl) (h4:k1.cb=k.cb:=by rfl) (h5:k1.rt=k.rt:=by rfl) (h6:k1.ob=k.ob:=by rfl) (h7:k1.co=k.co:=by rfl):iz c k k':=
 ⟨g.a,λx=>g.q (by rw [h1];exact x),λx=>g.t (by rw [h2];exact x),λx=>g.w (by rw [h3];exact x),λx=>g.b (by rw [h4];exact x),λx=>g.r (by rw [h5];exact x),λx=>g.o (by rw [h6];exact x),λx=>g.p (by rw [h7];exact x)⟩
theorem gV {k1 k':KT} (g:iz c k k1) (h0:k'.active=k1.active:=by rfl) (h1:k'.rq=k1.rq:=by rfl) (h2:k'.tm=k1.tm:=by rfl) (h3:k'.wk=k1.wk:=by rfl) (h4:k'.cb=k1.cb:=by rfl) (h5:k'.rt=k1.rt:=by rfl) (h6:k'.ob=k1.ob:=by rfl) (h7:k'.co=k1.co:=by rfl):iz c k k':=
 g.trans (.of (by rw [h0];exact g.a) h1 h2 h3 h4 h5 h6 h7)
theorem AQ (hc:aw k.active c=fF) (hk:rX k) (id:Int):iz c k (k.mend id):=by
 unfold KT.mend
 split
 ·exact bJ hc hk
 ·exact (uC hc hk (RQ.take_off id)).trans (pc (k:={ k with rq:=k.rq.take id }) hc (hk.of rfl rfl) _ _)
theorem pd (hc:aw k.active c=fF) (hk:rX k) (i near:Int):iz c k (k.lead i near):=Mr hc hk (λx=>RT.set_off i (lu hc hk _ _).2 x)
theorem Eu (hc:aw k.active c=fF) (hk:rX k) (i:Int):iz c k (k.aim i):=by
 unfold KT.aim
 split
 ·exact pd hc hk _ _
 ·exact bJ hc hk
theorem Gf (hc:aw k.active c=fF) (hk:rX k) (p:Int) (m:Nat):iz c k (k.spawn p m):=by
 unfold KT.spawn
 split
 ·exact qT (pc (k:={ k with th:=k.th.spawn p m }) hc (hk.of rfl rfl) _ _)
 ·exact bJ hc hk
theorem xA (hc:aw k.active c=fF) (hk:rX k) (t:Int):iz c k (k.quiet t):=gV (yZ hc hk (TA.cancel_off t))
theorem AP (hc:aw k.active c=fF) (hk:rX k) (id:Int):iz c k (k.wake id):=qT (pc (k:={ k with th:=k.th.wake id }) hc (hk.of rfl rfl) _ _)
theorem uD (hc:aw k.active c=fF) (hk:rX k) {cpu:Int} (h:aw k.active cpu=tQ):cpu.toNat≠c:=(zw hc h).1
theorem Df (hc:aw k.active c=fF) (hk:rX k) (x:jS):(k.sleepC x).toNat≠c:=by
 unfold KT.sleepC
 split
 ·rename_i h;exact uD hc hk h
 ·exact uD hc hk (gM hk.ne hk.lt)
theorem Gg (hc:aw k.active c=fF) (hk:rX k) (id:Int) (x:jS) (d:Int):iz c k (k.sleep id x d):=by
 unfold KT.sleep
 split;exact bJ hc hk
 split;exact bJ hc hk
 exact ⟨hc,RQ.take_off id,TA.arm_off (Df hc hk x),λx=>x,λx=>x,λx=>x,λx=>x,λx=>x⟩
theorem Jd (hc:aw k.active c=fF) (hk:rX k) (id:Int) (x:jS):iz c k (k.exit id x):=by
 unfold KT.exit
 cases x.sleeps
 ·exact gV (uC hc hk (RQ.take_off id))
 ·exact gV (xA hc hk _)
theorem za (hc:aw k.active c=fF) (hk:rX k) (e:oH):iz c k (k.threaded e):=by
 unfold KT.threaded
 split;exact bJ hc hk
 split;exact bJ hc hk
 split;exact Jd hc hk _ _
 split
 ·split
  ·exact qT (AQ (k:={ k with th:=k.th.aim e.id e.mask }) hc (hk.of rfl rfl) _)
  ·exact bJ hc hk
 split;exact bJ hc hk
 split;exact Gg hc hk _ _ _
 split;exact uC hc hk (RQ.back_off _)
 exact (xA hc hk _).trans (AP (k:=k.quiet (k.th.get e.id).timer) hc (hk.of rfl rfl) _)
theorem KW (hc:aw k.active c=fF) (hk:rX k) (e:oH):iz c k (k.irq e):=by
 unfold KT.irq
 split
 ·split
  ·exact qT (pd (k:={ k with iq:=k.iq.req e.id e.mask }) hc (hk.of rfl rfl) _ _)
  ·exact bJ hc hk
 split
 ·split
  ·exact ⟨hc,λx=>x,λx=>x,λx=>x,λx=>x,λx=>RT.off_off _ x,λx=>x,λx=>x⟩
  ·exact bJ hc hk
 split
 ·split
  ·exact qT (Eu (k:={ k with iq:=k.iq.aim e.id e.mask }) hc (hk.of rfl rfl) _)
  ·exact bJ hc hk
 split;exact .of hc rfl rfl rfl rfl rfl rfl rfl
 split<;>exact .of hc rfl rfl rfl rfl rfl rfl rfl
theorem Dg (hc:aw k.active c=fF) (hk:rX k) (e:oH):iz c k (k.placed e):=by
 unfold KT.placed
 by_cases h0:k.ofE e.cpu≠0
 ·rw [pG h0];exact bJ hc hk
 rw [nG h0]
 have ha:aw k.active e.cpu=tQ:=by
  unfold KT.ofE at h0
  split at h0
  ·exact absurd dE h0
  ·split at h0
   ·assumption
   ·exact absurd dE h0
 have hd:=uD hc hk ha
 have hd2:=zw hc ha
 unfold KT.arm
 refine cJ hc hk (cJ hc hk (bJ hc hk) (yZ hc hk (TA.arm_off hd))) (cJ hc hk (yY hc hk (cu.queue_off oM)) (cJ hc hk (Dh hc hk (dO.send_off hd)) (cJ hc hk (zb hc hk (bL.alloc_off hd)) (cJ hc hk (zb hc hk (bL.give_off _ hd)) ?_))))
 exact .of hc rfl rfl rfl rfl rfl rfl rfl
theorem Hw (load:Int -> Int) (better:Int -> Int -> Bool) (a:Int) (l:List Int):gm load better a l=a \/ gm load better a l∈l:=by
 unfold gm
 induction l generalizing a with
 | nil=>exact .inl rfl
 | cons x l ih=>
  rw [List.foldl_cons]
  rcases ih (if better (load x) (load a) then x else a) with h|h
  ·rw [h]
   split
   ·right;simp
   ·left;rfl
  ·right;simp [h]
theorem Gj (hc:aw k.active c=fF) (hk:rX k) (hn:k.rq.n=k.n) (b:Int -> Int -> Bool):aw k.active (k.rq.bestV k.active b)=tQ:=by
 have hin:∀ x,x∈k.rq.some_ k.active -> aw k.active x=tQ:=by
  intro x hx
  unfold RQ.some_ at hx
  obtain ⟨i,rfl,hi,hb⟩:=xN.1 hx
  unfold aw
  simp only [Nat.testBit_and,Bool.and_eq_true] at hb
  simp only [Bool.and_eq_true,decide_eq_true_eq]
  exact ⟨⟨by omega,by omega⟩,by simpa using hb.1⟩
 have hne:k.rq.some_ k.active≠[]:=by
  intro e
  have hf:=gM hk.ne hk.lt
  have h0:=dQ hf
  have hr:=hk.rg (bc k.active).toNat (by rw [Int.toNat_of_nonneg h0.1];exact hf)
  have:bc k.active∈k.rq.some_ k.active:=by
   unfold RQ.some_
   refine xN.2 ⟨(bc k.active).toNat,by omega,by omega,?_⟩
   unfold aw at hf
   simp only [Bool.and_eq_true,decide_eq_true_eq] at hf
   rw [Nat.testBit_and,hf.2,xh]
   simp
   omega
  rw [e] at this
  cases this
 unfold RQ.bestV
 rw [nG hne]
 rcases Hw k.rq.load b (ax (k.rq.some_ k.active) 0) (k.rq.some_ k.active) with h|h
 ·rw [h]
  apply hin
  cases hl:k.rq.some_ k.active with
  | nil=>exact absurd hl hne
  | cons x l=>simp [ax]
 ·exact hin _ h
theorem KX (hc:aw k.active c=fF) (hk:rX k) (hn:k.rq.n=k.n):iz c k k.bal:=by
 unfold KT.bal
 split
 ·exact bJ hc hk
 ·exact ⟨hc,λx=>RQ.put_off (uD hc hk (Gj hc hk hn _)) (RQ.take_off _ x),λx=>x,λx=>x,λx=>x,λx=>x,λx=>x,λx=>x⟩
theorem qS (hc:aw k.active c=fF) (hk:rX k) (d:Int):∀ j,iz c k (k.meets d j)
 | 0=>bJ hc hk
 | j+1=>by
  have h:=qS hc hk d j
  refine h.trans ?_
  show iz c (k.meets d j) ((k.meets d j).meetAt d j)
  unfold KT.meetAt
  split
  ·exact ⟨h.a,λx=>x,λx=>x,λx=>x,λx=>x,λx=>x,λx=>x,CT.take_off _⟩
  ·exact gV (bJ h.a (hk.of (ot k d j).2.1 (nu k d j).1))
theorem Ja (hc:aw k.active c=fF) (hk:rX k) (d:Int):iz c k (k.tick d):=by
 unfold KT.tick
 split
 ·exact bJ hc hk
 ·have ht:(k.meets d k.n).tm=k.tm:=(nu k d k.n).2.1
  refine (qS hc hk d k.n).trans ⟨(qS hc hk d k.n).a,λx=>x,λx=>?_,λx=>x,λx=>x,λx=>x,λx=>x,λx=>x⟩
  rw [ht] at x
  exact x
theorem Gi (hc:aw k.active c=fF) (hk:rX k) (cpu:Int):iz c k (k.empty cpu):=by
 unfold KT.empty
 split
 ·exact bJ hc hk
 ·exact (uC hc hk (RQ.take_off _)).trans (pc (k:={ k with rq:=k.rq.take (ax (k.rq.list cpu) 0) }) hc (hk.of rfl rfl) _ _)
theorem Jc (hc:aw k.active c=fF) (hk:rX k) (cpu:Int):iz c k (k.fire cpu):=by
 unfold KT.fire
 have h1:iz c k { k with tm:=k.tm.fire cpu,own:=eu k.own (k.fireId cpu) }:=⟨hc,λx=>x,TA.fire_off cpu,λx=>x,λx=>x,λx=>x,λx=>x,λx=>x⟩
 by_cases hw:0<k.fireWho cpu
 ·simp only [hw,if_true]
  exact h1.trans (gV (AP (k:={ k with tm:=k.tm.fire cpu,own:=eu k.own (k.fireId cpu) }) hc (hk.of rfl rfl) _))
 ·simp only [hw,if_false]
  exact gV h1
theorem Gd (hc:aw k.active c=fF) (hk:rX k) (cpu what:Int):iz c k (k.thing cpu what):=by
 unfold KT.thing
 split;exact gV (Dh hc hk (dO.take_off _))
 split;exact .of hc rfl rfl rfl rfl rfl rfl rfl
 split;exact Jc hc hk _
 split;exact gV (yY hc hk (cu.take_off _))
 exact gV (uC hc hk (RQ.pick_off _))
theorem Ge (hc:aw k.active c=fF) (hk:rX k) (cpu:Int):iz c k (k.step0 cpu):=by
 unfold KT.step0
 generalize (if k.co.is cpu then k.co.at cpu else core0)=x
 split
 ·exact qU hc hk (CT.count_off _ _)
 ·exact bJ hc hk
theorem my {α:Type} {f:KT -> α -> KT} (hf:∀ k a,aw k.active c=fF -> rX k -> iz c k (f k a)) (hs:∀ k a,bW k (f k a)):∀ (l:List α) (k:KT),aw k.active c=fF -> rX k -> iz c k (l.foldl f k)
 | [],k,hc,hk=>bJ hc hk
 | a :: l,k,hc,hk=>(hf k a hc hk).trans (my hf hs l _ (hf k a hc hk).a (hk.of (hs k a).ac (hs k a).n))
theorem Jb (hc:aw k.active c=fF) (hk:rX k) (cpu by_:Int):iz c k (k.halt cpu by_):=by
 unfold KT.halt
 split;exact .of hc rfl rfl rfl rfl rfl rfl rfl
 split;exact bJ hc hk
 exact (my (λk i h g=>pd h g i cpu) (λk i=>kt k i cpu) (k.rt.onL cpu 16) k hc hk).trans (.of (my (λk i h g=>pd h g i cpu) (λk i=>kt k i cpu) (k.rt.onL cpu 16) k hc hk).a rfl rfl rfl rfl rfl rfl rfl)
end
/-- How far a core has gone. -/
structure Lv (k:KT) (c d:Nat):Prop where
 a:2 <= d -> aw k.active c=fF
 q:3 <= d -> k.rq.q c=[]
 t:4 <= d -> k.tm.L c=[]
 w:5 <= d -> k.wk.q (c+1)=[]
 b:6 <= d -> k.cb.q c=[]
 r:7 <= d -> ∀ i,i<16 -> k.rt.c i≠(c:Int)+1
 o:8 <= d -> k.ob.kept c=[]
 p:10 <= d -> (k.co.c c).power=fF
theorem Lv.off {k k':KT} {c d:Nat} (h:Lv k c d) (g:aw k.active c=fF -> iz c k k'):Lv k' c d:=
 ⟨λx=>(g (h.a x)).a,λx=>(g (h.a oM)).q (h.q x),λx=>(g (h.a oM)).t (h.t x),λx=>(g (h.a oM)).w (h.w x),λx=>(g (h.a oM)).b (h.b x),
  λx=>(g (h.a oM)).r (h.r x),λx=>(g (h.a oM)).o (h.o x),λx=>(g (h.a oM)).p (h.p x)⟩
theorem Lv.le {k:KT} {c d e:Nat} (h:Lv k c d) (he:e <= d):Lv k c e:=
 ⟨λx=>h.a oM,λx=>h.q oM,λx=>h.t oM,λx=>h.w oM,λx=>h.b oM,λx=>h.r oM,λx=>h.o oM,λx=>h.p oM⟩
theorem Lv.low {k:KT} {c d:Nat} (h:d<2):Lv k c d:=
 ⟨λx=>by omega,λx=>by omega,λx=>by omega,λx=>by omega,λx=>by omega,λx=>by omega,λx=>by omega,λx=>by omega⟩
theorem gG {m:Nat} {d:Int} {c:Nat}:aw (aP m d) c=(aw m c||(decide (d=c)&&decide (c<64))):=by
 unfold aw
 simp only [kg,Int.toNat_natCast]
 by_cases h1:c<64<;>by_cases h2:d=(c:Int)<;>cases m.testBit c<;>simp [h1,h2]<;>omega
theorem gH {m:Nat} {d:Int} {c:Nat}:aw (aE m d) c=(aw m c&&!decide (d=c)):=by
 unfold aw
 simp only [fB,Int.toNat_natCast]
 by_cases h1:c<64<;>by_cases h2:d=(c:Int)<;>cases m.testBit c<;>simp [h1,h2]<;>omega
theorem wX {m:Nat} {d c:Int} (h:c≠d) (g:aw m c=tQ):aw (aE m d) c=tQ:=by
 obtain ⟨n,rfl⟩:=iN (dQ g).1
 rw [gH,g]
 simp
 omega
theorem lK {m:Nat} {d c:Int} (g:aw (aE m d) c=tQ):aw m c=tQ:=by
 obtain ⟨n,rfl⟩:=iN (dQ g).1
 rw [gH] at g
 simp only [Bool.and_eq_true] at g
 exact g.1
theorem CT.pow_down {t:CT} {c:Nat} (d:Int) (h:(t.c c).power=fF):((t.pow d fF).c c).power=fF:=by
 unfold CT.pow;split
 ·show cW.power (ar _ _ _ c)=fF
  unfold ar
  split
  ·rfl
  ·exact h
 ·exact h
theorem CT.pow_no {t:CT} {d:Int} (h:t.is d):((t.pow d fF).c d.toNat).power=fF:=by
 unfold CT.pow;split
 ·show cW.power (ar _ _ _ _)=fF
  rw [ah]
 ·rename_i hn
  unfold CT.powE at hn
  rw [nG (by simpa using h)] at hn
  split at hn
  ·assumption
  ·exact absurd rfl hn
section
variable {c:Nat} {k:KT}
theorem qZ (hc:aw k.active c=fF) (hk:rX k) (st cpu:Int) {by_:Int} (hb:aw k.active by_=tQ):iz c k (k.leave st cpu by_):=by
 have hd:=uD hc hk hb
 unfold KT.leave
 split
 ·exact .of (by show aw (aE k.active cpu) c=fF;rw [gH,hc];rfl) rfl rfl rfl rfl rfl rfl rfl
 split;exact Gi hc hk _
 split;exact yZ hc hk (TA.move_off _ hd)
 split;exact yY hc hk (cu.unbind_off _)
 split;exact Dh hc hk (dO.move_off _ hd)
 split;exact Jb hc hk _ _
 split;exact zb hc hk (bL.drain_off _)
 split;exact .of hc rfl rfl rfl rfl rfl rfl rfl
 exact gV (qU hc hk (CT.pow_down _))
theorem Kj (hc:aw k.active c=fF) (hk:rX k) (st:Int) {cpu:Int} (hi:k.is cpu) (hn:k.n <= 64) (hne:cpu≠c):iz c k (k.come st cpu):=by
 have hne2:cpu.toNat≠c:=by unfold KT.is at hi;omega
 unfold KT.come
 split;exact qU hc hk (CT.pow_off _ hne2)
 split;exact zb hc hk (bL.drain_off _)
 have h1:aw (aP k.active cpu) c=fF:=by rw [gG,hc];simp;omega
 have hk1:rX { k with online:=aP k.online cpu,active:=aP k.active cpu }:=⟨Ec hk.ne,dT hk.lt _,λj hj=>by
  have hj:aw (aP k.active cpu) j=tQ:=hj
  rw [gG] at hj
  simp only [Bool.or_eq_true,Bool.and_eq_true,decide_eq_true_eq] at hj
  rcases hj with hj|hj
  ·exact hk.rg j hj
  ·unfold KT.is at hi;show j<k.n;omega⟩
 have h2:=my (c:=c) (λk i h g=>AQ h g i) kr ({ k with online:=aP k.online cpu,active:=aP k.active cpu }:KT).th.list _ h1 hk1
 have hs:=gw kr ({ k with online:=aP k.online cpu,active:=aP k.active cpu }:KT).th.list { k with online:=aP k.online cpu,active:=aP k.active cpu }
 exact qT (h2.trans (my (c:=c) (λk i h g=>Eu h g i) oQ _ _ h2.a (hk1.of hs.ac hs.n)))
theorem Fw (hc:aw k.active c=fF) (hk:rX k) (st:Int) (u:Bool) {cpu by_:Int} (hi:k.is cpu) (hn:k.n <= 64) (hb:aw k.active by_=tQ) (hne:cpu≠c):iz c k (k.stage st u cpu by_):=by
 have hne2:cpu.toNat≠c:=by unfold KT.is at hi;omega
 unfold KT.stage
 split
 ·unfold KT.undo
  split
  ·split
   ·exact qU hc hk (CT.pow_off _ hne2)
   ·exact .of (by show aw (aP k.active cpu) c=fF;rw [gG,hc];simp;omega) rfl rfl rfl rfl rfl rfl rfl
  ·exact bJ hc hk
 split;exact .of hc rfl rfl rfl rfl rfl rfl rfl
 split
 ·exact Kj hc hk _ hi hn hne
 ·exact qZ hc hk _ _ hb
end
section
variable {k:KT}
theorem Ls (k:KT) (i near:Int) (hi:cz i) (hk:rX k) (hr:k.rt.n=k.n):(k.lead i near).rt.c i.toNat=cK (k.iq.get i).mask k.active near+1:=by
 have h:=sP hk.ne hk.lt near (want:=(k.iq.get i).mask)
 have h0:=dQ h
 have hl:=hk.rg (cK (k.iq.get i).mask k.active near).toNat (by rw [Int.toNat_of_nonneg h0.1];exact h)
 show (k.rt.set i (cK (k.iq.get i).mask k.active near)).c i.toNat=_
 unfold RT.set
 rw [pG (by unfold RT.setE;rw [nG (by simpa using hi),nG oM])]
 exact ah _ _ _
theorem Bh {x:Nat} (cpu:Int):∀ (l:List Int) (k:KT),aw k.active x=fF -> rX k -> k.rt.n=k.n -> (∀ i,i∈l -> cz i) -> ∀ j:Nat,j<16 -> ((j:Int)∈l \/ k.rt.c j≠(x:Int)+1) -> (l.foldl (λk i=>k.lead i cpu) k).rt.c j≠(x:Int)+1
 | [],k,hc,hk,hr,hl,j,hj,h=>by rcases h with h|h;cases h;exact h
 | i :: l,k,hc,hk,hr,hl,j,hj,h=>by
  rw [List.foldl_cons]
  refine Bh cpu l (k.lead i cpu) hc (hk.of rfl rfl) (by rw [show (k.lead i cpu).rt.n=k.rt.n from ?_];exact hr;show (k.rt.set _ _).n=_;unfold RT.set;split<;>rfl) (λi h=>hl i (List.mem_cons_of_mem _ h)) j hj ?_
  by_cases e:(j:Int)=i
  ·right
   have:=Ls k i cpu (hl i sM) hk hr
   rw [<- e] at this
   rw [<- e]
   simp only [Int.toNat_natCast] at this
   rw [this]
   have:=(lu hc hk (k.iq.get j).mask cpu).2
   omega
  ·rcases h with h|h
   ·left
    rcases List.mem_cons.1 h with h|h
    ·exact absurd h e
    ·exact h
   ·right
    show (k.rt.set i _).c j≠_
    unfold RT.set
    split
    ·show ar _ _ _ j≠_
     unfold ar
     split
     ·have:=(lu hc hk (k.iq.get i).mask cpu).2
      omega
     ·exact h
    ·exact h
theorem Et {t:RT} {cpu:Int} {j:Nat}:∀ {n},j<n -> (t.has j&&decide (t.of j=cpu))=tQ -> (j:Int)∈t.onL cpu n
 | 0,h,_=>by omega
 | n+1,h,g=>by
  unfold RT.onL
  by_cases e:j=n
  ·subst e
   rw [pG g];simp
  ·have:=Et (n:=n) oM g
   split
   ·simp [this]
   ·exact this
theorem yX {t:RT} {cpu:Int}:∀ {n},n <= 16 -> ∀ i,i∈t.onL cpu n -> cz i
 | 0,h,i,g=>by cases g
 | n+1,h,i,g=>by
  unfold RT.onL at g
  split at g
  ·rcases List.mem_append.1 g with g|g
   ·exact yX oM i g
   ·simp only [List.mem_singleton] at g
    subst g
    unfold cz;omega
  ·exact yX oM i g
/-- A stage of going that is done takes the core one further. -/
theorem Ju (hok:k.ok) (hk:rX k) (hq:∀ c x,x∈k.rq.q c -> x.1<8) {x:Nat} {by_:Int} (hi:k.is x) (hb:aw k.active by_=tQ) (hne:by_≠x) (hby:k.is by_) {d:Nat} (h1:1 <= d) (hl:Lv k x d) (hd:k.leaveB d x by_=tQ) (h9:d <= 9):Lv (k.leave d x by_) x (d+1):=by
 have hx:x<k.n:=by unfold KT.is at hi;omega
 have hn:=hok.n2
 have hg:Lv (k.leave d x by_) x d:=hl.off λhc=>qZ hc hk _ _ hb
 have hcase:d=1 \/ d=2 \/ d=3 \/ d=4 \/ d=5 \/ d=6 \/ d=7 \/ d=8 \/ d=9:=by omega
 have hby2:=hby
 unfold KT.is at hi hby2
 rcases hcase with rfl|rfl|rfl|rfl|rfl|rfl|rfl|rfl|rfl
 ·refine ⟨λ_=>?_,λz=>by omega,λz=>by omega,λz=>by omega,λz=>by omega,λz=>by omega,λz=>by omega,λz=>by omega⟩
  show aw (aE k.active x) x=fF
  rw [gH];simp
 ·refine ⟨λ_=>hg.a oM,λ_=>?_,λz=>by omega,λz=>by omega,λz=>by omega,λz=>by omega,λz=>by omega,λz=>by omega⟩
  have he:k.rq.list x=[]:=by
   have:k.emptyB x=tQ:=hd
   unfold KT.emptyB at this
   simpa using this
  have hq0:k.rq.q x=[]:=by
   unfold RQ.list at he
   rw [pG (by unfold RQ.is;rw [hok.rq];exact hi)] at he
   have he:lU (k.rq.q x)=[]:=he
   have:=xZ (k.rq.q x) (hq x)
   rw [he] at this
   exact List.eq_nil_of_length_eq_zero this.symm
  show (k.empty x).rq.q x=[]
  unfold KT.empty
  rw [pG he]
  exact hq0
 ·refine ⟨λ_=>hg.a oM,λ_=>hg.q oM,λ_=>?_,λz=>by omega,λz=>by omega,λz=>by omega,λz=>by omega,λz=>by omega⟩
  have he:k.tm.moveE x by_≠0:=by
   have:decide (k.tm.moveE x by_≠0)=tQ:=hd
   simpa using this
  have:k.tm.L x=[]:=by
   unfold TA.moveE at he
   rw [nG (by unfold TA.is;rw [hok.tm];omega),nG oM] at he
   split at he
   ·assumption
   ·exact absurd rfl he
  exact TA.move_off _ oM this
 ·refine ⟨λ_=>hg.a oM,λ_=>hg.q oM,λ_=>hg.t oM,λ_=>?_,λz=>by omega,λz=>by omega,λz=>by omega,λz=>by omega⟩
  have he:k.wk.unbindE x≠0:=by
   have:decide (k.wk.unbindE x≠0)=tQ:=hd
   simpa using this
  have:k.wk.q (x+1)=[]:=by
   unfold cu.unbindE at he
   rw [nG (by unfold cu.is;rw [hok.wk];omega)] at he
   split at he
   ·rename_i h;exact h
   ·exact absurd rfl he
  exact cu.unbind_off _ this
 ·refine ⟨λ_=>hg.a oM,λ_=>hg.q oM,λ_=>hg.t oM,λ_=>hg.w oM,λ_=>?_,λz=>by omega,λz=>by omega,λz=>by omega⟩
  have he:k.cb.moveE x by_≠0:=by
   have:decide (k.cb.moveE x by_≠0)=tQ:=hd
   simpa using this
  have:k.cb.q x=[]:=by
   unfold dO.moveE at he
   rw [nG (by unfold dO.is;rw [hok.cb];omega),nG oM] at he
   split at he
   ·rename_i h;exact h
   ·exact absurd rfl he
  exact dO.move_off _ oM this
 ·refine ⟨λ_=>hg.a oM,λ_=>hg.q oM,λ_=>hg.t oM,λ_=>hg.w oM,λ_=>hg.b oM,λ_=>?_,λz=>by omega,λz=>by omega⟩
  have he:k.sp.on=tQ /\ k.sp.ready=tQ:=by
   have:k.haltB=tQ:=hd
   unfold KT.haltB at this
   simpa using this
  intro j hj
  show (k.halt x by_).rt.c j≠_
  unfold KT.halt
  rw [nG (by rw [he.1];simp),nG (by rw [he.2];simp)]
  refine Bh x (k.rt.onL x 16) k (hl.a oM) hk hok.rt (yX oM) j hj ?_
  by_cases e:k.rt.c j=(x:Int)+1
  ·left
   refine Et hj ?_
   have hh:k.rt.has j=tQ:=by
    unfold RT.has
    simp only [Int.toNat_natCast,decide_eq_true_eq]
    exact ⟨by unfold cz;omega,by omega⟩
   have ho:k.rt.of j=x:=by
    unfold RT.of
    rw [hh]
    simp only [if_true,Int.toNat_natCast]
    omega
   rw [hh,ho];simp
  ·exact .inr e
 ·refine ⟨λ_=>hg.a oM,λ_=>hg.q oM,λ_=>hg.t oM,λ_=>hg.w oM,λ_=>hg.b oM,λ_=>hg.r oM,λ_=>?_,λz=>by omega⟩
  show (k.ob.drain x).kept x=[]
  unfold bL.drain
  rw [pG (by unfold bL.is;rw [hok.ob];exact hi)]
  unfold bL.back
  show ar _ _ _ x=[]
  simp [ar]
 ·exact ⟨λ_=>hg.a oM,λ_=>hg.q oM,λ_=>hg.t oM,λ_=>hg.w oM,λ_=>hg.b oM,λ_=>hg.r oM,λ_=>hg.o oM,λz=>by omega⟩
 ·refine ⟨λ_=>hg.a oM,λ_=>hg.q oM,λ_=>hg.t oM,λ_=>hg.w oM,λ_=>hg.b oM,λ_=>hg.r oM,λ_=>hg.o oM,λ_=>?_⟩
  have:=CT.pow_no (t:=k.co) (d:=x) (by unfold CT.is;rw [hok.co];exact hi)
  exact this
end
/-- What holds of a kernel and of the cores that have gone. -/
structure lY (k:KT) (g:Nat):Prop where
 on:∀ c:Nat,aw k.online c=tQ -> c<k.n
 by_:∀ r,k.dk.run=sS r -> k.dk.by_≠k.dk.cpu /\ aw k.active k.dk.by_=tQ
 go:∀ r,k.dk.run=sS r -> k.dk.up=fF -> r.back=fF -> Lv k k.dk.cpu.toNat r.d
 gone:∀ c:Nat,aw g c=tQ -> aw k.online c=fF /\ (k.dk.run.isSome=tQ -> k.dk.up=tQ -> k.dk.cpu≠c) /\ Lv k c 10
theorem de.sub {k:KT} (h:de k) {c:Int} (hc:aw k.active c=tQ):aw k.online c=tQ:=by
 cases hr:k.dk.run with
 | none=>rw [<- h.no hr];exact hc
 | some r=>
  obtain ⟨_,_,⟨_,_,_,_,e⟩|⟨_,_,_,_,_,e⟩⟩:=h.yes r hr
  ·rw [<- e];exact hc
  ·rw [e] at hc
   split at hc
   ·exact lK hc
   ·exact hc
section
variable {k:KT} {g:Nat}
theorem lY.act (G:lY k g) (h:de k) (hok:k.ok):rX k:=⟨h.ne,hok.ac,λc hc=>G.on c (h.sub hc)⟩
theorem lY.keep {k':KT} (G:lY k g) (hd:k'.dk.run=k.dk.run /\ k'.dk.up=k.dk.up /\ k'.dk.cpu=k.dk.cpu /\ k'.dk.by_=k.dk.by_) (hn:k'.n=k.n) (ho:k'.online=k.online) (ha:k'.active=k.active) (hO:∀ c:Nat,aw k.active c=fF -> iz c k k'):lY k' g:=by
 obtain ⟨d1,d2,d3,d4⟩:=hd
 refine ⟨λc hc=>by rw [hn];exact G.on c (by rw [<- ho];exact hc),λr hr=>?_,λr hr hu hb=>?_,λc hc=>?_⟩
 ·rw [d4,d3,ha];exact G.by_ r (d1 ▸ hr)
 ·rw [d3];exact (G.go r (d1 ▸ hr) (d2 ▸ hu) hb).off (hO _)
 ·obtain ⟨a1,a2,a3⟩:=G.gone c hc
  rw [ho,d1,d2,d3]
  exact ⟨a1,a2,a3.off (hO c)⟩
theorem Cw (hok:k.ok) (h:de k) (G:lY k g) (hq:∀ c x,x∈k.rq.q c -> x.1<8) {r:aR} (hr:k.dk.run=sS r) (hby:k.is k.dk.by_):
  (∀ r',(k.turn1 k.dk.by_).dk.run=sS r' -> k.dk.up=fF -> r'.back=fF -> Lv (k.turn1 k.dk.by_) k.dk.cpu.toNat r'.d) /\
  (∀ c:Nat,aw g c=tQ -> Lv (k.turn1 k.dk.by_) c 10) /\ (k.turn1 k.dk.by_).dk.by_=k.dk.by_:=by
 obtain ⟨hc,ho,hd⟩:=h.yes r hr
 have hk:=G.act h hok
 obtain ⟨hbn,hba⟩:=G.by_ r hr
 have hgone:∀ c:Nat,aw g c=tQ -> k.dk.cpu≠c:=by
  intro c hg e
  obtain ⟨a1,a2,a3⟩:=G.gone c hg
  rcases hd with ⟨q1,_⟩|⟨q1,_,_,q2,_⟩
  ·exact a2 (by rw [hr];rfl) q1 e
  ·rw [e,a1] at q2;cases q2
 cases hf:k.dk.failsNow r
 ·have e1:k.dk.next={ k.dk with told:=true }:=by simp only [SH.next,hr,ho,hf];rfl
  have e2:k.dk.stF=fF:=by simp only [SH.stF,hr,ho,hf];rfl
  have e3:k.dk.stK=r.k:=by simp only [SH.stK,hr,ho];rfl
  have e4:k.dk.stU=r.back:=by simp only [SH.stU,hr,ho];rfl
  have ek:r.k=if r.back then (r.d:Int) - 1 else r.d:=by unfold aR.k;rw [ho];rfl
  have hk1:rX { k with dk:=k.dk.next }:=hk.of rfl rfl
  have hq1:∀ c d,Lv k c d -> Lv { k with dk:=k.dk.next } c d:=λc d l=>l.off λhc=>.of hc rfl rfl rfl rfl rfl rfl rfl
  have hi1:KT.is { k with dk:=k.dk.next } k.dk.cpu:=hc
  have hok1:KT.ok { k with dk:=k.dk.next }:=⟨hok.n1,hok.n2,hok.th,hok.rq,hok.tm,hok.wk,hok.cb,hok.ob,hok.ct,hok.gt,hok.co,hok.mt,hok.rt,hok.iq,hok.on,hok.ac,hok.now,hok.lim⟩
  have hs:=nZ { k with dk:=k.dk.next } r.k k.dk.cpu k.dk.by_ r.back h.way
  have hG:∀ c:Nat,aw g c=tQ -> Lv (KT.stage { k with dk:=k.dk.next } r.k r.back k.dk.cpu k.dk.by_) c 10:=λc hg=>
   (hq1 c 10 (G.gone c hg).2.2).off λhcc=>Fw hcc hk1 r.k r.back hi1 hok.n2 hba (hgone c hg)
  have hL:k.dk.up=fF -> r.back=fF -> Lv (KT.stage { k with dk:=k.dk.next } r.k r.back k.dk.cpu k.dk.by_) k.dk.cpu.toNat (if KT.stageB { k with dk:=k.dk.next } r.k r.back k.dk.cpu k.dk.by_ then r.d+1 else r.d):=by
   intro hu hb
   have hl:=hq1 _ _ (G.go r hr hu hb)
   rw [hb] at ek ⊢
   have ek:r.k=(r.d:Int):=ek
   rw [ek]
   have hd10:r.d <= 9:=by
    have:=(Er ho).2 hb
    rcases hd with ⟨q1,_⟩|⟨_,q2,q3,_⟩
    ·rw [hu] at q1;cases q1
    ·omega
   have hcn:k.dk.cpu=(k.dk.cpu.toNat:Int):=by unfold KT.is at hc;omega
   by_cases h0:r.d=0
   ·apply Lv.low
    split<;>omega
   ·have eS:KT.stage { k with dk:=k.dk.next } (r.d:Int) fF k.dk.cpu k.dk.by_=KT.leave { k with dk:=k.dk.next } (r.d:Int) k.dk.cpu k.dk.by_:=by
     unfold KT.stage
     rw [nG dE,nG oM,nG (by show ¬ k.dk.next.up=tQ;rw [e1,hu];decide)]
    have eB:KT.stageB { k with dk:=k.dk.next } (r.d:Int) fF k.dk.cpu k.dk.by_=KT.leaveB { k with dk:=k.dk.next } (r.d:Int) k.dk.cpu k.dk.by_:=by
     unfold KT.stageB
     rw [nG dE,nG oM,nG (by show ¬ k.dk.next.up=tQ;rw [e1,hu];decide)]
    rw [eS,eB]
    cases hB:KT.leaveB { k with dk:=k.dk.next } (r.d:Int) k.dk.cpu k.dk.by_
    ·rw [nG dE]
     exact hl.off λhcc=>qZ hcc hk1 _ _ hba
    ·rw [pG rfl]
     rw [hcn] at hB ⊢
     simp only [Int.toNat_natCast]
     exact Ju hok1 hk1 hq (hcn ▸ hi1) hba (by rw [<- hcn];exact hbn) hby oM hl hB hd10
  unfold KT.turn1
  rw [e2,e3,e4]
  simp only [Bool.false_eq_true,if_false]
  generalize KT.stage { k with dk:=k.dk.next } r.k r.back k.dk.cpu k.dk.by_=k2 at *
  have hdk:k2.dk={ k.dk with told:=true }:=hs.dk.trans e1
  cases hB:KT.stageB { k with dk:=k.dk.next } r.k r.back k.dk.cpu k.dk.by_
  ·rw [nG dE]
   rw [hB,nG dE] at hL
   refine ⟨λr' hr' hu hb=>?_,hG,by rw [hdk]⟩
   rw [hdk] at hr'
   have:sS r=sS r':=hr.symm.trans hr'
   cases this
   exact hL hu hb
  ·rw [pG rfl]
   rw [hB,pG rfl] at hL
   have hdd:k2.dk.done={ k.dk with run:=sS r.done,told:=false }:=by rw [hdk];simp only [SH.done,hr,ho];rfl
   refine ⟨λr' hr' hu hb=>?_,λc hg=>(hG c hg).off λhcc=>.of hcc rfl rfl rfl rfl rfl rfl rfl,by show SH.by_ (SH.done _)=_;rw [hdd]⟩
   have hr':(SH.done k2.dk).run=sS r':=hr'
   rw [hdd] at hr'
   have:sS r.done=sS r':=hr'
   cases this
   cases hbk:r.back
   ·have ed:r.done={ r with d:=r.d+1 }:=by unfold aR.done;rw [ho,hbk];rfl
    rw [ed]
    exact (hL hu hbk).off λhcc=>.of hcc rfl rfl rfl rfl rfl rfl rfl
   ·have ed:r.done={ r with d:=r.d - 1 }:=by unfold aR.done;rw [ho,hbk];rfl
    rw [ed] at hb
    have:r.back=fF:=hb
    rw [hbk] at this;cases this
 ·have hb:r.back=fF:=by
   unfold SH.failsNow at hf
   cases hb:r.back
   ·rfl
   ·rw [hb] at hf;simp at hf
  have e1:k.dk.next={ k.dk with run:=sS r.fail,told:=true,plan:=k.dk.plan.erase r.k }:=by simp only [SH.next,hr,ho,hf];rfl
  have e2:k.dk.stF=tQ:=by simp only [SH.stF,hr,ho,hf];rfl
  have ef:r.fail={ r with back:=true }:=by unfold aR.fail;rw [ho,hb];rfl
  have et:k.turn1 k.dk.by_={ k with dk:=k.dk.next }:=by unfold KT.turn1;rw [e2];rfl
  rw [et,e1]
  refine ⟨λr' hr' hu hb'=>?_,λc hg=>(G.gone c hg).2.2.off λhcc=>.of hcc rfl rfl rfl rfl rfl rfl rfl,rfl⟩
  have:sS r.fail=sS r':=hr'
  cases this
  rw [ef] at hb'
  cases hb'
/-- The cores that have gone behind a record. -/
def qi (g:Nat) (r:dS) (k':KT):Nat:=if r.kind=7 /\ r.why=0 /\ aw k'.online r.cpu=fF then aP g r.cpu else g
def vK (g:Nat) (L:List dS) (k':KT):Nat:=L.foldl (λg r=>qi g r k') g
theorem Fl (hok:k.ok) (h:de k) (G:lY k g) (hq:∀ c x,x∈k.rq.q c -> x.1<8) {r:aR} (hr:k.dk.run=sS r) (hby:k.is k.dk.by_):
  lY (k.turn k.dk.by_) (vK g (k.turnL k.dk.by_) (k.turn k.dk.by_)):=by
 obtain ⟨a1,a2,a3⟩:=Cw hok h G hq hr hby
 have t:=nT h k.dk.by_
 obtain ⟨hbn,hba⟩:=G.by_ r hr
 obtain ⟨hc,hov,hd⟩:=h.yes r hr
 have hk:=G.act h hok
 unfold KT.turn KT.turnL
 generalize k.turn1 k.dk.by_=k1 at *
 obtain ⟨r',q1,q2,q3,q4⟩:=t.some r hr
 have ho:k1.dk.over=r'.over:=by simp only [SH.over,q1]
 have hbo:aw k.online k.dk.by_=tQ:=h.sub hba
 have hic:k.dk.cpu.toNat<k.n /\ k.dk.cpu=(k.dk.cpu.toNat:Int):=by unfold KT.is at hc;omega
 have hgone:∀ c:Nat,aw g c=tQ -> k.dk.cpu≠c:=by
  intro c hg e
  obtain ⟨b1,b2,b3⟩:=G.gone c hg
  rcases hd with ⟨q1,_⟩|⟨q1,_,_,q2,_⟩
  ·exact b2 (by rw [hr];rfl) q1 e
  ·rw [e,b1] at q2;cases q2
 -- the online cores are cores, those that have gone are not online
 have hon:(∀ c:Nat,aw k1.online c=tQ -> c<k1.n) /\ (∀ c:Nat,aw g c=tQ -> aw k1.online c=fF):=by
  have key:k1.online=k.online \/ k1.online=aP k.online k.dk.cpu \/ k1.online=aE k.online k.dk.cpu:=by
   rcases q4 with ⟨_,on,_⟩|⟨_,_,on,_⟩|⟨_,_,on,_⟩
   ·exact .inl on
   ·exact .inl on
   ·rw [on];cases k.dk.up<;>simp
  rcases key with e|e|e
  ·rw [e,t.n];exact ⟨G.on,λc hg=>(G.gone c hg).1⟩
  ·rw [e,t.n]
   refine ⟨λc hcc=>?_,λc hg=>?_⟩
   ·rw [gG] at hcc
    simp only [Bool.or_eq_true,Bool.and_eq_true,decide_eq_true_eq] at hcc
    rcases hcc with hcc|hcc
    ·exact G.on c hcc
    ·omega
   ·have:=hgone c hg
    rw [gG,(G.gone c hg).1]
    simp;omega
  ·rw [e,t.n]
   refine ⟨λc hcc=>G.on c (lK hcc),λc hg=>?_⟩
   rw [gH,(G.gone c hg).1];rfl
 rcases q4 with ⟨o,on,ac⟩|⟨o,bk,on,ac⟩|⟨o,bk,on,ac⟩
 ·rw [ho,o]
  simp only [Bool.false_eq_true,if_false]
  refine ⟨hon.1,λr2 hr2=>?_,λr2 hr2 hu hb=>?_,λc hg=>⟨hon.2 c hg,λ_ _=>?_,a2 c hg⟩⟩
  ·rw [a3,t.cpu,ac]
   refine ⟨hbn,?_⟩
   split
   ·exact hbo
   ·split
    ·exact wX hbn hbo
    ·exact hbo
  ·rw [t.cpu]
   exact a1 r2 hr2 (t.up ▸ hu) hb
  ·rw [t.cpu];exact hgone c hg
 ·rw [ho,o]
  simp only [if_true]
  have eE:k1.dk.end_={ k1.dk with run:=nN,up:=false,cpu:=0,by_:=0 }:=by simp only [SH.end_,q1,o];rfl
  have eV:k1.dk.endV=11:=by simp only [SH.endV,q1,o,aR.why,bk];rfl
  rw [eE,eV]
  refine ⟨hon.1,λr2 hr2=>(by cases hr2),λr2 hr2=>(by cases hr2),λc hg=>?_⟩
  have hg:aw (qi g ⟨7,k.dk.cpu,0,0,11⟩ { k1 with dk:={ k1.dk with run:=nN,up:=false,cpu:=0,by_:=0 },gt:=k1.gt.free }) c=tQ:=hg
  unfold qi at hg
  rw [nG (λx=>absurd x.2.1 (by show ¬ (11:Int)=0;decide))] at hg
  exact ⟨hon.2 c hg,(λhh=>by cases hh),(a2 c hg).off λhcc=>.of hcc rfl rfl rfl rfl rfl rfl rfl⟩
 ·rw [ho,o]
  simp only [if_true]
  have eE:k1.dk.end_={ k1.dk with run:=nN,up:=false,cpu:=0,by_:=0 }:=by simp only [SH.end_,q1,o];rfl
  have eV:k1.dk.endV=0:=by simp only [SH.endV,q1,o,aR.why,bk];rfl
  rw [eE,eV]
  refine ⟨hon.1,λr2 hr2=>(by cases hr2),λr2 hr2=>(by cases hr2),λc hg=>?_⟩
  have hg:aw (qi g ⟨7,k.dk.cpu,0,0,0⟩ { k1 with dk:={ k1.dk with run:=nN,up:=false,cpu:=0,by_:=0 },gt:=k1.gt.free }) c=tQ:=hg
  have hcase:aw g c=tQ \/ (k.dk.cpu=c /\ aw k1.online c=fF):=by
   unfold qi at hg
   split at hg
   ·rename_i hw
    rw [gG] at hg
    simp only [Bool.or_eq_true,Bool.and_eq_true,decide_eq_true_eq] at hg
    rcases hg with hg|hg
    ·exact .inl hg
    ·exact .inr ⟨hg.1,by have:=hw.2.2;rw [show dS.cpu ⟨7,k.dk.cpu,0,0,0⟩=(c:Int) from hg.1] at this;exact this⟩
   ·exact .inl hg
  rcases hcase with hg|⟨hce,hoff⟩
  ·exact ⟨hon.2 c hg,(λhh=>by cases hh),(a2 c hg).off λhcc=>.of hcc rfl rfl rfl rfl rfl rfl rfl⟩
  ·refine ⟨hoff,(λhh=>by cases hh),?_⟩
   have hup:k.dk.up=fF:=by
    cases hu:k.dk.up
    ·rfl
    ·rw [on,hu,hce,pG rfl,gG] at hoff
     have hn:=hok.n2
     simp at hoff
     omega
   have hd10:r'.d=10:=by
    rcases IX o with ⟨b,_⟩|⟨_,b⟩
    ·rw [bk] at b;cases b
    ·rcases hd with ⟨u,_⟩|⟨_,u,_⟩
     ·rw [hup] at u;cases u
     ·omega
   have:=a1 r' q1 hup bk
   rw [hd10,hce] at this
   simp only [Int.toNat_natCast] at this
   exact this.off λhcc=>.of hcc rfl rfl rfl rfl rfl rfl rfl
end
section
variable {k:KT} {g:Nat} {e:oH}
theorem Gh {c:Nat} (hc:aw k.active c=fF) (hk:rX k) (hn:k.rq.n=k.n) (h1:e.kind≠1) (h23:e.kind≠23) (h24:e.kind≠24) (h25:e.kind≠25):iz c k (k.doK e):=by
 have hr:¬ (e.kind=23 \/ e.kind=24):=by omega
 have hO:=bJ hc hk
 unfold KT.doK
 rw [nG h1,nG hr,nG h25]
 refine cJ hc hk (Ja hc hk _) (cJ hc hk (Gf hc hk _ _) (cJ hc hk (za hc hk _) (cJ hc hk (KW hc hk _) (cJ hc hk (yY hc hk (cu.queue_off sM)) (cJ hc hk (Dg hc hk _) (cJ hc hk ?_ (cJ hc hk hO (cJ hc hk ?_ (cJ hc hk ?_ (cJ hc hk ?_ (cJ hc hk (KX hc hk hn) hO)))))))))))
 ·unfold KT.cancel
  split
  ·exact yZ hc hk (TA.cancel_off _)
  ·exact hO
 ·exact .of hc rfl rfl rfl rfl rfl rfl rfl
 ·unfold KT.lim
  split
  ·exact .of hc rfl rfl rfl rfl rfl rfl rfl
  ·exact hO
 ·exact .of hc rfl rfl rfl rfl rfl rfl rfl
/-- The cores that have gone behind what an event is answered. -/
def sI (g:Nat) (e:oH) (L:List dS):Nat:=if e.kind=23 /\ L.length=1 /\ (L.getD 0 ⟨0,0,0,0,0⟩).why=0 then aE g e.cpu else g
def kI (g:Nat) (e:oH) (L:List dS) (k':KT):Nat:=vK (sI g e L) L k'
theorem jL {L:List dS} {k':KT} (h:¬ (e.kind=23 /\ ∃ id,L=aW id 0)) (h7:∀ r,r∈L -> r.kind≠7) (hl:Ch L \/ e.kind≠23):kI g e L k'=g:=by
 have e1:sI g e L=g:=by
  unfold sI
  rw [nG]
  rintro ⟨a,b,c⟩
  rcases hl with ⟨id,why,rfl⟩|hl
  ·have:why=0:=c
   exact h ⟨a,id,by rw [this]⟩
  ·exact hl a
 unfold kI
 rw [e1]
 unfold vK
 clear h hl e1
 induction L with
 | nil=>rfl
 | cons r L ih=>
  rw [List.foldl_cons,show qi g r k'=g from nG (λx=>h7 r sM x.1)]
  exact ih λr hr=>h7 r (by simp [hr])
theorem Cd {id why:Int}:∀ r,r∈aW id why -> r.kind≠7:=by
 intro r hr
 unfold aW at hr
 simp only [List.mem_singleton] at hr
 subst hr
 show (1:Int)≠7
 decide
theorem GY (hok:k.ok) (h:de k) (G:lY k g) (hq:∀ c x,x∈k.rq.q c -> x.1<8) (he:e.kind=1) (hi:k.is e.cpu):lY (k.step e.cpu) (kI g e (k.stepL e.cpu) (k.step e.cpu)):=by
 have hk:=G.act h hok
 obtain ⟨s1,s2,s3,s4,s5,s6⟩:=nY k e.cpu
 have h0:de (k.step0 e.cpu):=h.of s1 s2 s3 s4 (s6 h.way)
 have G0:lY (k.step0 e.cpu) g:=G.keep (by rw [s4];exact ⟨rfl,rfl,rfl,rfl⟩) s1 s2 s3 λc hc=>Ge hc hk _
 have hne:e.kind≠23:=by omega
 have gN:kI g e [] (k.step e.cpu)=g:=jL (λx=>hne x.1) (λr hr=>by cases hr) (.inr hne)
 rcases ub k e.cpu with hw|hw|hw|hw|hw|⟨hw1,hw2,hact⟩
 ·rw [show k.stepL e.cpu=[] by unfold KT.stepL;rw [pG (.inl hw)],gN,show k.step e.cpu=k.step0 e.cpu by unfold KT.step;rw [pG hw]]
  exact G0
 ·rw [show k.stepL e.cpu=[] by unfold KT.stepL;rw [pG (.inr (.inl hw))],gN,show k.step e.cpu={ k.step0 e.cpu with co:=(k.step0 e.cpu).co.wake e.cpu k.now } by unfold KT.step;rw [nG oM,pG hw]]
  exact G0.keep ⟨rfl,rfl,rfl,rfl⟩ rfl rfl rfl λc hc=>qU hc (hk.of s3 s1) (CT.wake_off _ _)
 ·rw [show k.stepL e.cpu=[] by unfold KT.stepL;rw [pG (.inr (.inr (.inl hw)))],gN,show k.step e.cpu={ k.step0 e.cpu with sp:=k.sp.ack e.cpu } by unfold KT.step;rw [nG oM,nG oM,pG hw]]
  exact G0.keep ⟨rfl,rfl,rfl,rfl⟩ rfl rfl rfl λc hc=>.of hc rfl rfl rfl rfl rfl rfl rfl
 ·have e1:k.step e.cpu=(k.step0 e.cpu).turn e.cpu:=by unfold KT.step;rw [nG oM,nG oM,nG oM,pG hw]
  have e2:k.stepL e.cpu=(k.step0 e.cpu).turnL e.cpu:=by unfold KT.stepL;rw [nG oM,pG hw]
  rw [e2,e1]
  obtain ⟨hb,r,hr⟩:k.dk.by_=e.cpu /\ ∃ r,k.dk.run=sS r:=by
   have hf:(k.flags e.cpu).hot=tQ:=by
    have hw2:(k.flags e.cpu).wants=3:=by
     unfold KT.what ib at hw
     generalize (if k.co.is e.cpu then k.co.at e.cpu else core0)=x at hw
     split at hw
     ·cases hw
     split at hw
     ·exact hw
     split at hw<;>cases hw
    unfold fk.wants at hw2
    cases hh:(k.flags e.cpu).hot
    ·rw [hh] at hw2
     generalize k.flags e.cpu=f at hw2
     obtain ⟨a,b,c,d,e',g',h',i,j⟩:=f
     cases a<;>cases b<;>cases d<;>cases e'<;>cases g'<;>cases h'<;>cases i<;>cases j<;>simp at hw2
    ·rfl
   have hf:(k.dk.run.isSome&&decide (k.dk.by_=e.cpu))=tQ:=hf
   simp only [Bool.and_eq_true,decide_eq_true_eq] at hf
   refine ⟨hf.2,?_⟩
   cases hh:k.dk.run with
   | none=>rw [hh] at hf;cases hf.1
   | some r=>exact ⟨r,rfl⟩
  have hb0:(k.step0 e.cpu).dk.by_=e.cpu:=by rw [s4];exact hb
  have hrq:(k.step0 e.cpu).rq=k.rq:=by
   unfold KT.step0
   generalize (if k.co.is e.cpu then k.co.at e.cpu else core0)=x
   split<;>rfl
  have ht:=Fl (Ap hok e.cpu) h0 G0 (by rw [hrq];exact hq) (r:=r) (by rw [s4];exact hr) (by rw [hb0];unfold KT.is at hi ⊢;rw [s1];exact hi)
  rw [hb0] at ht
  have eg:kI g e ((k.step0 e.cpu).turnL e.cpu) ((k.step0 e.cpu).turn e.cpu)=vK g ((k.step0 e.cpu).turnL e.cpu) ((k.step0 e.cpu).turn e.cpu):=by
   unfold kI sI
   rw [nG (λx=>hne x.1)]
  rw [eg]
  exact ht
 ·rw [show k.stepL e.cpu=[] by unfold KT.stepL;rw [pG (.inr (.inr (.inr hw)))],gN,show k.step e.cpu=(k.step0 e.cpu).lie e.cpu by unfold KT.step;rw [nG oM,nG oM,nG oM,nG oM,pG hw]]
  exact G0.keep ⟨rfl,rfl,rfl,rfl⟩ rfl rfl rfl λc hc=>qU hc (hk.of s3 s1) (CT.rest_off _ _ _)
 ·obtain ⟨kd,i,n,r1,r2,r3⟩:=ug (k.step0 e.cpu) e.cpu (k.what e.cpu)
  have e2:k.stepL e.cpu=[⟨kd,e.cpu,i,n,0⟩]:=by unfold KT.stepL;rw [nG oM,nG oM];exact r1
  rw [e2,jL (λx=>hne x.1) (λr hr=>by simp only [List.mem_singleton] at hr;subst hr;show kd≠7;omega) (.inr hne),show k.step e.cpu=(k.step0 e.cpu).thing e.cpu (k.what e.cpu) by unfold KT.step;rw [nG oM,nG oM,nG oM,nG oM,nG oM]]
  obtain ⟨t1,t2,t3,t4,t5,t6⟩:=nW (k.step0 e.cpu) e.cpu (k.what e.cpu)
  exact G0.keep (by rw [t4];exact ⟨rfl,rfl,rfl,rfl⟩) t1 t2 t3 λc hc=>Gd hc (hk.of s3 s1) _ _
theorem JS (hok:k.ok) (h:de k) (G:lY k g) (up:Bool) (cpu:Int):
  lY (k.req up cpu) (if up=tQ /\ k.reqE up cpu=0 then aE g cpu else g):=by
 have hk:=G.act h hok
 by_cases hE:k.reqE up cpu=0
 ·-- let in
  have hs:=AD hok h up cpu
  have hfacts:k.is cpu /\ k.dk.run=nN /\ (up=tQ -> aw k.online cpu=fF) /\ (up=fF -> aw k.online cpu=tQ /\ (cd k.online).length≠1) /\ k.dk.beginE cpu (bc (aE k.active cpu))=0:=by
   unfold KT.reqE at hE
   split at hE;cases hE
   split at hE;cases hE
   split at hE;cases hE
   split at hE;cases hE
   split at hE;cases hE
   rename_i c1 c2 c3 c4 c5
   refine ⟨Classical.not_not.1 c1,?_,λhu=>?_,λhu=>⟨?_,λhl=>c5 ⟨hu,hl⟩⟩,hE⟩
   ·cases hh:k.dk.run
    ·rfl
    ·rw [hh] at c2;exact absurd rfl c2
   ·cases hh:aw k.online cpu
    ·rfl
    ·exact absurd ⟨hu,hh⟩ c3
   ·cases hh:aw k.online cpu
    ·exact absurd ⟨hu,hh⟩ c4
    ·rfl
  obtain ⟨c1,hrn,hu1,hu2,hb⟩:=hfacts
  have hac:=h.no hrn
  have hR:k.reqOk up cpu=tQ:=by
   unfold KT.reqOk
   cases up
   ·obtain ⟨a,b⟩:=hu2 rfl
    simp [c1,a,b,hrn]
   ·have a:=hu1 rfl
    simp [c1,a,hrn]
  have eK:k.req up cpu={ k with gt:=k.gt.want,dk:=k.dk.begin_ up cpu (bc (aE k.active cpu)) }:=by unfold KT.req;rw [hR];rfl
  have eb:k.dk.begin_ up cpu (bc (aE k.active cpu))={ k.dk with run:=sS ⟨if up then 4 else 10,0,fF⟩,up:=up,cpu:=cpu,by_:=bc (aE k.active cpu),told:=false }:=by unfold SH.begin_;rw [pG hb]
  rw [eK,eb]
  have hlne:aE k.active cpu≠0:=by
   cases up
   ·obtain ⟨a,b⟩:=hu2 rfl
    rw [hac]
    exact EB hok.on a b
   ·have a:=hu1 rfl
    intro e0
    apply h.ne
    rw [jx] at e0 ⊢
    intro j
    have hj:=e0 j
    rw [fB] at hj
    by_cases ej:cpu=(j:Int) /\ j<64
    ·rw [hac]
     unfold aw at a
     rw [ej.1] at a
     have h64:=ej.2
     simp only [Int.toNat_natCast] at a
     have hd:decide (0 <= (j:Int) /\ (j:Int)<64)=tQ:=by simp;omega
     rw [hd] at a
     simpa using a
    ·simpa [ej] using hj
  have hfb:=gM hlne (uS hok.ac cpu)
  have hcb:cpu≠bc (aE k.active cpu):=by
   intro e
   have h0:=dQ hfb
   have hx:aw (aE k.active cpu) cpu=tQ:=by rw [<- e] at hfb;exact hfb
   obtain ⟨n,hn⟩:=iN (dQ hx).1
   rw [hn,gH] at hx
   simp at hx
  refine ⟨G.on,λr hr=>?_,λr hr hu hbk=>?_,λc hg=>?_⟩
  ·exact ⟨λx=>hcb x.symm,lK hfb⟩
  ·have:(⟨if up then 4 else 10,0,fF⟩:aR)=r:=Option.some.inj hr
   rw [<- this]
   exact Lv.low (by show 0<2;omega)
  ·have hgc:aw g c=tQ /\ (up=tQ -> cpu≠c):=by
    by_cases hu:up=tQ
    ·rw [pG ⟨hu,hE⟩,gH] at hg
     simp only [Bool.and_eq_true,Bool.not_eq_true',decide_eq_false_iff_not] at hg
     exact ⟨hg.1,λ_=>hg.2⟩
    ·rw [nG (λx=>hu x.1)] at hg
     exact ⟨hg,λx=>absurd x hu⟩
   obtain ⟨a1,a2,a3⟩:=G.gone c hgc.1
   exact ⟨a1,λ_ hu=>hgc.2 hu,a3.off λhcc=>.of hcc rfl rfl rfl rfl rfl rfl rfl⟩
 ·rw [nG (λx=>hE x.2)]
  unfold KT.req
  split
  ·rename_i hR
   have eb:k.dk.begin_ up cpu (bc (aE k.active cpu))=k.dk:=by
    unfold SH.begin_
    split
    ·rename_i hb
     exfalso
     apply hE
     unfold KT.reqOk at hR
     simp only [Bool.and_eq_true,decide_eq_true_eq,Bool.not_eq_true',Bool.and_eq_false_iff,Bool.not_eq_false',decide_eq_false_iff_not] at hR
     obtain ⟨⟨⟨⟨r1,r2⟩,r3⟩,r4⟩,r5⟩:=hR
     unfold KT.reqE
     rw [nG (λx=>x r1),nG (by rw [r2];decide),nG,nG,nG]
     ·exact hb
     ·rintro ⟨x,y⟩;rcases r5 with z|z
      ·rw [x] at z;cases z
      ·exact z y
     ·rintro ⟨x,y⟩;rcases r4 with z|z
      ·rw [x] at z;cases z
      ·rw [y] at z;cases z
     ·rintro ⟨x,y⟩;rcases r3 with z|z
      ·rw [x] at z;cases z
      ·rw [y] at z;cases z
    ·rfl
   rw [eb]
   exact G.keep ⟨rfl,rfl,rfl,rfl⟩ rfl rfl rfl λc hc=>.of hc rfl rfl rfl rfl rfl rfl rfl
  ·exact G
/-- An event keeps what holds of the cores that have gone. -/
theorem LK (hok:k.ok) (h:de k) (G:lY k g) (hq:∀ c x,x∈k.rq.q c -> x.1<8):lY (k.doK e) (kI g e (k.doL e) (k.doK e)):=by
 have hk:=G.act h hok
 by_cases h1:e.kind=1
 ·obtain ⟨d1,d2⟩:=qn k e h1
  rw [d1,d2]
  by_cases hi:k.is e.cpu
  ·rw [nG (λx=>x hi),nG (λx=>x hi)]
   exact GY hok h G hq h1 hi
  ·rw [pG hi,pG hi,jL (λx=>by omega) Cd (.inr oM)]
   exact G
 by_cases hr:e.kind=23 \/ e.kind=24
 ·obtain ⟨d1,d2⟩:=zD k e hr
  rw [d1,d2]
  have hg:=JS hok h G (decide (e.kind=23)) e.cpu
  have eg:kI g e (aW 0 (k.reqE (decide (e.kind=23)) e.cpu)) (k.req (decide (e.kind=23)) e.cpu)=if decide (e.kind=23)=tQ /\ k.reqE (decide (e.kind=23)) e.cpu=0 then aE g e.cpu else g:=by
   unfold kI vK sI aW
   rw [List.foldl_cons,List.foldl_nil]
   unfold qi
   rw [nG (λx=>absurd x.1 (by show ¬ (1:Int)=7;decide))]
   simp
  rw [eg]
  exact hg
 obtain ⟨id,why,ha⟩:=EL k e h1
 have h23:e.kind≠23:=by omega
 rw [jL (λx=>h23 x.1) (by rw [ha];exact Cd) (.inr h23)]
 by_cases h25:e.kind=25
 ·rw [vT k e h25]
  unfold KT.plan
  split
  ·exact G
  ·refine G.keep ?_ rfl rfl rfl λc hc=>.of hc rfl rfl rfl rfl rfl rfl rfl
   show (k.dk.doPlan e.n).run=_ /\ (k.dk.doPlan e.n).up=_ /\ (k.dk.doPlan e.n).cpu=_ /\ (k.dk.doPlan e.n).by_=_
   unfold SH.doPlan
   split<;>exact ⟨rfl,rfl,rfl,rfl⟩
 have hO:=λ(c:Nat) (hc:aw k.active c=fF)=>Gh (e:=e) hc hk hok.rq h1 oM oM h25
 by_cases h2:e.kind=2
 ·have ht:=qI k e.n
  rw [qm k e h2]
  rw [qm k e h2] at hO
  exact G.keep (by rw [ht.2.2.2.1];exact ⟨rfl,rfl,rfl,rfl⟩) ht.1 ht.2.1 ht.2.2.1 hO
 ·have hs:=oa k e h1 h2 oM oM h25
  exact G.keep (by rw [hs.dk];exact ⟨rfl,rfl,rfl,rfl⟩) hs.n hs.on hs.ac hO
theorem Nq (n:Nat) (hn:n <= 64):lY (k0 n) 0:=by
 refine ⟨λc hc=>?_,λr hr=>(by cases hr),λr hr=>(by cases hr),λc hc=>?_⟩
 ·have hc:aw (bs n) c=tQ:=hc
  unfold aw at hc
  simp only [Int.toNat_natCast,xh,Bool.and_eq_true,decide_eq_true_eq] at hc
  show c<n
  omega
 ·unfold aw at hc
  simp at hc
end
theorem KK {a i:Nat} (hi:i<64) (h:a.testBit i=tQ):((aE a (i:Int):Nat):Int)=(a:Int) - (2 ^ i:Nat):=by
 have e:aE a (i:Int)=a ^^^ 2 ^ i:=by
  apply Nat.eq_of_testBit_eq
  intro j
  rw [fB,Nat.testBit_xor,Nat.testBit_two_pow]
  by_cases ej:i=j
  ·subst ej;simp [h,hi]
  ·have:¬ ((i:Int)=(j:Int)):=by omega
   simp [ej,this]
 have hb:(a ^^^ 2 ^ i).testBit i=fF:=by rw [Nat.testBit_xor,Nat.testBit_two_pow,h];simp
 have h1:=EP hb
 have h2:(a ^^^ 2 ^ i) ||| 2 ^ i=a:=by
  apply Nat.eq_of_testBit_eq
  intro j
  rw [Nat.testBit_or,Nat.testBit_xor,Nat.testBit_two_pow]
  by_cases ej:i=j
  ·subst ej;simp [h]
  ·simp [ej]
 rw [h2] at h1
 rw [e]
 omega
theorem GF {a:Nat} {c:Int} (h:aw a c=fF):aE a c=a:=by
 apply Nat.eq_of_testBit_eq
 intro j
 rw [fB]
 unfold aw at h
 by_cases ej:c=(j:Int) /\ j<64
 ·obtain ⟨rfl,h2⟩:=ej
  simp only [Int.toNat_natCast,Bool.and_eq_false_iff,decide_eq_false_iff_not] at h
  rcases h with h|h
  ·omega
  ·simp [h]
 ·simp [ej]
theorem EY {a:Nat} {c:Int} (h:¬ (0 <= c /\ c<64) \/ aw a c=tQ):aP a c=a:=by
 apply Nat.eq_of_testBit_eq
 intro j
 rw [kg]
 unfold aw at h
 by_cases ej:c=(j:Int) /\ j<64
 ·obtain ⟨rfl,h2⟩:=ej
  simp only [Int.toNat_natCast,Bool.and_eq_true,decide_eq_true_eq] at h
  rcases h with h|h
  ·omega
  ·simp [h]
 ·simp [ej]
theorem BM {a i:Nat} (hi:i<64):aw a (i:Int)=a.testBit i:=by
 unfold aw
 rw [decide_eq_true ⟨by omega,by omega⟩]
 simp
theorem EZ {a i:Nat} (hi:i<64):aP a (i:Int)=a ||| 2 ^ i:=by
 apply Nat.eq_of_testBit_eq
 intro j
 rw [kg,Nat.testBit_or,Nat.testBit_two_pow]
 by_cases ej:i=j
 ·subst ej;simp [hi]
 ·have:¬ ((i:Int)=(j:Int)):=by omega
  simp [ej,this]
theorem gz (a:Nat) (c:Int) (w:wW):Calls tp 24 #[vi uQ a,vi iQ c] w (ay (vb (aw a c)) w):=by
 by_cases h:0 <= c /\ c<64
 ·obtain ⟨i,rfl⟩:=iN h.1
  have hi:i<64:=by omega
  rw [BM hi]
  exact qO a i w hi
 ·have hz:aw a c=fF:=by unfold aw;rw [decide_eq_false h];rfl
  rw [hz]
  have h1:c<0 \/ (¬ c<0 /\ 63<c):=by omega
  clear h hz
  rcases h1 with h1|⟨h1,h2⟩
  all_goals
   go_in
   go_wp2
   go_ret
   exact ay.of (rfl) dz
theorem AB (a:Nat) (c:Int) (w:wW) (ha:a<2 ^ 64):Calls tp 22 #[vi uQ a,vi iQ c] w (ay (vi uQ (aE a c:Nat)) w):=by
 cases hb:aw a c
 ·rw [GF hb]
  go_in
  go_wp2_with (go_at_call 24;refine (gz a c _).mono ?_;rw [hb];rintro e w' ⟨rfl,k,rfl⟩)
  go_ret
  exact ay.of (rfl) dz
 ·obtain ⟨h0,h64⟩:=dQ hb
  obtain ⟨i,rfl⟩:=iN h0
  have hi:i<64:=by omega
  have hbb:=hb
  rw [BM hi] at hbb
  have hs:=KK hi hbb
  have hl:=uS ha (i:Int)
  have h1:IntKind.u64.wrap ((a:Int) - IntKind.u64.wrap (2 ^ i))=((aE a (i:Int):Nat):Int):=by
   have h2:=ke (2 ^ i) (gB hi)
   rw [Int.natCast_pow] at h2
   rw [show (2:Int) ^ i=((2:Nat):Int) ^ i from rfl,h2,<- Int.natCast_pow,<- hs]
   exact ke _ hl
  have H1:=zh h1
  clear h1 hs hl hbb
  go_in
  go_wp2_with (go_at_call 24;refine (gz a i _).mono ?_;rw [hb];rintro e w' ⟨rfl,k,rfl⟩)
  go_ret
  exact ay.of (by rw [<- H1.out];rfl) dz
theorem AA (a:Nat) (c:Int) (w:wW) (ha:a<2 ^ 64):Calls tp 23 #[vi uQ a,vi iQ c] w (ay (vi uQ (aP a c:Nat)) w):=by
 by_cases h:0 <= c /\ c<64
 ·obtain ⟨i,rfl⟩:=iN h.1
  have hi:i<64:=by omega
  rw [EZ hi]
  exact CQ a i w ha hi
 ·rw [EY (.inl h)]
  have h1:c<0 \/ (¬ c<0 /\ 63<c):=by omega
  clear h
  rcases h1 with h1|⟨h1,h2⟩
  all_goals
   go_in
   go_wp2
   go_ret
   exact ay.of (rfl) dz
section
variable {F:List Nat} {w u:wW} {d:Nat} {k:KT}
theorem Es {t:RT} {c:Nat} (h:∀ i,i<16 -> t.c i≠(c:Int)+1):∀ n,n <= 16 -> t.onL (c:Int) n=[]
 | 0,_=>rfl
 | n+1,hn=>by
  have h0:=Es h n oM
  have h1:=h n oM
  unfold RT.onL
  rw [nG,h0]
  intro x
  simp only [Bool.and_eq_true,decide_eq_true_eq] at x
  obtain ⟨x1,x2⟩:=x
  unfold RT.of at x2
  rw [pG x1] at x2
  simp only [Int.toNat_natCast] at x2
  omega
theorem yb (h:(aa d k).holds F w) {c:Nat} (hc:c<k.n) (L:Lv k c 10):Calls tp 25 #[vp (sS ⟨d,0,nN⟩),vi iQ c] w (aK (vb tQ) w):=by
 obtain ⟨hok,p,hK⟩:=ab h
 have hcz:(c:Int).toNat=c:=rfl
 have g1:=tr hK
 have g2:=λv (m:af [] w v)=>rK (hK.keep m)
 have g3:=λv (m:af [] w v)=>rJ (hK.keep m)
 have g4:=λv (m:af [] w v)=>tg (hK.keep m)
 have g5:=λv (m:af [] w v)=>tu (hK.keep m)
 have g6:=λv (m:af [] w v)=>pX (hK.keep m)
 have g7:=λv (m:af [] w v)=>tj (hK.keep m)
 obtain ⟨il,wy,si,st,bu,hcc⟩:∃ il wy si st bu,k.co.c c=⟨fF,il,wy,si,st,bu⟩:=by
  have:=L.p oM
  rcases hx:k.co.c c with ⟨a1,a2,a3,a4,a5,a6⟩
  rw [hx] at this
  exact ⟨a2,a3,a4,a5,a6,by simp only at this;rw [this]⟩
 have t1:∀ v,af [] w v -> Calls tp 84 #[vp (sS ⟨p.co,0,nN⟩),vi iQ c] v (aK (.tuple #[.agg #[vb fF,vb il,vi iQ wy,vi iQ si,vi iQ st,vi iQ bu],vi iQ 0]) v):=λv m=>by
  have:=eN ((hK.keep m).get 12 rfl).choose_spec (c:Int)
  have hi:k.co.is (c:Int):=⟨by omega,by rw [hok.co];omega⟩
  rw [pG hi,show k.co.findE (c:Int)=0 from pG hi,show k.co.at (c:Int)=k.co.c c from rfl,hcc] at this
  exact this
 have t2:∀ v,af [] w v -> Calls tp 85 #[vp (sS ⟨p.rq,0,nN⟩),vi iQ c] v (ay (vi iQ 0) v):=λv m=>by
  have:=iS ((hK.keep m).get 3 rfl).choose_spec (c:Int)
  rw [show k.rq.load (c:Int)=0 by unfold RQ.load RQ.at;rw [hcz,L.q oM];split<;>rfl] at this
  exact this
 have t3:∀ v,af [] w v -> Calls tp 86 #[vp (sS ⟨p.tm,0,nN⟩),vi iQ c] v (aK (vi iQ 0) v):=λv m=>by
  have:=Ag ((hK.keep m).get 4 rfl).choose_spec (c:Int)
  rw [show k.tm.list (c:Int)=[] by unfold TA.list;rw [hcz,L.t oM];split<;>rfl] at this
  exact this
 have t4:∀ v,af [] w v -> Calls tp 87 #[vp (sS ⟨p.wk,0,nN⟩),vi iQ c] v (aK (vi iQ 0) v):=λv m=>by
  have:=qH ((hK.keep m).get 7 rfl).choose_spec (c:Int)
  rw [show k.wk.list (c:Int)=[] by unfold cu.list cu.at;rw [show ((c:Int)+1).toNat=c+1 from by omega,L.w oM];split<;>rfl] at this
  exact this
 have t5:∀ v,af [] w v -> Calls tp 88 #[vp (sS ⟨p.cb,0,nN⟩),vi iQ c] v (aK (vi iQ 0) v):=λv m=>by
  have:=yF ((hK.keep m).get 8 rfl).choose_spec (c:Int)
  rw [show k.cb.list (c:Int)=[] by unfold dO.list dO.at;rw [hcz,L.b oM];split<;>rfl] at this
  exact this
 have t6:∀ v,af [] w v -> Calls tp 89 #[vp (sS ⟨p.ob,0,nN⟩),vi iQ c] v (λe v'=>∃ a cap,e=.returned (.slice a 0 cap) /\ af [] v v'):=λv m=>by
  have:=CF ((hK.keep m).get 9 rfl).choose_spec (c:Int)
  rw [show k.ob.keptL (c:Int)=[] by unfold bL.keptL;rw [hcz,L.o oM];split<;>rfl] at this
  exact this.mono λe v' ⟨g,cap,e1,_,e2,_⟩=>⟨_,cap,e1,e2⟩
 have t7:∀ v,af [] w v -> Calls tp 90 #[vp (sS ⟨p.rt,0,nN⟩),vi iQ c] v (λe v'=>∃ a cap,e=.returned (.slice a 0 cap) /\ af [] v v'):=λv m=>by
  have:=ur ((hK.keep m).get 6 rfl).choose_spec (c:Int)
  rw [Es (L.r oM) 16 oM] at this
  exact this.mono λe v' ⟨g,cap,e1,_,e2,_⟩=>⟨_,cap,e1,e2⟩
 clear hK h hok L hcc hc hcz
 go_in
 go_wp2_with (first
  | (go_at_call 40;refine g1.s λv1 m1=>?_;clear g1)
  | (go_at_call 84;refine (t1 _ m1).s λv2 n2=>?_;have m2:=m1.trans n2 sM;have hx:=ad (ai v2 (.cells #[vb fF,vb il,vi iQ wy,vi iQ si,vi iQ st,vi iQ bu] 152 (0,0))) 0;clear t1 n2)
  | (go_at_call 31;refine (g2 _ (by first|exact m2.alloc _|exact (m2.alloc _).drewN _)).s λv3 n3=>?_;have m3:=(m2.alloc _).trans n3 sM;clear g2 n3)
  | (go_at_call 85;refine (t2 _ m3).r λj4=>?_;have m4:=m3.drewN j4;clear t2)
  | (go_at_call 32;refine (g3 _ m4).s λv5 n5=>?_;have m5:=m4.trans n5 sM;clear g3 n5)
  | (go_at_call 86;refine (t3 _ m5).s λv6 n6=>?_;have m6:=m5.trans n6 sM;clear t3 n6)
  | (go_at_call 35;refine (g4 _ m6).s λv7 n7=>?_;have m7:=m6.trans n7 sM;clear g4 n7)
  | (go_at_call 87;refine (t4 _ m7).s λv8 n8=>?_;have m8:=m7.trans n8 sM;clear t4 n8)
  | (go_at_call 36;refine (g5 _ m8).s λv9 n9=>?_;have m9:=m8.trans n9 sM;clear g5 n9)
  | (go_at_call 88;refine (t5 _ m9).s λva na=>?_;have ma:=m9.trans na sM;clear t5 na)
  | (go_at_call 37;refine (g6 _ ma).s λvb nb=>?_;have mb:=ma.trans nb sM;clear g6 nb)
  | (go_at_call 89;refine (t6 _ mb).mono ?_;rintro e vc ⟨sa,sc,rfl,nc⟩;have mc:=mb.trans nc sM;clear t6 nc)
  | (go_at_call 34;refine (g7 _ mc).s λvd nd=>?_;have md:=mc.trans nd sM;clear g7 nd)
  | (go_at_call 90;refine (t7 _ md).mono ?_;rintro e ve ⟨ra,rc,rfl,ne⟩;have me:=md.trans ne sM;clear t7 ne))
 go_ret
 exact ⟨rfl,me⟩
end
end Go.Proofs.YtaakgpnmfkmdoaaGreatDoor