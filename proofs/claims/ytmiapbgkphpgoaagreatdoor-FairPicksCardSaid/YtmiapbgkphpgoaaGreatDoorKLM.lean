/- Walks and plain laws of the kernel. No condition. -/
import Derived.Test.YtmiapbgkphpgoaaGreatDoorKRM
import Derived.Test.YtmiapbgkphpgoaaGreatDoorKZM
import Derived.Test.YtmiapbgkphpgoaaGreatDoorKAM
namespace Go.Proofs.YtmiapbgkphpgoaaGreatDoor
set_option linter.unusedVariables false
set_option linter.unusedSimpArgs false
set_option maxRecDepth 100000
set_option maxHeartbeats 20000000
open Go.RowKit
open Go.Proofs.Tryz renaming prog → tp
open List renaming setIfInBounds_toArray → sA, set_cons_zero → sB, set_cons_succ → sC
open Go renaming World → wW
open Go.Value renaming pointer → vp, bool → vb, int → vi
open Go.IntKind renaming i64 → iQ, u64 → uQ
open Option renaming none → nN, some → sS
open Bool renaming true → tQ, false → fF
open Int renaming eq_ofNat_of_zero_le → iN
/-- Masks, request, counts and cores are the same. -/
structure bU (k k':KT):Prop where
 n:k'.n=k.n
 on:k'.online=k.online
 ac:k'.active=k.active
 dk:k'.dk=k.dk
 ct:k'.ct=k.ct
 co:k'.co=k.co
theorem bU.rfl {k:KT}:bU k k:=⟨Eq.refl _,Eq.refl _,Eq.refl _,Eq.refl _,Eq.refl _,Eq.refl _⟩
theorem dJ {k a b:KT} {c:Prop} [Decidable c] (h:bU k a) (g:bU k b):bU k (if c then a else b):=by split<;>assumption
def CU (l:List cX):Prop:=∃ id why,l=aX id why
theorem Ev {a b:List cX} {c:Prop} [Decidable c] (h:CU a) (g:CU b):CU (if c then a else b):=by split<;>assumption
theorem bU.trans {k k' k'':KT} (h:bU k k') (g:bU k' k''):bU k k'':=⟨g.n.trans h.n,g.on.trans h.on,g.ac.trans h.ac,g.dk.trans h.dk,g.ct.trans h.ct,g.co.trans h.co⟩
section
variable (k:KT) (id near cpu n a b st by_ t p:Int) (m:Nat) (e:jR) (x:jQ)
theorem px:bU k (k.mend id):=by unfold KT.mend;split;exact .rfl;exact ⟨rfl,rfl,rfl,rfl,rfl,rfl⟩
theorem py:bU k (k.lead id near):=⟨rfl,rfl,rfl,rfl,rfl,rfl⟩
theorem sI:bU k (k.aim id):=by unfold KT.aim;split;exact py _ _ _;exact .rfl
theorem Ba:bU k (k.spawn p m):=by unfold KT.spawn;split;exact ⟨rfl,rfl,rfl,rfl,rfl,rfl⟩;exact .rfl
theorem Bc:bU k (k.quiet t):=⟨rfl,rfl,rfl,rfl,rfl,rfl⟩
theorem Dw:bU k (k.wake id):=⟨rfl,rfl,rfl,rfl,rfl,rfl⟩
theorem Bb:bU k (k.sleep id x n):=by
 unfold KT.sleep;split;exact .rfl;split;exact .rfl;exact ⟨rfl,rfl,rfl,rfl,rfl,rfl⟩
theorem Dx:bU k (k.exit id x):=by
 unfold KT.exit;cases x.sleeps<;>exact ⟨rfl,rfl,rfl,rfl,rfl,rfl⟩
theorem uS:bU k (k.threaded e):=by
 unfold KT.threaded
 split;exact .rfl
 split;exact .rfl
 split;exact Dx _ _ _
 split
 ·split
  ·exact bU.trans (k':={ k with th:=k.th.aim e.id e.mask }) ⟨rfl,rfl,rfl,rfl,rfl,rfl⟩ (px _ _)
  ·exact .rfl
 split;exact .rfl
 split;exact Bb _ _ _ _
 split;exact ⟨rfl,rfl,rfl,rfl,rfl,rfl⟩
 exact (Bc _ _).trans (Dw _ _)
theorem FV:bU k (k.irq e):=by
 unfold KT.irq
 split
 ·split
  ·exact bU.trans (k':={ k with iq:=k.iq.req e.id e.mask }) ⟨rfl,rfl,rfl,rfl,rfl,rfl⟩ (py _ _ _)
  ·exact .rfl
 split
 ·split<;>exact ⟨rfl,rfl,rfl,rfl,rfl,rfl⟩
 split
 ·split
  ·exact bU.trans (k':={ k with iq:=k.iq.aim e.id e.mask }) ⟨rfl,rfl,rfl,rfl,rfl,rfl⟩ (sI _ _)
  ·exact .rfl
 split;exact ⟨rfl,rfl,rfl,rfl,rfl,rfl⟩
 split<;>exact ⟨rfl,rfl,rfl,rfl,rfl,rfl⟩
theorem yN:bU k (k.placed e):=by
 unfold KT.placed KT.arm
 split;exact .rfl
 split
 ·split<;>exact ⟨rfl,rfl,rfl,rfl,rfl,rfl⟩
 split;exact ⟨rfl,rfl,rfl,rfl,rfl,rfl⟩
 split;exact ⟨rfl,rfl,rfl,rfl,rfl,rfl⟩
 split;exact ⟨rfl,rfl,rfl,rfl,rfl,rfl⟩
 split<;>exact ⟨rfl,rfl,rfl,rfl,rfl,rfl⟩
theorem FW:bU k k.bal:=by unfold KT.bal;split<;>exact ⟨rfl,rfl,rfl,rfl,rfl,rfl⟩
theorem sH:bU k (k.empty cpu):=by unfold KT.empty;split;exact .rfl;exact ⟨rfl,rfl,rfl,rfl,rfl,rfl⟩
theorem ir {α:Type} {f:KT -> α -> KT} (hf:∀ k a,bU k (f k a)):∀ (l:List α) (k:KT),bU k (l.foldl f k)
 | [],k=>.rfl
 | a :: l,k=>(hf k a).trans (ir hf l _)
theorem vG:bU k (k.halt cpu by_):=by
 unfold KT.halt
 split;exact ⟨rfl,rfl,rfl,rfl,rfl,rfl⟩
 split;exact .rfl
 exact (ir (λk i=>py k i cpu) (k.rt.onL cpu 16) k).trans ⟨rfl,rfl,rfl,rfl,rfl,rfl⟩
/-- All other events than steps, ticks, requests, plans. -/
theorem Bd (h1:e.kind≠1) (h2:e.kind≠2) (h23:e.kind≠23) (h24:e.kind≠24) (h25:e.kind≠25):bU k (k.doK e):=by
 have hr:¬ (e.kind=23 \/ e.kind=24):=by omega
 unfold KT.doK
 rw [nG h1,nG h2,nG hr,nG h25]
 refine dJ (Ba _ _ _) (dJ (uS _ _) (dJ (FV _ _) (dJ ⟨rfl,rfl,rfl,rfl,rfl,rfl⟩ (dJ (yN _ _) (dJ ?_ (dJ .rfl (dJ ⟨rfl,rfl,rfl,rfl,rfl,rfl⟩ (dJ ?_ (dJ ⟨rfl,rfl,rfl,rfl,rfl,rfl⟩ (dJ (FW _) .rfl))))))))))
 ·unfold KT.cancel;split<;>exact ⟨rfl,rfl,rfl,rfl,rfl,rfl⟩
 ·unfold KT.lim;split<;>exact ⟨rfl,rfl,rfl,rfl,rfl,rfl⟩
/-- What an event answers that is not a step. -/
theorem CO (h1:e.kind≠1):CU (k.doL e):=by
 unfold KT.doL KT.threadedL KT.placedL
 rw [nG h1]
 repeat (first|apply Ev|exact ⟨_,_,rfl⟩)
theorem JD (h:e.kind=23 \/ e.kind=24):k.doL e=aX 0 (k.reqE (decide (e.kind=23)) e.cpu) /\ k.doK e=k.req (decide (e.kind=23)) e.cpu:=by
 have h1:e.kind≠1:=by omega
 have h2:e.kind≠2:=by omega
 have h3:e.kind≠3:=by omega
 have h4:¬ (4 <= e.kind /\ e.kind <= 9):=by omega
 have h5:¬ (12 <= e.kind /\ e.kind <= 17):=by omega
 have h6:¬ (e.kind=18 /\ e.cpu=-1):=by omega
 have h7:¬ (e.kind=10 \/ e.kind=18 \/ (20 <= e.kind /\ e.kind <= 22) \/ e.kind=26):=by omega
 constructor
 ·unfold KT.doL;rw [nG h1,nG h2,nG h3,nG h4,nG h5,nG h6,nG h7,pG h]
 ·unfold KT.doK;rw [nG h1,nG h2,nG h3,nG h4,nG h5,nG h6,nG h7,pG h]
theorem Hp (h:e.kind=25):k.doK e=k.plan e.n:=by
 have h1:e.kind≠1:=by omega
 have h2:e.kind≠2:=by omega
 have h3:e.kind≠3:=by omega
 have h4:¬ (4 <= e.kind /\ e.kind <= 9):=by omega
 have h5:¬ (12 <= e.kind /\ e.kind <= 17):=by omega
 have h6:¬ (e.kind=18 /\ e.cpu=-1):=by omega
 have h7:¬ (e.kind=10 \/ e.kind=18 \/ (20 <= e.kind /\ e.kind <= 22) \/ e.kind=26):=by omega
 have h8:¬ (e.kind=23 \/ e.kind=24):=by omega
 have h9:e.kind≠11:=by omega
 have h10:e.kind≠19:=by omega
 unfold KT.doK;rw [nG h1,nG h2,nG h3,nG h4,nG h5,nG h6,nG h7,nG h8,nG h9,nG h10,pG h]
theorem Hq (h:e.kind=2):k.doK e=k.tick e.n:=by
 unfold KT.doK;rw [nG oM,pG h]
theorem ux (h:e.kind=1):k.doK e=(if ¬ k.is e.cpu then k else k.step e.cpu) /\ k.doL e=(if ¬ k.is e.cpu then aX 0 3 else k.stepL e.cpu):=by
 constructor
 ·unfold KT.doK;rw [pG h]
 ·unfold KT.doL;rw [pG h]
theorem tc (d:Int):∀ j,(k.meets d j).online=k.online /\ (k.meets d j).active=k.active /\ (k.meets d j).dk=k.dk /\ (k.meets d j).ct=k.ct
 | 0=>⟨rfl,rfl,rfl,rfl⟩
 | j+1=>by
  have h:=tc d j
  show ((k.meets d j).meetAt d j).online=_ /\ ((k.meets d j).meetAt d j).active=_ /\ ((k.meets d j).meetAt d j).dk=_ /\ ((k.meets d j).meetAt d j).ct=_
  unfold KT.meetAt
  split
  ·exact h
  ·exact h
theorem Dl (d:Int):(k.tick d).n=k.n /\ (k.tick d).online=k.online /\ (k.tick d).active=k.active /\ (k.tick d).dk=k.dk /\ (k.tick d).ct=k.ct:=by
 unfold KT.tick
 split
 ·exact ⟨rfl,rfl,rfl,rfl,rfl⟩
 ·have h:=tc k d k.n
  exact ⟨(rN k d k.n).1,h.1,h.2.1,h.2.2.1,h.2.2.2⟩
theorem Dk (d:Int) (h:bl k.co):bl (k.tick d).co:=by
 unfold KT.tick
 split
 ·exact h
 ·exact kq h d k.n
end
theorem CT.pow_ways {t:CT} (h:bl t) (c:Int) (on:Bool):bl (t.pow c on):=by
 unfold CT.pow
 split
 ·exact h.put _ ⟨by show (0:Int) <= 0;decide,by show (0:Int)<4;decide⟩
 ·exact h
theorem Cf (a b:Int):0 <= dU a b /\ dU a b<4:=by
 unfold dU
 repeat (first|split|decide)
theorem CT.rest_ways {t:CT} (h:bl t) (c now a b:Int):bl (t.rest c (dU a b) now):=by
 unfold CT.rest
 split
 ·exact h.put _ (Cf a b)
 ·exact h
theorem CT.wake_ways {t:CT} (h:bl t) (c now:Int):bl (t.wake c now):=by
 unfold CT.wake
 split
 ·exact h.put _ ⟨by show (0:Int) <= 0;decide,by show (0:Int)<4;decide⟩
 ·exact h
theorem CT.count_ways {t:CT} (h:bl t) (c:Int) (f:Bool):bl (t.count c f):=by
 unfold CT.count
 split
 ·exact h.put _ (h _)
 ·exact h
section
variable (k:KT) (st cpu by_:Int) (u:Bool)
def KT.stOn:Nat:=if u then k.online else if st=0 then k.online else if k.dk.up then (if st=1 \/ st=2 then k.online else bn k.online cpu) else if 1 <= st /\ st <= 8 then k.online else aK k.online cpu
def KT.stAc:Nat:=if u then (if st=1 /\ k.dk.up=fF then bn k.active cpu else k.active) else if st=0 then k.active else if k.dk.up then (if st=1 \/ st=2 then k.active else bn k.active cpu) else if st=1 then aK k.active cpu else k.active
structure KE (k2:KT):Prop where
 dk:k2.dk=k.dk
 n:k2.n=k.n
 way:bl k2.co
 on:k2.online=k.stOn st cpu u
 ac:k2.active=k.stAc st cpu u
theorem pt {k k2:KT} (h:bU k k2) (hw:bl k.co):k2.dk=k.dk /\ k2.n=k.n /\ bl k2.co /\ k2.online=k.online /\ k2.active=k.active:=⟨h.dk,h.n,by rw [h.co];exact hw,h.on,h.ac⟩
theorem sE (hw:bl k.co):KE k st cpu u (k.stage st u cpu by_):=by
 unfold KT.stage
 cases u with
 | true=>
  rw [pG rfl]
  unfold KT.undo
  by_cases h1:st=1
  ·rw [pG h1]
   cases hu:k.dk.up
   ·rw [nG dE]
    exact ⟨rfl,rfl,hw,by unfold KT.stOn;rfl,by unfold KT.stAc;rw [pG rfl,pG ⟨h1,hu⟩]⟩
   ·rw [pG rfl]
    exact ⟨rfl,rfl,CT.pow_ways hw _ _,by unfold KT.stOn;rfl,by unfold KT.stAc;rw [pG rfl,nG (λx=>by rw [hu] at x;cases x.2)]⟩
  ·rw [nG h1]
   exact ⟨rfl,rfl,hw,by unfold KT.stOn;rfl,by unfold KT.stAc;rw [pG rfl,nG (λx=>h1 x.1)]⟩
 | false=>
  rw [nG dE]
  by_cases h0:st=0
  ·rw [pG h0]
   exact ⟨rfl,rfl,hw,by unfold KT.stOn;rw [nG dE,pG h0],by unfold KT.stAc;rw [nG dE,pG h0]⟩
  ·rw [nG h0]
   cases hu:k.dk.up
   ·rw [nG dE]
    have eO:k.stOn st cpu fF=if 1 <= st /\ st <= 8 then k.online else aK k.online cpu:=by unfold KT.stOn;rw [nG dE,nG h0,nG (by rw [hu];decide)]
    have eA:k.stAc st cpu fF=if st=1 then aK k.active cpu else k.active:=by unfold KT.stAc;rw [nG dE,nG h0,nG (by rw [hu];decide)]
    unfold KT.leave
    by_cases h1:st=1
    ·rw [pG h1];exact ⟨rfl,rfl,hw,by rw [eO,pG oM],by rw [eA,pG h1]⟩
    rw [nG h1]
    by_cases h2:st=2
    ·rw [pG h2]
     obtain ⟨a1,a2,a3,a4,a5⟩:=pt (sH k cpu) hw
     exact ⟨a1,a2,a3,by rw [eO,pG oM,a4],by rw [eA,nG h1,a5]⟩
    rw [nG h2]
    by_cases h3:st=3
    ·rw [pG h3];exact ⟨rfl,rfl,hw,by rw [eO,pG oM],by rw [eA,nG h1]⟩
    rw [nG h3]
    by_cases h4:st=4
    ·rw [pG h4];exact ⟨rfl,rfl,hw,by rw [eO,pG oM],by rw [eA,nG h1]⟩
    rw [nG h4]
    by_cases h5:st=5
    ·rw [pG h5];exact ⟨rfl,rfl,hw,by rw [eO,pG oM],by rw [eA,nG h1]⟩
    rw [nG h5]
    by_cases h6:st=6
    ·rw [pG h6]
     obtain ⟨a1,a2,a3,a4,a5⟩:=pt (vG k cpu by_) hw
     exact ⟨a1,a2,a3,by rw [eO,pG oM,a4],by rw [eA,nG h1,a5]⟩
    rw [nG h6]
    by_cases h7:st=7
    ·rw [pG h7];exact ⟨rfl,rfl,hw,by rw [eO,pG oM],by rw [eA,nG h1]⟩
    rw [nG h7]
    by_cases h8:st=8
    ·rw [pG h8];exact ⟨rfl,rfl,hw,by rw [eO,pG oM],by rw [eA,nG h1]⟩
    rw [nG h8]
    exact ⟨rfl,rfl,CT.pow_ways hw _ _,by rw [eO,nG oM],by rw [eA,nG h1]⟩
   ·rw [pG rfl]
    have eO:k.stOn st cpu fF=if st=1 \/ st=2 then k.online else bn k.online cpu:=by unfold KT.stOn;rw [nG dE,nG h0,pG hu]
    have eA:k.stAc st cpu fF=if st=1 \/ st=2 then k.active else bn k.active cpu:=by unfold KT.stAc;rw [nG dE,nG h0,pG hu]
    unfold KT.come
    by_cases h1:st=1
    ·rw [pG h1];exact ⟨rfl,rfl,CT.pow_ways hw _ _,by rw [eO,pG (.inl h1)],by rw [eA,pG (.inl h1)]⟩
    rw [nG h1]
    by_cases h2:st=2
    ·rw [pG h2];exact ⟨rfl,rfl,hw,by rw [eO,pG (.inr h2)],by rw [eA,pG (.inr h2)]⟩
    rw [nG h2]
    have hs:∀ k1:KT,bU k1 ((KT.come.idsOfI (k1.th.list.foldl KT.mend k1).iq).foldl KT.aim (k1.th.list.foldl KT.mend k1)):=λk1=>(ir px _ _).trans (ir sI _ _)
    have hs:=hs { k with online:=bn k.online cpu,active:=bn k.active cpu }
    obtain ⟨a1,a2,a3,a4,a5⟩:=pt hs hw
    exact ⟨a1,a2,a3,by rw [eO,nG oM];exact a4,by rw [eA,nG oM];exact a5⟩
theorem xq (h:k.stageB st u cpu by_=fF):u=fF /\ (st=0 \/ (k.dk.up=fF /\ 2 <= st /\ st <= 6)):=by
 unfold KT.stageB at h
 cases u with
 | true=>rw [pG rfl] at h;cases h
 | false=>
  refine ⟨rfl,?_⟩
  rw [nG dE] at h
  by_cases h0:st=0
  ·exact .inl h0
  ·rw [nG h0] at h
   cases hu:k.dk.up
   ·rw [hu,nG dE] at h
    refine .inr ⟨rfl,?_⟩
    unfold KT.leaveB at h
    by_cases hc:2 <= st /\ st <= 6
    ·exact hc
    ·rw [nG oM,nG oM,nG oM,nG oM,nG oM] at h
     cases h
   ·rw [hu,pG rfl] at h;cases h
end
section
variable {m:Nat} {c:Int}
theorem wM (h:aW m c=tQ):0 <= c /\ c<64:=by
 unfold aW at h
 simp only [Bool.and_eq_true,decide_eq_true_eq] at h
 exact h.1
theorem lR (j:Nat):(aK m c).testBit j=(m.testBit j&&!decide (c=(j:Int) /\ j<64)):=by
 unfold aK
 rw [lX,nT]
theorem vz (j:Nat):(bn m c).testBit j=(m.testBit j||decide (c=(j:Int) /\ j<64)):=by
 unfold bn
 rw [Nat.testBit_or,nT]
theorem Db (h:aW m c=tQ):bn (aK m c) c=m:=by
 have hc:=wM h
 apply Nat.eq_of_testBit_eq
 intro j
 rw [vz,lR]
 by_cases e:c=(j:Int) /\ j<64
 ·have:m.testBit j=tQ:=by
   unfold aW at h
   simp only [Bool.and_eq_true,decide_eq_true_eq] at h
   rw [e.1] at h
   simpa using h.2
  simp [e,this]
 ·simp [e]
theorem zz:dF (aK m c) m=0:=by
 rw [jP]
 intro j
 rw [lX,lR]
 cases m.testBit j<;>simp
theorem kX:dF m m=0:=by
 rw [jP]
 intro j
 rw [lX]
 cases m.testBit j<;>rfl
theorem Ir (h:m≠0):bn m c≠0:=by
 intro e
 apply h
 rw [jP] at e ⊢
 intro j
 have:=e j
 rw [vz] at this
 simp only [Bool.or_eq_false_iff] at this
 exact this.1
/-- One that is not the only one. -/
theorem Jk (hm:m<2 ^ 64) (h:aW m c=tQ) (hl:(cw m).length≠1):aK m c≠0:=by
 intro e
 apply hl
 have hc:=wM h
 rw [jP] at e
 have hbit:∀ j,m.testBit j=decide (c=(j:Int)):=by
  intro j
  have h1:=e j
  rw [lR] at h1
  by_cases ej:c=(j:Int)
  ·have:m.testBit j=tQ:=by
    unfold aW at h
    simp only [Bool.and_eq_true,decide_eq_true_eq] at h
    rw [ej] at h
    simpa using h.2
   simp [ej,this]
  ·cases hb:m.testBit j
   ·simp [ej]
   ·rw [hb] at h1;simp [ej] at h1
 obtain ⟨cn,rfl⟩:=iN hc.1
 have hcn:cn<64:=by omega
 unfold cw
 have:(List.range 64).filter (λi=>m.testBit i)=[cn]:=by
  have e2:(λi=>m.testBit i)=λi=>decide (cn=i):=by
   funext i
   rw [hbit i]
   exact decide_eq_decide.2 ⟨λq=>by omega,λq=>by omega⟩
  rw [e2]
  have hf:∀ n,cn<n -> (List.range n).filter (λi=>decide (cn=i))=[cn]:=by
   intro n
   induction n with
   | zero=>intro hh;omega
   | succ n ih=>
    intro hh
    rw [List.range_succ,List.filter_append]
    by_cases en:cn=n
    ·have e0:(List.range n).filter (λi=>decide (cn=i))=[]:=by
      rw [List.filter_eq_nil_iff]
      intro a ha
      have:=List.mem_range.1 ha
      simp;omega
     rw [e0]
     simp [en]
    ·rw [ih oM]
     simp [en]
  exact hf 64 hcn
 rw [this]
 rfl
end
/-- What holds of a kernel between two events. -/
structure fM (k:KT):Prop where
 ne:k.active≠0
 way:bl k.co
 no:k.dk.run=nN -> k.active=k.online
 yes:∀ r,k.dk.run=sS r -> k.is k.dk.cpu /\ r.over=fF /\
  ((k.dk.up=tQ /\ r.n=4 /\ r.d <= 4 /\ aW k.online k.dk.cpu=fF /\ k.active=k.online) \/
   (k.dk.up=fF /\ r.n=10 /\ r.d <= 10 /\ aW k.online k.dk.cpu=tQ /\ aK k.online k.dk.cpu≠0 /\ k.active=if 2 <= r.d then aK k.online k.dk.cpu else k.online))
theorem fM.within {k:KT} (h:fM k):dF k.active k.online=0:=by
 cases hr:k.dk.run with
 | none=>rw [h.no hr];exact kX
 | some r=>
  obtain ⟨_,_,⟨_,_,_,_,e⟩|⟨_,_,_,_,_,e⟩⟩:=h.yes r hr
  ·rw [e];exact kX
  ·rw [e];split
   ·exact zz
   ·exact kX
theorem bU.inv {k k':KT} (h:bU k k') (g:fM k):fM k':=by
 refine ⟨by rw [h.ac];exact g.ne,by rw [h.co];exact g.way,λhr=>?_,λr hr=>?_⟩
 ·rw [h.dk] at hr;rw [h.ac,h.on];exact g.no hr
 ·rw [h.dk] at hr
  have:=g.yes r hr
  unfold KT.is at this ⊢
  rw [h.dk,h.n,h.on,h.ac]
  exact this
/-- The records of a turn: nN, or one that tells of the end. -/
def KF (k:KT) (l:List cX) (k':KT):Prop:=(l=[] /\ k'.online=k.online /\ k'.dk.run.isSome=k.dk.run.isSome) \/
 (∃ why,l=[⟨7,k.dk.cpu,0,0,why⟩] /\ k.dk.run.isSome=tQ /\ k'.dk.run=nN /\ k'.online=if why=0 then (if aW k.online k.dk.cpu then aK k.online k.dk.cpu else bn k.online k.dk.cpu) else k.online)
theorem IM {r:aT} (h:r.over=fF):(r.back=tQ -> r.d≠0) /\ (r.back=fF -> r.d≠r.n):=by
 unfold aT.over at h
 cases hb:r.back<;>simp [hb] at h<;>simp [hb,h]
/-- What is so behind the step, ahead of the end. -/
structure Ig (k k1:KT):Prop where
 n:k1.n=k.n
 way:bl k1.co
 up:k1.dk.up=k.dk.up
 cpu:k1.dk.cpu=k.dk.cpu
 none:k.dk.run=nN -> k1.dk.run=nN /\ k1.online=k.online /\ k1.active=k.active
 some:∀ r,k.dk.run=sS r -> ∃ r',k1.dk.run=sS r' /\ r'.n=r.n /\ r'.d <= r'.n /\
  ((r'.over=fF /\ k1.online=k.online /\ k1.active=(if k.dk.up then k.online else if 2 <= r'.d then aK k.online k.dk.cpu else k.online)) \/
   (r'.over=tQ /\ r'.back=tQ /\ k1.online=k.online /\ k1.active=k.online) \/
   (r'.over=tQ /\ r'.back=fF /\ k1.online=(if k.dk.up then bn k.online k.dk.cpu else aK k.online k.dk.cpu) /\ k1.active=k1.online))
section
variable {k:KT}
theorem AJ (h:fM k) (hr:k.dk.run=nN) (by_:Int):Ig k (k.turn1 by_):=by
 have e1:k.dk.next=k.dk:=by simp only [SH.next,hr]
 have e2:k.dk.stF=fF:=by simp only [SH.stF,hr]
 have e3:k.dk.stK=0:=by simp only [SH.stK,hr]
 have e4:k.dk.stU=fF:=by simp only [SH.stU,hr]
 have hs:=sE { k with dk:=k.dk.next } 0 k.dk.cpu by_ fF h.way
 have hO:KT.stOn { k with dk:=k.dk.next } 0 k.dk.cpu fF=k.online:=rfl
 have hA:KT.stAc { k with dk:=k.dk.next } 0 k.dk.cpu fF=k.active:=rfl
 unfold KT.turn1
 rw [e2,e3,e4]
 simp only [Bool.false_eq_true,if_false]
 have hd:(KT.stage { k with dk:=k.dk.next } 0 fF k.dk.cpu by_).dk=k.dk:=hs.dk.trans e1
 have hD:(KT.stage { k with dk:=k.dk.next } 0 fF k.dk.cpu by_).dk.done=k.dk:=by rw [hd];simp only [SH.done,hr]
 split
 ·exact ⟨hs.n,hs.way,by show SH.up (SH.done _)=_;rw [hD],by show SH.cpu (SH.done _)=_;rw [hD],λ_=>⟨by show SH.run (SH.done _)=_;rw [hD];exact hr,hs.on.trans hO,hs.ac.trans hA⟩,λr hr2=>by rw [hr] at hr2;cases hr2⟩
 ·exact ⟨hs.n,hs.way,by rw [hd],by rw [hd],λ_=>⟨by rw [hd];exact hr,hs.on.trans hO,hs.ac.trans hA⟩,λr hr2=>by rw [hr] at hr2;cases hr2⟩
theorem AI (h:fM k) {r:aT} (hr:k.dk.run=sS r) (by_:Int):Ig k (k.turn1 by_):=by
 obtain ⟨hc,ho,hd⟩:=h.yes r hr
 obtain ⟨ho1,ho2⟩:=IM ho
 have hdn:r.d <= r.n:=by rcases hd with ⟨_,a,b,_⟩|⟨_,a,b,_⟩<;>omega
 have hact:k.active=(if k.dk.up then k.online else if 2 <= r.d then aK k.online k.dk.cpu else k.online):=by
  rcases hd with ⟨a,_,_,_,e⟩|⟨a,_,_,_,_,e⟩
  ·rw [a];exact e
  ·rw [a];exact e
 cases hf:k.dk.failsNow r
 ·-- the stage is done
  have e1:k.dk.next={ k.dk with told:=true }:=by simp only [SH.next,hr,ho,hf];rfl
  have e2:k.dk.stF=fF:=by simp only [SH.stF,hr,ho,hf];rfl
  have e3:k.dk.stK=r.k:=by simp only [SH.stK,hr,ho];rfl
  have e4:k.dk.stU=r.back:=by simp only [SH.stU,hr,ho];rfl
  have ek:r.k=if r.back then (r.d:Int) - 1 else r.d:=by unfold aT.k;rw [ho];rfl
  have hs:=sE { k with dk:=k.dk.next } r.k k.dk.cpu by_ r.back h.way
  have hB:=xq { k with dk:=k.dk.next } r.k k.dk.cpu by_ r.back
  unfold KT.turn1
  rw [e2,e3,e4]
  simp only [Bool.false_eq_true,if_false]
  generalize hk2:KT.stage { k with dk:=k.dk.next } r.k r.back k.dk.cpu by_=k2 at *
  have hO:=hs.on
  have hA:=hs.ac
  have hdk:k2.dk={ k.dk with told:=true }:=hs.dk.trans e1
  have hup:(KT.mk k.n k.th k.rq k.tm k.iq k.rt k.wk k.cb k.ob k.ct k.gt k.sp k.dk.next k.co k.mt k.gv k.online k.active k.now k.limit k.own).dk.up=k.dk.up:=by show k.dk.next.up=_;rw [e1]
  unfold KT.stOn at hO
  unfold KT.stAc at hA
  rw [hup] at hO hA hB
  simp only at hO hA
  cases hb:KT.stageB { k with dk:=k.dk.next } r.k r.back k.dk.cpu by_
  ·-- not done yet
   obtain ⟨hu,hst⟩:=hB hb
   rw [nG dE]
   rw [hu] at hO hA ek
   simp only [Bool.false_eq_true,if_false] at hO hA ek
   refine ⟨hs.n,hs.way,by rw [hdk],by rw [hdk],(λhn=>by rw [hr] at hn;cases hn),λr2 hr2=>?_⟩
   rw [hr] at hr2
   cases hr2
   refine ⟨r,by rw [hdk];exact hr,rfl,hdn,.inl ⟨ho,?_,?_⟩⟩
   ·rw [hO]
    rcases hst with h0|⟨hup2,h2,h6⟩
    ·rw [pG h0]
    ·rw [nG oM,hup2,nG dE,pG oM]
   ·rw [hA]
    rcases hst with h0|⟨hup2,h2,h6⟩
    ·rw [pG h0];exact hact
    ·rw [nG oM,hup2,nG dE,nG oM]
     rw [hup2] at hact
     exact hact
  ·rw [pG rfl]
   have hdd:k2.dk.done={ k.dk with run:=sS r.done,told:=false }:=by rw [hdk];simp only [SH.done,hr,ho];rfl
   refine ⟨hs.n,hs.way,by show SH.up (SH.done _)=_;rw [hdd],by show SH.cpu (SH.done _)=_;rw [hdd],(λhn=>by rw [hr] at hn;cases hn),λr2 hr2=>?_⟩
   rw [hr] at hr2
   cases hr2
   refine ⟨r.done,by show SH.run (SH.done _)=_;rw [hdd],?_⟩
   show r.done.n=r.n /\ r.done.d <= r.done.n /\ ((r.done.over=fF /\ k2.online=k.online /\ k2.active=(if k.dk.up then k.online else if 2 <= r.done.d then aK k.online k.dk.cpu else k.online)) \/
    (r.done.over=tQ /\ r.done.back=tQ /\ k2.online=k.online /\ k2.active=k.online) \/
    (r.done.over=tQ /\ r.done.back=fF /\ k2.online=(if k.dk.up then bn k.online k.dk.cpu else aK k.online k.dk.cpu) /\ k2.active=k2.online))
   cases hbk:r.back
   ·have ed:r.done={ r with d:=r.d+1 }:=by unfold aT.done;rw [ho,hbk];rfl
    rw [hbk] at hO hA ek
    simp only [Bool.false_eq_true,if_false] at hO hA ek
    have hne:=ho2 hbk
    rw [ed]
    refine ⟨rfl,by show r.d+1 <= r.n;omega,?_⟩
    have eo:aT.over { r with d:=r.d+1 }=decide (r.d+1=r.n):=by unfold aT.over;rw [hbk,Bool.eq_iff_iff];simp
    by_cases hl:r.d+1=r.n
    ·refine .inr (.inr ⟨by rw [eo];simpa using hl,hbk,?_⟩)
     rcases hd with ⟨a,b,c,d,e⟩|⟨a,b,c,d,f,e⟩
     ·rw [a]
      rw [a] at hO hA
      simp only [if_true] at hO hA ⊢
      rw [nG oM,nG oM] at hO hA
      exact ⟨hO,by rw [hA,hO,e]⟩
     ·rw [a]
      rw [a] at hO hA
      simp only [Bool.false_eq_true,if_false] at hO hA ⊢
      rw [nG oM,nG oM] at hO
      rw [nG oM,nG oM] at hA
      exact ⟨hO,by rw [hA,hO,e,pG oM]⟩
    ·refine .inl ⟨by rw [eo];simpa using hl,?_⟩
     show k2.online=k.online /\ k2.active=(if k.dk.up then k.online else if 2 <= r.d+1 then aK k.online k.dk.cpu else k.online)
     rcases hd with ⟨a,b,c,d,e⟩|⟨a,b,c,d,f,e⟩
     ·rw [a]
      rw [a] at hO hA
      simp only [if_true] at hO hA ⊢
      by_cases h0:r.k=0
      ·rw [pG h0] at hO hA
       exact ⟨hO,by rw [hA,e]⟩
      ·rw [nG h0,pG oM] at hO hA
       exact ⟨hO,by rw [hA,e]⟩
     ·rw [a]
      rw [a] at hO hA
      simp only [Bool.false_eq_true,if_false] at hO hA ⊢
      by_cases h0:r.k=0
      ·rw [pG h0] at hO hA
       refine ⟨hO,?_⟩
       rw [hA,e,nG oM,nG oM]
      ·rw [nG h0] at hO hA
       rw [pG oM] at hO
       refine ⟨hO,?_⟩
       by_cases h1:r.k=1
       ·rw [pG h1] at hA
        rw [hA,e,nG oM,pG oM]
       ·rw [nG h1] at hA
        rw [hA,e,pG oM,pG oM]
   ·have ed:r.done={ r with d:=r.d - 1 }:=by unfold aT.done;rw [ho,hbk];rfl
    rw [hbk] at hO hA ek
    simp only [if_true] at hO hA ek
    have hne:=ho1 hbk
    rw [ed]
    refine ⟨rfl,by show r.d - 1 <= r.n;omega,?_⟩
    have eo:aT.over { r with d:=r.d - 1 }=decide (r.d - 1=0):=by unfold aT.over;rw [hbk,Bool.eq_iff_iff];simp
    have hacts:k2.active=(if k.dk.up then k.online else if 2 <= r.d - 1 then aK k.online k.dk.cpu else k.online):=by
     rcases hd with ⟨a,b,c,d,e⟩|⟨a,b,c,d,f,e⟩
     ·rw [a] at hA ⊢
      rw [nG sM] at hA
      rw [hA,e];rfl
     ·rw [a] at hA ⊢
      simp only [Bool.false_eq_true,if_false,and_true] at hA ⊢
      by_cases h1:r.k=1
      ·rw [pG h1] at hA
       rw [hA,e,pG oM,nG oM]
       exact Db d
      ·rw [nG h1] at hA
       rw [hA,e]
       by_cases h2:2 <= r.d
       ·rw [pG h2,pG oM]
       ·rw [nG h2,nG oM]
    by_cases hl:r.d - 1=0
    ·refine .inr (.inl ⟨by rw [eo];simpa using hl,hbk,hO,?_⟩)
     rw [hacts]
     split
     ·rfl
     ·rw [nG oM]
    ·exact .inl ⟨by rw [eo];simpa using hl,hO,hacts⟩
 ·-- the stage fails
  have hb:r.back=fF:=by
   unfold SH.failsNow at hf
   cases hb:r.back
   ·rfl
   ·rw [hb] at hf;simp at hf
  have e1:k.dk.next={ k.dk with run:=sS r.fail,told:=true,plan:=k.dk.plan.erase r.k }:=by simp only [SH.next,hr,ho,hf];rfl
  have e2:k.dk.stF=tQ:=by simp only [SH.stF,hr,ho,hf];rfl
  have ef:r.fail={ r with back:=true }:=by unfold aT.fail;rw [ho,hb];rfl
  have et:k.turn1 by_={ k with dk:=k.dk.next }:=by unfold KT.turn1;rw [e2];rfl
  rw [et,e1]
  refine ⟨rfl,h.way,rfl,rfl,(λhn=>by rw [hr] at hn;cases hn),λr2 hr2=>?_⟩
  rw [hr] at hr2
  cases hr2
  refine ⟨r.fail,rfl,by rw [ef],by rw [ef];exact hdn,?_⟩
  rw [ef]
  have eo:aT.over { r with back:=true }=decide (r.d=0):=by unfold aT.over;rw [Bool.eq_iff_iff];simp
  by_cases h0:r.d=0
  ·refine .inr (.inl ⟨by rw [eo];simpa using h0,rfl,rfl,?_⟩)
   show k.active=k.online
   rw [hact]
   split
   ·rfl
   ·rw [nG oM]
  ·exact .inl ⟨by rw [eo];simpa using h0,rfl,hact⟩
theorem AH (h:fM k) (by_:Int):Ig k (k.turn1 by_):=by
 cases hr:k.dk.run with
 | none=>exact AJ h hr by_
 | some r=>exact AI h hr by_
theorem Di (hok:k.ok) (h:fM k) (by_:Int):fM (k.turn by_) /\ KF k (k.turnL by_) (k.turn by_):=by
 have t:=AH h by_
 unfold KT.turn KT.turnL
 generalize k.turn1 by_=k1 at *
 cases hr:k.dk.run with
 | none=>
  obtain ⟨q1,q2,q3⟩:=t.none hr
  have ho:k1.dk.over=fF:=by simp only [SH.over,q1]
  rw [ho]
  simp only [Bool.false_eq_true,if_false]
  refine ⟨⟨by rw [q3];exact h.ne,t.way,λ_=>by rw [q2,q3];exact h.no hr,λr hr2=>by rw [q1] at hr2;cases hr2⟩,.inl ⟨rfl,q2,by rw [q1,hr]⟩⟩
 | some r=>
  obtain ⟨hc,hov,hd⟩:=h.yes r hr
  obtain ⟨r',q1,q2,q3,q4⟩:=t.some r hr
  have ho:k1.dk.over=r'.over:=by simp only [SH.over,q1]
  have hlt:=hok.on
  rcases q4 with ⟨o,on,ac⟩|⟨o,bk,on,ac⟩|⟨o,bk,on,ac⟩
  ·rw [ho,o]
   simp only [Bool.false_eq_true,if_false]
   refine ⟨⟨?_,t.way,λhn=>(by rw [q1] at hn;cases hn),λr2 hr2=>?_⟩,.inl ⟨rfl,on,by rw [q1,hr];rfl⟩⟩
   ·rw [ac]
    rcases hd with ⟨a,b,c,d,e⟩|⟨a,b,c,d,f,e⟩
    ·rw [a,<- e];exact h.ne
    ·rw [a]
     simp only [Bool.false_eq_true,if_false]
     split
     ·exact f
     ·intro e0
      apply f
      rw [jP]
      intro j
      rw [lR,e0]
      simp
   ·rw [q1] at hr2
    cases hr2
    refine ⟨?_,o,?_⟩
    ·unfold KT.is at hc ⊢
     rw [t.cpu,t.n];exact hc
    ·rw [t.up,t.cpu,on,ac,q2]
     rcases hd with ⟨a,b,c,d,e⟩|⟨a,b,c,d,f,e⟩
     ·exact .inl ⟨a,b,by omega,d,by rw [a];rfl⟩
     ·exact .inr ⟨a,b,by omega,d,f,by rw [a];rfl⟩
  ·rw [ho,o]
   simp only [if_true]
   have eE:k1.dk.end_={ k1.dk with run:=nN,up:=false,cpu:=0,by_:=0 }:=by simp only [SH.end_,q1,o];rfl
   have eV:k1.dk.endV=11:=by simp only [SH.endV,q1,o,aT.why,bk];rfl
   rw [eE,eV]
   refine ⟨⟨?_,t.way,λ_=>by show k1.active=k1.online;rw [on,ac],λr2 hr2=>by cases hr2⟩,.inr ⟨11,rfl,by rw [hr];rfl,rfl,by rw [nG dE];exact on⟩⟩
   show k1.active≠0
   rw [ac]
   rcases hd with ⟨a,b,c,d,e⟩|⟨a,b,c,d,f,e⟩
   ·rw [<- e];exact h.ne
   ·intro e0
    rw [e0] at d
    simp [aW] at d
  ·rw [ho,o]
   simp only [if_true]
   have eE:k1.dk.end_={ k1.dk with run:=nN,up:=false,cpu:=0,by_:=0 }:=by simp only [SH.end_,q1,o];rfl
   have eV:k1.dk.endV=0:=by simp only [SH.endV,q1,o,aT.why,bk];rfl
   rw [eE,eV]
   refine ⟨⟨?_,t.way,λ_=>ac,λr2 hr2=>by cases hr2⟩,.inr ⟨0,rfl,by rw [hr];rfl,rfl,?_⟩⟩
   ·show k1.active≠0
    rw [ac,on]
    rcases hd with ⟨a,b,c,d,e⟩|⟨a,b,c,d,f,e⟩
    ·rw [a]
     simp only [if_true]
     exact Ir (by rw [<- e];exact h.ne)
    ·rw [a];exact f
   ·rw [pG rfl]
    show k1.online=_
    rw [on]
    rcases hd with ⟨a,b,c,d,e⟩|⟨a,b,c,d,f,e⟩
    ·rw [a,d];rfl
    ·rw [a,d];rfl
end
/-- The counts are the same, or one of them is put to another. -/
def qt (a b:List Int):Prop:=b=a \/ ∃ f t,b=fq a f t
section
variable {k:KT} (st cpu by_:Int) (u:Bool)
theorem FP (k:KT):qt k.ct (k.stage st u cpu by_).ct:=by
 unfold KT.stage
 split
 ·left
  unfold KT.undo
  split
  ·split<;>rfl
  ·rfl
 split
 ·left;rfl
 split
 ·left
  unfold KT.come
  split;rfl
  split;rfl
  exact ((ir px _ _).trans (ir sI _ _)).ct
 ·unfold KT.leave
  split;exact .inl rfl
  split;exact .inl (sH k cpu).ct
  split;exact .inl rfl
  split;exact .inl rfl
  split;exact .inl rfl
  split;exact .inl (vG k cpu by_).ct
  split;exact .inl rfl
  split;exact .inr ⟨cpu,by_,rfl⟩
  exact .inl rfl
theorem Iv (k:KT):qt k.ct (k.turn by_).ct:=by
 have h1:qt k.ct (k.turn1 by_).ct:=by
  unfold KT.turn1
  split
  ·exact .inl rfl
  ·have h:=FP k.dk.stK k.dk.cpu by_ k.dk.stU { k with dk:=k.dk.next }
   by_cases hb:KT.stageB { k with dk:=k.dk.next } k.dk.stK k.dk.stU k.dk.cpu by_=tQ
   ·simp only [hb,if_true]
    exact h
   ·simp only [hb]
    exact h
 unfold KT.turn
 split
 ·exact h1
 ·exact h1
theorem fM.of {k k':KT} (h:fM k) (hn:k'.n=k.n) (ho:k'.online=k.online) (ha:k'.active=k.active) (hd:k'.dk=k.dk) (hw:bl k'.co):fM k':=by
 refine ⟨by rw [ha];exact h.ne,hw,λhr=>?_,λr hr=>?_⟩
 ·rw [hd] at hr;rw [ha,ho];exact h.no hr
 ·rw [hd] at hr
  have:=h.yes r hr
  unfold KT.is at this ⊢
  rw [hd,hn,ho,ha]
  exact this
theorem AT (k:KT) (cpu:Int):(k.step0 cpu).n=k.n /\ (k.step0 cpu).online=k.online /\ (k.step0 cpu).active=k.active /\ (k.step0 cpu).dk=k.dk /\ (k.step0 cpu).ct=k.ct /\ (bl k.co -> bl (k.step0 cpu).co):=by
 unfold KT.step0
 generalize (if k.co.is cpu then k.co.at cpu else core0)=x
 split
 ·exact ⟨rfl,rfl,rfl,rfl,rfl,λh=>CT.count_ways h _ _⟩
 ·exact ⟨rfl,rfl,rfl,rfl,rfl,λh=>h⟩
theorem FO {k:KT} (h:k.ok) (cpu:Int):(k.step0 cpu).ok:=by
 unfold KT.step0
 generalize (if k.co.is cpu then k.co.at cpu else core0)=x
 split
 ·exact h.counted cpu _
 ·exact h
theorem AP (k:KT) (cpu what:Int):(k.thing cpu what).n=k.n /\ (k.thing cpu what).online=k.online /\ (k.thing cpu what).active=k.active /\ (k.thing cpu what).dk=k.dk /\ (k.thing cpu what).co=k.co /\ (k.thing cpu what).ct=iF k.ct cpu 1:=by
 unfold KT.thing
 split;exact ⟨rfl,rfl,rfl,rfl,rfl,rfl⟩
 split;exact ⟨rfl,rfl,rfl,rfl,rfl,rfl⟩
 split
 ·unfold KT.fire
  by_cases hw:0<k.fireWho cpu
  ·simp only [hw,if_true]
   exact ⟨rfl,rfl,rfl,rfl,rfl,rfl⟩
  ·simp only [hw,if_false]
   exact ⟨rfl,rfl,rfl,rfl,rfl,rfl⟩
 split<;>exact ⟨rfl,rfl,rfl,rfl,rfl,rfl⟩
theorem AQ (k:KT) (cpu what:Int):∃ kd i n,k.thingL cpu what=[⟨kd,cpu,i,n,0⟩] /\ 2 <= kd /\ kd <= 6:=by
 unfold KT.thingL
 split;exact ⟨_,_,_,rfl,by decide,by decide⟩
 split;exact ⟨_,_,_,rfl,by decide,by decide⟩
 split;exact ⟨_,_,_,rfl,by decide,by decide⟩
 split;exact ⟨_,_,_,rfl,by decide,by decide⟩
 exact ⟨_,_,_,rfl,by decide,by decide⟩
/-- What may come next is a thing of an active core, or one of a few others. -/
theorem AD (k:KT) (cpu:Int):k.what cpu=0 \/ k.what cpu=1 \/ k.what cpu=2 \/ k.what cpu=3 \/ k.what cpu=9 \/ (4 <= k.what cpu /\ k.what cpu <= 8 /\ aW k.active cpu=tQ):=by
 have hw:∀ f:fH,f.wants=2 \/ f.wants=3 \/ f.wants=0 \/ f.wants=9 \/ (4 <= f.wants /\ f.wants <= 8 /\ f.active=tQ):=by
  intro f
  unfold fH.wants
  obtain ⟨a,b,c,d,e,g,h,i,j⟩:=f
  cases a<;>cases b<;>cases c<;>cases d<;>cases e<;>cases g<;>cases h<;>cases i<;>cases j<;>simp
 unfold KT.what je
 generalize (if k.co.is cpu then k.co.at cpu else core0)=x
 split
 ·exact .inl rfl
 split
 ·rcases hw (k.flags cpu) with h|h|h|h|⟨h1,h2,h3⟩
  ·rw [h];simp
  ·rw [h];simp
  ·rw [h];simp
  ·rw [h];simp
  ·exact .inr (.inr (.inr (.inr (.inr ⟨h1,h2,h3⟩))))
 split
 ·exact .inl rfl
 ·exact .inr (.inl rfl)
def KT.busy (k:KT):Bool:=k.dk.run.isSome
/-- What an event answers, what it does to the online cores, the request, the counts. -/
def JT (k:KT) (e:jR) (l:List cX) (k':KT):Prop:=
 (l=[] /\ e.kind=1 /\ k'.online=k.online /\ k'.busy=k.busy /\ qt k.ct k'.ct) \/
 (∃ id why,l=aX id why /\ k'.online=k.online /\ k'.ct=k.ct /\ (((e.kind=23 \/ e.kind=24) /\ why=0 /\ k.busy=fF /\ k'.busy=tQ) \/ (¬ ((e.kind=23 \/ e.kind=24) /\ why=0) /\ k'.busy=k.busy))) \/
 (∃ why,l=[⟨7,k.dk.cpu,0,0,why⟩] /\ e.kind=1 /\ k.busy=tQ /\ k'.busy=fF /\ k'.online=(if why=0 then (if aW k.online k.dk.cpu then aK k.online k.dk.cpu else bn k.online k.dk.cpu) else k.online) /\ qt k.ct k'.ct) \/
 (∃ kd i n,l=[⟨kd,e.cpu,i,n,0⟩] /\ 2 <= kd /\ kd <= 6 /\ e.kind=1 /\ k.is e.cpu /\ aW k.active e.cpu=tQ /\ k'.online=k.online /\ k'.busy=k.busy /\ k'.ct=iF k.ct e.cpu 1)
theorem Dp {k:KT} (hok:k.ok) (h:fM k) (e:jR) (he:e.kind=1) (hi:k.is e.cpu):fM (k.step e.cpu) /\ JT k e (k.stepL e.cpu) (k.step e.cpu):=by
 obtain ⟨s1,s2,s3,s4,s5,s6⟩:=AT k e.cpu
 have h0:fM (k.step0 e.cpu):=h.of s1 s2 s3 s4 (s6 h.way)
 have hbz:(k.step0 e.cpu).busy=k.busy:=by unfold KT.busy;rw [s4]
 rcases AD k e.cpu with hw|hw|hw|hw|hw|⟨hw1,hw2,hact⟩
 ·rw [show k.step e.cpu=k.step0 e.cpu by unfold KT.step;rw [pG hw],show k.stepL e.cpu=[] by unfold KT.stepL;rw [pG (.inl hw)]]
  exact ⟨h0,.inl ⟨rfl,he,s2,hbz,.inl s5⟩⟩
 ·rw [show k.step e.cpu={ k.step0 e.cpu with co:=(k.step0 e.cpu).co.wake e.cpu k.now } by unfold KT.step;rw [nG oM,pG hw],show k.stepL e.cpu=[] by unfold KT.stepL;rw [pG (.inr (.inl hw))]]
  exact ⟨h0.of rfl rfl rfl rfl (CT.wake_ways h0.way _ _),.inl ⟨rfl,he,s2,hbz,.inl s5⟩⟩
 ·rw [show k.step e.cpu={ k.step0 e.cpu with sp:=k.sp.ack e.cpu } by unfold KT.step;rw [nG oM,nG oM,pG hw],show k.stepL e.cpu=[] by unfold KT.stepL;rw [pG (.inr (.inr (.inl hw)))]]
  exact ⟨h0.of rfl rfl rfl rfl h0.way,.inl ⟨rfl,he,s2,hbz,.inl s5⟩⟩
 ·rw [show k.step e.cpu=(k.step0 e.cpu).turn e.cpu by unfold KT.step;rw [nG oM,nG oM,nG oM,pG hw],show k.stepL e.cpu=(k.step0 e.cpu).turnL e.cpu by unfold KT.stepL;rw [nG oM,pG hw]]
  obtain ⟨t1,t2⟩:=Di (FO hok e.cpu) h0 e.cpu
  have hct:=Iv e.cpu (k.step0 e.cpu)
  rw [s5] at hct
  refine ⟨t1,?_⟩
  rcases t2 with ⟨q1,q2,q3⟩|⟨why,q1,q2,q3,q4⟩
  ·exact .inl ⟨q1,he,q2.trans s2,by unfold KT.busy;rw [q3,s4],hct⟩
  ·refine .inr (.inr (.inl ⟨why,by rw [q1,s4],he,by rw [s4] at q2;exact q2,by unfold KT.busy;rw [q3];rfl,by rw [q4,s2,s4],hct⟩))
 ·rw [show k.step e.cpu=(k.step0 e.cpu).lie e.cpu by unfold KT.step;rw [nG oM,nG oM,nG oM,nG oM,pG hw],show k.stepL e.cpu=[] by unfold KT.stepL;rw [pG (.inr (.inr (.inr hw)))]]
  exact ⟨h0.of rfl rfl rfl rfl (CT.rest_ways h0.way _ _ _ _),.inl ⟨rfl,he,s2,hbz,.inl s5⟩⟩
 ·rw [show k.step e.cpu=(k.step0 e.cpu).thing e.cpu (k.what e.cpu) by unfold KT.step;rw [nG oM,nG oM,nG oM,nG oM,nG oM],show k.stepL e.cpu=(k.step0 e.cpu).thingL e.cpu (k.what e.cpu) by unfold KT.stepL;rw [nG oM,nG oM]]
  obtain ⟨t1,t2,t3,t4,t5,t6⟩:=AP (k.step0 e.cpu) e.cpu (k.what e.cpu)
  obtain ⟨kd,i,n,r1,r2,r3⟩:=AQ (k.step0 e.cpu) e.cpu (k.what e.cpu)
  refine ⟨h0.of t1 t2 t3 t4 (by rw [t5];exact h0.way),.inr (.inr (.inr ⟨kd,i,n,r1,r2,r3,he,hi,hact,t2.trans s2,?_,by rw [t6,s5]⟩))⟩
  unfold KT.busy
  rw [t4,s4]
theorem sN {k:KT} (h:fM k) (up:Bool) (cpu:Int) (hR:k.reqOk up cpu=fF) (hE:k.reqE up cpu≠0):fM (k.req up cpu) /\ (k.req up cpu).online=k.online /\ (k.req up cpu).ct=k.ct /\ ((k.reqE up cpu=0 /\ k.busy=fF /\ (k.req up cpu).busy=tQ) \/ (k.reqE up cpu≠0 /\ (k.req up cpu).busy=k.busy)):=by
 have e:k.req up cpu=k:=by unfold KT.req;rw [hR];rfl
 rw [e]
 exact ⟨h,rfl,rfl,.inr ⟨hE,rfl⟩⟩
theorem FZ {k:KT} (hok:k.ok) (h:fM k) (up:Bool) (cpu:Int):fM (k.req up cpu) /\ (k.req up cpu).online=k.online /\ (k.req up cpu).ct=k.ct /\ ((k.reqE up cpu=0 /\ k.busy=fF /\ (k.req up cpu).busy=tQ) \/ (k.reqE up cpu≠0 /\ (k.req up cpu).busy=k.busy)):=by
 by_cases c1:k.is cpu
 case neg=>exact sN h up cpu (by unfold KT.reqOk;simp [c1]) (by unfold KT.reqE;rw [pG c1];decide)
 by_cases c2:k.dk.run.isSome=tQ
 ·exact sN h up cpu (by unfold KT.reqOk;simp [c2]) (by unfold KT.reqE;rw [nG (λx=>x c1),pG c2];decide)
 by_cases c3:up=tQ /\ aW k.online cpu=tQ
 ·exact sN h up cpu (by unfold KT.reqOk;simp [c3.1,c3.2]) (by unfold KT.reqE;rw [nG (λx=>x c1),nG c2,pG c3];decide)
 by_cases c4:up=fF /\ aW k.online cpu=fF
 ·exact sN h up cpu (by unfold KT.reqOk;simp [c4.1,c4.2]) (by unfold KT.reqE;rw [nG (λx=>x c1),nG c2,nG c3,pG c4];decide)
 by_cases c5:up=fF /\ (cw k.online).length=1
 ·exact sN h up cpu (by unfold KT.reqOk;simp [c5.1,c5.2]) (by unfold KT.reqE;rw [nG (λx=>x c1),nG c2,nG c3,nG c4,pG c5];decide)
 have eE:k.reqE up cpu=k.dk.beginE cpu (bF (aK k.active cpu)):=by unfold KT.reqE;rw [nG (λx=>x c1),nG c2,nG c3,nG c4,nG c5]
 have hrn:k.dk.run=none:=by
  cases hh:k.dk.run
  ·rfl
  ·rw [hh] at c2;exact absurd rfl c2
 have hR:k.reqOk up cpu=tQ:=by
  unfold KT.reqOk
  cases up
  ·simp at c3 c4 c5
   simp [c1,c4,c5,hrn]
  ·simp at c3 c4 c5
   simp [c1,c3,hrn]
 have eK:k.req up cpu={ k with gt:=k.gt.want,dk:=k.dk.begin_ up cpu (bF (aK k.active cpu)) }:=by unfold KT.req;rw [hR];rfl
 rw [eE,eK]
 by_cases hb:k.dk.beginE cpu (bF (aK k.active cpu))=0
 ·have eb:k.dk.begin_ up cpu (bF (aK k.active cpu))={ k.dk with run:=sS ⟨if up then 4 else 10,0,fF⟩,up:=up,cpu:=cpu,by_:=bF (aK k.active cpu),told:=false }:=by unfold SH.begin_;rw [pG hb]
  rw [eb]
  refine ⟨⟨h.ne,h.way,(λhn=>by cases hn),λr hr=>?_⟩,rfl,rfl,.inl ⟨hb,by unfold KT.busy;rw [hrn];rfl,rfl⟩⟩
  cases hr
  have hac:=h.no hrn
  refine ⟨c1,?_,?_⟩
  ·cases up<;>rfl
  ·cases up
   ·simp at c3 c4 c5
    refine .inr ⟨rfl,rfl,by show 0 <= 10;omega,c4,Jk hok.on c4 c5,?_⟩
    show k.active=_
    rw [hac];rfl
   ·simp at c3 c4 c5
    exact .inl ⟨rfl,rfl,by show 0 <= 4;omega,c3,hac⟩
 ·have eb:k.dk.begin_ up cpu (bF (aK k.active cpu))=k.dk:=by unfold SH.begin_;rw [nG hb]
  rw [eb]
  exact ⟨h.of rfl rfl rfl rfl h.way,rfl,rfl,.inr ⟨hb,rfl⟩⟩
theorem DP {k:KT} (h:fM k) (s:Int):fM (k.plan s) /\ (k.plan s).online=k.online /\ (k.plan s).ct=k.ct /\ (k.plan s).busy=k.busy:=by
 unfold KT.plan
 split
 ·exact ⟨h,rfl,rfl,rfl⟩
 ·unfold SH.doPlan
  split
  ·exact ⟨⟨h.ne,h.way,h.no,h.yes⟩,rfl,rfl,rfl⟩
  ·exact ⟨⟨h.ne,h.way,h.no,h.yes⟩,rfl,rfl,rfl⟩
theorem xW {k:KT} (hok:k.ok) (h:fM k) (e:jR):fM (k.doK e) /\ JT k e (k.doL e) (k.doK e):=by
 by_cases h1:e.kind=1
 ·rw [(ux k e h1).1,(ux k e h1).2]
  by_cases hi:k.is e.cpu
  ·rw [nG (λx=>x hi),nG (λx=>x hi)]
   exact Dp hok h e h1 hi
  ·rw [pG hi,pG hi]
   exact ⟨h,.inr (.inl ⟨0,3,rfl,rfl,rfl,.inr ⟨λx=>by omega,rfl⟩⟩)⟩
 obtain ⟨id,why,hL⟩:=CO k e h1
 by_cases h23:e.kind=23 \/ e.kind=24
 ·obtain ⟨q1,q2⟩:=JD k e h23
  rw [q1,q2]
  obtain ⟨a1,a2,a3,a4⟩:=FZ hok h (decide (e.kind=23)) e.cpu
  refine ⟨a1,.inr (.inl ⟨0,_,rfl,a2,a3,?_⟩)⟩
  rcases a4 with ⟨b1,b2,b3⟩|⟨b1,b2⟩
  ·exact .inl ⟨h23,b1,b2,b3⟩
  ·exact .inr ⟨λx=>b1 x.2,b2⟩
 by_cases h25:e.kind=25
 ·have q2:=Hp k e h25
  rw [q2,hL]
  obtain ⟨a1,a2,a3,a4⟩:=DP h e.n
  exact ⟨a1,.inr (.inl ⟨id,why,rfl,a2,a3,.inr ⟨λx=>h23 x.1,a4⟩⟩)⟩
 by_cases h2:e.kind=2
 ·rw [Hq k e h2,hL]
  obtain ⟨a1,a2,a3,a4,a5⟩:=Dl k e.n
  exact ⟨h.of a1 a2 a3 a4 (Dk k e.n h.way),.inr (.inl ⟨id,why,rfl,a2,a5,.inr ⟨λx=>h23 x.1,by unfold KT.busy;rw [a4]⟩⟩)⟩
 have hs:=Bd k e h1 h2 (λx=>h23 (.inl x)) (λx=>h23 (.inr x)) h25
 rw [hL]
 exact ⟨hs.inv h,.inr (.inl ⟨id,why,rfl,hs.on,hs.ct,.inr ⟨λx=>h23 x.1,by unfold KT.busy;rw [hs.dk]⟩⟩)⟩
end
theorem GG {n:Nat} (h1:1 <= n) (h2:n <= 64):fM (k0 n):=by
 refine ⟨?_,λi=>⟨by show (0:Int) <= 0;decide,by show (0:Int)<4;decide⟩,λ_=>rfl,λr hr=>by cases hr⟩
 show bw n≠0
 unfold bw
 have:2 ^ 1 <= 2 ^ (min (n:Int).toNat 64):=Nat.pow_le_pow_right oM oM
 omega
section
variable {w u:wW} {d:Nat} {k k2:KT} {e:jR} {L:List cX}
/-- The counts are sS of m things. -/
def qZ (l:List Int) (m:Nat):Prop:=(∀ i,0 <= ar l i) /\ l.sum=m
theorem nX (l:List Int) (i j:Nat) (v:Int) (hi:i<l.length):ar (l.set i v) j=if j=i then v else ar l j:=by
 unfold ar
 rw [List.getD_eq_getElem?_getD,List.getD_eq_getElem?_getD,List.getElem?_set]
 by_cases e:i=j
 ·subst e;simp [hi]
 ·rw [nG e,nG (λx=>e x.symm)]
theorem qZ.add {l:List Int} {m:Nat} (h:qZ l m) (hm:m <= 1000) {c:Int} (hc:0 <= c /\ c<l.length):qZ (iF l c 1) (m+1):=by
 have h1:=ng l h.1 c.toNat
 have h2:=h.1 c.toNat
 have h3:=h.2
 have hI:bz (ar l c.toNat+1):=by unfold bz;omega
 unfold iF
 rw [pG ⟨hc,hI⟩]
 have hl:c.toNat<l.length:=by omega
 refine ⟨λi=>?_,?_⟩
 ·rw [nX _ _ _ _ hl]
  split
  ·omega
  ·exact h.1 i
 ·rw [lG _ _ _ hl];omega
theorem qZ.same {a b:List Int} {m:Nat} (h:qZ a m) (hm:m <= 1000) (hs:qt a b):qZ b m:=by
 rcases hs with rfl|⟨f,t,rfl⟩
 ·exact h
 ·unfold fq
  split
  ·rename_i hc
   obtain ⟨⟨hf,ht⟩,hne,hI⟩:=hc
   have hlf:f.toNat<a.length:=by omega
   have hlt:t.toNat<a.length:=by omega
   have hnn:f.toNat≠t.toNat:=by omega
   have h1:=h.1 f.toNat
   have h2:=h.1 t.toNat
   refine ⟨λi=>?_,?_⟩
   ·rw [nX _ _ _ _ (by rw [List.length_set];exact hlf)]
    split
    ·omega
    ·rw [nX _ _ _ _ hlt]
     split
     ·omega
     ·exact h.1 i
   ·rw [lG _ _ _ (by rw [List.length_set];exact hlf),lG _ _ _ hlt,nX _ _ _ _ hlt,nG hnn]
    have:=h.2
    omega
  ·exact h
theorem qZ.sum {l:List Int} {m:Nat} (h:qZ l m) (hm:m <= 1000):qD l=m /\ sJ l=0:=by
 have hI:bz l.sum:=by rw [h.2];unfold bz;omega
 unfold qD sJ
 rw [pG hI,pG hI]
 exact ⟨h.2,rfl⟩
end
end Go.Proofs.YtmiapbgkphpgoaaGreatDoor