/- Walks and plain laws of the kernel. No condition. -/
import Derived.Test.YtmiapbgkphpgoaaGreatDoorTimerM
import Derived.Test.YtmiapbgkphpgoaaGreatDoorKDM
import Derived.Test.YtmiapbgkphpgoaaGreatDoorKCM
import Derived.RangeFuncRecord
import Derived.RangeFuncSeq
import Derived.OwnWalkIn
import Derived.Shelf.Abstract
import Derived.Test.YtmiapbgkphpgoaaGreatDoorBaseM
import Derived.TacticsInMore
import Derived.LoopNIn
import Derived.LoopIn
import Derived.RangeFuncCalls
import Derived.Stop.RegionWithIn
import Derived.Test.YtmiapbgkphpgoaaGreatDoorWheelM
import Derived.Test.YtmiapbgkphpgoaaGreatDoorKBM
import Derived.Test.YtmiapbgkphpgoaaGreatDoorKAM
namespace Go.Proofs.YtmiapbgkphpgoaaGreatDoor
set_option linter.unusedVariables false
set_option linter.unusedSimpArgs false
set_option maxRecDepth 100000
set_option maxHeartbeats 20000000
open Go.RowKit
open Go.Proofs.Tryz renaming prog → tp
open List renaming setIfInBounds_toArray → sA, set_cons_zero → sB, set_cons_succ → sC
open Go renaming World → wW
open Go.Value renaming pointer → vp, bool → vb, int → vi
open Go.IntKind renaming i64 → iQ, u64 → uQ
open Option renaming none → nN, some → sS
open Bool renaming true → tQ, false → fF
open Int renaming eq_ofNat_of_zero_le → iN
section
variable {t most:Nat} {ids F:List Nat} {w:wW}
theorem FU (h:(gV t most ids).holds F w):Calls tp 355 #[vp (sS ⟨t,0,nN⟩)] w (au (vi iQ most) w):=by
 obtain ⟨hok,r,x,hx,hst⟩:=h
 have hA:On F w [ak.blk t (gZ r most ids),ak.blk r (gX x)] w:=On.of hst
 have c1:w.cell? ⟨t,1,nN⟩=sS (vi iQ most):=hA.cell 0 rfl 1
 clear hA
 go_in
 go_wp2
 go_ret
 exact au.of (rfl) dz
def Ac (ids:List Nat) (n:Int):Bool:=decide (1 <= n /\ n.toNat∈ids)
theorem FT (h:(gV t most ids).holds F w) (n:Int):Calls tp 356 #[vp (sS ⟨t,0,nN⟩),vi iQ n] w (au (vb (Ac ids n)) w):=by
 obtain ⟨hok,r,x,hx,hst⟩:=h
 have hA:On F w [ak.blk t (gZ r most ids),ak.blk r (gX x)] w:=On.of hst
 have c0:w.cell? ⟨t,0,nN⟩=sS (.slice (sS ⟨r,0,nN⟩) 1 1):=hA.cell 0 rfl 0
 have c1:w.cell? ⟨t,1,nN⟩=sS (vi iQ most):=hA.cell 0 rfl 1
 have x0:w.cell? ⟨r,0,nN⟩=sS (vi uQ (x:Nat)):=hA.cell 1 rfl 0
 by_cases hn:1 <= n /\ n <= most
 ·obtain ⟨h1,h2⟩:=hn
  obtain ⟨m,rfl⟩:=iN (show 0 <= n by omega)
  have hm2:=hok.most2
  have hb:=nF t r most m w c0 c1 oM oM hm2
  have hbit:=hx.bit (m - 1) oM
  have e1:m - 1+1=m:=by omega
  rw [e1] at hbit
  have hp:(2:Nat) ^ (m - 1)<2 ^ 64:=jq oM
  have hand:=CS x (m - 1)
  have hB:=zh (bits_and_u64_nat x (2 ^ (m - 1)) hx.lt hp)
  have hv:Ac ids m=!(((x &&& 2 ^ (m - 1):Nat):Int)==0):=by
   unfold Ac
   simp only [Int.toNat_natCast]
   by_cases hmem:m∈ids
   ·rw [decide_eq_true hmem] at hbit
    have:(x &&& 2 ^ (m - 1))≠0:=λe=>by rw [hand.1 e] at hbit;cases hbit
    have e2:(((x &&& 2 ^ (m - 1):Nat):Int)==0)=fF:=by simp;omega
    rw [e2]
    simp [hmem];omega
   ·rw [decide_eq_false hmem] at hbit
    have:(x &&& 2 ^ (m - 1))=0:=hand.2 hbit
    rw [this]
    simp [hmem]
  rw [hv]
  clear hA hst hok hx hand hbit hv
  generalize 2 ^ (m - 1)=z at *
  go_in
  go_wp2_with (go_at_call 315;refine hb.r λk=>?_)
  go_ret
  refine ⟨?_,by repeat (first|exact aA.refl _|apply aA.drewN|apply aA.drew)⟩
  rw [<- hB.out]
  simp [bne]
 ·have hb:=yM t most n w c1 hn
  have hv:Ac ids n=fF:=by
   unfold Ac
   refine decide_eq_false (λ⟨h1,h2⟩=>hn ⟨h1,?_⟩)
   have:=(hok.bd _ h2).2
   omega
  rw [hv]
  clear hA hst hok hx hn hv
  go_in
  go_wp2_with (go_at_call 315;refine hb.r λk=>?_)
  go_ret
  exact au.of (rfl) dz
theorem Dv (h:(gV t most ids).holds F w):Calls tp 340 #[vp (sS ⟨t,0,nN⟩)] w (iU (dW (λn=>decide (n∈ids)) most) w):=by
 have hC:=FU h
 have hm2:=h.1.most2
 have hH:=λ(wr:wW) (m:af [] w wr) (n:Int)=>FT ((gV t most ids).keep h m sM) n
 have hp:∀ j:Nat,Ac ids ((j:Int)+1)=decide (j+1∈ids):=by
  intro j
  unfold Ac
  have e:((j:Int)+1).toNat=j+1:=by omega
  rw [e]
  by_cases h:j+1∈ids
  ·simp [h];omega
  ·simp [h]
 generalize hpp:(λn=>decide (n∈ids))=p
 have hp2:∀ j:Nat,Ac ids ((j:Int)+1)=p (j+1):=by rw [<- hpp];exact hp
 clear hp hpp h
 go_in
 go_wp2_with (go_at_call 355;refine hC.r λk=>?_)
 go_loopg [3,7] most (λgg out i wr=>∃ (j:Nat) (g:Option Nat) (cap:Nat),i=vi iQ j /\ j+gg=most /\ out=.slice (lA g) (dW p j).length cap /\ fG wr g cap (dW p j) /\ af [] w wr /\ ∀ b,b∈lF g -> w.heap.size <= b)
 case atStart=>exact ⟨0,nN,0,rfl,by omega,rfl,⟨rfl,rfl⟩,mR.drewN _,by simp [lF]⟩
 case round=>
  obtain ⟨j,g,cap,rfl,hj,rfl,hL,m,hg⟩:=hrel
  by_cases hlt:j<most
  ·have hltI:(j:Int)<most:=by omega
   have hO:=hH wr m ((j:Int)+1)
   rw [hp2 j] at hO
   have hS:dW p (j+1)=if p (j+1)=tQ then dW p j++[((j:Int)+1)] else dW p j:=rfl
   have hlen:(dW p j).length<1000000:=by have:=mJ p j;omega
   have hms:=m.size
   have hjw:IntKind.i64.wrap ((j:Int)+1)=(j:Int)+1:=by rw [IntKind.wrap_i64];omega
   have hjs:(j:Int)<1000:=by omega
   cases hc:p (j+1)
   ·rw [hc,nG dE] at hS
    rw [hc] at hO
    have HS:=zh hS
    clear hS hH hp2 hc
    generalize dW p j=lj at *
    go_wp2_with (go_at_call 356;refine hO.r λk1=>?_)
    go_roundg (gk - 1)
    case measure=>omega
    case rel=>exact ⟨j+1,g,cap,by go_num,by omega,by rw [HS.out],by rw [HS.out];exact hL.same rfl,m.drewN _,hg⟩
   ·rw [hc,pG rfl] at hS
    rw [hc] at hO
    have HS:=zh hS
    clear hS hH hp2 hc
    generalize dW p j=lj at *
    go_wp2_with (first|(go_at_call 356;refine hO.r λk1=>?_)|(at_builtin;refine cE rfl _ _ rfl (by exact hL.keep (((af.refl [] wr).drewN _).alloc _) sM) hlen (ai _ _) rfl rfl ?_;rintro g2 cap2 w2 hL2 m2 hg2;have H2:=zh (And.intro hL2 (And.intro (af.trans (S:=[]) ((m.drewN _).alloc _) m2 (λb hb=>.inr (hg b hb))) hg2));clear hL2 m2 hg2))
    obtain ⟨hL2,m3,hg2⟩:=H2.out
    rw [cm] at hg2
    go_roundg (gk - 1)
    case measure=>omega
    case rel=>
     refine ⟨j+1,sS g2,cap2,by go_num,by omega,by rw [HS.out];simp [lA],by rw [HS.out];exact hL2,m3,?_⟩
     intro b hb
     simp [lF] at hb
     subst hb
     rcases hg2 with hg2|hg2
     ·exact hg _ hg2
     ·simp at hg2;omega
  ·obtain rfl:j=most:=by omega
   clear hH hp2
   go_wp2
   go_ret
   exact ⟨g,cap,rfl,hL,m,hg⟩
end
/-- The pointers of the first j levels. -/
def GA (j:Nat) (D:Nat -> Nat):List Value:=(List.range 8).map λi=>vp (if i<j then sS ⟨D i,0,nN⟩ else nN)
def ke (j:Nat) (D:Nat -> Nat) (mb most:Nat):Obj:=.cells (GA j D++[Value.map (sS mb),vi iQ most]).toArray 264 (0,0)
def dY (L:PQ):Int -> Option Int:=λid=>(aH L id).map λp=>(p:Int)
def fO (b mb most:Nat) (D:Nat -> Nat) (L:PQ):List ak:=[ak.blk b (ke 8 D mb most),dD mb L.length (ew (dY L))]++aN 8 (λp=>aQ (D p) most (cJ L p))
def PQ.fine (most:Nat) (L:PQ):Prop:=L.ok /\ L.length <= most /\ 1 <= most /\ most <= 1024
def db (b most:Nat) (L:PQ):ak:=ak.such (L.fine most) (ak.ex λx:Nat × (Nat -> Nat)=>ak.star (fO b x.1 most x.2 L))
theorem ia (j:Nat) (D:Nat -> Nat):(GA j D).length=8:=by simp [GA]
theorem xG {D:Nat -> Nat} {i:Nat} (hi:i<8):(GA 8 D)[i]?=sS (vp (sS ⟨D i,0,nN⟩)):=by simp [GA,hi]
theorem Ji {j:Nat} (D:Nat -> Nat) (x:Nat) (hj:j<8):(GA j D).set j (vp (sS ⟨x,0,nN⟩))=GA (j+1) (aq D j x):=by
 unfold GA
 apply List.ext_getElem?
 intro i
 rw [List.getElem?_set]
 simp only [List.getElem?_map,List.length_map,List.length_range]
 by_cases e:j=i
 ·subst e;simp [hj,ah]
 ·rw [nG e]
  by_cases hi:i<8
  ·have e1:(i<j+1)↔i<j:=by omega
   simp [hi,e1,ao _ _ (λq=>e q.symm)]
  ·simp [hi]
section
variable {F:List Nat} {w u:wW} {b mb most:Nat} {D:Nat -> Nat} {L:PQ}
theorem fX (h:(db b most L).holds F w):∃ mb D,L.fine most /\ On F w (fO b mb most D L) w:=by
 obtain ⟨h1,⟨mb,D⟩,h2⟩:=h
 exact ⟨mb,D,h1,On.of h2⟩
theorem On.prio (h:On F w (fO b mb most D L) u) (hf:L.fine most):dt (db b most L) F w u:=h.gains.imp λF' h'=>⟨hf,⟨mb,D⟩,h'⟩
theorem On.prLvl (h:On F w (fO b mb most D L) u) {p:Nat} (hp:p<8):u.cell? ⟨b,p,nN⟩=sS (vp (sS ⟨D p,0,nN⟩)):=by
 rw [h.cell 0 rfl p,List.getElem?_toArray,List.getElem?_append_left (by rw [ia];exact hp)]
 exact xG hp
theorem On.prMap (h:On F w (fO b mb most D L) u):u.cell? ⟨b,8,nN⟩=sS (.map (sS mb)):=by
 rw [h.cell 0 rfl 8,List.getElem?_toArray,List.getElem?_append_right (by rw [ia];omega),ia];rfl
theorem On.prMost (h:On F w (fO b mb most D L) u):u.cell? ⟨b,9,nN⟩=sS (vi iQ most):=by
 rw [h.cell 0 rfl 9,List.getElem?_toArray,List.getElem?_append_right (by rw [ia];omega),ia];rfl
theorem za {p:Nat} (hp:p<8):(fO b mb most D L)[2+p]?=sS (aQ (D p) most (cJ L p)):=by
 unfold fO
 rw [List.getElem?_append_right sM]
 simpa using eN (R:=λp=>aQ (D p) most (cJ L p)) hp
theorem pI (h:On F w (fO b mb most D L) u) (id:Int):(Instr.lookup 75 (.map (sS mb)) (vi iQ id) tQ).run tp u=.ok (.tuple #[vi iQ ((aH L id).getD 0:Nat),vb (aH L id).isSome]) u:=by
 have:=kG (P:=tp) (h.fm 1 rfl) Tryz.underlying75 Tryz.underlying3 id (λw=>Tryz.zeroValue3 w)
 rw [this]
 unfold ew dY
 cases aH L id<;>rfl
theorem Gh (h:(db b most L).holds F w):Calls tp 257 #[vp (sS ⟨b,0,nN⟩)] w (au (vi iQ (L.length:Nat)) w):=by
 obtain ⟨mb,D,hf,hA⟩:=fX h
 have c8:=hA.prMap
 have hrun:=λty=>Hh (P:=tp) (hA.fm 1 rfl) Tryz.underlying75 ty
 clear hA h hf
 generalize L.length=n at *
 go_in
 go_wp2
 go_ret
 exact au.of (rfl) dz
theorem DI (h:(db b most L).holds F w) (id:Int):Calls tp 91 #[vp (sS ⟨b,0,nN⟩),vi iQ id] w (au (.tuple #[vi iQ ((aH L id).getD 0:Nat),vb (aH L id).isSome]) w):=by
 obtain ⟨mb,D,hf,hA⟩:=fX h
 have c8:=hA.prMap
 have hlk:=pI hA id
 generalize (((aH L id).getD 0:Nat):Int)=x at *
 generalize (aH L id).isSome=y at *
 clear hA h
 go_in
 go_wp2
 go_ret2
 exact au.of (rfl) dz
/-- A level that is another one. -/
theorem sQ {L':PQ} {n':Nat} (hn:n'=L'.length) {g:Int -> Option Value} (hg:g=ew (dY L')) {p:Nat} (hp:p<8) {l':List Int} (hl:l'=cJ L' p) (ho:∀ q,q≠p -> cJ L' q=cJ L q):
  ([ak.blk b (ke 8 D mb most),dD mb n' g]++aN 8 (λp=>aQ (D p) most (cJ L p))).set (2+p) (aQ (D p) most l')=fO b mb most D L':=by
 subst hn hg hl
 unfold fO
 rw [List.set_append_right _ _ sM]
 simp only [List.length_cons,List.length_nil,Nat.reduceAdd,Nat.add_sub_cancel_left,Nat.zero_add]
 rw [iZ]
 congr 1
 refine uP λi hi=>?_
 by_cases e:i=p
 ·subst e;rw [ah]
 ·rw [ao _ _ e,ho i e]
theorem sT {L:PQ} {p:Nat} {id:Int} (hn:aH L id=nN):BX (ew (dY L)) id (vi iQ p)=ew (dY (L++[(p,id)])):=by
 rw [nU]
 congr 1
 funext j
 unfold cA dY aH
 rw [List.find?_append]
 by_cases e:j=id
 ·subst e
  have:L.find? (λx=>decide (x.2=j))=none:=by
   cases hf:L.find? (λx=>decide (x.2=j)) with
   | none=>rfl
   | some y=>unfold aH at hn;rw [hf] at hn;cases hn
  rw [pG rfl,this]
  simp
 ·rw [nG e]
  have:([(p,id)]:PQ).find? (λx=>decide (x.2=j))=none:=by simp;exact λh=>e h.symm
  rw [this]
  simp
theorem tg (L:PQ) (p:Nat) (id:Int) (q:Nat):cJ (L++[(p,id)]) q=if q=p then cJ L p++[id] else cJ L q:=by
 rw [BF]
 by_cases e:q=p
 ·subst e;simp [cJ]
 ·rw [nG e];simp [cJ];exact λh=>e h.symm
theorem xF {L:PQ} (p:Nat):(cJ L p).length <= L.length:=by unfold cJ;rw [List.length_map];exact List.length_filter_le _ _
theorem IP {L:PQ} {id:Int} (hn:aH L id=nN) (p:Nat):id∉cJ L p:=λh=>ka.1 hn (List.mem_map.2 ⟨(p,id),lQ.1 h,rfl⟩)
theorem vK (h:(db b most L).holds F w) (p id:Int):Calls tp 284 #[vp (sS ⟨b,0,nN⟩),vi iQ p,vi iQ id] w (al (db b most (mD most L p id)) F (vi iQ (fu most L p id)) w):=by
 obtain ⟨mb,D,hf,hA⟩:=fX h
 have c8:=hA.prMap
 have c9:=hA.prMost
 have hlk:=pI hA id
 have hrun:=λk ty=>Hh (P:=tp) ((hA.keep (u':=w.drewN k) (mR.drewN k)).fm 1 rfl) Tryz.underlying75 ty
 unfold mD
 by_cases h1:p<0 \/ 8 <= p
 ·have e:fu most L p id=2:=pG h1
  rw [e,nG dE]
  generalize (((aH L id).getD 0:Nat):Int)=x at *
  generalize (aH L id).isSome=y at *
  have H:=zh (λk=>(hA.keep (u':=w.drewN k) (mR.drewN k)).prio hf)
  have h2:p<0 \/ (¬ p<0 /\ 8 <= p):=by omega
  clear hA h e h1
  rcases h2 with h2|⟨h2,h3⟩
  all_goals
   go_in
   go_wp2
   go_ret
   exact ⟨rfl,by first|exact H.out 0|exact H.out _⟩
 by_cases h2:(aH L id).isSome=tQ
 ·have e:fu most L p id=6:=by unfold fu;rw [nG h1,pG h2]
  rw [e,nG dE]
  rw [h2] at hlk
  generalize (((aH L id).getD 0:Nat):Int)=x at *
  have H:=zh (λk=>(hA.keep (u':=w.drewN k) (mR.drewN k)).prio hf)
  have h3:¬ p<0:=by omega
  have h4:¬ 8 <= p:=by omega
  clear hA h e h1 h2
  go_in
  go_wp2
  go_ret
  exact ⟨rfl,by first|exact H.out 0|exact H.out _⟩
 have hn:aH L id=none:=by cases hq:aH L id with|none=>rfl|some v=>rw [hq] at h2;simp at h2
 rw [hn] at hlk
 simp only [Option.getD_none,Option.isSome_none] at hlk
 by_cases h3:most <= L.length
 ·have e:fu most L p id=5:=by unfold fu;rw [nG h1,nG h2,pG h3]
  rw [e,nG dE]
  have H:=zh (λk=>(hA.keep (u':=w.drewN k) (mR.drewN k)).prio hf)
  have h4:¬ p<0:=by omega
  have h5:¬ 8 <= p:=by omega
  have h6:(most:Int) <= (L.length:Nat):=by omega
  clear hA h e h1 h2 hn hf h3
  generalize L.length=n at *
  go_in
  go_wp2
  go_quiet (fail)
  go_wp2
  go_ret
  exact ⟨rfl,by first|exact H.out 0|exact H.out _⟩
 ·have e:fu most L p id=0:=by unfold fu;rw [nG h1,nG h2,nG h3]
  rw [e,pG rfl]
  obtain ⟨p,rfl⟩:=iN (show 0 <= p by omega)
  have hp:p<8:=by omega
  have hpI:(p:Int)<8:=by omega
  simp only [Int.toNat_natCast]
  have hfine:PQ.fine most (L++[(p,id)]):=⟨rG hf.1 hp hn,by simp;omega,hf.2.2⟩
  have hq:cT most (cJ L p) id=0:=by
   unfold cT
   have:=xF (L:=L) p
   rw [nG (IP hn p),nG oM]
  have hqs:kM most (cJ L p) id=cJ L p++[id]:=pG hq
  have hlen:¬ (most:Int) <= (L.length:Nat):=by omega
  have HA:=zh hA
  have HN:=zh hn
  obtain ⟨n,hLn⟩:∃ n,L.length=n:=⟨_,rfl⟩
  rw [hLn] at hrun hlen
  replace hLn:=zh hLn
  clear hA h e h1 h2 hn hf h3
  go_in
  go_wp2
  go_quiet (fail)
  go_wp2
  obtain ⟨w1,hput,hB⟩:=(HA.out.keep (u':=w.drewN nq) (mR.drewN nq)).fmPut (P:=tp) 1 rfl Tryz.underlying75 Tryz.underlying3 id (vi iQ (p:Int))
  rw [vQ,show (dY L id).isSome=fF by unfold dY;rw [HN.out];rfl,nG dE,sT HN.out] at hB
  have hB:On F w ([ak.blk b (ke 8 D mb most),dD mb (L.length+1) (ew (dY (L++[(p,id)])))]++aN 8 (λp=>aQ (D p) most (cJ L p))) w1:=hB
  have kc:w1.cell? ⟨b,p,nN⟩=sS (vp (sS ⟨D p,0,nN⟩)):=by
   rw [hB.cell 0 rfl p,List.getElem?_toArray,List.getElem?_append_left (by rw [ia];exact hp)]
   exact xG hp
  have hpush:Calls tp 143 #[vp (sS ⟨D p,0,nN⟩),vi iQ id] w1 (λe u=>e=.returned (vi iQ 0) /\ On F w (fO b mb most D (L++[(p,id)])) u):=by
   have:=hB.call (2+p) (R:=aQ (D p) most (cJ L p)) (R':=aQ (D p) most (cJ L p++[id])) (v:=vi iQ 0) (by
    rw [List.getElem?_append_right sM]
    simpa using eN (R:=λp=>aQ (D p) most (cJ L p)) hp) (λF1 h1=>by have:=iy h1 id;rwa [hq,hqs] at this)
   rw [sQ (L':=L++[(p,id)]) sM rfl hp (by rw [tg,pG rfl]) (λq hq=>by rw [tg,nG hq])] at this
   exact this
  rw [hput]
  have HB:=zh hB
  clear hB
  go_wp2_with (go_at_call 143;refine hpush.s λw2 hC=>?_)
  go_ret
  exact ⟨rfl,hC.prio hfine⟩
end
theorem iu (L:PQ) (id j:Int):aH (dT L id) j=if j=id then nN else aH L j:=by
 unfold aH dT
 by_cases e:j=id
 ·subst e
  rw [pG rfl]
  have:(L.filter λx=>!decide (x.2=j)).find? (λx=>decide (x.2=j))=none:=by
   rw [List.find?_eq_none]
   intro x hx
   have:=(List.mem_filter.1 hx).2
   simpa using this
  rw [this];rfl
 ·rw [nG e,List.find?_filter]
  congr 2
  funext x
  by_cases h:x.2=j
  ·simp [h,e]
  ·simp [h]
theorem vM (L:PQ) (id:Int):BZ (ew (dY L)) id=ew (dY (dT L id)):=by
 rw [nV]
 congr 1
 funext j
 unfold dZ dY
 rw [iu]
 split<;>rfl
theorem lg:∀ {L:PQ},L.ok -> ∀ {id:Int},(aH L id).isSome=tQ -> (dT L id).length=L.length - 1
 | [],_,id,h=>by simp [aH] at h
 | x :: L,hok,id,h=>by
  have hnd:=hok.nodup
  rw [List.map_cons,List.nodup_cons] at hnd
  have hok2:PQ.ok L:=⟨hnd.2,λy hy=>hok.lt y (List.mem_cons_of_mem _ hy)⟩
  unfold dT
  by_cases e:x.2=id
  ·rw [List.filter_cons_of_neg (by simp [e])]
   have hni:id∉L.map (·.2):=e ▸ hnd.1
   have:L.filter (λy=>!decide (y.2=id))=L:=List.filter_eq_self.2 (λy hy=>by simp;intro e2;exact hni (List.mem_map.2 ⟨y,hy,e2⟩))
   rw [this];simp
  ·rw [List.filter_cons_of_pos (by simp [e])]
   have h2:(aH L id).isSome=tQ:=by
    unfold aH at h ⊢
    rw [List.find?_cons_of_neg (by simp [e])] at h
    exact h
   have:=lg hok2 h2
   unfold dT at this
   have hpos:0<L.length:=by
    cases L with
    | nil=>simp [aH] at h2
    | cons _ _=>simp
   rw [List.length_cons,this,List.length_cons];omega
theorem rO {L:PQ} (hok:L.ok) {id:Int} {p:Nat} (hp:aH L id=sS p) (q:Nat):cJ (dT L id) q=if q=p then (cJ L p).erase id else cJ L q:=by
 rw [Gk]
 by_cases e:q=p
 ·subst e
  rw [pG rfl,(wC hok q).erase_eq_filter]
  exact List.filter_congr (λx _=>by by_cases h:x=id<;>simp [h])
 ·rw [nG e]
  refine List.filter_eq_self.2 (λx hx=>?_)
  simp
  rintro rfl
  have:=(ca hok).2 (lQ.1 hx)
  rw [hp] at this
  exact e (Option.some.inj this).symm
section
variable {F:List Nat} {w u:wW} {b mb most:Nat} {D:Nat -> Nat} {L:PQ}
theorem vL (h:(db b most L).holds F w) (id:Int):Calls tp 285 #[vp (sS ⟨b,0,nN⟩),vi iQ id] w (al (db b most (dT L id)) F (vi iQ (qm L id)) w):=by
 obtain ⟨mb,D,hf,hA⟩:=fX h
 have c8:=hA.prMap
 have hlk:=pI hA id
 unfold qm
 cases hp:aH L id with
 | none=>
  rw [hp] at hlk
  simp only [Option.getD_none,Option.isSome_none,Bool.false_eq_true,if_false] at hlk ⊢
  have e:dT L id=L:=List.filter_eq_self.2 (λy hy=>by simp;intro e2;exact ka.1 hp (List.mem_map.2 ⟨y,hy,e2⟩))
  rw [e]
  have H:=zh (λk=>(hA.keep (u':=w.drewN k) (mR.drewN k)).prio hf)
  clear hA h e hp
  go_in
  go_wp2
  go_ret
  exact ⟨rfl,by first|exact H.out 0|exact H.out _⟩
 | some p=>
  rw [hp] at hlk
  simp only [Option.getD_some,Option.isSome_some,if_true] at hlk ⊢
  have hmem:=(ca hf.1).1 hp
  have hp8:p<8:=hf.1.lt _ hmem
  have hpI:(p:Int)<8:=by omega
  have hfine:PQ.fine most (dT L id):=⟨rJ hf.1 id,Nat.le_trans (List.length_filter_le _ _) hf.2.1,hf.2.2⟩
  have hq:sP (cJ L p) id=0:=pG (lQ.2 hmem)
  obtain ⟨w1,hdel,hB⟩:=hA.fmDel (P:=tp) 1 rfl Tryz.underlying75 Tryz.underlying3 id
  rw [vQ,show (dY L id).isSome=tQ by unfold dY;rw [hp];rfl,pG rfl,vM] at hB
  have hB:On F w ([ak.blk b (ke 8 D mb most),dD mb (L.length - 1) (ew (dY (dT L id)))]++aN 8 (λp=>aQ (D p) most (cJ L p))) w1:=hB
  have kc:w1.cell? ⟨b,p,nN⟩=sS (vp (sS ⟨D p,0,nN⟩)):=by
   rw [hB.cell 0 rfl p,List.getElem?_toArray,List.getElem?_append_left (by rw [ia];exact hp8)]
   exact xG hp8
  have hdrop:Calls tp 316 #[vp (sS ⟨D p,0,nN⟩),vi iQ id] w1 (λe u=>e=.returned (vi iQ 0) /\ On F w (fO b mb most D (dT L id)) u):=by
   have:=hB.call (2+p) (R:=aQ (D p) most (cJ L p)) (R':=aQ (D p) most ((cJ L p).erase id)) (v:=vi iQ 0) (by
    rw [List.getElem?_append_right sM]
    simpa using eN (R:=λp=>aQ (D p) most (cJ L p)) hp8) (λF1 h1=>by have:=wR h1 id;rwa [hq] at this)
   rw [sQ (L':=dT L id) (by rw [lg hf.1 (by rw [hp];rfl)]) rfl hp8 (by rw [rO hf.1 hp,pG rfl]) (λq hq=>by rw [rO hf.1 hp,nG hq])] at this
   exact this
  clear hA hB h hf hmem hp hq
  go_in
  go_wp2_with (go_at_call 316;refine hdrop.s λw2 hC=>?_)
  go_ret
  exact ⟨rfl,hC.prio hfine⟩
theorem Gc {L:PQ} (hok:L.ok) (hlen:L.length <= most) {id:Int} {p:Nat} (hp:aH L id=sS p):fu most (dT L id) p id=0 /\ mD most (dT L id) p id=iT L id:=by
 have h8:p<8:=hok.lt _ ((ca hok).1 hp)
 have hl:=lg hok (by rw [hp];rfl)
 have hpos:0<L.length:=by
  cases L with
  | nil=>simp [aH] at hp
  | cons _ _=>simp
 have e:fu most (dT L id) p id=0:=by
  unfold fu
  rw [iu,pG rfl,nG oM,nG sM,nG oM]
 refine ⟨e,?_⟩
 unfold mD iT
 rw [pG e,hp]
 simp
theorem DK (h:(db b most L).holds F w) (id:Int):Calls tp 221 #[vp (sS ⟨b,0,nN⟩),vi iQ id] w (al (db b most (iT L id)) F (vi iQ (qm L id)) w):=by
 have hP:=DI h id
 have hf:=h.1
 have hD:=λk=>(On.one ((db b most L).keep (S:=[]) (w':=w.drewN k) h (mR.drewN k) sM))
 have hdrop:=λk=>(hD k).call (P:=tp) (f:=285) 0 rfl (λF1 h1=>vL h1 id)
 unfold qm at hdrop ⊢
 cases hp:aH L id with
 | none=>
  rw [hp] at hP hdrop
  simp only [Option.getD_none,Option.isSome_none,Bool.false_eq_true,if_false] at hP hdrop ⊢
  have e1:iT L id=L:=by unfold iT;rw [hp]
  have e:dT L id=L:=List.filter_eq_self.2 (λy hy=>by simp;intro e2;exact ka.1 hp (List.mem_map.2 ⟨y,hy,e2⟩))
  rw [e1]
  rw [e] at hdrop
  clear e e1 hp hD
  go_in
  go_wp2_with (first
   | (go_at_call 91;refine hP.r λk=>?_)
   | (go_at_call 285;refine (hdrop _).s λw2 hC=>?_))
  go_ret
  refine ⟨rfl,?_⟩
  obtain ⟨F',q1,q2,q3⟩:=hC.gain1
  exact ⟨F',q1,q2.undrewN,q3⟩
 | some p=>
  rw [hp] at hP hdrop
  simp only [Option.getD_some,Option.isSome_some,if_true] at hP hdrop ⊢
  obtain ⟨e1,e2⟩:=Gc (most:=most) hf.1 hf.2.1 hp
  rw [<- e2]
  clear e2 hD
  go_in
  go_wp2_with (first
   | (go_at_call 91;refine hP.r λk=>?_)
   | (go_at_call 285;refine (hdrop _).s λw2 hC=>?_)
   | (go_at_call 284;refine (hC.call 0 rfl (λF1 h1=>vK h1 p id)).s λw3 hE=>?_))
  go_ret
  refine ⟨rfl,?_⟩
  obtain ⟨F',q1,q2,q3⟩:=hE.gain1
  exact ⟨F',q1,q2.undrewN,q3⟩
end
/-- What a round's end says. -/
def yT (I:Nat -> wW -> Prop) (Ix:Code -> Nat -> wW -> Prop) (i:Nat) (W:wW):Exit -> Prop
 | .normal=>I (i+1) W
 | .ret=>Ix .ret i W
 | .exit id=>Ix (.exit id) i W
 | .goto t=>Ix (.goto t) i W
 | _=>False
theorem gU {m:Nat} {P:Program} {g:Operand} {ps:Array Tmp} {assign body:Code} {Q:Exit -> Act -> wW -> Prop} {a:Act} {w:wW}
  {gf:Nat} {lb:Array Value} (hg:a.eval g=.func (.func gf) #[] lb) (eg:∀ args w,(callFunc gf args).run P w=.ok (.enter gf args) w) (hps:ps.size=1)
  (N:Nat) (enc:Nat -> Value) (I:Nat -> wW -> Prop) (Ix:Code -> Nat -> wW -> Prop)
  (hput:∀ i W b o,I i W -> (b=w.heap.size \/ b=w.heap.size+1) -> I i (W.putObj b o))
  (hputx:∀ c i W b o,Ix c i W -> (b=w.heap.size \/ b=w.heap.size+1) -> Ix c i (W.putObj b o))
  (hI0:∀ o1 o2,I 0 ((w.alloc o1).alloc o2))
  (hit:∀ (l:Nat) (J Jx:Nat -> wW -> Prop) (W:wW),(∀ i W,J i W -> I i W) ->
   (∀ i W,i<N -> J i W -> YieldAt Fence.wide (m+1) P l #[enc i] W λe W'=>(e=.returned (vb tQ) /\ J (i+1) W') \/ (e=.returned (vb fF) /\ Jx i W')) -> J 0 W ->
   CallsIn Fence.wide (m+2) P gf (#[.func (.yield l) #[] #[]]++lb) W λe W'=>(∃ v,e=.returned v) /\ (J N W' \/ ∃ i,i<N /\ Jx i W'))
  (hround:∀ l i W,I i W -> i<N -> w.heap.size+1<W.heap.size ->
   assign.wpIn (Fence.wide.inRound l) (m+1) P (Exit.then (λa₁ W₁=>af [] W W₁ /\ ∀ o,body.wpIn (Fence.wide.inRound l) (m+1) P
    (λe _ W3=>W3.heap[w.heap.size]?=W₁.heap[w.heap.size]? /\ W3.heap[w.heap.size+1]?=(W₁.putObj (w.heap.size+1) o).heap[w.heap.size+1]? /\ yT I Ix i W3 e) a₁ (W₁.putObj (w.heap.size+1) o)) (λ_ _ _=>False))
    { tmps:=(ps.zip #[enc i]).foldl (λt (p,v)=>t.setIfInBounds p v) a.tmps,defers:=[] } W)
  (hdone:∀ W,I N W -> W.heap[w.heap.size]?=sS (.deferred (sS [])) -> Q .normal { a with defers:={ target:=.collected w.heap.size,args:=#[] } :: a.defers } W)
  (hstop:∀ c i W,i<N -> Ix c i W -> W.heap[w.heap.size]?=sS (.deferred (sS [])) -> c.wpIn Fence.wide (m+3) P Q { a with defers:={ target:=.collected w.heap.size,args:=#[] } :: a.defers } W):
  (Code.rangeFunc g ps assign body).wpIn Fence.wide (m+3) P Q a w:=by
 refine wpIn_rangeFunc ?_
 intro fn hfn
 obtain ⟨rec,hrec⟩:∃ rec:LoopState -> Option Code -> Loop,rec=λst pe=>{ state:=st,pending:=pe,fn,tmps:=a.tmps,params:=ps,assign,body,defers:=w.heap.size }:=⟨_,rfl⟩
 obtain ⟨W1,hW1⟩:∃ W1,(w.alloc (.deferred (sS []))).alloc (.loop (rec .ready nN))=W1:=⟨_,rfl⟩
 have hL1:W1.heap[w.heap.size+1]?=sS (.loop (rec .ready nN)):=by
  rw [<- hW1];have:=World.alloc_heap_new (w.alloc (.deferred (sS []))) (.loop (rec .ready nN));rwa [World.size_alloc] at this
 have hK1:W1.heap[w.heap.size]?=sS (.deferred (sS [])):=by
  rw [<- hW1];exact (Below.heap_alloc _ _ _ sM).trans (World.alloc_heap_new w _)
 have hI1:I 0 W1:=by rw [<- hW1];exact hI0 _ _
 refine ⟨w.heap.size+1,[{ target:=.collected w.heap.size,args:=#[] }],W1,{ target:=.fn (.func gf) lb,args:=#[.func (.yield (w.heap.size+1)) #[] #[]] },W1,gf,
  #[.func (.yield (w.heap.size+1)) #[] #[]]++lb,W1,?_,?_,?_,?_,λ_=>by omega,?_⟩
 ·rw [<- hW1,hrec];exact run_enterLoop_outer _ _ _ _ _
 ·simp only [resolve,hg]
  simp [go_sem]
 ·intro f' hf';trivial
 ·simp [invoke,go_sem,eg]
 ·refine (hit (w.heap.size+1)
   (λi W=>I i W /\ W.heap[w.heap.size+1]?=sS (.loop (rec .ready nN)) /\ W.heap[w.heap.size]?=sS (.deferred (sS [])))
   (λi W=>∃ c,Ix c i W /\ W.heap[w.heap.size+1]?=sS (.loop (rec .done (sS c))) /\ W.heap[w.heap.size]?=sS (.deferred (sS [])))
   W1 (λi W h=>h.1) ?_ ⟨hI1,hL1,hK1⟩).mono ?_
  ·rintro i W hlen ⟨hi,hl,hk⟩
   have hlt:w.heap.size+1<W.heap.size:=(Array.getElem?_eq_some_iff.1 hl).1
   have hy:=run_yield (P:=P) (args:=#[enc i]) hl (by rw [hrec];exact hps.symm)
   rw [hrec] at hy
   refine ⟨fn,_,assign,body,hy,roundIn_of_wpIn (trivial:Fence.wide.fn fn) (wpIn_mono (hround (w.heap.size+1) i W hi hlen hlt) ?_)⟩
   intro e a₁ W₁ h1
   cases e with
   | normal=>
    obtain ⟨m,hb⟩:=h1
    have hl1:=m.keep hl sM
    have hk1:=m.keep hk sM
    refine ⟨_,run_beginRound hl1 (by rw [hrec]),wpIn_mono (hb _) ?_⟩
    rintro e2 a2 W3 ⟨k0,k1,hI3⟩
    have hl3:W3.heap[w.heap.size+1]?=sS (.loop { rec .ready nN with state:=.busy }):=k1.trans (World.putObj_heap_same (bY hl1))
    have hk3:=k0.trans hk1
    have fin:∀ (jump:Option Code),(Instr.endRound (w.heap.size+1) jump).run P W3=.ok (vb jump.isNone) (W3.putObj (w.heap.size+1) (.loop (rec (if jump.isNone then .ready else .done) jump))) /\
      (W3.putObj (w.heap.size+1) (.loop (rec (if jump.isNone then .ready else .done) jump))).heap[w.heap.size+1]?=sS (.loop (rec (if jump.isNone then .ready else .done) jump)) /\
      (W3.putObj (w.heap.size+1) (.loop (rec (if jump.isNone then .ready else .done) jump))).heap[w.heap.size]?=sS (.deferred (sS [])):=λjump=>by
     have:=run_endRound (P:=P) jump hl3
     rw [hrec] at this ⊢
     exact ⟨this,World.putObj_heap_same (bY hl3),(World.putObj_heap_other oM).trans hk3⟩
    cases e2 with
    | normal=>
     obtain ⟨hr,q1,q2⟩:=fin nN
     exact ⟨_,_,hr,.inl ⟨rfl,hput _ _ _ _ hI3 (.inr rfl),q1,q2⟩⟩
    | ret=>
     obtain ⟨hr,q1,q2⟩:=fin (sS .ret)
     exact ⟨_,_,hr,.inr ⟨rfl,.ret,hputx _ _ _ _ _ hI3 (.inr rfl),q1,q2⟩⟩
    | exit id=>
     obtain ⟨hr,q1,q2⟩:=fin (sS (.exit id))
     exact ⟨_,_,hr,.inr ⟨rfl,.exit id,hputx _ _ _ _ _ hI3 (.inr rfl),q1,q2⟩⟩
    | goto t=>
     obtain ⟨hr,q1,q2⟩:=fin (sS (.goto t))
     exact ⟨_,_,hr,.inr ⟨rfl,.goto t,hputx _ _ _ _ _ hI3 (.inr rfl),q1,q2⟩⟩
    | panic ch=>exact hI3.elim
    | outgrown=>exact hI3.elim
   | ret=>exact h1.elim
   | exit id=>exact h1.elim
   | goto t=>exact h1.elim
   | panic ch=>exact h1.elim
   | outgrown=>exact h1.elim
  ·rintro e W2 ⟨⟨v,rfl⟩,(⟨hi,hl,hk⟩|⟨i,hlt,c,hi,hl,hk⟩)⟩
   ·have he:=run_endLoop (P:=P) hl (by rw [hrec];simp)
    rw [hrec] at he
    exact ⟨nN,_,he,hdone _ (hput _ _ _ _ hi (.inr rfl)) ((World.putObj_heap_other oM).trans hk)⟩
   ·have he:=run_endLoop (P:=P) hl (by rw [hrec];simp)
    rw [hrec] at he
    exact ⟨sS c,_,he,hstop c i _ hlt (hputx _ _ _ _ _ hi (.inr rfl)) ((World.putObj_heap_other oM).trans hk)⟩
section
attribute [local go_sem] Oper.semAt_some
theorem mo {fn:Func} {p u:Tmp} {t1 t2:TypeId} (h:fn.results=#[.cell p t1,.cell u t2]) (tmps:Array Value) (P:Program) (w:wW):
  (results fn tmps).run P w =
   ((asAddr (tmps.getD p undef)).run P w).andThen λa w₁=>((loadVar t1 a).run P w₁).andThen λv w₂=>((asAddr (tmps.getD u undef)).run P w₂).andThen λa' w₃=>((loadVar t2 a').run P w₃).andThen λv' w₄=>.ok (.tuple #[v,v']) w₄:=by
 simp only [results,h]
 simp [Sem.run_bind,Result.andThen]
theorem EG {w:wW} {n:Nat} (o:Obj) (h:w.heap.size=n):(w.alloc o).heap[n]?=sS o:=h ▸ ai w o
theorem ep (W:wW) (b:Nat) (o:Obj):af [b] W (W.putObj b o):=
 ⟨rfl,rfl,rfl,by simp,λk hk hS=>World.putObj_heap_other (by simpa using hS)⟩
/-- The level that a queue's first one is in. -/
def qz (L:PQ):List Nat -> Nat
 | []=>0
 | p :: ds=>if cJ L p=[] then qz L ds else p
def br (L:PQ):Nat:=qz L kP
theorem sn (L:PQ):∀ ds:List Nat,(∀ p,p∈ds -> cJ L p=[]) \/ (cJ L (qz L ds)≠[] /\ qz L ds∈ds /\ ∃ r,ds.flatMap (cJ L)=cJ L (qz L ds)++r)
 | []=>.inl sM
 | p :: ds=>by
  by_cases h:cJ L p=[]
  ·unfold qz
   rw [pG h]
   rcases sn L ds with h1|⟨h1,h2,r,h3⟩
   ·left
    intro q hq
    rcases List.mem_cons.1 hq with e|hq
    ·rw [e];exact h
    ·exact h1 q hq
   ·right;exact ⟨h1,List.mem_cons_of_mem _ h2,r,by rw [List.flatMap_cons,h,List.nil_append,h3]⟩
  ·unfold qz
   rw [nG h]
   exact .inr ⟨h,List.mem_cons_self,_,by rw [List.flatMap_cons]⟩
theorem qL {L:PQ} (hok:L.ok) (h:∀ p,p∈kP -> cJ L p=[]):L=[]:=by
 cases L with
 | nil=>rfl
 | cons x L=>
  exfalso
  have h8:=hok.lt x List.mem_cons_self
  have h1:=h x.1 (by simp [kP];omega)
  have:x.2∈cJ (x :: L) x.1:=lQ.2 List.mem_cons_self
  rw [h1] at this
  cases this
theorem jV {L:PQ} (hok:L.ok) (h:L≠[]):br L<8 /\ cJ L (br L)≠[] /\ ar (cJ L (br L)) 0=fJ L:=by
 rcases sn L kP with h1|⟨h1,h2,r,h3⟩
 ·exact absurd (qL hok h1) h
 ·refine ⟨by simp [kP] at h2;unfold br;simp [kP];omega,h1,?_⟩
  unfold fJ lu
  rw [h3,kO (List.length_pos_iff.2 h1)]
  rfl
/-- The levels above the i-th one are empty. -/
theorem FI {L:PQ} {i:Nat} (hi:i<8) (h0:∀ k,k<i -> cJ L (7 - k)=[]) (h1:cJ L (7 - i)≠[]):br L=7 - i:=by
 have e0:=h0 0
 have e1:=h0 1
 have e2:=h0 2
 have e3:=h0 3
 have e4:=h0 4
 have e5:=h0 5
 have e6:=h0 6
 have hc:i=0 \/ i=1 \/ i=2 \/ i=3 \/ i=4 \/ i=5 \/ i=6 \/ i=7:=by omega
 rcases hc with rfl|rfl|rfl|rfl|rfl|rfl|rfl|rfl<;>simp_all [br,kP,qz]
theorem vJ (b:Nat) (w:wW):Calls tp 171 #[vp (sS ⟨b,0,nN⟩)] w
  (λe w'=>e=.returned (.func (.func 254) #[] #[vp (sS ⟨w.heap.size,0,nN⟩)]) /\ af [] w w' /\ w.heap.size<w'.heap.size /\ w'.heap[w.heap.size]?=sS (.cells #[vp (sS ⟨b,0,nN⟩)] 157 (0,0))):=by
 go_in
 go_wp2
 go_ret
 exact ⟨rfl,mR.alloc _,by simp,ai _ _⟩
theorem sR (l s b:Nat) (D:Nat -> Nat) (J Jx:Nat -> wW -> Prop) (W:wW)
  (hC:∀ i W,J i W -> W.cell? ⟨s,0,nN⟩=sS (vp (sS ⟨b,0,nN⟩)) /\ ∀ p,p<8 -> W.cell? ⟨b,p,nN⟩=sS (vp (sS ⟨D p,0,nN⟩)))
  (hY:∀ i W,i<8 -> J i W -> YieldAt Fence.wide 2 tp l #[vp (sS ⟨D (7 - i),0,nN⟩)] W λe W'=>(e=.returned (vb tQ) /\ J (i+1) W') \/ (e=.returned (vb fF) /\ Jx i W'))
  (h0:J 0 W):
  CallsIn Fence.wide 3 tp 254 #[.func (.yield l) #[] #[],vp (sS ⟨s,0,nN⟩)] W λe W'=>(∃ v,e=.returned v) /\ (J 8 W' \/ ∃ i,i<8 /\ Jx i W'):=by
 refine callsIn_of_wp Tryz.func254 rfl trivial ?_ rfl
 simp only [Tryz.ntmps254,List.size_toArray,List.length_cons,List.length_nil,Nat.reduceAdd,Nat.reduceSub,Array.replicate_succ,Array.replicate_zero,List.push_toArray,List.append_toArray,List.nil_append,List.cons_append]
 gi_wp2
 gi_loopw [3] (λp wr=>∃ i:Nat,p=vi iQ (7 - (i:Int)) /\ i <= 8 /\ J i wr) (λp _=>(intOf p+1).toNat)
 case atStart=>exact ⟨0,rfl,by omega,h0⟩
 case round=>
  obtain ⟨i,rfl,hi,hJ⟩:=hrel
  obtain ⟨c0,cD⟩:=hC i wr hJ
  by_cases hlt:i<8
  ·have c1:=cD (7 - i) oM
   have h70:(0:Int) <= 7 - (i:Int):=by omega
   have h78:(7:Int) - (i:Int)<8:=by omega
   have h7t:((7:Int) - (i:Int)).toNat=7 - i:=by omega
   obtain ⟨fn,tmps,assign,body,hy,hR⟩:=hY i wr hlt hJ
   gi_wp2
   refine hR.mono ?_
   rintro e W3 (⟨rfl,hJ3⟩|⟨rfl,hJ3⟩)
   ·gi_wp2
    go_roundw
    case rel=>exact ⟨i+1,by congr 1;omega,by omega,hJ3⟩
    case measure=>simp [intOf];omega
   ·gi_wp2
    refine bodyPost_ret (results_none rfl _ _ _) rfl ?_
    exact ⟨⟨_,rfl⟩,.inr ⟨i,hlt,hJ3⟩⟩
  ·have hlt2:¬ (i:Int) <= 7:=by omega
   have e8:i=8:=by omega
   replace e8:=zh e8
   gi_wp2
   go_end0
   exact ⟨⟨_,rfl⟩,.inl (by rw [<- e8.out];exact hJ)⟩
section
variable {F:List Nat} {w u:wW} {b mb most:Nat} {D:Nat -> Nat} {L:PQ}
theorem On.prLvlAt (h:On F w (fO b mb most D L) u) {p:Nat} (hp:p<8):∃ F1,(aQ (D p) most (cJ L p)).holds F1 u:=h.get _ (za hp)
theorem yZ (hf:L.fine most) (h:On F w (fO b mb most D L) w):Calls tp 317 #[vp (sS ⟨b,0,nN⟩)] w
  (λe w'=>e=.returned (.tuple #[vp (if L=[] then nN else sS ⟨D (br L),0,nN⟩),vi iQ (jW L)]) /\ af [] w w'):=by
 obtain ⟨pv,hpv⟩:∃ pv,pv=(if L=[] then nN else sS (⟨D (br L),0,nN⟩:Addr)):=⟨_,rfl⟩
 obtain ⟨ev,hev⟩:∃ ev,ev=jW L:=⟨_,rfl⟩
 rw [<- hpv,<- hev]
 replace hpv:=zh hpv
 replace hev:=zh hev
 refine (callsIn_wide (n:=4)).1 ?_
 refine callsIn_of_wp_marks Tryz.func317 rfl trivial ?_ rfl
 simp only [Tryz.ntmps317,List.size_toArray,List.length_cons,List.length_nil,Nat.reduceAdd,Nat.reduceSub,Array.replicate_succ,Array.replicate_zero,List.push_toArray,List.append_toArray,List.nil_append,List.cons_append]
 gi_wp2_with (
   refine ⟨trivial,?_⟩
   gi_at_call 171
   refine (callsIn_wide.2 (vJ _ _)).mono ?_
   rintro e w1 ⟨rfl,m1,s1,x1⟩
  )
 have z1:w.heap.size+2<w1.heap.size:=by simpa using s1
 have M1:af [] w w1:=af.trans (S:=[]) (T:=[]) ((mR.alloc _).alloc _) m1 sM
 have x0:w1.heap[w.heap.size]?=sS (.cells #[vp nN] 194 (0,0)):=m1.keep (cS (ai _ _)) sM
 have x2:w1.heap[w.heap.size+1]?=sS (.cells #[vi iQ 0] 25 (0,0)):=m1.keep (EG _ sM) sM
 have x3:w1.heap[w.heap.size+2]?=sS (.cells #[vp (sS ⟨b,0,nN⟩)] 157 (0,0)):=by simpa using x1
 clear m1 s1 x1
 refine gU (gf:=254) (lb:=#[vp (sS ⟨w.heap.size+2,0,nN⟩)]) rfl (enters_of Tryz.func254 kz rfl) rfl
  8 (λi=>vp (sS ⟨D (7 - i),0,nN⟩))
  (λi W=>af [] w W /\ w1.heap.size <= W.heap.size /\ W.heap[w.heap.size]?=sS (.cells #[vp nN] 194 (0,0)) /\ W.heap[w.heap.size+1]?=sS (.cells #[vi iQ 0] 25 (0,0)) /\ W.heap[w.heap.size+2]?=sS (.cells #[vp (sS ⟨b,0,nN⟩)] 157 (0,0)) /\ ∀ k,k<i -> cJ L (7 - k)=[])
  (λc i W=>c=.ret /\ af [] w W /\ w1.heap.size <= W.heap.size /\ W.heap[w.heap.size]?=sS (.cells #[vp (sS ⟨D (7 - i),0,nN⟩)] 194 (0,0)) /\ W.heap[w.heap.size+1]?=sS (.cells #[vi iQ 0] 25 (0,0)) /\ (∀ k,k<i -> cJ L (7 - k)=[]) /\ cJ L (7 - i)≠[])
  ?put ?putx ?i0 ?it ?round ?done ?stop
 case put=>
  rintro i W q o ⟨i1,i2,i3,i4,i5,i6⟩ hq
  have hge:w1.heap.size <= q:=by omega
  have mq:=ep W q o
  exact ⟨i1.trans mq (by simp;omega),by simpa using i2,mq.keep i3 (by simp;omega),mq.keep i4 (by simp;omega),mq.keep i5 (by simp;omega),i6⟩
 case putx=>
  rintro c i W q o ⟨i1,i2,i3,i4,i5,i6⟩ hq
  have hge:w1.heap.size <= q:=by omega
  have mq:=ep W q o
  exact ⟨i1,i2.trans mq (by simp;omega),by simpa using i3,mq.keep i4 (by simp;omega),mq.keep i5 (by simp;omega),i6⟩
 case i0=>
  intro o1 o2
  have m2:af [] w1 ((w1.alloc o1).alloc o2):=(mR.alloc _).alloc _
  exact ⟨M1.trans m2 sM,m2.size,m2.keep x0 sM,m2.keep x2 sM,m2.keep x3 sM,by omega⟩
 case it=>
  intro l J Jx W hJ hY h0
  exact sR l (w.heap.size+2) b D J Jx W (λi W h1=>⟨ab (hJ i W h1).2.2.2.2.1 0,λp hp=>(h.keep (hJ i W h1).1).prLvl hp⟩) hY h0
 case round=>
  rintro l i W ⟨i1,i2,i3,i4,i5,i6⟩ hi hlt
  gi_wp2
  refine ⟨af.refl _ _,λo=>?_⟩
  have mq:=ep W (w1.heap.size+1) o
  have j1:af [] w (W.putObj (w1.heap.size+1) o):=i1.trans mq (by simp;omega)
  have j3:=mq.keep i3 (by simp;omega)
  have j4:=mq.keep i4 (by simp;omega)
  have j5:=mq.keep i5 (by simp;omega)
  have hA:=h.keep j1
  have hsz:w1.heap.size <= (W.putObj (w1.heap.size+1) o).heap.size:=by simpa using i2
  have hlt2:w1.heap.size+1<(W.putObj (w1.heap.size+1) o).heap.size:=by simpa using hlt
  clear mq i1 i3 i4 i5
  have hk0:(W.putObj (w1.heap.size+1) o).heap[w1.heap.size]?=W.heap[w1.heap.size]?:=World.putObj_heap_other oM
  rw [<- hk0]
  clear hk0
  generalize W.putObj (w1.heap.size+1) o=W2 at *
  obtain ⟨F1,hL⟩:=hA.prLvlAt (p:=7 - i) oM
  have hLen:=Hj hL
  have c0:W2.cell? ⟨w.heap.size,0,nN⟩=sS (vp nN):=ab j3 0
  have c1:W2.cell? ⟨w.heap.size+1,0,nN⟩=sS (vi iQ 0):=ab j4 0
  have f0:W2.frozen? ⟨w.heap.size,0,nN⟩=fF:=ax j3 0
  have f1:W2.frozen? ⟨w.heap.size+1,0,nN⟩=fF:=ax j4 0
  have s0:=bY j3
  have s1:=bY j4
  clear hA hL
  by_cases hl:cJ L (7 - i)=[]
  ·rw [hl] at hLen
   simp only [List.length_nil] at hLen
   gi_wp2_with (
    refine ⟨trivial,?_⟩
    gi_at_call 347
    refine (CallsIn.inRound l (callsIn_wide.2 hLen)).mono ?_;rintro e w' ⟨rfl,k,rfl⟩
    )
   refine ⟨rfl,rfl,j1.drewN _,hsz,j3,j4,j5,?_⟩
   ·intro k hk
    by_cases e:k=i
    ·rw [e];exact hl
    ·exact i6 k oM
  ·have hpos:0<(cJ L (7 - i)).length:=List.length_pos_iff.2 hl
   generalize hn:(cJ L (7 - i)).length=n at *
   have hposI:(0:Int)<n:=by omega
   gi_wp2_with (
    refine ⟨trivial,?_⟩
    gi_at_call 347
    refine (CallsIn.inRound l (callsIn_wide.2 hLen)).mono ?_;rintro e w' ⟨rfl,k,rfl⟩
    )
   have mS:af [w.heap.size,w.heap.size+1] W2 (((W2.drewN k).setCell ⟨w.heap.size,0,nN⟩ (vp (sS ⟨D (7 - i),0,nN⟩))).setCell ⟨w.heap.size+1,0,nN⟩ (vi iQ 0)):=((mR.drewN _).setCell sM _).setCell sM _
   have q0:=ba (w:=W2.drewN k) j3 0 (vp (sS ⟨D (7 - i),0,nN⟩))
   have q1:((W2.drewN k).setCell ⟨w.heap.size,0,nN⟩ (vp (sS ⟨D (7 - i),0,nN⟩))).heap[w.heap.size+1]?=_:=(bq oM).trans j4
   refine ⟨mS.block _ oM (by simp;omega),mS.block _ oM (by simp;omega),rfl,j1.trans mS sM,by simpa using hsz,(bq oM).trans q0,ba q1 0 _,i6,hl⟩
 case done=>
  rintro W ⟨i1,i2,i3,i4,i5,i6⟩ hK
  have hL0:L=[]:=qL hf.1 (λp hp=>by
   have:=i6 (7 - p) (by simp [kP] at hp;omega)
   have e:7 - (7 - p)=p:=by simp [kP] at hp;omega
   rwa [e] at this)
  have c0:W.cell? ⟨w.heap.size,0,nN⟩=sS (vp nN):=ab i3 0
  have c1:W.cell? ⟨w.heap.size+1,0,nN⟩=sS (vi iQ 0):=ab i4 0
  have f0:W.frozen? ⟨w.heap.size,0,nN⟩=fF:=ax i3 0
  have f1:W.frozen? ⟨w.heap.size+1,0,nN⟩=fF:=ax i4 0
  have s0:=bY i3
  have s1:=bY i4
  gi_wp2
  have mS:af [w.heap.size,w.heap.size+1] W ((W.setCell ⟨w.heap.size,0,nN⟩ (vp nN)).setCell ⟨w.heap.size+1,0,nN⟩ (vi iQ 12)):=(mR.setCell sM _).setCell sM _
  have hK2:=mS.keep hK (by simp;omega)
  have q0:((W.setCell ⟨w.heap.size,0,nN⟩ (vp nN)).setCell ⟨w.heap.size+1,0,nN⟩ (vi iQ 12)).heap[w.heap.size]?=_:=(bq oM).trans (ba i3 0 (vp nN))
  have q1:((W.setCell ⟨w.heap.size,0,nN⟩ (vp nN)).setCell ⟨w.heap.size+1,0,nN⟩ (vi iQ 12)).heap[w.heap.size+1]?=_:=ba ((bq oM).trans i4) 0 (vi iQ 12)
  have mM:=i1.trans mS sM
  generalize (W.setCell ⟨w.heap.size,0,nN⟩ (vp nN)).setCell ⟨w.heap.size+1,0,nN⟩ (vi iQ 12)=W5 at *
  refine ⟨by simp,.inl ⟨_,_,rfl,run_takeDeferred hK2,?_⟩⟩
  have mP:=ep W5 w1.heap.size (.deferred nN)
  have r0:=mP.keep q0 (by simp;omega)
  have r1:=mP.keep q1 (by simp;omega)
  have mF:=mM.trans mP (by simp;omega)
  generalize W5.putObj w1.heap.size (.deferred nN)=W6 at *
  have k0:W6.cell? ⟨w.heap.size,0,nN⟩=sS (vp nN):=ab r0 0
  have k1:W6.cell? ⟨w.heap.size+1,0,nN⟩=sS (vi iQ 12):=ab r1 0
  refine ⟨.tuple #[vp nN,vi iQ 12],?_,?_,mF⟩
  ·rw [mo rfl];go_simp
  ·rw [hpv.out,hev.out,pG hL0,show jW L=12 from pG hL0]
 case stop=>
  rintro c i W hi ⟨rfl,i2,i3,i4,i5,i6,i7⟩ hK
  have hL0:L≠[]:=by rintro rfl;exact i7 rfl
  have c0:W.cell? ⟨w.heap.size,0,nN⟩=sS (vp (sS ⟨D (7 - i),0,nN⟩)):=ab i4 0
  have c1:W.cell? ⟨w.heap.size+1,0,nN⟩=sS (vi iQ 0):=ab i5 0
  gi_wp2
  refine ⟨by simp,.inl ⟨_,_,rfl,run_takeDeferred hK,?_⟩⟩
  have mP:=ep W w1.heap.size (.deferred nN)
  have r0:=mP.keep i4 (by simp;omega)
  have r1:=mP.keep i5 (by simp;omega)
  have mF:=i2.trans mP (by simp;omega)
  generalize W.putObj w1.heap.size (.deferred nN)=W6 at *
  have k0:W6.cell? ⟨w.heap.size,0,nN⟩=sS (vp (sS ⟨D (7 - i),0,nN⟩)):=ab r0 0
  have k1:W6.cell? ⟨w.heap.size+1,0,nN⟩=sS (vi iQ 0):=ab r1 0
  refine ⟨.tuple #[vp (sS ⟨D (7 - i),0,nN⟩),vi iQ 0],?_,?_,mF⟩
  ·rw [mo rfl];go_simp
  ·rw [hpv.out,hev.out,nG hL0,show jW L=0 from nG hL0,FI hi i6 i7]
end
end
section
variable {F:List Nat} {w u:wW} {b mb most:Nat} {D:Nat -> Nat} {L:PQ}
theorem Gf (h:(db b most L).holds F w):Calls tp 274 #[vp (sS ⟨b,0,nN⟩)] w (λe w'=>e=.returned (.tuple #[vi iQ (if L=[] then 0 else fJ L),vi iQ (jW L)]) /\ af [] w w'):=by
 obtain ⟨mb,D,hf,hA⟩:=fX h
 have hT:=yZ hf hA
 by_cases hL:L=[]
 ·rw [pG hL,show jW L=12 from pG hL] at hT
  rw [pG hL,show jW L=12 from pG hL]
  clear hA h hf hL
  go_in
  go_wp2_with (go_at_call 317;refine hT.s λw1 m1=>?_)
  go_ret2
  exact ⟨rfl,m1⟩
 ·rw [nG hL,show jW L=0 from nG hL] at hT
  rw [nG hL,show jW L=0 from nG hL]
  obtain ⟨t1,t2,t3⟩:=jV hf.1 hL
  have hfr:∀ w1,af [] w w1 -> Calls tp 272 #[vp (sS ⟨D (br L),0,nN⟩)] w1 (au (.tuple #[vi iQ (fJ L),vi iQ 0]) w1):=by
   intro w1 m1
   obtain ⟨F1,h1⟩:=(hA.keep m1).prLvlAt t1
   have:=nt h1
   rwa [show cd (cJ L (br L))=fJ L from t3,show dN (cJ L (br L))=0 from nG t2] at this
  generalize fJ L=x at *
  generalize D (br L)=d at *
  clear hA h hf hL t1 t2 t3
  go_in
  go_wp2_with (first
   | (go_at_call 317;refine hT.s λw1 m1=>?_)
   | (go_at_call 272;refine (hfr _ m1).r λk=>?_))
  go_ret2
  exact ⟨rfl,m1.drewN _⟩
theorem FH {L:PQ} (hok:L.ok) (hL:L≠[]) (q:Nat):cJ (eJ L) q=if q=br L then (cJ L q).tail++[fJ L] else cJ L q:=by
 obtain ⟨t1,t2,t3⟩:=jV hok hL
 have hmem:fJ L∈cJ L (br L):=by
  rw [<- t3]
  cases hl:cJ L (br L) with
  | nil=>exact absurd hl t2
  | cons a l=>simp [ar]
 have hp:aH L (fJ L)=sS (br L):=(ca hok).2 (lQ.1 hmem)
 unfold eJ
 rw [nG hL]
 unfold iT
 rw [hp]
 simp only
 rw [tg]
 by_cases e:q=br L
 ·rw [pG e,pG e,rO hok hp,pG rfl,e]
  congr 1
  cases hl:cJ L (br L) with
  | nil=>exact absurd hl t2
  | cons a l=>
   rw [hl] at t3
   have:a=fJ L:=by simpa [ar] using t3
   subst this
   simp
 ·rw [nG e,nG e,rO hok hp,nG e]
theorem vB (hf:L.fine most):(eJ L).fine most /\ (eJ L).length=L.length /\ ∀ id,aH (eJ L) id=aH L id:=by
 by_cases hL:L=[]
 ·subst hL;exact ⟨hf,rfl,λ_=>rfl⟩
 ·obtain ⟨t1,t2,t3⟩:=jV hf.1 hL
  have hmem:fJ L∈cJ L (br L):=by
   rw [<- t3]
   cases hl:cJ L (br L) with
   | nil=>exact absurd hl t2
   | cons a l=>simp [ar]
  have hp:aH L (fJ L)=sS (br L):=(ca hf.1).2 (lQ.1 hmem)
  have hpos:=List.length_pos_iff.2 hL
  have hlen:(eJ L).length=L.length:=by
   unfold eJ iT
   rw [nG hL,hp]
   simp only
   rw [List.length_append,lg hf.1 (by rw [hp];rfl)]
   simp;omega
  have hok:(eJ L:PQ).ok:=by
   unfold eJ iT
   rw [nG hL,hp]
   exact rG (rJ hf.1 _) t1 (by rw [iu,pG rfl])
  refine ⟨⟨hok,by rw [hlen];exact hf.2.1,hf.2.2⟩,hlen,λid=>?_⟩
  have key:=@sT (dT L (fJ L)) (br L) (fJ L) (by rw [iu,pG rfl])
  have h2:=congrFun key id
  rw [<- vM] at h2
  have h3:dY (eJ L) id=dY L id:=by
   have e:eJ L=dT L (fJ L)++[(br L,fJ L)]:=by unfold eJ iT;rw [nG hL,hp]
   rw [e]
   unfold BX BZ ew at h2
   by_cases ei:id=fJ L
   ·rw [pG ei] at h2
    rw [ei]
    unfold dY
    rw [hp]
    have:=(ca (e ▸ hok:PQ.ok (dT L (fJ L)++[(br L,fJ L)]))).2 (List.mem_append_right _ (List.mem_singleton.2 rfl))
    rw [this]
   ·rw [nG ei,nG ei] at h2
    have hinj:∀ a b:Option Int,a.map (vi iQ)=b.map (vi iQ) -> a=b:=by
     intro a b hab
     cases a<;>cases b<;>simp_all
    exact (hinj _ _ h2).symm
  unfold dY at h3
  cases h4:aH (eJ L) id<;>cases h5:aH L id<;>simp_all<;>omega
theorem DH (h:(db b most L).holds F w):Calls tp 275 #[vp (sS ⟨b,0,nN⟩)] w (al (db b most (eJ L)) F (vi iQ (jW L)) w):=by
 obtain ⟨mb,D,hf,hA⟩:=fX h
 have hT:=yZ hf hA
 obtain ⟨f1,f2,f3⟩:=vB hf
 by_cases hL:L=[]
 ·rw [pG hL,show jW L=12 from pG hL] at hT
  rw [show eJ L=L from pG hL,show jW L=12 from pG hL]
  clear h hL f1 f2 f3
  have H:=zh hA
  clear hA
  go_in
  go_wp2_with (go_at_call 317;refine hT.s λw1 m1=>?_)
  go_ret
  exact ⟨rfl,(H.out.keep m1).prio hf⟩
 ·rw [nG hL,show jW L=0 from nG hL] at hT
  rw [show jW L=0 from nG hL]
  obtain ⟨t1,t2,t3⟩:=jV hf.1 hL
  have hl:=FH hf.1 hL
  have htn:∀ w1,af [] w w1 -> Calls tp 318 #[vp (sS ⟨D (br L),0,nN⟩)] w1 (λe u=>e=.returned (vi iQ 0) /\ On F w (fO b mb most D (eJ L)) u):=by
   intro w1 m1
   have hq:cT most (cJ L (br L)).tail (cd (cJ L (br L)))=0:=by
    unfold cT
    have hn:=wC hf.1 (br L)
    have hle:=xF (L:=L) (br L)
    have hlm:=hf.2.1
    have hm1:=hf.2.2.1
    cases hl:cJ L (br L) with
    | nil=>exact absurd hl t2
    | cons a l=>
     rw [hl] at hn hle
     have hni:=(List.nodup_cons.1 hn).1
     simp only [List.length_cons] at hle
     rw [nG (by simpa [cd,ar] using hni),nG (by simp;omega)]
   have hqs:yX most (cJ L (br L))=(cJ L (br L)).tail++[fJ L]:=by
    unfold yX kM
    rw [nG t2,pG hq,show cd (cJ L (br L))=fJ L from t3]
   have:=(hA.keep m1).call (2+br L) (R:=aQ (D (br L)) most (cJ L (br L))) (R':=aQ (D (br L)) most ((cJ L (br L)).tail++[fJ L])) (v:=vi iQ 0) (za t1) (λF1 h1=>by
    have:=EW h1
    rwa [nG t2,hq,hqs] at this)
   have e:=sQ (b:=b) (mb:=mb) (most:=most) (D:=D) (L:=L) (L':=eJ L) (n':=L.length) f2.symm (g:=ew (dY L)) (by congr 1;funext id;unfold dY;rw [f3]) t1 (l':=(cJ L (br L)).tail++[fJ L]) (by rw [hl,pG rfl]) (λq hq=>by rw [hl,nG hq])
   have e2:(fO b mb most D L).set (2+br L) (aQ (D (br L)) most ((cJ L (br L)).tail++[fJ L]))=fO b mb most D (eJ L):=e
   rwa [e2] at this
  generalize D (br L)=d at *
  clear hA h hL t1 t2 t3 f2 f3 hl
  go_in
  go_wp2_with (first
   | (go_at_call 317;refine hT.s λw1 m1=>?_)
   | (go_at_call 318;refine (htn _ m1).s λw2 hC=>?_))
  go_ret
  exact ⟨rfl,hC.prio f1⟩
end
section
attribute [local go_sem] Oper.semAt_some
/-- A new row of ints was made. -/
def yc (l:List Int) (w:wW) (e:Ending) (w':wW):Prop:=∃ g cap,e=.returned (.slice (rA g) l.length cap) /\ lY 3 1 w' g cap l.length (l.map (vi iQ)) /\ af [] w w' /\ ∀ b,b∈rF g -> w.heap.size <= b
def oq (L:PQ):Nat -> List Int
 | 0=>[]
 | i+1=>oq L i++cJ L (7 - i)
theorem GB (L:PQ):oq L 8=lu L:=by simp [oq,lu,kP]
theorem CB:∀ (L:PQ) (i:Nat),(oq L i).length <= L.length * i
 | L,0=>by simp [oq]
 | L,i+1=>by
  have:=CB L i
  have:=xF (L:=L) (7 - i)
  unfold oq
  rw [List.length_append,Nat.mul_add,Nat.mul_one]
  omega
theorem fy {F:Fence} {n:Nat} {P:Program} {w w':wW} {o:Oper} {a:Act} {K:Act -> wW -> Prop} {Q:Exit -> Act -> wW -> Prop}
  (s x:Operand) (t:TypeId) (ho:o.op=.call { callee:=.builtin .append,args:=#[s,x],argTypes:=#[t,t] }) {v u r:Value} (hs:a.eval s=v) (hx:a.eval x=u)
  (hr:(Builtin.append_ #[t,t] o.type #[v,u]).run P w=.ok r w') (h:K (a.put o.dst r) w'):Oper.wpIn F n P o a w K Q:=by
 unfold Oper.wpIn
 refine ⟨by simp [Oper.about,ho,resolve,Target.leads,Sem.run_pure],?_⟩
 rw [Oper.semAt_plain F _ _ (by rw [ho];intro c hc';cases hc')]
 simp [execOp,ho,resolve,invoke,builtin,hs,hx,hr,Result.andThen]
 exact h
section
variable {F:List Nat} {w u:wW} {b mb most:Nat} {D:Nat -> Nat} {L:PQ}
theorem DJ (h:(db b most L).holds F w):Calls tp 89 #[vp (sS ⟨b,0,nN⟩)] w (yc (lu L) w):=by
 obtain ⟨mb,D,hf,h⟩:=fX h
 have hlen8:∀ i,i <= 8 -> (oq L i).length<100000:=by
  intro i hi
  have h1:=CB L i
  have h2:=hf.2.1
  have h3:=hf.2.2.2
  have h4:L.length * i <= 1024 * 8:=Nat.mul_le_mul oM hi
  omega
 refine (callsIn_wide (n:=4)).1 ?_
 refine callsIn_of_wp_marks Tryz.func89 rfl trivial ?_ rfl
 simp only [Tryz.ntmps89,List.size_toArray,List.length_cons,List.length_nil,Nat.reduceAdd,Nat.reduceSub,Array.replicate_succ,Array.replicate_zero,List.push_toArray,List.append_toArray,List.nil_append,List.cons_append]
 gi_wp2_with (
   refine ⟨trivial,?_⟩
   gi_at_call 171
   refine (callsIn_wide.2 (vJ _ _)).mono ?_
   rintro e w1 ⟨rfl,m1,s1,x1⟩
  )
 have z1:w.heap.size+1<w1.heap.size:=by simpa using s1
 have M1:af [] w w1:=af.trans (S:=[]) (T:=[]) (mR.alloc _) m1 sM
 have x0:w1.heap[w.heap.size]?=sS (.cells #[.slice nN 0 0] 30 (0,0)):=m1.keep (ai _ _) sM
 have x3:w1.heap[w.heap.size+1]?=sS (.cells #[vp (sS ⟨b,0,nN⟩)] 157 (0,0)):=by simpa using x1
 clear m1 s1 x1
 refine gU (gf:=254) (lb:=#[vp (sS ⟨w.heap.size+1,0,nN⟩)]) rfl (enters_of Tryz.func254 kz rfl) rfl
  8 (λi=>vp (sS ⟨D (7 - i),0,nN⟩))
  (λi W=>af [] w W /\ w1.heap.size <= W.heap.size /\ W.heap[w.heap.size+1]?=sS (.cells #[vp (sS ⟨b,0,nN⟩)] 157 (0,0)) /\ ∃ g cap,W.heap[w.heap.size]?=sS (.cells #[.slice (rA g) (oq L i).length cap] 30 (0,0)) /\ lY 3 1 W g cap (oq L i).length ((oq L i).map (vi iQ)) /\ ∀ k,k∈rF g -> w1.heap.size+2 <= k)
  (λ_ _ _=>False)
  ?put ?putx ?i0 ?it ?round ?done ?stop
 case put=>
  rintro i W q o ⟨i1,i2,i3,g,cap,i4,i5,i6⟩ hq
  have hge:w1.heap.size <= q:=by omega
  have mq:=ep W q o
  exact ⟨i1.trans mq (by simp;omega),by simpa using i2,mq.keep i3 (by simp;omega),g,cap,mq.keep i4 (by simp;omega),i5.keep mq (λk hk=>by have:=i6 k hk;simp;omega),i6⟩
 case putx=>exact λ_ _ _ _ _ h _=>h
 case i0=>
  intro o1 o2
  have m2:af [] w1 ((w1.alloc o1).alloc o2):=(mR.alloc _).alloc _
  exact ⟨M1.trans m2 sM,m2.size,m2.keep x3 sM,nN,0,m2.keep x0 sM,lY.nil _ _ _,by simp [rF]⟩
 case it=>
  intro l J Jx W hJ hY h0
  exact sR l (w.heap.size+1) b D J Jx W (λi W h1=>⟨ab (hJ i W h1).2.2.1 0,λp hp=>(h.keep (hJ i W h1).1).prLvl hp⟩) hY h0
 case round=>
  rintro l i W ⟨i1,i2,i3,g,cap,i4,i5,i6⟩ hi hlt
  gi_wp2
  refine ⟨af.refl _ _,λo=>?_⟩
  have mq:=ep W (w1.heap.size+1) o
  have j1:af [] w (W.putObj (w1.heap.size+1) o):=i1.trans mq (by simp;omega)
  have j3:=mq.keep i3 (by simp;omega)
  have j4:=mq.keep i4 (by simp;omega)
  have j5:=i5.keep mq (λk hk=>by have:=i6 k hk;simp;omega)
  have hA:=h.keep j1
  have hsz:w1.heap.size <= (W.putObj (w1.heap.size+1) o).heap.size:=by simpa using i2
  have hlt2:w1.heap.size+1<(W.putObj (w1.heap.size+1) o).heap.size:=by simpa using hlt
  clear mq i1 i3 i4 i5
  have hk0:(W.putObj (w1.heap.size+1) o).heap[w1.heap.size]?=W.heap[w1.heap.size]?:=World.putObj_heap_other oM
  rw [<- hk0]
  clear hk0
  generalize W.putObj (w1.heap.size+1) o=W2 at *
  have hL:∀ k,Calls tp 172 #[vp (sS ⟨D (7 - i),0,nN⟩)] (W2.drewN k) _:=λk=>by
   obtain ⟨F1,hL⟩:=(hA.keep (u':=W2.drewN k) (mR.drewN k)).prLvlAt (p:=7 - i) oM
   exact jL hL
  have c0:W2.cell? ⟨w.heap.size,0,nN⟩=sS (.slice (rA g) (oq L i).length cap):=ab j4 0
  have f0:W2.frozen? ⟨w.heap.size,0,nN⟩=fF:=ax j4 0
  have s0:=bY j4
  clear hA
  have hn:=hlen8 i oM
  have hS:(oq L (i+1))=oq L i++cJ L (7 - i):=rfl
  have hlv:=xF (L:=L) (7 - i)
  have hlm:=hf.2.1
  have hlx:=hf.2.2.2
  generalize hl:cJ L (7 - i)=lv at *
  generalize hls:oq L i=ls at *
  gi_wp2
  obtain ⟨j0,hi0,hi2⟩:=Option.map_eq_some_iff.1 oN
  simp only [Prod.mk.injEq] at hi2
  obtain ⟨y1,y2,y3⟩:=hi2
  have happ:∀ (w':wW) (a:Option Addr) (c:Nat),af [] W2 w' -> (lv=[] /\ a=nN /\ c=0 \/ c=lv.length /\ a=sS ⟨W2.heap.size,0,nN⟩ /\ w'.heap[W2.heap.size]?=sS (cq lv)) ->
    ∃ g' cap' w3,(∀ ty,(Builtin.append_ #[30,30] ty #[.slice (rA g) ls.length cap,.slice a lv.length c]).run tp w'=.ok (.slice (rA g') (ls.length+lv.length) cap') w3) /\
     lY 3 1 w3 g' cap' (ls++lv).length ((ls++lv).map (vi iQ)) /\ af (rF g) W2 w3 /\ ∀ k,k∈rF g' -> w1.heap.size+2 <= k:=by
   intro w' a c m' hs
   have hsrc:xd w' 1 a lv.length (lv.map (vi iQ)):=by
    refine ⟨by simp,by intro u hu;obtain ⟨x,_,rfl⟩:=List.mem_map.1 hu;simp [Value.oneCell'],?_⟩
    rcases hs with ⟨h1,h2,_⟩|⟨_,h2,h3⟩
    ·left;exact ⟨h2,by rw [h1];rfl⟩
    ·right
     refine ⟨_,_,h2,λj u hj=>?_⟩
     rw [Nat.zero_add,ab h3 j]
     have hlt:j<lv.length:=by have:=(List.getElem?_eq_some_iff.1 hj).1;simpa using this
     rw [bZ hlt]
     rw [List.getElem?_map,List.getElem?_eq_getElem hlt] at hj
     simp at hj
     rw [<- hj]
     simp [ar,List.getD,hlt]
   obtain ⟨g',cap',w3,r1,r2,r3,r4⟩:=(j5.keep m' sM).appendSrc (P:=tp) (tt:=30) Tryz.underlying30 hi0 y1 y2 y3 rfl oM oM hsrc oM (λe=>by
    rcases hs with ⟨_,_,h⟩|⟨_,h2,_⟩
    ·exact h
    ·rw [h2] at e;cases e)
   have hms:=m'.size
   refine ⟨g',cap',w3,r1,by simpa using r2,af.trans (S:=rF g) (T:=rF g) (m'.mono sM) r3 (λk hk=>.inl hk),λk hk=>?_⟩
   rcases r4 k hk with h|h
   ·exact i6 k h
   ·omega
  refine wpIn_region_any kz ?_
  try (change wpAnyIn _ _ _ _ _ _ _ _ _ (World.drew _))
  refine wpAnyIn_ready (rs:=[0,1]) kz sM ?_
  refine AllReadyIn.cons rfl (λK hK=>?_) (AllReadyIn.cons rfl (λK hK=>?_) AllReadyIn.nil)
  ·rw [pG (by rfl)]
   go_simp
   refine hK _ _ ?_
   clear hK K
   refine wpAnyIn_ready (rs:=[1]) kz sM ?_
   refine AllReadyIn.cons rfl (λK hK=>?_) AllReadyIn.nil
   rw [pG (by rfl)]
   go_simp
   refine hK _ _ ?_
   clear hK K
   refine wpAnyIn_ready (rs:=[2]) kz sM ?_
   refine AllReadyIn.cons rfl (λK hK=>?_) AllReadyIn.nil
   rw [pG (by rfl)]
   go_simp
   refine ⟨trivial,?_⟩
   gi_at_call 172
   refine (CallsIn.inRound l (callsIn_wide.2 (hL 1))).mono ?_
   rintro e w' ⟨a,c,rfl,m',hs⟩
   refine hK _ _ ?_
   clear hK K
   have d4:=m'.keep j4 sM
   have d0:w'.cell? ⟨w.heap.size,0,nN⟩=sS (.slice (rA g) ls.length cap):=ab d4 0
   obtain ⟨g',cap',w3,hrun,r2,r3,r4⟩:=happ w' a c m'.undrewN hs
   refine wpAnyIn_ready (rs:=[3]) kz sM ?_
   refine AllReadyIn.cons rfl (λK hK=>?_) AllReadyIn.nil
   rw [pG (by rfl)]
   refine fy _ _ _ rfl (by first|rfl|(go_simp;rfl)) (by first|rfl|(go_simp;rfl)) (hrun _) ?_
   refine hK _ _ ?_
   clear hK K
   have q4:=r3.keep j4 (λhk=>by have:=i6 _ hk;omega)
   have k0:=ax q4 0
   have k1:w3.cell? ⟨w.heap.size,0,nN⟩=sS (.slice (rA g) ls.length cap):=ab q4 0
   have k2:=bY q4
   refine wpAnyIn_ready (rs:=[4]) kz sM ?_
   refine AllReadyIn.cons rfl (λK hK=>?_) AllReadyIn.nil
   rw [pG (by rfl)]
   go_simp
   refine hK _ _ ?_
   clear hK K
   refine wpAnyIn_done kz ?_ _
   have mC:af (w.heap.size :: rF g) W2 (w3.setCell ⟨w.heap.size,0,nN⟩ (.slice (rA g') (ls.length+lv.length) cap')):=(r3.mono (λk hk=>.inl (List.mem_cons_of_mem _ hk))).setCell sM _
   have hni:∀ k,k≠w.heap.size -> k<w1.heap.size+2 -> k∉w.heap.size :: rF g:=by
    intro k h1 h2 h3
    rcases List.mem_cons.1 h3 with h3|h3
    ·exact h1 h3
    ·have:=i6 _ h3;omega
   have hfin:(w3.setCell ⟨w.heap.size,0,nN⟩ (.slice (rA g') (ls.length+lv.length) cap')).heap[w.heap.size]?=sS (.cells #[.slice (rA g') (ls.length+lv.length) cap'] 30 (0,0)):=ba q4 0 _
   have hrow:=r2.keep ((af.refl [w.heap.size] w3).setCell (p:=⟨w.heap.size,0,nN⟩) sM (.slice (rA g') (ls.length+lv.length) cap')) (λk hk=>by have:=r4 k hk;simp;omega)
   exact ⟨mC.block _ oM (hni _ oM oM),mC.block _ oM (hni _ oM oM),j1.trans mC (λk hk=>by
     rcases List.mem_cons.1 hk with hk|hk
     ·right;omega
     ·right;have:=i6 _ hk;omega),by have:=mC.size;omega,mC.keep j3 (hni _ oM oM),g',cap',by rw [hS,List.length_append];exact hfin,by rw [hS];exact hrow,r4⟩
  ·rw [pG (by rfl)]
   go_simp
   refine hK _ _ ?_
   clear hK K
   refine wpAnyIn_ready (rs:=[0,2]) kz sM ?_
   refine AllReadyIn.cons rfl (λK hK=>?_) (AllReadyIn.cons rfl (λK hK=>?_) AllReadyIn.nil)
   ·rw [pG (by rfl)]
    go_simp
    refine hK _ _ ?_
    clear hK K
    refine wpAnyIn_ready (rs:=[2]) kz sM ?_
    refine AllReadyIn.cons rfl (λK hK=>?_) AllReadyIn.nil
    rw [pG (by rfl)]
    go_simp
    refine ⟨trivial,?_⟩
    gi_at_call 172
    refine (CallsIn.inRound l (callsIn_wide.2 (hL 1))).mono ?_
    rintro e w' ⟨a,c,rfl,m',hs⟩
    refine hK _ _ ?_
    clear hK K
    have d4:=m'.keep j4 sM
    have d0:w'.cell? ⟨w.heap.size,0,nN⟩=sS (.slice (rA g) ls.length cap):=ab d4 0
    obtain ⟨g',cap',w3,hrun,r2,r3,r4⟩:=happ w' a c m'.undrewN hs
    refine wpAnyIn_ready (rs:=[3]) kz sM ?_
    refine AllReadyIn.cons rfl (λK hK=>?_) AllReadyIn.nil
    rw [pG (by rfl)]
    refine fy _ _ _ rfl (by first|rfl|(go_simp;rfl)) (by first|rfl|(go_simp;rfl)) (hrun _) ?_
    refine hK _ _ ?_
    clear hK K
    have q4:=r3.keep j4 (λhk=>by have:=i6 _ hk;omega)
    have k0:=ax q4 0
    have k1:w3.cell? ⟨w.heap.size,0,nN⟩=sS (.slice (rA g) ls.length cap):=ab q4 0
    have k2:=bY q4
    refine wpAnyIn_ready (rs:=[4]) kz sM ?_
    refine AllReadyIn.cons rfl (λK hK=>?_) AllReadyIn.nil
    rw [pG (by rfl)]
    go_simp
    refine hK _ _ ?_
    clear hK K
    refine wpAnyIn_done kz ?_ _
    have mC:af (w.heap.size :: rF g) W2 (w3.setCell ⟨w.heap.size,0,nN⟩ (.slice (rA g') (ls.length+lv.length) cap')):=(r3.mono (λk hk=>.inl (List.mem_cons_of_mem _ hk))).setCell sM _
    have hni:∀ k,k≠w.heap.size -> k<w1.heap.size+2 -> k∉w.heap.size :: rF g:=by
     intro k h1 h2 h3
     rcases List.mem_cons.1 h3 with h3|h3
     ·exact h1 h3
     ·have:=i6 _ h3;omega
    have hfin:(w3.setCell ⟨w.heap.size,0,nN⟩ (.slice (rA g') (ls.length+lv.length) cap')).heap[w.heap.size]?=sS (.cells #[.slice (rA g') (ls.length+lv.length) cap'] 30 (0,0)):=ba q4 0 _
    have hrow:=r2.keep ((af.refl [w.heap.size] w3).setCell (p:=⟨w.heap.size,0,nN⟩) sM (.slice (rA g') (ls.length+lv.length) cap')) (λk hk=>by have:=r4 k hk;simp;omega)
    exact ⟨mC.block _ oM (hni _ oM oM),mC.block _ oM (hni _ oM oM),j1.trans mC (λk hk=>by
      rcases List.mem_cons.1 hk with hk|hk
      ·right;omega
      ·right;have:=i6 _ hk;omega),by have:=mC.size;omega,mC.keep j3 (hni _ oM oM),g',cap',by rw [hS,List.length_append];exact hfin,by rw [hS];exact hrow,r4⟩
   ·rw [pG (by rfl)]
    go_simp
    refine ⟨trivial,?_⟩
    gi_at_call 172
    refine (CallsIn.inRound l (callsIn_wide.2 (hL 1))).mono ?_
    rintro e w' ⟨a,c,rfl,m',hs⟩
    refine hK _ _ ?_
    clear hK K
    have d4:=m'.keep j4 sM
    have d0:w'.cell? ⟨w.heap.size,0,nN⟩=sS (.slice (rA g) ls.length cap):=ab d4 0
    obtain ⟨g',cap',w3,hrun,r2,r3,r4⟩:=happ w' a c m'.undrewN hs
    refine wpAnyIn_ready (rs:=[0]) kz sM ?_
    refine AllReadyIn.cons rfl (λK hK=>?_) AllReadyIn.nil
    rw [pG (by rfl)]
    go_simp
    refine hK _ _ ?_
    clear hK K
    refine wpAnyIn_ready (rs:=[3]) kz sM ?_
    refine AllReadyIn.cons rfl (λK hK=>?_) AllReadyIn.nil
    rw [pG (by rfl)]
    refine fy _ _ _ rfl (by first|rfl|(go_simp;rfl)) (by first|rfl|(go_simp;rfl)) (hrun _) ?_
    refine hK _ _ ?_
    clear hK K
    have q4:=r3.keep j4 (λhk=>by have:=i6 _ hk;omega)
    have k0:=ax q4 0
    have k1:w3.cell? ⟨w.heap.size,0,nN⟩=sS (.slice (rA g) ls.length cap):=ab q4 0
    have k2:=bY q4
    refine wpAnyIn_ready (rs:=[4]) kz sM ?_
    refine AllReadyIn.cons rfl (λK hK=>?_) AllReadyIn.nil
    rw [pG (by rfl)]
    go_simp
    refine hK _ _ ?_
    clear hK K
    refine wpAnyIn_done kz ?_ _
    have mC:af (w.heap.size :: rF g) W2 (w3.setCell ⟨w.heap.size,0,nN⟩ (.slice (rA g') (ls.length+lv.length) cap')):=(r3.mono (λk hk=>.inl (List.mem_cons_of_mem _ hk))).setCell sM _
    have hni:∀ k,k≠w.heap.size -> k<w1.heap.size+2 -> k∉w.heap.size :: rF g:=by
     intro k h1 h2 h3
     rcases List.mem_cons.1 h3 with h3|h3
     ·exact h1 h3
     ·have:=i6 _ h3;omega
    have hfin:(w3.setCell ⟨w.heap.size,0,nN⟩ (.slice (rA g') (ls.length+lv.length) cap')).heap[w.heap.size]?=sS (.cells #[.slice (rA g') (ls.length+lv.length) cap'] 30 (0,0)):=ba q4 0 _
    have hrow:=r2.keep ((af.refl [w.heap.size] w3).setCell (p:=⟨w.heap.size,0,nN⟩) sM (.slice (rA g') (ls.length+lv.length) cap')) (λk hk=>by have:=r4 k hk;simp;omega)
    exact ⟨mC.block _ oM (hni _ oM oM),mC.block _ oM (hni _ oM oM),j1.trans mC (λk hk=>by
      rcases List.mem_cons.1 hk with hk|hk
      ·right;omega
      ·right;have:=i6 _ hk;omega),by have:=mC.size;omega,mC.keep j3 (hni _ oM oM),g',cap',by rw [hS,List.length_append];exact hfin,by rw [hS];exact hrow,r4⟩
 case done=>
  rintro W ⟨i1,i2,i3,g,cap,i4,i5,i6⟩ hK
  rw [GB] at i4 i5
  have c0:W.cell? ⟨w.heap.size,0,nN⟩=sS (.slice (rA g) (lu L).length cap):=ab i4 0
  gi_wp2
  refine ⟨by simp,.inl ⟨_,_,rfl,run_takeDeferred hK,?_⟩⟩
  have mP:=ep W w1.heap.size (.deferred nN)
  refine ⟨_,results_tmp rfl _ _ _,g,cap,rfl,i5.keep mP (λk hk=>by have:=i6 k hk;simp;omega),i1.trans mP (by simp;omega),λk hk=>by have:=i6 k hk;omega⟩
 case stop=>exact λ_ _ _ _ h _=>h.elim
end
end
/-- A new slice of ints. -/
def vu (l:List Int) (w:wW) (e:Ending) (w':wW):Prop:=∃ a c,e=.returned (.slice a l.length c) /\ af [] w w' /\ bN w' a l /\ uF w a
theorem iU.newL {l:List Int} {w:wW} {e:Ending} {w':wW} (h:iU l w e w'):vu l w e w':=by
 obtain ⟨g,cap,rfl,h1,h2,h3⟩:=h
 refine ⟨_,_,rfl,h2,h1.ints,λb o e=>?_⟩
 cases g with
 | none=>cases e
 | some g=>cases e;exact h3 _ (by simp [lF])
theorem yc.newL {l:List Int} {w:wW} {e:Ending} {w':wW} (h:yc l w e w'):vu l w e w':=by
 obtain ⟨g,cap,rfl,h1,h2,h3⟩:=h
 refine ⟨_,_,rfl,h2,?_,λb o e=>?_⟩
 ·by_cases hl:l=[]
  ·exact .inl hl
  ·right
   have h0:0<l.length:=List.length_pos_iff.2 hl
   obtain ⟨b,rfl,_⟩:=h1.cell (j:=0) (v:=vi iQ (ar l 0)) (by simp [ar,List.getD,h0])
   refine ⟨b,rfl,h1.lt b (by simp [rF]),λj hj=>?_⟩
   obtain ⟨b',e,h5⟩:=h1.cell (j:=j) (v:=vi iQ (ar l j)) (by simp [ar,List.getD,hj])
   cases e
   exact h5
 ·cases g with
  | none=>cases e
  | some g=>cases e;exact h3 _ (by simp [rF])
theorem Fq {most:Nat} {L:PQ} (hf:L.fine most) (id:Int):PQ.fine most (iT L id) /\ (iT L id).length=L.length /\ ∀ j,aH (iT L id) j=aH L j:=by
 unfold iT
 cases hp:aH L id with
 | none=>exact ⟨hf,rfl,λ_=>rfl⟩
 | some p=>
  simp only
  have hp8:p<8:=hf.1.lt _ ((ca hf.1).1 hp)
  have hpos:0<L.length:=by
   cases L with
   | nil=>simp [aH] at hp
   | cons _ _=>simp
  have hlen:(dT L id++[(p,id)]).length=L.length:=by
   rw [List.length_append,lg hf.1 (by rw [hp];rfl)]
   simp;omega
  have hok:PQ.ok (dT L id++[(p,id)]):=rG (rJ hf.1 _) hp8 (by rw [iu,pG rfl])
  refine ⟨⟨hok,by rw [hlen];exact hf.2.1,hf.2.2⟩,hlen,λj=>?_⟩
  apply Option.ext
  intro x
  rw [ca hok,ca hf.1,List.mem_append,List.mem_singleton]
  unfold dT
  rw [List.mem_filter]
  constructor
  ·rintro (⟨h,_⟩|h)
   ·exact h
   ·cases h;exact (ca hf.1).1 hp
  ·intro h
   by_cases e:j=id
   ·subst e
    right
    have:=(ca hf.1).2 h
    rw [hp] at this
    cases this;rfl
   ·exact .inl ⟨h,by simpa using e⟩
/-- No id in two queues. -/
structure RQ.ok (r:RQ):Prop where
 n1:1 <= r.n
 n2:r.n <= 64
 fine:∀ c,(r.q c).fine 32
 uniq:∀ c d id,c<r.n -> d<r.n -> (aH (r.q c) id).isSome=tQ -> (aH (r.q d) id).isSome=tQ -> c=d
theorem RQ.whr_some {r:RQ} (h:r.ok) {id:Int} {c:Nat}:r.whr id=sS c↔c<r.n /\ (aH (r.q c) id).isSome=tQ:=by
 unfold RQ.whr
 constructor
 ·intro hh
  have h2:=List.find?_some hh
  exact ⟨List.mem_range.1 (List.mem_of_find?_eq_some hh),by simpa using h2⟩
 ·rintro ⟨h1,h2⟩
  cases hf:(List.range r.n).find? λc=>(aH (r.q c) id).isSome with
  | none=>
   have:=List.find?_eq_none.1 hf c (List.mem_range.2 h1)
   rw [h2] at this;exact absurd rfl this
  | some d=>
   have h3:=List.find?_some hf
   have h4:=List.mem_range.1 (List.mem_of_find?_eq_some hf)
   rw [h.uniq c d id h1 h4 h2 (by simpa using h3)]
theorem RQ.whr_none {r:RQ} {id:Int}:r.whr id=nN↔∀ c,c<r.n -> aH (r.q c) id=none:=by
 unfold RQ.whr
 rw [List.find?_eq_none]
 constructor
 ·intro h c hc
  have:=h c (List.mem_range.2 hc)
  cases hp:aH (r.q c) id with
  | none=>rfl
  | some v=>rw [hp] at this;simp at this
 ·intro h c hc
  rw [h c (List.mem_range.1 hc)];simp
def RQ.whrI (r:RQ):Int -> Option Int:=λid=>Option.map (λc:Nat=>(c:Int)) (r.whr id)
theorem RQ.put_same {r:RQ} (h:r.ok) {c:Nat} (hc:c<r.n) {L:PQ} (hL:L.fine 32) (hs:∀ j,aH L j=aH (r.q c) j):(r.putQ c L).ok /\ (r.putQ c L).whrI=r.whrI:=by
 have hq:∀ d j,aH ((r.putQ c L).q d) j=aH (r.q d) j:=by
  intro d j
  show aH (aq r.q c L d) j=_
  by_cases e:d=c
  ·subst e;rw [ah];exact hs j
  ·rw [ao _ _ e]
 have hok:(r.putQ c L).ok:=by
  refine ⟨h.n1,h.n2,λd=>?_,λd e id hd he h1 h2=>?_⟩
  ·show (aq r.q c L d).fine 32
   by_cases e:d=c
   ·subst e;rw [ah];exact hL
   ·rw [ao _ _ e];exact h.fine d
  ·rw [hq] at h1 h2;exact h.uniq d e id hd he h1 h2
 refine ⟨hok,?_⟩
 funext id
 unfold RQ.whrI
 congr 1
 apply Option.ext
 intro d
 rw [RQ.whr_some hok,RQ.whr_some h,hq]
 exact Iff.rfl
theorem RQ.put_new {r:RQ} (h:r.ok) {c:Nat} (hc:c<r.n) {p:Nat} {id:Int} (hw:r.whr id=nN) (hp:p<8) (hl:(r.q c).length<32):(r.putQ c (r.q c++[(p,id)])).ok /\ (r.putQ c (r.q c++[(p,id)])).whrI=cA r.whrI id (c:Int):=by
 have hn:=RQ.whr_none.1 hw
 have hq:∀ d j,d<r.n -> (aH ((r.putQ c (r.q c++[(p,id)])).q d) j).isSome=if d=c /\ j=id then tQ else (aH (r.q d) j).isSome:=by
  intro d j hd
  show (aH (aq r.q c _ d) j).isSome=_
  by_cases e:d=c
  ·subst e
   rw [ah]
   unfold aH
   rw [List.find?_append]
   by_cases ej:j=id
   ·subst ej
    simp
   ·have:([(p,id)]:PQ).find? (λx=>decide (x.2=j))=none:=by simp;exact λq=>ej q.symm
    rw [this]
    simp [ej]
  ·rw [ao _ _ e];simp [e]
 have hok:(r.putQ c (r.q c++[(p,id)])).ok:=by
  refine ⟨h.n1,h.n2,λd=>?_,λd e j hd he h1 h2=>?_⟩
  ·show (aq r.q c _ d).fine 32
   by_cases e:d=c
   ·subst e;rw [ah];exact ⟨rG (h.fine d).1 hp (hn d hc),by simp;omega,(h.fine d).2.2⟩
   ·rw [ao _ _ e];exact h.fine d
  ·have hd2:d<r.n:=hd
   have he2:e<r.n:=he
   rw [hq _ _ hd2] at h1
   rw [hq _ _ he2] at h2
   by_cases ej:j=id
   ·subst ej
    rw [hn d hd2] at h1
    rw [hn e he2] at h2
    simp at h1 h2
    rw [h1,h2]
   ·simp [ej] at h1 h2
    exact h.uniq d e j hd2 he2 h1 h2
 refine ⟨hok,?_⟩
 funext j
 unfold RQ.whrI cA
 by_cases ej:j=id
 ·subst ej
  rw [pG rfl,(RQ.whr_some hok (c:=c)).2 ⟨hc,by rw [hq _ _ hc];simp⟩]
  rfl
 ·rw [nG ej]
  congr 1
  apply Option.ext
  intro d
  rw [RQ.whr_some hok,RQ.whr_some h]
  constructor
  ·rintro ⟨h1,h2⟩
   have h1':d<r.n:=h1
   rw [hq _ _ h1'] at h2
   exact ⟨h1',by simpa [ej] using h2⟩
  ·rintro ⟨h1,h2⟩
   exact ⟨h1,by rw [hq _ _ h1];simp [ej,h2]⟩
theorem RQ.put_out {r:RQ} (h:r.ok) {c:Nat} {id:Int} (hw:r.whr id=sS c):(r.putQ c (dT (r.q c) id)).ok /\ (r.putQ c (dT (r.q c) id)).whrI=dZ r.whrI id:=by
 obtain ⟨hc,hs⟩:=(RQ.whr_some h).1 hw
 have hq:∀ d j,d<r.n -> (aH ((r.putQ c (dT (r.q c) id)).q d) j).isSome=if j=id then fF else (aH (r.q d) j).isSome:=by
  intro d j hd
  show (aH (aq r.q c _ d) j).isSome=_
  by_cases e:d=c
  ·subst e
   rw [ah,iu]
   split<;>rfl
  ·rw [ao _ _ e]
   by_cases ej:j=id
   ·subst ej
    rw [pG rfl]
    cases hp:(aH (r.q d) j).isSome with
    | false=>rfl
    | true=>exact absurd (h.uniq d c j hd hc hp hs) e
   ·rw [nG ej]
 have hok:(r.putQ c (dT (r.q c) id)).ok:=by
  refine ⟨h.n1,h.n2,λd=>?_,λd e j hd he h1 h2=>?_⟩
  ·show (aq r.q c _ d).fine 32
   by_cases e:d=c
   ·subst e;rw [ah];exact ⟨rJ (h.fine d).1 id,Nat.le_trans (List.length_filter_le _ _) (h.fine d).2.1,(h.fine d).2.2⟩
   ·rw [ao _ _ e];exact h.fine d
  ·have hd2:d<r.n:=hd
   have he2:e<r.n:=he
   rw [hq _ _ hd2] at h1
   rw [hq _ _ he2] at h2
   by_cases ej:j=id
   ·simp [ej] at h1
   ·simp [ej] at h1 h2
    exact h.uniq d e j hd2 he2 h1 h2
 refine ⟨hok,?_⟩
 funext j
 unfold RQ.whrI dZ
 by_cases ej:j=id
 ·subst ej
  rw [pG rfl]
  have:(r.putQ c (dT (r.q c) j)).whr j=none:=by
   rw [RQ.whr_none]
   intro d hd
   have hd2:d<r.n:=hd
   have:=hq d j hd2
   rw [pG rfl] at this
   cases hp:aH ((r.putQ c (dT (r.q c) j)).q d) j with
   | none=>rfl
   | some v=>rw [hp] at this;cases this
  rw [this];rfl
 ·rw [nG ej]
  congr 1
  apply Option.ext
  intro d
  rw [RQ.whr_some hok,RQ.whr_some h]
  constructor
  ·rintro ⟨h1,h2⟩
   have h1':d<r.n:=h1
   rw [hq _ _ h1',nG ej] at h2
   exact ⟨h1',h2⟩
  ·rintro ⟨h1,h2⟩
   exact ⟨h1,by rw [hq _ _ h1,nG ej];exact h2⟩
def fN (b:Nat) (g:Option Nat) (cap wb cnt:Nat) (f:Int -> Option Int) (D:Nat -> Nat) (n:Nat) (q:Nat -> PQ):List ak:=
 [ak.blk b (.cells #[.slice (rA g) n cap,.map (sS wb)] 160 (0,0)),dD wb cnt (ew f)]++js 157 g cap n D (λc=>db (D c) 32 (q c))++[]
structure RqP where
 g:Option Nat
 cap:Nat
 wb:Nat
 cnt:Nat
 D:Nat -> Nat
def dK (b:Nat) (r:RQ):ak:=ak.such r.ok (ak.ex λp:RqP=>ak.star (fN b p.g p.cap p.wb p.cnt r.whrI p.D r.n r.q))
section
variable {F:List Nat} {w u:wW} {b:Nat} {g:Option Nat} {cap wb cnt:Nat} {f:Int -> Option Int} {D:Nat -> Nat} {n:Nat} {q:Nat -> PQ} {r:RQ}
theorem dA (h:(dK b r).holds F w):r.ok /\ ∃ g cap wb cnt D,On F w (fN b g cap wb cnt r.whrI D r.n r.q) w:=by
 obtain ⟨h1,p,h2⟩:=h
 exact ⟨h1,p.g,p.cap,p.wb,p.cnt,p.D,On.of h2⟩
theorem On.runq (h:On F w (fN b g cap wb cnt f D n q) u) {r:RQ} (hok:r.ok) (hn:r.n=n) (hq:r.q=q) (hf:f=r.whrI):dt (dK b r) F w u:=by
 subst hn hq hf
 exact h.gains.imp λF' h'=>⟨hok,⟨g,cap,wb,cnt,D⟩,h'⟩
theorem On.rqC (h:On F w (fN b g cap wb cnt f D n q) u):u.cell? ⟨b,0,nN⟩=sS (.slice (rA g) n cap) /\ u.cell? ⟨b,1,nN⟩=sS (.map (sS wb)) /\ n <= cap /\ cap <= maxLen:=
 ⟨h.cell 0 rfl 0,h.cell 0 rfl 1,h.famCap (k:=2) rfl⟩
theorem On.rqPtr (h:On F w (fN b g cap wb cnt f D n q) u) {c:Nat} (hc:c<n):∃ gb,g=sS gb /\ u.cell? ⟨gb,c,nN⟩=sS (vp (sS ⟨D c,0,nN⟩)):=h.famPtr (k:=2) rfl hc
theorem On.rqHas (h:On F w (fN b g cap wb cnt f D n q) u) {c:Nat} (hc:c<n):∃ F1,(db (D c) 32 (q c)).holds F1 u:=h.famHas (k:=2) rfl hc
theorem On.rqDo {P:Program} {fn:FuncId} {args:Array Value} {v:Value} {L:PQ} (h:On F w (fN b g cap wb cnt f D n q) u) {c:Nat} (hc:c<n) (hh:∀ F1,(db (D c) 32 (q c)).holds F1 u -> Calls P fn args u (al (db (D c) 32 L) F1 v u)):
  Calls P fn args u (λe u'=>e=.returned v /\ On F w (fN b g cap wb cnt f D n (aq q c L)) u'):=by
 have:=h.famDo (k:=2) rfl hc hh
 have e:aq (λc=>db (D c) 32 (q c)) c (db (D c) 32 L)=λi=>db (D i) 32 (aq q c L i):=by
  funext i
  by_cases e:i=c
  ·subst e;rw [ah,ah]
  ·rw [ao _ _ e,ao _ _ e]
 rw [e] at this
 exact this
theorem On.rqPut (h:On F w (fN b g cap wb cnt f D n q) u) (id v:Int):∃ w1 cnt',(Instr.mapUpdate 75 (.map (sS wb)) (vi iQ id) (vi iQ v)).run tp u=.ok () w1 /\ On F w (fN b g cap wb cnt' (cA f id v) D n q) w1:=by
 obtain ⟨w1,h1,h2⟩:=h.fmPut (P:=tp) 1 rfl Tryz.underlying75 Tryz.underlying3 id (vi iQ v)
 rw [nU] at h2
 exact ⟨w1,_,h1,h2⟩
theorem On.rqDel (h:On F w (fN b g cap wb cnt f D n q) u) (id:Int):∃ w1 cnt',(∀ ty,(Builtin.delete_ #[75,3] ty #[.map (sS wb),vi iQ id]).run tp u=.ok (.tuple #[]) w1) /\ On F w (fN b g cap wb cnt' (dZ f id) D n q) w1:=by
 obtain ⟨w1,h1,h2⟩:=h.fmDel (P:=tp) 1 rfl Tryz.underlying75 Tryz.underlying3 id
 rw [nV] at h2
 exact ⟨w1,_,h1,h2⟩
theorem On.rqLook (h:On F w (fN b g cap wb cnt f D n q) u) (id:Int):(Instr.lookup 75 (.map (sS wb)) (vi iQ id) tQ).run tp u=.ok (.tuple #[vi iQ ((f id).getD 0),vb (f id).isSome]) u:=by
 have:=kG (P:=tp) (h.fm 1 rfl) Tryz.underlying75 Tryz.underlying3 id (λw=>Tryz.zeroValue3 w)
 rw [this]
 unfold ew
 cases f id<;>rfl
theorem nJ (c0:u.cell? ⟨b,0,nN⟩=sS (.slice (rA g) n cap)) (cpu:Int):Calls tp 88 #[vp (sS ⟨b,0,nN⟩),vi iQ cpu] u (au (vi iQ (if 0 <= cpu /\ cpu<n then 0 else 3)) u):=by
 by_cases hi:0 <= cpu /\ cpu<n
 ·rw [pG hi]
  obtain ⟨h1,h2⟩:=hi
  go_in
  go_wp2
  go_ret
  exact au.of (rfl) dz
 ·rw [nG hi]
  have h2:cpu<0 \/ (¬ cpu<0 /\ (n:Int) <= cpu):=by omega
  clear hi
  rcases h2 with h2|⟨h1,h2⟩
  all_goals
   go_in
   go_wp2
   go_ret
   exact au.of (rfl) dz
theorem jA (h:(dK b r).holds F w) (cpu:Int):Calls tp 181 #[vp (sS ⟨b,0,nN⟩),vi iQ cpu] w (au (vi iQ (r.load cpu)) w):=by
 obtain ⟨hok,g,cap,wb,cnt,D,hA⟩:=dA h
 have hm:=nJ hA.rqC.1 cpu
 unfold RQ.load
 by_cases hi:r.is cpu
 ·rw [pG hi]
  rw [pG (show 0 <= cpu /\ cpu<r.n from hi)] at hm
  obtain ⟨h1,h2⟩:=hi
  obtain ⟨c,rfl⟩:=iN h1
  have hc:c<r.n:=by omega
  obtain ⟨gb,rfl,kp⟩:=hA.rqPtr hc
  obtain ⟨k0,k1,k2,k3⟩:=hA.rqC
  unfold RQ.at
  simp only [Int.toNat_natCast]
  have hL:=λk=>Gh ((hA.keep (u':=w.drewN k) (mR.drewN k)).rqHas hc).choose_spec
  simp only [rA] at k0 hm
  generalize (r.q c).length=x at *
  clear hA h h1
  go_in
  go_wp2_with (first
   | (go_at_call 88;refine hm.r λk=>?_)
   | (go_at_call 257;refine (hL _).r λk4=>?_))
  go_ret
  exact au.of (rfl) dz
 ·rw [nG hi]
  rw [nG (show ¬ (0 <= cpu /\ cpu<r.n) from hi)] at hm
  clear hA h hi
  go_in
  go_wp2_with (go_at_call 88;refine hm.r λk=>?_)
  go_ret
  exact au.of (rfl) dz
theorem vH (h:(dK b r).holds F w) (cpu:Int):Calls tp 28 #[vp (sS ⟨b,0,nN⟩),vi iQ cpu] w (vu (r.list cpu) w):=by
 obtain ⟨hok,g,cap,wb,cnt,D,hA⟩:=dA h
 have hm:=nJ hA.rqC.1 cpu
 unfold RQ.list
 by_cases hi:r.is cpu
 ·rw [pG hi]
  rw [pG (show 0 <= cpu /\ cpu<r.n from hi)] at hm
  obtain ⟨h1,h2⟩:=hi
  obtain ⟨c,rfl⟩:=iN h1
  have hc:c<r.n:=by omega
  obtain ⟨gb,rfl,kp⟩:=hA.rqPtr hc
  obtain ⟨k0,k1,k2,k3⟩:=hA.rqC
  unfold RQ.at
  simp only [Int.toNat_natCast]
  have hL:=λk=>DJ ((hA.keep (u':=w.drewN k) (mR.drewN k)).rqHas hc).choose_spec
  simp only [rA] at k0 hm
  generalize lu (r.q c)=x at *
  clear hA h h1
  go_in
  go_wp2_with (first
   | (go_at_call 88;refine hm.r λk=>?_)
   | (go_at_call 89;refine (hL _).mono ?_;intro e w2 hm2;obtain ⟨a2,c2,rfl,m2,i2,n2⟩:=hm2.newL))
  go_ret
  exact ⟨a2,c2,rfl,m2.undrewN,i2,n2⟩
 ·rw [nG hi]
  rw [nG (show ¬ (0 <= cpu /\ cpu<r.n) from hi)] at hm
  clear hA h hi
  go_in
  go_wp2_with (go_at_call 88;refine hm.r λk=>?_)
  go_ret
  exact ⟨nN,0,rfl,mR.drewN _,.inl rfl,λb o e=>by cases e⟩
end
section
variable {F:List Nat} {w u:wW} {b:Nat} {g:Option Nat} {cap wb cnt:Nat} {f:Int -> Option Int} {D:Nat -> Nat} {n:Nat} {q:Nat -> PQ} {r:RQ}
theorem Dc (r:RQ) (id:Int):(r.whrI id).isSome=(r.whr id).isSome:=by unfold RQ.whrI;cases r.whr id<;>rfl
theorem yQ (h:(dK b r).holds F w) (cpu p id:Int):Calls tp 213 #[vp (sS ⟨b,0,nN⟩),vi iQ cpu,vi iQ p,vi iQ id] w (al (dK b (r.put cpu p id)) F (vi iQ (r.putE cpu p id)) w):=by
 obtain ⟨hok,g,cap,wb,cnt,D,hA⟩:=dA h
 have hm:=nJ hA.rqC.1 cpu
 have hlk:=λk=>(hA.keep (u':=w.drewN k) (mR.drewN k)).rqLook id
 by_cases hi:r.is cpu
 case neg=>
  have e:r.putE cpu p id=3:=pG hi
  rw [show r.put cpu p id=r from nG (by rw [e];decide),e]
  rw [nG (show ¬ (0 <= cpu /\ cpu<r.n) from hi)] at hm
  have H:=zh (λk=>(hA.keep (u':=w.drewN k) (mR.drewN k)).runq hok rfl rfl rfl)
  clear hA h hi e hlk
  go_in
  go_wp2_with (go_at_call 88;refine hm.r λk=>?_)
  go_ret
  exact ⟨rfl,H.out _⟩
 rw [pG (show 0 <= cpu /\ cpu<r.n from hi)] at hm
 by_cases hw:(r.whr id).isSome=tQ
 ·have e:r.putE cpu p id=6:=by unfold RQ.putE;rw [nG (λx=>x hi),pG hw]
  rw [show r.put cpu p id=r from nG (by rw [e];decide),e]
  rw [<- Dc] at hw
  rw [hw] at hlk
  have k1:=hA.rqC.2.1
  have H:=zh (λk=>(hA.keep (u':=w.drewN k) (mR.drewN k)).runq hok rfl rfl rfl)
  generalize (r.whrI id).getD 0=x at *
  clear hA h hi e hw
  go_in
  go_wp2_with (go_at_call 88;refine hm.r λk=>?_)
  go_ret
  exact ⟨rfl,H.out _⟩
 have hwn:r.whr id=none:=by cases hq:r.whr id with|none=>rfl|some v=>rw [hq] at hw;simp at hw
 have hwI:r.whrI id=none:=by unfold RQ.whrI;rw [hwn];rfl
 rw [hwI] at hlk
 simp only [Option.getD_none,Option.isSome_none] at hlk
 have e:r.putE cpu p id=fu 32 (r.at cpu) p id:=by unfold RQ.putE;rw [nG (λx=>x hi),nG hw]
 obtain ⟨h1,h2⟩:=hi
 obtain ⟨c,rfl⟩:=iN h1
 have hc:c<r.n:=by omega
 obtain ⟨gb,rfl,kp⟩:=hA.rqPtr hc
 obtain ⟨k0,k1,k2,k3⟩:=hA.rqC
 replace e:r.putE c p id=fu 32 (r.q c) p id:=e
 have hP:=λk=>(hA.keep (u':=w.drewN k) (mR.drewN k)).rqDo (P:=tp) (fn:=284) hc (λF1 hF=>vK hF p id)
 simp only [rA] at k0 hm
 by_cases hE:fu 32 (r.q c) p id=0
 ·have eR:r.put c p id=r.putQ c (mD 32 (r.q c) p id):=pG (e.trans hE)
  rw [eR,e,hE]
  rw [hE] at hP
  have hpp:0 <= p /\ p<8 /\ (r.q c).length<32:=by
   unfold fu at hE
   split at hE
   ·omega
   ·split at hE
    ·omega
    ·split at hE<;>omega
  obtain ⟨p1,p2,p3⟩:=hpp
  obtain ⟨p,rfl⟩:=iN p1
  have hS:mD 32 (r.q c) p id=r.q c++[(p,id)]:=by unfold mD;rw [pG hE];simp
  rw [hS] at hP ⊢
  obtain ⟨hok2,hw2⟩:=RQ.put_new hok hc hwn (p:=p) oM p3
  clear hA h hwn hwI hE hS hw e eR p1 p2 p3 hok
  go_in
  go_wp2_with (first
   | (go_at_call 88;refine hm.r λk=>?_)
   | (
    go_at_call 284
    refine (hP _).s λw2 hB=>?_
    obtain ⟨w3,cnt3,hput,hC⟩:=hB.rqPut id (c:Int)
    have d1:=hB.rqC.2.1
    have HC:=zh hC
    clear hP hC hlk k1
    ))
  go_ret
  exact ⟨rfl,HC.out.runq hok2 rfl rfl hw2.symm⟩
 ·have eR:r.put c p id=r:=nG (by rw [e];exact hE)
  rw [eR,e]
  have hS:mD 32 (r.q c) p id=r.q c:=by unfold mD;rw [nG hE]
  rw [hS] at hP
  have hg:aq r.q c (r.q c)=r.q:=by funext i;unfold aq;split<;>simp_all
  rw [hg] at hP
  have hE2:(fu 32 (r.q c) p id==0)=fF:=by simpa using hE
  generalize fu 32 (r.q c) p id=ee at *
  clear hA h hwn hwI hS hw e eR hg
  go_in
  go_wp2_with (first
   | (go_at_call 88;refine hm.r λk=>?_)
   | (go_at_call 284;refine (hP _).s λw2 hB=>?_;have HB:=zh hB;clear hP hB))
  go_ret
  exact ⟨rfl,HB.out.runq hok rfl rfl rfl⟩
theorem Ct (hok:r.ok) (hA:On F w (fN b g cap wb cnt r.whrI D r.n r.q) u) (id:Int):Calls tp 220 #[vp (sS ⟨b,0,nN⟩),vi iQ id] u (au (.tuple #[vp ((r.whr id).map λc=>⟨D c,0,nN⟩),vi iQ (r.takeE id)]) u):=by
 have hlk:=hA.rqLook id
 obtain ⟨k0,k1,k2,k3⟩:=hA.rqC
 unfold RQ.takeE
 cases hw:r.whr id with
 | none=>
  have hwI:r.whrI id=none:=by unfold RQ.whrI;rw [hw];rfl
  rw [hwI] at hlk
  clear hA
  go_in
  go_wp2
  go_ret2
  exact au.of (rfl) dz
 | some c=>
  have hwI:r.whrI id=sS (c:Int):=by unfold RQ.whrI;rw [hw];rfl
  rw [hwI] at hlk
  have hc:=((RQ.whr_some hok).1 hw).1
  have hcI:(c:Int)<r.n:=by omega
  obtain ⟨gb,rfl,kp⟩:=hA.rqPtr hc
  simp only [rA] at k0
  clear hA
  go_in
  go_wp2
  go_ret2
  exact au.of (rfl) dz
theorem jz (h:(dK b r).holds F w) (id:Int):Calls tp 215 #[vp (sS ⟨b,0,nN⟩),vi iQ id] w (al (dK b (r.take id)) F (vi iQ (r.takeE id)) w):=by
 obtain ⟨hok,g,cap,wb,cnt,D,hA⟩:=dA h
 have hO:=Ct hok hA id
 unfold RQ.take
 unfold RQ.takeE at hO ⊢
 cases hw:r.whr id with
 | none=>
  rw [hw] at hO
  have H:=zh (λk=>(hA.keep (u':=w.drewN k) (mR.drewN k)).runq hok rfl rfl rfl)
  clear hA h hw
  go_in
  go_wp2_with (go_at_call 220;refine hO.r λk=>?_)
  go_ret
  exact ⟨rfl,H.out _⟩
 | some c=>
  rw [hw] at hO
  obtain ⟨hc,hs⟩:=(RQ.whr_some hok).1 hw
  obtain ⟨hok2,hw2⟩:=RQ.put_out hok hw
  have k1:=hA.rqC.2.1
  have hd0:qm (r.q c) id=0:=pG hs
  have HA:=zh hA
  simp only [Option.map_some,Option.isSome_some,if_true] at hO ⊢
  clear hA h hw hs
  go_in
  go_wp2_with (
   go_at_call 220
   refine hO.r λk=>?_
   obtain ⟨w3,cnt3,hdel,hC⟩:=(HA.out.keep (u':=w.drewN k) (mR.drewN k)).rqDel id
   have hP:=hC.rqDo (P:=tp) (fn:=285) hc (λF1 hF=>vL hF id)
   rw [hd0] at hP
   clear hC hO
   refine Hid.out ?_)
  refine zh ?_
  go_wp2_with (go_at_call 285;refine hP.s λw2 hB=>?_)
  go_ret
  exact ⟨rfl,hB.runq hok2 rfl rfl hw2.symm⟩
theorem Dz (h:(dK b r).holds F w) (id:Int):Calls tp 124 #[vp (sS ⟨b,0,nN⟩),vi iQ id] w (al (dK b (r.back id)) F (vi iQ (r.takeE id)) w):=by
 obtain ⟨hok,g,cap,wb,cnt,D,hA⟩:=dA h
 have hO:=Ct hok hA id
 unfold RQ.back
 unfold RQ.takeE at hO ⊢
 cases hw:r.whr id with
 | none=>
  rw [hw] at hO
  have H:=zh (λk=>(hA.keep (u':=w.drewN k) (mR.drewN k)).runq hok rfl rfl rfl)
  clear hA h hw
  go_in
  go_wp2_with (go_at_call 220;refine hO.r λk=>?_)
  go_ret
  exact ⟨rfl,H.out _⟩
 | some c=>
  rw [hw] at hO
  obtain ⟨hc,hs⟩:=(RQ.whr_some hok).1 hw
  obtain ⟨f1,f2,f3⟩:=Fq (hok.fine c) id
  obtain ⟨hok2,hw2⟩:=RQ.put_same hok hc f1 f3
  have hd0:qm (r.q c) id=0:=pG hs
  have hP:=λk=>(hA.keep (u':=w.drewN k) (mR.drewN k)).rqDo (P:=tp) (fn:=221) hc (λF1 hF=>DK hF id)
  rw [hd0] at hP
  simp only [Option.map_some,Option.isSome_some,if_true] at hO ⊢
  clear hA h hw hs f1 f2 f3
  go_in
  go_wp2_with (first
   | (go_at_call 220;refine hO.r λk=>?_)
   | (go_at_call 221;refine (hP _).s λw2 hB=>?_))
  go_ret
  exact ⟨rfl,hB.runq hok2 rfl rfl hw2.symm⟩
theorem Dy (h:(dK b r).holds F w) (cpu:Int):Calls tp 201 #[vp (sS ⟨b,0,nN⟩),vi iQ cpu] w (al (dK b (r.pick cpu)) F (.tuple #[vi iQ (r.pickV cpu),vi iQ (r.pickE cpu)]) w):=by
 obtain ⟨hok,g,cap,wb,cnt,D,hA⟩:=dA h
 have hm:=nJ hA.rqC.1 cpu
 by_cases hi:r.is cpu
 case neg=>
  have e:r.pickE cpu=3:=pG hi
  rw [show r.pick cpu=r from nG (by rw [e];decide),show r.pickV cpu=0 from nG (by rw [e];decide),e]
  rw [nG (show ¬ (0 <= cpu /\ cpu<r.n) from hi)] at hm
  have H:=zh (λk=>(hA.keep (u':=w.drewN k) (mR.drewN k)).runq hok rfl rfl rfl)
  clear hA h hi e
  go_in
  go_wp2_with (go_at_call 88;refine hm.r λk=>?_)
  go_ret2
  exact ⟨rfl,H.out _⟩
 rw [pG (show 0 <= cpu /\ cpu<r.n from hi)] at hm
 have e:r.pickE cpu=jW (r.at cpu):=nG (λx=>x hi)
 obtain ⟨h1,h2⟩:=hi
 obtain ⟨c,rfl⟩:=iN h1
 have hc:c<r.n:=by omega
 obtain ⟨gb,rfl,kp⟩:=hA.rqPtr hc
 obtain ⟨k0,k1,k2,k3⟩:=hA.rqC
 replace e:r.pickE c=jW (r.q c):=e
 have hTop:=λk=>Gf ((hA.keep (u':=w.drewN k) (mR.drewN k)).rqHas hc).choose_spec
 simp only [rA] at k0 hm
 by_cases hL:r.q c=[]
 ·have hE:jW (r.q c)=12:=pG hL
  rw [pG hL,hE] at hTop
  rw [show r.pick c=r from nG (by rw [e,hE];decide),show r.pickV c=0 from nG (by rw [e,hE];decide),e,hE]
  have HA:=zh hA
  clear hA h hE hL e
  go_in
  go_wp2_with (first
   | (go_at_call 88;refine hm.r λk=>?_)
   | (go_at_call 274;refine (hTop _).s λw2 m2=>?_))
  go_ret2
  exact ⟨rfl,(HA.out.keep m2.undrewN).runq hok rfl rfl rfl⟩
 ·have hE:jW (r.q c)=0:=nG hL
  rw [nG hL,hE] at hTop
  rw [show r.pick c=r.putQ c (eJ (r.q c)) from pG (e.trans hE),show r.pickV c=fJ (r.q c) from pG (e.trans hE),e,hE]
  obtain ⟨f1,f2,f3⟩:=vB (hok.fine c)
  obtain ⟨hok2,hw2⟩:=RQ.put_same hok hc f1 f3
  have HA:=zh hA
  have hTn:=λw2 (m2:af [] w w2)=>(hA.keep m2).rqDo (P:=tp) (fn:=275) hc (λF1 hF=>DH hF)
  rw [hE] at hTn
  have hk:=λw2 (m2:af [] w w2)=>hA.keep m2
  have kc:∀ w2,af [] w w2 -> w2.cell? ⟨b,0,nN⟩=sS (.slice (sS ⟨gb,0,nN⟩) r.n cap) /\ w2.cell? ⟨gb,c,nN⟩=sS (vp (sS ⟨D c,0,nN⟩)):=λw2 m2=>⟨m2.at k0 sM,m2.at kp sM⟩
  generalize fJ (r.q c)=x at *
  clear hA h hE hL e f1 f2 f3 hk
  go_in
  go_wp2_with (first
   | (go_at_call 88;refine hm.r λk=>?_)
   | (go_at_call 274;refine (hTop _).s λw2 m2=>?_;have m2:=m2.undrewN;obtain ⟨d0,dp⟩:=kc _ m2;have HT:=hTn _ m2;clear hTop hTn)
   | (go_at_call 275;refine HT.s λw3 hB=>?_))
  go_ret2
  exact ⟨rfl,hB.runq hok2 rfl rfl hw2.symm⟩
end
def zm:ak:=ak.star []
theorem On.lose {F0:List Nat} {w0 u:wW} {l:List ak} (h:On F0 w0 l u) (k:Nat) (hk:k<l.length):On F0 w0 (l.set k zm) u:=by
 refine ((h.drop k).more (P:=zm) rfl).perm ?_
 rw [List.eraseIdx_eq_take_drop_succ,List.set_eq_take_append_cons_drop,pG hk,List.append_assoc]
 exact List.Perm.append_left _ (List.perm_append_singleton _ _)
theorem On.move {F0:List Nat} {w0 u:wW} {l:List ak} {X:ak} (h:On F0 w0 (l++[X]) u) (k:Nat) (hk:k<l.length):On F0 w0 (l.set k X) u:=by
 have h2:=h.perm (m:=l.set k X++[l[k]]) (by
  have e:l=l.take k++l[k] :: l.drop (k+1):=by rw [List.getElem_cons_drop,List.take_append_drop]
  rw [List.set_eq_take_append_cons_drop,pG hk]
  conv=>lhs;rw [e]
  rw [List.append_assoc,List.append_assoc]
  refine List.Perm.append_left _ ?_
  rw [List.cons_append,List.cons_append]
  have p1:(l[k] :: (List.drop (k+1) l++[X])).Perm (l[k] :: X :: List.drop (k+1) l):=List.Perm.cons _ (List.perm_append_singleton _ _)
  refine p1.trans ((List.Perm.swap _ _ _).trans (List.Perm.cons _ (List.perm_append_singleton _ _).symm)))
 exact h2.take
def kZ (x:jQ):List Value:=[vi iQ x.prio,vi uQ (x.mask:Nat),vi iQ x.cpu,vb x.forced,vb x.sleeps,vi iQ x.timer]
def Fw (d:Nat) (o:Option jQ):ak:=match o with|some x=>ak.blk d (.cells (kZ x).toArray 237 (0,0))|none=>zm
def ye (D:Nat -> Nat) (T:Int -> Option jQ) (id:Int):Option Nat:=match T id with|some _=>sS (D (id - 1).toNat)|none=>nN
structure bP.ok (t:bP):Prop where
 n1:1 <= t.n
 n2:t.n <= 64
 bd:∀ id x,t.t id=sS x -> 1 <= id /\ id <= 32
 msk:∀ id x,t.t id=sS x -> x.mask<2 ^ 64
 pr:∀ id x,t.t id=sS x -> 0 <= x.prio /\ x.prio<8
def uH (ids:List Nat) (T:Int -> Option jQ):Prop:=∀ m:Nat,m∈ids↔(T (m:Int)).isSome=tQ
def bC (b tb mb cnt:Nat) (ids:List Nat) (D:Nat -> Nat) (n:Nat) (T:Int -> Option jQ):List ak:=
 [ak.blk b (.cells #[vp (sS ⟨tb,0,nN⟩),vi iQ n,.map (sS mb)] 174 (0,0)),gV tb 32 ids,dD mb cnt (xw (ye D T))]++aN 32 (λk=>Fw (D k) (T ((k:Int)+1)))
structure ThP where
 tb:Nat
 mb:Nat
 cnt:Nat
 ids:List Nat
 D:Nat -> Nat
def bQ (b:Nat) (t:bP):ak:=ak.such t.ok (ak.ex λp:ThP=>ak.such (uH p.ids t.t) (ak.star (bC b p.tb p.mb p.cnt p.ids p.D t.n t.t)))
theorem Iy (x:jQ) (o:Nat):(kZ x).toArray[o]?=(kZ x)[o]?:=by simp
section
variable {F:List Nat} {w u:wW} {b tb mb cnt:Nat} {ids:List Nat} {D:Nat -> Nat} {n:Nat} {T:Int -> Option jQ} {t:bP}
theorem cZ (h:(bQ b t).holds F w):t.ok /\ ∃ tb mb cnt ids D,uH ids t.t /\ On F w (bC b tb mb cnt ids D t.n t.t) w:=by
 obtain ⟨h1,p,h2,h3⟩:=h
 exact ⟨h1,p.tb,p.mb,p.cnt,p.ids,p.D,h2,On.of h3⟩
theorem On.threadOk (h:On F w (bC b tb mb cnt ids D n T) u) {t:bP} (hok:t.ok) (hn:t.n=n) (hT:t.t=T) (hi:uH ids T):dt (bQ b t) F w u:=by
 subst hn hT
 exact h.gains.imp λF' h'=>⟨hok,⟨tb,mb,cnt,ids,D⟩,hi,h'⟩
theorem On.thC (h:On F w (bC b tb mb cnt ids D n T) u):u.cell? ⟨b,0,nN⟩=sS (vp (sS ⟨tb,0,nN⟩)) /\ u.cell? ⟨b,1,nN⟩=sS (vi iQ n) /\ u.cell? ⟨b,2,nN⟩=sS (.map (sS mb)):=
 ⟨h.cell 0 rfl 0,h.cell 0 rfl 1,h.cell 0 rfl 2⟩
theorem xo {k:Nat} (hk:k<32):(bC b tb mb cnt ids D n T)[3+k]?=sS (Fw (D k) (T ((k:Int)+1))):=by
 unfold bC
 rw [List.getElem?_append_right sM,show 3+k - _=k from by simp]
 exact eN hk
theorem Co:(bC b tb mb cnt ids D n T).length=35:=by simp [bC,aN]
theorem xn {k:Nat} (X:ak):(bC b tb mb cnt ids D n T).set (3+k) X=[ak.blk b (.cells #[vp (sS ⟨tb,0,nN⟩),vi iQ n,.map (sS mb)] 174 (0,0)),gV tb 32 ids,dD mb cnt (xw (ye D T))]++aN 32 (aq (λk=>Fw (D k) (T ((k:Int)+1))) k X):=by
 unfold bC
 rw [List.set_append_right _ _ sM,show 3+k - _=k from by simp,iZ]
theorem Cn {k d:Nat} (x:jQ):aq (λk=>Fw (D k) (T ((k:Int)+1))) k (Fw d (sS x))=λi=>Fw (aq D k d i) (cA T ((k:Int)+1) x ((i:Int)+1)):=by
 funext i
 by_cases e:i=k
 ·subst e;rw [ah,ah];unfold cA;rw [pG rfl]
 ·rw [ao _ _ e,ao _ _ e];unfold cA;rw [nG oM]
theorem EI (D:Nat -> Nat) (k:Nat):aq D k (D k)=D:=by
 funext i;by_cases e:i=k
 ·subst e;rw [ah]
 ·rw [ao _ _ e]
theorem gF {id:Int} {x:jQ} (h:T id=sS x):ye D T id=sS (D (id - 1).toNat):=by unfold ye;rw [h]
theorem gG {id:Int} (h:T id=nN):ye D T id=none:=by unfold ye;rw [h]
theorem Iz {k d:Nat} {x:jQ} (hb:∀ id x,T id=sS x -> 1 <= id /\ id <= 32):cA (ye D T) ((k:Int)+1) d=ye (aq D k d) (cA T ((k:Int)+1) x):=by
 funext j
 unfold ye cA
 by_cases e:j=(k:Int)+1
 ·subst e
  rw [pG rfl,pG rfl]
  simp only []
  rw [show ((k:Int)+1 - 1).toNat=k by omega,ah]
 ·rw [nG e,nG e]
  simp only []
  cases hT:T j with
  | none=>rfl
  | some y=>
   have:=hb j y hT
   simp only []
   rw [ao _ _ oM]
theorem FM {k:Nat} {x y:jQ} (h:T ((k:Int)+1)=sS y):ye D (cA T ((k:Int)+1) x)=ye D T:=by
 funext j
 unfold ye cA
 by_cases e:j=(k:Int)+1
 ·subst e;rw [pG rfl,h]
 ·rw [nG e]
theorem IA (id:Int):dZ (ye D T) id=ye D (dZ T id):=by
 funext j
 unfold ye dZ
 by_cases e:j=id
 ·rw [pG e,pG e]
 ·rw [nG e,nG e]
theorem On.thCell (h:On F w (bC b tb mb cnt ids D n T) u) {k:Nat} (hk:k<32) {x:jQ} (hx:T ((k:Int)+1)=sS x) (o:Nat):u.cell? ⟨D k,o,nN⟩=(kZ x)[o]?:=by
 have:=xo (b:=b) (tb:=tb) (mb:=mb) (cnt:=cnt) (ids:=ids) (D:=D) (n:=n) (T:=T) hk
 rw [hx] at this
 rw [h.cell (3+k) this o,Iy]
theorem On.thFree (h:On F w (bC b tb mb cnt ids D n T) u) {k:Nat} (hk:k<32) {x:jQ} (hx:T ((k:Int)+1)=sS x) (o:Nat):u.frozen? ⟨D k,o,nN⟩=fF:=by
 have:=xo (b:=b) (tb:=tb) (mb:=mb) (cnt:=cnt) (ids:=ids) (D:=D) (n:=n) (T:=T) hk
 rw [hx] at this
 exact h.free (3+k) this o
theorem On.thSet (h:On F w (bC b tb mb cnt ids D n T) u) {k:Nat} (hk:k<32) {x:jQ} (hx:T ((k:Int)+1)=sS x) (o:Nat) (v:Value) (x':jQ) (hv:(kZ x).set o v=kZ x'):On F w (bC b tb mb cnt ids D n (cA T ((k:Int)+1) x')) (u.setCell ⟨D k,o,nN⟩ v):=by
 have hg:=xo (b:=b) (tb:=tb) (mb:=mb) (cnt:=cnt) (ids:=ids) (D:=D) (n:=n) (T:=T) hk
 rw [hx] at hg
 have:=h.set (3+k) hg o v
 rw [xn] at this
 have e:ak.blk (D k) (.cells ((kZ x).toArray.setIfInBounds o v) 237 (0,0))=Fw (D k) (sS x'):=by
  unfold Fw
  simp only [sA,hv]
 rw [e,Cn,EI] at this
 unfold bC
 rw [FM hx]
 exact this
theorem On.thLook (h:On F w (bC b tb mb cnt ids D n T) u) (id:Int):(Instr.lookup 172 (.map (sS mb)) (vi iQ id) tQ).run tp u=.ok (.tuple #[vp ((ye D T id).map λd=>⟨d,0,nN⟩),vb (T id).isSome]) u:=by
 have:=kG (P:=tp) (h.fm 2 rfl) Tryz.underlying172 Tryz.underlying3 id (λw=>Tryz.zeroValue310 w)
 rw [this]
 unfold xw ye
 cases T id<;>rfl
theorem eL (hA:On F w (bC b tb mb cnt ids D t.n t.t) u) (id:Int):Calls tp 214 #[vp (sS ⟨b,0,nN⟩),vi iQ id] u (au (.tuple #[vp ((ye D t.t id).map λd=>⟨d,0,nN⟩),vi iQ (t.getE id)]) u):=by
 have hlk:=hA.thLook id
 obtain ⟨k0,k1,k2⟩:=hA.thC
 unfold bP.getE
 cases hx:t.t id with
 | none=>
  rw [hx,gG hx] at hlk
  rw [gG hx]
  clear hA
  go_in
  go_wp2
  go_ret2
  exact au.of (rfl) dz
 | some x=>
  rw [hx,gF hx] at hlk
  rw [gF hx]
  clear hA
  go_in
  go_wp2
  go_ret2
  exact au.of (rfl) dz
theorem Iu (n:Nat) (h:n <= 64):bw n<2 ^ 64:=by
 exact iB _
theorem jX (h1:w.cell? ⟨b,1,nN⟩=sS (vi iQ t.n)) (h64:t.n <= 64) (m:Nat) (hm:m<2 ^ 64):Calls tp 210 #[vp (sS ⟨b,0,nN⟩),vi uQ (m:Nat)] w (au (vb (t.right m)) w):=by
 have hU:=λw=>ix t.n w
 have hW:=λw=>qK m (bw t.n) hm (Iu t.n h64) w
 unfold bP.right
 by_cases h0:m=0
 ·subst h0
  clear hW
  go_in
  go_wp2
  go_ret
  exact au.of (rfl) dz
 ·have h0I:((m:Int) != 0)=tQ:=by simpa using h0
  rw [decide_eq_true h0,Bool.true_and]
  generalize decide (dF m (bw t.n)=0)=x at *
  go_in
  go_wp2_with (first
   | (go_at_call 22;refine (hU _).r λk=>?_)
   | (go_at_call 36;refine (hW _).r λk2=>?_))
  go_ret
  exact au.of (rfl) dz
theorem Jq (hi:uH ids T):(λn:Nat=>decide (n∈ids))=λi:Nat=>(T (i:Int)).isSome:=by
 funext m
 have:=hi m
 cases h:(T (m:Int)).isSome with
 | true=>rw [h] at this;exact decide_eq_true (this.2 rfl)
 | false=>rw [h] at this;exact decide_eq_false (λh2=>by have:=this.1 h2;cases this)
theorem yG (h:(bQ b t).holds F w):Calls tp 307 #[vp (sS ⟨b,0,nN⟩)] w (vu t.list w):=by
 obtain ⟨hok,tb,mb,cnt,ids,D,hI,hA⟩:=cZ h
 have hL:=Dv (hA.get 1 rfl).choose_spec
 obtain ⟨k0,k1,k2⟩:=hA.thC
 rw [Jq hI] at hL
 clear hA h
 unfold bP.list
 generalize dW (λi:Nat=>(t.t (i:Int)).isSome) 32=l at *
 go_in
 go_wp2_with (go_at_call 340;refine hL.mono ?_;intro e w2 hm2;obtain ⟨a2,c2,rfl,m2,i2,n2⟩:=hm2.newL)
 go_ret
 exact ⟨a2,c2,rfl,m2,i2,n2⟩
end
/-- A list in memory: as it was made by append or a copy, or cut at its end and full. -/
def kR (a:Option Addr) (cap:Nat) (l:List Int):ak where
 holds F w:=(∃ g,a=lA g /\ F=lF g /\ fG w g cap l) \/ (cap=l.length /\ (l=[] /\ F=[] \/ ∃ b,a=sS ⟨b,0,nN⟩ /\ F=[b] /\ b<w.heap.size /\ ∀ j,j<l.length -> w.cell? ⟨b,j,nN⟩=sS (vi iQ (ar l j))))
 keep:=by
  rintro F S w w' (⟨g,h1,h2,h3⟩|⟨h1,h2|⟨b,h2,h3,h4,h5⟩⟩) m hS
  ·exact .inl ⟨g,h1,h2,h3.keep m (by rw [<- h2];exact hS)⟩
  ·exact .inr ⟨h1,.inl h2⟩
  ·have hb:b∉S:=hS b (by rw [h3];exact List.mem_singleton_self _)
   exact .inr ⟨h1,.inr ⟨b,h2,h3,Nat.lt_of_lt_of_le h4 m.size,λj hj=>m.at (h5 j hj) hb⟩⟩
 lt:=by
  rintro F w (⟨g,h1,h2,h3⟩|⟨h1,h2|⟨b,h2,h3,h4,h5⟩⟩) x hx
  ·exact h3.lt x (by rw [<- h2];exact hx)
  ·rw [h2.2] at hx;cases hx
  ·rw [h3,List.mem_singleton] at hx;subst hx;exact h4
theorem kR.ints {a:Option Addr} {cap:Nat} {l:List Int} {F:List Nat} {w:wW} (h:(kR a cap l).holds F w):bN w a l:=by
 rcases h with ⟨g,h1,h2,h3⟩|⟨h1,h2|⟨b,h2,h3,h4,h5⟩⟩
 ·rw [h1];exact h3.ints
 ·exact .inl h2.1
 ·exact .inr ⟨b,h2,h4,h5⟩
theorem kR.cap {a:Option Addr} {cap:Nat} {l:List Int} {F:List Nat} {w:wW} (h:(kR a cap l).holds F w) (hl:l.length <= 1000):l.length <= cap /\ cap <= maxLen:=by
 rcases h with ⟨g,h1,h2,h3⟩|⟨h1,_⟩
 ·exact h3.cap
 ·subst h1;exact ⟨Nat.le_refl _,by unfold maxLen;omega⟩
theorem kR.nil (w:wW):(kR nN 0 []).holds [] w:=.inl ⟨nN,rfl,rfl,rfl,rfl⟩
def kN (pg:Nat -> Nat):Array Value:=cC [] 12 (λi=>[.int .u8 (pg i:Nat)]) [vi iQ 12]
def mH (n:Nat) (a:Nat -> Option Addr) (cap:Nat -> Nat) (q:Nat -> List Int):Array Value:=cC [] n (λc=>[.slice (a c) (q c).length (cap c)]) []
structure cO.ok (t:cO):Prop where
 n1:1 <= t.n
 n2:t.n <= 64
 pg:∀ i,t.pg i<256
 len:∀ c,(t.kept c).length <= 4
 bd:∀ c id,id∈t.kept c -> 1 <= id /\ id <= 96
def bf (b p g n:Nat) (pg:Nat -> Nat) (a:Nat -> Option Addr) (cap:Nat -> Nat) (q:Nat -> List Int):List ak:=
 [ak.blk b (.cells #[vp (sS ⟨p,0,nN⟩),vi iQ 12,.slice (sS ⟨g,0,nN⟩) n n] 205 (0,0)),ak.blk p (.cells (kN pg) 284 (0,0)),ak.blk g (.cells (mH n a cap q) 30 (0,0))]++aN n (λc=>kR (a c) (cap c) (q c))
structure StP where
 p:Nat
 g:Nat
 a:Nat -> Option Addr
 cap:Nat -> Nat
def fR (b:Nat) (t:cO):ak:=ak.such t.ok (ak.ex λx:StP=>ak.star (bf b x.p x.g t.n t.pg x.a x.cap t.kept))
def st0 (n:Nat):cO:=⟨n,λ_=>0,λ_=>[]⟩
theorem JZ {n:Nat} (h1:1 <= n) (h2:n <= 64):(st0 n).ok:=⟨h1,h2,λ_=>by show 0<256;omega,λ_=>by show 0 <= 4;omega,λ_ _ h=>by cases h⟩
theorem GO:(tp.info? 30).map (λi=>(i.zero,i.size))=sS (sS (.slice nN 0 0),1):=by kernel_rfl
theorem EC:((tp.info? 30).map (λi=>decide (i.bytes <= 1000)))=sS tQ:=by kernel_rfl
theorem Ep (n:Nat) (h2:n <= 64) (w:wW):(Instr.makeSlice 203 (vi iQ n) (vi iQ n)).run tp w=.ok (.slice (sS ⟨w.heap.size,0,nN⟩) n n) (w.alloc (.cells (mH n (λ_=>nN) (λ_=>0) (λ_=>[])) 30 (0,0))):=by
 obtain ⟨i,hi,hzz⟩:=Option.map_eq_some_iff.1 GO
 obtain ⟨i2,hi2,hb⟩:=Option.map_eq_some_iff.1 EC
 have:i2=i:=by rw [hi] at hi2;exact (Option.some.inj hi2).symm
 subst this
 simp only [Prod.mk.injEq] at hzz
 obtain ⟨hz,hs⟩:=hzz
 have hb2:=of_decide_eq_true hb
 have:=Go.run_make (P:=tp) w 203 30 i2 _ Tryz.underlying203 hi hz .i64 .i64 n n oM oM (by have:(i2.bytes:Int) * n <= 1000 * 64:=Int.mul_le_mul oM oM oM oM;omega) oM
 rw [this,Int.toNat_natCast,hs]
 show Result.ok _ (w.alloc (.cells (madeCells [Value.slice nN 0 0].toArray (n * 1)) 30))=_
 rw [ni [Value.slice nN 0 0] 1 rfl dE n]
 rfl
section
variable {F:List Nat} {w u:wW} {b p g n:Nat} {pg:Nat -> Nat} {a:Nat -> Option Addr} {cap:Nat -> Nat} {q:Nat -> List Int} {t:cO}
theorem mT (h:(fR b t).holds F w):t.ok /\ ∃ p g a cap,On F w (bf b p g t.n t.pg a cap t.kept) w:=by
 obtain ⟨h1,x,h2⟩:=h
 exact ⟨h1,x.p,x.g,x.a,x.cap,On.of h2⟩
theorem On.stOk (h:On F w (bf b p g n pg a cap q) u) {t:cO} (hok:t.ok) (hn:t.n=n) (hp:t.pg=pg) (hq:t.kept=q):dt (fR b t) F w u:=by
 subst hn hp hq
 exact h.gains.imp λF' h'=>⟨hok,⟨p,g,a,cap⟩,h'⟩
theorem On.stC (h:On F w (bf b p g n pg a cap q) u):u.cell? ⟨b,0,nN⟩=sS (vp (sS ⟨p,0,nN⟩)) /\ u.cell? ⟨b,2,nN⟩=sS (.slice (sS ⟨g,0,nN⟩) n n):=⟨h.cell 0 rfl 0,h.cell 0 rfl 2⟩
theorem Gi (w:wW):Calls tp 103 #[vi iQ 12] w (cN (λd:Nat=>.tuple #[vp (sS ⟨d,0,nN⟩),vi iQ 0]) (λd=>ak.blk d (.cells (kN λ_=>0) 284 (0,0))) [] w):=by
 have hA:=(On.start w).alloc (.cells (kN λ_=>0) 284 (0,0))
 have HA:=zh hA.gain1
 clear hA
 go_in
 go_wp2
 go_ret2
 exact ⟨w.heap.size,rfl,HA.out⟩
theorem Dr (n:Nat) (h1:1 <= n) (h2:n <= 64) (w:wW):Calls tp 55 #[vi iQ n,vi iQ 12] w (cN (λd:Nat=>.tuple #[vp (sS ⟨d,0,nN⟩),vi iQ 0]) (λd=>fR d (st0 n)) [] w):=by
 have hmk:=λw=>Ep n h2 w
 have hP:=(On.start w).make (Gi w)
 go_in
 go_wp2_with (
  go_at_call 103
  refine hP.mono ?_
  rintro e w1 ⟨p,rfl,hA⟩
  have hB:On [] w (bf (w1.heap.size+1) p w1.heap.size n (λ_=>0) (λ_=>nN) (λ_=>0) (λ_=>[])) ((w1.alloc (.cells (mH n (λ_=>nN) (λ_=>0) (λ_=>[])) 30 (0,0))).alloc (.cells #[vp (sS ⟨p,0,nN⟩),vi iQ 12,.slice (sS ⟨w1.heap.size,0,nN⟩) n n] 205 (0,0))):=by
   have x1:=hA.alloc (.cells (mH n (λ_=>nN) (λ_=>0) (λ_=>[])) 30 (0,0))
   have x2:=(x1.alloc (.cells #[vp (sS ⟨p,0,nN⟩),vi iQ 12,.slice (sS ⟨w1.heap.size,0,nN⟩) n n] 205 (0,0))).front
   rw [cm] at x2
   have hx:∀ j:Nat,∀ l:List ak,∀ u,On [] w l u -> On [] w (l++aN j (λc=>kR nN 0 [])) u:=by
    intro j
    induction j with
    | zero=>intro l u h;unfold aN;rw [List.range_zero,List.map_nil,List.append_nil];exact h
    | succ j ih=>
     intro l u h
     have:=(ih l u h).more (P:=kR nN 0 []) (kR.nil _)
     unfold aN at *
     rw [List.range_succ,List.map_append,<- List.append_assoc]
     exact this
   exact hx n _ _ x2
  have hlen:(w1.alloc (.cells (mH n (λ_=>nN) (λ_=>0) (λ_=>[])) 30 (0,0))).heap.size=w1.heap.size+1:=cm _ _
  have HB:=zh hB
  clear hB hA hP)
 go_ret2
 refine ⟨w1.heap.size+1,by simp,?_⟩
 exact HB.out.stOk (JZ h1 h2) rfl rfl rfl
theorem Dq (k2:u.cell? ⟨b,2,nN⟩=sS (.slice (sS ⟨g,0,nN⟩) n n)) (cpu:Int):Calls tp 235 #[vp (sS ⟨b,0,nN⟩),vi iQ cpu] u (au (vi iQ (if 0 <= cpu /\ cpu<n then 0 else 3)) u):=by
 by_cases hi:0 <= cpu /\ cpu<n
 ·rw [pG hi]
  obtain ⟨h1,h2⟩:=hi
  go_in
  go_wp2
  go_ret
  exact au.of (rfl) dz
 ·rw [nG hi]
  have h2:cpu<0 \/ (¬ cpu<0 /\ (n:Int) <= cpu):=by omega
  clear hi
  rcases h2 with h2|⟨h1,h2⟩
  all_goals
   go_in
   go_wp2
   go_ret
   exact au.of (rfl) dz
end
theorem oO {ids:List Nat} {T:Int -> Option jQ} {id:Int} {x y:jQ} (hi:uH ids T) (hx:T id=sS y):uH ids (cA T id x):=by
 intro m
 rw [hi m]
 unfold cA
 by_cases e:(m:Int)=id
 ·rw [pG e,e,hx];simp
 ·rw [nG e]
theorem bP.ok.put {t:bP} (h:t.ok) {id:Int} {x y:jQ} (hx:t.t id=sS y) (hm:x.mask<2 ^ 64) (hp:x.prio=y.prio):(t.put id x).ok:=by
 refine ⟨h.n1,h.n2,?_,?_,?_⟩
 all_goals
  intro j z hz
  have hz:(if j=id then sS x else t.t j)=sS z:=hz
  split at hz
 ·rename_i e;subst e;exact h.bd _ _ hx
 ·exact h.bd _ _ hz
 ·cases hz;exact hm
 ·exact h.msk _ _ hz
 ·cases hz;rename_i e;rw [hp];exact h.pr _ _ hx
 ·exact h.pr _ _ hz
section
variable {F:List Nat} {w u:wW} {b tb mb cnt:Nat} {ids:List Nat} {D:Nat -> Nat} {n:Nat} {T:Int -> Option jQ} {t:bP}
theorem iC (h:(bQ b t).holds F w) (id:Int):Calls tp 119 #[vp (sS ⟨b,0,nN⟩),vi iQ id] w (bp (.tuple #[.agg (kZ (t.get id)).toArray,vi iQ (t.getE id)]) w):=by
 obtain ⟨hok,tb,mb,cnt,ids,D,hI,hA⟩:=cZ h
 have hC:=hA.keep ((af.refl [] w).alloc (.cells #[vi iQ 0,vi uQ 0,vi iQ 0,vb fF,vb fF,vi iQ 0] 237 (0,0)))
 have hF:=eL hC id
 have e0:t.getE id=if (t.t id).isSome then 0 else 4:=rfl
 have eg:t.get id=(t.t id).getD th0:=rfl
 cases hx:t.t id with
 | none=>
  rw [hx] at e0 eg
  rw [gG hx,e0] at hF
  rw [e0,eg]
  clear hC hA h e0 eg
  go_in
  go_wp2_with (go_at_call 214;refine hF.r λk=>?_)
  refine bodyPost_ret_by (v:=.tuple #[.agg #[vi iQ 0,vi uQ 0,vi iQ 0,vb fF,vb fF,vi iQ 0],vi iQ 4]) ?_ rfl ?_
  ·rw [results_cell_tmp rfl];go_simp
  ·refine ⟨rfl,?_⟩
   exact ms
 | some x=>
  rw [hx] at e0 eg
  obtain ⟨h1,h2⟩:=hok.bd id x hx
  obtain ⟨k,rfl⟩:∃ k:Nat,id=(k:Int)+1:=⟨(id - 1).toNat,by omega⟩
  have hk:k<32:=by omega
  have ek:((k:Int)+1 - 1).toNat=k:=by omega
  rw [gF hx,e0,ek] at hF
  rw [e0,eg]
  have c0:=hC.thCell hk hx 0
  have c1:=hC.thCell hk hx 1
  have c2:=hC.thCell hk hx 2
  have c3:=hC.thCell hk hx 3
  have c4:=hC.thCell hk hx 4
  have c5:=hC.thCell hk hx 5
  simp only [kZ,Option.getD_some,List.getElem?_cons_zero,List.getElem?_cons_succ] at c0 c1 c2 c3 c4 c5 ⊢
  generalize (k:Int)+1=id at *
  generalize D k=d at *
  clear hC hA h e0 eg hx hok
  obtain ⟨pr,mk,cp,fo,sl,ti⟩:=x
  simp only [] at *
  go_in
  go_wp2_with (go_at_call 214;refine hF.r λk=>?_)
  refine bodyPost_ret_by (v:=.tuple #[.agg #[vi iQ pr,vi uQ (mk:Nat),vi iQ cp,vb fo,vb sl,vi iQ ti],vi iQ 0]) ?_ rfl ?_
  ·rw [results_cell_tmp rfl];go_simp
  ·refine ⟨rfl,?_⟩
   exact ms
theorem nD (h:(bQ b t).holds F w) (id cpu:Int) (f:Bool):Calls tp 212 #[vp (sS ⟨b,0,nN⟩),vi iQ id,vi iQ cpu,vb f] w (al (bQ b (t.place id cpu f)) F (vi iQ (t.placeE id cpu)) w):=by
 obtain ⟨hok,tb,mb,cnt,ids,D,hI,hA⟩:=cZ h
 have hF:=eL hA id
 have e0:t.getE id=if (t.t id).isSome then 0 else 4:=rfl
 cases hx:t.t id with
 | none=>
  rw [hx] at e0
  have e4:t.getE id≠0:=by rw [e0];decide
  have e0':t.getE id=4:=e0
  rw [gG hx,e0'] at hF
  have H:=zh (λk=>(hA.keep (u':=w.drewN k) (mR.drewN k)).threadOk hok rfl rfl hI)
  have eE:t.placeE id cpu=4:=pG e4
  rw [show t.place id cpu f=t from nG (by rw [eE];decide),eE]
  clear hA h e0 e4 e0' eE hx hok
  go_in
  go_wp2_with (go_at_call 214;refine hF.r λk=>?_)
  go_ret
  exact ⟨rfl,H.out _⟩
 | some x=>
  rw [hx] at e0
  obtain ⟨h1,h2⟩:=hok.bd id x hx
  obtain ⟨k,rfl⟩:∃ k:Nat,id=(k:Int)+1:=⟨(id - 1).toNat,by omega⟩
  have hk:k<32:=by omega
  have ek:((k:Int)+1 - 1).toNat=k:=by omega
  have e0':t.getE ((k:Int)+1)=0:=e0
  have eg:t.get ((k:Int)+1)=x:=by unfold bP.get;rw [hx];rfl
  rw [gF hx,e0',ek] at hF
  obtain ⟨k0,k1,k2⟩:=hA.thC
  by_cases hi:cpu<0 \/ (t.n:Int) <= cpu
  ·have eE:t.placeE ((k:Int)+1) cpu=3:=by unfold bP.placeE;rw [nG (by rw [e0'];decide),pG hi]
   rw [show t.place ((k:Int)+1) cpu f=t from nG (by rw [eE];decide),eE]
   have H:=zh (λk=>(hA.keep (u':=w.drewN k) (mR.drewN k)).threadOk hok rfl rfl hI)
   have hi2:cpu<0 \/ (¬ cpu<0 /\ (t.n:Int) <= cpu):=by omega
   clear hA h e0 e0' eE hx hok hi eg
   generalize (k:Int)+1=id at *
   rcases hi2 with hi2|⟨hi1,hi2⟩
   all_goals
    go_in
    go_wp2_with (go_at_call 214;refine hF.r λk=>?_)
    go_ret
    exact ⟨rfl,H.out _⟩
  ·have eE:t.placeE ((k:Int)+1) cpu=0:=by unfold bP.placeE;rw [nG (by rw [e0'];decide),nG hi]
   rw [show t.place ((k:Int)+1) cpu f=t.put ((k:Int)+1) { x with cpu:=cpu,forced:=f } by unfold bP.place;rw [pG eE,eg],eE]
   have hok2:=hok.put (x:={ x with cpu:=cpu,forced:=f }) hx (show x.mask<2 ^ 64 from hok.msk _ _ hx) rfl
   have hI2:=oO (x:={ x with cpu:=cpu,forced:=f }) hI hx
   have H:=zh (λk0=>((hA.keep (u':=w.drewN k0) (mR.drewN k0)).thSet hk hx 2 (vi iQ cpu) { x with cpu:=cpu } rfl).thSet hk (x:={ x with cpu:=cpu }) (by unfold cA;rw [pG rfl]) 3 (vb f) { x with cpu:=cpu,forced:=f } rfl)
   have c2:=hA.thCell hk hx 2
   have c3:=hA.thCell hk hx 3
   have f2:=hA.thFree hk hx 2
   have f3:=hA.thFree hk hx 3
   simp only [kZ,List.getElem?_cons_zero,List.getElem?_cons_succ] at c2 c3
   have ho:cA (cA t.t ((k:Int)+1) { x with cpu:=cpu }) ((k:Int)+1) { x with cpu:=cpu,forced:=f }=(t.put ((k:Int)+1) { x with cpu:=cpu,forced:=f }).t:=by
    funext j;unfold bP.put cA;simp only [];split<;>rfl
   have HO:=zh ho
   clear hA h e0 e0' eE eg ho
   have hi1:¬ cpu<0:=by omega
   have hi2:¬ (t.n:Int) <= cpu:=by omega
   generalize D k=d at *
   have HI:=zh (And.intro hok2 hI2)
   clear hok2 hI2 hx hi
   go_in
   go_wp2_with (go_at_call 214;refine hF.r λk=>?_)
   go_ret
   have hE:=H.out k
   rw [HO.out] at hE
   exact ⟨rfl,hE.threadOk HI.out.1 rfl rfl HI.out.2⟩
end
theorem Gg (most:Nat) (h1:1 <= most) (h2:most <= 1024) (w:wW):Calls tp 100 #[vi iQ most] w (cN (λd:Nat=>.tuple #[vp (sS ⟨d,0,nN⟩),vi iQ 0]) (λd=>db d most []) [] w):=by
 have hmk:=λw=>run_makeMap (P:=tp) 75 w
 have hB:On [] w ([ak.blk (w.heap.size+1) (ke 0 (λ_=>0) w.heap.size most),dD w.heap.size 0 (λ_=>nN)]++aN 0 (λi=>aQ 0 most []))
   ((w.alloc (.map #[] 0)).alloc (.cells #[vp nN,vp nN,vp nN,vp nN,vp nN,vp nN,vp nN,vp nN,.map (sS w.heap.size),vi iQ most] 264 (0,0))):=by
  have x1:=(On.start w).fmNew
  have x2:=(x1.alloc (.cells #[vp nN,vp nN,vp nN,vp nN,vp nN,vp nN,vp nN,vp nN,.map (sS w.heap.size),vi iQ most] 264 (0,0))).front
  rw [cm] at x2
  exact x2
 have HB:=zh hB
 clear hB
 go_in
 go_wp2
 generalize hd:w.heap.size+1=d at *
 generalize hmb:w.heap.size=mb at *
 go_loopg [12] 8 (λgg i wr=>∃ (j:Nat) (D:Nat -> Nat),i=vi iQ j /\ j+gg=8 /\ On [] w ([ak.blk d (ke j D mb most),dD mb 0 (λ_=>nN)]++aN j (λi=>aQ (D i) most [])) wr)
 case atStart=>exact ⟨0,λ_=>0,rfl,by omega,HB.out⟩
 case round=>
  clear HB
  obtain ⟨j,D,rfl,hj,hB⟩:=hrel
  by_cases hlt:j<8
  ·have hltI:(j:Int)<8:=by omega
   have hN:=hB.make (uv most h1 h2 wr)
   go_wp2_with (
     go_at_call 102
     refine hN.mono ?_
     rintro e w2 ⟨x,rfl,hC⟩
     have c1:w2.cell? ⟨d,j,nN⟩=sS (vp nN):=by
      rw [hC.cell 0 rfl j,List.getElem?_toArray,List.getElem?_append_left (by rw [ia];exact hlt)]
      simp [GA,hlt]
     have f1:w2.frozen? ⟨d,j,nN⟩=fF:=hC.free 0 rfl j
     have s1:=hC.size 0 rfl
     have HC:=zh hC
     clear hC hN hB
     )
   go_roundg (gk - 1)
   case measure=>omega
   case rel=>
    refine ⟨j+1,aq D j x,by go_num,by omega,?_⟩
    have hE:=HC.out.set 0 rfl j (vp (sS ⟨x,0,nN⟩))
    have e1:((GA j D++[Value.map (sS mb),vi iQ most]).toArray).setIfInBounds j (vp (sS ⟨x,0,nN⟩))=(GA (j+1) (aq D j x)++[Value.map (sS mb),vi iQ most]).toArray:=by
     rw [sA,List.set_append_left _ _ (by rw [ia];exact hlt),Ji _ _ hlt]
    have e2:=yH (λi d=>aQ d most []) j x D
    rw [e2]
    rw [e1] at hE
    simpa [ke] using hE
  ·have hltI:¬ (j:Int)<8:=by omega
   obtain rfl:j=8:=by omega
   have HB:=zh hB
   clear hB
   go_wp2
   go_ret2
   refine ⟨d,rfl,?_⟩
   refine HB.out.gains.imp λF' h'=>⟨⟨⟨by simp,by simp⟩,by simp,h1,h2⟩,⟨mb,D⟩,?_⟩
   exact h'
theorem Kr:(tp.info? 157).map (λi=>(i.zero,i.size,i.bytes))=sS (sS (vp nN),1,8):=by kernel_rfl
def KH (n:Nat):RQ:=⟨n,λ_=>[]⟩
theorem whr0 (n:Nat) (id:Int):(KH n).whr id=none:=by
 rw [RQ.whr_none]
 intro c hc
 rfl
theorem Ka {n:Nat} (h1:1 <= n) (h2:n <= 64):(KH n).ok:=
 ⟨h1,h2,λc=>⟨⟨List.Pairwise.nil,λx hx=>by cases hx⟩,by show 0 <= 32;omega,by omega,by omega⟩,λc d id _ _ h _=>by cases h⟩
theorem FX (n:Nat) (h1:1 <= n) (h2:n <= 64) (w:wW):Calls tp 43 #[vi iQ n] w (cN (λd:Nat=>.tuple #[vp (sS ⟨d,0,nN⟩),vi iQ 0]) (λd=>dK d (KH n)) [] w):=by
 have hmk:=λw=>run_makeMap (P:=tp) 75 w
 have hB:On [] w (fN (w.heap.size+1) nN 0 w.heap.size 0 (λ_=>nN) (λ_=>0) 0 (λ_=>[]))
   ((w.alloc (.map #[] 0)).alloc (.cells #[.slice nN 0 0,.map (sS w.heap.size)] 160 (0,0))):=by
  have x1:=(On.start w).fmNew
  have x2:=(x1.alloc (.cells #[.slice nN 0 0,.map (sS w.heap.size)] 160 (0,0))).front
  rw [cm] at x2
  have x3:=x2.more (P:=kS 157 1 nN 0 0 []) ⟨rfl,lY.nil _ _ _⟩
  exact x3
 have HB:=zh hB
 clear hB
 go_in
 go_wp2
 generalize hd:w.heap.size+1=d at *
 generalize hmb:w.heap.size=mb at *
 go_loopg [17] n (λgg i wr=>∃ (j:Nat) (g:Option Nat) (cap:Nat) (D:Nat -> Nat),i=vi iQ j /\ j+gg=n /\ On [] w (fN d g cap mb 0 (λ_=>nN) D j (λ_=>[])) wr)
 case atStart=>exact ⟨0,nN,0,λ_=>0,rfl,by omega,HB.out⟩
 case round=>
  clear HB
  obtain ⟨j,g,cap,D,rfl,hj,hB⟩:=hrel
  by_cases hlt:j<n
  ·have hltI:(j:Int)<n:=by omega
   have hN:=hB.make (Gg 32 oM oM wr)
   go_wp2_with (first
    | (
     go_at_call 100
     refine hN.mono ?_
     rintro e w2 ⟨x,rfl,hC⟩
     have c1:=hC.cell 0 rfl 0
     have hC2:=hC.keep (u':=w2.alloc (.cells #[vp (sS ⟨x,0,nN⟩)] 157 (0,0))) (mR.alloc _)
     unfold fN at hC2
     rw [List.append_nil] at hC2
     obtain ⟨g',cap',w3,hrun,hD⟩:=hC2.famMore (P:=tp) (tt:=158) (bytes:=8) Tryz.underlying158 Kr oM oM (b:=w2.heap.size) (d:=x) (ai _ _)
     have c3:=hD.cell 0 rfl 0
     have f3:=hD.free 0 rfl 0
     have z3:=hD.size 0 rfl
     have HD:=zh hD
     clear hC hC2 hN hB hD
     )
    | (
     at_builtin
     refine aM rfl _ _ _ rfl rfl rfl (hrun _) ?_
     )
    )
   have hE:=HD.out.set 0 rfl 0 (.slice (sS ⟨g',0,nN⟩) (j+1) cap')
   go_roundg (gk - 1)
   case measure=>omega
   case rel=>
    refine ⟨j+1,sS g',cap',aq D j x,by go_num,by omega,?_⟩
    have e:aq (λc=>db (D c) 32 []) j (db x 32 [])=λi=>db (aq D j x i) 32 []:=by
     funext i
     by_cases e:i=j
     ·subst e;rw [ah,ah]
     ·rw [ao _ _ e,ao _ _ e]
    rw [e] at hE
    unfold fN
    rw [List.append_nil]
    exact hE
  ·have hltI:¬ (j:Int)<n:=by omega
   obtain rfl:j=n:=by omega
   have HB:=zh hB
   clear hB
   go_wp2
   go_ret2
   have hw:(λ_=>nN)=(KH j).whrI:=by funext id;unfold RQ.whrI;rw [whr0];rfl
   refine ⟨d,rfl,?_⟩
   exact HB.out.runq (r:=KH j) (Ka h1 h2) rfl rfl hw
end Go.Proofs.YtmiapbgkphpgoaaGreatDoor