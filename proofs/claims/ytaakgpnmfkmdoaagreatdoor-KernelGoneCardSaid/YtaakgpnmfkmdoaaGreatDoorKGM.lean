/- Walks and plain laws of the kernel. No condition. -/
import Derived.Test.YtaakgpnmfkmdoaaGreatDoorKFM
import Derived.Test.YtaakgpnmfkmdoaaGreatDoorK5M
namespace Go.Proofs.YtaakgpnmfkmdoaaGreatDoor
set_option linter.unusedVariables false
set_option linter.unusedSimpArgs false
set_option maxRecDepth 100000
set_option maxHeartbeats 20000000
open Go.RowKit
open Go.Proofs.Tryz renaming prog → tp
open List renaming setIfInBounds_toArray → sA, set_cons_zero → sB, set_cons_succ → sC
open Go renaming World → wW
open Go.Value renaming pointer → vp, bool → vb, int → vi
open Go.IntKind renaming i64 → iQ, u64 → uQ
open Option renaming none → nN, some → sS
open Bool renaming true → tQ, false → fF
open Int renaming eq_ofNat_of_zero_le → iN
/-- Records in memory. -/
def nM (a:Option Addr) (l:List dS):ao where
 holds F w:=(l=[] /\ F=[]) \/ ∃ g,a=sS ⟨g,0,nN⟩ /\ F=[g] /\ w.heap[g]?=sS (.cells (db [] l.length (λi=>Na (l.getD i ⟨0,0,0,0,0⟩)) []) 37 (0,0))
 keep:=by
  rintro F S w w' (h|⟨g,h1,h2,h3⟩) m hS
  ·exact .inl h
  ·exact .inr ⟨g,h1,h2,m.keep h3 (hS g (by rw [h2];simp))⟩
 lt:=by
  rintro F w (⟨_,rfl⟩|⟨g,h1,rfl,h3⟩) x hx
  ·cases hx
  ·simp at hx;subst hx;exact cq h3
/-- What a call of a kernel does: its records, and what it is then. -/
def bp (b:Nat) (k:KT) (l:List dS) (F:List Nat) (w:wW) (e:Ending) (w':wW):Prop:=∃ a c,e=.returned (.slice a l.length c) /\ On F w [aa b k,nM a l] w'
section
variable {F:List Nat} {w u:wW} {b:Nat} {p:KP} {k:KT} {l:List dS}
theorem gW.does {e:Ending} {w':wW} (h:gW l u e w') (hA:On F w [aa b k] u):bp b k l F w e w':=by
 obtain ⟨a,c,rfl,m,hs⟩:=h
 refine ⟨a,c,rfl,?_⟩
 have hB:=hA.keep m
 rcases hs with ⟨h1,h2,h3⟩|⟨h1,g,h2,h3,h4⟩
 ·exact hB.more (P:=nM a l) (.inl ⟨h1,rfl⟩)
 ·obtain ⟨F1,⟨F2,F3,e1,g1,e2,g3⟩,g4,g5⟩:=hA
  subst e2
  simp only [List.append_nil] at e1
  subst e1
  refine ⟨F1++[g],⟨F1,[g],rfl,(aa b k).keep g1 m sM,⟨[g],[],by simp,.inr ⟨g,h2,rfl,h4⟩,rfl,by simp⟩,?_⟩,g4.trans m sM,?_⟩
  ·intro x hx hx2
   have:=(aa b k).lt g1 x hx
   simp at hx2
   omega
  ·intro x hx
   rcases List.mem_append.1 hx with hx|hx
   ·exact g5 x hx
   ·simp at hx;subst hx
    have:=g4.size
    exact .inr oM
theorem KT.ok.did (h:k.ok) (cpu:Int):(k.did cpu).ok:=
 ⟨h.n1,h.n2,h.th,h.rq,h.tm,h.wk,h.cb,h.ob,(Aw k.ct cpu 1).trans h.ct,h.gt,h.co,h.mt,h.rt,h.iq,h.on,h.ac,h.now,h.lim⟩
theorem fC (hok:k.ok) (hA:On F w (ag b p k) u) (cpu kind id n:Int):Calls tp 184 #[vp (sS ⟨b,0,nN⟩),vi iQ cpu,vi iQ kind,vi iQ id,vi iQ n] u (bp b (k.did cpu) [⟨kind,cpu,id,n,0⟩] F w):=by
 have c8:u.cell? ⟨b,8,nN⟩=sS (vp (sS ⟨p.ct,0,nN⟩)):=hA.kC 8
 have hS:=hA.call (P:=tp) (f:=226) 10 rfl (λF1 h1=>CJ h1 cpu 1 dE)
 have hok2:=zh (hok.did cpu)
 clear hA
 go_in
 go_wp2_with (go_at_call 226;refine hS.s λw1 hB=>?_;have HB:=zh (show On F w (ag b p (k.did cpu)) w1 from hB);clear hB hS)
 go_ret
 have:gW [⟨kind,cpu,id,n,0⟩] w1 (.returned (.slice (sS ⟨w1.heap.size,0,nN⟩) 1 1)) (w1.alloc (.cells #[vi iQ kind,vi iQ cpu,vi iQ id,vi iQ n,vi iQ 0] 37 (0,0))):=
  ⟨_,1,rfl,mR.alloc _,.inr ⟨rfl,_,rfl,Nat.le_refl _,ai _ _⟩⟩
 exact this.does (HB.out.kernel hok2.out).on
end
section
variable {F:List Nat} {w u:wW} {b:Nat} {p:KP} {k:KT} {l:List dS}
theorem nP (hok:k.ok) (hA:On F w (ag b p k) u) (cpu:Int):Calls tp 104 #[vp (sS ⟨b,0,nN⟩),vi iQ cpu,vi iQ 8] u (bp b (({ k with rq:=k.rq.pick cpu }:KT).did cpu) [⟨2,cpu,k.rq.pickV cpu,0,0⟩] F w):=by
 have c1:u.cell? ⟨b,1,nN⟩=sS (vp (sS ⟨p.rq,0,nN⟩)):=hA.kC 1
 have hS:=hA.call (P:=tp) (f:=188) 3 rfl (λF1 h1=>FD h1 cpu)
 have hok2:KT.ok { k with rq:=k.rq.pick cpu }:=by
  refine ⟨hok.n1,hok.n2,hok.th,?_,hok.tm,hok.wk,hok.cb,hok.ob,hok.ct,hok.gt,hok.co,hok.mt,hok.rt,hok.iq,hok.on,hok.ac,hok.now,hok.lim⟩
  show (k.rq.pick cpu).n=k.n
  unfold RQ.pick;split<;>exact hok.rq
 have HO:=zh hok2
 generalize k.rq.pickV cpu=v at *
 generalize k.rq.pickE cpu=e0 at *
 clear hA hok2
 go_in
 go_wp2_with (first
  | (
   go_at_call 188
   refine hS.s λw1 hB=>?_
   have hD:=fC HO.out (show On F w (ag b p { k with rq:=k.rq.pick cpu }) w1 from hB) cpu 2 v 0
   clear hB hS)
  | (go_at_call 184;refine hD.mono ?_;rintro e w2 ⟨a,c,rfl,hE⟩))
 go_ret
 exact ⟨a,c,rfl,hE⟩
end
section
variable {F:List Nat} {w u:wW} {b:Nat} {p:KP} {k:KT} {l:List dS}
theorem KT.ok.counted (hok:k.ok) (cpu:Int) (busy:Bool):KT.ok { k with co:=k.co.count cpu busy }:=by
 refine ⟨hok.n1,hok.n2,hok.th,hok.rq,hok.tm,hok.wk,hok.cb,hok.ob,hok.ct,hok.gt,?_,hok.mt,hok.rt,hok.iq,hok.on,hok.ac,hok.now,hok.lim⟩
 show (k.co.count cpu busy).n=k.n
 unfold CT.count
 first|(split<;>exact hok.co)|exact hok.co|(repeat (first|split|exact hok.co))
theorem zm (h:(aa b k).holds F w) (cpu:Int) (hw:k.what cpu=8):Calls tp 71 #[vp (sS ⟨b,0,nN⟩),vi iQ cpu] w (bp b (k.step cpu) (k.stepL cpu) F w):=by
 obtain ⟨hok,p,hA⟩:=ab h
 have c12:w.cell? ⟨b,12,nN⟩=sS (vp (sS ⟨p.co,0,nN⟩)):=hA.kC 12
 have hG:=hA.tells 12 rfl (λF1 h1=>eN h1 cpu)
 have hpw:(if k.co.is cpu then k.co.at cpu else core0).power=tQ:=by
  cases hp:(if k.co.is cpu then k.co.at cpu else core0).power with
  | true=>rfl
  | false=>unfold KT.what ib at hw;rw [pG hp] at hw;cases hw
 have hs0:k.step0 cpu={ k with co:=k.co.count cpu tQ }:=by
  unfold KT.step0
  rw [pG hpw,hw]
  rfl
 have hst:k.step cpu=({ k with co:=k.co.count cpu tQ,rq:=k.rq.pick cpu }:KT).did cpu:=by
  unfold KT.step
  rw [hw,hs0]
  rfl
 have hsL:k.stepL cpu=[⟨2,cpu,k.rq.pickV cpu,0,0⟩]:=by
  unfold KT.stepL
  rw [hw,hs0]
  rfl
 rw [hst,hsL]
 have hok2:=hok.counted cpu tQ
 have hNx:=λu=>fE (if k.co.is cpu then k.co.at cpu else core0) (k.flags cpu) u
 rw [show ib (if k.co.is cpu then k.co.at cpu else core0) (k.flags cpu)=8 from hw] at hNx
 have HK:=zh hok
 have HK2:=zh hok2
 clear hs0 hst hsL hw h hA hok hok2
 generalize (if k.co.is cpu then k.co.at cpu else core0)=x at *
 obtain ⟨pw,il,wy,si,st,bu⟩:=x
 simp only at hpw
 subst hpw
 simp only [bF] at *
 generalize hfv:(eD (k.flags cpu)).toArray=fv at *
 have HF:=zh hfv
 clear hfv
 generalize k.co.findE cpu=fe at *
 go_in
 go_wp2_with (
  go_at_call 84
  refine hG.mono ?_
  rintro e w1 ⟨rfl,hB,m1⟩
  have HX:=zh (hB.alloc (.cells #[vb tQ,vb il,vi iQ wy,vi iQ si,vi iQ st,vi iQ bu] 152 (0,0))).front
  clear hB hG m1)
 generalize w1.alloc (.cells #[vb tQ,vb il,vi iQ wy,vi iQ si,vi iQ st,vi iQ bu] 152 (0,0))=W at *
 generalize w1.heap.size=xb at *
 have hx:∀ v,af [] W v -> v.cell? ⟨xb,0,nN⟩=sS (vb tQ) /\ v.cell? ⟨xb,1,nN⟩=sS (vb il) /\ v.cell? ⟨xb,2,nN⟩=sS (vi iQ wy) /\ v.cell? ⟨xb,3,nN⟩=sS (vi iQ si) /\ v.cell? ⟨xb,4,nN⟩=sS (vi iQ st) /\ v.cell? ⟨xb,5,nN⟩=sS (vi iQ bu):=λv m=>⟨(HX.out.keep m).cell 0 rfl 0,(HX.out.keep m).cell 0 rfl 1,(HX.out.keep m).cell 0 rfl 2,(HX.out.keep m).cell 0 rfl 3,(HX.out.keep m).cell 0 rfl 4,(HX.out.keep m).cell 0 rfl 5⟩
 have C:=hx W mR
 have hFl:∀ v,af [] W v -> Calls tp 98 #[vp (sS ⟨b,0,nN⟩),vi iQ cpu] v (λe u'=>e=.returned (.agg fv) /\ af [] v u'):=λv m=>by rw [<- HF.out];exact cU HK.out ((HX.out.keep m).drop 0) cpu
 have m0:af [] W W:=af.refl _ _
 clear c12
 go_region_held3 (λv=>v.cell? ⟨xb,0,nN⟩=sS (vb tQ) /\ v.cell? ⟨xb,1,nN⟩=sS (vb il) /\ v.cell? ⟨xb,2,nN⟩=sS (vi iQ wy) /\ v.cell? ⟨xb,3,nN⟩=sS (vi iQ si) /\ v.cell? ⟨xb,4,nN⟩=sS (vi iQ st) /\ v.cell? ⟨xb,5,nN⟩=sS (vi iQ bu)) (assumption) (first
  | (
   go_at_call 98
   refine (hFl _ (by first|exact m0|exact m0.drewN _|exact m0.drew)).s λv mx=>?_
   have m1:af [] W v:=by first|exact m0.trans mx sM|exact (m0.drewN _).trans mx sM|exact m0.drew.trans mx sM
   have C:=hx _ m1
   clear mx)
  | (
   go_at_call 97
   refine (hNx _).s λv2 mx=>?_
   have m2:af [] W v2:=by first|exact m1.trans mx sM|exact (m1.drewN _).trans mx sM|exact m1.drew.trans mx sM
   have C:=hx _ m2
   clear mx))
 have hY:=HX.out.keep m2
 have c12:v2.cell? ⟨b,12,nN⟩=sS (vp (sS ⟨p.co,0,nN⟩)):=hY.cell 1 rfl 12
 have c0:v2.cell? ⟨xb,0,nN⟩=sS (vb tQ):=hY.cell 0 rfl 0
 have hCt:=hY.call (P:=tp) (f:=99) 13 rfl (λF1 h1=>fb h1 cpu tQ)
 clear hY C hx hFl hNx m0 m1 m2 HX
 go_wp2_with (first
  | (
   go_at_call 99
   refine hCt.s λv3 hZ=>?_
   have hZ:On F w (ao.blk xb (.cells #[vb tQ,vb il,vi iQ wy,vi iQ si,vi iQ st,vi iQ bu] 152 (0,0)) :: ag b p { k with co:=k.co.count cpu tQ }) v3:=hZ
   have hTh:=nP HK2.out (hZ.drop 0) cpu
   clear hZ hCt)
  | (go_at_call 104;refine hTh.mono ?_;rintro e v4 ⟨a,c,rfl,hE⟩))
 go_ret
 exact ⟨a,c,rfl,hE⟩
end
end Go.Proofs.YtaakgpnmfkmdoaaGreatDoor