/- Walks and plain laws of the kernel. No condition. -/
import Derived.Test.YtmiapbgkphpgoaaGreatDoorKFM
namespace Go.Proofs.YtmiapbgkphpgoaaGreatDoor
set_option linter.unusedVariables false
set_option linter.unusedSimpArgs false
set_option maxRecDepth 100000
set_option maxHeartbeats 20000000
open Go.RowKit
open Go.Proofs.Tryz renaming prog → tp
open List renaming setIfInBounds_toArray → sA, set_cons_zero → sB, set_cons_succ → sC
open Go renaming World → wW
open Go.Value renaming pointer → vp, bool → vb, int → vi
open Go.IntKind renaming i64 → iQ, u64 → uQ
open Option renaming none → nN, some → sS
open Bool renaming true → tQ, false → fF
open Int renaming eq_ofNat_of_zero_le → iN
def kf0 (n m:Nat):Nat -> Value:=λi=>if i<14 then vp nN else if i=14 then .slice nN 0 0 else if i=15 then vi iQ n else if i=16 then vi uQ (bw n:Nat) else if i=17 then vi uQ (bw n:Nat) else if i=18 then vi iQ 0 else if i=19 then vi iQ 1073741824 else .map (sS m)
theorem ra {P:Program} {w w':wW} {ops:Array Oper} {o:Oper} {a:Act} {K:Act -> wW -> Prop} {Q:Exit -> Act -> wW -> Prop} {E:Prop} (hgd:o.guard=nN) (s x:Operand) (t:TypeId)
  (ho:o.op=.call { callee:=.builtin .append,args:=#[s,x],argTypes:=#[t,t] }) {v u r:Value} (hs:a.eval s=v) (hx:a.eval x=u)
  (hr:(Builtin.append_ #[t,t] o.type #[v,u]).run P w=.ok r w') (h:K (a.put o.dst r) w'):if Region.wanted o (yielded ops a.tmps)=tQ then Oper.wp P o a w K Q else E:=by
 have hw:Region.wanted o (yielded ops a.tmps)=tQ:=by simp [Region.wanted,hgd]
 rw [pG hw]
 unfold Oper.wp execOp
 simp only [ho,resolve,invoke,builtin,Sem.run_bind,Sem.run_pure,Result.andThen_ok,List.map_toArray,List.map_cons,List.map_nil,hs,hx,hr]
 exact h
def Jl (p:KP) (k:KT) (j:Nat):Array Value:=#[pq p.th,pq p.rq,pq p.tm,pq p.iq,pq p.rt,pq p.wk,pq p.cb,pq p.ob,pq p.ct,pq p.gt,pq p.sp,pq p.dk,pq p.co,pq p.mt,.slice (rA p.g) j p.cap,vi iQ k.n,vi uQ (k.online:Nat),vi uQ (k.active:Nat),vi iQ k.now,vi iQ k.limit,.map (sS p.ow)]
def GF (b:Nat) (p:KP) (k:KT) (j:Nat) (g:Option Nat) (cap:Nat) (D:Nat -> Nat):List ak:=
 [ak.blk b (.cells (Jl { p with g:=g,cap:=cap,D:=D } k j) 91 (0,0)),dD p.ow p.cnt (ew k.own),bQ p.th k.th,dK p.rq k.rq,bh p.tm k.tm,fL p.iq k.iq,fV p.rt k.rt,fh p.wk k.wk,iR p.cb k.cb,fR p.ob k.ob,lf p.ct k.ct,ji p.gt k.gt,dP p.co k.co,Im p.mt k.mt,eP p.sp k.sp,dV p.dk k.dk]
  ++ js 134 g cap j D (λc=>fC (D c) EJ)
theorem tY (n:Nat) (h1:1 <= n) (h2:n <= 64) (w:wW):Calls tp 17 #[vi iQ n] w (cN (λd:Nat=>.tuple #[vp (sS ⟨d,0,nN⟩),vi iQ 0]) (λd=>aa d (k0 n)) [] w):=by
 have hmk:=λw=>run_makeMap (P:=tp) 75 w
 have hU:=λw=>ix n w
 go_in
 go_wp2_with (
    go_at_call 22
    refine (hU _).r λkk=>?_
    have hA:On [] w [ak.blk (w.heap.size+1) (.cells (kw (kf0 n w.heap.size)) 91 (0,0)),dD w.heap.size 0 (λ_=>nN)] (((w.drewN kk).alloc (.map #[] 0)).alloc (.cells #[vp nN,vp nN,vp nN,vp nN,vp nN,vp nN,vp nN,vp nN,vp nN,vp nN,vp nN,vp nN,vp nN,vp nN,.slice nN 0 0,vi iQ n,vi uQ (bw n:Nat),vi uQ (bw n:Nat),vi iQ 0,vi iQ 1073741824,.map (sS w.heap.size)] 91 (0,0))):=by
     have x1:=(((On.start w).keep (u':=w.drewN kk) (mR.drewN kk)).fmNew.alloc (.cells (kw (kf0 n w.heap.size)) 91 (0,0))).front
     rw [cm,World.heap_drewN] at x1
     exact x1
    have HA0:=zh hA
    clear hA hU
    )
 generalize hkb:w.heap.size+1=kb at *
 generalize hmb:w.heap.size=mb at *
 generalize ((w.drewN kk).alloc (.map #[] 0)).alloc _=u0 at *
 have HB:=zh (And.intro hkb hmb)
 clear hkb hmb hmk
 go_wp2_with (first
 | (
    go_at_call 41
    refine (HA0.out.make (AN n h1 h2 _)).mono ?_
    rintro e w1 ⟨dth,rfl,hB⟩
    have HB0:=zh hB
    clear hB HA0
    )
 | (go_at_call 40;refine (IU _ _ _).mono ?_;rintro e w' ⟨rfl,rfl⟩)
 | (
    go_at_call 43
    refine (HB0.out.make (FX n h1 h2 _)).mono ?_
    rintro e w2 ⟨drq,rfl,hB⟩
    obtain ⟨v0,a0⟩:∃ v,_=sS v:=⟨_,hB.wCell 0 dE⟩
    obtain ⟨v1,a1⟩:∃ v,_=sS v:=⟨_,hB.wCell 1 dE⟩
    have b0:=hB.wFree 0
    have b1:=hB.wFree 1
    have HA2:=zh hB
    clear hB HB0
    )
 | (go_at_call 42;refine (IW _ _ _).mono ?_;rintro e w' ⟨rfl,rfl⟩)
 | (
    go_at_call 45
    refine (((HA2.out.wSet 0 dE (vp (sS ⟨dth,0,nN⟩))).wSet 1 dE (vp (sS ⟨drq,0,nN⟩))).make (AL n h1 h2 _)).mono ?_
    rintro e w3 ⟨dtm,rfl,hB⟩
    have HB2:=zh hB
    clear hB HA2 a0 a1 b0 b1
    )
 | (go_at_call 44;refine (IS _ _ _).mono ?_;rintro e w' ⟨rfl,rfl⟩)
 | (
    go_at_call 47
    refine (HB2.out.make (Jm n h1 h2 _)).mono ?_
    rintro e w4 ⟨diq,rfl,hB⟩
    obtain ⟨v2,a2⟩:∃ v,_=sS v:=⟨_,hB.wCell 2 dE⟩
    obtain ⟨v3,a3⟩:∃ v,_=sS v:=⟨_,hB.wCell 3 dE⟩
    have b2:=hB.wFree 2
    have b3:=hB.wFree 3
    have HA4:=zh hB
    clear hB HB2
    )
 | (go_at_call 46;refine (IZ _ _ _).mono ?_;rintro e w' ⟨rfl,rfl⟩)
 | (
    go_at_call 49
    refine (((HA4.out.wSet 2 dE (vp (sS ⟨dtm,0,nN⟩))).wSet 3 dE (vp (sS ⟨diq,0,nN⟩))).make (DD n h1 h2 _)).mono ?_
    rintro e w5 ⟨drt,rfl,hB⟩
    have HB4:=zh hB
    clear hB HA4 a2 a3 b2 b3
    )
 | (go_at_call 48;refine (IV _ _ _).mono ?_;rintro e w' ⟨rfl,rfl⟩)
 | (
    go_at_call 51
    refine (HB4.out.make (Fz n h1 h2 _)).mono ?_
    rintro e w6 ⟨dwk,rfl,hB⟩
    obtain ⟨v4,a4⟩:∃ v,_=sS v:=⟨_,hB.wCell 4 dE⟩
    obtain ⟨v5,a5⟩:∃ v,_=sS v:=⟨_,hB.wCell 5 dE⟩
    have b4:=hB.wFree 4
    have b5:=hB.wFree 5
    have HA6:=zh hB
    clear hB HB4
    )
 | (go_at_call 50;refine (IQ _ _ _).mono ?_;rintro e w' ⟨rfl,rfl⟩)
 | (
    go_at_call 53
    refine (((HA6.out.wSet 4 dE (vp (sS ⟨drt,0,nN⟩))).wSet 5 dE (vp (sS ⟨dwk,0,nN⟩))).make (Hz n h1 h2 _)).mono ?_
    rintro e w7 ⟨dcb,rfl,hB⟩
    have HB6:=zh hB
    clear hB HA6 a4 a5 b4 b5
    )
 | (go_at_call 52;refine (Je _ _ _).mono ?_;rintro e w' ⟨rfl,rfl⟩)
 | (
    go_at_call 55
    refine (HB6.out.make (Dr n h1 h2 _)).mono ?_
    rintro e w8 ⟨dob,rfl,hB⟩
    obtain ⟨v6,a6⟩:∃ v,_=sS v:=⟨_,hB.wCell 6 dE⟩
    obtain ⟨v7,a7⟩:∃ v,_=sS v:=⟨_,hB.wCell 7 dE⟩
    have b6:=hB.wFree 6
    have b7:=hB.wFree 7
    have HA8:=zh hB
    clear hB HB6
    )
 | (go_at_call 54;refine (IX _ _ _).mono ?_;rintro e w' ⟨rfl,rfl⟩)
 | (
    go_at_call 57
    refine (((HA8.out.wSet 6 dE (vp (sS ⟨dcb,0,nN⟩))).wSet 7 dE (vp (sS ⟨dob,0,nN⟩))).make (AW n h1 h2 _)).mono ?_
    rintro e w9 ⟨dct,rfl,hB⟩
    have HB8:=zh hB
    clear hB HA8 a6 a7 b6 b7
    )
 | (go_at_call 56;refine (Jc _ _ _).mono ?_;rintro e w' ⟨rfl,rfl⟩)
 | (
    go_at_call 59
    refine (HB8.out.make (EL n h1 h2 _)).mono ?_
    rintro e w10 ⟨dgt,rfl,hB⟩
    obtain ⟨v8,a8⟩:∃ v,_=sS v:=⟨_,hB.wCell 8 dE⟩
    obtain ⟨v9,a9⟩:∃ v,_=sS v:=⟨_,hB.wCell 9 dE⟩
    have b8:=hB.wFree 8
    have b9:=hB.wFree 9
    have HA10:=zh hB
    clear hB HB8
    )
 | (go_at_call 58;refine (Jb _ _ _).mono ?_;rintro e w' ⟨rfl,rfl⟩)
 | (
    go_at_call 61
    refine (((HA10.out.wSet 8 dE (vp (sS ⟨dct,0,nN⟩))).wSet 9 dE (vp (sS ⟨dgt,0,nN⟩))).make (Hu n h1 h2 _)).mono ?_
    rintro e w11 ⟨dco,rfl,hB⟩
    have HB10:=zh hB
    clear hB HA10 a8 a9 b8 b9
    )
 | (go_at_call 60;refine (Jd _ _ _).mono ?_;rintro e w' ⟨rfl,rfl⟩)
 | (
    go_at_call 63
    refine (HB10.out.make (En n h1 h2 _)).mono ?_
    rintro e w12 ⟨dmt,rfl,hB⟩
    obtain ⟨v10,a10⟩:∃ v,_=sS v:=⟨_,hB.wCell 10 dE⟩
    obtain ⟨v11,a11⟩:∃ v,_=sS v:=⟨_,hB.wCell 11 dE⟩
    have b10:=hB.wFree 10
    have b11:=hB.wFree 11
    have z10:=hB.size 0 rfl
    obtain ⟨v12,a12⟩:∃ v,_=sS v:=⟨_,hB.wCell 12 dE⟩
    obtain ⟨v13,a13⟩:∃ v,_=sS v:=⟨_,hB.wCell 13 dE⟩
    have b12:=hB.wFree 12
    have b13:=hB.wFree 13
    have HA12:=zh hB
    clear hB HB10
    )
 | (go_at_call 62;refine (IY _ _ _).mono ?_;rintro e w' ⟨rfl,rfl⟩))
 have hB0:=((((((HA12.out.wSet 12 dE (vp (sS ⟨dco,0,nN⟩))).wSet 13 dE (vp (sS ⟨dmt,0,nN⟩))).wSet 10 dE (vp (sS ⟨w'.heap.size,0,nN⟩))).wSet 11 dE (vp (sS ⟨w'.heap.size+1,0,nN⟩))).alloc (.cells #[vi uQ 0,vi uQ 0] 129 (0,0))).alloc (.cells #[vp nN,.map nN] 133 (0,0)))
 rw [cm] at hB0
 rw [show ((((w'.setCell ⟨kb,12,nN⟩ (vp (sS ⟨dco,0,nN⟩))).setCell ⟨kb,13,nN⟩ (vp (sS ⟨dmt,0,nN⟩))).setCell ⟨kb,10,nN⟩ (vp (sS ⟨w'.heap.size,0,nN⟩))).setCell ⟨kb,11,nN⟩ (vp (sS ⟨w'.heap.size+1,0,nN⟩))).heap.size=w'.heap.size by simp] at hB0
 have hB1:=hB0.as 14 rfl (P':=eP w'.heap.size ⟨0,0⟩) (λF h=>⟨by constructor<;>simp,h⟩)
 have hB2:=hB1.as 15 rfl (P':=dV (w'.heap.size+1) sh0) (λF h=>⟨nN,nN,h.1,h.2,rfl,rfl,by simp [qF],by simp [pF],by simp [pF],by constructor<;>simp [sh0]⟩)
 have hB3:=hB2.more (P:=kS 134 1 nN 0 0 []) ⟨rfl,lY.nil _ _ _⟩
 generalize hp:(KP.mk mb dth drq dtm diq drt dwk dcb dob dct dgt dco dmt w'.heap.size (w'.heap.size+1) 0 nN 0 (λ_=>0))=p at *
 have HK:=zh (show On [] w (GF kb p (k0 n) 0 nN 0 (λ_=>0)) _ by subst hp;exact hB3)
 clear hB0 hB1 hB2 hB3 HA12 hp a10 a11 a12 a13 b10 b11 b12 b13
 clear z10 HB
 go_loopg [141] n (λgg i wr=>∃ (j:Nat) (g:Option Nat) (cap:Nat) (D:Nat -> Nat),i=vi iQ j /\ j+gg=n /\ On [] w (GF kb p (k0 n) j g cap D) wr)
 case atStart=>exact ⟨0,nN,0,λ_=>0,rfl,by omega,HK.out⟩
 case round=>
  clear HK
  obtain ⟨j,g,cap,D,rfl,hj,hB⟩:=hrel
  by_cases hlt:j<n
  ·have hltI:(j:Int)<n:=by omega
   have c14:wr.cell? ⟨kb,14,nN⟩=sS (.slice (rA g) j cap):=hB.cell 0 rfl 14
   have hN:=λk=>((hB.keep (u':=wr.drewN k) (mR.drewN k)).make (Hg 100 1000 rfl _))
   have HB:=zh hB
   clear hB
   go_wp2
   go_region_law (first
    | (
     go_simp
     go_at_call 65
     refine (hN _).mono ?_
     rintro e w2 ⟨x,rfl,hC⟩
     have c14:w2.cell? ⟨kb,14,nN⟩=sS (.slice (rA g) j cap):=hC.cell 0 rfl 14
     have c14a:=ay (.cells #[vp (sS ⟨x,0,nN⟩)] 134 (0,0)) c14
     have hC2:=hC.keep (u':=w2.alloc (.cells #[vp (sS ⟨x,0,nN⟩)] 134 (0,0))) (mR.alloc _)
     unfold GF at hC2
     obtain ⟨g',cap',w3,hrun,hD⟩:=hC2.famMore (P:=tp) (tt:=87) (bytes:=8) Tryz.underlying87 Ks oM oM (b:=w2.heap.size) (d:=x) (ai _ _)
     have c3:w3.cell? ⟨kb,14,nN⟩=sS (.slice (rA g) j cap):=hD.cell 0 rfl 14
     have f3:=hD.free 0 rfl 14
     have z3:=hD.size 0 rfl
     have HD:=zh hD
     clear hC hC2 hN hD
     )
    | (go_simp;go_at_call 64;refine (Ja _ _ _).mono ?_;rintro e w' ⟨rfl,rfl⟩)
    | (
     refine ra rfl _ _ _ rfl (by first|rfl|(go_simp;rfl)) (by first|rfl|(go_simp;rfl)) (hrun _) ?_
     )
    )
   all_goals
    have hE:=HD.out.set 0 rfl 14 (.slice (sS ⟨g',0,nN⟩) (j+1) cap')
    go_wp2
    go_roundg (gk - 1)
    case measure=>omega
    case rel=>
     refine ⟨j+1,sS g',cap',aq D j x,by go_num,by omega,?_⟩
     have e:aq (λc=>fC (D c) EJ) j (fC x EJ)=λi=>fC (aq D j x i) EJ:=by
      funext i
      by_cases e:i=j
      ·subst e;rw [ah,ah]
      ·rw [ao _ _ e,ao _ _ e]
     rw [show Jv 100 1000=EJ from rfl,e] at hE
     exact hE
  ·have hltI:¬ (j:Int)<n:=by omega
   obtain rfl:j=n:=by omega
   have HB:=zh hB
   clear hB
   go_wp2
   go_ret2
   refine ⟨kb,rfl,?_⟩
   have hK:On [] w (ag kb { p with g:=g,cap:=cap,D:=D } (k0 j)) wr:=by
    unfold ag
    rw [List.append_nil]
    exact HB.out
   exact hK.kernel (Lb h1 h2)
end Go.Proofs.YtmiapbgkphpgoaaGreatDoor