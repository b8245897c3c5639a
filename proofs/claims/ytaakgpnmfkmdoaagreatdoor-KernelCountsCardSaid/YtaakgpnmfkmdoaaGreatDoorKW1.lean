/- Walks and plain laws of the kernel. No condition. -/
import Derived.Test.YtaakgpnmfkmdoaaGreatDoorKLM
namespace Go.Proofs.YtaakgpnmfkmdoaaGreatDoor
set_option linter.unusedVariables false
set_option linter.unusedSimpArgs false
set_option maxRecDepth 100000
set_option maxHeartbeats 20000000
open Go.RowKit
open Go.Proofs.Tryz renaming prog → tp
open List renaming setIfInBounds_toArray → sA, set_cons_zero → sB, set_cons_succ → sC
open Go renaming World → wW
open Go.Value renaming pointer → vp, bool → vb, int → vi
open Go.IntKind renaming i64 → iQ, u64 → uQ
open Option renaming none → nN, some → sS
open Bool renaming true → tQ, false → fF
open Int renaming eq_ofNat_of_zero_le → iN
theorem KernelCounts_walk (w:wW) (hT:bK w) (n:Int) (_hn:(Lit.int .i64 n).wf=tQ) (a:Option Addr) (len cap:Nat) (A:Nat -> jY) (hA:qD 5 jY.vals jY.ok w a len cap A):
  Calls tp 5 #[vi iQ n,.slice a len cap] w (bG (vb tQ) [] w λ_=>True):=by
 have hlc:=hA.1
 have hcm:=hA.2.1
 unfold maxLen at hcm
 by_cases hT0:1 <= n /\ n <= 64
 case neg=>
  have hN:=fU n hT0 w
  have h1:n<1 \/ (¬ n<1 /\ 64<n):=by omega
  clear hA hT0
  rcases h1 with h1|⟨h1,h2⟩
  all_goals
   go_in
   go_wp2_with (first
    | (go_at_call 8;refine hN.s λw1 m1=>?_)
    | (go_at_call 9;refine (cT _ (hT.keep m1 sM)).s λw2 m2=>?_))
   go_ret
   exact bG.of rfl (m1.trans m2 sM) trivial
 obtain ⟨hn1,hn2⟩:=hT0
 obtain ⟨t,rfl⟩:=iN (show 0 <= n by omega)
 have hN:=(On.start w).make (jk t oM oM w)
 have hK0:=zh (zs (n:=t) oM oM)
 clear _hn
 go_in
 go_wp2_with (
  go_at_call 8
  refine hN.mono ?_
  rintro e w1 ⟨d,rfl,h1⟩
  have H1:=zh (show On [] w [aa d (k0 t)] w1 from h1)
  clear h1 hN)
 have hC0:Hid (kP (k0 t).ct 0):=zh ⟨λi=>by show (0:Int) <= ax (List.replicate t 0) i;unfold ax;rw [List.getD_eq_getElem?_getD,List.getElem?_replicate];split<;>simp,by show (List.replicate t (0:Int)).sum=((0:Nat):Int);simp⟩
 go_loopg [7,8] len (λgg mv i wr=>∃ (j m:Nat) (k:KT),mv=vi iQ m /\ i=vi iQ j /\ j+gg=len /\ m <= j /\ j <= 300 /\ On [] w [aa d k] wr /\ de k /\ Hid (kP k.ct m))
 case atStart=>exact ⟨0,0,k0 t,rfl,rfl,by omega,by omega,by omega,H1.out,hK0.out,hC0⟩
 case round=>
  clear H1 hK0 hC0
  obtain ⟨j,m,k,rfl,rfl,hj,hmj,hj0,h0,hI,hC⟩:=hrel
  by_cases hkl:j<len /\ j<300
  ·obtain ⟨hkl,hk2⟩:=hkl
   obtain ⟨ba,off,rfl,hok,hba,hc⟩:=jQ hA h0.mod hkl
   have c0:=hc 0 oM
   have c1:=hc 1 oM
   have c2:=hc 2 oM
   have c3:=hc 3 oM
   have c4:=hc 4 oM
   clear hc
   have HA:=zh hA
   clear hA
   generalize A j=ak at *
   obtain ⟨kind,cpu,id,mask,nn⟩:=ak
   simp only [jY.vals,List.getElem?_cons_zero,List.getElem?_cons_succ,Nat.add_zero] at c0 c1 c2 c3 c4
   obtain ⟨o1,o2,o3,o4,o5⟩:=hok
   have hmb:=Ed o4
   simp only at hmb
   clear o1 o2 o3 o4 o5
   obtain ⟨mk,rfl⟩:=iN hmb.1
   have hmk:mk<2 ^ 64:=by omega
   have hdo:=zk hT h0 hI ⟨kind,cpu,id,mk,nn⟩ hmk
   unfold DQ at hdo
   simp only at hdo
   generalize k.doL ⟨kind,cpu,id,mk,nn⟩=L at hdo
   generalize k.doK ⟨kind,cpu,id,mk,nn⟩=k2 at hdo
   have hj3:decide ((j:Int)<300)=tQ:=decide_eq_true oM
   have hj4:(j:Int)<300:=by omega
   have hj5:(j:Int)<(len:Int):=by omega
   clear hmb hmk
   have hokk:k.ok:=(ab (h0.get 0 rfl).choose_spec).1
   go_wp2_with (
    go_at_call 11
    refine hdo.mono ?_
    rintro e v ⟨av,cv,rfl,hB,hI2,hR⟩
    have HB:=zh (And.intro hB hI2)
    have hcase:=BW hokk hC.out oM hR
    clear hdo hB hI2 hR hC)
   rcases hcase with ⟨rfl,hC2⟩|⟨r,rfl,hC2⟩
   ·simp only [List.length_nil]
    have HC2:=zh hC2
    clear hC2
    go_loopg [7,10] 1 (λgg2 mv2 jv wr2=>mv2=vi iQ m /\ jv=vi iQ 0 /\ wr2=v)
    case atStart=>exact ⟨rfl,rfl,rfl⟩
    case round=>
     obtain ⟨rfl,rfl,rfl⟩:=hrel
     go_wp2
     go_roundg (len - j - 1)
     case measure=>omega
     case rel=>exact ⟨j+1,m,k2,rfl,by go_num,by omega,by omega,by omega,HB.out.1.take (l:=[_]) (m:=[_]),HB.out.2,HC2⟩
   ·simp only [List.length_cons,List.length_nil,Nat.zero_add]
    obtain ⟨F2,hx2⟩:=HB.out.1.get 1 rfl
    obtain ⟨g,rfl,x0,x1,x2,x3,x4⟩:=lh hx2
    have hth:∀ w,Calls tp 12 #[.agg #[vi iQ r.kind,vi iQ r.cpu,vi iQ r.id,vi iQ r.n,vi iQ r.why]] w (aK (vb (nX r)) w):=λw=>ya r w
    obtain ⟨kd,rc,ri,rn,ry⟩:=r
    simp only at x0 x1 x2 x3 x4 hth
    generalize nX ⟨kd,rc,ri,rn,ry⟩=tb at *
    obtain ⟨tn,htn⟩:∃ tn,(if tb=tQ then 1 else 0)=tn:=⟨_,rfl⟩
    rw [htn] at hC2
    have HTN:=zh htn
    have HC2:=zh hC2
    have htn1:tn <= 1:=by rw [<- htn];split<;>omega
    clear hC2 hx2 htn c0 c1 c2 c3 c4
    go_loopg [7,10] 1 (λgg2 mv2 jv wr2=>∃ (jj mm:Nat),jv=vi iQ jj /\ mv2=vi iQ mm /\ jj+gg2=1 /\ (mm=if jj=0 then m else m+tn) /\ af [] v wr2)
    case atStart=>exact ⟨0,m,rfl,rfl,rfl,rfl,af.refl _ _⟩
    case round=>
     obtain ⟨jj,mm,rfl,rfl,hjj,hmm,mv⟩:=hrel
     by_cases hz:jj=0
     ·subst hz
      rw [pG rfl] at hmm
      subst hmm
      have y0:=mv.at x0 sM
      have y1:=mv.at x1 sM
      have y2:=mv.at x2 sM
      have y3:=mv.at x3 sM
      have y4:=mv.at x4 sM
      clear x0 x1 x2 x3 x4
      have htb:tn=if tb=tQ then 1 else 0:=HTN.out.symm
      cases tb
      ·have htn0:tn=0:=htb
       clear htb
       go_wp2_with (go_at_call 12;refine (hth _).s λw5 m5=>?_)
       go_roundg 0
       case measure=>omega
       case rel=>exact ⟨1,mm,rfl,rfl,rfl,by rw [nG oM];omega,mv.trans m5 sM⟩
      ·have htn0:tn=1:=htb
       clear htb
       have hmb:(mm:Int)+1<1000:=by omega
       go_wp2_with (go_at_call 12;refine (hth _).s λw5 m5=>?_)
       go_roundg 0
       case measure=>omega
       case rel=>exact ⟨1,mm+1,rfl,by go_num,rfl,by rw [nG oM];omega,mv.trans m5 sM⟩
     ·have hz1:jj=1:=by omega
      subst hz1
      rw [nG oM] at hmm
      subst hmm
      go_wp2
      go_roundg (len - j - 1)
      case measure=>omega
      case rel=>exact ⟨j+1,m+tn,k2,rfl,by go_num,by omega,by omega,by omega,(HB.out.1.take (l:=[_]) (m:=[_])).keep mv,HB.out.2,HC2⟩
  ·have hne:¬ ((j:Int)<(len:Int)) \/ ((j:Int)<(len:Int) /\ ¬ ((j:Int)<300)):=by omega
   obtain ⟨Fk,hk⟩:=h0.get 0 rfl
   obtain ⟨hokk,p,hK⟩:=ab hk
   have hCo:=rL hK
   have hSu:∀ v,af [] wr v -> Calls tp 21 #[vp (sS ⟨p.ct,0,nN⟩)] v (ay (.tuple #[vi iQ m,vi iQ 0]) v):=λv mv=>by
    have:=CH ((hK.keep mv).get 10 rfl).choose_spec
    rw [(hC.out.sum oM).1,(hC.out.sum oM).2] at this
    exact this
   have hKn:∀ v,af [] wr v -> Calls tp 9 #[] v (aK (vb tQ) v):=λv mv=>cT v (hT.keep (h0.mod.trans mv sM) sM)
   have HM:=zh h0.mod
   clear hkl hA hK hk hC hI h0
   rcases hne with h4|⟨h3,h4⟩
   all_goals
    go_wp2_with (first
     | (
      go_at_call 20
      refine hCo.s λv1 m1=>?_)
     | (
      go_at_call 21
      refine (hSu _ m1).r λj2=>?_)
     | (
      go_at_call 9
      refine (hKn _ (m1.drewN j2)).s λv3 m3=>?_))
    go_ret
    exact bG.of rfl ((HM.out.trans (m1.drewN j2) sM).trans m3 sM) trivial
end Go.Proofs.YtaakgpnmfkmdoaaGreatDoor