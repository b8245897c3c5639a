/- Walks and plain laws of the kernel. No condition. -/
import Derived.Test.YtaakgpnmfkmdoaaGreatDoorKLM
namespace Go.Proofs.YtaakgpnmfkmdoaaGreatDoor
set_option linter.unusedVariables false
set_option linter.unusedSimpArgs false
set_option maxRecDepth 100000
set_option maxHeartbeats 20000000
open Go.RowKit
open Go.Proofs.Tryz renaming prog → tp
open List renaming setIfInBounds_toArray → sA, set_cons_zero → sB, set_cons_succ → sC
open Go renaming World → wW
open Go.Value renaming pointer → vp, bool → vb, int → vi
open Go.IntKind renaming i64 → iQ, u64 → uQ
open Option renaming none → nN, some → sS
open Bool renaming true → tQ, false → fF
open Int renaming eq_ofNat_of_zero_le → iN
theorem KernelHot_walk (w:wW) (hT:bK w) (n:Int) (_hn:(Lit.int .i64 n).wf=tQ) (a:Option Addr) (len cap:Nat) (A:Nat -> jY) (hA:qD 5 jY.vals jY.ok w a len cap A):
  Calls tp 4 #[vi iQ n,.slice a len cap] w (bG (vb tQ) [] w λ_=>True):=by
 have hlc:=hA.1
 have hcm:=hA.2.1
 unfold maxLen at hcm
 by_cases hT0:1 <= n /\ n <= 64
 case neg=>
  have hN:=fU n hT0 w
  have h1:n<1 \/ (¬ n<1 /\ 64<n):=by omega
  clear hA hT0
  rcases h1 with h1|⟨h1,h2⟩
  all_goals
   go_in
   go_wp2_with (first
    | (go_at_call 8;refine hN.s λw1 m1=>?_)
    | (go_at_call 9;refine (cT _ (hT.keep m1 sM)).s λw2 m2=>?_))
   go_ret
   exact bG.of rfl (m1.trans m2 sM) trivial
 obtain ⟨hn1,hn2⟩:=hT0
 obtain ⟨t,rfl⟩:=iN (show 0 <= n by omega)
 have hN:=(On.start w).make (jk t oM oM w)
 have hK0:=zh (zs (n:=t) oM oM)
 clear _hn
 go_in
 go_wp2_with (
  go_at_call 8
  refine hN.mono ?_
  rintro e w1 ⟨d,rfl,h1⟩
  have H1:=zh (show On [] w [aa d (k0 t)] w1 from h1)
  clear h1 hN)
 go_loopg [7,8] len (λgg ov i wr=>∃ (j:Nat) (k:KT),ov=vb k.busy /\ i=vi iQ j /\ j+gg=len /\ j <= 300 /\ On [] w [aa d k] wr /\ de k)
 case atStart=>exact ⟨0,k0 t,rfl,rfl,by omega,by omega,H1.out,hK0.out⟩
 case round=>
  clear H1 hK0
  obtain ⟨j,k,rfl,rfl,hj,hj0,h0,hI⟩:=hrel
  by_cases hkl:j<len /\ j<300
  ·obtain ⟨hkl,hk2⟩:=hkl
   obtain ⟨ba,off,rfl,hok,hba,hc⟩:=jQ hA mR hkl
   have d0:=hc 0 oM
   have d1:=hc 1 oM
   have d2:=hc 2 oM
   have d3:=hc 3 oM
   have d4:=hc 4 oM
   clear hc
   have HA:=zh hA
   clear hA
   generalize A j=ak at *
   obtain ⟨kind,cpu,id,mask,nn⟩:=ak
   simp only [jY.vals,List.getElem?_cons_zero,List.getElem?_cons_succ,Nat.add_zero] at d0 d1 d2 d3 d4
   have c0:=h0.mod.at d0 sM
   have c1:=h0.mod.at d1 sM
   have c2:=h0.mod.at d2 sM
   have c3:=h0.mod.at d3 sM
   have c4:=h0.mod.at d4 sM
   obtain ⟨o1,o2,o3,o4,o5⟩:=hok
   have hmb:=Ed o4
   simp only at hmb
   clear o1 o2 o3 o4 o5
   obtain ⟨mk,rfl⟩:=iN hmb.1
   have hmk:mk<2 ^ 64:=by omega
   have hdo:=λv (mv:af [] wr v)=>zk hT (h0.keep mv) hI ⟨kind,cpu,id,mk,nn⟩ hmk
   unfold DQ at hdo
   simp only at hdo
   have hRR:=(zC (ab (h0.get 0 rfl).choose_spec).1 hI ⟨kind,cpu,id,mk,nn⟩).2
   generalize k.doL ⟨kind,cpu,id,mk,nn⟩=L at hdo hRR
   generalize k.doK ⟨kind,cpu,id,mk,nn⟩=k2 at hdo hRR
   have hj3:decide ((j:Int)<300)=tQ:=decide_eq_true oM
   have hj4:(j:Int)<300:=by omega
   have hj5:(j:Int)<(len:Int):=by omega
   clear hmb hmk
   have hokk:k.ok:=(ab (h0.get 0 rfl).choose_spec).1
   have hon1:=hokk.on
   have hOn:=cm (h0.get 0 rfl).choose_spec
   have hdo':∀ v,af [] wr v -> Calls tp 11 #[vp (sS ⟨d,0,nN⟩),.agg #[vi iQ kind,vi iQ cpu,vi iQ id,vi uQ ((mk:Nat):Int),vi iQ nn]] v (λe' u'=>∃ a c,e'=.returned (.slice a L.length c) /\ On [] w [aa d k2,nM a L] u' /\ de k2 /\ sU k ⟨kind,cpu,id,mk,nn⟩ L k2):=λv mv=>hdo v mv
   have HDO:=zh hdo'
   clear hdo hdo'
   generalize hbz:k.busy=bz at *
   have HBZ:=zh hbz
   clear hbz
   have hstep:=JK hRR
   clear hRR
   rw [HBZ.out] at hstep
   simp only at hstep
   rcases hstep with ⟨rfl,rfl,hon,hob⟩|⟨r,rfl,hr7,hon,hbb⟩|⟨r,rfl,hr7,rfl,rfl,hob,hon⟩
   ·go_wp2_with (first
     | (
      go_at_call 15
      refine hOn.s λv0 m0=>?_
      have c0:=m0.at c0 sM
      have c1:=m0.at c1 sM
      have c2:=m0.at c2 sM
      have c3:=m0.at c3 sM
      have c4:=m0.at c4 sM
      have hDo:=HDO.out _ m0
      clear hOn)
     | (
      go_at_call 11
      refine hDo.mono ?_
      rintro e v ⟨av,cv,rfl,hB,hI2,hR⟩
      have HB:=zh (And.intro hB hI2)
      have mB:=hB.mod
      have c0:=mB.at d0 sM
      clear hDo hB hI2 hR c1 c2 c3 c4 mB))
    clear c0 d0 d1 d2 d3 d4
    have HON:=zh (And.intro hon hob)
    clear hon hob
    go_loopg [7,11,12] 1 (λgg2 ov wv jv wr2=>ov=vb bz /\ wv=vi uQ (k.online:Nat) /\ jv=vi iQ 0 /\ wr2=v)
    case atStart=>exact ⟨rfl,rfl,rfl,rfl⟩
    case round=>
     obtain ⟨rfl,rfl,rfl,hw2⟩:=hrel
     subst hw2
     have hB2:=HB.out.1
     obtain ⟨hon,hob⟩:=HON.out
     obtain ⟨Fk,hkk⟩:=hB2.get 0 rfl
     have hO2:=cm hkk
     rw [hon] at hO2
     obtain ⟨hok2,p2,hK2⟩:=ab hkk
     have hDk:∀ W,af [] wr W -> Calls tp 18 #[vp (sS ⟨d,0,nN⟩)] W (aK (vp (sS ⟨p2.dk,0,nN⟩)) W):=λW mW=>jm (hK2.keep mW)
     have hBy:∀ W,af [] wr W -> Calls tp 19 #[vp (sS ⟨p2.dk,0,nN⟩)] W (ay (vb bz) W):=λW mW=>by
      have:=cE ((hK2.keep mW).get 15 rfl).choose_spec
      rwa [show k2.dk.run.isSome=bz from hob] at this
     have HK2:=zh (And.intro hB2 (And.intro hon hob))
     clear hK2 hkk hB2 hon hob hok2
     go_wp2_with (first
      | (go_at_call 15;refine hO2.s λy1 n1=>?_;clear hO2)
      | (go_at_call 18;refine (hDk _ n1).s λy2 n2=>?_;clear hDk)
      | (go_at_call 19;refine (hBy _ (n1.trans n2 sM)).r λj3=>?_;clear hBy))
     go_roundg (len - j - 1)
     case measure=>omega
     case rel=>exact ⟨j+1,k2,(by first|rfl|rw [HON.out.2]),by go_num,by omega,by omega,(HK2.out.1.take (l:=[_]) (m:=[_])).keep ((n1.trans n2 sM).drewN j3),HB.out.2⟩
   ·obtain ⟨ob,hob,hcs⟩:∃ ob,k2.busy=ob /\ ((kind=23 /\ r.why=0 /\ bz=fF /\ ob=tQ) \/ (kind=24 /\ r.why=0 /\ bz=fF /\ ob=tQ) \/ (kind=23 /\ r.why≠0 /\ ob=bz) \/ (kind=24 /\ r.why≠0 /\ ob=bz) \/ (kind≠23 /\ kind≠24 /\ ob=bz)):=by
     refine ⟨_,rfl,?_⟩
     rcases hbb with ⟨h1,h2,h3,h4⟩|⟨h1,h2⟩
     ·rcases h1 with h1|h1
      ·exact .inl ⟨h1,h2,h3,h4⟩
      ·exact .inr (.inl ⟨h1,h2,h3,h4⟩)
     ·by_cases q1:kind=23
      ·exact .inr (.inr (.inl ⟨q1,λx=>h1 ⟨.inl q1,x⟩,h2⟩))
      ·by_cases q2:kind=24
       ·exact .inr (.inr (.inr (.inl ⟨q2,λx=>h1 ⟨.inr q2,x⟩,h2⟩)))
       ·exact .inr (.inr (.inr (.inr ⟨q1,q2,h2⟩)))
    obtain ⟨kd,rc,ri,rn,ry⟩:=r
    simp only at hr7 hcs
    have h7:(kd != 7)=tQ:=by simpa using hr7
    have HON:=zh (And.intro hon hob)
    clear hbb hon hob hr7
    rcases hcs with ⟨rfl,rfl,rfl,rfl⟩|⟨rfl,rfl,rfl,rfl⟩|⟨rfl,hy,rfl⟩|⟨rfl,hy,rfl⟩|⟨hq1,hq2,rfl⟩
    all_goals
     (try (have hy2:(ry==0)=fF:=by simpa using hy))
     (try (have hq3:(kind==23)=fF:=by simpa using hq1))
     (try (have hq4:(kind==24)=fF:=by simpa using hq2))
     go_wp2_with (first
      | (
       go_at_call 15
       refine hOn.s λv0 m0=>?_
       have c0:=m0.at c0 sM
       have c1:=m0.at c1 sM
       have c2:=m0.at c2 sM
       have c3:=m0.at c3 sM
       have c4:=m0.at c4 sM
       have hDo:=HDO.out _ m0
       clear hOn)
      | (
       go_at_call 11
       refine hDo.mono ?_
       rintro e v ⟨av,cv,rfl,hB,hI2,hR⟩
       obtain ⟨F2,hx2⟩:=hB.get 1 rfl
       obtain ⟨g,rfl,x0,x1,x2,x3,x4⟩:=lh hx2
       simp only at x0 x1 x4
       have HB:=zh (And.intro hB hI2)
       have mB:=hB.mod
       have c0:=mB.at d0 sM
       clear hDo hB hI2 hR c1 c2 c3 c4 mB x2 x3 hx2))
     (try simp only [List.length_cons,List.length_nil,Nat.zero_add])
     clear c0 d0 d1 d2 d3 d4
     go_loopg [7,11,12] 1 (λgg2 ov wv jv wr2=>∃ jj:Nat,ov=vb k2.busy /\ wv=vi uQ (k.online:Nat) /\ jv=vi iQ jj /\ jj+gg2=1 /\ af [] v wr2)
     case atStart=>exact ⟨0,by rw [HON.out.2],rfl,rfl,rfl,af.refl _ _⟩
     case round=>
      obtain ⟨jj,rfl,rfl,rfl,hjj,mv⟩:=hrel
      by_cases hz:jj=0
      ·subst hz
       have y0:=mv.at x0 sM
       clear x0 x1 x4
       go_wp2
       go_roundg 0
       case measure=>omega
       case rel=>exact ⟨1,rfl,rfl,rfl,rfl,mv⟩
      ·have hz1:jj=1:=by omega
       subst hz1
       have hB2:=HB.out.1.keep mv
       obtain ⟨hon,hob0⟩:=HON.out
       have hob:k2.busy=k2.busy:=rfl
       obtain ⟨Fk,hkk⟩:=hB2.get 0 rfl
       have hO2:=cm hkk
       rw [hon] at hO2
       obtain ⟨hok2,p2,hK2⟩:=ab hkk
       have hDk:∀ W,af [] wr W -> Calls tp 18 #[vp (sS ⟨d,0,nN⟩)] W (aK (vp (sS ⟨p2.dk,0,nN⟩)) W):=λW mW=>jm (hK2.keep mW)
       have hBy:∀ W,af [] wr W -> Calls tp 19 #[vp (sS ⟨p2.dk,0,nN⟩)] W (ay (vb k2.busy) W):=λW mW=>by
        have:=cE ((hK2.keep mW).get 15 rfl).choose_spec
        rwa [show k2.dk.run.isSome=k2.busy from hob] at this
       have HK2:=zh (And.intro hB2 (And.intro hon hob))
       clear hK2 hkk hB2 hon hob hok2
       go_wp2_with (first
        | (go_at_call 15;refine hO2.s λy1 n1=>?_;clear hO2)
        | (go_at_call 18;refine (hDk _ n1).s λy2 n2=>?_;clear hDk)
        | (go_at_call 19;refine (hBy _ (n1.trans n2 sM)).r λj3=>?_;clear hBy))
       go_roundg (len - j - 1)
       case measure=>omega
       case rel=>exact ⟨j+1,k2,(by first|rfl|rw [HON.out.2]),by go_num,by omega,by omega,(HK2.out.1.take (l:=[_]) (m:=[_])).keep ((n1.trans n2 sM).drewN j3),HB.out.2⟩
   ·obtain ⟨kd,rc,ri,rn,ry⟩:=r
    simp only at hr7 hon
    subst hr7
    obtain ⟨wv2,hwv,hcs⟩:∃ wv2:Nat,k2.online=wv2 /\ ((ry≠0 /\ wv2=k.online) \/ (ry=0 /\ aw k.online rc=tQ /\ wv2=aE k.online rc) \/ (ry=0 /\ aw k.online rc=fF /\ wv2=aP k.online rc)):=by
     refine ⟨_,rfl,?_⟩
     rw [hon]
     by_cases q:ry=0
     ·rw [pG q]
      cases hh:aw k.online rc
      ·exact .inr (.inr ⟨q,rfl,rfl⟩)
      ·exact .inr (.inl ⟨q,rfl,rfl⟩)
     ·rw [nG q]
      exact .inl ⟨q,rfl⟩
    have HON:=zh (And.intro hwv hob)
    have hHa:=λW=>bA k.online hon1 rc W
    have hLe:=λW=>iW k.online hon1 rc W
    have hWi:=λW g h=>zS k.online hon1 rc W g h
    clear hon hwv hob
    rcases hcs with ⟨hy,hw3⟩|⟨rfl,hh,hw3⟩|⟨rfl,hh,hw3⟩
    all_goals
     (try (have hy2:(ry==0)=fF:=by simpa using hy))
     (try rw [hh] at hHa)
     (try clear hh)
     have HW3:=zh hw3
     clear hw3
     go_wp2_with (first
      | (
       go_at_call 15
       refine hOn.s λv0 m0=>?_
       have c0:=m0.at c0 sM
       have c1:=m0.at c1 sM
       have c2:=m0.at c2 sM
       have c3:=m0.at c3 sM
       have c4:=m0.at c4 sM
       have hDo:=HDO.out _ m0
       clear hOn)
      | (
       go_at_call 11
       refine hDo.mono ?_
       rintro e v ⟨av,cv,rfl,hB,hI2,hR⟩
       obtain ⟨F2,hx2⟩:=hB.get 1 rfl
       obtain ⟨g,rfl,x0,x1,x2,x3,x4⟩:=lh hx2
       simp only at x0 x1 x4
       have HB:=zh (And.intro hB hI2)
       have mB:=hB.mod
       have c0:=mB.at d0 sM
       clear hDo hB hI2 hR c1 c2 c3 c4 mB x2 x3 hx2))
     (try simp only [List.length_cons,List.length_nil,Nat.zero_add])
     clear c0 d0 d1 d2 d3 d4
     go_loopg [7,11,12] 1 (λgg2 ov wv jv wr2=>∃ jj:Nat,jv=vi iQ jj /\ jj+gg2=1 /\ af [] v wr2 /\ ((jj=0 /\ ov=vb tQ /\ wv=vi uQ (k.online:Nat)) \/ (jj=1 /\ ov=vb fF /\ wv=vi uQ (wv2:Nat))))
     case atStart=>exact ⟨0,rfl,rfl,af.refl _ _,.inl ⟨rfl,rfl,rfl⟩⟩
     case round=>
      obtain ⟨jj,rfl,hjj,mv,hor⟩:=hrel
      rcases hor with ⟨rfl,rfl,rfl⟩|⟨rfl,rfl,rfl⟩
      ·have y0:=mv.at x0 sM
       have y1:=mv.at x1 sM
       have y4:=mv.at x4 sM
       clear x0 x1 x4
       go_wp2_with (first
        | (go_at_call 13;refine (hHa _).r λjh=>?_)
        | (go_at_call 16;refine (hLe _).r λjl=>?_)
        | (go_at_call 17;refine (hWi _ _ (by first|(refine aY ?_;simp;done)|(refine au _ (aY ?_);simp;done))).r λjw=>?_))
       go_roundg 0
       case measure=>omega
       case rel=>exact ⟨1,rfl,rfl,(by repeat (first|exact mv|with_reducible apply af.alloc|with_reducible apply af.drewN)),.inr ⟨rfl,rfl,(by first|rfl|rw [HW3.out])⟩⟩
      ·have hB2:=HB.out.1.keep mv
       obtain ⟨hon,hob⟩:=HON.out
       obtain ⟨Fk,hkk⟩:=hB2.get 0 rfl
       have hO2:=cm hkk
       rw [hon] at hO2
       obtain ⟨hok2,p2,hK2⟩:=ab hkk
       have hDk:∀ W,af [] wr W -> Calls tp 18 #[vp (sS ⟨d,0,nN⟩)] W (aK (vp (sS ⟨p2.dk,0,nN⟩)) W):=λW mW=>jm (hK2.keep mW)
       have hBy:∀ W,af [] wr W -> Calls tp 19 #[vp (sS ⟨p2.dk,0,nN⟩)] W (ay (vb fF) W):=λW mW=>by
        have:=cE ((hK2.keep mW).get 15 rfl).choose_spec
        rwa [show k2.dk.run.isSome=fF from hob] at this
       have HK2:=zh (And.intro hB2 (And.intro hon hob))
       clear hK2 hkk hB2 hon hob hok2
       go_wp2_with (first
        | (go_at_call 15;refine hO2.s λy1 n1=>?_;clear hO2)
        | (go_at_call 18;refine (hDk _ n1).s λy2 n2=>?_;clear hDk)
        | (go_at_call 19;refine (hBy _ (n1.trans n2 sM)).r λj3=>?_;clear hBy))
       go_roundg (len - j - 1)
       case measure=>omega
       case rel=>exact ⟨j+1,k2,(by first|rfl|rw [HON.out.2]),by go_num,by omega,by omega,(HK2.out.1.take (l:=[_]) (m:=[_])).keep ((n1.trans n2 sM).drewN j3),HB.out.2⟩
  ·have hne:¬ ((j:Int)<(len:Int)) \/ ((j:Int)<(len:Int) /\ ¬ ((j:Int)<300)):=by omega
   have hKn:∀ v,af [] wr v -> Calls tp 9 #[] v (aK (vb tQ) v):=λv mv=>cT v (hT.keep (h0.mod.trans mv sM) sM)
   have HM:=zh h0.mod
   clear hkl hA hI h0
   rcases hne with h4|⟨h3,h4⟩
   all_goals
    go_wp2_with (
     go_at_call 9
     refine (hKn _ mR).s λv3 m3=>?_)
    go_ret
    exact bG.of rfl (HM.out.trans m3 sM) trivial
end Go.Proofs.YtaakgpnmfkmdoaaGreatDoor