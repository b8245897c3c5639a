/- Walks and plain laws of the kernel. No condition. -/
import Derived.Test.YtaakgpnmfkmdoaaGreatDoorKGoM
namespace Go.Proofs.YtaakgpnmfkmdoaaGreatDoor
set_option linter.unusedVariables false
set_option linter.unusedSimpArgs false
set_option maxRecDepth 100000
set_option maxHeartbeats 20000000
open Go.RowKit
open Go.Proofs.Tryz renaming prog → tp
open List renaming setIfInBounds_toArray → sA, set_cons_zero → sB, set_cons_succ → sC
open Go renaming World → wW
open Go.Value renaming pointer → vp, bool → vb, int → vi
open Go.IntKind renaming i64 → iQ, u64 → uQ
open Option renaming none → nN, some → sS
open Bool renaming true → tQ, false → fF
open Int renaming eq_ofNat_of_zero_le → iN
theorem Ns {k:KT} (h:de k) (e:oH):(k.doK e).n=k.n:=by
 by_cases h1:e.kind=1
 ·rw [(qn k e h1).1]
  split
  ·rfl
  ·have s:=nY k e.cpu
   have h0:de (k.step0 e.cpu):=h.of s.1 s.2.1 s.2.2.1 s.2.2.2.1 (s.2.2.2.2.2 h.way)
   unfold KT.step
   split
   ·exact s.1
   split
   ·exact s.1
   split
   ·exact s.1
   split
   ·have t:=(nT h0 e.cpu).n
    unfold KT.turn
    split<;>exact t.trans s.1
   split
   ·exact s.1
   ·exact (nW _ _ _).1.trans s.1
 by_cases h23:e.kind=23 \/ e.kind=24
 ·rw [(zD k e h23).2]
  unfold KT.req
  split<;>rfl
 by_cases h25:e.kind=25
 ·rw [vT k e h25]
  unfold KT.plan
  split<;>rfl
 by_cases h2:e.kind=2
 ·rw [qm k e h2]
  exact (qI k e.n).1
 exact (oa k e h1 h2 (λx=>h23 (.inl x)) (λx=>h23 (.inr x)) h25).n
theorem KernelGone_walk (w:wW) (hT:bK w) (n:Int) (_hn:(Lit.int .i64 n).wf=tQ) (a:Option Addr) (len cap:Nat) (A:Nat -> jY) (hA:qD 5 jY.vals jY.ok w a len cap A):
  Calls tp 6 #[vi iQ n,.slice a len cap] w (bG (vb tQ) [] w λ_=>True):=by
 have hlc:=hA.1
 have hcm:=hA.2.1
 unfold maxLen at hcm
 by_cases hT0:1 <= n /\ n <= 64
 case neg=>
  have hN:=fU n hT0 w
  have h1:n<1 \/ (¬ n<1 /\ 64<n):=by omega
  clear hA hT0
  rcases h1 with h1|⟨h1,h2⟩
  all_goals
   go_in
   go_wp2_with (first
    | (go_at_call 8;refine hN.s λw1 m1=>?_)
    | (go_at_call 9;refine (cT _ (hT.keep m1 sM)).s λw2 m2=>?_))
   go_ret
   exact bG.of rfl (m1.trans m2 sM) trivial
 obtain ⟨hn1,hn2⟩:=hT0
 obtain ⟨t,rfl⟩:=iN (show 0 <= n by omega)
 have hN:=(On.start w).make (jk t oM oM w)
 have hK0:=zh (zs (n:=t) oM oM)
 clear _hn
 go_in
 go_wp2_with (
  go_at_call 8
  refine hN.mono ?_
  rintro e w1 ⟨d,rfl,h1⟩
  have H1:=zh (show On [] w [aa d (k0 t)] w1 from h1)
  clear h1 hN)
 have hG0:Hid (lY (k0 t) 0):=zh (Nq t oM)
 have ht64:t <= 64:=by omega
 go_loopg [7,8] len (λgg gv i wr=>∃ (j g:Nat) (k:KT),gv=vi uQ (g:Nat) /\ i=vi iQ j /\ j+gg=len /\ j <= 300 /\ On [] w [aa d k] wr /\ de k /\ Hid (lY k g) /\ Hid (k.n=t) /\ g<18446744073709551616)
 case atStart=>exact ⟨0,0,k0 t,rfl,rfl,by omega,by omega,H1.out,hK0.out,hG0,zh rfl,by omega⟩
 case round=>
  clear H1 hK0 hG0
  obtain ⟨j,g,k,rfl,rfl,hj,hj0,h0,hI,hG,hN,hg64⟩:=hrel
  by_cases hkl:j<len /\ j<300
  ·obtain ⟨hkl,hk2⟩:=hkl
   obtain ⟨ba,off,rfl,hok,hba,hc⟩:=jQ hA mR hkl
   have d0:=hc 0 oM
   have d1:=hc 1 oM
   have d2:=hc 2 oM
   have d3:=hc 3 oM
   have d4:=hc 4 oM
   clear hc
   have HA:=zh hA
   clear hA
   generalize A j=ak at *
   obtain ⟨kind,cpu,id,mask,nn⟩:=ak
   simp only [jY.vals,List.getElem?_cons_zero,List.getElem?_cons_succ,Nat.add_zero] at d0 d1 d2 d3 d4
   have c0:=h0.mod.at d0 sM
   have c1:=h0.mod.at d1 sM
   have c2:=h0.mod.at d2 sM
   have c3:=h0.mod.at d3 sM
   have c4:=h0.mod.at d4 sM
   obtain ⟨o1,o2,o3,o4,o5⟩:=hok
   have hmb:=Ed o4
   simp only at hmb
   clear o1 o2 o3 o4 o5
   obtain ⟨mk,rfl⟩:=iN hmb.1
   have hmk:mk<2 ^ 64:=by omega
   have hdo:=λv (mv:af [] wr v)=>zk hT (h0.keep mv) hI ⟨kind,cpu,id,mk,nn⟩ hmk
   unfold DQ at hdo
   simp only at hdo
   have hRR:=(zC (ab (h0.get 0 rfl).choose_spec).1 hI ⟨kind,cpu,id,mk,nn⟩).2
   have hq8:∀ c x,x∈k.rq.q c -> x.1<8:=λc x hx=>by
    obtain ⟨_,p9,hK9⟩:=ab (h0.get 0 rfl).choose_spec
    exact ((dn (hK9.get 3 rfl).choose_spec).1.fine c).1.lt x hx
   have hG2:=LK (e:=⟨kind,cpu,id,mk,nn⟩) (ab (h0.get 0 rfl).choose_spec).1 hI hG.out hq8
   have hn2:=Ns hI ⟨kind,cpu,id,mk,nn⟩
   generalize k.doL ⟨kind,cpu,id,mk,nn⟩=L at hdo hRR hG2
   generalize k.doK ⟨kind,cpu,id,mk,nn⟩=k2 at hdo hRR hG2 hn2
   have hj3:decide ((j:Int)<300)=tQ:=decide_eq_true oM
   have hj4:(j:Int)<300:=by omega
   have hj5:(j:Int)<(len:Int):=by omega
   clear hmb hmk
   rw [hN.out] at hn2
   have hL:L=[] \/ ∃ r,L=[r]:=by
    rcases hRR with ⟨rfl,_⟩|⟨id,why,rfl,_⟩|⟨why,rfl,_⟩|⟨kd,i,n,rfl,_⟩
    ·exact .inl rfl
    ·exact .inr ⟨_,rfl⟩
    ·exact .inr ⟨_,rfl⟩
    ·exact .inr ⟨_,rfl⟩
   have HN:=zh hn2
   clear hRR hn2 hN
   rcases hL with rfl|⟨r,rfl⟩
   ·have e1:kI g ⟨kind,cpu,id,mk,nn⟩ [] k2=g:=by unfold kI sI vK;simp
    rw [e1] at hG2
    have HG:=zh hG2
    clear hG2 e1
    have hor:kind=23 \/ (kind==23)=fF:=by
     by_cases q:kind=23
     ·exact .inl q
     ·exact .inr (by simpa using q)
    rcases hor with rfl|hq3
    all_goals
     go_wp2_with (
      go_at_call 11
      refine (hdo _ mR).mono ?_
      rintro e v ⟨av,cv,rfl,hB,hI2,hR⟩
      have HB:=zh (And.intro hB hI2)
      have mB:=hB.mod
      have c0:=mB.at d0 sM
      have c1:=mB.at d1 sM
      clear hdo hB hI2 hR c2 c3 c4 mB)
     (try simp only [List.length_nil])
     clear c0 c1 d0 d1 d2 d3 d4
     go_loopg [7,10] 1 (λgg2 gv jv wr2=>gv=vi uQ (g:Nat) /\ jv=vi iQ 0 /\ wr2=v)
     case atStart=>exact ⟨rfl,rfl,rfl⟩
     case round=>
      obtain ⟨rfl,rfl,hw2⟩:=hrel
      subst hw2
      go_wp2
      go_loopg [11] t (λgg3 cv wr3=>∃ c:Nat,cv=vi iQ c /\ c+gg3=t /\ af [] wr wr3)
      case atStart=>exact ⟨0,rfl,by omega,(by first|exact mR|exact mR.drewN _|assumption)⟩
      case round=>
       obtain ⟨c,rfl,hct,mc⟩:=hrel
       have hB3:=HB.out.1.keep mc
       by_cases hcl:c<t
       ·have hclI:(c:Int)<(t:Int):=by omega
        cases hb:aw g c
        ·go_wp2_with (go_at_call 24;refine (gz g c _).mono ?_;rw [hb];rintro e y1 ⟨rfl,jy,rfl⟩)
         go_roundg (t - c - 1)
         case measure=>omega
         case rel=>exact ⟨c+1,by go_num,by omega,mc.drewN jy⟩
        ·have hEm:=λjy=>yb ((aa d k2).keep (hB3.get 0 rfl).choose_spec ((af.refl [] _).drewN jy) sM) (c:=c) (by rw [HN.out];exact hcl) (HG.out.gone c hb).2.2
         go_wp2_with (first
          | (go_at_call 24;refine (gz g c _).mono ?_;rw [hb];rintro e y1 ⟨rfl,jy,rfl⟩)
          | (go_at_call 25;refine (hEm _).s λy2 n2=>?_))
         go_roundg (t - c - 1)
         case measure=>omega
         case rel=>exact ⟨c+1,by go_num,by omega,(mc.drewN jy).trans n2 sM⟩
       ·have hclI:¬ (c:Int)<(t:Int):=by omega
        go_wp2
        go_roundg (len - j - 1)
        case measure=>omega
        case rel=>exact ⟨j+1,g,k2,rfl,by go_num,by omega,by omega,hB3.take (l:=[_]) (m:=[_]),HB.out.2,HG,HN,by omega⟩
   ·obtain ⟨kd,rc,ri,rn,ry⟩:=r
    obtain ⟨g1,he1,hg1b,hcA⟩:∃ g1,sI g ⟨kind,cpu,id,mk,nn⟩ [⟨kd,rc,ri,rn,ry⟩]=g1 /\ g1<18446744073709551616 /\ ((kind=23 /\ ry=0 /\ aE g cpu=g1) \/ (kind=23 /\ (ry==0)=fF /\ g=g1) \/ ((kind==23)=fF /\ g=g1)):=by
     unfold sI
     by_cases q:kind=23
     ·by_cases q2:ry=0
      ·rw [pG ⟨q,rfl,q2⟩]
       exact ⟨_,rfl,uS oM _,.inl ⟨q,q2,rfl⟩⟩
      ·rw [nG (λx=>q2 x.2.2)]
       exact ⟨_,rfl,hg64,.inr (.inl ⟨q,by simpa using q2,rfl⟩)⟩
     ·rw [nG (λx=>q x.1)]
      exact ⟨_,rfl,hg64,.inr (.inr ⟨by simpa using q,rfl⟩)⟩
    obtain ⟨g2,he2,hg2b,hcB⟩:∃ g2,qi g1 ⟨kd,rc,ri,rn,ry⟩ k2=g2 /\ g2<18446744073709551616 /\ (((kd==7)=fF /\ g1=g2) \/ (kd=7 /\ (ry==0)=fF /\ g1=g2) \/ (kd=7 /\ ry=0 /\ aw k2.online rc=tQ /\ g1=g2) \/ (kd=7 /\ ry=0 /\ aw k2.online rc=fF /\ aP g1 rc=g2)):=by
     unfold qi
     by_cases q:kd=7
     ·by_cases q2:ry=0
      ·cases q3:aw k2.online rc
       ·rw [pG ⟨q,q2,rfl⟩]
        exact ⟨_,rfl,dT oM _,.inr (.inr (.inr ⟨q,q2,rfl,rfl⟩))⟩
       ·rw [nG (λx=>by cases x.2.2)]
        exact ⟨_,rfl,hg1b,.inr (.inr (.inl ⟨q,q2,rfl,rfl⟩))⟩
      ·rw [nG (λx=>q2 x.2.1)]
       exact ⟨_,rfl,hg1b,.inr (.inl ⟨q,by simpa using q2,rfl⟩)⟩
     ·rw [nG (λx=>q x.1)]
      exact ⟨_,rfl,hg1b,.inl ⟨by simpa using q,rfl⟩⟩
    have e1:kI g ⟨kind,cpu,id,mk,nn⟩ [⟨kd,rc,ri,rn,ry⟩] k2=g2:=by
     unfold kI vK
     rw [he1,List.foldl_cons,List.foldl_nil]
     exact he2
    rw [e1] at hG2
    have HG:=zh hG2
    have HcB:=zh hcB
    clear hG2 e1 he1 he2 hcB
    rcases hcA with ⟨rfl,rfl,h1⟩|⟨rfl,hy,h1⟩|⟨hq3,h1⟩
    all_goals
     have H1:=zh h1
     clear h1
     go_wp2_with (first
      | (
       go_at_call 11
       refine (hdo _ mR).mono ?_
       rintro e v ⟨av,cv,rfl,hB,hI2,hR⟩
       obtain ⟨F2,hx2⟩:=hB.get 1 rfl
       obtain ⟨gb,rfl,x0,x1,x2,x3,x4⟩:=lh hx2
       simp only at x0 x1 x4
       have HB:=zh (And.intro hB hI2)
       have mB:=hB.mod
       have c0:=mB.at d0 sM
       have c1:=mB.at d1 sM
       clear hdo hB hI2 hR c2 c3 c4 mB x2 x3 hx2)
      | (
       go_at_call 22
       refine (AB g cpu _ oM).r λjl=>?_))
     (try simp only [List.length_cons,List.length_nil,Nat.zero_add])
     clear c0 c1 d0 d1 d2 d3 d4
     go_loopg [7,10] 1 (λgg2 gv jv wr2=>∃ jj:Nat,jv=vi iQ jj /\ jj+gg2=1 /\ af [] v wr2 /\ ((jj=0 /\ gv=vi uQ (g1:Nat)) \/ (jj=1 /\ gv=vi uQ (g2:Nat))))
     case atStart=>exact ⟨0,rfl,rfl,(by first|exact mR|exact mR.drewN _),.inl ⟨rfl,by rw [<- H1.out]⟩⟩
     case round=>
      obtain ⟨jj,rfl,hjj,mv,hor⟩:=hrel
      rcases hor with ⟨rfl,rfl⟩|⟨rfl,rfl⟩
      ·have hm:∀ i,i<100 -> dP (λ(_:Array Bool) u=>af [] v u) i:=λi _ z u _ hc=>hc
       have hload:∀ (z:Array Bool) u,af [] v u -> u.cell? ⟨gb,0,nN⟩=sS (vi iQ kd) /\ u.cell? ⟨gb,1,nN⟩=sS (vi iQ rc) /\ u.cell? ⟨gb,4,nN⟩=sS (vi iQ _):=λz u hc=>⟨hc.at x0 sM,hc.at x1 sM,hc.at x4 sM⟩
       have hc1:∀ (z:Array Bool) u,af [] v u -> Calls tp 15 #[vp (sS ⟨d,0,nN⟩)] u (λe u'=>e=.returned (vi uQ (k2.online:Nat)) /\ af [] v u'):=λz u hc=>(cm ((HB.out.1.keep hc).get 0 rfl).choose_spec).mono (by rintro e u' ⟨rfl,mm⟩;exact ⟨rfl,hc.trans mm sM⟩)
       have hon2:k2.online<2 ^ 64:=(ab (HB.out.1.get 0 rfl).choose_spec).1.on
       have hc2:∀ (z:Array Bool) u,af [] v u -> Calls tp 13 #[vi uQ (k2.online:Nat),vi iQ rc] u (λe u'=>e=.returned (vb (aw k2.online rc)) /\ af [] v u'):=λz u hc=>(bA k2.online hon2 rc u).mono (by rintro e u' ⟨rfl,jq,rfl⟩;exact ⟨rfl,hc.drewN jq⟩)
       have y1:=x1
       clear x0 x1 x4 hon2
       go_wp2
       refine cw kz kz (λ_ u=>af [] v u) (λz hz=>mv.drew) ?_
       rcases HcB.out with ⟨h7,hgg⟩|⟨rfl,hy7,hgg⟩|⟨rfl,hy7,hha,hgg⟩|⟨rfl,hy7,hha,hgg⟩
       ·have HGG:=zh hgg
        clear hgg hc1 hc2
        iterate 25 (first|(refine aB (v:=?_) (by rfl) (λw=>?_) (hm _ dE) ?_;rotate_left;· (go_simp<;>with_reducible rfl))|(refine aC (v:=?_) (by rfl) (λs w hUp hC=>?_) (hm _ dE) ?_;rotate_left;· (have hl:=hload s w hC;go_split_ands;go_simp<;>with_reducible rfl))|(refine aA (by rfl) (hm _ dE) ?_));simp only [Act.put,sA,sB,sC,Nat.reduceAdd,Nat.zero_add]
        refine fY ?_
        intro z w5 hall hc
        go_wp2
        go_roundg 0
        case measure=>omega
        case rel=>exact ⟨1,rfl,rfl,hc,.inr ⟨rfl,by rw [<- HGG.out]⟩⟩
       ·first
        | (exfalso;simp at hy7;done)
        | (
         have HGG:=zh hgg
         clear hgg hc1 hc2
         iterate 25 (first|(refine aB (v:=?_) (by rfl) (λw=>?_) (hm _ dE) ?_;rotate_left;· (go_simp<;>with_reducible rfl))|(refine aC (v:=?_) (by rfl) (λs w hUp hC=>?_) (hm _ dE) ?_;rotate_left;· (have hl:=hload s w hC;go_split_ands;go_simp<;>with_reducible rfl))|(refine aA (by rfl) (hm _ dE) ?_));simp only [Act.put,sA,sB,sC,Nat.reduceAdd,Nat.zero_add]
         refine fY ?_
         intro z w5 hall hc
         go_wp2
         go_roundg 0
         case measure=>omega
         case rel=>exact ⟨1,rfl,rfl,hc,.inr ⟨rfl,by rw [<- HGG.out]⟩⟩)
       ·first
        | (exfalso;simp [hy7] at hy;done)
        | (
         have HGG:=zh hgg
         rw [hha] at hc2
         (try subst hy7)
         clear hgg hha
         iterate 16 (first|(refine aB (v:=?_) (by rfl) (λw=>?_) (hm _ dE) ?_;rotate_left;· (go_simp<;>with_reducible rfl))|(refine aC (v:=?_) (by rfl) (λs w hUp hC=>?_) (hm _ dE) ?_;rotate_left;· (have hl:=hload s w hC;go_split_ands;go_simp<;>with_reducible rfl))|(refine aA (by rfl) (hm _ dE) ?_));simp only [Act.put,sA,sB,sC,Nat.reduceAdd,Nat.zero_add]
         refine aO (by rfl) (λw=>?_) (λs u hs hUp hc=>hc1 s u hc) ?_
         ·go_simp
         simp only [Act.put,sA,sB,sC,Nat.reduceAdd,Nat.zero_add]
         iterate 5 (first|(refine aB (v:=?_) (by rfl) (λw=>?_) (hm _ dE) ?_;rotate_left;· (go_simp<;>with_reducible rfl))|(refine aC (v:=?_) (by rfl) (λs w hUp hC=>?_) (hm _ dE) ?_;rotate_left;· (have hl:=hload s w hC;go_split_ands;go_simp<;>with_reducible rfl))|(refine aA (by rfl) (hm _ dE) ?_));simp only [Act.put,sA,sB,sC,Nat.reduceAdd,Nat.zero_add]
         refine aO (by rfl) (λw=>?_) (λs u hs hUp hc=>hc2 s u hc) ?_
         ·go_simp
         simp only [Act.put,sA,sB,sC,Nat.reduceAdd,Nat.zero_add]
         iterate 2 (first|(refine aB (v:=?_) (by rfl) (λw=>?_) (hm _ dE) ?_;rotate_left;· (go_simp<;>with_reducible rfl))|(refine aC (v:=?_) (by rfl) (λs w hUp hC=>?_) (hm _ dE) ?_;rotate_left;· (have hl:=hload s w hC;go_split_ands;go_simp<;>with_reducible rfl))|(refine aA (by rfl) (hm _ dE) ?_));simp only [Act.put,sA,sB,sC,Nat.reduceAdd,Nat.zero_add]
         refine fY ?_
         intro z w5 hall hc
         go_wp2
         go_roundg 0
         case measure=>omega
         case rel=>exact ⟨1,rfl,rfl,hc,.inr ⟨rfl,by rw [<- HGG.out]⟩⟩)
       ·first
        | (exfalso;simp [hy7] at hy;done)
        | (
         have HGG:=zh hgg
         rw [hha] at hc2
         (try subst hy7)
         clear hgg hha
         iterate 16 (first|(refine aB (v:=?_) (by rfl) (λw=>?_) (hm _ dE) ?_;rotate_left;· (go_simp<;>with_reducible rfl))|(refine aC (v:=?_) (by rfl) (λs w hUp hC=>?_) (hm _ dE) ?_;rotate_left;· (have hl:=hload s w hC;go_split_ands;go_simp<;>with_reducible rfl))|(refine aA (by rfl) (hm _ dE) ?_));simp only [Act.put,sA,sB,sC,Nat.reduceAdd,Nat.zero_add]
         refine aO (by rfl) (λw=>?_) (λs u hs hUp hc=>hc1 s u hc) ?_
         ·go_simp
         simp only [Act.put,sA,sB,sC,Nat.reduceAdd,Nat.zero_add]
         iterate 5 (first|(refine aB (v:=?_) (by rfl) (λw=>?_) (hm _ dE) ?_;rotate_left;· (go_simp<;>with_reducible rfl))|(refine aC (v:=?_) (by rfl) (λs w hUp hC=>?_) (hm _ dE) ?_;rotate_left;· (have hl:=hload s w hC;go_split_ands;go_simp<;>with_reducible rfl))|(refine aA (by rfl) (hm _ dE) ?_));simp only [Act.put,sA,sB,sC,Nat.reduceAdd,Nat.zero_add]
         refine aO (by rfl) (λw=>?_) (λs u hs hUp hc=>hc2 s u hc) ?_
         ·go_simp
         simp only [Act.put,sA,sB,sC,Nat.reduceAdd,Nat.zero_add]
         iterate 2 (first|(refine aB (v:=?_) (by rfl) (λw=>?_) (hm _ dE) ?_;rotate_left;· (go_simp<;>with_reducible rfl))|(refine aC (v:=?_) (by rfl) (λs w hUp hC=>?_) (hm _ dE) ?_;rotate_left;· (have hl:=hload s w hC;go_split_ands;go_simp<;>with_reducible rfl))|(refine aA (by rfl) (hm _ dE) ?_));simp only [Act.put,sA,sB,sC,Nat.reduceAdd,Nat.zero_add]
         refine fY ?_
         intro z w5 hall hc
         have y1:=hc.at y1 sM
         go_wp2_with (go_at_call 23;refine (AA g1 rc _ oM).r λjw=>?_)
         go_roundg 0
         case measure=>omega
         case rel=>exact ⟨1,rfl,rfl,hc.drewN jw,.inr ⟨rfl,by rw [<- HGG.out]⟩⟩)
      ·go_wp2
       go_loopg [11] t (λgg3 cv wr3=>∃ c:Nat,cv=vi iQ c /\ c+gg3=t /\ af [] v wr3)
       case atStart=>exact ⟨0,rfl,by omega,(by first|exact mR|exact mR.drewN _|assumption)⟩
       case round=>
        obtain ⟨c,rfl,hct,mc⟩:=hrel
        have hB3:=HB.out.1.keep mc
        by_cases hcl:c<t
        ·have hclI:(c:Int)<(t:Int):=by omega
         cases hb:aw g2 c
         ·go_wp2_with (go_at_call 24;refine (gz g2 c _).mono ?_;rw [hb];rintro e y1 ⟨rfl,jy,rfl⟩)
          go_roundg (t - c - 1)
          case measure=>omega
          case rel=>exact ⟨c+1,by go_num,by omega,mc.drewN jy⟩
         ·have hEm:=λjy=>yb ((aa d k2).keep (hB3.get 0 rfl).choose_spec ((af.refl [] _).drewN jy) sM) (c:=c) (by rw [HN.out];exact hcl) (HG.out.gone c hb).2.2
          go_wp2_with (first
           | (go_at_call 24;refine (gz g2 c _).mono ?_;rw [hb];rintro e y1 ⟨rfl,jy,rfl⟩)
           | (go_at_call 25;refine (hEm _).s λy2 n2=>?_))
          go_roundg (t - c - 1)
          case measure=>omega
          case rel=>exact ⟨c+1,by go_num,by omega,(mc.drewN jy).trans n2 sM⟩
        ·have hclI:¬ (c:Int)<(t:Int):=by omega
         go_wp2
         go_roundg (len - j - 1)
         case measure=>omega
         case rel=>exact ⟨j+1,g2,k2,rfl,by go_num,by omega,by omega,hB3.take (l:=[_]) (m:=[_]),HB.out.2,HG,HN,by omega⟩
  ·have hne:¬ ((j:Int)<(len:Int)) \/ ((j:Int)<(len:Int) /\ ¬ ((j:Int)<300)):=by omega
   have hKn:∀ v,af [] wr v -> Calls tp 9 #[] v (aK (vb tQ) v):=λv mv=>cT v (hT.keep (h0.mod.trans mv sM) sM)
   have HM:=zh h0.mod
   clear hkl hA hI h0
   rcases hne with h4|⟨h3,h4⟩
   all_goals
    go_wp2_with (
     go_at_call 9
     refine (hKn _ mR).s λv3 m3=>?_)
    go_ret
    exact bG.of rfl (HM.out.trans m3 sM) trivial
end Go.Proofs.YtaakgpnmfkmdoaaGreatDoor