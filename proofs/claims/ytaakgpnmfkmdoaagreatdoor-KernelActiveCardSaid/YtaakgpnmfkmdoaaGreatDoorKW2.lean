/- Walks and plain laws of the kernel. No condition. -/
import Derived.Test.YtaakgpnmfkmdoaaGreatDoorKLM
namespace Go.Proofs.YtaakgpnmfkmdoaaGreatDoor
set_option linter.unusedVariables false
set_option linter.unusedSimpArgs false
set_option maxRecDepth 100000
set_option maxHeartbeats 20000000
open Go.RowKit
open Go.Proofs.Tryz renaming prog → tp
open List renaming setIfInBounds_toArray → sA, set_cons_zero → sB, set_cons_succ → sC
open Go renaming World → wW
open Go.Value renaming pointer → vp, bool → vb, int → vi
open Go.IntKind renaming i64 → iQ, u64 → uQ
open Option renaming none → nN, some → sS
open Bool renaming true → tQ, false → fF
open Int renaming eq_ofNat_of_zero_le → iN
theorem KernelActive_walk (w:wW) (hT:bK w) (n:Int) (_hn:(Lit.int .i64 n).wf=tQ) (a:Option Addr) (len cap:Nat) (A:Nat -> jY) (hA:qD 5 jY.vals jY.ok w a len cap A):
  Calls tp 3 #[vi iQ n,.slice a len cap] w (bG (vb tQ) [] w λ_=>True):=by
 have hlc:=hA.1
 have hcm:=hA.2.1
 unfold maxLen at hcm
 by_cases hT0:1 <= n /\ n <= 64
 case neg=>
  have hN:=fU n hT0 w
  have h1:n<1 \/ (¬ n<1 /\ 64<n):=by omega
  clear hA hT0
  rcases h1 with h1|⟨h1,h2⟩
  all_goals
   go_in
   go_wp2_with (first
    | (go_at_call 8;refine hN.s λw1 m1=>?_)
    | (go_at_call 9;refine (cT _ (hT.keep m1 sM)).s λw2 m2=>?_))
   go_ret
   exact bG.of rfl (m1.trans m2 sM) trivial
 obtain ⟨hn1,hn2⟩:=hT0
 obtain ⟨t,rfl⟩:=iN (show 0 <= n by omega)
 have hN:=(On.start w).make (jk t oM oM w)
 have hK0:=zh (zs (n:=t) oM oM)
 clear _hn
 go_in
 go_wp2_with (
  go_at_call 8
  refine hN.mono ?_
  rintro e w1 ⟨d,rfl,h1⟩
  have H1:=zh (show On [] w [aa d (k0 t)] w1 from h1)
  clear h1 hN)
 go_loopg [7] len (λgg i wr=>∃ (j:Nat) (k:KT),i=vi iQ j /\ j+gg=len /\ j <= 300 /\ On [] w [aa d k] wr /\ de k)
 case atStart=>exact ⟨0,k0 t,rfl,by omega,by omega,H1.out,hK0.out⟩
 case round=>
  clear H1 hK0
  obtain ⟨j,k,rfl,hj,hj0,h0,hI⟩:=hrel
  by_cases hkl:j<len /\ j<300
  ·obtain ⟨hkl,hk2⟩:=hkl
   obtain ⟨ba,off,rfl,hok,hba,hc⟩:=jQ hA mR hkl
   have d0:=hc 0 oM
   have d1:=hc 1 oM
   have d2:=hc 2 oM
   have d3:=hc 3 oM
   have d4:=hc 4 oM
   clear hc
   have HA:=zh hA
   clear hA
   generalize A j=ak at *
   obtain ⟨kind,cpu,id,mask,nn⟩:=ak
   simp only [jY.vals,List.getElem?_cons_zero,List.getElem?_cons_succ,Nat.add_zero] at d0 d1 d2 d3 d4
   have c0:=h0.mod.at d0 sM
   have c1:=h0.mod.at d1 sM
   have c2:=h0.mod.at d2 sM
   have c3:=h0.mod.at d3 sM
   have c4:=h0.mod.at d4 sM
   obtain ⟨o1,o2,o3,o4,o5⟩:=hok
   have hmb:=Ed o4
   simp only at hmb
   clear o1 o2 o3 o4 o5
   obtain ⟨mk,rfl⟩:=iN hmb.1
   have hmk:mk<2 ^ 64:=by omega
   have hdo:=λv (mv:af [] wr v)=>zk hT (h0.keep mv) hI ⟨kind,cpu,id,mk,nn⟩ hmk
   unfold DQ at hdo
   simp only at hdo
   generalize k.doL ⟨kind,cpu,id,mk,nn⟩=L at hdo
   generalize k.doK ⟨kind,cpu,id,mk,nn⟩=k2 at hdo
   have hj3:decide ((j:Int)<300)=tQ:=decide_eq_true oM
   have hj4:(j:Int)<300:=by omega
   have hj5:(j:Int)<(len:Int):=by omega
   clear hmb hmk
   have hokk:k.ok:=(ab (h0.get 0 rfl).choose_spec).1
   have hac:=hokk.ac
   have hAc:=eL (h0.get 0 rfl).choose_spec
   have hdo':∀ v,af [] wr v -> Calls tp 11 #[vp (sS ⟨d,0,nN⟩),.agg #[vi iQ kind,vi iQ cpu,vi iQ id,vi uQ ((mk:Nat):Int),vi iQ nn]] v (λe' u'=>∃ a c,e'=.returned (.slice a L.length c) /\ On [] w [aa d k2,nM a L] u' /\ de k2 /\ sU k ⟨kind,cpu,id,mk,nn⟩ L k2):=λv mv=>hdo v mv
   clear hdo
   go_wp2_with (first
    | (
     go_at_call 10
     refine hAc.s λv0 m0=>?_
     have c0:=m0.at c0 sM
     have c1:=m0.at c1 sM
     have c2:=m0.at c2 sM
     have c3:=m0.at c3 sM
     have c4:=m0.at c4 sM
     have hD:=hdo' _ m0
     clear hAc hdo')
    | (
     go_at_call 11
     refine hD.mono ?_
     rintro e v ⟨av,cv,rfl,hB,hI2,hR⟩
     have HB:=zh (And.intro hB hI2)
     have hcase:=Ce hR
     clear hD hB hI2 hR))
   rcases hcase with rfl|⟨r,rfl,hthing⟩
   ·simp only [List.length_nil]
    go_loopg [10] 1 (λgg2 jv wr2=>jv=vi iQ 0 /\ wr2=v)
    case atStart=>exact ⟨rfl,rfl⟩
    case round=>
     obtain ⟨rfl,hw2⟩:=hrel
     subst hw2
     have hB2:=HB.out.1
     obtain ⟨Fk,hkk⟩:=hB2.get 0 rfl
     have hA1:=eL hkk
     have hO1:∀ W,af [] wr W -> Calls tp 15 #[vp (sS ⟨d,0,nN⟩)] W (aK (vi uQ (k2.online:Nat)) W):=λW mW=>cm ((aa d k2).keep hkk mW sM)
     have hA2:∀ W,af [] wr W -> Calls tp 10 #[vp (sS ⟨d,0,nN⟩)] W (aK (vi uQ (k2.active:Nat)) W):=λW mW=>eL ((aa d k2).keep hkk mW sM)
     have hok2:=(ab hkk).1
     have hWi:=λW=>jJ k2.active k2.online hok2.ac hok2.on W
     rw [show decide (dI k2.active k2.online=0)=tQ from decide_eq_true HB.out.2.within] at hWi
     have hz:(((k2.active:Nat):Int)==0)=fF:=by
      have:=HB.out.2.ne
      simp;omega
     go_wp2_with (first
      | (go_at_call 10;refine hA1.s λy1 n1=>?_;clear hA1)
      | (go_at_call 15;refine (hO1 _ n1).s λy2 n2=>?_;clear hO1)
      | (go_at_call 14;refine (hWi _).r λj3=>?_;clear hWi)
      | (go_at_call 10;refine (hA2 _ ((n1.trans n2 sM).drewN j3)).s λy4 n4=>?_))
     go_roundg (len - j - 1)
     case measure=>omega
     case rel=>exact ⟨j+1,k2,by go_num,by omega,by omega,(hB2.take (l:=[_]) (m:=[_])).keep (((n1.trans n2 sM).drewN j3).trans n4 sM),HB.out.2⟩
   ·simp only [List.length_cons,List.length_nil,Nat.zero_add]
    obtain ⟨F2,hx2⟩:=HB.out.1.get 1 rfl
    obtain ⟨g,rfl,x0,x1,x2,x3,x4⟩:=lh hx2
    have hth:∀ w,Calls tp 12 #[.agg #[vi iQ r.kind,vi iQ r.cpu,vi iQ r.id,vi iQ r.n,vi iQ r.why]] w (aK (vb (nX r)) w):=λw=>ya r w
    obtain ⟨kd,rc,ri,rn,ry⟩:=r
    simp only at x0 x1 x2 x3 x4 hth hthing
    generalize nX ⟨kd,rc,ri,rn,ry⟩=tb at *
    have mB:=HB.out.1.mod
    have cc:∀ W,af [] v W -> W.cell? ⟨ba,off+j * 5,nN⟩=sS (vi iQ kind) /\ W.cell? ⟨ba,off+j * 5+1,nN⟩=sS (vi iQ cpu) /\ W.cell? ⟨g,0,nN⟩=sS (vi iQ kd) /\ W.cell? ⟨g,1,nN⟩=sS (vi iQ rc) /\ W.cell? ⟨g,2,nN⟩=sS (vi iQ ri) /\ W.cell? ⟨g,3,nN⟩=sS (vi iQ rn) /\ W.cell? ⟨g,4,nN⟩=sS (vi iQ ry):=λW mW=>⟨(mB.trans mW sM).at d0 sM,(mB.trans mW sM).at d1 sM,mW.at x0 sM,mW.at x1 sM,mW.at x2 sM,mW.at x3 sM,mW.at x4 sM⟩
    clear x0 x1 x2 x3 x4 hx2 c0 c1 c2 c3 c4 d0 d1 d2 d3 d4
    go_loopg [10] 1 (λgg2 jv wr2=>∃ (jj:Nat),jv=vi iQ jj /\ jj+gg2=1 /\ af [] v wr2)
    case atStart=>exact ⟨0,rfl,rfl,af.refl _ _⟩
    case round=>
     obtain ⟨jj,rfl,hjj,mv⟩:=hrel
     by_cases hz:jj=0
     ·subst hz
      have hm:∀ i,i<100 -> dP (λ(_:Array Bool) u=>af [] v u) i:=λi _ z u _ hc=>hc
      have hload:∀ (z:Array Bool) u,af [] v u -> u.cell? ⟨ba,off+j * 5,nN⟩=sS (vi iQ kind) /\ u.cell? ⟨ba,off+j * 5+1,nN⟩=sS (vi iQ cpu) /\ u.cell? ⟨g,0,nN⟩=sS (vi iQ kd) /\ u.cell? ⟨g,1,nN⟩=sS (vi iQ rc) /\ u.cell? ⟨g,2,nN⟩=sS (vi iQ ri) /\ u.cell? ⟨g,3,nN⟩=sS (vi iQ rn) /\ u.cell? ⟨g,4,nN⟩=sS (vi iQ ry):=λz u hc=>cc u hc
      have hcA:∀ (z:Array Bool) u,af [] v u -> Calls tp 12 #[.agg #[vi iQ kd,vi iQ rc,vi iQ ri,vi iQ rn,vi iQ ry]] u (λe u'=>e=.returned (vb tb) /\ af [] v u'):=λz u hc=>(hth u).mono (by rintro e u' ⟨rfl,mm⟩;exact ⟨rfl,hc.trans mm sM⟩)
      have hcB:∀ (z:Array Bool) u,af [] v u -> Calls tp 13 #[vi uQ (k.active:Nat),vi iQ rc] u (λe u'=>e=.returned (vb (aw k.active rc)) /\ af [] v u'):=λz u hc=>(bA k.active hac rc u).mono (by rintro e u' ⟨rfl,jq,rfl⟩;exact ⟨rfl,hc.drewN jq⟩)
      clear cc hth
      go_wp2
      refine cw kz kz (λ_ u=>af [] v u) (λz hz=>mv.drew) ?_
      cases tb
      ·clear hthing hcB
       iterate 4 (first|(refine aB (v:=?_) (by rfl) (λw=>?_) (hm _ dE) ?_;rotate_left;· (go_simp<;>with_reducible rfl))|(refine aC (v:=?_) (by rfl) (λs w hUp hC=>?_) (hm _ dE) ?_;rotate_left;· (have hl:=hload s w hC;go_split_ands;go_simp<;>with_reducible rfl))|(refine aA (by rfl) (hm _ dE) ?_));simp only [Act.put,sA,sB,sC,Nat.reduceAdd,Nat.zero_add]
       refine aO (by rfl) (λw=>?_) (λs u hs hUp hc=>hcA s u hc) ?_
       ·go_simp
       simp only [Act.put,sA,sB,sC,Nat.reduceAdd,Nat.zero_add]
       iterate 31 (first|(refine aB (v:=?_) (by rfl) (λw=>?_) (hm _ dE) ?_;rotate_left;· (go_simp<;>with_reducible rfl))|(refine aC (v:=?_) (by rfl) (λs w hUp hC=>?_) (hm _ dE) ?_;rotate_left;· (have hl:=hload s w hC;go_split_ands;go_simp<;>with_reducible rfl))|(refine aA (by rfl) (hm _ dE) ?_));simp only [Act.put,sA,sB,sC,Nat.reduceAdd,Nat.zero_add]
       refine fY ?_
       intro z w5 hall hc
       go_wp2
       go_roundg 0
       case measure=>omega
       case rel=>exact ⟨1,rfl,rfl,hc⟩
      ·obtain ⟨t1,t2,t3⟩:=hthing rfl
       (try simp only at t1 t2 t3)
       rw [t1] at hcB
       subst t2 t3
       iterate 4 (first|(refine aB (v:=?_) (by rfl) (λw=>?_) (hm _ dE) ?_;rotate_left;· (go_simp<;>with_reducible rfl))|(refine aC (v:=?_) (by rfl) (λs w hUp hC=>?_) (hm _ dE) ?_;rotate_left;· (have hl:=hload s w hC;go_split_ands;go_simp<;>with_reducible rfl))|(refine aA (by rfl) (hm _ dE) ?_));simp only [Act.put,sA,sB,sC,Nat.reduceAdd,Nat.zero_add]
       refine aO (by rfl) (λw=>?_) (λs u hs hUp hc=>hcA s u hc) ?_
       ·go_simp
       simp only [Act.put,sA,sB,sC,Nat.reduceAdd,Nat.zero_add]
       iterate 7 (first|(refine aB (v:=?_) (by rfl) (λw=>?_) (hm _ dE) ?_;rotate_left;· (go_simp<;>with_reducible rfl))|(refine aC (v:=?_) (by rfl) (λs w hUp hC=>?_) (hm _ dE) ?_;rotate_left;· (have hl:=hload s w hC;go_split_ands;go_simp<;>with_reducible rfl))|(refine aA (by rfl) (hm _ dE) ?_));simp only [Act.put,sA,sB,sC,Nat.reduceAdd,Nat.zero_add]
       refine aO (by rfl) (λw=>?_) (λs u hs hUp hc=>hcB s u hc) ?_
       ·go_simp
       simp only [Act.put,sA,sB,sC,Nat.reduceAdd,Nat.zero_add]
       iterate 23 (first|(refine aB (v:=?_) (by rfl) (λw=>?_) (hm _ dE) ?_;rotate_left;· (go_simp<;>with_reducible rfl))|(refine aC (v:=?_) (by rfl) (λs w hUp hC=>?_) (hm _ dE) ?_;rotate_left;· (have hl:=hload s w hC;go_split_ands;go_simp<;>with_reducible rfl))|(refine aA (by rfl) (hm _ dE) ?_));simp only [Act.put,sA,sB,sC,Nat.reduceAdd,Nat.zero_add]
       refine fY ?_
       intro z w5 hall hc
       go_wp2
       go_roundg 0
       case measure=>omega
       case rel=>exact ⟨1,rfl,rfl,hc⟩
     ·have hz1:jj=1:=by omega
      subst hz1
      have hB2:=HB.out.1.keep mv
      obtain ⟨Fk,hkk⟩:=hB2.get 0 rfl
      have hA1:=eL hkk
      have hO1:∀ W,af [] wr W -> Calls tp 15 #[vp (sS ⟨d,0,nN⟩)] W (aK (vi uQ (k2.online:Nat)) W):=λW mW=>cm ((aa d k2).keep hkk mW sM)
      have hA2:∀ W,af [] wr W -> Calls tp 10 #[vp (sS ⟨d,0,nN⟩)] W (aK (vi uQ (k2.active:Nat)) W):=λW mW=>eL ((aa d k2).keep hkk mW sM)
      have hok2:=(ab hkk).1
      have hWi:=λW=>jJ k2.active k2.online hok2.ac hok2.on W
      rw [show decide (dI k2.active k2.online=0)=tQ from decide_eq_true HB.out.2.within] at hWi
      have hz:(((k2.active:Nat):Int)==0)=fF:=by
       have:=HB.out.2.ne
       simp;omega
      go_wp2_with (first
       | (go_at_call 10;refine hA1.s λy1 n1=>?_;clear hA1)
       | (go_at_call 15;refine (hO1 _ n1).s λy2 n2=>?_;clear hO1)
       | (go_at_call 14;refine (hWi _).r λj3=>?_;clear hWi)
       | (go_at_call 10;refine (hA2 _ ((n1.trans n2 sM).drewN j3)).s λy4 n4=>?_))
      go_roundg (len - j - 1)
      case measure=>omega
      case rel=>exact ⟨j+1,k2,by go_num,by omega,by omega,(hB2.take (l:=[_]) (m:=[_])).keep (((n1.trans n2 sM).drewN j3).trans n4 sM),HB.out.2⟩
  ·have hne:¬ ((j:Int)<(len:Int)) \/ ((j:Int)<(len:Int) /\ ¬ ((j:Int)<300)):=by omega
   have hKn:∀ v,af [] wr v -> Calls tp 9 #[] v (aK (vb tQ) v):=λv mv=>cT v (hT.keep (h0.mod.trans mv sM) sM)
   have HM:=zh h0.mod
   clear hkl hA hI h0
   rcases hne with h4|⟨h3,h4⟩
   all_goals
    go_wp2_with (
     go_at_call 9
     refine (hKn _ mR).s λv3 m3=>?_)
    go_ret
    exact bG.of rfl (HM.out.trans m3 sM) trivial
end Go.Proofs.YtaakgpnmfkmdoaaGreatDoor