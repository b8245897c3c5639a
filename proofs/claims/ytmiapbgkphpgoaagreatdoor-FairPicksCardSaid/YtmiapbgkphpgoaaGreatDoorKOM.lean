/- Walks and plain laws of the kernel. No condition. -/
import Derived.Test.YtmiapbgkphpgoaaGreatDoorKJM
namespace Go.Proofs.YtmiapbgkphpgoaaGreatDoor
set_option linter.unusedVariables false
set_option linter.unusedSimpArgs false
set_option maxRecDepth 100000
set_option maxHeartbeats 20000000
open Go.RowKit
open Go.Proofs.Tryz renaming prog → tp
open List renaming setIfInBounds_toArray → sA, set_cons_zero → sB, set_cons_succ → sC
open Go renaming World → wW
open Go.Value renaming pointer → vp, bool → vb, int → vi
open Go.IntKind renaming i64 → iQ, u64 → uQ
open Option renaming none → nN, some → sS
open Bool renaming true → tQ, false → fF
open Int renaming eq_ofNat_of_zero_le → iN
section
variable {F:List Nat} {w u:wW} {b:Nat} {p:KP} {k:KT}
theorem Kx (t:bP) (id:Int) (h:t.getE id≠0):t.getE id=4:=by
 unfold bP.getE at h ⊢
 split at h
 ·exact absurd rfl h
 ·rename_i hx;rw [nG hx]
theorem KC (k:KT) (id:Int) (m:Nat) (h:k.th.aimE id m≠0):({ k with th:=k.th.aim id m }:KT)=k:=by
 unfold bP.aim;rw [nG h]
theorem rk (h:(aa b k).holds F w) (hT:bA w) (hF:tzL_ren.g 1∉F) (e:jR) (hm:e.mask<2 ^ 64) (hk:4 <= e.kind /\ e.kind <= 9):Calls tp 71 #[vp (sS ⟨b,0,nN⟩),.agg (vq e)] w (bo b (k.threaded e) (k.threadedL e) F w):=by
 obtain ⟨ki,cpu,id,m,n⟩:=e
 unfold vq
 simp only at hm hk ⊢
 obtain ⟨hok,p,hK⟩:=ad h
 have HK:=zh hok
 have hA:=(hK.alloc (.cells #[vi iQ ki,vi iQ cpu,vi iQ id,vi uQ (m:Nat),vi iQ n] 34 (0,0))).front
 have c0:(w.alloc (.cells #[vi iQ ki,vi iQ cpu,vi iQ id,vi uQ (m:Nat),vi iQ n] 34 (0,0))).cell? ⟨b,0,nN⟩=sS (vp (sS ⟨p.th,0,nN⟩)):=hA.cell 1 rfl 0
 have x2:(w.alloc (.cells #[vi iQ ki,vi iQ cpu,vi iQ id,vi uQ (m:Nat),vi iQ n] 34 (0,0))).cell? ⟨w.heap.size,2,nN⟩=sS (vi iQ id):=hA.cell 0 rfl 2
 have HA:=zh hA
 have HXT:=zh (hA.alloc (.cells #[vi iQ 0,vi uQ 0,vi iQ 0,vb fF,vb fF,vi iQ 0] 237 (0,0))).front
 have hG:∀ v,af [] (w.alloc (.cells #[vi iQ ki,vi iQ cpu,vi iQ id,vi uQ (m:Nat),vi iQ n] 34 (0,0))) v -> Calls tp 119 #[vp (sS ⟨p.th,0,nN⟩),vi iQ id] v (λe u'=>e=.returned (.tuple #[.agg (kZ (k.th.get id)).toArray,vi iQ (k.th.getE id)]) /\ af [] v u'):=λv m=>((HA.out.keep m).tells 3 rfl (λF1 h1=>iC h1 id)).mono (λe u' h=>⟨h.1,h.2.2⟩)
 have c0a:=ay (.cells #[vi iQ 0,vi uQ 0,vi iQ 0,vb fF,vb fF,vi iQ 0] 237 (0,0)) c0
 have x2a:=ay (.cells #[vi iQ 0,vi uQ 0,vi iQ 0,vb fF,vb fF,vi iQ 0] 237 (0,0)) x2
 have HT:=zh (And.intro hT hF)
 have HKI:=zh (And.intro hk hm)
 generalize hge:k.th.getE id=ge at *
 generalize hth:k.th.get id=th at *
 have HGE:=zh hge
 have HTH:=zh hth
 clear hge hth hT hF hk hm
 obtain ⟨pr,mk,cp,fo,sl,ti⟩:=th
 simp only [kZ] at *
 skip
 clear h hK hok hA
 go_in
 go_wp2
 generalize w.alloc (.cells #[vi iQ ki,vi iQ cpu,vi iQ id,vi uQ (m:Nat),vi iQ n] 34 (0,0))=W at *
 generalize w.heap.size=xb at *
 go_region_law (first
  | (
   go_simp
   go_at_call 119
   refine (hG _ mz).s λv mv=>?_
   first
    | (
     have hY:=(HXT.out.keep ((af.refl [] _).drew)).keep mv
     have y0:v.cell? ⟨W.heap.size,0,nN⟩=sS (vi iQ 0):=hY.cell 0 rfl 0
     have y1:v.cell? ⟨W.heap.size,1,nN⟩=sS (vi uQ 0):=hY.cell 0 rfl 1
     have y2:v.cell? ⟨W.heap.size,2,nN⟩=sS (vi iQ 0):=hY.cell 0 rfl 2
     have y3:v.cell? ⟨W.heap.size,3,nN⟩=sS (vb fF):=hY.cell 0 rfl 3
     have y4:v.cell? ⟨W.heap.size,4,nN⟩=sS (vb fF):=hY.cell 0 rfl 4
     have y5:v.cell? ⟨W.heap.size,5,nN⟩=sS (vi iQ 0):=hY.cell 0 rfl 5
     have g0:v.frozen? ⟨W.heap.size,0,nN⟩=fF:=hY.free 0 rfl 0
     have g1:v.frozen? ⟨W.heap.size,1,nN⟩=fF:=hY.free 0 rfl 1
     have g2:v.frozen? ⟨W.heap.size,2,nN⟩=fF:=hY.free 0 rfl 2
     have g3:v.frozen? ⟨W.heap.size,3,nN⟩=fF:=hY.free 0 rfl 3
     have g4:v.frozen? ⟨W.heap.size,4,nN⟩=fF:=hY.free 0 rfl 4
     have g5:v.frozen? ⟨W.heap.size,5,nN⟩=fF:=hY.free 0 rfl 5
     have HY:=zh ((((((hY.set 0 rfl 0 (vi iQ pr)).set 0 rfl 1 (vi uQ (mk:Nat))).set 0 rfl 2 (vi iQ cp)).set 0 rfl 3 (vb fo)).set 0 rfl 4 (vb sl)).set 0 rfl 5 (vi iQ ti))
     clear hY)
    | (
     have hY:=(HA.out.keep ((af.refl [] _).drew)).keep mv
     have HY:=zh (hY.alloc (.cells #[vi iQ pr,vi uQ (mk:Nat),vi iQ cp,vb fo,vb sl,vi iQ ti] 237 (0,0))).front
     clear hY)))
 all_goals
  first
   | refine gi (R:=λZ=>On F w ([ak.blk W.heap.size (.cells #[vi iQ pr,vi uQ (mk:Nat),vi iQ cp,vb fo,vb sl,vi iQ ti] 237 (0,0)),ak.blk xb (.cells #[vi iQ ki,vi iQ cpu,vi iQ id,vi uQ (m:Nat),vi iQ n] 34 (0,0))]++ag b p k) Z) HY.out (λV hK=>?_)
   | refine gi (R:=λZ=>On F w ([ak.blk v.heap.size (.cells #[vi iQ pr,vi uQ (mk:Nat),vi iQ cp,vb fo,vb sl,vi iQ ti] 237 (0,0)),ak.blk xb (.cells #[vi iQ ki,vi iQ cpu,vi iQ id,vi uQ (m:Nat),vi iQ n] 34 (0,0))]++ag b p k) Z) HY.out (λV hK=>?_)
  have e0:V.cell? ⟨xb,0,nN⟩=sS (vi iQ ki):=hK.cell 1 rfl 0
  have e2:V.cell? ⟨xb,2,nN⟩=sS (vi iQ id):=hK.cell 1 rfl 2
  have e3:V.cell? ⟨xb,3,nN⟩=sS (vi uQ (m:Nat)):=hK.cell 1 rfl 3
  have e4:V.cell? ⟨xb,4,nN⟩=sS (vi iQ n):=hK.cell 1 rfl 4
  have t0:=hK.cell 0 rfl 0
  have t1:=hK.cell 0 rfl 1
  have t2:=hK.cell 0 rfl 2
  have t3:=hK.cell 0 rfl 3
  have t4:=hK.cell 0 rfl 4
  have t5:=hK.cell 0 rfl 5
  have HZ:=zh hK
  clear hK HY mv hG c0 x2 c0a x2a HA HXT
  (try clear y0 y1 y2 y3 y4 y5 g0 g1 g2 g3 g4 g5)
  obtain ⟨hk,hm⟩:=HKI.out
  have hc:ge≠0 \/ (ge=0 /\ (ki=9 \/ ki=4 \/ (ki=7 /\ sl=fF) \/ (ki=6 /\ sl=tQ) \/ (ki=5 /\ sl=tQ) \/ (ki=6 /\ sl=fF) \/ (ki=7 /\ sl=tQ) \/ (ki=5 /\ sl=fF) \/ (ki=8 /\ k.th.aimE id m=0) \/ (ki=8 /\ k.th.aimE id m≠0))):=by
   by_cases h0:ge=0
   ·refine .inr ⟨h0,?_⟩
    by_cases ha:k.th.aimE id m=0<;>cases sl<;>simp [ha]<;>omega
   ·exact .inl h0
  clear hk
  have q1:=HGE.out
  have q2:=HTH.out
  rcases hc with h0|⟨rfl,hc⟩
  ·have hg:ge=4:=by rw [<- q1] at h0 ⊢;exact Kx _ _ h0
   subst hg
   have HKL:=zh (And.intro (show k.threaded ⟨ki,cpu,id,m,n⟩=k from by unfold KT.threaded;simp [q1]) (show k.threadedL ⟨ki,cpu,id,m,n⟩=aX 0 4 from by unfold KT.threadedL;simp [q1]))
   clear q1 q2
   have hPl:=λv=>aD 4 v
   go_wp2_with (
    go_at_call 66
    refine (hPl _).mono ?_
    intro e w2 hN
    obtain ⟨a,c,rfl,hE⟩:=hN.does ((HZ.out.kdrop2.kernel HK.out).on))
   go_ret
   rw [HKL.out.1,HKL.out.2]
   exact ⟨a,c,rfl,hE⟩
  rcases hc with rfl|rfl|⟨rfl,rfl⟩|⟨rfl,rfl⟩|⟨rfl,rfl⟩|⟨rfl,rfl⟩|⟨rfl,rfl⟩|⟨rfl,rfl⟩|⟨rfl,hae⟩|⟨rfl,hae⟩
  ·have HKL:=zh (And.intro (show k.threaded ⟨9,cpu,id,m,n⟩=k from by unfold KT.threaded;simp [q1,q2]) (show k.threadedL ⟨9,cpu,id,m,n⟩=aX cp 0 from by unfold KT.threadedL;simp [q1,q2]))
   clear q1 q2
   have hAn:=λv=>bs cp 0 v
   go_wp2_with (
    go_at_call 69
    refine (hAn _).mono ?_
    intro e w2 hN
    obtain ⟨a,c,rfl,hE⟩:=hN.does ((HZ.out.kdrop2.kernel HK.out).on))
   go_ret
   rw [HKL.out.1,HKL.out.2]
   exact ⟨a,c,rfl,hE⟩
  ·have HKL:=zh (And.intro (show k.threaded ⟨4,cpu,id,m,n⟩=k.exit id ⟨pr,mk,cp,fo,sl,ti⟩ from by unfold KT.threaded;simp [q1,q2]) (show k.threadedL ⟨4,cpu,id,m,n⟩=aX 0 0 from by unfold KT.threadedL;simp [q1,q2]))
   have hPl:=λv=>aD 0 v
   have hEx:=λ(v:wW) (xT xb:Nat) (o1 o2:Obj) (hB:On F w ([ak.blk xT o1,ak.blk xb o2]++ag b p k) v)=>On.kcall hB HK.out HT.out.1 HT.out.2 (λF1 h1 hT1 hF1=>zL h1 hT1 hF1 id ⟨pr,mk,cp,fo,sl,ti⟩)
   rw [q1] at hEx
   simp only [kZ] at hEx
   clear q1 q2
   generalize k.exit id ⟨pr,mk,cp,fo,sl,ti⟩=k2 at *
   go_wp2_with (first
    | (
     go_at_call 120
     refine (hEx _ _ _ _ _ HZ.out).mono ?_
     rintro e w2 ⟨rfl,ok2,p2,hE⟩
     have HR:=zh ((hE.kdrop2.kernel ok2).on)
     clear hE ok2)
    | (
     first|(go_at_call 66;refine (hPl _).mono ?_)|(go_at_call 69;refine (hPl _).mono ?_)
     intro e w3 hN
     obtain ⟨a,c,rfl,hE⟩:=hN.does HR.out)
    )
   go_ret
   rw [HKL.out.1,HKL.out.2]
   exact ⟨a,c,rfl,hE⟩
  ·have HKL:=zh (And.intro (show k.threaded ⟨7,cpu,id,m,n⟩=k from by unfold KT.threaded;simp [q1,q2]) (show k.threadedL ⟨7,cpu,id,m,n⟩=aX 0 6 from by unfold KT.threadedL;simp [q1,q2]))
   clear q1 q2
   have hPl:=λv=>aD 6 v
   go_wp2_with (
    go_at_call 66
    refine (hPl _).mono ?_
    intro e w2 hN
    obtain ⟨a,c,rfl,hE⟩:=hN.does ((HZ.out.kdrop2.kernel HK.out).on))
   go_ret
   rw [HKL.out.1,HKL.out.2]
   exact ⟨a,c,rfl,hE⟩
  ·have HKL:=zh (And.intro (show k.threaded ⟨6,cpu,id,m,n⟩=k from by unfold KT.threaded;simp [q1,q2]) (show k.threadedL ⟨6,cpu,id,m,n⟩=aX 0 6 from by unfold KT.threadedL;simp [q1,q2]))
   clear q1 q2
   have hPl:=λv=>aD 6 v
   go_wp2_with (
    go_at_call 66
    refine (hPl _).mono ?_
    intro e w2 hN
    obtain ⟨a,c,rfl,hE⟩:=hN.does ((HZ.out.kdrop2.kernel HK.out).on))
   go_ret
   rw [HKL.out.1,HKL.out.2]
   exact ⟨a,c,rfl,hE⟩
  ·have HKL:=zh (And.intro (show k.threaded ⟨5,cpu,id,m,n⟩=k from by unfold KT.threaded;simp [q1,q2]) (show k.threadedL ⟨5,cpu,id,m,n⟩=aX 0 6 from by unfold KT.threadedL;simp [q1,q2]))
   clear q1 q2
   have hPl:=λv=>aD 6 v
   go_wp2_with (
    go_at_call 66
    refine (hPl _).mono ?_
    intro e w2 hN
    obtain ⟨a,c,rfl,hE⟩:=hN.does ((HZ.out.kdrop2.kernel HK.out).on))
   go_ret
   rw [HKL.out.1,HKL.out.2]
   exact ⟨a,c,rfl,hE⟩
  ·have HKL:=zh (And.intro (show k.threaded ⟨6,cpu,id,m,n⟩=k.sleep id ⟨pr,mk,cp,fo,fF,ti⟩ n from by unfold KT.threaded;simp [q1,q2]) (show k.threadedL ⟨6,cpu,id,m,n⟩=aX (k.sleepV ⟨pr,mk,cp,fo,fF,ti⟩ n) (k.sleepE id ⟨pr,mk,cp,fo,fF,ti⟩ n) from by unfold KT.threadedL;simp [q1,q2]))
   have hPl:=λv=>bs (k.sleepV ⟨pr,mk,cp,fo,fF,ti⟩ n) (k.sleepE id ⟨pr,mk,cp,fo,fF,ti⟩ n) v
   have hSl:=λ(v:wW) (xT xb:Nat) (o1 o2:Obj) (hB:On F w ([ak.blk xT o1,ak.blk xb o2]++ag b p k) v)=>On.kcall hB HK.out HT.out.1 HT.out.2 (λF1 h1 hT1 hF1=>xJ h1 hT1 hF1 id ⟨pr,mk,cp,fo,fF,ti⟩ n)
   simp only [kZ] at hSl
   clear q1 q2
   generalize k.sleepV ⟨pr,mk,cp,fo,fF,ti⟩ n=sv at *
   generalize k.sleepE id ⟨pr,mk,cp,fo,fF,ti⟩ n=se at *
   generalize k.sleep id ⟨pr,mk,cp,fo,fF,ti⟩ n=k2 at *
   go_wp2_with (first
    | (
     go_at_call 123
     refine (hSl _ _ _ _ _ HZ.out).mono ?_
     rintro e w2 ⟨rfl,ok2,p2,hE⟩
     have HR:=zh ((hE.kdrop2.kernel ok2).on)
     clear hE ok2)
    | (
     first|(go_at_call 66;refine (hPl _).mono ?_)|(go_at_call 69;refine (hPl _).mono ?_)
     intro e w3 hN
     obtain ⟨a,c,rfl,hE⟩:=hN.does HR.out)
    )
   go_ret
   rw [HKL.out.1,HKL.out.2]
   exact ⟨a,c,rfl,hE⟩
  ·have HKL:=zh (And.intro (show k.threaded ⟨7,cpu,id,m,n⟩=(k.quiet ti).wake id from by unfold KT.threaded;simp [q1,q2]) (show k.threadedL ⟨7,cpu,id,m,n⟩=aX 0 0 from by unfold KT.threadedL;simp [q1,q2]))
   clear q1 q2
   have hPl:=λv=>aD 0 v
   have hQu:=λ(v:wW) (xT xb:Nat) (o1 o2:Obj) (hB:On F w ([ak.blk xT o1,ak.blk xb o2]++ag b p k) v)=>On.kcall hB HK.out HT.out.1 HT.out.2 (λF1 h1 _ _=>oE h1 ti)
   have hWk:=λ(k1:KT) (p2:KP) (v:wW) (xT xb:Nat) (o1 o2:Obj) (hk1:k1.ok) (hB:On F w ([ak.blk xT o1,ak.blk xb o2]++ag b p2 k1) v)=>On.kcall hB hk1 HT.out.1 HT.out.2 (λF1 h1 hT1 hF1=>qM h1 hT1 hF1 id)
   go_wp2_with (first
    | (
     go_at_call 125
     refine (hQu _ _ _ _ _ HZ.out).mono ?_
     rintro e w2 ⟨rfl,ok2,p2,hE⟩
     have e2:w2.cell? ⟨xb,2,nN⟩=sS (vi iQ id):=hE.cell 1 rfl 2
     have hWk:=hWk _ p2 w2 _ _ _ _ ok2 hE
     clear hE ok2)
    | (
     go_at_call 126
     refine hWk.mono ?_
     rintro e w3 ⟨rfl,ok3,p3,hE⟩
     have HR:=zh ((hE.kdrop2.kernel ok3).on)
     clear hE ok3)
    | (
     first|(go_at_call 66;refine (hPl _).mono ?_)|(go_at_call 69;refine (hPl _).mono ?_)
     intro e w3 hN
     obtain ⟨a,c,rfl,hE⟩:=hN.does HR.out)
    )
   go_ret
   rw [HKL.out.1,HKL.out.2]
   exact ⟨a,c,rfl,hE⟩
  ·have HKL:=zh (And.intro (show k.threaded ⟨5,cpu,id,m,n⟩={ k with rq:=k.rq.back id } from by unfold KT.threaded;simp [q1,q2]) (show k.threadedL ⟨5,cpu,id,m,n⟩=aX 0 (k.rq.takeE id) from by unfold KT.threadedL;simp [q1,q2]))
   clear q1 q2
   have hPl:=λv=>aD (k.rq.takeE id) v
   have HO:=zh (show KT.ok { k with rq:=k.rq.back id } from HK.out.wRq (Ea k.rq id))
   have hx:∀ u,af [] V u -> u.cell? ⟨b,1,nN⟩=sS (vp (sS ⟨p.rq,0,nN⟩)) /\ u.cell? ⟨xb,2,nN⟩=sS (vi iQ id):=λu mu=>⟨(HZ.out.keep mu).cell 2 rfl 1,(HZ.out.keep mu).cell 1 rfl 2⟩
   have m0:af [] V V:=af.refl _ _
   have C:=hx V m0
   have hQ:=λ(u:wW) (mu:af [] V u)=>(HZ.out.keep mu).call (P:=tp) (f:=124) 5 rfl (λF1 h1=>Dz h1 id)
   go_wp2
   go_region_held3 (λu=>u.cell? ⟨b,1,nN⟩=sS (vp (sS ⟨p.rq,0,nN⟩)) /\ u.cell? ⟨xb,2,nN⟩=sS (vi iQ id)) (assumption) (first
    | (
     go_at_call 124
     refine (hQ _ (by first|exact m0|exact m0.drewN _|exact m0.drew)).s λv3 hE=>?_
     have hE:On F w ([ak.blk _ _,ak.blk xb (.cells #[vi iQ 5,vi iQ cpu,vi iQ id,vi uQ (m:Nat),vi iQ n] 34 (0,0))]++ag b p { k with rq:=k.rq.back id }) v3:=hE
     have C:v3.cell? ⟨b,1,nN⟩=sS (vp (sS ⟨p.rq,0,nN⟩)) /\ v3.cell? ⟨xb,2,nN⟩=sS (vi iQ id):=⟨hE.cell 2 rfl 1,hE.cell 1 rfl 2⟩
     have HE:=zh hE
     have HR:=zh ((hE.kdrop2.kernel HO.out).on)
     clear hE)
    | (
     go_at_call 66
     refine (hPl _).mono ?_
     intro e v4 hN
     have mN:af [] v3 v4:=by first|exact hN.mods|exact (mR.drewN _).trans hN.mods sM|exact mR.drew.trans hN.mods sM
     have hD:=hN.does (by first|exact HR.out|exact HR.out.keep (mR.drewN _)|exact HR.out.keep mR.drew)
     have C:v4.cell? ⟨b,1,nN⟩=sS (vp (sS ⟨p.rq,0,nN⟩)) /\ v4.cell? ⟨xb,2,nN⟩=sS (vi iQ id):=⟨(HE.out.keep mN).cell 2 rfl 1,(HE.out.keep mN).cell 1 rfl 2⟩
     obtain ⟨a,c,rfl,hD⟩:=hD
     clear hN mN))
   go_wp2
   go_ret
   rw [HKL.out.1,HKL.out.2]
   exact ⟨a,c,rfl,hD⟩
  ·have HKL:=zh (And.intro (show k.threaded ⟨8,cpu,id,m,n⟩=({ k with th:=k.th.aim id m }:KT).mend id from by unfold KT.threaded;simp [q1,q2,hae]) (show k.threadedL ⟨8,cpu,id,m,n⟩=aX 0 0 from by unfold KT.threadedL;simp [q1,q2,hae]))
   clear q1 q2
   have hPl:=λv=>aD 0 v
   have HO:=zh (show KT.ok { k with th:=k.th.aim id m } from HK.out.wTh (zn k.th id m))
   have hMe:=λ(v:wW) (xT xb:Nat) (o1 o2:Obj) (hB:On F w ([ak.blk xT o1,ak.blk xb o2]++ag b p { k with th:=k.th.aim id m }) v)=>On.kcall hB HO.out HT.out.1 HT.out.2 (λF1 h1 hT1 hF1=>qN h1 hT1 hF1 id)
   generalize ({ k with th:=k.th.aim id m }:KT).mend id=k2 at *
   have hx:∀ u,af [] V u -> u.cell? ⟨b,0,nN⟩=sS (vp (sS ⟨p.th,0,nN⟩)) /\ u.cell? ⟨xb,2,nN⟩=sS (vi iQ id) /\ u.cell? ⟨xb,3,nN⟩=sS (vi uQ (m:Nat)):=λu mu=>⟨(HZ.out.keep mu).cell 2 rfl 0,(HZ.out.keep mu).cell 1 rfl 2,(HZ.out.keep mu).cell 1 rfl 3⟩
   have m0:af [] V V:=af.refl _ _
   have C:=hx V m0
   have hQ:=λ(u:wW) (mu:af [] V u)=>(HZ.out.keep mu).call (P:=tp) (f:=121) 4 rfl (λF1 h1=>su h1 id m hm)
   go_wp2
   go_region_held3 (λu=>u.cell? ⟨b,0,nN⟩=sS (vp (sS ⟨p.th,0,nN⟩)) /\ u.cell? ⟨xb,2,nN⟩=sS (vi iQ id) /\ u.cell? ⟨xb,3,nN⟩=sS (vi uQ (m:Nat))) (assumption) (first
    | (
     go_at_call 121
     refine (hQ _ (by first|exact m0|exact m0.drewN _|exact m0.drew)).s λv3 hE=>?_
     (try rw [hae])
     have hE:On F w ([ak.blk _ _,ak.blk xb (.cells #[vi iQ 8,vi iQ cpu,vi iQ id,vi uQ (m:Nat),vi iQ n] 34 (0,0))]++ag b p { k with th:=k.th.aim id m }) v3:=hE
     have C:v3.cell? ⟨b,0,nN⟩=sS (vp (sS ⟨p.th,0,nN⟩)) /\ v3.cell? ⟨xb,2,nN⟩=sS (vi iQ id) /\ v3.cell? ⟨xb,3,nN⟩=sS (vi uQ (m:Nat)):=⟨hE.cell 2 rfl 0,hE.cell 1 rfl 2,hE.cell 1 rfl 3⟩
     have e2:v3.cell? ⟨xb,2,nN⟩=sS (vi iQ id):=hE.cell 1 rfl 2
     have HE:=zh hE
     clear hE))
   have hMe:=hMe _ _ _ _ _ HE.out
   go_wp2_with (first
    | (
     go_at_call 122
     refine hMe.mono ?_
     rintro e w2 ⟨rfl,ok2,p2,hE⟩
     have HR:=zh ((hE.kdrop2.kernel ok2).on)
     clear hE ok2)
    | (
     first|(go_at_call 66;refine (hPl _).mono ?_)|(go_at_call 69;refine (hPl _).mono ?_)
     intro e w3 hN
     obtain ⟨a,c,rfl,hE⟩:=hN.does HR.out)
    )
   go_ret
   rw [HKL.out.1,HKL.out.2]
   exact ⟨a,c,rfl,hE⟩
  ·have HKL:=zh (And.intro (show k.threaded ⟨8,cpu,id,m,n⟩={ k with th:=k.th.aim id m } from by rw [KC k id m hae];unfold KT.threaded;simp [q1,q2,hae]) (show k.threadedL ⟨8,cpu,id,m,n⟩=aX 0 (k.th.aimE id m) from by unfold KT.threadedL;simp [q1,q2]))
   clear q1 q2
   have hPl:=λv=>aD (k.th.aimE id m) v
   have HO:=zh (show KT.ok { k with th:=k.th.aim id m } from HK.out.wTh (zn k.th id m))
   have hI:(k.th.aimE id m==0)=fF:=by simpa using hae
   have hx:∀ u,af [] V u -> u.cell? ⟨b,0,nN⟩=sS (vp (sS ⟨p.th,0,nN⟩)) /\ u.cell? ⟨xb,2,nN⟩=sS (vi iQ id) /\ u.cell? ⟨xb,3,nN⟩=sS (vi uQ (m:Nat)):=λu mu=>⟨(HZ.out.keep mu).cell 2 rfl 0,(HZ.out.keep mu).cell 1 rfl 2,(HZ.out.keep mu).cell 1 rfl 3⟩
   have m0:af [] V V:=af.refl _ _
   have C:=hx V m0
   have hQ:=λ(u:wW) (mu:af [] V u)=>(HZ.out.keep mu).call (P:=tp) (f:=121) 4 rfl (λF1 h1=>su h1 id m hm)
   go_wp2
   go_region_held3 (λu=>u.cell? ⟨b,0,nN⟩=sS (vp (sS ⟨p.th,0,nN⟩)) /\ u.cell? ⟨xb,2,nN⟩=sS (vi iQ id) /\ u.cell? ⟨xb,3,nN⟩=sS (vi uQ (m:Nat))) (assumption) (first
    | (
     go_at_call 121
     refine (hQ _ (by first|exact m0|exact m0.drewN _|exact m0.drew)).s λv3 hE=>?_
     (try rw [hae])
     have hE:On F w ([ak.blk _ _,ak.blk xb (.cells #[vi iQ 8,vi iQ cpu,vi iQ id,vi uQ (m:Nat),vi iQ n] 34 (0,0))]++ag b p { k with th:=k.th.aim id m }) v3:=hE
     have C:v3.cell? ⟨b,0,nN⟩=sS (vp (sS ⟨p.th,0,nN⟩)) /\ v3.cell? ⟨xb,2,nN⟩=sS (vi iQ id) /\ v3.cell? ⟨xb,3,nN⟩=sS (vi uQ (m:Nat)):=⟨hE.cell 2 rfl 0,hE.cell 1 rfl 2,hE.cell 1 rfl 3⟩
     have e2:v3.cell? ⟨xb,2,nN⟩=sS (vi iQ id):=hE.cell 1 rfl 2
     have HE:=zh hE
     clear hE))
   have HR:=zh ((HE.out.kdrop2.kernel HO.out).on)
   go_wp2_with (
    go_at_call 66
    refine (hPl _).mono ?_
    intro e w2 hN
    obtain ⟨a,c,rfl,hE⟩:=hN.does HR.out)
   go_ret
   rw [HKL.out.1,HKL.out.2]
   exact ⟨a,c,rfl,hE⟩
end
end Go.Proofs.YtmiapbgkphpgoaaGreatDoor