/- Walks and plain laws of the kernel. No condition. -/
import Derived.Test.YtmiapbgkphpgoaaGreatDoorKIM
import Derived.Test.YtmiapbgkphpgoaaGreatDoorKHM
import Derived.Test.YtmiapbgkphpgoaaGreatDoorKPM
namespace Go.Proofs.YtmiapbgkphpgoaaGreatDoor
set_option linter.unusedVariables false
set_option linter.unusedSimpArgs false
set_option maxRecDepth 100000
set_option maxHeartbeats 20000000
open Go.RowKit
open Go.Proofs.Tryz renaming prog → tp
open List renaming setIfInBounds_toArray → sA, set_cons_zero → sB, set_cons_succ → sC
open Go renaming World → wW
open Go.Value renaming pointer → vp, bool → vb, int → vi
open Go.IntKind renaming i64 → iQ, u64 → uQ
open Option renaming none → nN, some → sS
open Bool renaming true → tQ, false → fF
open Int renaming eq_ofNat_of_zero_le → iN
section
variable {F:List Nat} {w u:wW} {b:Nat} {p:KP} {k:KT} {l pre:List ak}
theorem vW (g:SG):g.take.l.length=g.l.length:=by unfold SG.take;split<;>rfl
theorem lO (g:SG):g.free.l.length=g.l.length:=by unfold SG.free;split<;>rfl
theorem KT.ok.stage (h:k.ok) (st:Int) (un:Bool) (cpu by_:Int):(k.stage st un cpu by_).ok:=by
 unfold KT.stage
 split;· exact h.undo _ _ _
 split;· exact h.wGt (vW _)
 split;· exact h.come _ _
 exact h.leave _ _ _
theorem rm (h:(aa b k).holds F w) (hT:bA w) (hF:tzL_ren.g 1∉F) (st cpu by_:Int) (fa:Bool):Calls tp 186 #[vp (sS ⟨b,0,nN⟩),.agg #[vi iQ st,vb tQ,vb fa],vi iQ cpu,vi iQ by_] w (al (aa b (k.undo k.dk.up st cpu)) F (vb tQ) w):=by
 obtain ⟨un,hun⟩:∃ un,un=tQ:=⟨_,rfl⟩
 rw [<- hun]
 obtain ⟨hok,p,hA⟩:=ad h
 have hX:=(hA.alloc (.cells #[vi iQ st,vb un,vb fa] 289 (0,0))).front
 have c11:(w.alloc (.cells #[vi iQ st,vb un,vb fa] 289 (0,0))).cell? ⟨b,11,nN⟩=sS (vp (sS ⟨p.dk,0,nN⟩)):=hX.cell 1 rfl 11
 have hU:=hX.ask (P:=tp) (f:=261) 16 rfl (λF1 h1=>oX h1)
 clear hA h hX
 subst hun
 have HO:=zh hok
 clear hok
 go_in
 go_wp2_with (first
  | (
   go_at_call 261
   refine hU.mono ?_
   rintro e w1 ⟨rfl,hB,dr⟩
   have x0:w1.cell? ⟨w.heap.size,0,nN⟩=sS (vi iQ st):=hB.cell 0 rfl 0
   have x1:w1.cell? ⟨w.heap.size,1,nN⟩=sS (vb tQ):=hB.cell 0 rfl 1
   have HP:=zh (On.kcall (pre:=[_]) hB HO.out hT hF (λF1 h1 hT1 hF1=>zC h1 k.dk.up st cpu))
   clear hU hB dr)
  | (
   go_at_call 262
   refine HP.out.mono ?_
   rintro e w2 ⟨rfl,ho,p3,hE⟩
   have HE:=zh (And.intro ho hE)
   clear ho hE HP))
 go_ret
 exact HE.out.2.kdrop1.kturns HE.out.1
theorem oz (h:(aa b k).holds F w) (cpu by_:Int) (fa:Bool):Calls tp 186 #[vp (sS ⟨b,0,nN⟩),.agg #[vi iQ 0,vb fF,vb fa],vi iQ cpu,vi iQ by_] w (al (aa b { k with gt:=k.gt.take }) F (vb (decide (k.gt.takeE=0))) w):=by
 obtain ⟨un,hun⟩:∃ un,un=fF:=⟨_,rfl⟩
 obtain ⟨st,hst⟩:∃ st:Int,st=0:=⟨_,rfl⟩
 rw [<- hun,<- hst]
 obtain ⟨hok,p,hA⟩:=ad h
 have hX:=(hA.alloc (.cells #[vi iQ st,vb un,vb fa] 289 (0,0))).front
 have c11:(w.alloc (.cells #[vi iQ st,vb un,vb fa] 289 (0,0))).cell? ⟨b,11,nN⟩=sS (vp (sS ⟨p.dk,0,nN⟩)):=hX.cell 1 rfl 11
 have hU:=hX.ask (P:=tp) (f:=261) 16 rfl (λF1 h1=>oX h1)
 clear hA h hX
 rw [hst] at c11 hU
 rw [hst]
 clear hst
 subst hun
 have HO:=zh (hok.wGt (vW k.gt))
 generalize k.dk.up=up at *
 clear hok
 have hz:(decide (k.gt.takeE=0))=(k.gt.takeE==0):=by rw [Bool.eq_iff_iff];simp
 rw [hz]
 clear hz
 go_in
 go_wp2_with (first
  | (
   go_at_call 261
   refine hU.mono ?_
   rintro e w1 ⟨rfl,hB,dr⟩
   have x0:w1.cell? ⟨w.heap.size,0,nN⟩=sS (vi iQ 0):=hB.cell 0 rfl 0
   have x1:w1.cell? ⟨w.heap.size,1,nN⟩=sS (vb fF):=hB.cell 0 rfl 1
   have d9:w1.cell? ⟨b,9,nN⟩=sS (vp (sS ⟨p.gt,0,nN⟩)):=hB.cell 1 rfl 9
   have hP:=hB.call (P:=tp) (f:=263) 12 rfl (λF1 h1=>BU h1)
   generalize k.gt.takeE=te at *
   clear hU hB dr)
  | (
   go_at_call 263
   refine hP.s λw2 hE=>?_
   have HE:=zh (show On F w ([_]++ag b p { k with gt:=k.gt.take }) w2 from hE)
   clear hE hP))
 go_ret
 exact HE.out.kdrop1.kturns HO.out
theorem oA (h:(aa b k).holds F w) (hT:bA w) (hF:tzL_ren.g 1∉F) (st cpu by_:Int) (fa:Bool) (hs:st≠0) (hup:k.dk.up=tQ):Calls tp 186 #[vp (sS ⟨b,0,nN⟩),.agg #[vi iQ st,vb fF,vb fa],vi iQ cpu,vi iQ by_] w (al (aa b (k.come st cpu)) F (vb tQ) w):=by
 obtain ⟨un,hun⟩:∃ un,un=fF:=⟨_,rfl⟩
 rw [<- hun]
 obtain ⟨hok,p,hA⟩:=ad h
 have hX:=(hA.alloc (.cells #[vi iQ st,vb un,vb fa] 289 (0,0))).front
 have c11:(w.alloc (.cells #[vi iQ st,vb un,vb fa] 289 (0,0))).cell? ⟨b,11,nN⟩=sS (vp (sS ⟨p.dk,0,nN⟩)):=hX.cell 1 rfl 11
 have hU:=hX.ask (P:=tp) (f:=261) 16 rfl (λF1 h1=>oX h1)
 clear hA h hX
 subst hun
 rw [hup] at hU
 have q0:(st==0)=fF:=by simpa using hs
 have HO:=zh hok
 clear hok hup hs
 go_in
 go_wp2_with (first
  | (
   go_at_call 261
   refine hU.mono ?_
   rintro e w1 ⟨rfl,hB,dr⟩
   have x0:w1.cell? ⟨w.heap.size,0,nN⟩=sS (vi iQ st):=hB.cell 0 rfl 0
   have x1:w1.cell? ⟨w.heap.size,1,nN⟩=sS (vb fF):=hB.cell 0 rfl 1
   have HP:=zh (On.kcall (pre:=[_]) hB HO.out hT hF (λF1 h1 hT1 hF1=>zM h1 hT1 hF1 st cpu))
   clear hU hB dr)
  | (
   go_at_call 264
   refine HP.out.mono ?_
   rintro e w2 ⟨rfl,ho,p3,hE⟩
   have HE:=zh (And.intro ho hE)
   clear ho hE HP))
 go_ret
 exact HE.out.2.kdrop1.kturns HE.out.1
theorem nj (h:(aa b k).holds F w) (hT:bA w) (hF:tzL_ren.g 1∉F) (st cpu by_:Int) (fa:Bool) (hs:st≠0) (hup:k.dk.up=fF):Calls tp 186 #[vp (sS ⟨b,0,nN⟩),.agg #[vi iQ st,vb fF,vb fa],vi iQ cpu,vi iQ by_] w (al (aa b (k.leave st cpu by_)) F (vb (k.leaveB st cpu by_)) w):=by
 obtain ⟨un,hun⟩:∃ un,un=fF:=⟨_,rfl⟩
 rw [<- hun]
 obtain ⟨hok,p,hA⟩:=ad h
 have hX:=(hA.alloc (.cells #[vi iQ st,vb un,vb fa] 289 (0,0))).front
 have c11:(w.alloc (.cells #[vi iQ st,vb un,vb fa] 289 (0,0))).cell? ⟨b,11,nN⟩=sS (vp (sS ⟨p.dk,0,nN⟩)):=hX.cell 1 rfl 11
 have hU:=hX.ask (P:=tp) (f:=261) 16 rfl (λF1 h1=>oX h1)
 clear hA h hX
 subst hun
 rw [hup] at hU
 have q0:(st==0)=fF:=by simpa using hs
 have HO:=zh hok
 have hL:=λF1 w1 (h1:(aa b k).holds F1 w1) hT1 hF1=>xK h1 hT1 hF1 st cpu by_
 generalize k.leaveB st cpu by_=lb at *
 clear hok hup hs
 go_in
 go_wp2_with (first
  | (
   go_at_call 261
   refine hU.mono ?_
   rintro e w1 ⟨rfl,hB,dr⟩
   have x0:w1.cell? ⟨w.heap.size,0,nN⟩=sS (vi iQ st):=hB.cell 0 rfl 0
   have x1:w1.cell? ⟨w.heap.size,1,nN⟩=sS (vb fF):=hB.cell 0 rfl 1
   have HP:=zh (On.kcall (pre:=[_]) hB HO.out hT hF (λF1 h1 hT1 hF1=>hL F1 _ h1 hT1 hF1))
   clear hU hB dr)
  | (
   go_at_call 265
   refine HP.out.mono ?_
   rintro e w2 ⟨rfl,ho,p3,hE⟩
   have HE:=zh (And.intro ho hE)
   clear ho hE HP))
 go_ret
 exact HE.out.2.kdrop1.kturns HE.out.1
theorem oB (h:(aa b k).holds F w) (hT:bA w) (hF:tzL_ren.g 1∉F) (st:Int) (un fa:Bool) (cpu by_:Int):Calls tp 186 #[vp (sS ⟨b,0,nN⟩),.agg #[vi iQ st,vb un,vb fa],vi iQ cpu,vi iQ by_] w (al (aa b (k.stage st un cpu by_)) F (vb (k.stageB st un cpu by_)) w):=by
 cases un
 ·by_cases hs:st=0
  ·subst hs
   have:=oz h cpu by_ fa
   simpa only [KT.stage,KT.stageB,Bool.false_eq_true,if_false,if_true] using this
  ·cases hup:k.dk.up
   ·have:=nj h hT hF st cpu by_ fa hs hup
    simpa only [KT.stage,KT.stageB,Bool.false_eq_true,if_false,nG hs,hup] using this
   ·have:=oA h hT hF st cpu by_ fa hs hup
    simpa only [KT.stage,KT.stageB,Bool.false_eq_true,if_false,nG hs,hup,if_true] using this
 ·have:=rm h hT hF st cpu by_ fa
  simpa only [KT.stage,KT.stageB,if_true] using this
theorem sy (s:SH):s.step=.agg #[vi iQ s.stK,vb s.stU,vb s.stF]:=by
 unfold SH.step SH.stK SH.stU SH.stF
 cases s.run with
 | none=>rfl
 | some r=>
  simp only []
  cases r.over<;>rfl
theorem KT.ok.turn1 (h:k.ok) (by_:Int):(k.turn1 by_).ok:=by
 unfold KT.turn1
 simp only []
 split
 ·exact h.wDk _
 ·split
  ·exact ((h.wDk _).stage _ _ _ _).wDk _
  ·exact (h.wDk _).stage _ _ _ _
theorem KT.ok.turn (h:k.ok) (by_:Int):(k.turn by_).ok:=by
 unfold KT.turn
 split
 ·exact ((h.turn1 by_).wDk (k.turn1 by_).dk.end_).wGt (lO (k.turn1 by_).gt)
 ·exact h.turn1 by_
theorem KT.turn_over (k:KT) (by_:Int) {K:KT} (e:k.turn1 by_=K) (h:K.dk.over=tQ):k.turn by_={ K with dk:=K.dk.end_,gt:=K.gt.free } /\ k.turnL by_=[⟨7,k.dk.cpu,0,0,K.dk.endV⟩]:=by
 unfold KT.turn KT.turnL
 rw [e,pG h,pG h]
 exact ⟨rfl,rfl⟩
theorem KT.turn_on (k:KT) (by_:Int) {K:KT} (e:k.turn1 by_=K) (h:K.dk.over=fF):k.turn by_=K /\ k.turnL by_=[]:=by
 unfold KT.turn KT.turnL
 rw [e,h]
 exact ⟨rfl,rfl⟩
theorem oy (h:(aa b k).holds F w) (by_:Int) (hFa:k.dk.stF=tQ):Calls tp 111 #[vp (sS ⟨b,0,nN⟩),vi iQ by_] w (bo b (k.turn by_) (k.turnL by_) F w):=by
 have eT:k.turn1 by_={ k with dk:=k.dk.next }:=by unfold KT.turn1;rw [hFa];rfl
 obtain ⟨K2,hK2⟩:∃ K2:KT,K2=k:=⟨k,rfl⟩
 clear hK2
 obtain ⟨hok,p,hA⟩:=ad h
 have c11:w.cell? ⟨b,11,nN⟩=sS (vp (sS ⟨p.dk,0,nN⟩)):=hA.kC 11
 have hCp:=hA.ask (P:=tp) (f:=184) 15 rfl (λF1 h1=>qo h1)
 have hok1:=zh (hok.wDk k.dk.next)
 have hag:eQ k.dk=.tuple #[.agg #[vi iQ k.dk.stK,vb k.dk.stU,vb k.dk.stF],vi iQ k.dk.mayE]:=by unfold eQ;rw [sy]
 have hNx:=λv (hB:On F w (ag b p k) v)=>hB.call (P:=tp) (f:=185) 15 rfl (λF1 h1=>nu h1)
 rw [hag] at hNx
 rw [hFa] at hNx
 generalize k.dk.stK=st at *
 generalize k.dk.stU=un at *
 generalize k.dk.mayE=me at *
 clear hFa
 cases hO:(({ k with dk:=k.dk.next }:KT)).dk.over
 ·obtain ⟨e1,e2⟩:=KT.turn_on k by_ eT hO
  rw [e1,e2]
  have hov:(({ k with dk:=k.dk.next }:KT)).dk.over=fF:=hO
  generalize hcp:k.dk.cpu=cp at *
  clear hA h hok e1 e2 eT hag hO hcp
  go_in
  go_wp2_with
   (first
    | (
     go_at_call 184
     refine hCp.mono ?_
     rintro e w1 ⟨rfl,hB,dr⟩
     have d11:w1.cell? ⟨b,11,nN⟩=sS (vp (sS ⟨p.dk,0,nN⟩)):=hB.kC 11
     have hN:=hNx w1 hB
     clear hCp hNx hB dr)
    | (
     go_at_call 185
     refine hN.s λw2 hB=>?_
     have hcur:=((show On F w (ag b p { k with dk:=k.dk.next }) w2 from hB).alloc (.cells #[vi iQ st,vb un,vb tQ] 289 (0,0))).front
     have x0:(w2.alloc (.cells #[vi iQ st,vb un,vb tQ] 289 (0,0))).cell? ⟨w2.heap.size,0,nN⟩=sS (vi iQ st):=hcur.cell 0 rfl 0
     have x1:(w2.alloc (.cells #[vi iQ st,vb un,vb tQ] 289 (0,0))).cell? ⟨w2.heap.size,1,nN⟩=sS (vb un):=hcur.cell 0 rfl 1
     have x2:(w2.alloc (.cells #[vi iQ st,vb un,vb tQ] 289 (0,0))).cell? ⟨w2.heap.size,2,nN⟩=sS (vb tQ):=hcur.cell 0 rfl 2
     have d11:(w2.alloc (.cells #[vi iQ st,vb un,vb tQ] 289 (0,0))).cell? ⟨b,11,nN⟩=sS (vp (sS ⟨p.dk,0,nN⟩)):=hcur.cell 1 rfl 11
     have HC:=zh hcur
     (have hOv:=hcur.ask (P:=tp) (f:=188) 16 rfl (λF1 h1=>cL h1);rw [hov] at hOv)
     clear hN hB hcur)
    | (
     go_at_call 186
     refine HP.out.mono ?_
     rintro e w3 ⟨rfl,ho,p3,hE⟩
     have hE:On F w ([ak.blk w2.heap.size (.cells #[vi iQ st,vb un,vb tQ] 289 (0,0))]++ag b p3 K2) w3:=hE
     have d11:w3.cell? ⟨b,11,nN⟩=sS (vp (sS ⟨p3.dk,0,nN⟩)):=hE.cell 1 rfl 11
     have HC3:=zh (And.intro ho hE)
     skip
     clear ho hE HP)
    | (
     go_at_call 187
     refine hDn.s λw4 hE=>?_
     have hE:On F w ([ak.blk w2.heap.size (.cells #[vi iQ st,vb un,vb tQ] 289 (0,0))]++ag b p3 { K2 with dk:=K2.dk.done }) w4:=hE
     have d11:w4.cell? ⟨b,11,nN⟩=sS (vp (sS ⟨p3.dk,0,nN⟩)):=hE.cell 1 rfl 11
     have HC4:=zh hE
     have hOv:=hE.ask (P:=tp) (f:=188) 16 rfl (λF1 h1=>cL h1)
     (try (have hov2:K2.dk.done.over=_:=hov;rw [hov2] at hOv))
     clear hE hDn)
    | (
     go_at_call 188
     refine hOv.mono ?_
     rintro e w5 ⟨rfl,hE,dr⟩
     have d11:w5.cell? ⟨b,11,nN⟩=sS (vp (sS ⟨p.dk,0,nN⟩)):=hE.cell 1 rfl 11
     have HC5:=zh hE
     have hEn:=hE.call (P:=tp) (f:=189) 16 rfl (λF1 h1=>iz h1)
     clear dr hOv hE)
    | (
     go_at_call 189
     refine hEn.s λw6 hE=>?_
     have hE:On F w ([ak.blk w2.heap.size (.cells #[vi iQ st,vb un,vb tQ] 289 (0,0))]++ag b p { ({ k with dk:=k.dk.next }:KT) with dk:=(({ k with dk:=k.dk.next }:KT)).dk.end_ }) w6:=hE
     have d9:w6.cell? ⟨b,9,nN⟩=sS (vp (sS ⟨p.gt,0,nN⟩)):=hE.cell 1 rfl 9
     have hFr:=hE.call (P:=tp) (f:=190) 12 rfl (λF1 h1=>gj h1)
     clear hEn hE)
    | (
     go_at_call 190
     refine hFr.s λw7 hE=>?_
     have HC7:=zh (show On F w ([ak.blk w2.heap.size (.cells #[vi iQ st,vb un,vb tQ] 289 (0,0))]++ag b p { ({ k with dk:=k.dk.next }:KT) with dk:=(({ k with dk:=k.dk.next }:KT)).dk.end_,gt:=(({ k with dk:=k.dk.next }:KT)).gt.free }) w7 from hE)
     clear hFr hE))
  go_ret
  exact ⟨nN,0,rfl,((HC5.out.kdrop1.kernel (hok1.out)).on).more (P:=jB nN []) (.inl ⟨rfl,rfl⟩)⟩
 ·obtain ⟨e1,e2⟩:=KT.turn_over k by_ eT hO
  rw [e1,e2]
  have hov:(({ k with dk:=k.dk.next }:KT)).dk.over=tQ:=hO
  generalize hcp:k.dk.cpu=cp at *
  clear hA h hok e1 e2 eT hag hO hcp
  go_in
  go_wp2_with
   (first
    | (
     go_at_call 184
     refine hCp.mono ?_
     rintro e w1 ⟨rfl,hB,dr⟩
     have d11:w1.cell? ⟨b,11,nN⟩=sS (vp (sS ⟨p.dk,0,nN⟩)):=hB.kC 11
     have hN:=hNx w1 hB
     clear hCp hNx hB dr)
    | (
     go_at_call 185
     refine hN.s λw2 hB=>?_
     have hcur:=((show On F w (ag b p { k with dk:=k.dk.next }) w2 from hB).alloc (.cells #[vi iQ st,vb un,vb tQ] 289 (0,0))).front
     have x0:(w2.alloc (.cells #[vi iQ st,vb un,vb tQ] 289 (0,0))).cell? ⟨w2.heap.size,0,nN⟩=sS (vi iQ st):=hcur.cell 0 rfl 0
     have x1:(w2.alloc (.cells #[vi iQ st,vb un,vb tQ] 289 (0,0))).cell? ⟨w2.heap.size,1,nN⟩=sS (vb un):=hcur.cell 0 rfl 1
     have x2:(w2.alloc (.cells #[vi iQ st,vb un,vb tQ] 289 (0,0))).cell? ⟨w2.heap.size,2,nN⟩=sS (vb tQ):=hcur.cell 0 rfl 2
     have d11:(w2.alloc (.cells #[vi iQ st,vb un,vb tQ] 289 (0,0))).cell? ⟨b,11,nN⟩=sS (vp (sS ⟨p.dk,0,nN⟩)):=hcur.cell 1 rfl 11
     have HC:=zh hcur
     (have hOv:=hcur.ask (P:=tp) (f:=188) 16 rfl (λF1 h1=>cL h1);rw [hov] at hOv)
     clear hN hB hcur)
    | (
     go_at_call 186
     refine HP.out.mono ?_
     rintro e w3 ⟨rfl,ho,p3,hE⟩
     have hE:On F w ([ak.blk w2.heap.size (.cells #[vi iQ st,vb un,vb tQ] 289 (0,0))]++ag b p3 K2) w3:=hE
     have d11:w3.cell? ⟨b,11,nN⟩=sS (vp (sS ⟨p3.dk,0,nN⟩)):=hE.cell 1 rfl 11
     have HC3:=zh (And.intro ho hE)
     skip
     clear ho hE HP)
    | (
     go_at_call 187
     refine hDn.s λw4 hE=>?_
     have hE:On F w ([ak.blk w2.heap.size (.cells #[vi iQ st,vb un,vb tQ] 289 (0,0))]++ag b p3 { K2 with dk:=K2.dk.done }) w4:=hE
     have d11:w4.cell? ⟨b,11,nN⟩=sS (vp (sS ⟨p3.dk,0,nN⟩)):=hE.cell 1 rfl 11
     have HC4:=zh hE
     have hOv:=hE.ask (P:=tp) (f:=188) 16 rfl (λF1 h1=>cL h1)
     (try (have hov2:K2.dk.done.over=_:=hov;rw [hov2] at hOv))
     clear hE hDn)
    | (
     go_at_call 188
     refine hOv.mono ?_
     rintro e w5 ⟨rfl,hE,dr⟩
     have d11:w5.cell? ⟨b,11,nN⟩=sS (vp (sS ⟨p.dk,0,nN⟩)):=hE.cell 1 rfl 11
     have HC5:=zh hE
     have hEn:=hE.call (P:=tp) (f:=189) 16 rfl (λF1 h1=>iz h1)
     clear dr hOv hE)
    | (
     go_at_call 189
     refine hEn.s λw6 hE=>?_
     have hE:On F w ([ak.blk w2.heap.size (.cells #[vi iQ st,vb un,vb tQ] 289 (0,0))]++ag b p { ({ k with dk:=k.dk.next }:KT) with dk:=(({ k with dk:=k.dk.next }:KT)).dk.end_ }) w6:=hE
     have d9:w6.cell? ⟨b,9,nN⟩=sS (vp (sS ⟨p.gt,0,nN⟩)):=hE.cell 1 rfl 9
     have hFr:=hE.call (P:=tp) (f:=190) 12 rfl (λF1 h1=>gj h1)
     clear hEn hE)
    | (
     go_at_call 190
     refine hFr.s λw7 hE=>?_
     have HC7:=zh (show On F w ([ak.blk w2.heap.size (.cells #[vi iQ st,vb un,vb tQ] 289 (0,0))]++ag b p { ({ k with dk:=k.dk.next }:KT) with dk:=(({ k with dk:=k.dk.next }:KT)).dk.end_,gt:=(({ k with dk:=k.dk.next }:KT)).gt.free }) w7 from hE)
     clear hFr hE))
  go_ret
  have:gC [⟨7,cp,0,0,(({ k with dk:=k.dk.next }:KT)).dk.endV⟩] w7 (.returned (.slice (sS ⟨w7.heap.size,0,nN⟩) 1 1)) (w7.alloc (.cells #[vi iQ 7,vi iQ cp,vi iQ 0,vi iQ 0,vi iQ (({ k with dk:=k.dk.next }:KT)).dk.endV] 63 (0,0))):=
   ⟨_,1,rfl,mR.alloc _,.inr ⟨rfl,_,rfl,Nat.le_refl _,ai _ _⟩⟩
  exact this.does ((HC7.out.kdrop1.kernel (((hok1.out).wDk (({ k with dk:=k.dk.next }:KT)).dk.end_).wGt (lO (({ k with dk:=k.dk.next }:KT)).gt))).on)
def KT.wdk (k:KT) (d:SH):KT:={ k with dk:=d }
theorem ox (h:(aa b k).holds F w) (hT:bA w) (hF:tzL_ren.g 1∉F) (by_:Int) (hFa:k.dk.stF=fF) (hBb:({ k with dk:=k.dk.next }:KT).stageB k.dk.stK k.dk.stU k.dk.cpu by_=fF):Calls tp 111 #[vp (sS ⟨b,0,nN⟩),vi iQ by_] w (bo b (k.turn by_) (k.turnL by_) F w):=by
 have eT:k.turn1 by_=({ k with dk:=k.dk.next }:KT).stage k.dk.stK k.dk.stU k.dk.cpu by_:=by unfold KT.turn1;simp only [];rw [hFa,hBb];rfl
 obtain ⟨hok,p,hA⟩:=ad h
 have c11:w.cell? ⟨b,11,nN⟩=sS (vp (sS ⟨p.dk,0,nN⟩)):=hA.kC 11
 have hCp:=hA.ask (P:=tp) (f:=184) 15 rfl (λF1 h1=>qo h1)
 have hok1:=zh (hok.wDk k.dk.next)
 have hag:eQ k.dk=.tuple #[.agg #[vi iQ k.dk.stK,vb k.dk.stU,vb k.dk.stF],vi iQ k.dk.mayE]:=by unfold eQ;rw [sy]
 have hNx:=λv (hB:On F w (ag b p k) v)=>hB.call (P:=tp) (f:=185) 15 rfl (λF1 h1=>nu h1)
 rw [hag] at hNx
 rw [hFa] at hNx
 have hSt:=λ(xb:Nat) (v:wW) (hB:On F w ([ak.blk xb (.cells #[vi iQ k.dk.stK,vb k.dk.stU,vb fF] 289 (0,0))]++ag b p { k with dk:=k.dk.next }) v)=>On.kcall hB hok1.out hT hF (λF1 h1 hT1 hF1=>oB h1 hT1 hF1 k.dk.stK k.dk.stU fF k.dk.cpu by_)
 rw [hBb] at hSt
 generalize hk2:({ k with dk:=k.dk.next }:KT).stage k.dk.stK k.dk.stU k.dk.cpu by_=K2 at *
 generalize k.dk.stK=st at *
 generalize k.dk.stU=un at *
 generalize k.dk.mayE=me at *
 clear hFa hBb hk2
 cases hO:(K2).dk.over
 ·obtain ⟨e1,e2⟩:=KT.turn_on k by_ eT hO
  rw [e1,e2]
  have hov:(K2).dk.over=fF:=hO
  generalize hcp:k.dk.cpu=cp at *
  clear hA h hok e1 e2 eT hag hO hcp
  go_in
  go_wp2_with
   (first
    | (
     go_at_call 184
     refine hCp.mono ?_
     rintro e w1 ⟨rfl,hB,dr⟩
     have d11:w1.cell? ⟨b,11,nN⟩=sS (vp (sS ⟨p.dk,0,nN⟩)):=hB.kC 11
     have hN:=hNx w1 hB
     clear hCp hNx hB dr)
    | (
     go_at_call 185
     refine hN.s λw2 hB=>?_
     have hcur:=((show On F w (ag b p { k with dk:=k.dk.next }) w2 from hB).alloc (.cells #[vi iQ st,vb un,vb fF] 289 (0,0))).front
     have x0:(w2.alloc (.cells #[vi iQ st,vb un,vb fF] 289 (0,0))).cell? ⟨w2.heap.size,0,nN⟩=sS (vi iQ st):=hcur.cell 0 rfl 0
     have x1:(w2.alloc (.cells #[vi iQ st,vb un,vb fF] 289 (0,0))).cell? ⟨w2.heap.size,1,nN⟩=sS (vb un):=hcur.cell 0 rfl 1
     have x2:(w2.alloc (.cells #[vi iQ st,vb un,vb fF] 289 (0,0))).cell? ⟨w2.heap.size,2,nN⟩=sS (vb fF):=hcur.cell 0 rfl 2
     have d11:(w2.alloc (.cells #[vi iQ st,vb un,vb fF] 289 (0,0))).cell? ⟨b,11,nN⟩=sS (vp (sS ⟨p.dk,0,nN⟩)):=hcur.cell 1 rfl 11
     have HC:=zh hcur
     (have HP:=zh (hSt w2.heap.size _ hcur);clear hSt)
     clear hN hB hcur)
    | (
     go_at_call 186
     refine HP.out.mono ?_
     rintro e w3 ⟨rfl,ho,p3,hE⟩
     have hE:On F w ([ak.blk w2.heap.size (.cells #[vi iQ st,vb un,vb fF] 289 (0,0))]++ag b p3 K2) w3:=hE
     have d11:w3.cell? ⟨b,11,nN⟩=sS (vp (sS ⟨p3.dk,0,nN⟩)):=hE.cell 1 rfl 11
     have HC3:=zh (And.intro ho hE)
     (have hOv:=hE.ask (P:=tp) (f:=188) 16 rfl (λF1 h1=>cL h1);rw [hov] at hOv)
     clear ho hE HP)
    | (
     go_at_call 187
     refine hDn.s λw4 hE=>?_
     have hE:On F w ([ak.blk w2.heap.size (.cells #[vi iQ st,vb un,vb fF] 289 (0,0))]++ag b p3 { K2 with dk:=K2.dk.done }) w4:=hE
     have d11:w4.cell? ⟨b,11,nN⟩=sS (vp (sS ⟨p3.dk,0,nN⟩)):=hE.cell 1 rfl 11
     have HC4:=zh hE
     have hOv:=hE.ask (P:=tp) (f:=188) 16 rfl (λF1 h1=>cL h1)
     (try (have hov2:K2.dk.done.over=_:=hov;rw [hov2] at hOv))
     clear hE hDn)
    | (
     go_at_call 188
     refine hOv.mono ?_
     rintro e w5 ⟨rfl,hE,dr⟩
     have d11:w5.cell? ⟨b,11,nN⟩=sS (vp (sS ⟨p3.dk,0,nN⟩)):=hE.cell 1 rfl 11
     have HC5:=zh hE
     have hEn:=hE.call (P:=tp) (f:=189) 16 rfl (λF1 h1=>iz h1)
     clear dr hOv hE)
    | (
     go_at_call 189
     refine hEn.s λw6 hE=>?_
     have hE:On F w ([ak.blk w2.heap.size (.cells #[vi iQ st,vb un,vb fF] 289 (0,0))]++ag b p3 { K2 with dk:=(K2).dk.end_ }) w6:=hE
     have d9:w6.cell? ⟨b,9,nN⟩=sS (vp (sS ⟨p3.gt,0,nN⟩)):=hE.cell 1 rfl 9
     have hFr:=hE.call (P:=tp) (f:=190) 12 rfl (λF1 h1=>gj h1)
     clear hEn hE)
    | (
     go_at_call 190
     refine hFr.s λw7 hE=>?_
     have HC7:=zh (show On F w ([ak.blk w2.heap.size (.cells #[vi iQ st,vb un,vb fF] 289 (0,0))]++ag b p3 { K2 with dk:=(K2).dk.end_,gt:=(K2).gt.free }) w7 from hE)
     clear hFr hE))
  go_ret
  exact ⟨nN,0,rfl,((HC5.out.kdrop1.kernel (HC3.out.1)).on).more (P:=jB nN []) (.inl ⟨rfl,rfl⟩)⟩
 ·obtain ⟨e1,e2⟩:=KT.turn_over k by_ eT hO
  rw [e1,e2]
  have hov:(K2).dk.over=tQ:=hO
  generalize hcp:k.dk.cpu=cp at *
  clear hA h hok e1 e2 eT hag hO hcp
  go_in
  go_wp2_with
   (first
    | (
     go_at_call 184
     refine hCp.mono ?_
     rintro e w1 ⟨rfl,hB,dr⟩
     have d11:w1.cell? ⟨b,11,nN⟩=sS (vp (sS ⟨p.dk,0,nN⟩)):=hB.kC 11
     have hN:=hNx w1 hB
     clear hCp hNx hB dr)
    | (
     go_at_call 185
     refine hN.s λw2 hB=>?_
     have hcur:=((show On F w (ag b p { k with dk:=k.dk.next }) w2 from hB).alloc (.cells #[vi iQ st,vb un,vb fF] 289 (0,0))).front
     have x0:(w2.alloc (.cells #[vi iQ st,vb un,vb fF] 289 (0,0))).cell? ⟨w2.heap.size,0,nN⟩=sS (vi iQ st):=hcur.cell 0 rfl 0
     have x1:(w2.alloc (.cells #[vi iQ st,vb un,vb fF] 289 (0,0))).cell? ⟨w2.heap.size,1,nN⟩=sS (vb un):=hcur.cell 0 rfl 1
     have x2:(w2.alloc (.cells #[vi iQ st,vb un,vb fF] 289 (0,0))).cell? ⟨w2.heap.size,2,nN⟩=sS (vb fF):=hcur.cell 0 rfl 2
     have d11:(w2.alloc (.cells #[vi iQ st,vb un,vb fF] 289 (0,0))).cell? ⟨b,11,nN⟩=sS (vp (sS ⟨p.dk,0,nN⟩)):=hcur.cell 1 rfl 11
     have HC:=zh hcur
     (have HP:=zh (hSt w2.heap.size _ hcur);clear hSt)
     clear hN hB hcur)
    | (
     go_at_call 186
     refine HP.out.mono ?_
     rintro e w3 ⟨rfl,ho,p3,hE⟩
     have hE:On F w ([ak.blk w2.heap.size (.cells #[vi iQ st,vb un,vb fF] 289 (0,0))]++ag b p3 K2) w3:=hE
     have d11:w3.cell? ⟨b,11,nN⟩=sS (vp (sS ⟨p3.dk,0,nN⟩)):=hE.cell 1 rfl 11
     have HC3:=zh (And.intro ho hE)
     (have hOv:=hE.ask (P:=tp) (f:=188) 16 rfl (λF1 h1=>cL h1);rw [hov] at hOv)
     clear ho hE HP)
    | (
     go_at_call 187
     refine hDn.s λw4 hE=>?_
     have hE:On F w ([ak.blk w2.heap.size (.cells #[vi iQ st,vb un,vb fF] 289 (0,0))]++ag b p3 { K2 with dk:=K2.dk.done }) w4:=hE
     have d11:w4.cell? ⟨b,11,nN⟩=sS (vp (sS ⟨p3.dk,0,nN⟩)):=hE.cell 1 rfl 11
     have HC4:=zh hE
     have hOv:=hE.ask (P:=tp) (f:=188) 16 rfl (λF1 h1=>cL h1)
     (try (have hov2:K2.dk.done.over=_:=hov;rw [hov2] at hOv))
     clear hE hDn)
    | (
     go_at_call 188
     refine hOv.mono ?_
     rintro e w5 ⟨rfl,hE,dr⟩
     have d11:w5.cell? ⟨b,11,nN⟩=sS (vp (sS ⟨p3.dk,0,nN⟩)):=hE.cell 1 rfl 11
     have HC5:=zh hE
     have hEn:=hE.call (P:=tp) (f:=189) 16 rfl (λF1 h1=>iz h1)
     clear dr hOv hE)
    | (
     go_at_call 189
     refine hEn.s λw6 hE=>?_
     have hE:On F w ([ak.blk w2.heap.size (.cells #[vi iQ st,vb un,vb fF] 289 (0,0))]++ag b p3 { K2 with dk:=(K2).dk.end_ }) w6:=hE
     have d9:w6.cell? ⟨b,9,nN⟩=sS (vp (sS ⟨p3.gt,0,nN⟩)):=hE.cell 1 rfl 9
     have hFr:=hE.call (P:=tp) (f:=190) 12 rfl (λF1 h1=>gj h1)
     clear hEn hE)
    | (
     go_at_call 190
     refine hFr.s λw7 hE=>?_
     have HC7:=zh (show On F w ([ak.blk w2.heap.size (.cells #[vi iQ st,vb un,vb fF] 289 (0,0))]++ag b p3 { K2 with dk:=(K2).dk.end_,gt:=(K2).gt.free }) w7 from hE)
     clear hFr hE))
  go_ret
  have:gC [⟨7,cp,0,0,(K2).dk.endV⟩] w7 (.returned (.slice (sS ⟨w7.heap.size,0,nN⟩) 1 1)) (w7.alloc (.cells #[vi iQ 7,vi iQ cp,vi iQ 0,vi iQ 0,vi iQ (K2).dk.endV] 63 (0,0))):=
   ⟨_,1,rfl,mR.alloc _,.inr ⟨rfl,_,rfl,Nat.le_refl _,ai _ _⟩⟩
  exact this.does ((HC7.out.kdrop1.kernel (((HC3.out.1).wDk (K2).dk.end_).wGt (lO (K2).gt))).on)
theorem pN (h:(aa b k).holds F w) (hT:bA w) (hF:tzL_ren.g 1∉F) (by_:Int) (hFa:k.dk.stF=fF) (hBb:({ k with dk:=k.dk.next }:KT).stageB k.dk.stK k.dk.stU k.dk.cpu by_=tQ):Calls tp 111 #[vp (sS ⟨b,0,nN⟩),vi iQ by_] w (bo b (k.turn by_) (k.turnL by_) F w):=by
 have eT:k.turn1 by_=(({ k with dk:=k.dk.next }:KT).stage k.dk.stK k.dk.stU k.dk.cpu by_).wdk (({ k with dk:=k.dk.next }:KT).stage k.dk.stK k.dk.stU k.dk.cpu by_).dk.done:=by unfold KT.turn1;simp only [];rw [hFa,hBb];rfl
 obtain ⟨hok,p,hA⟩:=ad h
 have c11:w.cell? ⟨b,11,nN⟩=sS (vp (sS ⟨p.dk,0,nN⟩)):=hA.kC 11
 have hCp:=hA.ask (P:=tp) (f:=184) 15 rfl (λF1 h1=>qo h1)
 have hok1:=zh (hok.wDk k.dk.next)
 have hag:eQ k.dk=.tuple #[.agg #[vi iQ k.dk.stK,vb k.dk.stU,vb k.dk.stF],vi iQ k.dk.mayE]:=by unfold eQ;rw [sy]
 have hNx:=λv (hB:On F w (ag b p k) v)=>hB.call (P:=tp) (f:=185) 15 rfl (λF1 h1=>nu h1)
 rw [hag] at hNx
 rw [hFa] at hNx
 have hSt:=λ(xb:Nat) (v:wW) (hB:On F w ([ak.blk xb (.cells #[vi iQ k.dk.stK,vb k.dk.stU,vb fF] 289 (0,0))]++ag b p { k with dk:=k.dk.next }) v)=>On.kcall hB hok1.out hT hF (λF1 h1 hT1 hF1=>oB h1 hT1 hF1 k.dk.stK k.dk.stU fF k.dk.cpu by_)
 rw [hBb] at hSt
 generalize hk2:({ k with dk:=k.dk.next }:KT).stage k.dk.stK k.dk.stU k.dk.cpu by_=K2 at *
 generalize k.dk.stK=st at *
 generalize k.dk.stU=un at *
 generalize k.dk.mayE=me at *
 clear hFa hBb hk2
 cases hO:((K2.wdk K2.dk.done)).dk.over
 ·obtain ⟨e1,e2⟩:=KT.turn_on k by_ eT hO
  rw [e1,e2]
  have hov:((K2.wdk K2.dk.done)).dk.over=fF:=hO
  generalize hcp:k.dk.cpu=cp at *
  clear hA h hok e1 e2 eT hag hO hcp
  go_in
  go_wp2_with
   (first
    | (
     go_at_call 184
     refine hCp.mono ?_
     rintro e w1 ⟨rfl,hB,dr⟩
     have d11:w1.cell? ⟨b,11,nN⟩=sS (vp (sS ⟨p.dk,0,nN⟩)):=hB.kC 11
     have hN:=hNx w1 hB
     clear hCp hNx hB dr)
    | (
     go_at_call 185
     refine hN.s λw2 hB=>?_
     have hcur:=((show On F w (ag b p { k with dk:=k.dk.next }) w2 from hB).alloc (.cells #[vi iQ st,vb un,vb fF] 289 (0,0))).front
     have x0:(w2.alloc (.cells #[vi iQ st,vb un,vb fF] 289 (0,0))).cell? ⟨w2.heap.size,0,nN⟩=sS (vi iQ st):=hcur.cell 0 rfl 0
     have x1:(w2.alloc (.cells #[vi iQ st,vb un,vb fF] 289 (0,0))).cell? ⟨w2.heap.size,1,nN⟩=sS (vb un):=hcur.cell 0 rfl 1
     have x2:(w2.alloc (.cells #[vi iQ st,vb un,vb fF] 289 (0,0))).cell? ⟨w2.heap.size,2,nN⟩=sS (vb fF):=hcur.cell 0 rfl 2
     have d11:(w2.alloc (.cells #[vi iQ st,vb un,vb fF] 289 (0,0))).cell? ⟨b,11,nN⟩=sS (vp (sS ⟨p.dk,0,nN⟩)):=hcur.cell 1 rfl 11
     have HC:=zh hcur
     (have HP:=zh (hSt w2.heap.size _ hcur);clear hSt)
     clear hN hB hcur)
    | (
     go_at_call 186
     refine HP.out.mono ?_
     rintro e w3 ⟨rfl,ho,p3,hE⟩
     have hE:On F w ([ak.blk w2.heap.size (.cells #[vi iQ st,vb un,vb fF] 289 (0,0))]++ag b p3 K2) w3:=hE
     have d11:w3.cell? ⟨b,11,nN⟩=sS (vp (sS ⟨p3.dk,0,nN⟩)):=hE.cell 1 rfl 11
     have HC3:=zh (And.intro ho hE)
     (have hDn:=hE.call (P:=tp) (f:=187) 16 rfl (λF1 h1=>uy h1))
     clear ho hE HP)
    | (
     go_at_call 187
     refine hDn.s λw4 hE=>?_
     have hE:On F w ([ak.blk w2.heap.size (.cells #[vi iQ st,vb un,vb fF] 289 (0,0))]++ag b p3 { K2 with dk:=K2.dk.done }) w4:=hE
     have d11:w4.cell? ⟨b,11,nN⟩=sS (vp (sS ⟨p3.dk,0,nN⟩)):=hE.cell 1 rfl 11
     have HC4:=zh hE
     have hOv:=hE.ask (P:=tp) (f:=188) 16 rfl (λF1 h1=>cL h1)
     (try (have hov2:K2.dk.done.over=_:=hov;rw [hov2] at hOv))
     clear hE hDn)
    | (
     go_at_call 188
     refine hOv.mono ?_
     rintro e w5 ⟨rfl,hE,dr⟩
     have d11:w5.cell? ⟨b,11,nN⟩=sS (vp (sS ⟨p3.dk,0,nN⟩)):=hE.cell 1 rfl 11
     have HC5:=zh hE
     have hEn:=hE.call (P:=tp) (f:=189) 16 rfl (λF1 h1=>iz h1)
     clear dr hOv hE)
    | (
     go_at_call 189
     refine hEn.s λw6 hE=>?_
     have hE:On F w ([ak.blk w2.heap.size (.cells #[vi iQ st,vb un,vb fF] 289 (0,0))]++ag b p3 { (K2.wdk K2.dk.done) with dk:=((K2.wdk K2.dk.done)).dk.end_ }) w6:=hE
     have d9:w6.cell? ⟨b,9,nN⟩=sS (vp (sS ⟨p3.gt,0,nN⟩)):=hE.cell 1 rfl 9
     have hFr:=hE.call (P:=tp) (f:=190) 12 rfl (λF1 h1=>gj h1)
     clear hEn hE)
    | (
     go_at_call 190
     refine hFr.s λw7 hE=>?_
     have HC7:=zh (show On F w ([ak.blk w2.heap.size (.cells #[vi iQ st,vb un,vb fF] 289 (0,0))]++ag b p3 { (K2.wdk K2.dk.done) with dk:=((K2.wdk K2.dk.done)).dk.end_,gt:=((K2.wdk K2.dk.done)).gt.free }) w7 from hE)
     clear hFr hE))
  go_ret
  exact ⟨nN,0,rfl,((HC5.out.kdrop1.kernel ((show (K2.wdk K2.dk.done).ok from HC3.out.1.wDk K2.dk.done))).on).more (P:=jB nN []) (.inl ⟨rfl,rfl⟩)⟩
 ·obtain ⟨e1,e2⟩:=KT.turn_over k by_ eT hO
  rw [e1,e2]
  have hov:((K2.wdk K2.dk.done)).dk.over=tQ:=hO
  generalize hcp:k.dk.cpu=cp at *
  clear hA h hok e1 e2 eT hag hO hcp
  go_in
  go_wp2_with
   (first
    | (
     go_at_call 184
     refine hCp.mono ?_
     rintro e w1 ⟨rfl,hB,dr⟩
     have d11:w1.cell? ⟨b,11,nN⟩=sS (vp (sS ⟨p.dk,0,nN⟩)):=hB.kC 11
     have hN:=hNx w1 hB
     clear hCp hNx hB dr)
    | (
     go_at_call 185
     refine hN.s λw2 hB=>?_
     have hcur:=((show On F w (ag b p { k with dk:=k.dk.next }) w2 from hB).alloc (.cells #[vi iQ st,vb un,vb fF] 289 (0,0))).front
     have x0:(w2.alloc (.cells #[vi iQ st,vb un,vb fF] 289 (0,0))).cell? ⟨w2.heap.size,0,nN⟩=sS (vi iQ st):=hcur.cell 0 rfl 0
     have x1:(w2.alloc (.cells #[vi iQ st,vb un,vb fF] 289 (0,0))).cell? ⟨w2.heap.size,1,nN⟩=sS (vb un):=hcur.cell 0 rfl 1
     have x2:(w2.alloc (.cells #[vi iQ st,vb un,vb fF] 289 (0,0))).cell? ⟨w2.heap.size,2,nN⟩=sS (vb fF):=hcur.cell 0 rfl 2
     have d11:(w2.alloc (.cells #[vi iQ st,vb un,vb fF] 289 (0,0))).cell? ⟨b,11,nN⟩=sS (vp (sS ⟨p.dk,0,nN⟩)):=hcur.cell 1 rfl 11
     have HC:=zh hcur
     (have HP:=zh (hSt w2.heap.size _ hcur);clear hSt)
     clear hN hB hcur)
    | (
     go_at_call 186
     refine HP.out.mono ?_
     rintro e w3 ⟨rfl,ho,p3,hE⟩
     have hE:On F w ([ak.blk w2.heap.size (.cells #[vi iQ st,vb un,vb fF] 289 (0,0))]++ag b p3 K2) w3:=hE
     have d11:w3.cell? ⟨b,11,nN⟩=sS (vp (sS ⟨p3.dk,0,nN⟩)):=hE.cell 1 rfl 11
     have HC3:=zh (And.intro ho hE)
     (have hDn:=hE.call (P:=tp) (f:=187) 16 rfl (λF1 h1=>uy h1))
     clear ho hE HP)
    | (
     go_at_call 187
     refine hDn.s λw4 hE=>?_
     have hE:On F w ([ak.blk w2.heap.size (.cells #[vi iQ st,vb un,vb fF] 289 (0,0))]++ag b p3 { K2 with dk:=K2.dk.done }) w4:=hE
     have d11:w4.cell? ⟨b,11,nN⟩=sS (vp (sS ⟨p3.dk,0,nN⟩)):=hE.cell 1 rfl 11
     have HC4:=zh hE
     have hOv:=hE.ask (P:=tp) (f:=188) 16 rfl (λF1 h1=>cL h1)
     (try (have hov2:K2.dk.done.over=_:=hov;rw [hov2] at hOv))
     clear hE hDn)
    | (
     go_at_call 188
     refine hOv.mono ?_
     rintro e w5 ⟨rfl,hE,dr⟩
     have d11:w5.cell? ⟨b,11,nN⟩=sS (vp (sS ⟨p3.dk,0,nN⟩)):=hE.cell 1 rfl 11
     have HC5:=zh hE
     have hEn:=hE.call (P:=tp) (f:=189) 16 rfl (λF1 h1=>iz h1)
     clear dr hOv hE)
    | (
     go_at_call 189
     refine hEn.s λw6 hE=>?_
     have hE:On F w ([ak.blk w2.heap.size (.cells #[vi iQ st,vb un,vb fF] 289 (0,0))]++ag b p3 { (K2.wdk K2.dk.done) with dk:=((K2.wdk K2.dk.done)).dk.end_ }) w6:=hE
     have d9:w6.cell? ⟨b,9,nN⟩=sS (vp (sS ⟨p3.gt,0,nN⟩)):=hE.cell 1 rfl 9
     have hFr:=hE.call (P:=tp) (f:=190) 12 rfl (λF1 h1=>gj h1)
     clear hEn hE)
    | (
     go_at_call 190
     refine hFr.s λw7 hE=>?_
     have HC7:=zh (show On F w ([ak.blk w2.heap.size (.cells #[vi iQ st,vb un,vb fF] 289 (0,0))]++ag b p3 { (K2.wdk K2.dk.done) with dk:=((K2.wdk K2.dk.done)).dk.end_,gt:=((K2.wdk K2.dk.done)).gt.free }) w7 from hE)
     clear hFr hE))
  go_ret
  have:gC [⟨7,cp,0,0,((K2.wdk K2.dk.done)).dk.endV⟩] w7 (.returned (.slice (sS ⟨w7.heap.size,0,nN⟩) 1 1)) (w7.alloc (.cells #[vi iQ 7,vi iQ cp,vi iQ 0,vi iQ 0,vi iQ ((K2.wdk K2.dk.done)).dk.endV] 63 (0,0))):=
   ⟨_,1,rfl,mR.alloc _,.inr ⟨rfl,_,rfl,Nat.le_refl _,ai _ _⟩⟩
  exact this.does ((HC7.out.kdrop1.kernel ((((show (K2.wdk K2.dk.done).ok from HC3.out.1.wDk K2.dk.done)).wDk ((K2.wdk K2.dk.done)).dk.end_).wGt (lO ((K2.wdk K2.dk.done)).gt))).on)
theorem zD (h:(aa b k).holds F w) (hT:bA w) (hF:tzL_ren.g 1∉F) (by_:Int):Calls tp 111 #[vp (sS ⟨b,0,nN⟩),vi iQ by_] w (bo b (k.turn by_) (k.turnL by_) F w):=by
 cases hFa:k.dk.stF
 ·cases hBb:({ k with dk:=k.dk.next }:KT).stageB k.dk.stK k.dk.stU k.dk.cpu by_
  ·exact ox h hT hF by_ hFa hBb
  ·exact pN h hT hF by_ hFa hBb
 ·exact oy h by_ hFa
end
def vt (rest limit:Int):Nat -> Int
 | 0=>0
 | j+1=>if (jw (j+1)).1 <= limit /\ (jw (j+1)).2.1 <= rest then ((j+1:Nat):Int) else vt rest limit j
theorem Kz (rest limit:Int):vt rest limit 3=dU rest limit:=rfl
theorem qq.drewN {w:wW} {g:Nat} (h:qq w g) (j:Nat):qq (w.drewN j) g:=λi hi=>by simpa using h i hi
theorem Ab {w:wW} {g:Nat} (h:qq w g) (rest limit:Int):Calls tp 194 #[.slice (sS ⟨g,0,nN⟩) 4 4,vi iQ rest,vi iQ limit] w (au (vi iQ (dU rest limit)) w):=by
 rw [<- Kz]
 generalize hc0:vt rest limit 3=c
 go_in
 go_wp2
 go_loopg [7] 3 (λgg i wr=>∃ j:Nat,i=vi iQ j /\ j=gg /\ j <= 3 /\ vt rest limit j=c /\ w=wr)
 case atStart=>exact ⟨3,by go_num,rfl,by omega,hc0,rfl⟩
 case round=>
  clear hc0
  obtain ⟨j,rfl,hj,hj3,hc,rfl⟩:=hrel
  have HJ:=zh hj
  clear hj
  have h4:j=3 \/ j=2 \/ j=1 \/ j=0:=by omega
  rcases h4 with rfl|rfl|rfl|rfl
  ·skip
   have c0:w.cell? ⟨g,9,nN⟩=sS (vi iQ 50):=(h 3 oM).1
   have c1:w.cell? ⟨g,10,nN⟩=sS (vi iQ 400):=(h 3 oM).2.1
   by_cases hA:(50:Int) <= limit
   ·by_cases hB:(400:Int) <= rest
    ·have hv:c=((3:Nat):Int):=by rw [<- hc];exact pG ⟨hA,hB⟩
     have HV:=zh hv
     clear h hc hv
     go_wp2
     go_ret
     exact au.of (by rw [HV.out];rfl) dz
    ·have HC:=zh (show vt rest limit 2=c by rw [<- hc];exact (nG (λx=>hB x.2)).symm)
     clear h hc
     go_wp2
     go_roundg 2
     case measure=>have:=HJ.out;omega
     case rel=>exact ⟨2,by go_num,rfl,by omega,HC.out,rfl⟩
   ·have HC:=zh (show vt rest limit 2=c by rw [<- hc];exact (nG (λx=>hA x.1)).symm)
    clear h hc
    go_wp2
    go_roundg 2
    case measure=>have:=HJ.out;omega
    case rel=>exact ⟨2,by go_num,rfl,by omega,HC.out,rfl⟩
  ·skip
   have c0:w.cell? ⟨g,6,nN⟩=sS (vi iQ 10):=(h 2 oM).1
   have c1:w.cell? ⟨g,7,nN⟩=sS (vi iQ 50):=(h 2 oM).2.1
   by_cases hA:(10:Int) <= limit
   ·by_cases hB:(50:Int) <= rest
    ·have hv:c=((2:Nat):Int):=by rw [<- hc];exact pG ⟨hA,hB⟩
     have HV:=zh hv
     clear h hc hv
     go_wp2
     go_ret
     exact au.of (by rw [HV.out];rfl) dz
    ·have HC:=zh (show vt rest limit 1=c by rw [<- hc];exact (nG (λx=>hB x.2)).symm)
     clear h hc
     go_wp2
     go_roundg 1
     case measure=>have:=HJ.out;omega
     case rel=>exact ⟨1,by go_num,rfl,by omega,HC.out,rfl⟩
   ·have HC:=zh (show vt rest limit 1=c by rw [<- hc];exact (nG (λx=>hA x.1)).symm)
    clear h hc
    go_wp2
    go_roundg 1
    case measure=>have:=HJ.out;omega
    case rel=>exact ⟨1,by go_num,rfl,by omega,HC.out,rfl⟩
  ·skip
   have c0:w.cell? ⟨g,3,nN⟩=sS (vi iQ 2):=(h 1 oM).1
   have c1:w.cell? ⟨g,4,nN⟩=sS (vi iQ 10):=(h 1 oM).2.1
   by_cases hA:(2:Int) <= limit
   ·by_cases hB:(10:Int) <= rest
    ·have hv:c=((1:Nat):Int):=by rw [<- hc];exact pG ⟨hA,hB⟩
     have HV:=zh hv
     clear h hc hv
     go_wp2
     go_ret
     exact au.of (by rw [HV.out];rfl) dz
    ·have HC:=zh (show vt rest limit 0=c by rw [<- hc];exact (nG (λx=>hB x.2)).symm)
     clear h hc
     go_wp2
     go_roundg 0
     case measure=>have:=HJ.out;omega
     case rel=>exact ⟨0,by go_num,rfl,by omega,HC.out,rfl⟩
   ·have HC:=zh (show vt rest limit 0=c by rw [<- hc];exact (nG (λx=>hA x.1)).symm)
    clear h hc
    go_wp2
    go_roundg 0
    case measure=>have:=HJ.out;omega
    case rel=>exact ⟨0,by go_num,rfl,by omega,HC.out,rfl⟩
  ·have HC:=zh (show (0:Int)=c from hc)
   clear h hc
   go_wp2
   go_ret
   exact au.of (by rw [<- HC.out];rfl) dz
theorem sr {F:List Nat} {w:wW} {d:Nat} {A:TA} (h:(bh d A).holds F w) (cpu:Int):bz (A.nextV cpu):=by
 obtain ⟨t,p,hs,hA⟩:=bE h
 unfold TA.nextV
 split
 ·exact ⟨by decide,by decide⟩
 ·rename_i hi
  have hi':A.is cpu:=Classical.not_not.1 hi
  obtain ⟨h1,h2⟩:=hi'
  have hsim:=hs.sim cpu.toNat oM
  unfold pC
  generalize A.L cpu.toNat=L at *
  cases L with
  | nil=>exact ⟨by decide,by decide⟩
  | cons q L=>
   have hm:=hsim.inv.ok.due q (hsim.perm.mem_iff.1 (List.mem_cons_self ..))
   show bz (q.2:Int)
   exact ⟨by omega,by omega⟩
theorem aA.mods {w w':wW} (d:aA w w'):af [] w w':=by obtain ⟨j,rfl⟩:=d;exact mR.drewN j
section
variable {F:List Nat} {w u:wW} {b:Nat} {p:KP} {k:KT} {l pre:List ak}
theorem KT.ok.lie (h:k.ok) (cpu:Int):(k.lie cpu).ok:=h.wCo (by unfold CT.rest;first|(split<;>rfl)|rfl)
theorem BL (h:(aa b k).holds F w) (cpu:Int):Calls tp 112 #[vp (sS ⟨b,0,nN⟩),vi iQ cpu] w (al (aa b (k.lie cpu)) F (.tuple #[]) w):=by
 obtain ⟨hok,p,hA⟩:=ad h
 have HO:=zh (hok.lie cpu)
 have c2:w.cell? ⟨b,2,nN⟩=sS (vp (sS ⟨p.tm,0,nN⟩)):=hA.kC 2
 have hN:=hA.tells 4 rfl (λF1 h1=>yB h1 cpu)
 have h64:bz (k.tm.nextV cpu):=by obtain ⟨F4,h4⟩:=hA.get 4 rfl;exact sr h4 cpu
 have hn64:bz k.now:=by have:=hok.now;exact ⟨by omega,by omega⟩
 have hP:∀ v,Calls tp 192 #[vi iQ k.now,vi iQ (k.tm.nextV cpu),vb (k.tm.nextE cpu==0)] v (au (vi iQ (jC k.now (k.tm.nextV cpu) (decide (k.tm.nextE cpu=0)))) v):=λv=>xO k.now (k.tm.nextV cpu) hn64 h64 (k.tm.nextE cpu==0) v
 have eK:k.lie cpu={ k with co:=k.co.rest cpu (dU (jC k.now (k.tm.nextV cpu) (decide (k.tm.nextE cpu=0))) k.limit) k.now }:=rfl
 rw [eK] at HO ⊢
 generalize k.tm.nextV cpu=nv at *
 generalize k.tm.nextE cpu=ne at *
 generalize jC k.now nv (decide (ne=0))=pr at *
 clear hA h hok eK h64 hn64
 go_in
 go_wp2_with (first
  | (
   go_at_call 191
   refine hN.mono ?_
   rintro e w1 ⟨rfl,hB,m1⟩
   have d18:w1.cell? ⟨b,18,nN⟩=sS (vi iQ k.now):=hB.kC 18
   have HB:=zh hB
   clear hB hN m1)
  | (
   go_at_call 192
   refine (hP _).r λj=>?_
   have HX:=zh (HB.out.keep ((af.refl [] w1).drewN j))
   clear HB))
 generalize w1.drewN j=W at *
 have hx:∀ v,af [] W v -> v.cell? ⟨b,12,nN⟩=sS (vp (sS ⟨p.co,0,nN⟩)) /\ v.cell? ⟨b,19,nN⟩=sS (vi iQ k.limit) /\ v.cell? ⟨b,18,nN⟩=sS (vi iQ k.now):=λv m=>⟨(HX.out.keep m).kC 12,(HX.out.keep m).kC 19,(HX.out.keep m).kC 18⟩
 have C:=hx W mR
 have m0:af [] W W:=af.refl _ _
 have hCh:=λ(v:wW) (g:Nat) (hW:qq v g)=>Ab hW pr k.limit
 have hR:∀ v,af [] W v -> Calls tp 193 #[vp (sS ⟨p.co,0,nN⟩),vi iQ cpu,vi iQ (dU pr k.limit),vi iQ k.now] v (λe v3=>e=.returned (vi iQ (k.co.restE cpu (dU pr k.limit) k.now)) /\ On F w (ag b p { k with co:=k.co.rest cpu (dU pr k.limit) k.now }) v3):=λv m=>(HX.out.keep m).call (P:=tp) (f:=193) 12 rfl (λF1 h1=>Ff h1 cpu (dU pr k.limit) k.now)
 generalize dU pr k.limit=way at *
 generalize k.co.restE cpu way k.now=re at *
 generalize hk2:({ k with co:=k.co.rest cpu way k.now }:KT)=k2 at *
 have eK2:On F w (ag b p k2)=On F w (ag b p k2):=rfl
 have hcell:∀ v,On F w (ag b p k2) v -> v.cell? ⟨b,12,nN⟩=sS (vp (sS ⟨p.co,0,nN⟩)) /\ v.cell? ⟨b,19,nN⟩=sS (vi iQ k.limit) /\ v.cell? ⟨b,18,nN⟩=sS (vi iQ k.now):=λv h=>by subst hk2;exact ⟨h.kC 12,h.kC 19,h.kC 18⟩
 clear c2 d18 hP hk2 eK2
 go_region_held3 (λv=>v.cell? ⟨b,12,nN⟩=sS (vp (sS ⟨p.co,0,nN⟩)) /\ v.cell? ⟨b,19,nN⟩=sS (vi iQ k.limit) /\ v.cell? ⟨b,18,nN⟩=sS (vi iQ k.now)) (assumption) (first
  | (
   go_at_call 195
   refine (ug _).mono ?_
   rintro e v ⟨g,rfl,mx,hg,hW⟩
   have m1:af [] W v:=by first|exact m0.trans mx sM|exact (m0.drewN _).trans mx sM|exact m0.drew.trans mx sM
   have C:=hx _ m1
   clear mx hg)
  | (
   go_at_call 194
   refine (hCh _ _ (by first|exact hW|exact hW.drewN _|exact hW.drew)).s λv2 dr=>?_
   have m2:af [] W v2:=by first|exact m1.trans dr.mods sM|exact (m1.drewN _).trans dr.mods sM|exact m1.drew.trans dr.mods sM
   have C:=hx _ m2
   clear dr)
  | (
   go_at_call 193
   refine (hR _ (by first|exact m2|exact m2.drewN _|exact m2.drew)).s λv3 hD=>?_
   have C:=hcell _ hD
   have HD:=zh hD
   clear hD))
 refine bodyPost_end (v:=.tuple #[]) (results_none rfl _ _ _) rfl ?_
 exact HD.out.kturns HO.out
end
section
variable {F:List Nat} {w u:wW} {b:Nat} {p:KP} {k:KT} {l pre:List ak}
/-- A kernel's function that makes records is called later. -/
theorem On.kdo (h:On F w (ag b p k) u) (hok:k.ok) (hT:bA w) (hF:tzL_ren.g 1∉F):∃ F1,(aa b k).holds F1 u /\ bA u /\ tzL_ren.g 1∉F1 /\ ∀ (k':KT) (l:List cX) (e:Ending) (u':wW),bo b k' l F1 u e u' -> bo b k' l F w e u':=by
 obtain ⟨F1,h1,m,hn⟩:=h.kernel hok
 have ht:=hT.lt
 refine ⟨F1,h1,hT.keep m hF,λhb=>?_,?_⟩
 ·rcases hn _ hb with h|h
  ·exact hF h
  ·omega
 ·rintro k' l e u' ⟨a,c,rfl,F3,s3,m3,n3⟩
  refine ⟨a,c,rfl,F3,s3,m.trans m3 hn,λx hx=>?_⟩
  rcases n3 x hx with h|h
  ·exact hn x h
  ·exact .inr (Nat.le_trans m.size h)
theorem GD (k:KT) (cpu:Int) (h:¬ 0<k.fireWho cpu):k.fire cpu=({ k with tm:=k.tm.fire cpu,own:=dZ k.own (k.fireId cpu) }:KT).did cpu:=by
 unfold KT.fire;simp only [];rw [nG h]
theorem Et (k:KT) (cpu:Int) (h:0<k.fireWho cpu):k.fire cpu=(({ k with tm:=k.tm.fire cpu,own:=dZ k.own (k.fireId cpu) }:KT).wake (k.fireWho cpu)).did cpu:=by
 unfold KT.fire;simp only [];rw [pG h]
theorem zK (h:(aa b k).holds F w) (hT:bA w) (hF:tzL_ren.g 1∉F) (cpu:Int):Calls tp 199 #[vp (sS ⟨b,0,nN⟩),vi iQ cpu] w (bo b (k.fire cpu) [⟨3,cpu,k.fireId cpu,k.fireWho cpu,0⟩] F w):=by
 obtain ⟨hok,p,hA⟩:=ad h
 have hok2:=(hok.wTm (DZ k.tm cpu)).wOwn (dZ k.own (k.fireId cpu))
 have HO:=zh hok2
 have c2:w.cell? ⟨b,2,nN⟩=sS (vp (sS ⟨p.tm,0,nN⟩)):=hA.kC 2
 have hC:=hA.call (P:=tp) (f:=271) 4 rfl (λF1 h1=>yE h1 cpu)
 have eW:k.fireWho cpu=(k.own (k.fireId cpu)).getD 0:=rfl
 have eI:k.fireId cpu=k.tm.fireV cpu:=rfl
 have hLk:=λv (hB:On F w (ag b p { k with tm:=k.tm.fire cpu }) v)=>hB.klook (k.fireId cpu)
 have hLk:∀ v,On F w (ag b p { k with tm:=k.tm.fire cpu }) v -> (Instr.lookup 75 (.map (sS p.ow)) (vi iQ (k.fireId cpu)) fF).run tp v=.ok (vi iQ (k.fireWho cpu)) v:=hLk
 rw [<- eI] at hC
 by_cases h0:0<k.fireWho cpu
 ·rw [Et k cpu h0]
  generalize k.fireWho cpu=who at *
  generalize k.fireId cpu=fid at *
  generalize k.tm.fireE cpu=fe at *
  clear hA h hok hok2 eW eI
  go_in
  go_wp2_with (first
   | (
    go_at_call 271
    refine hC.s λw1 hB=>?_
    have hB:On F w (ag b p { k with tm:=k.tm.fire cpu }) w1:=hB
    have c20:w1.cell? ⟨b,20,nN⟩=sS (.map (sS p.ow)):=hB.kC 20
    have hLk:=hLk w1 hB
    obtain ⟨w2,n',hrun,hD⟩:=hB.kern1.kdel fid
    have HW:=zh (On.kcall (pre:=[]) hD HO.out hT hF (λF1 h1 hT1 hF1=>qM h1 hT1 hF1 who))
    clear hC hB hD)
   | (at_builtin;rw [hrun])
   | (
    go_at_call 126
    refine HW.out.mono ?_
    rintro e w3 ⟨rfl,ho,p3,hE⟩
    have hDo:=eY ho (show On F w (ag b p3 _) w3 from hE) cpu 3 fid who
    clear ho hE HW)
   | (go_at_call 197;refine hDo.mono ?_;rintro e w4 ⟨a,c,rfl,hE⟩;clear hDo))
  go_ret
  exact ⟨a,c,rfl,hE⟩
 ·rw [GD k cpu h0]
  generalize k.fireWho cpu=who at *
  generalize k.fireId cpu=fid at *
  generalize k.tm.fireE cpu=fe at *
  clear hA h hok hok2 eW eI
  go_in
  go_wp2_with (first
   | (
    go_at_call 271
    refine hC.s λw1 hB=>?_
    have hB:On F w (ag b p { k with tm:=k.tm.fire cpu }) w1:=hB
    have c20:w1.cell? ⟨b,20,nN⟩=sS (.map (sS p.ow)):=hB.kC 20
    have hLk:=hLk w1 hB
    obtain ⟨w2,n',hrun,hD⟩:=hB.kern1.kdel fid
    have hDo:=eY HO.out (show On F w (ag b { p with cnt:=n' } { k with tm:=k.tm.fire cpu,own:=dZ k.own fid }) w2 from hD) cpu 3 fid who
    clear hC hB hD)
   | (at_builtin;rw [hrun])
   | (go_at_call 197;refine hDo.mono ?_;rintro e w4 ⟨a,c,rfl,hE⟩;clear hDo))
  go_ret
  exact ⟨a,c,rfl,hE⟩
end
section
variable {F:List Nat} {w u:wW} {b:Nat} {p:KP} {k:KT}
theorem va (hok:k.ok) (hA:On F w (ag b p k) u) (cpu:Int):Calls tp 113 #[vp (sS ⟨b,0,nN⟩),vi iQ cpu,vi iQ 4] u (bo b (({ k with cb:=k.cb.take cpu }:KT).did cpu) [⟨6,cpu,k.cb.takeV cpu,0,0⟩] F w):=by
 have c1:u.cell? ⟨b,6,nN⟩=sS (vp (sS ⟨p.cb,0,nN⟩)):=hA.kC 6
 have hS:=hA.call (P:=tp) (f:=196) 8 rfl (λF1 h1=>Fj h1 cpu)
 have HO:=zh (show KT.ok { k with cb:=k.cb.take cpu } from hok.wCb (Ej k.cb cpu))
 have hE:=λ(v:wW) (hB:On F w (ag b p { k with cb:=k.cb.take cpu }) v)=>hB
 generalize k.cb.takeV cpu=v at *
 clear hA hok
 go_in
 go_wp2_with (first
  | (
   go_at_call 196
   refine hS.s λw1 hB=>?_
   have hD:=eY HO.out (hE w1 hB) cpu 6 v 0
   clear hB hS)
  | (go_at_call 197;refine hD.mono ?_;rintro e w2 ⟨a,c,rfl,hE⟩))
 go_ret
 exact ⟨a,c,rfl,hE⟩
end
section
variable {F:List Nat} {w u:wW} {b:Nat} {p:KP} {k:KT}
theorem uX (hok:k.ok) (hA:On F w (ag b p k) u) (cpu:Int):Calls tp 113 #[vp (sS ⟨b,0,nN⟩),vi iQ cpu,vi iQ 7] u (bo b (({ k with wk:=k.wk.take cpu }:KT).did cpu) [⟨5,cpu,k.wk.takeV cpu,0,0⟩] F w):=by
 have c1:u.cell? ⟨b,5,nN⟩=sS (vp (sS ⟨p.wk,0,nN⟩)):=hA.kC 5
 have hS:=hA.call (P:=tp) (f:=200) 7 rfl (λF1 h1=>CY h1 cpu)
 have HO:=zh (show KT.ok { k with wk:=k.wk.take cpu } from hok.wWk (DY k.wk cpu))
 have hE:=λ(v:wW) (hB:On F w (ag b p { k with wk:=k.wk.take cpu }) v)=>hB
 generalize k.wk.takeV cpu=v at *
 clear hA hok
 go_in
 go_wp2_with (first
  | (
   go_at_call 200
   refine hS.s λw1 hB=>?_
   have hD:=eY HO.out (hE w1 hB) cpu 5 v 0
   clear hB hS)
  | (go_at_call 197;refine hD.mono ?_;rintro e w2 ⟨a,c,rfl,hE⟩))
 go_ret
 exact ⟨a,c,rfl,hE⟩
end
section
variable {F:List Nat} {w u:wW} {b:Nat} {p:KP} {k:KT}
theorem uZ (hok:k.ok) (hA:On F w (ag b p k) u) (cpu:Int):Calls tp 113 #[vp (sS ⟨b,0,nN⟩),vi iQ cpu,vi iQ 5] u (bo b (({ k with iq:=k.iq.clear ((k.waits cpu).getD 0) }:KT).did cpu) [⟨4,cpu,(k.waits cpu).getD 0,0,0⟩] F w):=by
 have hW:=ov hA cpu
 have HA:=zh hA
 generalize (k.waits cpu).getD 0=i at *
 generalize (k.waits cpu).isSome=sm at *
 have HO:=zh (show KT.ok { k with iq:=k.iq.clear i } from hok.wIq (Bx k.iq i))
 clear hA hok
 go_in
 go_wp2_with (first
  | (
   go_at_call 177
   refine hW.s λw1 m=>?_
   have hB:=HA.out.keep m
   have c3:w1.cell? ⟨b,3,nN⟩=sS (vp (sS ⟨p.iq,0,nN⟩)):=hB.kC 3
   have hS:=hB.call (P:=tp) (f:=198) 5 rfl (λF1 h1=>EB h1 i)
   clear hB hW m)
  | (
   go_at_call 198
   refine hS.s λw2 hB=>?_
   have hD:=eY HO.out (show On F w (ag b p { k with iq:=k.iq.clear i }) w2 from hB) cpu 4 i 0
   clear hB hS)
  | (go_at_call 197;refine hD.mono ?_;rintro e w3 ⟨a,c,rfl,hE⟩))
 go_ret
 exact ⟨a,c,rfl,hE⟩
theorem uY (hok:k.ok) (hA:On F w (ag b p k) u) (hT:bA w) (hF:tzL_ren.g 1∉F) (cpu:Int):Calls tp 113 #[vp (sS ⟨b,0,nN⟩),vi iQ cpu,vi iQ 6] u (bo b (k.fire cpu) [⟨3,cpu,k.fireId cpu,k.fireWho cpu,0⟩] F w):=by
 obtain ⟨F1,h1,hT1,hF1,hup⟩:=hA.kdo hok hT hF
 have hFi:=zK h1 hT1 hF1 cpu
 have HU:=zh (hup (k.fire cpu) [⟨3,cpu,k.fireId cpu,k.fireWho cpu,0⟩])
 generalize k.fire cpu=k' at *
 generalize k.fireId cpu=fi at *
 generalize k.fireWho cpu=fw at *
 clear hA hok hT hF h1 hT1 hF1 hup
 go_in
 go_wp2_with (go_at_call 199;refine hFi.mono ?_;rintro e w1 hd;have hd:=HU.out e w1 hd;obtain ⟨a,c,rfl,hE⟩:=hd)
 go_ret
 exact ⟨a,c,rfl,hE⟩
theorem xH (hok:k.ok) (hA:On F w (ag b p k) u) (hT:bA w) (hF:tzL_ren.g 1∉F) (cpu what:Int) (hw:what=4 \/ what=5 \/ what=6 \/ what=7 \/ what=8):Calls tp 113 #[vp (sS ⟨b,0,nN⟩),vi iQ cpu,vi iQ what] u (bo b (k.thing cpu what) (k.thingL cpu what) F w):=by
 rcases hw with rfl|rfl|rfl|rfl|rfl
 ·exact va hok hA cpu
 ·exact uZ hok hA cpu
 ·exact uY hok hA hT hF cpu
 ·exact uX hok hA cpu
 ·exact uW hok hA cpu
end
section
variable {F:List Nat} {w u:wW} {b:Nat} {p:KP} {k:KT}
theorem oU {v:wW} {k':KT} (h:On F w (ag b p k') v) (hok:k'.ok):bo b k' [] F w (.returned (.slice nN 0 0)) v:=
 ⟨nN,0,rfl,(h.kernel hok).on.more (P:=jB nN []) (.inl ⟨rfl,rfl⟩)⟩
theorem rl (h:(aa b k).holds F w) (hT:bA w) (hF:tzL_ren.g 1∉F) (cpu:Int) (hpw:(if k.co.is cpu then k.co.at cpu else core0).power=tQ) (hw:k.what cpu=0):Calls tp 67 #[vp (sS ⟨b,0,nN⟩),vi iQ cpu] w (bo b (k.step cpu) (k.stepL cpu) F w):=by
 obtain ⟨hok,p,hA⟩:=ad h
 have c12:w.cell? ⟨b,12,nN⟩=sS (vp (sS ⟨p.co,0,nN⟩)):=hA.kC 12
 have hG:=hA.tells 12 rfl (λF1 h1=>gL h1 cpu)
 have hs0:k.step0 cpu={ k with co:=k.co.count cpu fF }:=by unfold KT.step0;rw [pG hpw,hw];rfl
 have hst:k.step cpu={ k with co:=k.co.count cpu fF }:=by unfold KT.step;rw [hw,hs0];rfl
 have hsL:k.stepL cpu=[]:=by unfold KT.stepL;rw [hw];first|rfl|(rw [hs0];rfl)
 rw [hst,hsL]
 clear hs0
 have HK2:=zh (show KT.ok { k with co:=k.co.count cpu fF } from hok.wCo (fZ k.co cpu fF))
 have hNx:=λu=>gu (if k.co.is cpu then k.co.at cpu else core0) (k.flags cpu) u
 rw [show je (if k.co.is cpu then k.co.at cpu else core0) (k.flags cpu)=0 from hw] at hNx
 have HK:=zh hok
 clear hst hsL hw h hA
 generalize (if k.co.is cpu then k.co.at cpu else core0)=x at *
 obtain ⟨pw,il,wy,si,st,bu⟩:=x
 simp only at hpw
 subst hpw
 simp only [bD] at *
 generalize hfv:(ez (k.flags cpu)).toArray=fv at *
 have HF:=zh hfv
 clear hfv
 generalize k.co.findE cpu=fe at *
 have HT:=zh (And.intro hT hF)
 clear hok hT hF
 go_in
 go_wp2_with (
  go_at_call 105
  refine hG.mono ?_
  rintro e w1 ⟨rfl,hB,m1⟩
  have HX:=zh (hB.alloc (.cells #[vb tQ,vb il,vi iQ wy,vi iQ si,vi iQ st,vi iQ bu] 213 (0,0))).front
  clear hB hG m1)
 generalize w1.alloc (.cells #[vb tQ,vb il,vi iQ wy,vi iQ si,vi iQ st,vi iQ bu] 213 (0,0))=W at *
 generalize w1.heap.size=xb at *
 have hx:∀ v,af [] W v -> v.cell? ⟨xb,0,nN⟩=sS (vb tQ) /\ v.cell? ⟨xb,1,nN⟩=sS (vb il) /\ v.cell? ⟨xb,2,nN⟩=sS (vi iQ wy) /\ v.cell? ⟨xb,3,nN⟩=sS (vi iQ si) /\ v.cell? ⟨xb,4,nN⟩=sS (vi iQ st) /\ v.cell? ⟨xb,5,nN⟩=sS (vi iQ bu):=λv m=>⟨(HX.out.keep m).cell 0 rfl 0,(HX.out.keep m).cell 0 rfl 1,(HX.out.keep m).cell 0 rfl 2,(HX.out.keep m).cell 0 rfl 3,(HX.out.keep m).cell 0 rfl 4,(HX.out.keep m).cell 0 rfl 5⟩
 have C:=hx W mR
 have hFl:∀ v,af [] W v -> Calls tp 107 #[vp (sS ⟨b,0,nN⟩),vi iQ cpu] v (λe u'=>e=.returned (.agg fv) /\ af [] v u'):=λv m=>by rw [<- HF.out];exact di HK.out ((HX.out.keep m).drop 0) cpu
 have m0:af [] W W:=af.refl _ _
 clear c12
 go_region_held3 (λv=>v.cell? ⟨xb,0,nN⟩=sS (vb tQ) /\ v.cell? ⟨xb,1,nN⟩=sS (vb il) /\ v.cell? ⟨xb,2,nN⟩=sS (vi iQ wy) /\ v.cell? ⟨xb,3,nN⟩=sS (vi iQ si) /\ v.cell? ⟨xb,4,nN⟩=sS (vi iQ st) /\ v.cell? ⟨xb,5,nN⟩=sS (vi iQ bu)) (assumption) (first
  | (
   go_at_call 107
   refine (hFl _ (by first|exact m0|exact m0.drewN _|exact m0.drew)).s λv mx=>?_
   have m1:af [] W v:=by first|exact m0.trans mx sM|exact (m0.drewN _).trans mx sM|exact m0.drew.trans mx sM
   have C:=hx _ m1
   clear mx)
  | (
   go_at_call 106
   refine (hNx _).s λv2 mx=>?_
   have m2:af [] W v2:=by first|exact m1.trans mx sM|exact (m1.drewN _).trans mx sM|exact m1.drew.trans mx sM
   have C:=hx _ m2
   clear mx))
 have hY:=HX.out.keep m2
 have c12:v2.cell? ⟨b,12,nN⟩=sS (vp (sS ⟨p.co,0,nN⟩)):=hY.cell 1 rfl 12
 have c0:v2.cell? ⟨xb,0,nN⟩=sS (vb tQ):=hY.cell 0 rfl 0
 clear C hx hFl hNx m0 m1 m2 HX
 have hCt:=hY.call (P:=tp) (f:=108) 13 rfl (λF1 h1=>gw h1 cpu fF)
 clear hY
 go_wp2_with (first
  | (
   go_at_call 108
   refine hCt.s λv3 hZ=>?_
   have hZ:On F w (ak.blk xb (.cells #[vb tQ,vb il,vi iQ wy,vi iQ si,vi iQ st,vi iQ bu] 213 (0,0)) :: ag b p { k with co:=k.co.count cpu fF }) v3:=hZ
   have HZ:=zh (show On F w (ag b p { k with co:=k.co.count cpu fF }) v3 from hZ.drop 0)
   skip
   clear hZ hCt)
  | (fail)
  )
 go_ret
 exact oU HZ.out HK2.out
theorem cH (h:(aa b k).holds F w) (hT:bA w) (hF:tzL_ren.g 1∉F) (cpu N:Int) (hN:4 <= N /\ N <= 8) (hpw:(if k.co.is cpu then k.co.at cpu else core0).power=tQ) (hw:k.what cpu=N):Calls tp 67 #[vp (sS ⟨b,0,nN⟩),vi iQ cpu] w (bo b (k.step cpu) (k.stepL cpu) F w):=by
 obtain ⟨hok,p,hA⟩:=ad h
 have c12:w.cell? ⟨b,12,nN⟩=sS (vp (sS ⟨p.co,0,nN⟩)):=hA.kC 12
 have hG:=hA.tells 12 rfl (λF1 h1=>gL h1 cpu)
 have hs0:k.step0 cpu={ k with co:=k.co.count cpu tQ }:=by unfold KT.step0;rw [pG hpw,hw,decide_eq_true (show N≠0 /\ N≠9 by omega)]
 have hst:k.step cpu=({ k with co:=k.co.count cpu tQ }:KT).thing cpu N:=by unfold KT.step;rw [hw,hs0,nG oM,nG oM,nG oM,nG oM,nG oM]
 have hsL:k.stepL cpu=({ k with co:=k.co.count cpu tQ }:KT).thingL cpu N:=by unfold KT.stepL;rw [hw,hs0,nG oM,nG oM]
 rw [hst,hsL]
 clear hs0
 have HK2:=zh (show KT.ok { k with co:=k.co.count cpu tQ } from hok.wCo (fZ k.co cpu tQ))
 have HTh:=zh (λ(v3:wW) (hZ:On F w (ag b p { k with co:=k.co.count cpu tQ }) v3)=>xH HK2.out hZ hT hF cpu N oM)
 have hNx:=λu=>gu (if k.co.is cpu then k.co.at cpu else core0) (k.flags cpu) u
 rw [show je (if k.co.is cpu then k.co.at cpu else core0) (k.flags cpu)=N from hw] at hNx
 have HK:=zh hok
 clear hst hsL hw h hA
 generalize (if k.co.is cpu then k.co.at cpu else core0)=x at *
 obtain ⟨pw,il,wy,si,st,bu⟩:=x
 simp only at hpw
 subst hpw
 simp only [bD] at *
 generalize hfv:(ez (k.flags cpu)).toArray=fv at *
 have HF:=zh hfv
 clear hfv
 generalize k.co.findE cpu=fe at *
 have HT:=zh (And.intro hT hF)
 clear hok hT hF
 generalize ({ k with co:=k.co.count cpu tQ }:KT).thing cpu N=k2 at *
 generalize ({ k with co:=k.co.count cpu tQ }:KT).thingL cpu N=l2 at *
 have hcs:N=4 \/ N=5 \/ N=6 \/ N=7 \/ N=8:=by omega
 clear hN
 rcases hcs with rfl|rfl|rfl|rfl|rfl
 all_goals
  go_in
  go_wp2_with (
   go_at_call 105
   refine hG.mono ?_
   rintro e w1 ⟨rfl,hB,m1⟩
   have HX:=zh (hB.alloc (.cells #[vb tQ,vb il,vi iQ wy,vi iQ si,vi iQ st,vi iQ bu] 213 (0,0))).front
   clear hB hG m1)
  generalize w1.alloc (.cells #[vb tQ,vb il,vi iQ wy,vi iQ si,vi iQ st,vi iQ bu] 213 (0,0))=W at *
  generalize w1.heap.size=xb at *
  have hx:∀ v,af [] W v -> v.cell? ⟨xb,0,nN⟩=sS (vb tQ) /\ v.cell? ⟨xb,1,nN⟩=sS (vb il) /\ v.cell? ⟨xb,2,nN⟩=sS (vi iQ wy) /\ v.cell? ⟨xb,3,nN⟩=sS (vi iQ si) /\ v.cell? ⟨xb,4,nN⟩=sS (vi iQ st) /\ v.cell? ⟨xb,5,nN⟩=sS (vi iQ bu):=λv m=>⟨(HX.out.keep m).cell 0 rfl 0,(HX.out.keep m).cell 0 rfl 1,(HX.out.keep m).cell 0 rfl 2,(HX.out.keep m).cell 0 rfl 3,(HX.out.keep m).cell 0 rfl 4,(HX.out.keep m).cell 0 rfl 5⟩
  have C:=hx W mR
  have hFl:∀ v,af [] W v -> Calls tp 107 #[vp (sS ⟨b,0,nN⟩),vi iQ cpu] v (λe u'=>e=.returned (.agg fv) /\ af [] v u'):=λv m=>by rw [<- HF.out];exact di HK.out ((HX.out.keep m).drop 0) cpu
  have m0:af [] W W:=af.refl _ _
  clear c12
  go_region_held3 (λv=>v.cell? ⟨xb,0,nN⟩=sS (vb tQ) /\ v.cell? ⟨xb,1,nN⟩=sS (vb il) /\ v.cell? ⟨xb,2,nN⟩=sS (vi iQ wy) /\ v.cell? ⟨xb,3,nN⟩=sS (vi iQ si) /\ v.cell? ⟨xb,4,nN⟩=sS (vi iQ st) /\ v.cell? ⟨xb,5,nN⟩=sS (vi iQ bu)) (assumption) (first
   | (
    go_at_call 107
    refine (hFl _ (by first|exact m0|exact m0.drewN _|exact m0.drew)).s λv mx=>?_
    have m1:af [] W v:=by first|exact m0.trans mx sM|exact (m0.drewN _).trans mx sM|exact m0.drew.trans mx sM
    have C:=hx _ m1
    clear mx)
   | (
    go_at_call 106
    refine (hNx _).s λv2 mx=>?_
    have m2:af [] W v2:=by first|exact m1.trans mx sM|exact (m1.drewN _).trans mx sM|exact m1.drew.trans mx sM
    have C:=hx _ m2
    clear mx))
  have hY:=HX.out.keep m2
  have c12:v2.cell? ⟨b,12,nN⟩=sS (vp (sS ⟨p.co,0,nN⟩)):=hY.cell 1 rfl 12
  have c0:v2.cell? ⟨xb,0,nN⟩=sS (vb tQ):=hY.cell 0 rfl 0
  clear C hx hFl hNx m0 m1 m2 HX
  have hCt:=hY.call (P:=tp) (f:=108) 13 rfl (λF1 h1=>gw h1 cpu tQ)
  clear hY
  go_wp2_with (first
   | (
    go_at_call 108
    refine hCt.s λv3 hZ=>?_
    have hZ:On F w (ak.blk xb (.cells #[vb tQ,vb il,vi iQ wy,vi iQ si,vi iQ st,vi iQ bu] 213 (0,0)) :: ag b p { k with co:=k.co.count cpu tQ }) v3:=hZ
    have hTh:=HTh.out _ (hZ.drop 0)
    clear hZ hCt)
   | (go_at_call 113;refine hTh.mono ?_;rintro e v4 ⟨a,c,rfl,hE⟩))
  go_ret
  exact ⟨a,c,rfl,hE⟩
theorem vd (h:(aa b k).holds F w) (hT:bA w) (hF:tzL_ren.g 1∉F) (cpu:Int) (hpw:(if k.co.is cpu then k.co.at cpu else core0).power=tQ) (hw:k.what cpu=3):Calls tp 67 #[vp (sS ⟨b,0,nN⟩),vi iQ cpu] w (bo b (k.step cpu) (k.stepL cpu) F w):=by
 obtain ⟨hok,p,hA⟩:=ad h
 have c12:w.cell? ⟨b,12,nN⟩=sS (vp (sS ⟨p.co,0,nN⟩)):=hA.kC 12
 have hG:=hA.tells 12 rfl (λF1 h1=>gL h1 cpu)
 have hs0:k.step0 cpu={ k with co:=k.co.count cpu tQ }:=by unfold KT.step0;rw [pG hpw,hw];rfl
 have hst:k.step cpu=({ k with co:=k.co.count cpu tQ }:KT).turn cpu:=by unfold KT.step;rw [hw,hs0];rfl
 have hsL:k.stepL cpu=({ k with co:=k.co.count cpu tQ }:KT).turnL cpu:=by unfold KT.stepL;rw [hw];first|rfl|(rw [hs0];rfl)
 rw [hst,hsL]
 clear hs0
 have HK2:=zh (show KT.ok { k with co:=k.co.count cpu tQ } from hok.wCo (fZ k.co cpu tQ))
 have hNx:=λu=>gu (if k.co.is cpu then k.co.at cpu else core0) (k.flags cpu) u
 rw [show je (if k.co.is cpu then k.co.at cpu else core0) (k.flags cpu)=3 from hw] at hNx
 have HK:=zh hok
 clear hst hsL hw h hA
 generalize (if k.co.is cpu then k.co.at cpu else core0)=x at *
 obtain ⟨pw,il,wy,si,st,bu⟩:=x
 simp only at hpw
 subst hpw
 simp only [bD] at *
 generalize hfv:(ez (k.flags cpu)).toArray=fv at *
 have HF:=zh hfv
 clear hfv
 generalize k.co.findE cpu=fe at *
 have HT:=zh (And.intro hT hF)
 clear hok hT hF
 go_in
 go_wp2_with (
  go_at_call 105
  refine hG.mono ?_
  rintro e w1 ⟨rfl,hB,m1⟩
  have HX:=zh (hB.alloc (.cells #[vb tQ,vb il,vi iQ wy,vi iQ si,vi iQ st,vi iQ bu] 213 (0,0))).front
  clear hB hG m1)
 generalize w1.alloc (.cells #[vb tQ,vb il,vi iQ wy,vi iQ si,vi iQ st,vi iQ bu] 213 (0,0))=W at *
 generalize w1.heap.size=xb at *
 have hx:∀ v,af [] W v -> v.cell? ⟨xb,0,nN⟩=sS (vb tQ) /\ v.cell? ⟨xb,1,nN⟩=sS (vb il) /\ v.cell? ⟨xb,2,nN⟩=sS (vi iQ wy) /\ v.cell? ⟨xb,3,nN⟩=sS (vi iQ si) /\ v.cell? ⟨xb,4,nN⟩=sS (vi iQ st) /\ v.cell? ⟨xb,5,nN⟩=sS (vi iQ bu):=λv m=>⟨(HX.out.keep m).cell 0 rfl 0,(HX.out.keep m).cell 0 rfl 1,(HX.out.keep m).cell 0 rfl 2,(HX.out.keep m).cell 0 rfl 3,(HX.out.keep m).cell 0 rfl 4,(HX.out.keep m).cell 0 rfl 5⟩
 have C:=hx W mR
 have hFl:∀ v,af [] W v -> Calls tp 107 #[vp (sS ⟨b,0,nN⟩),vi iQ cpu] v (λe u'=>e=.returned (.agg fv) /\ af [] v u'):=λv m=>by rw [<- HF.out];exact di HK.out ((HX.out.keep m).drop 0) cpu
 have m0:af [] W W:=af.refl _ _
 clear c12
 go_region_held3 (λv=>v.cell? ⟨xb,0,nN⟩=sS (vb tQ) /\ v.cell? ⟨xb,1,nN⟩=sS (vb il) /\ v.cell? ⟨xb,2,nN⟩=sS (vi iQ wy) /\ v.cell? ⟨xb,3,nN⟩=sS (vi iQ si) /\ v.cell? ⟨xb,4,nN⟩=sS (vi iQ st) /\ v.cell? ⟨xb,5,nN⟩=sS (vi iQ bu)) (assumption) (first
  | (
   go_at_call 107
   refine (hFl _ (by first|exact m0|exact m0.drewN _|exact m0.drew)).s λv mx=>?_
   have m1:af [] W v:=by first|exact m0.trans mx sM|exact (m0.drewN _).trans mx sM|exact m0.drew.trans mx sM
   have C:=hx _ m1
   clear mx)
  | (
   go_at_call 106
   refine (hNx _).s λv2 mx=>?_
   have m2:af [] W v2:=by first|exact m1.trans mx sM|exact (m1.drewN _).trans mx sM|exact m1.drew.trans mx sM
   have C:=hx _ m2
   clear mx))
 have hY:=HX.out.keep m2
 have c12:v2.cell? ⟨b,12,nN⟩=sS (vp (sS ⟨p.co,0,nN⟩)):=hY.cell 1 rfl 12
 have c0:v2.cell? ⟨xb,0,nN⟩=sS (vb tQ):=hY.cell 0 rfl 0
 clear C hx hFl hNx m0 m1 m2 HX
 have hCt:=hY.call (P:=tp) (f:=108) 13 rfl (λF1 h1=>gw h1 cpu tQ)
 clear hY
 go_wp2_with (first
  | (
   go_at_call 108
   refine hCt.s λv3 hZ=>?_
   have hZ:On F w (ak.blk xb (.cells #[vb tQ,vb il,vi iQ wy,vi iQ si,vi iQ st,vi iQ bu] 213 (0,0)) :: ag b p { k with co:=k.co.count cpu tQ }) v3:=hZ
   have HZ:=zh (show On F w (ag b p { k with co:=k.co.count cpu tQ }) v3 from hZ.drop 0)
   obtain ⟨F1,q1,q2,q3,q4⟩:=HZ.out.kdo HK2.out HT.out.1 HT.out.2;have HU:=zh (q4 (({ k with co:=k.co.count cpu tQ }:KT).turn cpu) (({ k with co:=k.co.count cpu tQ }:KT).turnL cpu));have hTu:=zD q1 q2 q3 cpu;clear q1 q2 q3 q4
   clear hZ hCt)
  | (go_at_call 111;refine hTu.mono ?_;rintro e v4 hd;have hd:=HU.out e v4 hd;obtain ⟨a,c,rfl,hE⟩:=hd)
  )
 go_ret
 exact ⟨a,c,rfl,hE⟩
theorem vc (h:(aa b k).holds F w) (hT:bA w) (hF:tzL_ren.g 1∉F) (cpu:Int) (hpw:(if k.co.is cpu then k.co.at cpu else core0).power=tQ) (hw:k.what cpu=9):Calls tp 67 #[vp (sS ⟨b,0,nN⟩),vi iQ cpu] w (bo b (k.step cpu) (k.stepL cpu) F w):=by
 obtain ⟨hok,p,hA⟩:=ad h
 have c12:w.cell? ⟨b,12,nN⟩=sS (vp (sS ⟨p.co,0,nN⟩)):=hA.kC 12
 have hG:=hA.tells 12 rfl (λF1 h1=>gL h1 cpu)
 have hs0:k.step0 cpu={ k with co:=k.co.count cpu fF }:=by unfold KT.step0;rw [pG hpw,hw];rfl
 have hst:k.step cpu=({ k with co:=k.co.count cpu fF }:KT).lie cpu:=by unfold KT.step;rw [hw,hs0];rfl
 have hsL:k.stepL cpu=[]:=by unfold KT.stepL;rw [hw];first|rfl|(rw [hs0];rfl)
 rw [hst,hsL]
 clear hs0
 have HK2:=zh (show KT.ok { k with co:=k.co.count cpu fF } from hok.wCo (fZ k.co cpu fF))
 have hNx:=λu=>gu (if k.co.is cpu then k.co.at cpu else core0) (k.flags cpu) u
 rw [show je (if k.co.is cpu then k.co.at cpu else core0) (k.flags cpu)=9 from hw] at hNx
 have HK:=zh hok
 clear hst hsL hw h hA
 generalize (if k.co.is cpu then k.co.at cpu else core0)=x at *
 obtain ⟨pw,il,wy,si,st,bu⟩:=x
 simp only at hpw
 subst hpw
 simp only [bD] at *
 generalize hfv:(ez (k.flags cpu)).toArray=fv at *
 have HF:=zh hfv
 clear hfv
 generalize k.co.findE cpu=fe at *
 have HT:=zh (And.intro hT hF)
 clear hok hT hF
 go_in
 go_wp2_with (
  go_at_call 105
  refine hG.mono ?_
  rintro e w1 ⟨rfl,hB,m1⟩
  have HX:=zh (hB.alloc (.cells #[vb tQ,vb il,vi iQ wy,vi iQ si,vi iQ st,vi iQ bu] 213 (0,0))).front
  clear hB hG m1)
 generalize w1.alloc (.cells #[vb tQ,vb il,vi iQ wy,vi iQ si,vi iQ st,vi iQ bu] 213 (0,0))=W at *
 generalize w1.heap.size=xb at *
 have hx:∀ v,af [] W v -> v.cell? ⟨xb,0,nN⟩=sS (vb tQ) /\ v.cell? ⟨xb,1,nN⟩=sS (vb il) /\ v.cell? ⟨xb,2,nN⟩=sS (vi iQ wy) /\ v.cell? ⟨xb,3,nN⟩=sS (vi iQ si) /\ v.cell? ⟨xb,4,nN⟩=sS (vi iQ st) /\ v.cell? ⟨xb,5,nN⟩=sS (vi iQ bu):=λv m=>⟨(HX.out.keep m).cell 0 rfl 0,(HX.out.keep m).cell 0 rfl 1,(HX.out.keep m).cell 0 rfl 2,(HX.out.keep m).cell 0 rfl 3,(HX.out.keep m).cell 0 rfl 4,(HX.out.keep m).cell 0 rfl 5⟩
 have C:=hx W mR
 have hFl:∀ v,af [] W v -> Calls tp 107 #[vp (sS ⟨b,0,nN⟩),vi iQ cpu] v (λe u'=>e=.returned (.agg fv) /\ af [] v u'):=λv m=>by rw [<- HF.out];exact di HK.out ((HX.out.keep m).drop 0) cpu
 have m0:af [] W W:=af.refl _ _
 clear c12
 go_region_held3 (λv=>v.cell? ⟨xb,0,nN⟩=sS (vb tQ) /\ v.cell? ⟨xb,1,nN⟩=sS (vb il) /\ v.cell? ⟨xb,2,nN⟩=sS (vi iQ wy) /\ v.cell? ⟨xb,3,nN⟩=sS (vi iQ si) /\ v.cell? ⟨xb,4,nN⟩=sS (vi iQ st) /\ v.cell? ⟨xb,5,nN⟩=sS (vi iQ bu)) (assumption) (first
  | (
   go_at_call 107
   refine (hFl _ (by first|exact m0|exact m0.drewN _|exact m0.drew)).s λv mx=>?_
   have m1:af [] W v:=by first|exact m0.trans mx sM|exact (m0.drewN _).trans mx sM|exact m0.drew.trans mx sM
   have C:=hx _ m1
   clear mx)
  | (
   go_at_call 106
   refine (hNx _).s λv2 mx=>?_
   have m2:af [] W v2:=by first|exact m1.trans mx sM|exact (m1.drewN _).trans mx sM|exact m1.drew.trans mx sM
   have C:=hx _ m2
   clear mx))
 have hY:=HX.out.keep m2
 have c12:v2.cell? ⟨b,12,nN⟩=sS (vp (sS ⟨p.co,0,nN⟩)):=hY.cell 1 rfl 12
 have c0:v2.cell? ⟨xb,0,nN⟩=sS (vb tQ):=hY.cell 0 rfl 0
 clear C hx hFl hNx m0 m1 m2 HX
 have hCt:=hY.call (P:=tp) (f:=108) 13 rfl (λF1 h1=>gw h1 cpu fF)
 clear hY
 go_wp2_with (first
  | (
   go_at_call 108
   refine hCt.s λv3 hZ=>?_
   have hZ:On F w (ak.blk xb (.cells #[vb tQ,vb il,vi iQ wy,vi iQ si,vi iQ st,vi iQ bu] 213 (0,0)) :: ag b p { k with co:=k.co.count cpu fF }) v3:=hZ
   have HZ:=zh (show On F w (ag b p { k with co:=k.co.count cpu fF }) v3 from hZ.drop 0)
   have hLi:=On.kcall (pre:=[]) HZ.out HK2.out HT.out.1 HT.out.2 (λF1 h1 _ _=>BL h1 cpu)
   clear hZ hCt)
  | (go_at_call 112;refine hLi.mono ?_;rintro e v4 ⟨rfl,ho,p4,hE⟩;have HE:=zh (And.intro ho (show On F w (ag b p4 _) v4 from hE));clear ho hE hLi)
  )
 go_ret
 exact oU HE.out.2 HE.out.1
theorem vf (h:(aa b k).holds F w) (hT:bA w) (hF:tzL_ren.g 1∉F) (cpu:Int) (hpw:(if k.co.is cpu then k.co.at cpu else core0).power=tQ) (hw:k.what cpu=2):Calls tp 67 #[vp (sS ⟨b,0,nN⟩),vi iQ cpu] w (bo b (k.step cpu) (k.stepL cpu) F w):=by
 obtain ⟨hok,p,hA⟩:=ad h
 have c12:w.cell? ⟨b,12,nN⟩=sS (vp (sS ⟨p.co,0,nN⟩)):=hA.kC 12
 have hG:=hA.tells 12 rfl (λF1 h1=>gL h1 cpu)
 have hs0:k.step0 cpu={ k with co:=k.co.count cpu tQ }:=by unfold KT.step0;rw [pG hpw,hw];rfl
 have hst:k.step cpu={ k with co:=k.co.count cpu tQ,sp:=k.sp.ack cpu }:=by unfold KT.step;rw [hw,hs0];rfl
 have hsL:k.stepL cpu=[]:=by unfold KT.stepL;rw [hw];first|rfl|(rw [hs0];rfl)
 rw [hst,hsL]
 clear hs0
 have HK2:=zh (show KT.ok { k with co:=k.co.count cpu tQ } from hok.wCo (fZ k.co cpu tQ))
 have hNx:=λu=>gu (if k.co.is cpu then k.co.at cpu else core0) (k.flags cpu) u
 rw [show je (if k.co.is cpu then k.co.at cpu else core0) (k.flags cpu)=2 from hw] at hNx
 have HK:=zh hok
 clear hst hsL hw h hA
 generalize (if k.co.is cpu then k.co.at cpu else core0)=x at *
 obtain ⟨pw,il,wy,si,st,bu⟩:=x
 simp only at hpw
 subst hpw
 simp only [bD] at *
 generalize hfv:(ez (k.flags cpu)).toArray=fv at *
 have HF:=zh hfv
 clear hfv
 generalize k.co.findE cpu=fe at *
 have HT:=zh (And.intro hT hF)
 clear hok hT hF
 go_in
 go_wp2_with (
  go_at_call 105
  refine hG.mono ?_
  rintro e w1 ⟨rfl,hB,m1⟩
  have HX:=zh (hB.alloc (.cells #[vb tQ,vb il,vi iQ wy,vi iQ si,vi iQ st,vi iQ bu] 213 (0,0))).front
  clear hB hG m1)
 generalize w1.alloc (.cells #[vb tQ,vb il,vi iQ wy,vi iQ si,vi iQ st,vi iQ bu] 213 (0,0))=W at *
 generalize w1.heap.size=xb at *
 have hx:∀ v,af [] W v -> v.cell? ⟨xb,0,nN⟩=sS (vb tQ) /\ v.cell? ⟨xb,1,nN⟩=sS (vb il) /\ v.cell? ⟨xb,2,nN⟩=sS (vi iQ wy) /\ v.cell? ⟨xb,3,nN⟩=sS (vi iQ si) /\ v.cell? ⟨xb,4,nN⟩=sS (vi iQ st) /\ v.cell? ⟨xb,5,nN⟩=sS (vi iQ bu):=λv m=>⟨(HX.out.keep m).cell 0 rfl 0,(HX.out.keep m).cell 0 rfl 1,(HX.out.keep m).cell 0 rfl 2,(HX.out.keep m).cell 0 rfl 3,(HX.out.keep m).cell 0 rfl 4,(HX.out.keep m).cell 0 rfl 5⟩
 have C:=hx W mR
 have hFl:∀ v,af [] W v -> Calls tp 107 #[vp (sS ⟨b,0,nN⟩),vi iQ cpu] v (λe u'=>e=.returned (.agg fv) /\ af [] v u'):=λv m=>by rw [<- HF.out];exact di HK.out ((HX.out.keep m).drop 0) cpu
 have m0:af [] W W:=af.refl _ _
 clear c12
 go_region_held3 (λv=>v.cell? ⟨xb,0,nN⟩=sS (vb tQ) /\ v.cell? ⟨xb,1,nN⟩=sS (vb il) /\ v.cell? ⟨xb,2,nN⟩=sS (vi iQ wy) /\ v.cell? ⟨xb,3,nN⟩=sS (vi iQ si) /\ v.cell? ⟨xb,4,nN⟩=sS (vi iQ st) /\ v.cell? ⟨xb,5,nN⟩=sS (vi iQ bu)) (assumption) (first
  | (
   go_at_call 107
   refine (hFl _ (by first|exact m0|exact m0.drewN _|exact m0.drew)).s λv mx=>?_
   have m1:af [] W v:=by first|exact m0.trans mx sM|exact (m0.drewN _).trans mx sM|exact m0.drew.trans mx sM
   have C:=hx _ m1
   clear mx)
  | (
   go_at_call 106
   refine (hNx _).s λv2 mx=>?_
   have m2:af [] W v2:=by first|exact m1.trans mx sM|exact (m1.drewN _).trans mx sM|exact m1.drew.trans mx sM
   have C:=hx _ m2
   clear mx))
 have hY:=HX.out.keep m2
 have c12:v2.cell? ⟨b,12,nN⟩=sS (vp (sS ⟨p.co,0,nN⟩)):=hY.cell 1 rfl 12
 have c0:v2.cell? ⟨xb,0,nN⟩=sS (vb tQ):=hY.cell 0 rfl 0
 clear C hx hFl hNx m0 m1 m2 HX
 have hCt:=hY.call (P:=tp) (f:=108) 13 rfl (λF1 h1=>gw h1 cpu tQ)
 clear hY
 go_wp2_with (first
  | (
   go_at_call 108
   refine hCt.s λv3 hZ=>?_
   have hZ:On F w (ak.blk xb (.cells #[vb tQ,vb il,vi iQ wy,vi iQ si,vi iQ st,vi iQ bu] 213 (0,0)) :: ag b p { k with co:=k.co.count cpu tQ }) v3:=hZ
   have HZ:=zh (show On F w (ag b p { k with co:=k.co.count cpu tQ }) v3 from hZ.drop 0)
   have c10:v3.cell? ⟨b,10,nN⟩=sS (vp (sS ⟨p.sp,0,nN⟩)):=HZ.out.kC 10;have hAc:=HZ.out.call (P:=tp) (f:=110) 14 rfl (λF1 h1=>FN h1 cpu)
   clear hZ hCt)
  | (go_at_call 110;refine hAc.s λv4 hE=>?_;have HE:=zh (show On F w (ag b p { k with co:=k.co.count cpu tQ,sp:=k.sp.ack cpu }) v4 from hE);clear hE hAc)
  )
 go_ret
 exact oU HE.out (HK2.out.wSp _)
theorem vg (h:(aa b k).holds F w) (hT:bA w) (hF:tzL_ren.g 1∉F) (cpu:Int) (hpw:(if k.co.is cpu then k.co.at cpu else core0).power=tQ) (hw:k.what cpu=1):Calls tp 67 #[vp (sS ⟨b,0,nN⟩),vi iQ cpu] w (bo b (k.step cpu) (k.stepL cpu) F w):=by
 obtain ⟨hok,p,hA⟩:=ad h
 have c12:w.cell? ⟨b,12,nN⟩=sS (vp (sS ⟨p.co,0,nN⟩)):=hA.kC 12
 have hG:=hA.tells 12 rfl (λF1 h1=>gL h1 cpu)
 have hs0:k.step0 cpu={ k with co:=k.co.count cpu tQ }:=by unfold KT.step0;rw [pG hpw,hw];rfl
 have hst:k.step cpu={ k with co:=(k.co.count cpu tQ).wake cpu k.now }:=by unfold KT.step;rw [hw,hs0];rfl
 have hsL:k.stepL cpu=[]:=by unfold KT.stepL;rw [hw];first|rfl|(rw [hs0];rfl)
 rw [hst,hsL]
 clear hs0
 have HK2:=zh (show KT.ok { k with co:=k.co.count cpu tQ } from hok.wCo (fZ k.co cpu tQ))
 have hNx:=λu=>gu (if k.co.is cpu then k.co.at cpu else core0) (k.flags cpu) u
 rw [show je (if k.co.is cpu then k.co.at cpu else core0) (k.flags cpu)=1 from hw] at hNx
 have HK:=zh hok
 clear hst hsL hw h hA
 generalize (if k.co.is cpu then k.co.at cpu else core0)=x at *
 obtain ⟨pw,il,wy,si,st,bu⟩:=x
 simp only at hpw
 subst hpw
 simp only [bD] at *
 generalize hfv:(ez (k.flags cpu)).toArray=fv at *
 have HF:=zh hfv
 clear hfv
 generalize k.co.findE cpu=fe at *
 have HT:=zh (And.intro hT hF)
 clear hok hT hF
 go_in
 go_wp2_with (
  go_at_call 105
  refine hG.mono ?_
  rintro e w1 ⟨rfl,hB,m1⟩
  have HX:=zh (hB.alloc (.cells #[vb tQ,vb il,vi iQ wy,vi iQ si,vi iQ st,vi iQ bu] 213 (0,0))).front
  clear hB hG m1)
 generalize w1.alloc (.cells #[vb tQ,vb il,vi iQ wy,vi iQ si,vi iQ st,vi iQ bu] 213 (0,0))=W at *
 generalize w1.heap.size=xb at *
 have hx:∀ v,af [] W v -> v.cell? ⟨xb,0,nN⟩=sS (vb tQ) /\ v.cell? ⟨xb,1,nN⟩=sS (vb il) /\ v.cell? ⟨xb,2,nN⟩=sS (vi iQ wy) /\ v.cell? ⟨xb,3,nN⟩=sS (vi iQ si) /\ v.cell? ⟨xb,4,nN⟩=sS (vi iQ st) /\ v.cell? ⟨xb,5,nN⟩=sS (vi iQ bu):=λv m=>⟨(HX.out.keep m).cell 0 rfl 0,(HX.out.keep m).cell 0 rfl 1,(HX.out.keep m).cell 0 rfl 2,(HX.out.keep m).cell 0 rfl 3,(HX.out.keep m).cell 0 rfl 4,(HX.out.keep m).cell 0 rfl 5⟩
 have C:=hx W mR
 have hFl:∀ v,af [] W v -> Calls tp 107 #[vp (sS ⟨b,0,nN⟩),vi iQ cpu] v (λe u'=>e=.returned (.agg fv) /\ af [] v u'):=λv m=>by rw [<- HF.out];exact di HK.out ((HX.out.keep m).drop 0) cpu
 have m0:af [] W W:=af.refl _ _
 clear c12
 go_region_held3 (λv=>v.cell? ⟨xb,0,nN⟩=sS (vb tQ) /\ v.cell? ⟨xb,1,nN⟩=sS (vb il) /\ v.cell? ⟨xb,2,nN⟩=sS (vi iQ wy) /\ v.cell? ⟨xb,3,nN⟩=sS (vi iQ si) /\ v.cell? ⟨xb,4,nN⟩=sS (vi iQ st) /\ v.cell? ⟨xb,5,nN⟩=sS (vi iQ bu)) (assumption) (first
  | (
   go_at_call 107
   refine (hFl _ (by first|exact m0|exact m0.drewN _|exact m0.drew)).s λv mx=>?_
   have m1:af [] W v:=by first|exact m0.trans mx sM|exact (m0.drewN _).trans mx sM|exact m0.drew.trans mx sM
   have C:=hx _ m1
   clear mx)
  | (
   go_at_call 106
   refine (hNx _).s λv2 mx=>?_
   have m2:af [] W v2:=by first|exact m1.trans mx sM|exact (m1.drewN _).trans mx sM|exact m1.drew.trans mx sM
   have C:=hx _ m2
   clear mx))
 have hY:=HX.out.keep m2
 have c12:v2.cell? ⟨b,12,nN⟩=sS (vp (sS ⟨p.co,0,nN⟩)):=hY.cell 1 rfl 12
 have c0:v2.cell? ⟨xb,0,nN⟩=sS (vb tQ):=hY.cell 0 rfl 0
 clear C hx hFl hNx m0 m1 m2 HX
 have hCt:=hY.call (P:=tp) (f:=108) 13 rfl (λF1 h1=>gw h1 cpu tQ)
 clear hY
 go_wp2_with (first
  | (
   go_at_call 108
   refine hCt.s λv3 hZ=>?_
   have hZ:On F w (ak.blk xb (.cells #[vb tQ,vb il,vi iQ wy,vi iQ si,vi iQ st,vi iQ bu] 213 (0,0)) :: ag b p { k with co:=k.co.count cpu tQ }) v3:=hZ
   have HZ:=zh (show On F w (ag b p { k with co:=k.co.count cpu tQ }) v3 from hZ.drop 0)
   skip
   clear hZ hCt)
  | (fail)
  )
 have hx:∀ v,af [] v3 v -> v.cell? ⟨b,12,nN⟩=sS (vp (sS ⟨p.co,0,nN⟩)) /\ v.cell? ⟨b,18,nN⟩=sS (vi iQ k.now):=λv m=>⟨(HZ.out.keep m).kC 12,(HZ.out.keep m).kC 18⟩
 have m0:af [] v3 v3:=af.refl _ _
 have C:=hx v3 m0
 have hWk:=λv (m:af [] v3 v)=>(HZ.out.keep m).call (P:=tp) (f:=109) 12 rfl (λF1 h1=>Fe h1 cpu k.now)
 go_region_held3 (λv=>v.cell? ⟨b,12,nN⟩=sS (vp (sS ⟨p.co,0,nN⟩)) /\ v.cell? ⟨b,18,nN⟩=sS (vi iQ k.now)) (assumption) (first
  | (
   go_at_call 109
   refine (hWk _ (by first|exact m0|exact m0.drewN _|exact m0.drew)).s λv4 hE=>?_
   have hE:On F w (ag b p { k with co:=(k.co.count cpu tQ).wake cpu k.now }) v4:=hE
   have C:v4.cell? ⟨b,12,nN⟩=sS (vp (sS ⟨p.co,0,nN⟩)) /\ v4.cell? ⟨b,18,nN⟩=sS (vi iQ k.now):=⟨hE.kC 12,hE.kC 18⟩
   have HE:=zh hE
   clear hE))
 clear C
 go_wp2
 go_ret
 exact oU HE.out (HK2.out.wCo (Eh _ _ _))
theorem pO (h:(aa b k).holds F w) (hT:bA w) (hF:tzL_ren.g 1∉F) (cpu:Int) (hpw:(if k.co.is cpu then k.co.at cpu else core0).power=fF):Calls tp 67 #[vp (sS ⟨b,0,nN⟩),vi iQ cpu] w (bo b (k.step cpu) (k.stepL cpu) F w):=by
 obtain ⟨hok,p,hA⟩:=ad h
 have hw:k.what cpu=0:=by unfold KT.what je;rw [pG hpw]
 have c12:w.cell? ⟨b,12,nN⟩=sS (vp (sS ⟨p.co,0,nN⟩)):=hA.kC 12
 have hG:=hA.tells 12 rfl (λF1 h1=>gL h1 cpu)
 have hs0:k.step0 cpu=k:=by unfold KT.step0;rw [hpw];rfl
 have hst:k.step cpu=k:=by unfold KT.step;rw [hw,hs0];rfl
 have hsL:k.stepL cpu=[]:=by unfold KT.stepL;rw [hw];rfl
 rw [hst,hsL]
 clear hs0
 have HK2:=zh hok
 have hNx:=λu=>gu (if k.co.is cpu then k.co.at cpu else core0) (k.flags cpu) u
 rw [show je (if k.co.is cpu then k.co.at cpu else core0) (k.flags cpu)=0 from hw] at hNx
 have HK:=zh hok
 clear hst hsL hw h hA
 generalize (if k.co.is cpu then k.co.at cpu else core0)=x at *
 obtain ⟨pw,il,wy,si,st,bu⟩:=x
 simp only at hpw
 subst hpw
 simp only [bD] at *
 generalize hfv:(ez (k.flags cpu)).toArray=fv at *
 have HF:=zh hfv
 clear hfv
 generalize k.co.findE cpu=fe at *
 have HT:=zh (And.intro hT hF)
 clear hok hT hF
 go_in
 go_wp2_with (
  go_at_call 105
  refine hG.mono ?_
  rintro e w1 ⟨rfl,hB,m1⟩
  have HX:=zh (hB.alloc (.cells #[vb fF,vb il,vi iQ wy,vi iQ si,vi iQ st,vi iQ bu] 213 (0,0))).front
  clear hB hG m1)
 generalize w1.alloc (.cells #[vb fF,vb il,vi iQ wy,vi iQ si,vi iQ st,vi iQ bu] 213 (0,0))=W at *
 generalize w1.heap.size=xb at *
 have hx:∀ v,af [] W v -> v.cell? ⟨xb,0,nN⟩=sS (vb fF) /\ v.cell? ⟨xb,1,nN⟩=sS (vb il) /\ v.cell? ⟨xb,2,nN⟩=sS (vi iQ wy) /\ v.cell? ⟨xb,3,nN⟩=sS (vi iQ si) /\ v.cell? ⟨xb,4,nN⟩=sS (vi iQ st) /\ v.cell? ⟨xb,5,nN⟩=sS (vi iQ bu):=λv m=>⟨(HX.out.keep m).cell 0 rfl 0,(HX.out.keep m).cell 0 rfl 1,(HX.out.keep m).cell 0 rfl 2,(HX.out.keep m).cell 0 rfl 3,(HX.out.keep m).cell 0 rfl 4,(HX.out.keep m).cell 0 rfl 5⟩
 have C:=hx W mR
 have hFl:∀ v,af [] W v -> Calls tp 107 #[vp (sS ⟨b,0,nN⟩),vi iQ cpu] v (λe u'=>e=.returned (.agg fv) /\ af [] v u'):=λv m=>by rw [<- HF.out];exact di HK.out ((HX.out.keep m).drop 0) cpu
 have m0:af [] W W:=af.refl _ _
 clear c12
 go_region_held3 (λv=>v.cell? ⟨xb,0,nN⟩=sS (vb fF) /\ v.cell? ⟨xb,1,nN⟩=sS (vb il) /\ v.cell? ⟨xb,2,nN⟩=sS (vi iQ wy) /\ v.cell? ⟨xb,3,nN⟩=sS (vi iQ si) /\ v.cell? ⟨xb,4,nN⟩=sS (vi iQ st) /\ v.cell? ⟨xb,5,nN⟩=sS (vi iQ bu)) (assumption) (first
  | (
   go_at_call 107
   refine (hFl _ (by first|exact m0|exact m0.drewN _|exact m0.drew)).s λv mx=>?_
   have m1:af [] W v:=by first|exact m0.trans mx sM|exact (m0.drewN _).trans mx sM|exact m0.drew.trans mx sM
   have C:=hx _ m1
   clear mx)
  | (
   go_at_call 106
   refine (hNx _).s λv2 mx=>?_
   have m2:af [] W v2:=by first|exact m1.trans mx sM|exact (m1.drewN _).trans mx sM|exact m1.drew.trans mx sM
   have C:=hx _ m2
   clear mx))
 have hY:=HX.out.keep m2
 have c12:v2.cell? ⟨b,12,nN⟩=sS (vp (sS ⟨p.co,0,nN⟩)):=hY.cell 1 rfl 12
 have c0:v2.cell? ⟨xb,0,nN⟩=sS (vb fF):=hY.cell 0 rfl 0
 clear C hx hFl hNx m0 m1 m2 HX
 have HZ:=zh (show On F w (ag b p k) v2 from hY.drop 0)
 clear hY
 go_wp2
 go_ret
 exact oU HZ.out HK2.out
theorem FE (k:KT) (cpu:Int):k.what cpu=0 \/ k.what cpu=1 \/ k.what cpu=2 \/ k.what cpu=3 \/ k.what cpu=4 \/ k.what cpu=5 \/ k.what cpu=6 \/ k.what cpu=7 \/ k.what cpu=8 \/ k.what cpu=9:=by
 have hW:∀ f:fH,f.wants=0 \/ f.wants=2 \/ f.wants=3 \/ f.wants=4 \/ f.wants=5 \/ f.wants=6 \/ f.wants=7 \/ f.wants=8 \/ f.wants=9:=λf=>by
  unfold fH.wants
  repeat (first|decide|(split<;>try decide))
 unfold KT.what je
 have:=hW (k.flags cpu)
 generalize (k.flags cpu).wants=x at *
 generalize (if k.co.is cpu then k.co.at cpu else core0)=c at *
 split
 ·exact .inl rfl
 ·split
  ·omega
  ·split
   ·exact .inl rfl
   ·exact .inr (.inl rfl)
theorem zF (h:(aa b k).holds F w) (hT:bA w) (hF:tzL_ren.g 1∉F) (cpu:Int):Calls tp 67 #[vp (sS ⟨b,0,nN⟩),vi iQ cpu] w (bo b (k.step cpu) (k.stepL cpu) F w):=by
 cases hpw:(if k.co.is cpu then k.co.at cpu else core0).power with
 | false=>exact pO h hT hF cpu hpw
 | true=>
  rcases FE k cpu with h1|h1|h1|h1|h1|h1|h1|h1|h1|h1
  ·exact rl h hT hF cpu hpw h1
  ·exact vg h hT hF cpu hpw h1
  ·exact vf h hT hF cpu hpw h1
  ·exact vd h hT hF cpu hpw h1
  ·exact cH h hT hF cpu 4 dE hpw h1
  ·exact cH h hT hF cpu 5 dE hpw h1
  ·exact cH h hT hF cpu 6 dE hpw h1
  ·exact cH h hT hF cpu 7 dE hpw h1
  ·exact cH h hT hF cpu 8 dE hpw h1
  ·exact vc h hT hF cpu hpw h1
end
section
variable {F:List Nat} {w u:wW} {b:Nat} {p:KP} {k:KT}
theorem gC.mods {l:List cX} {e:Ending} {v w':wW} (h:gC l v e w'):af [] v w':=by obtain ⟨_,_,_,m,_⟩:=h;exact m
theorem oF (h:(aa b k).holds F w) (ki cpu id n:Int) (m:Nat) (ho:k.ofE cpu≠0):Calls tp 74 #[vp (sS ⟨b,0,nN⟩),.agg #[vi iQ ki,vi iQ cpu,vi iQ id,vi uQ (m:Nat),vi iQ n]] w (bo b k (aX 0 (k.ofE cpu)) F w):=by
 obtain ⟨hok,p,hK⟩:=ad h
 have HK:=zh hok
 have hA:=(hK.alloc (.cells #[vi iQ ki,vi iQ cpu,vi iQ id,vi uQ (m:Nat),vi iQ n] 34 (0,0))).front
 have x1:=ab (ai w (.cells #[vi iQ ki,vi iQ cpu,vi iQ id,vi uQ (m:Nat),vi iQ n] 34 (0,0))) 1
 have hOf:=ga (k:=k) (hA.cell 1 rfl 15) (hA.cell 1 rfl 17) hok.ac cpu
 have HA:=zh hA
 have hPl:=λv=>aD (k.ofE cpu) v
 generalize k.ofE cpu=o at *
 have hI:(o != 0)=tQ:=by simpa using ho
 clear h hK hok hA ho
 go_in
 go_wp2_with (first
  | (
   go_at_call 144
   refine hOf.r λj=>?_
   have HB:=zh (HA.out.keep ((af.refl [] _).drewN j))
   clear hOf HA)
  | (
   go_at_call 66
   refine (hPl _).mono ?_
   intro e w2 hN
   obtain ⟨a,c,rfl,hE⟩:=hN.does ((HB.out.kdrop1.kernel HK.out).on)))
 go_ret
 exact ⟨a,c,rfl,hE⟩
end
section
variable {F:List Nat} {w u:wW} {b:Nat} {p:KP} {k:KT}
theorem pX (h:(aa b k).holds F w) (hT:bA w) (hF:tzL_ren.g 1∉F) (cpu id n:Int) (m:Nat) (ho:k.ofE cpu=0):Calls tp 74 #[vp (sS ⟨b,0,nN⟩),.agg #[vi iQ 18,vi iQ cpu,vi iQ id,vi uQ (m:Nat),vi iQ n]] w (bo b { k with wk:=k.wk.queue cpu } (aX (k.wk.queueV cpu) (k.wk.queueE cpu)) F w):=by
 obtain ⟨hok,p,hK⟩:=ad h
 have HO:=zh (show KT.ok { k with wk:=k.wk.queue cpu } from hok.wWk (sX k.wk cpu))
 have hA:=(hK.alloc (.cells #[vi iQ 18,vi iQ cpu,vi iQ id,vi uQ (m:Nat),vi iQ n] 34 (0,0))).front
 have x0:=ab (ai w (.cells #[vi iQ 18,vi iQ cpu,vi iQ id,vi uQ (m:Nat),vi iQ n] 34 (0,0))) 0
 have x1:=ab (ai w (.cells #[vi iQ 18,vi iQ cpu,vi iQ id,vi uQ (m:Nat),vi iQ n] 34 (0,0))) 1
 have hOf:=ga (k:=k) (hA.cell 1 rfl 15) (hA.cell 1 rfl 17) hok.ac cpu
 rw [ho] at hOf
 have HA:=zh hA
 have HT:=zh (And.intro hT hF)
 clear h hK hok hA ho hT hF
 go_in
 go_wp2_with (
   go_at_call 144
   refine hOf.r λj=>?_
   have hX:=HA.out.keep ((af.refl [] _).drewN j)
   have x0:=hX.cell 0 rfl 0
   have HX:=zh hX
   clear hOf HA hX)
 generalize (w.alloc (.cells #[vi iQ 18,vi iQ cpu,vi iQ id,vi uQ (m:Nat),vi iQ n] 34 (0,0))).drewN j=W at *
 generalize w.heap.size=xb at *
 have hx:∀ v,af [] W v -> v.cell? ⟨b,5,nN⟩=sS (vp (sS ⟨p.wk,0,nN⟩)) /\ v.cell? ⟨xb,1,nN⟩=sS (vi iQ cpu) /\ v.cell? ⟨xb,2,nN⟩=sS (vi iQ id):=λv m=>⟨(HX.out.keep m).cell 1 rfl 5,(HX.out.keep m).cell 0 rfl 1,(HX.out.keep m).cell 0 rfl 2⟩
 have m0:af [] W W:=af.refl _ _
 have C:=hx W m0
 have hQ:=λv (mv:af [] W v)=>(HX.out.keep mv).callU (P:=tp) (f:=73) HT.out.1 HT.out.2 8 rfl (λF1 h1 hT1 hF1=>rZ h1 hT1 hF1 cpu)
 have hQ:∀ v,af [] W v -> Calls tp 73 #[vp (sS ⟨p.wk,0,nN⟩),vi iQ cpu] v (λe u'=>e=.returned (.tuple #[vi iQ (k.wk.queueV cpu),vi iQ (k.wk.queueE cpu)]) /\ On F w (ak.blk xb (.cells #[vi iQ 18,vi iQ cpu,vi iQ id,vi uQ (m:Nat),vi iQ n] 34 (0,0)) :: ag b p { k with wk:=k.wk.queue cpu }) u'):=hQ
 have hAn:=λv=>bs (k.wk.queueV cpu) (k.wk.queueE cpu) v
 generalize hk2:{ k with wk:=k.wk.queue cpu }=k2 at *
 have hcell:∀ v,On F w (ak.blk xb (.cells #[vi iQ 18,vi iQ cpu,vi iQ id,vi uQ (m:Nat),vi iQ n] 34 (0,0)) :: ag b p k2) v -> v.cell? ⟨b,5,nN⟩=sS (vp (sS ⟨p.wk,0,nN⟩)) /\ v.cell? ⟨xb,1,nN⟩=sS (vi iQ cpu) /\ v.cell? ⟨xb,2,nN⟩=sS (vi iQ id):=λv h=>by subst hk2;exact ⟨h.cell 1 rfl 5,h.cell 0 rfl 1,h.cell 0 rfl 2⟩
 clear hk2 x0 x1
 go_region_held3 (λv=>v.cell? ⟨b,5,nN⟩=sS (vp (sS ⟨p.wk,0,nN⟩)) /\ v.cell? ⟨xb,1,nN⟩=sS (vi iQ cpu) /\ v.cell? ⟨xb,2,nN⟩=sS (vi iQ id)) (assumption) (first
  | (
   go_at_call 73
   refine (hQ _ (by first|exact m0|exact m0.drewN _|exact m0.drew)).s λv3 hE=>?_
   have C:=hcell _ hE
   have HE:=zh hE
   have HR:=zh ((hE.drop 0).kernel HO.out).on
   clear hE)
  | (
   first|go_at_call 69|go_at_call 66
   refine (hAn _).mono ?_
   intro e v4 hN
   have mN:af [] v3 v4:=by first|exact hN.mods|exact (mR.drewN _).trans hN.mods sM|exact mR.drew.trans hN.mods sM
   have hD:=hN.does (by first|exact HR.out|exact HR.out.keep (mR.drewN _)|exact HR.out.keep mR.drew)
   have C:=hcell _ (HE.out.keep mN)
   obtain ⟨a,c,rfl,hD⟩:=hD
   clear hN mN))
 go_wp2
 go_ret
 exact ⟨a,c,rfl,hD⟩
end
theorem Bz (g:SG) (c:Int):(g.enter c).l.length=g.l.length:=by unfold SG.enter;split<;>simp
theorem By (g:SG) (c:Int):(g.leave c).l.length=g.l.length:=by unfold SG.leave;split<;>simp
theorem zo (s:cO) (a:Int):(s.alloc a).n=s.n:=Bv ..
theorem Bu (s:cO) (a b:Int):(s.give a b).n=s.n:=Ec ..
section
variable {F:List Nat} {w u:wW} {b:Nat} {p:KP} {k:KT}
theorem pW (h:(aa b k).holds F w) (hT:bA w) (hF:tzL_ren.g 1∉F) (cpu id n:Int) (m:Nat) (ho:k.ofE cpu=0):Calls tp 74 #[vp (sS ⟨b,0,nN⟩),.agg #[vi iQ 20,vi iQ cpu,vi iQ id,vi uQ (m:Nat),vi iQ n]] w (bo b { k with cb:=k.cb.send cpu } (aX (k.cb.sendV cpu) (k.cb.sendE cpu)) F w):=by
 obtain ⟨hok,p,hK⟩:=ad h
 have HO:=zh (show KT.ok { k with cb:=k.cb.send cpu } from hok.wCb (Ek k.cb cpu))
 have hA:=(hK.alloc (.cells #[vi iQ 20,vi iQ cpu,vi iQ id,vi uQ (m:Nat),vi iQ n] 34 (0,0))).front
 have x0:=ab (ai w (.cells #[vi iQ 20,vi iQ cpu,vi iQ id,vi uQ (m:Nat),vi iQ n] 34 (0,0))) 0
 have x1:=ab (ai w (.cells #[vi iQ 20,vi iQ cpu,vi iQ id,vi uQ (m:Nat),vi iQ n] 34 (0,0))) 1
 have hOf:=ga (k:=k) (hA.cell 1 rfl 15) (hA.cell 1 rfl 17) hok.ac cpu
 rw [ho] at hOf
 have HA:=zh hA
 have HT:=zh (And.intro hT hF)
 clear h hK hok hA ho hT hF
 go_in
 go_wp2_with (
   go_at_call 144
   refine hOf.r λj=>?_
   have hX:=HA.out.keep ((af.refl [] _).drewN j)
   have x0:=hX.cell 0 rfl 0
   have HX:=zh hX
   clear hOf HA hX)
 generalize (w.alloc (.cells #[vi iQ 20,vi iQ cpu,vi iQ id,vi uQ (m:Nat),vi iQ n] 34 (0,0))).drewN j=W at *
 generalize w.heap.size=xb at *
 have hx:∀ v,af [] W v -> v.cell? ⟨b,6,nN⟩=sS (vp (sS ⟨p.cb,0,nN⟩)) /\ v.cell? ⟨xb,1,nN⟩=sS (vi iQ cpu) /\ v.cell? ⟨xb,2,nN⟩=sS (vi iQ id):=λv m=>⟨(HX.out.keep m).cell 1 rfl 6,(HX.out.keep m).cell 0 rfl 1,(HX.out.keep m).cell 0 rfl 2⟩
 have m0:af [] W W:=af.refl _ _
 have C:=hx W m0
 have hQ:=λv (mv:af [] W v)=>(HX.out.keep mv).callU (P:=tp) (f:=146) HT.out.1 HT.out.2 9 rfl (λF1 h1 hT1 hF1=>Fk h1 hT1 hF1 cpu)
 have hQ:∀ v,af [] W v -> Calls tp 146 #[vp (sS ⟨p.cb,0,nN⟩),vi iQ cpu] v (λe u'=>e=.returned (.tuple #[vi iQ (k.cb.sendV cpu),vi iQ (k.cb.sendE cpu)]) /\ On F w (ak.blk xb (.cells #[vi iQ 20,vi iQ cpu,vi iQ id,vi uQ (m:Nat),vi iQ n] 34 (0,0)) :: ag b p { k with cb:=k.cb.send cpu }) u'):=hQ
 have hAn:=λv=>bs (k.cb.sendV cpu) (k.cb.sendE cpu) v
 generalize hk2:{ k with cb:=k.cb.send cpu }=k2 at *
 have hcell:∀ v,On F w (ak.blk xb (.cells #[vi iQ 20,vi iQ cpu,vi iQ id,vi uQ (m:Nat),vi iQ n] 34 (0,0)) :: ag b p k2) v -> v.cell? ⟨b,6,nN⟩=sS (vp (sS ⟨p.cb,0,nN⟩)) /\ v.cell? ⟨xb,1,nN⟩=sS (vi iQ cpu) /\ v.cell? ⟨xb,2,nN⟩=sS (vi iQ id):=λv h=>by subst hk2;exact ⟨h.cell 1 rfl 6,h.cell 0 rfl 1,h.cell 0 rfl 2⟩
 clear hk2 x0 x1
 go_region_held3 (λv=>v.cell? ⟨b,6,nN⟩=sS (vp (sS ⟨p.cb,0,nN⟩)) /\ v.cell? ⟨xb,1,nN⟩=sS (vi iQ cpu) /\ v.cell? ⟨xb,2,nN⟩=sS (vi iQ id)) (assumption) (first
  | (
   go_at_call 146
   refine (hQ _ (by first|exact m0|exact m0.drewN _|exact m0.drew)).s λv3 hE=>?_
   have C:=hcell _ hE
   have HE:=zh hE
   have HR:=zh ((hE.drop 0).kernel HO.out).on
   clear hE)
  | (
   first|go_at_call 69|go_at_call 66
   refine (hAn _).mono ?_
   intro e v4 hN
   have mN:af [] v3 v4:=by first|exact hN.mods|exact (mR.drewN _).trans hN.mods sM|exact mR.drew.trans hN.mods sM
   have hD:=hN.does (by first|exact HR.out|exact HR.out.keep (mR.drewN _)|exact HR.out.keep mR.drew)
   have C:=hcell _ (HE.out.keep mN)
   obtain ⟨a,c,rfl,hD⟩:=hD
   clear hN mN))
 go_wp2
 go_ret
 exact ⟨a,c,rfl,hD⟩
end
section
variable {F:List Nat} {w u:wW} {b:Nat} {p:KP} {k:KT}
theorem pV (h:(aa b k).holds F w) (hT:bA w) (hF:tzL_ren.g 1∉F) (cpu id n:Int) (m:Nat) (ho:k.ofE cpu=0):Calls tp 74 #[vp (sS ⟨b,0,nN⟩),.agg #[vi iQ 21,vi iQ cpu,vi iQ id,vi uQ (m:Nat),vi iQ n]] w (bo b { k with ob:=k.ob.alloc cpu } (aX (k.ob.allocV cpu) (k.ob.allocE cpu)) F w):=by
 obtain ⟨hok,p,hK⟩:=ad h
 have HO:=zh (show KT.ok { k with ob:=k.ob.alloc cpu } from hok.wOb (zo k.ob cpu))
 have hA:=(hK.alloc (.cells #[vi iQ 21,vi iQ cpu,vi iQ id,vi uQ (m:Nat),vi iQ n] 34 (0,0))).front
 have x0:=ab (ai w (.cells #[vi iQ 21,vi iQ cpu,vi iQ id,vi uQ (m:Nat),vi iQ n] 34 (0,0))) 0
 have x1:=ab (ai w (.cells #[vi iQ 21,vi iQ cpu,vi iQ id,vi uQ (m:Nat),vi iQ n] 34 (0,0))) 1
 have hOf:=ga (k:=k) (hA.cell 1 rfl 15) (hA.cell 1 rfl 17) hok.ac cpu
 rw [ho] at hOf
 have HA:=zh hA
 have HT:=zh (And.intro hT hF)
 clear h hK hok hA ho hT hF
 go_in
 go_wp2_with (
   go_at_call 144
   refine hOf.r λj=>?_
   have hX:=HA.out.keep ((af.refl [] _).drewN j)
   have x0:=hX.cell 0 rfl 0
   have HX:=zh hX
   clear hOf HA hX)
 generalize (w.alloc (.cells #[vi iQ 21,vi iQ cpu,vi iQ id,vi uQ (m:Nat),vi iQ n] 34 (0,0))).drewN j=W at *
 generalize w.heap.size=xb at *
 have hx:∀ v,af [] W v -> v.cell? ⟨b,7,nN⟩=sS (vp (sS ⟨p.ob,0,nN⟩)) /\ v.cell? ⟨xb,1,nN⟩=sS (vi iQ cpu) /\ v.cell? ⟨xb,2,nN⟩=sS (vi iQ id):=λv m=>⟨(HX.out.keep m).cell 1 rfl 7,(HX.out.keep m).cell 0 rfl 1,(HX.out.keep m).cell 0 rfl 2⟩
 have m0:af [] W W:=af.refl _ _
 have C:=hx W m0
 have hQ:=λv (mv:af [] W v)=>(HX.out.keep mv).call (P:=tp) (f:=147) 10 rfl (λF1 h1=>yK h1 cpu)
 have hQ:∀ v,af [] W v -> Calls tp 147 #[vp (sS ⟨p.ob,0,nN⟩),vi iQ cpu] v (λe u'=>e=.returned (.tuple #[vi iQ (k.ob.allocV cpu),vi iQ (k.ob.allocE cpu)]) /\ On F w (ak.blk xb (.cells #[vi iQ 21,vi iQ cpu,vi iQ id,vi uQ (m:Nat),vi iQ n] 34 (0,0)) :: ag b p { k with ob:=k.ob.alloc cpu }) u'):=hQ
 have hAn:=λv=>bs (k.ob.allocV cpu) (k.ob.allocE cpu) v
 generalize hk2:{ k with ob:=k.ob.alloc cpu }=k2 at *
 have hcell:∀ v,On F w (ak.blk xb (.cells #[vi iQ 21,vi iQ cpu,vi iQ id,vi uQ (m:Nat),vi iQ n] 34 (0,0)) :: ag b p k2) v -> v.cell? ⟨b,7,nN⟩=sS (vp (sS ⟨p.ob,0,nN⟩)) /\ v.cell? ⟨xb,1,nN⟩=sS (vi iQ cpu) /\ v.cell? ⟨xb,2,nN⟩=sS (vi iQ id):=λv h=>by subst hk2;exact ⟨h.cell 1 rfl 7,h.cell 0 rfl 1,h.cell 0 rfl 2⟩
 clear hk2 x0 x1
 go_region_held3 (λv=>v.cell? ⟨b,7,nN⟩=sS (vp (sS ⟨p.ob,0,nN⟩)) /\ v.cell? ⟨xb,1,nN⟩=sS (vi iQ cpu) /\ v.cell? ⟨xb,2,nN⟩=sS (vi iQ id)) (assumption) (first
  | (
   go_at_call 147
   refine (hQ _ (by first|exact m0|exact m0.drewN _|exact m0.drew)).s λv3 hE=>?_
   have C:=hcell _ hE
   have HE:=zh hE
   have HR:=zh ((hE.drop 0).kernel HO.out).on
   clear hE)
  | (
   first|go_at_call 69|go_at_call 66
   refine (hAn _).mono ?_
   intro e v4 hN
   have mN:af [] v3 v4:=by first|exact hN.mods|exact (mR.drewN _).trans hN.mods sM|exact mR.drew.trans hN.mods sM
   have hD:=hN.does (by first|exact HR.out|exact HR.out.keep (mR.drewN _)|exact HR.out.keep mR.drew)
   have C:=hcell _ (HE.out.keep mN)
   obtain ⟨a,c,rfl,hD⟩:=hD
   clear hN mN))
 go_wp2
 go_ret
 exact ⟨a,c,rfl,hD⟩
end
section
variable {F:List Nat} {w u:wW} {b:Nat} {p:KP} {k:KT}
theorem pU (h:(aa b k).holds F w) (hT:bA w) (hF:tzL_ren.g 1∉F) (cpu id n:Int) (m:Nat) (ho:k.ofE cpu=0):Calls tp 74 #[vp (sS ⟨b,0,nN⟩),.agg #[vi iQ 22,vi iQ cpu,vi iQ id,vi uQ (m:Nat),vi iQ n]] w (bo b { k with ob:=k.ob.give cpu id } (aX 0 (k.ob.giveE cpu id)) F w):=by
 obtain ⟨hok,p,hK⟩:=ad h
 have HO:=zh (show KT.ok { k with ob:=k.ob.give cpu id } from hok.wOb (Bu k.ob cpu id))
 have hA:=(hK.alloc (.cells #[vi iQ 22,vi iQ cpu,vi iQ id,vi uQ (m:Nat),vi iQ n] 34 (0,0))).front
 have x0:=ab (ai w (.cells #[vi iQ 22,vi iQ cpu,vi iQ id,vi uQ (m:Nat),vi iQ n] 34 (0,0))) 0
 have x1:=ab (ai w (.cells #[vi iQ 22,vi iQ cpu,vi iQ id,vi uQ (m:Nat),vi iQ n] 34 (0,0))) 1
 have hOf:=ga (k:=k) (hA.cell 1 rfl 15) (hA.cell 1 rfl 17) hok.ac cpu
 rw [ho] at hOf
 have HA:=zh hA
 have HT:=zh (And.intro hT hF)
 clear h hK hok hA ho hT hF
 go_in
 go_wp2_with (
   go_at_call 144
   refine hOf.r λj=>?_
   have hX:=HA.out.keep ((af.refl [] _).drewN j)
   have x0:=hX.cell 0 rfl 0
   have HX:=zh hX
   clear hOf HA hX)
 generalize (w.alloc (.cells #[vi iQ 22,vi iQ cpu,vi iQ id,vi uQ (m:Nat),vi iQ n] 34 (0,0))).drewN j=W at *
 generalize w.heap.size=xb at *
 have hx:∀ v,af [] W v -> v.cell? ⟨b,7,nN⟩=sS (vp (sS ⟨p.ob,0,nN⟩)) /\ v.cell? ⟨xb,1,nN⟩=sS (vi iQ cpu) /\ v.cell? ⟨xb,2,nN⟩=sS (vi iQ id):=λv m=>⟨(HX.out.keep m).cell 1 rfl 7,(HX.out.keep m).cell 0 rfl 1,(HX.out.keep m).cell 0 rfl 2⟩
 have m0:af [] W W:=af.refl _ _
 have C:=hx W m0
 have hQ:=λv (mv:af [] W v)=>(HX.out.keep mv).call (P:=tp) (f:=148) 10 rfl (λF1 h1=>AV h1 cpu id)
 have hQ:∀ v,af [] W v -> Calls tp 148 #[vp (sS ⟨p.ob,0,nN⟩),vi iQ cpu,vi iQ id] v (λe u'=>e=.returned (vi iQ (k.ob.giveE cpu id)) /\ On F w (ak.blk xb (.cells #[vi iQ 22,vi iQ cpu,vi iQ id,vi uQ (m:Nat),vi iQ n] 34 (0,0)) :: ag b p { k with ob:=k.ob.give cpu id }) u'):=hQ
 have hAn:=λv=>aD (k.ob.giveE cpu id) v
 generalize hk2:{ k with ob:=k.ob.give cpu id }=k2 at *
 have hcell:∀ v,On F w (ak.blk xb (.cells #[vi iQ 22,vi iQ cpu,vi iQ id,vi uQ (m:Nat),vi iQ n] 34 (0,0)) :: ag b p k2) v -> v.cell? ⟨b,7,nN⟩=sS (vp (sS ⟨p.ob,0,nN⟩)) /\ v.cell? ⟨xb,1,nN⟩=sS (vi iQ cpu) /\ v.cell? ⟨xb,2,nN⟩=sS (vi iQ id):=λv h=>by subst hk2;exact ⟨h.cell 1 rfl 7,h.cell 0 rfl 1,h.cell 0 rfl 2⟩
 clear hk2 x0 x1
 go_region_held3 (λv=>v.cell? ⟨b,7,nN⟩=sS (vp (sS ⟨p.ob,0,nN⟩)) /\ v.cell? ⟨xb,1,nN⟩=sS (vi iQ cpu) /\ v.cell? ⟨xb,2,nN⟩=sS (vi iQ id)) (assumption) (first
  | (
   go_at_call 148
   refine (hQ _ (by first|exact m0|exact m0.drewN _|exact m0.drew)).s λv3 hE=>?_
   have C:=hcell _ hE
   have HE:=zh hE
   have HR:=zh ((hE.drop 0).kernel HO.out).on
   clear hE)
  | (
   first|go_at_call 69|go_at_call 66
   refine (hAn _).mono ?_
   intro e v4 hN
   have mN:af [] v3 v4:=by first|exact hN.mods|exact (mR.drewN _).trans hN.mods sM|exact mR.drew.trans hN.mods sM
   have hD:=hN.does (by first|exact HR.out|exact HR.out.keep (mR.drewN _)|exact HR.out.keep mR.drew)
   have C:=hcell _ (HE.out.keep mN)
   obtain ⟨a,c,rfl,hD⟩:=hD
   clear hN mN))
 go_wp2
 go_ret
 exact ⟨a,c,rfl,hD⟩
end
section
variable {F:List Nat} {w u:wW} {b:Nat} {p:KP} {k:KT}
theorem pS (h:(aa b k).holds F w) (hT:bA w) (hF:tzL_ren.g 1∉F) (cpu id n:Int) (m:Nat) (ho:k.ofE cpu=0):Calls tp 74 #[vp (sS ⟨b,0,nN⟩),.agg #[vi iQ 26,vi iQ cpu,vi iQ id,vi uQ (m:Nat),vi iQ n]] w (bo b { k with gt:=k.gt.enter cpu } (aX 0 (k.gt.enterE cpu)) F w):=by
 obtain ⟨hok,p,hK⟩:=ad h
 have HO:=zh (show KT.ok { k with gt:=k.gt.enter cpu } from hok.wGt (Bz k.gt cpu))
 have hA:=(hK.alloc (.cells #[vi iQ 26,vi iQ cpu,vi iQ id,vi uQ (m:Nat),vi iQ n] 34 (0,0))).front
 have x0:=ab (ai w (.cells #[vi iQ 26,vi iQ cpu,vi iQ id,vi uQ (m:Nat),vi iQ n] 34 (0,0))) 0
 have x1:=ab (ai w (.cells #[vi iQ 26,vi iQ cpu,vi iQ id,vi uQ (m:Nat),vi iQ n] 34 (0,0))) 1
 have hOf:=ga (k:=k) (hA.cell 1 rfl 15) (hA.cell 1 rfl 17) hok.ac cpu
 rw [ho] at hOf
 have HA:=zh hA
 have HT:=zh (And.intro hT hF)
 clear h hK hok hA ho hT hF
 go_in
 go_wp2_with (
   go_at_call 144
   refine hOf.r λj=>?_
   have hX:=HA.out.keep ((af.refl [] _).drewN j)
   have x0:=hX.cell 0 rfl 0
   have HX:=zh hX
   clear hOf HA hX)
 generalize (w.alloc (.cells #[vi iQ 26,vi iQ cpu,vi iQ id,vi uQ (m:Nat),vi iQ n] 34 (0,0))).drewN j=W at *
 generalize w.heap.size=xb at *
 have hx:∀ v,af [] W v -> v.cell? ⟨b,9,nN⟩=sS (vp (sS ⟨p.gt,0,nN⟩)) /\ v.cell? ⟨xb,1,nN⟩=sS (vi iQ cpu) /\ v.cell? ⟨xb,2,nN⟩=sS (vi iQ id):=λv m=>⟨(HX.out.keep m).cell 1 rfl 9,(HX.out.keep m).cell 0 rfl 1,(HX.out.keep m).cell 0 rfl 2⟩
 have m0:af [] W W:=af.refl _ _
 have C:=hx W m0
 have hQ:=λv (mv:af [] W v)=>(HX.out.keep mv).call (P:=tp) (f:=149) 12 rfl (λF1 h1=>Ae h1 cpu)
 have hQ:∀ v,af [] W v -> Calls tp 149 #[vp (sS ⟨p.gt,0,nN⟩),vi iQ cpu] v (λe u'=>e=.returned (vi iQ (k.gt.enterE cpu)) /\ On F w (ak.blk xb (.cells #[vi iQ 26,vi iQ cpu,vi iQ id,vi uQ (m:Nat),vi iQ n] 34 (0,0)) :: ag b p { k with gt:=k.gt.enter cpu }) u'):=hQ
 have hAn:=λv=>aD (k.gt.enterE cpu) v
 generalize hk2:{ k with gt:=k.gt.enter cpu }=k2 at *
 have hcell:∀ v,On F w (ak.blk xb (.cells #[vi iQ 26,vi iQ cpu,vi iQ id,vi uQ (m:Nat),vi iQ n] 34 (0,0)) :: ag b p k2) v -> v.cell? ⟨b,9,nN⟩=sS (vp (sS ⟨p.gt,0,nN⟩)) /\ v.cell? ⟨xb,1,nN⟩=sS (vi iQ cpu) /\ v.cell? ⟨xb,2,nN⟩=sS (vi iQ id):=λv h=>by subst hk2;exact ⟨h.cell 1 rfl 9,h.cell 0 rfl 1,h.cell 0 rfl 2⟩
 clear hk2 x0 x1
 go_region_held3 (λv=>v.cell? ⟨b,9,nN⟩=sS (vp (sS ⟨p.gt,0,nN⟩)) /\ v.cell? ⟨xb,1,nN⟩=sS (vi iQ cpu) /\ v.cell? ⟨xb,2,nN⟩=sS (vi iQ id)) (assumption) (first
  | (
   go_at_call 149
   refine (hQ _ (by first|exact m0|exact m0.drewN _|exact m0.drew)).s λv3 hE=>?_
   have C:=hcell _ hE
   have HE:=zh hE
   have HR:=zh ((hE.drop 0).kernel HO.out).on
   clear hE)
  | (
   first|go_at_call 69|go_at_call 66
   refine (hAn _).mono ?_
   intro e v4 hN
   have mN:af [] v3 v4:=by first|exact hN.mods|exact (mR.drewN _).trans hN.mods sM|exact mR.drew.trans hN.mods sM
   have hD:=hN.does (by first|exact HR.out|exact HR.out.keep (mR.drewN _)|exact HR.out.keep mR.drew)
   have C:=hcell _ (HE.out.keep mN)
   obtain ⟨a,c,rfl,hD⟩:=hD
   clear hN mN))
 go_wp2
 go_ret
 exact ⟨a,c,rfl,hD⟩
end
section
variable {F:List Nat} {w u:wW} {b:Nat} {p:KP} {k:KT}
theorem pY (h:(aa b k).holds F w) (hT:bA w) (hF:tzL_ren.g 1∉F) (cpu id n:Int) (m:Nat) (ho:k.ofE cpu=0):Calls tp 74 #[vp (sS ⟨b,0,nN⟩),.agg #[vi iQ 10,vi iQ cpu,vi iQ id,vi uQ (m:Nat),vi iQ n]] w (bo b (k.arm cpu n) (aX (k.armV cpu n) (k.armE cpu n)) F w):=by
 obtain ⟨hok,p,hK⟩:=ad h
 have HK:=zh hok
 have hA:=(hK.alloc (.cells #[vi iQ 10,vi iQ cpu,vi iQ id,vi uQ (m:Nat),vi iQ n] 34 (0,0))).front
 have x0:=ab (ai w (.cells #[vi iQ 10,vi iQ cpu,vi iQ id,vi uQ (m:Nat),vi iQ n] 34 (0,0))) 0
 have x1:=ab (ai w (.cells #[vi iQ 10,vi iQ cpu,vi iQ id,vi uQ (m:Nat),vi iQ n] 34 (0,0))) 1
 have hOf:=ga (k:=k) (hA.cell 1 rfl 15) (hA.cell 1 rfl 17) hok.ac cpu
 rw [ho] at hOf
 have HA:=zh hA
 have HT:=zh (And.intro hT hF)
 have hAn:=λv=>bs (k.armV cpu n) (k.armE cpu n) v
 have hAr:=λ(v:wW) (xb:Nat) (hB:On F w ([ak.blk xb (.cells #[vi iQ 10,vi iQ cpu,vi iQ id,vi uQ (m:Nat),vi iQ n] 34 (0,0))]++ag b p k) v)=>On.kcall hB hok hT hF (λF1 h1 hT1 hF1=>BN h1 hT1 hF1 cpu n)
 generalize k.armV cpu n=av at *
 generalize k.armE cpu n=ae at *
 generalize k.arm cpu n=k2 at *
 clear h hK hok hA ho hT hF
 go_in
 go_wp2_with (first
  | (
   go_at_call 144
   refine hOf.s λw1 dr=>?_
   have hX:=HA.out.keep dr.mods
   have x0:w1.cell? ⟨w.heap.size,0,nN⟩=sS (vi iQ 10):=hX.cell 0 rfl 0
   have x1:w1.cell? ⟨w.heap.size,1,nN⟩=sS (vi iQ cpu):=hX.cell 0 rfl 1
   have x4:w1.cell? ⟨w.heap.size,4,nN⟩=sS (vi iQ n):=hX.cell 0 rfl 4
   have hAr:=hAr _ _ hX
   clear hOf HA hX dr)
  | (
   go_at_call 145
   refine hAr.mono ?_
   rintro e w2 ⟨rfl,hk2,p2,hE⟩
   have HR:=zh ((hE.kdrop1.kernel hk2).on)
   clear hk2 hE hAr)
  | (
   go_at_call 69
   refine (hAn _).mono ?_
   intro e w3 hN
   obtain ⟨a,c,rfl,hD⟩:=hN.does HR.out))
 go_ret
 exact ⟨a,c,rfl,hD⟩
theorem vh (h:(aa b k).holds F w) (hT:bA w) (hF:tzL_ren.g 1∉F) (e:jR) (hk:e.kind=10 \/ e.kind=18 \/ e.kind=20 \/ e.kind=21 \/ e.kind=22 \/ e.kind=26):Calls tp 74 #[vp (sS ⟨b,0,nN⟩),.agg (vq e)] w (bo b (k.placed e) (k.placedL e) F w):=by
 obtain ⟨ki,cpu,id,m,n⟩:=e
 unfold KT.placed KT.placedL vq
 simp only at hk ⊢
 by_cases ho:k.ofE cpu≠0
 ·rw [pG ho,pG ho]
  exact oF h ki cpu id n m ho
 ·rw [nG ho,nG ho]
  have ho:=Classical.not_not.1 ho
  rcases hk with rfl|rfl|rfl|rfl|rfl|rfl
  ·exact pY h hT hF cpu id n m ho
  ·exact pX h hT hF cpu id n m ho
  ·exact pW h hT hF cpu id n m ho
  ·exact pV h hT hF cpu id n m ho
  ·exact pU h hT hF cpu id n m ho
  ·exact pS h hT hF cpu id n m ho
end
end Go.Proofs.YtmiapbgkphpgoaaGreatDoor