/- Walks and plain laws of the kernel. No condition. -/
import Derived.Test.YtmiapbgkphpgoaaGreatDoorKOM
import Derived.Test.YtmiapbgkphpgoaaGreatDoorKRM
import Derived.Test.YtmiapbgkphpgoaaGreatDoorKYM
import Derived.Test.YtmiapbgkphpgoaaGreatDoorKHM
import Derived.Test.YtmiapbgkphpgoaaGreatDoorK5M
import Derived.Deep.MidRow
namespace Go.Proofs.YtmiapbgkphpgoaaGreatDoor
set_option linter.unusedVariables false
set_option linter.unusedSimpArgs false
set_option maxRecDepth 100000
set_option maxHeartbeats 20000000
open Go.RowKit
open Go.Proofs.Tryz renaming prog → tp
open List renaming setIfInBounds_toArray → sA, set_cons_zero → sB, set_cons_succ → sC
open Go renaming World → wW
open Go.Value renaming pointer → vp, bool → vb, int → vi
open Go.IntKind renaming i64 → iQ, u64 → uQ
open Option renaming none → nN, some → sS
open Bool renaming true → tQ, false → fF
open Int renaming eq_ofNat_of_zero_le → iN
section
variable {F:List Nat} {w u:wW} {b:Nat} {p:KP} {k:KT} {l:List cX}
theorem bo.base {W:wW} {e:Ending} (m:af [] w W) (h:bo b k l F W e u):bo b k l F w e u:=by
 obtain ⟨a,c,rfl,F1,g1,g2,g3⟩:=h
 exact ⟨a,c,rfl,F1,g1,(m.mono sM).trans g2 (λx hx=>.inl hx),λx hx=>(g3 x hx).imp (λy=>y) (λq=>Nat.le_trans m.size q)⟩
theorem tw (h:(aa b k).holds F w) (hT:bA w) (hF:tzL_ren.g 1∉F) (cpu id n:Int) (m:Nat):Calls tp 76 #[vp (sS ⟨b,0,nN⟩),.agg #[vi iQ 30,vi iQ cpu,vi iQ id,vi uQ (m:Nat),vi iQ n]] w (bo b k.bal (aX k.balV 0) F w):=by
 have mW:af [] w (w.alloc (.cells #[vi iQ 30,vi iQ cpu,vi iQ id,vi uQ (m:Nat),vi iQ n] 34 (0,0))):=mR.alloc _
 have hC:=tU ((aa b k).keep h mW sM) (hT.keep mW sM)
 have hAn:=λv=>bs k.balV 0 v
 have x0:=ab (ai w (.cells #[vi iQ 30,vi iQ cpu,vi iQ id,vi uQ (m:Nat),vi iQ n] 34 (0,0))) 0
 have HM:=zh mW
 generalize k.balV=ve at *
 generalize k.bal=k2 at *
 clear h hT hF mW
 go_in
 go_wp2_with (first
  | (
   go_at_call 162
   refine hC.s λw2 hE=>?_
   have HR:=zh (dt.on hE)
   clear hE hC)
  | (
   go_at_call 69
   refine (hAn _).mono ?_
   intro e w3 hN
   obtain ⟨a,c,rfl,hE⟩:=hN.does HR.out))
 go_ret
 exact bo.base HM.out ⟨a,c,rfl,hE⟩
theorem BM (h:(aa b k).holds F w) (hT:bA w) (hF:tzL_ren.g 1∉F) (e:jR) (hm:e.mask<2 ^ 64) (hk:12 <= e.kind /\ e.kind <= 17):Calls tp 72 #[vp (sS ⟨b,0,nN⟩),.agg (vq e)] w (al (aa b (k.irq e)) F (vi iQ (k.irqE e)) w):=by
 obtain ⟨ki,cpu,id,m,n⟩:=e
 unfold KT.irq KT.irqE vq
 simp only at hk hm ⊢
 have hc:ki=12 \/ ki=13 \/ ki=14 \/ ki=15 \/ ki=16 \/ ki=17:=by omega
 rcases hc with rfl|rfl|rfl|rfl|rfl|rfl
 ·rw [pG rfl,pG rfl]
  by_cases hE:k.iq.reqE id m=0
  ·rw [pG hE,hE];exact oI h hT hF cpu id n m hm hE
  ·rw [nG hE];exact qg h cpu id n m hm hE
 ·rw [nG (show ¬ (13:Int)=12 by decide),nG (show ¬ (13:Int)=12 by decide),pG (show (13:Int)=13 from rfl),pG (show (13:Int)=13 from rfl)]
  by_cases hE:k.iq.wantE id=0
  ·rw [pG hE,hE];exact oH h hT hF cpu id n m hE
  ·rw [nG hE];exact qf h cpu id n m hE
 ·rw [nG (show ¬ (14:Int)=12 by decide),nG (show ¬ (14:Int)=12 by decide),nG (show ¬ (14:Int)=13 by decide),nG (show ¬ (14:Int)=13 by decide),pG (show (14:Int)=14 from rfl),pG (show (14:Int)=14 from rfl)]
  by_cases hE:k.iq.aimE id m=0
  ·rw [pG hE,hE];exact oG h hT hF cpu id n m hm hE
  ·rw [nG hE];exact qd h cpu id n m hm hE
 ·exact vn h cpu id n m
 ·exact vm h cpu id n m
 ·exact vl h cpu id n m
def xU (ki:Int):Prop:=ki≠1 /\ ki≠2 /\ ki≠3 /\ ki≠4 /\ ki≠5 /\ ki≠6 /\ ki≠7 /\ ki≠8 /\ ki≠9 /\ ki≠12 /\ ki≠13 /\ ki≠14 /\ ki≠15 /\ ki≠16 /\ ki≠17 /\ ki≠18 /\ ki≠10 /\ ki≠20 /\ ki≠21 /\ ki≠22 /\ ki≠26 /\ ki≠23 /\ ki≠24
def KT.restL (k:KT) (e:jR):List cX:=
 if e.kind=11 then aX 0 (k.cancelE e.id) else if e.kind=19 then aX (k.flushV e.id) (KT.flushE e.id) else if e.kind=25 then aX 0 (KT.planE e.n) else if e.kind=27 then aX 0 (k.gt.leaveE e.cpu)
 else if e.kind=28 then aX 0 (tn e.n) else if e.kind=29 then aX 0 (KT.speedE e.id e.n) else if e.kind=30 then aX k.balV 0 else aX 0 2
def KT.restK (k:KT) (e:jR):KT:=
 if e.kind=11 then k.cancel e.id else if e.kind=19 then k else if e.kind=25 then k.plan e.n else if e.kind=27 then { k with gt:=k.gt.leave e.cpu }
 else if e.kind=28 then k.lim e.n else if e.kind=29 then k.speed e.id e.n else if e.kind=30 then k.bal else k
theorem zG (h:(aa b k).holds F w) (hT:bA w) (hF:tzL_ren.g 1∉F) (e:jR):Calls tp 76 #[vp (sS ⟨b,0,nN⟩),.agg (vq e)] w (bo b (k.restK e) (k.restL e) F w):=by
 obtain ⟨ki,cpu,id,m,n⟩:=e
 unfold KT.restK KT.restL vq
 simp only
 by_cases h11:ki=11
 ·subst h11;exact tF h hT hF cpu id n m
 by_cases h19:ki=19
 ·subst h19;exact tD h hT hF cpu id n m
 by_cases h25:ki=25
 ·subst h25;exact tC h hT hF cpu id n m
 by_cases h27:ki=27
 ·subst h27;exact tB h hT hF cpu id n m
 by_cases h28:ki=28
 ·subst h28;exact tA h hT hF cpu id n m
 by_cases h29:ki=29
 ·subst h29;exact tx h hT hF cpu id n m
 by_cases h30:ki=30
 ·subst h30;exact tw h hT hF cpu id n m
 rw [nG h11,nG h19,nG h25,nG h27,nG h28,nG h29,nG h30,nG h11,nG h19,nG h25,nG h27,nG h28,nG h29,nG h30]
 exact pR h ki cpu id n m h11 h19 h25 h27 h28 h29 h30
end
section
variable {F:List Nat} {w u:wW} {b:Nat} {p:KP} {k:KT} {l:List cX}
theorem zN (h:(aa b k).holds F w) (hT:bA w) (hF:tzL_ren.g 1∉F) (ki cpu id n:Int) (m:Nat) (hm:m<2 ^ 64) (hki:4 <= ki /\ ki <= 9):Calls tp 18 #[vp (sS ⟨b,0,nN⟩),.agg #[vi iQ ki,vi iQ cpu,vi iQ id,vi uQ (m:Nat),vi iQ n]] w (bo b (k.threaded ⟨ki,cpu,id,m,n⟩) (k.threadedL ⟨ki,cpu,id,m,n⟩) F w):=by
 have mW:af [] w (w.alloc (.cells #[vi iQ ki,vi iQ cpu,vi iQ id,vi uQ (m:Nat),vi iQ n] 34 (0,0))):=mR.alloc _
 have hk:=(aa b k).keep h mW sM
 have hTw:=hT.keep mW sM
 have hx:=ab (ai w (.cells #[vi iQ ki,vi iQ cpu,vi iQ id,vi uQ (m:Nat),vi iQ n] 34 (0,0)))
 have x0:=hx 0
 have x1:=hx 1
 have x2:=hx 2
 have x3:=hx 3
 have x4:=hx 4
 have HM:=zh mW
 have hS:Calls tp 71 #[vp (sS ⟨b,0,nN⟩),.agg #[vi iQ ki,vi iQ cpu,vi iQ id,vi uQ (m:Nat),vi iQ n]] (w.alloc (.cells #[vi iQ ki,vi iQ cpu,vi iQ id,vi uQ (m:Nat),vi iQ n] 34 (0,0))) (bo b (k.threaded ⟨ki,cpu,id,m,n⟩) (k.threadedL ⟨ki,cpu,id,m,n⟩) F (w.alloc (.cells #[vi iQ ki,vi iQ cpu,vi iQ id,vi uQ (m:Nat),vi iQ n] 34 (0,0)))):=rk hk hTw hF ⟨ki,cpu,id,m,n⟩ hm hki
 have hcs:ki=4 \/ ki=5 \/ ki=6 \/ ki=7 \/ ki=8 \/ ki=9:=by omega
 generalize (k.threaded ⟨ki,cpu,id,m,n⟩:KT)=k2 at *
 generalize (k.threadedL ⟨ki,cpu,id,m,n⟩:List cX)=l2 at *
 clear h hT hF hk hTw hx mW hm
 clear hki;rcases hcs with rfl|rfl|rfl|rfl|rfl|rfl
 all_goals
  go_in
  go_wp2_with (go_at_call 71;refine hS.mono ?_;rintro e u ⟨a,c,rfl,hE⟩)
  go_ret
  exact bo.base HM.out ⟨a,c,rfl,hE⟩
theorem qO (h:(aa b k).holds F w) (hT:bA w) (hF:tzL_ren.g 1∉F) (ki cpu id n:Int) (m:Nat) (hm:m<2 ^ 64) (hcs:ki=10 \/ (ki=18 /\ cpu≠-1) \/ ki=20 \/ ki=21 \/ ki=22 \/ ki=26):Calls tp 18 #[vp (sS ⟨b,0,nN⟩),.agg #[vi iQ ki,vi iQ cpu,vi iQ id,vi uQ (m:Nat),vi iQ n]] w (bo b (k.placed ⟨ki,cpu,id,m,n⟩) (k.placedL ⟨ki,cpu,id,m,n⟩) F w):=by
 have mW:af [] w (w.alloc (.cells #[vi iQ ki,vi iQ cpu,vi iQ id,vi uQ (m:Nat),vi iQ n] 34 (0,0))):=mR.alloc _
 have hk:=(aa b k).keep h mW sM
 have hTw:=hT.keep mW sM
 have hx:=ab (ai w (.cells #[vi iQ ki,vi iQ cpu,vi iQ id,vi uQ (m:Nat),vi iQ n] 34 (0,0)))
 have x0:=hx 0
 have x1:=hx 1
 have x2:=hx 2
 have x3:=hx 3
 have x4:=hx 4
 have HM:=zh mW
 have hS:Calls tp 74 #[vp (sS ⟨b,0,nN⟩),.agg #[vi iQ ki,vi iQ cpu,vi iQ id,vi uQ (m:Nat),vi iQ n]] (w.alloc (.cells #[vi iQ ki,vi iQ cpu,vi iQ id,vi uQ (m:Nat),vi iQ n] 34 (0,0))) (bo b (k.placed ⟨ki,cpu,id,m,n⟩) (k.placedL ⟨ki,cpu,id,m,n⟩) F (w.alloc (.cells #[vi iQ ki,vi iQ cpu,vi iQ id,vi uQ (m:Nat),vi iQ n] 34 (0,0)))):=vh hk hTw hF ⟨ki,cpu,id,m,n⟩ (by simp only;omega)
 skip
 generalize (k.placed ⟨ki,cpu,id,m,n⟩:KT)=k2 at *
 generalize (k.placedL ⟨ki,cpu,id,m,n⟩:List cX)=l2 at *
 clear h hT hF hk hTw hx mW hm
 rcases hcs with rfl|⟨rfl,hc⟩|rfl|rfl|rfl|rfl;rotate_left;(have hc1:(cpu==-1)=fF:=by simpa using hc);rotate_right
 all_goals
  go_in
  go_wp2_with (go_at_call 74;refine hS.mono ?_;rintro e u ⟨a,c,rfl,hE⟩)
  go_ret
  exact bo.base HM.out ⟨a,c,rfl,hE⟩
theorem tZ (h:(aa b k).holds F w) (hT:bA w) (hF:tzL_ren.g 1∉F) (ki cpu id n:Int) (m:Nat) (hg:xU ki):Calls tp 18 #[vp (sS ⟨b,0,nN⟩),.agg #[vi iQ ki,vi iQ cpu,vi iQ id,vi uQ (m:Nat),vi iQ n]] w (bo b (k.restK ⟨ki,cpu,id,m,n⟩) (k.restL ⟨ki,cpu,id,m,n⟩) F w):=by
 have mW:af [] w (w.alloc (.cells #[vi iQ ki,vi iQ cpu,vi iQ id,vi uQ (m:Nat),vi iQ n] 34 (0,0))):=mR.alloc _
 have hk:=(aa b k).keep h mW sM
 have hTw:=hT.keep mW sM
 have hx:=ab (ai w (.cells #[vi iQ ki,vi iQ cpu,vi iQ id,vi uQ (m:Nat),vi iQ n] 34 (0,0)))
 have x0:=hx 0
 have x1:=hx 1
 have x2:=hx 2
 have x3:=hx 3
 have x4:=hx 4
 have HM:=zh mW
 obtain ⟨g1,g2,g3,g4,g5,g6,g7,g8,g9,g12,g13,g14,g15,g16,g17,g18,g10,g20,g21,g22,g26,g23,g24⟩:=hg
 have q1:(ki==1)=fF:=by simpa using g1
 have q2:(ki==2)=fF:=by simpa using g2
 have q3:(ki==3)=fF:=by simpa using g3
 have q4:(ki==4)=fF:=by simpa using g4
 have q5:(ki==5)=fF:=by simpa using g5
 have q6:(ki==6)=fF:=by simpa using g6
 have q7:(ki==7)=fF:=by simpa using g7
 have q8:(ki==8)=fF:=by simpa using g8
 have q9:(ki==9)=fF:=by simpa using g9
 have q12:(ki==12)=fF:=by simpa using g12
 have q13:(ki==13)=fF:=by simpa using g13
 have q14:(ki==14)=fF:=by simpa using g14
 have q15:(ki==15)=fF:=by simpa using g15
 have q16:(ki==16)=fF:=by simpa using g16
 have q17:(ki==17)=fF:=by simpa using g17
 have q18:(ki==18)=fF:=by simpa using g18
 have q10:(ki==10)=fF:=by simpa using g10
 have q20:(ki==20)=fF:=by simpa using g20
 have q21:(ki==21)=fF:=by simpa using g21
 have q22:(ki==22)=fF:=by simpa using g22
 have q26:(ki==26)=fF:=by simpa using g26
 have q23:(ki==23)=fF:=by simpa using g23
 have q24:(ki==24)=fF:=by simpa using g24
 have hS:Calls tp 76 #[vp (sS ⟨b,0,nN⟩),.agg #[vi iQ ki,vi iQ cpu,vi iQ id,vi uQ (m:Nat),vi iQ n]] (w.alloc (.cells #[vi iQ ki,vi iQ cpu,vi iQ id,vi uQ (m:Nat),vi iQ n] 34 (0,0))) (bo b (k.restK ⟨ki,cpu,id,m,n⟩) (k.restL ⟨ki,cpu,id,m,n⟩) F (w.alloc (.cells #[vi iQ ki,vi iQ cpu,vi iQ id,vi uQ (m:Nat),vi iQ n] 34 (0,0)))):=zG hk hTw hF ⟨ki,cpu,id,m,n⟩
 generalize k.restK ⟨ki,cpu,id,m,n⟩=k2 at *
 generalize k.restL ⟨ki,cpu,id,m,n⟩=l2 at *
 clear h hT hF hk hTw hx mW
 go_in
 go_wp2_with (go_at_call 76;refine hS.mono ?_;rintro e u ⟨a,c,rfl,hE⟩)
 go_ret
 exact bo.base HM.out ⟨a,c,rfl,hE⟩
theorem zP (h:(aa b k).holds F w) (hT:bA w) (hF:tzL_ren.g 1∉F) (hw:bl k.co) (ki cpu id n:Int) (m:Nat) (hm:m<2 ^ 64) (hki:12 <= ki /\ ki <= 17):Calls tp 18 #[vp (sS ⟨b,0,nN⟩),.agg #[vi iQ ki,vi iQ cpu,vi iQ id,vi uQ (m:Nat),vi iQ n]] w (bo b (k.irq ⟨ki,cpu,id,m,n⟩) (aX 0 (k.irqE ⟨ki,cpu,id,m,n⟩)) F w):=by
 have mW:af [] w (w.alloc (.cells #[vi iQ ki,vi iQ cpu,vi iQ id,vi uQ (m:Nat),vi iQ n] 34 (0,0))):=mR.alloc _
 have hk:=(aa b k).keep h mW sM
 have hTw:=hT.keep mW sM
 have hx:=ab (ai w (.cells #[vi iQ ki,vi iQ cpu,vi iQ id,vi uQ (m:Nat),vi iQ n] 34 (0,0)))
 have x0:=hx 0
 have x1:=hx 1
 have x2:=hx 2
 have x3:=hx 3
 have x4:=hx 4
 have HM:=zh mW
 have hS:Calls tp 72 #[vp (sS ⟨b,0,nN⟩),.agg #[vi iQ ki,vi iQ cpu,vi iQ id,vi uQ (m:Nat),vi iQ n]] (w.alloc (.cells #[vi iQ ki,vi iQ cpu,vi iQ id,vi uQ (m:Nat),vi iQ n] 34 (0,0))) (al (aa b (k.irq ⟨ki,cpu,id,m,n⟩)) F (vi iQ (k.irqE ⟨ki,cpu,id,m,n⟩)) (w.alloc (.cells #[vi iQ ki,vi iQ cpu,vi iQ id,vi uQ (m:Nat),vi iQ n] 34 (0,0)))):=BM hk hTw hF ⟨ki,cpu,id,m,n⟩ hm hki
 have hPl:=λv=>aD (k.irqE ⟨ki,cpu,id,m,n⟩) v
 generalize (k.irq ⟨ki,cpu,id,m,n⟩:KT)=k2 at *
 generalize (k.irqE ⟨ki,cpu,id,m,n⟩:Int)=ve at *
 clear h hT hF hk hTw hx mW hm hw
 have hcs:ki=12 \/ ki=13 \/ ki=14 \/ ki=15 \/ ki=16 \/ ki=17:=oM;clear hki;rcases hcs with rfl|rfl|rfl|rfl|rfl|rfl
 all_goals
  go_in
  go_wp2_with (first
   | (
    go_at_call 72
    refine hS.s λw2 hE=>?_
    have HR:=zh (dt.on hE)
    clear hE hS)
   | (
    go_at_call 66
    refine (hPl _).mono ?_
    intro e w3 hN
    obtain ⟨a,c,rfl,hE⟩:=hN.does HR.out))
  go_ret
  exact bo.base HM.out ⟨a,c,rfl,hE⟩
theorem zQ (h:(aa b k).holds F w) (hT:bA w) (hF:tzL_ren.g 1∉F) (hw:bl k.co) (ki cpu id n:Int) (m:Nat) (hm:m<2 ^ 64) (hki:ki=2):Calls tp 18 #[vp (sS ⟨b,0,nN⟩),.agg #[vi iQ ki,vi iQ cpu,vi iQ id,vi uQ (m:Nat),vi iQ n]] w (bo b (k.tick n) (aX 0 (k.tickE n)) F w):=by
 have mW:af [] w (w.alloc (.cells #[vi iQ ki,vi iQ cpu,vi iQ id,vi uQ (m:Nat),vi iQ n] 34 (0,0))):=mR.alloc _
 have hk:=(aa b k).keep h mW sM
 have hTw:=hT.keep mW sM
 have hx:=ab (ai w (.cells #[vi iQ ki,vi iQ cpu,vi iQ id,vi uQ (m:Nat),vi iQ n] 34 (0,0)))
 have x0:=hx 0
 have x1:=hx 1
 have x2:=hx 2
 have x3:=hx 3
 have x4:=hx 4
 have HM:=zh mW
 have hS:Calls tp 68 #[vp (sS ⟨b,0,nN⟩),vi iQ n] (w.alloc (.cells #[vi iQ ki,vi iQ cpu,vi iQ id,vi uQ (m:Nat),vi iQ n] 34 (0,0))) (al (aa b (k.tick n)) F (vi iQ (k.tickE n)) (w.alloc (.cells #[vi iQ ki,vi iQ cpu,vi iQ id,vi uQ (m:Nat),vi iQ n] 34 (0,0)))):=zE hk hTw hF hw n
 have hPl:=λv=>aD (k.tickE n) v
 generalize (k.tick n:KT)=k2 at *
 generalize (k.tickE n:Int)=ve at *
 clear h hT hF hk hTw hx mW hm hw
 subst hki
 all_goals
  go_in
  go_wp2_with (first
   | (
    go_at_call 68
    refine hS.s λw2 hE=>?_
    have HR:=zh (dt.on hE)
    clear hE hS)
   | (
    go_at_call 66
    refine (hPl _).mono ?_
    intro e w3 hN
    obtain ⟨a,c,rfl,hE⟩:=hN.does HR.out))
  go_ret
  exact bo.base HM.out ⟨a,c,rfl,hE⟩
theorem zO (h:(aa b k).holds F w) (hT:bA w) (hF:tzL_ren.g 1∉F) (hw:bl k.co) (ki cpu id n:Int) (m:Nat) (hm:m<2 ^ 64) (hki:ki=23 \/ ki=24):Calls tp 18 #[vp (sS ⟨b,0,nN⟩),.agg #[vi iQ ki,vi iQ cpu,vi iQ id,vi uQ (m:Nat),vi iQ n]] w (bo b (k.req (ki==23) cpu) (aX 0 (k.reqE (ki==23) cpu)) F w):=by
 have mW:af [] w (w.alloc (.cells #[vi iQ ki,vi iQ cpu,vi iQ id,vi uQ (m:Nat),vi iQ n] 34 (0,0))):=mR.alloc _
 have hk:=(aa b k).keep h mW sM
 have hTw:=hT.keep mW sM
 have hx:=ab (ai w (.cells #[vi iQ ki,vi iQ cpu,vi iQ id,vi uQ (m:Nat),vi iQ n] 34 (0,0)))
 have x0:=hx 0
 have x1:=hx 1
 have x2:=hx 2
 have x3:=hx 3
 have x4:=hx 4
 have HM:=zh mW
 have hS:Calls tp 75 #[vp (sS ⟨b,0,nN⟩),vb (ki==23),vi iQ cpu] (w.alloc (.cells #[vi iQ ki,vi iQ cpu,vi iQ id,vi uQ (m:Nat),vi iQ n] 34 (0,0))) (al (aa b (k.req (ki==23) cpu)) F (vi iQ (k.reqE (ki==23) cpu)) (w.alloc (.cells #[vi iQ ki,vi iQ cpu,vi iQ id,vi uQ (m:Nat),vi iQ n] 34 (0,0)))):=tG hk hTw (ki==23) cpu
 have hPl:=λv=>aD (k.reqE (ki==23) cpu) v
 generalize (k.req (ki==23) cpu:KT)=k2 at *
 generalize (k.reqE (ki==23) cpu:Int)=ve at *
 clear h hT hF hk hTw hx mW hm hw
 rcases hki with rfl|rfl
 all_goals
  go_in
  go_wp2_with (first
   | (
    go_at_call 75
    refine hS.s λw2 hE=>?_
    have HR:=zh (dt.on hE)
    clear hE hS)
   | (
    go_at_call 66
    refine (hPl _).mono ?_
    intro e w3 hN
    obtain ⟨a,c,rfl,hE⟩:=hN.does HR.out))
  go_ret
  exact bo.base HM.out ⟨a,c,rfl,hE⟩
theorem zR (h:(aa b k).holds F w) (hT:bA w) (hF:tzL_ren.g 1∉F) (cpu:Int) (hi:k.is cpu) (id n:Int) (m:Nat):Calls tp 18 #[vp (sS ⟨b,0,nN⟩),.agg #[vi iQ 1,vi iQ cpu,vi iQ id,vi uQ (m:Nat),vi iQ n]] w (bo b (k.step cpu) (k.stepL cpu) F w):=by
 obtain ⟨hok,p,hK⟩:=ad h
 have c15:=ay (.cells #[vi iQ 1,vi iQ cpu,vi iQ id,vi uQ (m:Nat),vi iQ n] 34 (0,0)) (hK.kC 15)
 simp only [ua,List.getElem?_toArray,List.getElem?_cons_zero,List.getElem?_cons_succ] at c15
 have hMo:=λj=>((af.refl [] w).alloc (.cells #[vi iQ 1,vi iQ cpu,vi iQ id,vi uQ (m:Nat),vi iQ n] 34 (0,0))).drewN j
 have hS:=λj=>zF ((aa b k).keep h (hMo j) sM) (hT.keep (hMo j) sM) hF cpu
 have x0:=ab (ai w (.cells #[vi iQ 1,vi iQ cpu,vi iQ id,vi uQ (m:Nat),vi iQ n] 34 (0,0))) 0
 have x1:=ab (ai w (.cells #[vi iQ 1,vi iQ cpu,vi iQ id,vi uQ (m:Nat),vi iQ n] 34 (0,0))) 1
 obtain ⟨h1,h2⟩:=hi
 have h3:¬ cpu<0:=by omega
 have h4:¬ (k.n:Int) <= cpu:=by omega
 have hb:=zh ((aa b k).lt h)
 generalize k.stepL cpu=L at *
 generalize k.step cpu=K at *
 clear h hK hok hT hF
 go_in
 go_wp2
 go_quiet (fail)
 go_wp2_with (
   go_at_call 67
   refine (hS _).mono ?_
   rintro e w1 ⟨a,c,rfl,hE⟩)
 go_ret
 exact bo.base (hMo _) ⟨a,c,rfl,hE⟩
theorem rB (h:(aa b k).holds F w) (cpu:Int) (hi:¬ k.is cpu) (id n:Int) (m:Nat):Calls tp 18 #[vp (sS ⟨b,0,nN⟩),.agg #[vi iQ 1,vi iQ cpu,vi iQ id,vi uQ (m:Nat),vi iQ n]] w (bo b k (aX 0 3) F w):=by
 obtain ⟨hok,p,hK⟩:=ad h
 have c15:=ay (.cells #[vi iQ 1,vi iQ cpu,vi iQ id,vi uQ (m:Nat),vi iQ n] 34 (0,0)) (hK.kC 15)
 simp only [ua,List.getElem?_toArray,List.getElem?_cons_zero,List.getElem?_cons_succ] at c15
 have hMo:=λj=>((af.refl [] w).alloc (.cells #[vi iQ 1,vi iQ cpu,vi iQ id,vi uQ (m:Nat),vi iQ n] 34 (0,0))).drewN j
 have hOn:=zh (λj=>On.one ((aa b k).keep h (hMo j) sM))
 have x0:=ab (ai w (.cells #[vi iQ 1,vi iQ cpu,vi iQ id,vi uQ (m:Nat),vi iQ n] 34 (0,0))) 0
 have x1:=ab (ai w (.cells #[vi iQ 1,vi iQ cpu,vi iQ id,vi uQ (m:Nat),vi iQ n] 34 (0,0))) 1
 have hPl:=λv=>aD 3 v
 have hc:cpu<0 \/ (¬ cpu<0 /\ (k.n:Int) <= cpu):=by unfold KT.is at hi;omega
 clear h hK hok hi
 rcases hc with h3|⟨h3,h4⟩
 all_goals
  go_in
  go_wp2
  go_quiet (fail)
  go_wp2_with (
   go_at_call 66
   refine (hPl _).mono ?_
   intro e w3 hN
   obtain ⟨a,c,rfl,hE⟩:=hN.does (hOn.out _))
  go_ret
  exact bo.base (hMo _) ⟨a,c,rfl,hE⟩
theorem oL (h:(aa b k).holds F w) (hT:bA w) (hF:tzL_ren.g 1∉F) (id n:Int) (m:Nat):Calls tp 18 #[vp (sS ⟨b,0,nN⟩),.agg #[vi iQ 18,vi iQ (-1),vi iQ id,vi uQ (m:Nat),vi iQ n]] w (bo b { k with wk:=k.wk.queue (-1) } (aX (k.wk.queueV (-1)) (k.wk.queueE (-1))) F w):=by
 obtain ⟨hok,p,hK⟩:=ad h
 have HO:=zh (show KT.ok { k with wk:=k.wk.queue (-1) } from hok.wWk (sX k.wk (-1)))
 have hA:=(hK.alloc (.cells #[vi iQ 18,vi iQ (-1),vi iQ id,vi uQ (m:Nat),vi iQ n] 34 (0,0))).front
 have x0:=ab (ai w (.cells #[vi iQ 18,vi iQ (-1),vi iQ id,vi uQ (m:Nat),vi iQ n] 34 (0,0))) 0
 have x1:=ab (ai w (.cells #[vi iQ 18,vi iQ (-1),vi iQ id,vi uQ (m:Nat),vi iQ n] 34 (0,0))) 1
 have c5:(w.alloc (.cells #[vi iQ 18,vi iQ (-1),vi iQ id,vi uQ (m:Nat),vi iQ n] 34 (0,0))).cell? ⟨b,5,nN⟩=sS (vp (sS ⟨p.wk,0,nN⟩)):=hA.cell 1 rfl 5
 have hS:=hA.callU (P:=tp) (f:=73) hT hF 8 rfl (λF1 h1 hT1 hF1=>rZ h1 hT1 hF1 (-1))
 have hAn:=λv=>bs (k.wk.queueV (-1)) (k.wk.queueE (-1)) v
 generalize k.wk.queueV (-1)=qv at *
 generalize k.wk.queueE (-1)=qe at *
 clear h hK hok hT hF hA
 go_in
 go_wp2_with (first
  | (
   go_at_call 73
   refine hS.s λw2 hB=>?_
   have hB:On F w ([ak.blk w.heap.size (.cells #[vi iQ 18,vi iQ (-1),vi iQ id,vi uQ (m:Nat),vi iQ n] 34 (0,0))]++ag b p { k with wk:=k.wk.queue (-1) }) w2:=hB
   have HR:=zh ((hB.kdrop1.kernel HO.out).on)
   clear hB hS)
  | (
   go_at_call 69
   refine (hAn _).mono ?_
   intro e w3 hN
   obtain ⟨a,c,rfl,hE⟩:=hN.does HR.out))
 go_ret
 exact ⟨a,c,rfl,hE⟩
theorem Ak (e:jR) (he:xU e.kind):k.doK e=k.restK e /\ k.doL e=k.restL e:=by
 obtain ⟨g1,g2,g3,g4,g5,g6,g7,g8,g9,g12,g13,g14,g15,g16,g17,g18,g10,g20,g21,g22,g26,g23,g24⟩:=he
 have g49:¬ (4 <= e.kind /\ e.kind <= 9):=by omega
 have g1217:¬ (12 <= e.kind /\ e.kind <= 17):=by omega
 have g18':¬ (e.kind=18 /\ e.cpu=-1):=by omega
 have gp:¬ (e.kind=10 \/ e.kind=18 \/ (20 <= e.kind /\ e.kind <= 22) \/ e.kind=26):=by omega
 have gr:¬ (e.kind=23 \/ e.kind=24):=by omega
 constructor
 ·unfold KT.doK KT.restK
  rw [nG g1,nG g2,nG g3,nG g49,nG g1217,nG g18',nG gp,nG gr]
 ·unfold KT.doL KT.restL
  rw [nG g1,nG g2,nG g3,nG g49,nG g1217,nG g18',nG gp,nG gr]
theorem Eu (h:(aa b k).holds F w) (hT:bA w) (hF:tzL_ren.g 1∉F) (hw:bl k.co) (e:jR) (hm:e.mask<2 ^ 64):Calls tp 18 #[vp (sS ⟨b,0,nN⟩),.agg (vq e)] w (bo b (k.doK e) (k.doL e) F w):=by
 by_cases he:xU e.kind
 ·rw [(Ak e he).1,(Ak e he).2]
  obtain ⟨ki,cpu,id,m,n⟩:=e
  exact tZ h hT hF ki cpu id n m he
 ·obtain ⟨ki,cpu,id,m,n⟩:=e
  have hc:ki=1 \/ ki=2 \/ ki=3 \/ ki=4 \/ ki=5 \/ ki=6 \/ ki=7 \/ ki=8 \/ ki=9 \/ ki=12 \/ ki=13 \/ ki=14 \/ ki=15 \/ ki=16 \/ ki=17 \/ ki=18 \/ ki=10 \/ ki=20 \/ ki=21 \/ ki=22 \/ ki=26 \/ ki=23 \/ ki=24:=by
   unfold xU at he
   simp only at he
   omega
  simp only at hm
  unfold vq
  rcases hc with rfl|rfl|rfl|rfl|rfl|rfl|rfl|rfl|rfl|rfl|rfl|rfl|rfl|rfl|rfl|rfl|rfl|rfl|rfl|rfl|rfl|rfl|rfl
  ·by_cases hi:k.is cpu
   ·rw [show k.doK ⟨1,cpu,id,m,n⟩=k.step cpu by unfold KT.doK;rw [pG rfl,nG (λx=>x hi)],show k.doL ⟨1,cpu,id,m,n⟩=k.stepL cpu by unfold KT.doL;rw [pG rfl,nG (λx=>x hi)]]
    exact zR h hT hF cpu hi id n m
   ·rw [show k.doK ⟨1,cpu,id,m,n⟩=k by unfold KT.doK;rw [pG rfl,pG hi],show k.doL ⟨1,cpu,id,m,n⟩=aX 0 3 by unfold KT.doL;rw [pG rfl,pG hi]]
    exact rB h cpu hi id n m
  ·exact zQ h hT hF hw 2 cpu id n m hm rfl
  ·exact rz h hT hF cpu id m hm n
  iterate 6 (· exact zN h hT hF _ cpu id n m hm (by simp only;omega))
  iterate 6 (· exact zP h hT hF hw _ cpu id n m hm (by simp only;omega))
  ·by_cases hc:cpu=-1
   ·subst hc
    exact oL h hT hF id n m
   ·rw [show k.doK ⟨18,cpu,id,m,n⟩=k.placed ⟨18,cpu,id,m,n⟩ by unfold KT.doK;simp [hc],show k.doL ⟨18,cpu,id,m,n⟩=k.placedL ⟨18,cpu,id,m,n⟩ by unfold KT.doL;simp [hc]]
    exact qO h hT hF 18 cpu id n m hm (.inr (.inl ⟨rfl,hc⟩))
  iterate 5 (· exact qO h hT hF _ cpu id n m hm sM)
  iterate 2 (· exact zO h hT hF hw _ cpu id n m hm sM)
end
section
variable {F:List Nat} {w u:wW} {b:Nat} {p:KP} {k:KT}
def xx (p:KP) (n:Nat):Value:=.agg #[vp (sS ⟨p.th,0,nN⟩),vp (sS ⟨p.rq,0,nN⟩),vp (sS ⟨p.tm,0,nN⟩),vp (sS ⟨p.iq,0,nN⟩),vp (sS ⟨p.rt,0,nN⟩),vp (sS ⟨p.wk,0,nN⟩),vp (sS ⟨p.cb,0,nN⟩),vp (sS ⟨p.ob,0,nN⟩),vp (sS ⟨p.ct,0,nN⟩),vp (sS ⟨p.gt,0,nN⟩),vp (sS ⟨p.sp,0,nN⟩),vp (sS ⟨p.dk,0,nN⟩),vp (sS ⟨p.co,0,nN⟩),vp (sS ⟨p.mt,0,nN⟩),.slice (rA p.g) n p.cap]
theorem vj (h:On F w (ag b p k) u):Calls tp 77 #[vp (sS ⟨b,0,nN⟩)] u (bp (xx p k.n) u):=by
 have hC:=h.keep (u':=u.alloc (.cells #[vp nN,vp nN,vp nN,vp nN,vp nN,vp nN,vp nN,vp nN,vp nN,vp nN,vp nN,vp nN,vp nN,vp nN,.slice nN 0 0] 89 (0,0))) (mR.alloc _)
 have c0:(u.alloc (.cells #[vp nN,vp nN,vp nN,vp nN,vp nN,vp nN,vp nN,vp nN,vp nN,vp nN,vp nN,vp nN,vp nN,vp nN,.slice nN 0 0] 89 (0,0))).cell? ⟨b,0,nN⟩=sS (vp (sS ⟨p.th,0,nN⟩)):=hC.kC 0
 have c1:(u.alloc (.cells #[vp nN,vp nN,vp nN,vp nN,vp nN,vp nN,vp nN,vp nN,vp nN,vp nN,vp nN,vp nN,vp nN,vp nN,.slice nN 0 0] 89 (0,0))).cell? ⟨b,1,nN⟩=sS (vp (sS ⟨p.rq,0,nN⟩)):=hC.kC 1
 have c2:(u.alloc (.cells #[vp nN,vp nN,vp nN,vp nN,vp nN,vp nN,vp nN,vp nN,vp nN,vp nN,vp nN,vp nN,vp nN,vp nN,.slice nN 0 0] 89 (0,0))).cell? ⟨b,2,nN⟩=sS (vp (sS ⟨p.tm,0,nN⟩)):=hC.kC 2
 have c3:(u.alloc (.cells #[vp nN,vp nN,vp nN,vp nN,vp nN,vp nN,vp nN,vp nN,vp nN,vp nN,vp nN,vp nN,vp nN,vp nN,.slice nN 0 0] 89 (0,0))).cell? ⟨b,3,nN⟩=sS (vp (sS ⟨p.iq,0,nN⟩)):=hC.kC 3
 have c4:(u.alloc (.cells #[vp nN,vp nN,vp nN,vp nN,vp nN,vp nN,vp nN,vp nN,vp nN,vp nN,vp nN,vp nN,vp nN,vp nN,.slice nN 0 0] 89 (0,0))).cell? ⟨b,4,nN⟩=sS (vp (sS ⟨p.rt,0,nN⟩)):=hC.kC 4
 have c5:(u.alloc (.cells #[vp nN,vp nN,vp nN,vp nN,vp nN,vp nN,vp nN,vp nN,vp nN,vp nN,vp nN,vp nN,vp nN,vp nN,.slice nN 0 0] 89 (0,0))).cell? ⟨b,5,nN⟩=sS (vp (sS ⟨p.wk,0,nN⟩)):=hC.kC 5
 have c6:(u.alloc (.cells #[vp nN,vp nN,vp nN,vp nN,vp nN,vp nN,vp nN,vp nN,vp nN,vp nN,vp nN,vp nN,vp nN,vp nN,.slice nN 0 0] 89 (0,0))).cell? ⟨b,6,nN⟩=sS (vp (sS ⟨p.cb,0,nN⟩)):=hC.kC 6
 have c7:(u.alloc (.cells #[vp nN,vp nN,vp nN,vp nN,vp nN,vp nN,vp nN,vp nN,vp nN,vp nN,vp nN,vp nN,vp nN,vp nN,.slice nN 0 0] 89 (0,0))).cell? ⟨b,7,nN⟩=sS (vp (sS ⟨p.ob,0,nN⟩)):=hC.kC 7
 have c8:(u.alloc (.cells #[vp nN,vp nN,vp nN,vp nN,vp nN,vp nN,vp nN,vp nN,vp nN,vp nN,vp nN,vp nN,vp nN,vp nN,.slice nN 0 0] 89 (0,0))).cell? ⟨b,8,nN⟩=sS (vp (sS ⟨p.ct,0,nN⟩)):=hC.kC 8
 have c9:(u.alloc (.cells #[vp nN,vp nN,vp nN,vp nN,vp nN,vp nN,vp nN,vp nN,vp nN,vp nN,vp nN,vp nN,vp nN,vp nN,.slice nN 0 0] 89 (0,0))).cell? ⟨b,9,nN⟩=sS (vp (sS ⟨p.gt,0,nN⟩)):=hC.kC 9
 have c10:(u.alloc (.cells #[vp nN,vp nN,vp nN,vp nN,vp nN,vp nN,vp nN,vp nN,vp nN,vp nN,vp nN,vp nN,vp nN,vp nN,.slice nN 0 0] 89 (0,0))).cell? ⟨b,10,nN⟩=sS (vp (sS ⟨p.sp,0,nN⟩)):=hC.kC 10
 have c11:(u.alloc (.cells #[vp nN,vp nN,vp nN,vp nN,vp nN,vp nN,vp nN,vp nN,vp nN,vp nN,vp nN,vp nN,vp nN,vp nN,.slice nN 0 0] 89 (0,0))).cell? ⟨b,11,nN⟩=sS (vp (sS ⟨p.dk,0,nN⟩)):=hC.kC 11
 have c12:(u.alloc (.cells #[vp nN,vp nN,vp nN,vp nN,vp nN,vp nN,vp nN,vp nN,vp nN,vp nN,vp nN,vp nN,vp nN,vp nN,.slice nN 0 0] 89 (0,0))).cell? ⟨b,12,nN⟩=sS (vp (sS ⟨p.co,0,nN⟩)):=hC.kC 12
 have c13:(u.alloc (.cells #[vp nN,vp nN,vp nN,vp nN,vp nN,vp nN,vp nN,vp nN,vp nN,vp nN,vp nN,vp nN,vp nN,vp nN,.slice nN 0 0] 89 (0,0))).cell? ⟨b,13,nN⟩=sS (vp (sS ⟨p.mt,0,nN⟩)):=hC.kC 13
 have c14:(u.alloc (.cells #[vp nN,vp nN,vp nN,vp nN,vp nN,vp nN,vp nN,vp nN,vp nN,vp nN,vp nN,vp nN,vp nN,vp nN,.slice nN 0 0] 89 (0,0))).cell? ⟨b,14,nN⟩=sS (.slice (rA p.g) k.n p.cap):=hC.kC 14
 unfold xx
 generalize k.n=kn at *
 generalize rA p.g=gg at *
 clear h hC
 go_in
 go_wp2
 refine bodyPost_ret_by (v:=.agg #[vp (sS ⟨p.th,0,nN⟩),vp (sS ⟨p.rq,0,nN⟩),vp (sS ⟨p.tm,0,nN⟩),vp (sS ⟨p.iq,0,nN⟩),vp (sS ⟨p.rt,0,nN⟩),vp (sS ⟨p.wk,0,nN⟩),vp (sS ⟨p.cb,0,nN⟩),vp (sS ⟨p.ob,0,nN⟩),vp (sS ⟨p.ct,0,nN⟩),vp (sS ⟨p.gt,0,nN⟩),vp (sS ⟨p.sp,0,nN⟩),vp (sS ⟨p.dk,0,nN⟩),vp (sS ⟨p.co,0,nN⟩),vp (sS ⟨p.mt,0,nN⟩),.slice gg kn p.cap]) ?_ rfl ?_
 ·rw [ja rfl];go_simp
 ·refine ⟨rfl,?_⟩
  exact ms
theorem ru (h:On F w (ag b p k) u):Calls tp 93 #[vp (sS ⟨b,0,nN⟩)] u (bp (vp (sS ⟨p.mt,0,nN⟩)) u):=by
 have hfl:∀ w,(Instr.field 89 (xx p k.n) 13).run tp w=.ok (vp (sS ⟨p.mt,0,nN⟩)) w:=λw=>by kernel_rfl
 have hO:=vj h
 unfold xx at *
 generalize k.n=kn at *
 clear h
 go_in
 go_wp2_with (go_at_call 77;refine hO.s λw1 m=>?_)
 go_ret
 exact ⟨rfl,m⟩
end
section
variable {F:List Nat} {w u:wW} {b:Nat} {p:KP} {k:KT}
theorem tX (n:Int) (hn:¬ (1 <= n /\ n <= 64)) (w:wW):Calls tp 17 #[vi iQ n] w (bp (.tuple #[vp nN,vi iQ 2]) w):=by
 have h1:n<1 \/ (¬ n<1 /\ 64<n):=by omega
 clear hn
 rcases h1 with h1|⟨h1,h2⟩
 all_goals
  go_in
  go_wp2
  go_ret2
  refine ⟨rfl,?_⟩
  exact ms
end
end Go.Proofs.YtmiapbgkphpgoaaGreatDoor