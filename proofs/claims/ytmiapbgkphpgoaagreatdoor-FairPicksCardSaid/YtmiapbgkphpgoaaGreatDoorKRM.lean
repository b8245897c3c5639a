/- Walks and plain laws of the kernel. No condition. -/
import Derived.Test.YtmiapbgkphpgoaaGreatDoorKJM
import Derived.Test.YtmiapbgkphpgoaaGreatDoorKPM
namespace Go.Proofs.YtmiapbgkphpgoaaGreatDoor
set_option linter.unusedVariables false
set_option linter.unusedSimpArgs false
set_option maxRecDepth 100000
set_option maxHeartbeats 20000000
open Go.RowKit
open Go.Proofs.Tryz renaming prog → tp
open List renaming setIfInBounds_toArray → sA, set_cons_zero → sB, set_cons_succ → sC
open Go renaming World → wW
open Go.Value renaming pointer → vp, bool → vb, int → vi
open Go.IntKind renaming i64 → iQ, u64 → uQ
open Option renaming none → nN, some → sS
open Bool renaming true → tQ, false → fF
open Int renaming eq_ofNat_of_zero_le → iN
section
variable {F:List Nat} {w u:wW} {b:Nat} {p:KP} {k:KT}
/-- The first j governors are set. -/
def KT.sped (k:KT) (x y:Int) (j:Nat):KT:={ k with gv:=λc=>if c<j then (k.gv c).set x y else k.gv c }
theorem KU (k:KT) (x y:Int):k.sped x y 0=k:=by
 unfold KT.sped
 simp
theorem KS (k:KT) (x y:Int):k.sped x y k.n=k.speed x y:=rfl
theorem KT.ok.sped (h:k.ok) (x y:Int) (j:Nat):(k.sped x y j).ok:=⟨h.n1,h.n2,h.th,h.rq,h.tm,h.wk,h.cb,h.ob,h.ct,h.gt,h.co,h.mt,h.rt,h.iq,h.on,h.ac,h.now,h.lim⟩
theorem On.govPtr (h:On F w (ag b p k) u) {c:Nat} (hc:c<k.n):∃ gb,p.g=sS gb /\ u.cell? ⟨gb,c,nN⟩=sS (vp (sS ⟨p.D c,0,nN⟩)):=h.famPtr (k:=16) rfl hc
theorem On.govCap (h:On F w (ag b p k) u):k.n <= p.cap /\ p.cap <= maxLen:=h.famCap (k:=16) rfl
theorem On.govDo {P:Program} {f:FuncId} {args:Array Value} {v:Value} {g':dq} (h:On F w (ag b p k) u) {c:Nat} (hc:c<k.n) (hh:∀ F1,(fC (p.D c) (k.gv c)).holds F1 u -> Calls P f args u (al (fC (p.D c) g') F1 v u)):
  Calls P f args u (λe u'=>e=.returned v /\ On F w (ag b p { k with gv:=aq k.gv c g' }) u'):=by
 have:=h.famDo (k:=16) rfl hc hh
 refine this.s λu' hB=>?_
 refine ⟨rfl,?_⟩
 have e1:(aq (λc=>fC (p.D c) (k.gv c)) c (fC (p.D c) g'))=λc'=>fC (p.D c') (aq k.gv c g' c'):=by
  funext c'
  by_cases e:c'=c
  ·subst e;rw [ah,ah]
  ·rw [ao _ _ e,ao _ _ e]
 rw [e1] at hB
 exact hB
theorem Du (k:KT) (x y:Int) (j:Nat):({ k.sped x y j with gv:=aq (k.sped x y j).gv j (((k.sped x y j).gv j).set x y) }:KT)=k.sped x y (j+1):=by
 unfold KT.sped
 have:aq (λc=>if c<j then (k.gv c).set x y else k.gv c) j (((λc=>if c<j then (k.gv c).set x y else k.gv c) j).set x y)=λc=>if c<j+1 then (k.gv c).set x y else k.gv c:=by
  funext c
  by_cases e:c=j
  ·subst e;rw [ah];simp
  ·rw [ao _ _ e]
   by_cases h:c<j
   ·rw [pG h,pG oM]
   ·rw [nG h,nG oM]
 simp only [this]
theorem xI (h:(aa b k).holds F w) (x y:Int):Calls tp 161 #[vp (sS ⟨b,0,nN⟩),vi iQ x,vi iQ y] w (al (aa b (k.speed x y)) F (vi iQ (KT.speedE x y)) w):=by
 obtain ⟨hok,p,hA⟩:=ad h
 have HO:=zh hok
 have hn1:=hok.n1
 have hn2:=hok.n2
 obtain ⟨hc1,hc2⟩:=hA.govCap
 obtain ⟨gb,hg,_⟩:=hA.govPtr (c:=0) oM
 have c14:w.cell? ⟨b,14,nN⟩=sS (.slice (rA p.g) k.n p.cap):=hA.kC 14
 rw [hg] at c14
 have d14:w.cell? ⟨b,14,nN⟩=sS (.slice (sS ⟨gb,0,nN⟩) k.n p.cap):=c14
 clear c14
 have HG:=zh hg
 have HA:=zh (show On F w (ag b p (k.sped x y 0)) w by rw [KU];exact hA)
 have HN:=zh (KS k x y)
 have hS:∀ (j:Nat) (v:wW),j<k.n -> On F w (ag b p (k.sped x y j)) v -> Calls tp 248 #[vp (sS ⟨p.D j,0,nN⟩),vi iQ x,vi iQ y] v (λe v'=>e=.returned (vi iQ (KT.speedE x y)) /\ On F w (ag b p (k.sped x y (j+1))) v'):=λj v hj hB=>by
  have:=hB.govDo (k:=k.sped x y j) (c:=j) hj (λF1 h1=>Hf h1 x y)
  rw [Du] at this
  exact this
 have hP:∀ (j:Nat) (v:wW),j<k.n -> On F w (ag b p (k.sped x y j)) v -> v.cell? ⟨gb,j,nN⟩=sS (vp (sS ⟨p.D j,0,nN⟩)):=λj v hj hB=>by
  obtain ⟨gb2,h1,h2⟩:=hB.govPtr (c:=j) hj
  rw [hg] at h1
  cases h1
  exact h2
 have HP:=zh hP
 clear hP
 generalize KT.speedE x y=se at *
 generalize hkn:k.n=nn at *
 have HKN:=zh hkn
 clear hA h hok hg hkn
 go_in
 go_wp2
 go_loopg [7,16] nn (λgg r i wr=>∃ (j:Nat) (rv:Int),i=vi iQ j /\ r=vi iQ rv /\ j+gg=nn /\ (j=0 \/ rv=se) /\ On F w (ag b p (k.sped x y j)) wr)
 case atStart=>exact ⟨0,0,rfl,rfl,by omega,.inl rfl,HA.out⟩
 case round=>
  clear HA d14
  obtain ⟨j,rv,rfl,rfl,hj,hr,hB⟩:=hrel
  by_cases hlt:j<nn
  ·have hltI:(j:Int)<nn:=by omega
   have hcap:j<p.cap:=by omega
   have cj:=HP.out j wr (by first|exact hlt|(rw [HKN.out];exact hlt)) hB
   have hSj:=hS j wr (by first|exact hlt|(rw [HKN.out];exact hlt)) hB
   clear hS hB
   go_wp2_with (
    go_at_call 248
    refine hSj.s λw2 hC=>?_
    have HC:=zh hC
    clear hSj hC)
   go_roundg (gk - 1)
   case measure=>omega
   case rel=>exact ⟨j+1,se,by go_num,rfl,by omega,.inr rfl,HC.out⟩
  ·have hje:j=nn:=by omega
   have hltI:¬ (j:Int)<nn:=by omega
   have hrs:rv=se:=by omega
   subst hrs
   have HB:=zh (show On F w (ag b p (k.speed x y)) wr by rw [<- HN.out,<- hje];exact hB)
   clear hS hB hje hr hj
   go_wp2
   go_ret
   exact HB.out.kturns (show (k.speed x y).ok from HO.out.sped x y k.n)
end
section
variable {F:List Nat} {w u:wW} {b:Nat} {p:KP} {k:KT} {t:CT}
/-- All cores' Is are sS of the table. -/
def bl (t:CT):Prop:=∀ i,0 <= (t.c i).way /\ (t.c i).way<4
theorem bl.put (h:bl t) (i:Nat) {x:dG} (hx:0 <= x.way /\ x.way<4):bl (t.put i x):=λj=>by
 show 0 <= (aq t.c i x j).way /\ (aq t.c i x j).way<4
 by_cases e:j=i
 ·subst e;rw [ah];exact hx
 ·rw [ao _ _ e];exact h j
theorem bl.take (h:bl t) (c:Int):bl (t.take c):=by
 unfold CT.take
 split
 ·exact h.put _ (h _)
 ·exact h
theorem On.govDo1 {P:Program} {f:FuncId} {args:Array Value} {v:Value} {g':dq} {x:ak} (h:On F w ([x]++ag b p k) u) {c:Nat} (hc:c<k.n) (hh:∀ F1,(fC (p.D c) (k.gv c)).holds F1 u -> Calls P f args u (al (fC (p.D c) g') F1 v u)):
  Calls P f args u (λe u'=>e=.returned v /\ On F w ([x]++ag b p { k with gv:=aq k.gv c g' }) u'):=by
 have h1:On F w ((x :: [ak.blk b (.cells (ua p k) 91 (0,0)),dD p.ow p.cnt (ew k.own),bQ p.th k.th,dK p.rq k.rq,bh p.tm k.tm,fL p.iq k.iq,fV p.rt k.rt,fh p.wk k.wk,iR p.cb k.cb,fR p.ob k.ob,lf p.ct k.ct,ji p.gt k.gt,dP p.co k.co,Im p.mt k.mt,eP p.sp k.sp,dV p.dk k.dk])++js 134 p.g p.cap k.n p.D (λc=>fC (p.D c) (k.gv c))++[]) u:=h
 have:=h1.famDo (k:=17) rfl hc hh
 refine this.s λu' hB=>?_
 refine ⟨rfl,?_⟩
 have e1:(aq (λc=>fC (p.D c) (k.gv c)) c (fC (p.D c) g'))=λc'=>fC (p.D c') (aq k.gv c g' c'):=by
  funext c'
  by_cases e:c'=c
  ·subst e;rw [ah,ah]
  ·rw [ao _ _ e,ao _ _ e]
 rw [e1] at hB
 exact hB
theorem KT.ok.meet (h:k.ok) (c:Nat) (x:dG) (d:Int):(k.meet c x d).ok:=by
 have h2:=(h.wCo (Ei k.co c)).wGv (aq k.gv c ((k.gv c).feed (k.co.takeB c) (k.co.takeS c)))
 unfold KT.meet
 split
 ·exact h2.wMt (Ee _ _ _ _ _)
 ·exact h2.wMt (Ed _ _ _ _)
theorem pZ (h:(aa b k).holds F w) {c:Nat} (hc:c<k.n) (pw:Bool) (wy:Int) (si st bu tk:Int):Calls tp 115 #[vp (sS ⟨b,0,nN⟩),vi iQ c,.agg #[vb pw,vb fF,vi iQ wy,vi iQ si,vi iQ st,vi iQ bu],vi iQ tk] w (al (aa b (k.meet c ⟨pw,fF,wy,si,st,bu⟩ tk)) F (.tuple #[]) w):=by
 obtain ⟨hok,p,hK⟩:=ad h
 have HO:=zh (hok.meet c ⟨pw,fF,wy,si,st,bu⟩ tk)
 have hA:=(hK.alloc (.cells #[vb pw,vb fF,vi iQ wy,vi iQ si,vi iQ st,vi iQ bu] 213 (0,0))).front
 have c12:(w.alloc (.cells #[vb pw,vb fF,vi iQ wy,vi iQ si,vi iQ st,vi iQ bu] 213 (0,0))).cell? ⟨b,12,nN⟩=sS (vp (sS ⟨p.co,0,nN⟩)):=hA.cell 1 rfl 12
 have hT:=hA.call (P:=tp) (f:=204) 13 rfl (λF1 h1=>wZ h1 c)
 obtain ⟨hc1,hc2⟩:=hK.govCap
 have hn2:=hok.n2
 obtain ⟨gb,hg,_⟩:=hK.govPtr (c:=c) hc
 have HG:=zh hg
 have HC:=zh hc
 have hltI:(c:Int)<k.n:=by omega
 have hcap:c<p.cap:=by omega
 have eK:k.meet c ⟨pw,fF,wy,si,st,bu⟩ tk={ k with co:=k.co.take c,gv:=aq k.gv c ((k.gv c).feed (k.co.takeB c) (k.co.takeS c)),mt:=(λfv=>k.mt.work c tk fv) ((k.gv c).feedV (k.co.takeB c) (k.co.takeS c)) }:=rfl
 rw [eK] at HO ⊢
 generalize k.co.takeB c=tb at *
 generalize k.co.takeS c=ts at *
 generalize k.co.findE c=fe at *
 have HFE:∀ w1,On F w ([ak.blk w.heap.size (.cells #[vb pw,vb fF,vi iQ wy,vi iQ si,vi iQ st,vi iQ bu] 213 (0,0))]++ag b p { k with co:=k.co.take c }) w1 -> ∀ gb,w1.cell? ⟨gb,c,nN⟩=sS (vp (sS ⟨p.D c,0,nN⟩)) -> Calls tp 205 #[vp (sS ⟨p.D c,0,nN⟩),vi iQ tb,vi iQ ts] w1 (λe u'=>e=.returned (.tuple #[vi iQ ((k.gv c).feedV tb ts),vi iQ ((k.gv c).feedE tb ts)]) /\ On F w ([ak.blk w.heap.size (.cells #[vb pw,vb fF,vi iQ wy,vi iQ si,vi iQ st,vi iQ bu] 213 (0,0))]++ag b p { k with co:=k.co.take c,gv:=aq k.gv c ((k.gv c).feed tb ts) }) u'):=λw1 hB _ _=>hB.govDo1 (P:=tp) (f:=205) HC.out (λF1 h1=>wP h1 tb ts)
 have HFE:=zh HFE
 generalize (k.gv c).feedV tb ts=fv at *
 generalize (k.gv c).feedE tb ts=fde at *
 have hMk:∀ u,On F w ([ak.blk w.heap.size (.cells #[vb pw,vb fF,vi iQ wy,vi iQ si,vi iQ st,vi iQ bu] 213 (0,0))]++ag b p { k with co:=k.co.take c,gv:=aq k.gv c ((k.gv c).feed tb ts) }) u -> Calls tp 207 #[vp (sS ⟨p.mt,0,nN⟩),vi iQ c,vi iQ tk,vi iQ fv] u (λe u'=>e=.returned (vi iQ (k.mt.workE c tk fv)) /\ On F w ([ak.blk w.heap.size (.cells #[vb pw,vb fF,vi iQ wy,vi iQ si,vi iQ st,vi iQ bu] 213 (0,0))]++ag b p { k with co:=k.co.take c,gv:=aq k.gv c ((k.gv c).feed tb ts),mt:=(λfv=>k.mt.work c tk fv) fv }) u'):=λu hC=>hC.call (P:=tp) (f:=207) 14 rfl (λF1 h1=>BB h1 c tk fv)
 generalize (k.mt.workE c tk fv)=me at *
 clear hA h hok hg hK eK hn2
 go_in
 go_wp2_with (first
  | (
   go_at_call 204
   refine hT.s λw1 hB=>?_
   have hB:On F w ([ak.blk w.heap.size (.cells #[vb pw,vb fF,vi iQ wy,vi iQ si,vi iQ st,vi iQ bu] 213 (0,0))]++ag b p { k with co:=k.co.take c }) w1:=hB
   have c14:w1.cell? ⟨b,14,nN⟩=sS (.slice (rA p.g) k.n p.cap):=hB.cell 1 rfl 14
   rw [HG.out] at c14
   have d14:w1.cell? ⟨b,14,nN⟩=sS (.slice (sS ⟨gb,0,nN⟩) k.n p.cap):=c14
   obtain ⟨gb2,hg2,cj⟩:=hB.kdrop1.govPtr (c:=c) HC.out
   rw [HG.out] at hg2
   cases hg2
   have hF:Calls tp 205 #[vp (sS ⟨p.D c,0,nN⟩),vi iQ tb,vi iQ ts] w1 (λe u'=>e=.returned (.tuple #[vi iQ fv,vi iQ fde]) /\ On F w ([ak.blk w.heap.size (.cells #[vb pw,vb fF,vi iQ wy,vi iQ si,vi iQ st,vi iQ bu] 213 (0,0))]++ag b p { k with co:=k.co.take c,gv:=aq k.gv c ((k.gv c).feed tb ts) }) u'):=HFE.out w1 hB gb cj
   clear hB hT c14 c12)
  | (
   go_at_call 205
   refine hF.s λw2 hC=>?_
   have hC:On F w ([ak.blk w.heap.size (.cells #[vb pw,vb fF,vi iQ wy,vi iQ si,vi iQ st,vi iQ bu] 213 (0,0))]++ag b p { k with co:=k.co.take c,gv:=aq k.gv c ((k.gv c).feed tb ts) }) w2:=hC
   have y1:w2.cell? ⟨w.heap.size,1,nN⟩=sS (vb fF):=hC.cell 0 rfl 1
   have y2:w2.cell? ⟨w.heap.size,2,nN⟩=sS (vi iQ wy):=hC.cell 0 rfl 2
   have c13:w2.cell? ⟨b,13,nN⟩=sS (vp (sS ⟨p.mt,0,nN⟩)):=hC.cell 1 rfl 13
   have HC2:=zh hC
   clear hC hF cj d14)
  | (
   go_at_call 207
   refine (hMk _ HC2.out).s λw3 hD=>?_
   have HD:=zh (On.kdrop1 hD)
   clear hD hMk)
  )
 refine bodyPost_end (v:=.tuple #[]) (results_none rfl _ _ _) rfl ?_
 exact HD.out.kturns HO.out
theorem qc (h:(aa b k).holds F w) {c:Nat} (hc:c<k.n) (pw:Bool) (wn:Nat) (hwn:wn<4) (si st bu tk:Int):Calls tp 115 #[vp (sS ⟨b,0,nN⟩),vi iQ c,.agg #[vb pw,vb tQ,vi iQ (wn:Nat),vi iQ si,vi iQ st,vi iQ bu],vi iQ tk] w (al (aa b (k.meet c ⟨pw,tQ,(wn:Nat),si,st,bu⟩ tk)) F (.tuple #[]) w):=by
 obtain ⟨hok,p,hK⟩:=ad h
 have HO:=zh (hok.meet c ⟨pw,tQ,(wn:Nat),si,st,bu⟩ tk)
 have hA:=(hK.alloc (.cells #[vb pw,vb tQ,vi iQ (wn:Nat),vi iQ si,vi iQ st,vi iQ bu] 213 (0,0))).front
 have c12:(w.alloc (.cells #[vb pw,vb tQ,vi iQ (wn:Nat),vi iQ si,vi iQ st,vi iQ bu] 213 (0,0))).cell? ⟨b,12,nN⟩=sS (vp (sS ⟨p.co,0,nN⟩)):=hA.cell 1 rfl 12
 have hT:=hA.call (P:=tp) (f:=204) 13 rfl (λF1 h1=>wZ h1 c)
 obtain ⟨hc1,hc2⟩:=hK.govCap
 have hn2:=hok.n2
 obtain ⟨gb,hg,_⟩:=hK.govPtr (c:=c) hc
 have HG:=zh hg
 have HC:=zh hc
 have hltI:(c:Int)<k.n:=by omega
 have hcap:c<p.cap:=by omega
 have eK:k.meet c ⟨pw,tQ,(wn:Nat),si,st,bu⟩ tk={ k with co:=k.co.take c,gv:=aq k.gv c ((k.gv c).feed (k.co.takeB c) (k.co.takeS c)),mt:=(λ_=>k.mt.rest c wn tk (jw wn).2.2) ((k.gv c).feedV (k.co.takeB c) (k.co.takeS c)) }:=rfl
 rw [eK] at HO ⊢
 generalize k.co.takeB c=tb at *
 generalize k.co.takeS c=ts at *
 generalize k.co.findE c=fe at *
 have HFE:∀ w1,On F w ([ak.blk w.heap.size (.cells #[vb pw,vb tQ,vi iQ (wn:Nat),vi iQ si,vi iQ st,vi iQ bu] 213 (0,0))]++ag b p { k with co:=k.co.take c }) w1 -> ∀ gb,w1.cell? ⟨gb,c,nN⟩=sS (vp (sS ⟨p.D c,0,nN⟩)) -> Calls tp 205 #[vp (sS ⟨p.D c,0,nN⟩),vi iQ tb,vi iQ ts] w1 (λe u'=>e=.returned (.tuple #[vi iQ ((k.gv c).feedV tb ts),vi iQ ((k.gv c).feedE tb ts)]) /\ On F w ([ak.blk w.heap.size (.cells #[vb pw,vb tQ,vi iQ (wn:Nat),vi iQ si,vi iQ st,vi iQ bu] 213 (0,0))]++ag b p { k with co:=k.co.take c,gv:=aq k.gv c ((k.gv c).feed tb ts) }) u'):=λw1 hB _ _=>hB.govDo1 (P:=tp) (f:=205) HC.out (λF1 h1=>wP h1 tb ts)
 have HFE:=zh HFE
 generalize (k.gv c).feedV tb ts=fv at *
 generalize (k.gv c).feedE tb ts=fde at *
 have hMk:∀ u,On F w ([ak.blk w.heap.size (.cells #[vb pw,vb tQ,vi iQ (wn:Nat),vi iQ si,vi iQ st,vi iQ bu] 213 (0,0))]++ag b p { k with co:=k.co.take c,gv:=aq k.gv c ((k.gv c).feed tb ts) }) u -> Calls tp 206 #[vp (sS ⟨p.mt,0,nN⟩),vi iQ c,vi iQ (wn:Nat),vi iQ tk,vi iQ (jw wn).2.2] u (λe u'=>e=.returned (vi iQ (k.mt.restE c wn tk (jw wn).2.2)) /\ On F w ([ak.blk w.heap.size (.cells #[vb pw,vb tQ,vi iQ (wn:Nat),vi iQ si,vi iQ st,vi iQ bu] 213 (0,0))]++ag b p { k with co:=k.co.take c,gv:=aq k.gv c ((k.gv c).feed tb ts),mt:=(λ_=>k.mt.rest c wn tk (jw wn).2.2) fv }) u'):=λu hC=>hC.call (P:=tp) (f:=206) 14 rfl (λF1 h1=>BC h1 c wn tk (jw wn).2.2)
 generalize (k.mt.restE c wn tk (jw wn).2.2)=me at *
 clear hA h hok hg hK eK hn2
 go_in
 go_wp2_with (first
  | (
   go_at_call 204
   refine hT.s λw1 hB=>?_
   have hB:On F w ([ak.blk w.heap.size (.cells #[vb pw,vb tQ,vi iQ (wn:Nat),vi iQ si,vi iQ st,vi iQ bu] 213 (0,0))]++ag b p { k with co:=k.co.take c }) w1:=hB
   have c14:w1.cell? ⟨b,14,nN⟩=sS (.slice (rA p.g) k.n p.cap):=hB.cell 1 rfl 14
   rw [HG.out] at c14
   have d14:w1.cell? ⟨b,14,nN⟩=sS (.slice (sS ⟨gb,0,nN⟩) k.n p.cap):=c14
   obtain ⟨gb2,hg2,cj⟩:=hB.kdrop1.govPtr (c:=c) HC.out
   rw [HG.out] at hg2
   cases hg2
   have hF:Calls tp 205 #[vp (sS ⟨p.D c,0,nN⟩),vi iQ tb,vi iQ ts] w1 (λe u'=>e=.returned (.tuple #[vi iQ fv,vi iQ fde]) /\ On F w ([ak.blk w.heap.size (.cells #[vb pw,vb tQ,vi iQ (wn:Nat),vi iQ si,vi iQ st,vi iQ bu] 213 (0,0))]++ag b p { k with co:=k.co.take c,gv:=aq k.gv c ((k.gv c).feed tb ts) }) u'):=HFE.out w1 hB gb cj
   clear hB hT c14 c12)
  | (
   go_at_call 205
   refine hF.s λw2 hC=>?_
   have hC:On F w ([ak.blk w.heap.size (.cells #[vb pw,vb tQ,vi iQ (wn:Nat),vi iQ si,vi iQ st,vi iQ bu] 213 (0,0))]++ag b p { k with co:=k.co.take c,gv:=aq k.gv c ((k.gv c).feed tb ts) }) w2:=hC
   have y1:w2.cell? ⟨w.heap.size,1,nN⟩=sS (vb tQ):=hC.cell 0 rfl 1
   have y2:w2.cell? ⟨w.heap.size,2,nN⟩=sS (vi iQ (wn:Nat)):=hC.cell 0 rfl 2
   have c13:w2.cell? ⟨b,13,nN⟩=sS (vp (sS ⟨p.mt,0,nN⟩)):=hC.cell 1 rfl 13
   have HC2:=zh hC
   clear hC hF cj d14)
  )
 generalize w.heap.size=xb at *
 have hx:∀ v,af [] w2 v -> v.cell? ⟨b,13,nN⟩=sS (vp (sS ⟨p.mt,0,nN⟩)) /\ v.cell? ⟨xb,2,nN⟩=sS (vi iQ (wn:Nat)):=λv mv=>⟨(HC2.out.keep mv).cell 1 rfl 13,(HC2.out.keep mv).cell 0 rfl 2⟩
 have C:=hx w2 mR
 have m0:af [] w2 w2:=af.refl _ _
 have hwI:(wn:Int)<4:=by omega
 clear c13 y1 y2
 refine bX [] (λv=>v.cell? ⟨b,13,nN⟩=sS (vp (sS ⟨p.mt,0,nN⟩)) /\ v.cell? ⟨xb,2,nN⟩=sS (vi iQ (wn:Nat))) kz C (λhHeld=>?_)
 refine lp 0 (h:=?_)
 refine lp 1 (h:=?_)
 refine lp 2 (h:=?_)
 refine lp 3 (h:=?_)
 refine kU 4 (h:=?_)
 refine lp 5 (h:=?_)
 refine lp 6 (h:=?_)
 refine kU 7 (h:=?_)
 refine lp 8 (h:=?_)
 refine lp 10 (h:=?_)
 refine kU 11 (h:=?_)
 refine lo 9 (h:=λK hK=>?_)
 go_simp
 go_at_call 195
 refine (ug _).mono ?_
 rintro e v ⟨g,rfl,mx,hg,hW⟩
 have m1:af [] w2 v:=m0.drew.trans mx sM
 have C9:=hx _ m1
 have T:=(hW wn hwn).2.2
 clear mx hg hW
 refine lk hK (C9) (h:=?_)
 clear hK K
 refine lp 12 (h:=?_)
 refine lp 13 (h:=?_)
 refine lo 14 (h:=λK hK=>?_)
 go_simp
 refine lk hK (C9) (h:=?_)
 clear hK K
 refine lo 15 (h:=λK hK=>?_)
 go_simp
 go_at_call 206
 refine (hMk _ (HC2.out.keep m1)).s λv3 hD=>?_
 have C10:v3.cell? ⟨b,13,nN⟩=sS (vp (sS ⟨p.mt,0,nN⟩)) /\ v3.cell? ⟨xb,2,nN⟩=sS (vi iQ (wn:Nat)):=⟨hD.cell 1 rfl 13,hD.cell 0 rfl 2⟩
 have HD:=zh (On.kdrop1 hD)
 clear hD hMk
 refine lk hK (C10) (h:=?_)
 clear hK K
 refine aZ kz ?_ _
 go_wp2
 refine bodyPost_end (v:=.tuple #[]) (results_none rfl _ _ _) rfl ?_
 exact HD.out.kturns HO.out
theorem zI (h:(aa b k).holds F w) {c:Nat} (hc:c<k.n) (pw il:Bool) (wy si st bu tk:Int) (hw:0 <= wy /\ wy<4):Calls tp 115 #[vp (sS ⟨b,0,nN⟩),vi iQ c,.agg #[vb pw,vb il,vi iQ wy,vi iQ si,vi iQ st,vi iQ bu],vi iQ tk] w (al (aa b (k.meet c ⟨pw,il,wy,si,st,bu⟩ tk)) F (.tuple #[]) w):=by
 cases il
 ·exact pZ h hc pw wy si st bu tk
 ·obtain ⟨wn,rfl⟩:=iN hw.1
  exact qc h hc pw wn oM si st bu tk
theorem KT.ok.meets (h:k.ok) (d:Int):∀ j,(k.meets d j).ok
 | 0=>h
 | j+1=>by
  show ((k.meets d j).meetAt d j).ok
  unfold KT.meetAt
  split
  ·exact (h.meets d j).meet _ _ _
  ·exact h.meets d j
theorem kq (h:bl k.co) (d:Int):∀ j,bl (k.meets d j).co
 | 0=>h
 | j+1=>by
  show bl ((k.meets d j).meetAt d j).co
  unfold KT.meetAt
  split
  ·exact (kq h d j).take j
  ·exact kq h d j
theorem rN (k:KT) (d:Int):∀ j,(k.meets d j).n=k.n /\ (k.meets d j).tm=k.tm /\ (k.meets d j).now=k.now
 | 0=>⟨rfl,rfl,rfl⟩
 | j+1=>by
  have h:=rN k d j
  show ((k.meets d j).meetAt d j).n=k.n /\ ((k.meets d j).meetAt d j).tm=k.tm /\ ((k.meets d j).meetAt d j).now=k.now
  unfold KT.meetAt
  split
  ·exact h
  ·exact h
theorem zA {a d:Int} (h:aO a d=0):0 <= aI a d /\ aI a d <= 1152921504606846976:=by
 unfold aI
 rw [pG h]
 unfold aO at h
 by_cases ho:ou a d
 ·rw [nG (λx=>x ho)] at h
  obtain ⟨⟨h1,h2⟩,h3,h4⟩:=ho
  by_cases hq:a <= 1152921504606846976 - d
  ·omega
  ·rw [nG hq] at h;cases h
 ·rw [pG ho] at h;cases h
theorem KT.ok.tick (h:k.ok) (d:Int):(k.tick d).ok:=by
 unfold KT.tick
 split
 ·exact h
 ·rename_i h0
  have h0:aO k.now d=0:=by omega
  exact ((h.meets d k.n).wNow (zA h0)).wTm ((Jf _ _).trans (by rw [(rN k d k.n).2.1]))
theorem tu (h:(aa b k).holds F w) (d:Int) (he:aO k.now d≠0):Calls tp 68 #[vp (sS ⟨b,0,nN⟩),vi iQ d] w (al (aa b (k.tick d)) F (vi iQ (k.tickE d)) w):=by
 obtain ⟨hok,p,hA⟩:=ad h
 have c18:w.cell? ⟨b,18,nN⟩=sS (vi iQ k.now):=hA.kC 18
 have hL:=λv=>iw k.now d v
 have hI:(aO k.now d != 0)=tQ:=by simpa using he
 rw [show k.tick d=k by unfold KT.tick;rw [pG he],show k.tickE d=aO k.now d by unfold KT.tickE;rw [pG he]]
 have HO:=zh hok
 have HA:=zh hA
 generalize aO k.now d=le at *
 generalize aI k.now d=lv at *
 clear hA h hok he
 go_in
 go_wp2_with (go_at_call 114;refine (hL _).r λj=>?_;have HB:=zh (HA.out.keep ((af.refl [] w).drewN j)))
 go_ret
 exact HB.out.kturns HO.out
theorem tv (h:(aa b k).holds F w) (hT:bA w) (hF:tzL_ren.g 1∉F) (hw:bl k.co) (d:Int) (he:aO k.now d=0):Calls tp 68 #[vp (sS ⟨b,0,nN⟩),vi iQ d] w (al (aa b (k.tick d)) F (vi iQ (k.tickE d)) w):=by
 obtain ⟨hok,p,hA⟩:=ad h
 have hn1:=hok.n1
 have hn2:=hok.n2
 have c18:w.cell? ⟨b,18,nN⟩=sS (vi iQ k.now):=hA.kC 18
 have hL:=λv=>iw k.now d v
 rw [he] at hL
 have eK:k.tick d={ k.meets d k.n with now:=aI k.now d,tm:=k.tm.go (aI k.now d) }:=by unfold KT.tick;rw [nG (λx=>x he)]
 have eE:k.tickE d=k.tm.goE (aI k.now d):=by unfold KT.tickE;rw [nG (λx=>x he)]
 have HOK:=zh (hok.tick d)
 rw [eK] at HOK ⊢
 rw [eE]
 have hLa:=zA he
 generalize aI k.now d=lv at *
 have HT:=zh (And.intro hT hF)
 have HW:=zh (kq hw d)
 have HO:=zh (λj=>hok.meets d j)
 have HN:=zh (rN k d)
 have HA:=zh hA
 have HAT:∀ j,((k.meets d j).co.c j).power=fF -> k.meets d (j+1)=k.meets d j:=λj hp=>by
  show (k.meets d j).meetAt d j=k.meets d j
  unfold KT.meetAt
  rw [hp]
  rfl
 have HAU:∀ j,((k.meets d j).co.c j).power=tQ -> k.meets d (j+1)=(k.meets d j).meet j ((k.meets d j).co.c j) d:=λj hp=>by
  show (k.meets d j).meetAt d j=_
  unfold KT.meetAt
  rw [hp]
  rfl
 have HAT:=zh HAT
 have HAU:=zh HAU
 have c15:w.cell? ⟨b,15,nN⟩=sS (vi iQ k.n):=hA.kC 15
 generalize hkn:k.n=nn at *
 have HKN:=zh hkn
 clear hA h hok he eK eE hw hT hF hkn
 go_in
 go_wp2_with (go_at_call 114;refine (hL _).r λj0=>?_;have HB:=zh (HA.out.keep ((af.refl [] w).drewN j0)))
 go_loopg [26] nn (λgg i wr=>∃ (j:Nat) (p:KP),i=vi iQ j /\ j+gg=nn /\ On F w (ag b p (k.meets d j)) wr)
 case atStart=>exact ⟨0,p,rfl,by omega,HB.out⟩
 case round=>
  clear HA HB c18 hL c15
  obtain ⟨j,p1,rfl,hj,hB⟩:=hrel
  by_cases hlt:j<nn
  ·have hltI:(j:Int)<nn:=by omega
   have c12:wr.cell? ⟨b,12,nN⟩=sS (vp (sS ⟨p1.co,0,nN⟩)):=hB.kC 12
   have hIs:(k.meets d j).co.is j:=⟨by omega,by rw [(HO.out j).co,(HN.out j).1];exact hltI⟩
   have hG:=hB.tells (P:=tp) (f:=105) 12 rfl (λF1 h1=>gL h1 j)
   rw [pG hIs] at hG
   have hway:=HW.out j j
   have hat:=HAT.out j
   have hau:=HAU.out j
   rw [show (k.meets d j).co.at (j:Int)=(k.meets d j).co.c j from rfl] at hG
   generalize (k.meets d j).co.findE (j:Int)=fe at *
   generalize (k.meets d j).co.c j=x at *
   obtain ⟨pw,il,wy,si,st,bu⟩:=x
   simp only [bD] at *
   cases pw
   ·have HE:=zh (hat rfl)
    clear hat hau hway hB hIs
    go_wp2_with (
     go_at_call 105
     refine hG.mono ?_
     rintro e w1 ⟨rfl,hC,m1⟩
     have HC:=zh (hC.keep (mR.alloc (.cells #[vb fF,vb il,vi iQ wy,vi iQ si,vi iQ st,vi iQ bu] 213 (0,0))))
     clear hC m1 hG)
    go_roundg (gk - 1)
    case measure=>omega
    case rel=>exact ⟨j+1,p1,by go_num,by omega,by rw [HE.out];exact HC.out⟩
   ·have hE:=hau rfl
    have HE:=zh hE
    clear hat hau hB hIs hE
    go_wp2_with (first
     | (
      go_at_call 105
      refine hG.mono ?_
      rintro e w1 ⟨rfl,hC,m1⟩
      have hC2:=(hC.alloc (.cells #[vb tQ,vb il,vi iQ wy,vi iQ si,vi iQ st,vi iQ bu] 213 (0,0))).front
      have y0:=hC2.cell 0 rfl 0
      have y1:=hC2.cell 0 rfl 1
      have y2:=hC2.cell 0 rfl 2
      have y3:=hC2.cell 0 rfl 3
      have y4:=hC2.cell 0 rfl 4
      have y5:=hC2.cell 0 rfl 5
      have hM:=On.kcall (pre:=[_]) hC2 (HO.out j) HT.out.1 HT.out.2 (λF1 h1 _ _=>zI (c:=j) h1 (by rw [(HN.out j).1];exact hlt) tQ il wy si st bu d hway)
      rw [<- HE.out] at hM
      clear hC m1 hG hC2)
     | (
      go_at_call 115
      refine hM.mono ?_
      rintro e w3 ⟨rfl,ok3,p3,hD⟩
      have HD:=zh (show On F w (ag b p3 (k.meets d (j+1))) w3 from On.kdrop1 hD)
      clear ok3 hD hM y0 y1 y2 y3 y4 y5))
    go_roundg (gk - 1)
    case measure=>omega
    case rel=>exact ⟨j+1,p3,by go_num,by omega,HD.out⟩
  ·have hje:j=nn:=by omega
   have hltI:¬ (j:Int)<nn:=by omega
   subst hje
   have HB:=zh hB
   have f18:=hB.kF 18
   have s0:=hB.size 0 rfl
   have c18:wr.cell? ⟨b,18,nN⟩=sS (vi iQ (k.meets d j).now):=hB.kC 18
   have hS:On F w (ag b p1 { k.meets d j with now:=lv }) (wr.setCell ⟨b,18,nN⟩ (vi iQ lv)):=hB.set 0 rfl 18 (vi iQ lv)
   have c2:(wr.setCell ⟨b,18,nN⟩ (vi iQ lv)).cell? ⟨b,2,nN⟩=sS (vp (sS ⟨p1.tm,0,nN⟩)):=hS.kC 2
   have hGo:=hS.call (P:=tp) (f:=116) 4 rfl (λF1 h1=>Dj h1 lv)
   rw [show ({ k.meets d j with now:=lv }:KT).tm=k.tm from (HN.out j).2.1] at hGo
   generalize k.tm.goE lv=ge at *
   clear hS hB
   go_wp2_with (
    go_at_call 116
    refine hGo.s λw4 hD=>?_
    have HD:=zh (show On F w (ag b p1 { k.meets d j with now:=lv,tm:=k.tm.go lv }) w4 from hD)
    clear hD hGo)
   go_ret
   exact HD.out.kturns HOK.out
theorem zE (h:(aa b k).holds F w) (hT:bA w) (hF:tzL_ren.g 1∉F) (hw:bl k.co) (d:Int):Calls tp 68 #[vp (sS ⟨b,0,nN⟩),vi iQ d] w (al (aa b (k.tick d)) F (vi iQ (k.tickE d)) w):=by
 by_cases he:aO k.now d=0
 ·exact tv h hT hF hw d he
 ·exact tu h d he
end
section
variable {F:List Nat} {w u:wW} {b:Nat} {p:KP} {k:KT}
theorem tF (h:(aa b k).holds F w) (hT:bA w) (hF:tzL_ren.g 1∉F) (cpu id n:Int) (m:Nat):Calls tp 76 #[vp (sS ⟨b,0,nN⟩),.agg #[vi iQ 11,vi iQ cpu,vi iQ id,vi uQ (m:Nat),vi iQ n]] w (bo b (k.cancel id) (aX 0 (k.cancelE id)) F w):=by
 obtain ⟨hok,p,hK⟩:=ad h
 have hA:=(hK.alloc (.cells #[vi iQ 11,vi iQ cpu,vi iQ id,vi uQ (m:Nat),vi iQ n] 34 (0,0))).front
 have x0:=ab (ai w (.cells #[vi iQ 11,vi iQ cpu,vi iQ id,vi uQ (m:Nat),vi iQ n] 34 (0,0))) 0
 have x2:=ab (ai w (.cells #[vi iQ 11,vi iQ cpu,vi iQ id,vi uQ (m:Nat),vi iQ n] 34 (0,0))) 2
 have x4:=ab (ai w (.cells #[vi iQ 11,vi iQ cpu,vi iQ id,vi uQ (m:Nat),vi iQ n] 34 (0,0))) 4
 have hC:=On.kcall (pre:=[_]) hA hok hT hF (λF1 h1 hT1 hF1=>vo h1 id)
 have hPl:=λv=>aD (k.cancelE id) v
 generalize (k.cancelE id)=ve at *
 generalize hk2:k.cancel id=k2 at *
 clear hA h hK hok hT hF hk2
 go_in
 go_wp2_with (first
  | (
   go_at_call 156
   refine hC.mono ?_
   rintro e w2 ⟨rfl,ok2,p2,hE⟩
   have HR:=zh ((hE.kdrop1.kernel ok2).on)
   clear hE ok2 hC)
  | (
   go_at_call 66
   refine (hPl _).mono ?_
   intro e w3 hN
   obtain ⟨a,c,rfl,hE⟩:=hN.does HR.out))
 go_ret
 exact ⟨a,c,rfl,hE⟩
theorem tC (h:(aa b k).holds F w) (hT:bA w) (hF:tzL_ren.g 1∉F) (cpu id n:Int) (m:Nat):Calls tp 76 #[vp (sS ⟨b,0,nN⟩),.agg #[vi iQ 25,vi iQ cpu,vi iQ id,vi uQ (m:Nat),vi iQ n]] w (bo b (k.plan n) (aX 0 (KT.planE n)) F w):=by
 obtain ⟨hok,p,hK⟩:=ad h
 have hA:=(hK.alloc (.cells #[vi iQ 25,vi iQ cpu,vi iQ id,vi uQ (m:Nat),vi iQ n] 34 (0,0))).front
 have x0:=ab (ai w (.cells #[vi iQ 25,vi iQ cpu,vi iQ id,vi uQ (m:Nat),vi iQ n] 34 (0,0))) 0
 have x2:=ab (ai w (.cells #[vi iQ 25,vi iQ cpu,vi iQ id,vi uQ (m:Nat),vi iQ n] 34 (0,0))) 2
 have x4:=ab (ai w (.cells #[vi iQ 25,vi iQ cpu,vi iQ id,vi uQ (m:Nat),vi iQ n] 34 (0,0))) 4
 have hC:=On.kcall (pre:=[_]) hA hok hT hF (λF1 h1 hT1 hF1=>zH h1 n)
 have hPl:=λv=>aD (KT.planE n) v
 generalize (KT.planE n)=ve at *
 generalize hk2:k.plan n=k2 at *
 clear hA h hK hok hT hF hk2
 go_in
 go_wp2_with (first
  | (
   go_at_call 158
   refine hC.mono ?_
   rintro e w2 ⟨rfl,ok2,p2,hE⟩
   have HR:=zh ((hE.kdrop1.kernel ok2).on)
   clear hE ok2 hC)
  | (
   go_at_call 66
   refine (hPl _).mono ?_
   intro e w3 hN
   obtain ⟨a,c,rfl,hE⟩:=hN.does HR.out))
 go_ret
 exact ⟨a,c,rfl,hE⟩
theorem tA (h:(aa b k).holds F w) (hT:bA w) (hF:tzL_ren.g 1∉F) (cpu id n:Int) (m:Nat):Calls tp 76 #[vp (sS ⟨b,0,nN⟩),.agg #[vi iQ 28,vi iQ cpu,vi iQ id,vi uQ (m:Nat),vi iQ n]] w (bo b (k.lim n) (aX 0 (tn n)) F w):=by
 obtain ⟨hok,p,hK⟩:=ad h
 have hA:=(hK.alloc (.cells #[vi iQ 28,vi iQ cpu,vi iQ id,vi uQ (m:Nat),vi iQ n] 34 (0,0))).front
 have x0:=ab (ai w (.cells #[vi iQ 28,vi iQ cpu,vi iQ id,vi uQ (m:Nat),vi iQ n] 34 (0,0))) 0
 have x2:=ab (ai w (.cells #[vi iQ 28,vi iQ cpu,vi iQ id,vi uQ (m:Nat),vi iQ n] 34 (0,0))) 2
 have x4:=ab (ai w (.cells #[vi iQ 28,vi iQ cpu,vi iQ id,vi uQ (m:Nat),vi iQ n] 34 (0,0))) 4
 have hC:=On.kcall (pre:=[_]) hA hok hT hF (λF1 h1 hT1 hF1=>vk h1 n)
 have hPl:=λv=>aD (tn n) v
 generalize (tn n)=ve at *
 generalize hk2:k.lim n=k2 at *
 clear hA h hK hok hT hF hk2
 go_in
 go_wp2_with (first
  | (
   go_at_call 160
   refine hC.mono ?_
   rintro e w2 ⟨rfl,ok2,p2,hE⟩
   have HR:=zh ((hE.kdrop1.kernel ok2).on)
   clear hE ok2 hC)
  | (
   go_at_call 66
   refine (hPl _).mono ?_
   intro e w3 hN
   obtain ⟨a,c,rfl,hE⟩:=hN.does HR.out))
 go_ret
 exact ⟨a,c,rfl,hE⟩
theorem tx (h:(aa b k).holds F w) (hT:bA w) (hF:tzL_ren.g 1∉F) (cpu id n:Int) (m:Nat):Calls tp 76 #[vp (sS ⟨b,0,nN⟩),.agg #[vi iQ 29,vi iQ cpu,vi iQ id,vi uQ (m:Nat),vi iQ n]] w (bo b (k.speed id n) (aX 0 (KT.speedE id n)) F w):=by
 obtain ⟨hok,p,hK⟩:=ad h
 have hA:=(hK.alloc (.cells #[vi iQ 29,vi iQ cpu,vi iQ id,vi uQ (m:Nat),vi iQ n] 34 (0,0))).front
 have x0:=ab (ai w (.cells #[vi iQ 29,vi iQ cpu,vi iQ id,vi uQ (m:Nat),vi iQ n] 34 (0,0))) 0
 have x2:=ab (ai w (.cells #[vi iQ 29,vi iQ cpu,vi iQ id,vi uQ (m:Nat),vi iQ n] 34 (0,0))) 2
 have x4:=ab (ai w (.cells #[vi iQ 29,vi iQ cpu,vi iQ id,vi uQ (m:Nat),vi iQ n] 34 (0,0))) 4
 have hC:=On.kcall (pre:=[_]) hA hok hT hF (λF1 h1 hT1 hF1=>xI h1 id n)
 have hPl:=λv=>aD (KT.speedE id n) v
 generalize (KT.speedE id n)=ve at *
 generalize hk2:k.speed id n=k2 at *
 clear hA h hK hok hT hF hk2
 go_in
 go_wp2_with (first
  | (
   go_at_call 161
   refine hC.mono ?_
   rintro e w2 ⟨rfl,ok2,p2,hE⟩
   have HR:=zh ((hE.kdrop1.kernel ok2).on)
   clear hE ok2 hC)
  | (
   go_at_call 66
   refine (hPl _).mono ?_
   intro e w3 hN
   obtain ⟨a,c,rfl,hE⟩:=hN.does HR.out))
 go_ret
 exact ⟨a,c,rfl,hE⟩
theorem tD (h:(aa b k).holds F w) (hT:bA w) (hF:tzL_ren.g 1∉F) (cpu id n:Int) (m:Nat):Calls tp 76 #[vp (sS ⟨b,0,nN⟩),.agg #[vi iQ 19,vi iQ cpu,vi iQ id,vi uQ (m:Nat),vi iQ n]] w (bo b (k) (aX (k.flushV id) (KT.flushE id)) F w):=by
 obtain ⟨hok,p,hK⟩:=ad h
 have hA:=(hK.alloc (.cells #[vi iQ 19,vi iQ cpu,vi iQ id,vi uQ (m:Nat),vi iQ n] 34 (0,0))).front
 have x0:=ab (ai w (.cells #[vi iQ 19,vi iQ cpu,vi iQ id,vi uQ (m:Nat),vi iQ n] 34 (0,0))) 0
 have x2:=ab (ai w (.cells #[vi iQ 19,vi iQ cpu,vi iQ id,vi uQ (m:Nat),vi iQ n] 34 (0,0))) 2
 have x4:=ab (ai w (.cells #[vi iQ 19,vi iQ cpu,vi iQ id,vi uQ (m:Nat),vi iQ n] 34 (0,0))) 4
 have hC:=xL hA.kdrop1 id
 have hPl:=λv=>bs (k.flushV id) (KT.flushE id) v
 have HA:=zh hA
 have HK:=zh hok
 generalize k.flushV id=fv at *
 generalize KT.flushE id=fe at *
 clear hA h hK hok hT hF
 go_in
 go_wp2_with (first
  | (
   go_at_call 157
   refine hC.s λw2 dr=>?_
   have HR:=zh (((HA.out.keep dr.mods).kdrop1.kernel HK.out).on)
   clear dr hC)
  | (
   go_at_call 69
   refine (hPl _).mono ?_
   intro e w3 hN
   obtain ⟨a,c,rfl,hE⟩:=hN.does HR.out))
 go_ret
 exact ⟨a,c,rfl,hE⟩
theorem tB (h:(aa b k).holds F w) (hT:bA w) (hF:tzL_ren.g 1∉F) (cpu id n:Int) (m:Nat):Calls tp 76 #[vp (sS ⟨b,0,nN⟩),.agg #[vi iQ 27,vi iQ cpu,vi iQ id,vi uQ (m:Nat),vi iQ n]] w (bo b ({ k with gt:=k.gt.leave cpu }) (aX 0 (k.gt.leaveE cpu)) F w):=by
 obtain ⟨hok,p,hK⟩:=ad h
 have hA:=(hK.alloc (.cells #[vi iQ 27,vi iQ cpu,vi iQ id,vi uQ (m:Nat),vi iQ n] 34 (0,0))).front
 have x0:=ab (ai w (.cells #[vi iQ 27,vi iQ cpu,vi iQ id,vi uQ (m:Nat),vi iQ n] 34 (0,0))) 0
 have x2:=ab (ai w (.cells #[vi iQ 27,vi iQ cpu,vi iQ id,vi uQ (m:Nat),vi iQ n] 34 (0,0))) 2
 have x4:=ab (ai w (.cells #[vi iQ 27,vi iQ cpu,vi iQ id,vi uQ (m:Nat),vi iQ n] 34 (0,0))) 4
 have HO:=zh (show KT.ok { k with gt:=k.gt.leave cpu } from hok.wGt (By k.gt cpu))
 have HA:=zh hA
 have hAn:=λv=>aD (k.gt.leaveE cpu) v
 clear hA h hK hok hT hF x2 x4
 go_in
 go_wp2
 generalize (w.alloc (.cells #[vi iQ 27,vi iQ cpu,vi iQ id,vi uQ (m:Nat),vi iQ n] 34 (0,0)))=W at *
 generalize w.heap.size=xb at *
 have hx:∀ v,af [] W v -> v.cell? ⟨b,9,nN⟩=sS (vp (sS ⟨p.gt,0,nN⟩)) /\ v.cell? ⟨xb,1,nN⟩=sS (vi iQ cpu):=λv m=>⟨(HA.out.keep m).cell 1 rfl 9,(HA.out.keep m).cell 0 rfl 1⟩
 have m0:af [] W W:=af.refl _ _
 have C:=hx W m0
 have hQ:∀ v,af [] W v -> Calls tp 159 #[vp (sS ⟨p.gt,0,nN⟩),vi iQ cpu] v (λe u'=>e=.returned (vi iQ (k.gt.leaveE cpu)) /\ On F w (ak.blk xb (.cells #[vi iQ 27,vi iQ cpu,vi iQ id,vi uQ (m:Nat),vi iQ n] 34 (0,0)) :: ag b p { k with gt:=k.gt.leave cpu }) u'):=λv mv=>(HA.out.keep mv).call (P:=tp) (f:=159) 12 rfl (λF1 h1=>Ad h1 cpu)
 generalize hk2:({ k with gt:=k.gt.leave cpu }:KT)=k2 at *
 have hcell:∀ v,On F w (ak.blk xb (.cells #[vi iQ 27,vi iQ cpu,vi iQ id,vi uQ (m:Nat),vi iQ n] 34 (0,0)) :: ag b p k2) v -> v.cell? ⟨b,9,nN⟩=sS (vp (sS ⟨p.gt,0,nN⟩)) /\ v.cell? ⟨xb,1,nN⟩=sS (vi iQ cpu):=λv h=>by subst hk2;exact ⟨h.cell 1 rfl 9,h.cell 0 rfl 1⟩
 clear hk2 x0
 go_region_held3 (λv=>v.cell? ⟨b,9,nN⟩=sS (vp (sS ⟨p.gt,0,nN⟩)) /\ v.cell? ⟨xb,1,nN⟩=sS (vi iQ cpu)) (assumption) (first
  | (
   go_at_call 159
   refine (hQ _ (by first|exact m0|exact m0.drewN _|exact m0.drew)).s λv3 hE=>?_
   have C:=hcell _ hE
   have HE:=zh hE
   have HR:=zh ((hE.drop 0).kernel HO.out).on
   clear hE)
  | (
   go_at_call 66
   refine (hAn _).mono ?_
   intro e v4 hN
   have mN:af [] v3 v4:=by first|exact hN.mods|exact (mR.drewN _).trans hN.mods sM|exact mR.drew.trans hN.mods sM
   have hD:=hN.does (by first|exact HR.out|exact HR.out.keep (mR.drewN _)|exact HR.out.keep mR.drew)
   have C:=hcell _ (HE.out.keep mN)
   obtain ⟨a,c,rfl,hD⟩:=hD
   clear hN mN))
 go_wp2
 go_ret
 exact ⟨a,c,rfl,hD⟩
theorem pR (h:(aa b k).holds F w) (ki cpu id n:Int) (m:Nat) (h11:ki≠11) (h19:ki≠19) (h25:ki≠25) (h27:ki≠27) (h28:ki≠28) (h29:ki≠29) (h30:ki≠30):Calls tp 76 #[vp (sS ⟨b,0,nN⟩),.agg #[vi iQ ki,vi iQ cpu,vi iQ id,vi uQ (m:Nat),vi iQ n]] w (bo b k (aX 0 2) F w):=by
 obtain ⟨hok,p,hK⟩:=ad h
 have hA:=(hK.alloc (.cells #[vi iQ ki,vi iQ cpu,vi iQ id,vi uQ (m:Nat),vi iQ n] 34 (0,0))).front
 have x0:=ab (ai w (.cells #[vi iQ ki,vi iQ cpu,vi iQ id,vi uQ (m:Nat),vi iQ n] 34 (0,0))) 0
 have HR:=zh ((hA.kdrop1.kernel hok).on)
 have hPl:=λv=>aD 2 v
 have i11:(ki==11)=fF:=by simpa using h11
 have i19:(ki==19)=fF:=by simpa using h19
 have i25:(ki==25)=fF:=by simpa using h25
 have i27:(ki==27)=fF:=by simpa using h27
 have i28:(ki==28)=fF:=by simpa using h28
 have i29:(ki==29)=fF:=by simpa using h29
 have i30:(ki==30)=fF:=by simpa using h30
 clear h hK hok hA h11 h19 h25 h27 h28 h29 h30
 go_in
 go_wp2_with (
  go_at_call 66
  refine (hPl _).mono ?_
  intro e w3 hN
  obtain ⟨a,c,rfl,hE⟩:=hN.does HR.out)
 go_ret
 exact ⟨a,c,rfl,hE⟩
end
section
variable {F:List Nat} {w u:wW} {b:Nat} {p:KP} {k:KT}
theorem vn (h:(aa b k).holds F w) (cpu id n:Int) (m:Nat):Calls tp 72 #[vp (sS ⟨b,0,nN⟩),.agg #[vi iQ 15,vi iQ cpu,vi iQ id,vi uQ (m:Nat),vi iQ n]] w (al (aa b { k with iq:=k.iq.hush id tQ }) F (vi iQ (k.iq.hushE id tQ)) w):=by
 obtain ⟨hok,p,hK⟩:=ad h
 have hA:=(((hK.alloc (.cells #[vp (sS ⟨b,0,nN⟩)] 41 (0,0))).front).alloc (.cells #[vi iQ 15,vi iQ cpu,vi iQ id,vi uQ (m:Nat),vi iQ n] 34 (0,0))).front
 have x0:=ab (ai (w.alloc (.cells #[vp (sS ⟨b,0,nN⟩)] 41 (0,0))) (.cells #[vi iQ 15,vi iQ cpu,vi iQ id,vi uQ (m:Nat),vi iQ n] 34 (0,0))) 0
 have HA:=zh hA
 have HO:=zh (show KT.ok { k with iq:=k.iq.hush id tQ } from hok.wIq (vU k.iq id tQ))
 clear h hK hA
 go_in
 go_wp2
 rw [show (w.alloc (.cells #[vp (sS ⟨b,0,nN⟩)] 41 (0,0))).heap.size=w.heap.size+1 from by simp] at HA
 generalize ((w.alloc (.cells #[vp (sS ⟨b,0,nN⟩)] 41 (0,0))).alloc (.cells #[vi iQ 15,vi iQ cpu,vi iQ id,vi uQ (m:Nat),vi iQ n] 34 (0,0)))=W at *
 generalize w.heap.size=kb at *
 have hx:∀ v,af [] W v -> v.cell? ⟨kb,0,nN⟩=sS (vp (sS ⟨b,0,nN⟩)) /\ v.cell? ⟨b,3,nN⟩=sS (vp (sS ⟨p.iq,0,nN⟩)) /\ v.cell? ⟨kb+1,2,nN⟩=sS (vi iQ id) /\ v.cell? ⟨kb+1,3,nN⟩=sS (vi uQ (m:Nat)):=λv mv=>⟨(HA.out.keep mv).cell 1 rfl 0,(HA.out.keep mv).cell 2 rfl 3,(HA.out.keep mv).cell 0 rfl 2,(HA.out.keep mv).cell 0 rfl 3⟩
 have m0:af [] W W:=af.refl _ _
 have C:=hx W m0
 clear x0
 have hQ:∀ v,af [] W v -> Calls tp 137 #[vp (sS ⟨p.iq,0,nN⟩),vi iQ id] v (λe u'=>e=.returned (vi iQ (k.iq.hushE id tQ)) /\ On F w ([ak.blk (kb+1) (.cells #[vi iQ 15,vi iQ cpu,vi iQ id,vi uQ (m:Nat),vi iQ n] 34 (0,0)),ak.blk kb (.cells #[vp (sS ⟨b,0,nN⟩)] 41 (0,0))]++ag b p { k with iq:=k.iq.hush id tQ }) u'):=λv mv=>(HA.out.keep mv).call (P:=tp) (f:=137) 7 rfl (λF1 h1=>GM h1 id)
 generalize (k.iq.hushE id tQ)=ve at *
 clear hok
 go_region_held3 (λv=>v.cell? ⟨kb,0,nN⟩=sS (vp (sS ⟨b,0,nN⟩)) /\ v.cell? ⟨b,3,nN⟩=sS (vp (sS ⟨p.iq,0,nN⟩)) /\ v.cell? ⟨kb+1,2,nN⟩=sS (vi iQ id) /\ v.cell? ⟨kb+1,3,nN⟩=sS (vi uQ (m:Nat))) (assumption) (first
  | (
   go_at_call 137
   refine (hQ _ (by first|exact m0|exact m0.drewN _|exact m0.drew)).s λv3 hE=>?_
   have C:v3.cell? ⟨kb,0,nN⟩=sS (vp (sS ⟨b,0,nN⟩)) /\ v3.cell? ⟨b,3,nN⟩=sS (vp (sS ⟨p.iq,0,nN⟩)) /\ v3.cell? ⟨kb+1,2,nN⟩=sS (vi iQ id) /\ v3.cell? ⟨kb+1,3,nN⟩=sS (vi uQ (m:Nat)):=⟨hE.cell 1 rfl 0,hE.cell 2 rfl 3,hE.cell 0 rfl 2,hE.cell 0 rfl 3⟩
   have HE:=zh hE
   clear hE))
 go_wp2
 go_ret
 exact HE.out.kdrop2.kturns HO.out
theorem vm (h:(aa b k).holds F w) (cpu id n:Int) (m:Nat):Calls tp 72 #[vp (sS ⟨b,0,nN⟩),.agg #[vi iQ 16,vi iQ cpu,vi iQ id,vi uQ (m:Nat),vi iQ n]] w (al (aa b { k with iq:=k.iq.hush id fF }) F (vi iQ (k.iq.hushE id fF)) w):=by
 obtain ⟨hok,p,hK⟩:=ad h
 have hA:=(((hK.alloc (.cells #[vp (sS ⟨b,0,nN⟩)] 41 (0,0))).front).alloc (.cells #[vi iQ 16,vi iQ cpu,vi iQ id,vi uQ (m:Nat),vi iQ n] 34 (0,0))).front
 have x0:=ab (ai (w.alloc (.cells #[vp (sS ⟨b,0,nN⟩)] 41 (0,0))) (.cells #[vi iQ 16,vi iQ cpu,vi iQ id,vi uQ (m:Nat),vi iQ n] 34 (0,0))) 0
 have HA:=zh hA
 have HO:=zh (show KT.ok { k with iq:=k.iq.hush id fF } from hok.wIq (vU k.iq id fF))
 clear h hK hA
 go_in
 go_wp2
 rw [show (w.alloc (.cells #[vp (sS ⟨b,0,nN⟩)] 41 (0,0))).heap.size=w.heap.size+1 from by simp] at HA
 generalize ((w.alloc (.cells #[vp (sS ⟨b,0,nN⟩)] 41 (0,0))).alloc (.cells #[vi iQ 16,vi iQ cpu,vi iQ id,vi uQ (m:Nat),vi iQ n] 34 (0,0)))=W at *
 generalize w.heap.size=kb at *
 have hx:∀ v,af [] W v -> v.cell? ⟨kb,0,nN⟩=sS (vp (sS ⟨b,0,nN⟩)) /\ v.cell? ⟨b,3,nN⟩=sS (vp (sS ⟨p.iq,0,nN⟩)) /\ v.cell? ⟨kb+1,2,nN⟩=sS (vi iQ id) /\ v.cell? ⟨kb+1,3,nN⟩=sS (vi uQ (m:Nat)):=λv mv=>⟨(HA.out.keep mv).cell 1 rfl 0,(HA.out.keep mv).cell 2 rfl 3,(HA.out.keep mv).cell 0 rfl 2,(HA.out.keep mv).cell 0 rfl 3⟩
 have m0:af [] W W:=af.refl _ _
 have C:=hx W m0
 clear x0
 have hQ:∀ v,af [] W v -> Calls tp 138 #[vp (sS ⟨p.iq,0,nN⟩),vi iQ id] v (λe u'=>e=.returned (vi iQ (k.iq.hushE id fF)) /\ On F w ([ak.blk (kb+1) (.cells #[vi iQ 16,vi iQ cpu,vi iQ id,vi uQ (m:Nat),vi iQ n] 34 (0,0)),ak.blk kb (.cells #[vp (sS ⟨b,0,nN⟩)] 41 (0,0))]++ag b p { k with iq:=k.iq.hush id fF }) u'):=λv mv=>(HA.out.keep mv).call (P:=tp) (f:=138) 7 rfl (λF1 h1=>BP h1 id)
 generalize (k.iq.hushE id fF)=ve at *
 clear hok
 go_region_held3 (λv=>v.cell? ⟨kb,0,nN⟩=sS (vp (sS ⟨b,0,nN⟩)) /\ v.cell? ⟨b,3,nN⟩=sS (vp (sS ⟨p.iq,0,nN⟩)) /\ v.cell? ⟨kb+1,2,nN⟩=sS (vi iQ id) /\ v.cell? ⟨kb+1,3,nN⟩=sS (vi uQ (m:Nat))) (assumption) (first
  | (
   go_at_call 138
   refine (hQ _ (by first|exact m0|exact m0.drewN _|exact m0.drew)).s λv3 hE=>?_
   have C:v3.cell? ⟨kb,0,nN⟩=sS (vp (sS ⟨b,0,nN⟩)) /\ v3.cell? ⟨b,3,nN⟩=sS (vp (sS ⟨p.iq,0,nN⟩)) /\ v3.cell? ⟨kb+1,2,nN⟩=sS (vi iQ id) /\ v3.cell? ⟨kb+1,3,nN⟩=sS (vi uQ (m:Nat)):=⟨hE.cell 1 rfl 0,hE.cell 2 rfl 3,hE.cell 0 rfl 2,hE.cell 0 rfl 3⟩
   have HE:=zh hE
   clear hE))
 go_wp2
 go_ret
 exact HE.out.kdrop2.kturns HO.out
theorem vl (h:(aa b k).holds F w) (cpu id n:Int) (m:Nat):Calls tp 72 #[vp (sS ⟨b,0,nN⟩),.agg #[vi iQ 17,vi iQ cpu,vi iQ id,vi uQ (m:Nat),vi iQ n]] w (al (aa b { k with iq:=k.iq.raise id }) F (vi iQ (k.iq.wantE id)) w):=by
 obtain ⟨hok,p,hK⟩:=ad h
 have hA:=(((hK.alloc (.cells #[vp (sS ⟨b,0,nN⟩)] 41 (0,0))).front).alloc (.cells #[vi iQ 17,vi iQ cpu,vi iQ id,vi uQ (m:Nat),vi iQ n] 34 (0,0))).front
 have x0:=ab (ai (w.alloc (.cells #[vp (sS ⟨b,0,nN⟩)] 41 (0,0))) (.cells #[vi iQ 17,vi iQ cpu,vi iQ id,vi uQ (m:Nat),vi iQ n] 34 (0,0))) 0
 have HA:=zh hA
 have HO:=zh (show KT.ok { k with iq:=k.iq.raise id } from hok.wIq (Bw k.iq id))
 clear h hK hA
 go_in
 go_wp2
 rw [show (w.alloc (.cells #[vp (sS ⟨b,0,nN⟩)] 41 (0,0))).heap.size=w.heap.size+1 from by simp] at HA
 generalize ((w.alloc (.cells #[vp (sS ⟨b,0,nN⟩)] 41 (0,0))).alloc (.cells #[vi iQ 17,vi iQ cpu,vi iQ id,vi uQ (m:Nat),vi iQ n] 34 (0,0)))=W at *
 generalize w.heap.size=kb at *
 have hx:∀ v,af [] W v -> v.cell? ⟨kb,0,nN⟩=sS (vp (sS ⟨b,0,nN⟩)) /\ v.cell? ⟨b,3,nN⟩=sS (vp (sS ⟨p.iq,0,nN⟩)) /\ v.cell? ⟨kb+1,2,nN⟩=sS (vi iQ id) /\ v.cell? ⟨kb+1,3,nN⟩=sS (vi uQ (m:Nat)):=λv mv=>⟨(HA.out.keep mv).cell 1 rfl 0,(HA.out.keep mv).cell 2 rfl 3,(HA.out.keep mv).cell 0 rfl 2,(HA.out.keep mv).cell 0 rfl 3⟩
 have m0:af [] W W:=af.refl _ _
 have C:=hx W m0
 clear x0
 have hQ:∀ v,af [] W v -> Calls tp 139 #[vp (sS ⟨p.iq,0,nN⟩),vi iQ id] v (λe u'=>e=.returned (vi iQ (k.iq.wantE id)) /\ On F w ([ak.blk (kb+1) (.cells #[vi iQ 17,vi iQ cpu,vi iQ id,vi uQ (m:Nat),vi iQ n] 34 (0,0)),ak.blk kb (.cells #[vp (sS ⟨b,0,nN⟩)] 41 (0,0))]++ag b p { k with iq:=k.iq.raise id }) u'):=λv mv=>(HA.out.keep mv).call (P:=tp) (f:=139) 7 rfl (λF1 h1=>EA h1 id)
 generalize (k.iq.wantE id)=ve at *
 clear hok
 go_region_held3 (λv=>v.cell? ⟨kb,0,nN⟩=sS (vp (sS ⟨b,0,nN⟩)) /\ v.cell? ⟨b,3,nN⟩=sS (vp (sS ⟨p.iq,0,nN⟩)) /\ v.cell? ⟨kb+1,2,nN⟩=sS (vi iQ id) /\ v.cell? ⟨kb+1,3,nN⟩=sS (vi uQ (m:Nat))) (assumption) (first
  | (
   go_at_call 139
   refine (hQ _ (by first|exact m0|exact m0.drewN _|exact m0.drew)).s λv3 hE=>?_
   have C:v3.cell? ⟨kb,0,nN⟩=sS (vp (sS ⟨b,0,nN⟩)) /\ v3.cell? ⟨b,3,nN⟩=sS (vp (sS ⟨p.iq,0,nN⟩)) /\ v3.cell? ⟨kb+1,2,nN⟩=sS (vi iQ id) /\ v3.cell? ⟨kb+1,3,nN⟩=sS (vi uQ (m:Nat)):=⟨hE.cell 1 rfl 0,hE.cell 2 rfl 3,hE.cell 0 rfl 2,hE.cell 0 rfl 3⟩
   have HE:=zh hE
   clear hE))
 go_wp2
 go_ret
 exact HE.out.kdrop2.kturns HO.out
end
section
variable {F:List Nat} {w u:wW} {b:Nat} {p:KP} {k:KT}
theorem Kn {kb xb:Nat} {ki cpu id n:Int} {m:Nat} (hB:On F w ([ak.blk xb (.cells #[vi iQ ki,vi iQ cpu,vi iQ id,vi uQ (m:Nat),vi iQ n] 34 (0,0)),ak.blk kb (.cells #[vp (sS ⟨b,0,nN⟩)] 41 (0,0))]++ag b p k) u) (hok:k.ok) (hT:bA w) (hF:tzL_ren.g 1∉F):Calls tp 135 #[vp (sS ⟨kb,0,nN⟩),vp (sS ⟨xb,0,nN⟩)] u (λe u'=>e=.returned (.tuple #[]) /\ (k.aim id).ok /\ ∃ p',On F w ([ak.blk xb (.cells #[vi iQ ki,vi iQ cpu,vi iQ id,vi uQ (m:Nat),vi iQ n] 34 (0,0)),ak.blk kb (.cells #[vp (sS ⟨b,0,nN⟩)] 41 (0,0))]++ag b p' (k.aim id)) u'):=by
 have x2:u.cell? ⟨xb,2,nN⟩=sS (vi iQ id):=hB.cell 0 rfl 2
 have kc:u.cell? ⟨kb,0,nN⟩=sS (vp (sS ⟨b,0,nN⟩)):=hB.cell 1 rfl 0
 have hA:=On.kcall hB hok hT hF (λF1 h1 hT1 hF1=>tW h1 hT1 hF1 id)
 generalize k.aim id=k2 at *
 clear hB hok hT hF
 go_in
 go_wp2_with (
  go_at_call 136
  refine hA.mono ?_
  rintro e w2 ⟨rfl,ok2,p2,hE⟩
  have HE:=zh (And.intro ok2 hE)
  clear ok2 hE hA)
 refine bodyPost_end (v:=.tuple #[]) (results_none rfl _ _ _) rfl ?_
 exact ⟨rfl,HE.out.1,p2,HE.out.2⟩
theorem kD (e0:Int) (h0:e0≠0) (fv:Value) (w:wW):Calls tp 127 #[vi iQ e0,fv] w (au (vi iQ e0) w):=by
 have hI:(e0==0)=fF:=by simpa using h0
 clear h0
 go_in
 go_wp2
 go_ret
 exact au.of (rfl) dz
theorem BO {a c:Value} {R:wW -> Prop} (hc:Calls tp 135 #[a,c] w (λe u'=>e=.returned (.tuple #[]) /\ R u')):Calls tp 127 #[vi iQ 0,.func (.func 135) #[] #[a,c]] w (λe u'=>e=.returned (vi iQ 0) /\ R u'):=by
 go_in
 go_wp2_with (
  go_at_call 135
  refine hc.s λw2 hR=>?_
  have HR:=zh hR
  clear hR hc)
 go_ret
 exact ⟨rfl,HR.out⟩
theorem Ko {kb xb:Nat} {ki cpu id n:Int} {m:Nat} (hB:On F w ([ak.blk xb (.cells #[vi iQ ki,vi iQ cpu,vi iQ id,vi uQ (m:Nat),vi iQ n] 34 (0,0)),ak.blk kb (.cells #[vp (sS ⟨b,0,nN⟩)] 41 (0,0))]++ag b p k) u):Calls tp 132 #[vp (sS ⟨kb,0,nN⟩),vp (sS ⟨xb,0,nN⟩)] u (λe u'=>e=.returned (.tuple #[]) /\ On F w ([ak.blk xb (.cells #[vi iQ ki,vi iQ cpu,vi iQ id,vi uQ (m:Nat),vi iQ n] 34 (0,0)),ak.blk kb (.cells #[vp (sS ⟨b,0,nN⟩)] 41 (0,0))]++ag b p { k with rt:=k.rt.off id }) u'):=by
 have HB:=zh hB
 have hx:∀ v,af [] u v -> v.cell? ⟨kb,0,nN⟩=sS (vp (sS ⟨b,0,nN⟩)) /\ v.cell? ⟨b,4,nN⟩=sS (vp (sS ⟨p.rt,0,nN⟩)) /\ v.cell? ⟨xb,2,nN⟩=sS (vi iQ id):=λv mv=>⟨(HB.out.keep mv).cell 1 rfl 0,(HB.out.keep mv).cell 2 rfl 4,(HB.out.keep mv).cell 0 rfl 2⟩
 have m0:af [] u u:=af.refl _ _
 have C:=hx u m0
 have hQ:=λ(v:wW) (mv:af [] u v)=>(HB.out.keep mv).call (P:=tp) (f:=133) 8 rfl (λF1 h1=>DC h1 id)
 clear hB
 go_in
 go_region_held3 (λv=>v.cell? ⟨kb,0,nN⟩=sS (vp (sS ⟨b,0,nN⟩)) /\ v.cell? ⟨b,4,nN⟩=sS (vp (sS ⟨p.rt,0,nN⟩)) /\ v.cell? ⟨xb,2,nN⟩=sS (vi iQ id)) (assumption) (first
  | (
   go_at_call 133
   refine (hQ _ (by first|exact m0|exact m0.drewN _|exact m0.drew)).s λv3 hE=>?_
   have hE:On F w ([ak.blk xb (.cells #[vi iQ ki,vi iQ cpu,vi iQ id,vi uQ (m:Nat),vi iQ n] 34 (0,0)),ak.blk kb (.cells #[vp (sS ⟨b,0,nN⟩)] 41 (0,0))]++ag b p { k with rt:=k.rt.off id }) v3:=hE
   have C:v3.cell? ⟨kb,0,nN⟩=sS (vp (sS ⟨b,0,nN⟩)) /\ v3.cell? ⟨b,4,nN⟩=sS (vp (sS ⟨p.rt,0,nN⟩)) /\ v3.cell? ⟨xb,2,nN⟩=sS (vi iQ id):=⟨hE.cell 1 rfl 0,hE.cell 2 rfl 4,hE.cell 0 rfl 2⟩
   have HE:=zh hE
   clear hE))
 go_wp2
 refine bodyPost_end (v:=.tuple #[]) (results_none rfl _ _ _) rfl ?_
 exact ⟨rfl,HE.out⟩
end
section
variable {F:List Nat} {w u:wW} {b:Nat} {p:KP} {k:KT}
theorem Gu (k:KT) (id:Int) (m:Nat) (h:k.iq.aimE id m≠0):({ k with iq:=k.iq.aim id m }:KT)=k:=by
 unfold IT.aim;rw [nG h]
theorem Gr (k:KT) (id:Int) (m:Nat) (h:k.iq.reqE id m≠0):({ k with iq:=k.iq.req id m }:KT)=k:=by
 unfold IT.req;rw [nG h]
theorem Eg (k:KT) (id:Int) (h:k.iq.wantE id≠0):({ k with iq:=k.iq.free id }:KT)=k:=by
 unfold IT.free;rw [nG h]
theorem Kd {t:IT} {id:Int} {m:Nat} (h:t.reqE id m=0):0 <= id:=by
 unfold IT.reqE at h
 by_cases hi:dd id
 ·exact hi.1
 ·rw [pG hi] at h;cases h
theorem GK {a c:Value} {R:wW -> Prop} (hc:Calls tp 129 #[a,c] w (λe u'=>e=.returned (.tuple #[]) /\ R u')):Calls tp 127 #[vi iQ 0,.func (.func 129) #[] #[a,c]] w (λe u'=>e=.returned (vi iQ 0) /\ R u'):=by
 go_in
 go_wp2_with (
  go_at_call 129
  refine hc.s λw2 hR=>?_
  have HR:=zh hR
  clear hR hc)
 go_ret
 exact ⟨rfl,HR.out⟩
theorem GJ {a c:Value} {R:wW -> Prop} (hc:Calls tp 132 #[a,c] w (λe u'=>e=.returned (.tuple #[]) /\ R u')):Calls tp 127 #[vi iQ 0,.func (.func 132) #[] #[a,c]] w (λe u'=>e=.returned (vi iQ 0) /\ R u'):=by
 go_in
 go_wp2_with (
  go_at_call 132
  refine hc.s λw2 hR=>?_
  have HR:=zh hR
  clear hR hc)
 go_ret
 exact ⟨rfl,HR.out⟩
theorem Kp {kb xb:Nat} {ki cpu id n:Int} {m:Nat} (hB:On F w ([ak.blk xb (.cells #[vi iQ ki,vi iQ cpu,vi iQ id,vi uQ (m:Nat),vi iQ n] 34 (0,0)),ak.blk kb (.cells #[vp (sS ⟨b,0,nN⟩)] 41 (0,0))]++ag b p k) u) (hok:k.ok) (hT:bA w) (hF:tzL_ren.g 1∉F) (hi:0 <= id):Calls tp 129 #[vp (sS ⟨kb,0,nN⟩),vp (sS ⟨xb,0,nN⟩)] u (λe u'=>e=.returned (.tuple #[]) /\ (k.lead id (id % k.n)).ok /\ ∃ p',On F w ([ak.blk xb (.cells #[vi iQ ki,vi iQ cpu,vi iQ id,vi uQ (m:Nat),vi iQ n] 34 (0,0)),ak.blk kb (.cells #[vp (sS ⟨b,0,nN⟩)] 41 (0,0))]++ag b p' (k.lead id (id % k.n))) u'):=by
 have HB:=zh hB
 have HOT:=zh (And.intro hok (And.intro hT hF))
 have hn1:=hok.n1
 have hn2:=hok.n2
 have hx:∀ v,af [] u v -> v.cell? ⟨kb,0,nN⟩=sS (vp (sS ⟨b,0,nN⟩)) /\ v.cell? ⟨b,15,nN⟩=sS (vi iQ k.n) /\ v.cell? ⟨xb,2,nN⟩=sS (vi iQ id):=λv mv=>⟨(HB.out.keep mv).cell 1 rfl 0,(HB.out.keep mv).cell 2 rfl 15,(HB.out.keep mv).cell 0 rfl 2⟩
 have m0:af [] u u:=af.refl _ _
 have C:=hx u m0
 have hnn:(k.lead id (id % k.n)).n=k.n:=rfl
 have hQ:∀ (v:wW) (mv:af [] u v),Calls tp 130 #[vp (sS ⟨b,0,nN⟩),vi iQ id,vi iQ (Int.tmod id k.n)] v (λe u'=>e=.returned (.tuple #[]) /\ (k.lead id (id % k.n)).ok /\ ∃ p',On F w ([ak.blk xb (.cells #[vi iQ ki,vi iQ cpu,vi iQ id,vi uQ (m:Nat),vi iQ n] 34 (0,0)),ak.blk kb (.cells #[vp (sS ⟨b,0,nN⟩)] 41 (0,0))]++ag b p' (k.lead id (id % k.n))) u'):=λv mv=>by
  rw [Int.tmod_eq_emod_of_nonneg hi]
  exact (HB.out.keep mv).kcall HOT.out.1 HOT.out.2.1 HOT.out.2.2 (λF1 h1 hT1 hF1=>lx h1 hT1 hF1 id (id % k.n))
 have hP:(0:Int)<k.n /\ (k.n:Int)≠0 /\ ((k.n:Int)==0)=fF:=⟨by omega,by omega,by simp;omega⟩
 generalize k.lead id (id % k.n)=k2 at *
 generalize hkn:(k.n:Int)=nn at *
 have HKN:=zh (And.intro hkn hnn)
 have HP:=hP
 clear hB hok hT hF hkn hnn hn1 hn2 hi
 go_in
 go_region_held3 (λv=>v.cell? ⟨kb,0,nN⟩=sS (vp (sS ⟨b,0,nN⟩)) /\ v.cell? ⟨b,15,nN⟩=sS (vi iQ nn) /\ v.cell? ⟨xb,2,nN⟩=sS (vi iQ id)) (assumption) (first
  | (
   go_at_call 130
   refine (hQ _ (by first|exact m0|exact m0.drewN _|exact m0.drew)).mono ?_
   rintro e v3 ⟨rfl,ok3,p3,hE⟩
   have C:v3.cell? ⟨kb,0,nN⟩=sS (vp (sS ⟨b,0,nN⟩)) /\ v3.cell? ⟨b,15,nN⟩=sS (vi iQ nn) /\ v3.cell? ⟨xb,2,nN⟩=sS (vi iQ id):=by
    refine ⟨hE.cell 1 rfl 0,?_,hE.cell 0 rfl 2⟩
    have q:v3.cell? ⟨b,15,nN⟩=sS (vi iQ k2.n):=hE.cell 2 rfl 15
    rw [q,<- HKN.out.1,HKN.out.2]
   have HE:=zh (And.intro ok3 hE)
   clear hE ok3))
 go_wp2
 refine bodyPost_end (v:=.tuple #[]) (results_none rfl _ _ _) rfl ?_
 exact ⟨rfl,HE.out.1,p3,HE.out.2⟩
theorem oG (h:(aa b k).holds F w) (hT:bA w) (hF:tzL_ren.g 1∉F) (cpu id n:Int) (m:Nat) (hm:m<2 ^ 64) (hE0:k.iq.aimE id m=0):Calls tp 72 #[vp (sS ⟨b,0,nN⟩),.agg #[vi iQ 14,vi iQ cpu,vi iQ id,vi uQ (m:Nat),vi iQ n]] w (al (aa b (({ k with iq:=k.iq.aim id m }:KT).aim id)) F (vi iQ 0) w):=by
 obtain ⟨hok,p,hK⟩:=ad h
 have hA:=(((hK.alloc (.cells #[vp (sS ⟨b,0,nN⟩)] 41 (0,0))).front).alloc (.cells #[vi iQ 14,vi iQ cpu,vi iQ id,vi uQ (m:Nat),vi iQ n] 34 (0,0))).front
 have x0:=ab (ai (w.alloc (.cells #[vp (sS ⟨b,0,nN⟩)] 41 (0,0))) (.cells #[vi iQ 14,vi iQ cpu,vi iQ id,vi uQ (m:Nat),vi iQ n] 34 (0,0))) 0
 have HA:=zh hA
 have HO:=zh (show KT.ok { k with iq:=k.iq.aim id m } from hok.wIq (Gt k.iq id m))
 have HT:=zh (And.intro hT hF)
 clear hT hF
 clear h hK hA
 go_in
 go_wp2
 rw [show (w.alloc (.cells #[vp (sS ⟨b,0,nN⟩)] 41 (0,0))).heap.size=w.heap.size+1 from by simp] at HA
 generalize ((w.alloc (.cells #[vp (sS ⟨b,0,nN⟩)] 41 (0,0))).alloc (.cells #[vi iQ 14,vi iQ cpu,vi iQ id,vi uQ (m:Nat),vi iQ n] 34 (0,0)))=W at *
 generalize w.heap.size=kb at *
 have hx:∀ v,af [] W v -> v.cell? ⟨kb,0,nN⟩=sS (vp (sS ⟨b,0,nN⟩)) /\ v.cell? ⟨b,3,nN⟩=sS (vp (sS ⟨p.iq,0,nN⟩)) /\ v.cell? ⟨kb+1,2,nN⟩=sS (vi iQ id) /\ v.cell? ⟨kb+1,3,nN⟩=sS (vi uQ (m:Nat)):=λv mv=>⟨(HA.out.keep mv).cell 1 rfl 0,(HA.out.keep mv).cell 2 rfl 3,(HA.out.keep mv).cell 0 rfl 2,(HA.out.keep mv).cell 0 rfl 3⟩
 have m0:af [] W W:=af.refl _ _
 have C:=hx W m0
 clear x0
 obtain ⟨C1,C2,C3,C4⟩:=C
 have hQ:∀ v,af [] W v -> Calls tp 134 #[vp (sS ⟨p.iq,0,nN⟩),vi iQ id,vi uQ (m:Nat)] v (λe u'=>e=.returned (vi iQ 0) /\ On F w ([ak.blk (kb+1) (.cells #[vi iQ 14,vi iQ cpu,vi iQ id,vi uQ (m:Nat),vi iQ n] 34 (0,0)),ak.blk kb (.cells #[vp (sS ⟨b,0,nN⟩)] 41 (0,0))]++ag b p { k with iq:=k.iq.aim id m }) u'):=λv mv=>by
  have:=(HA.out.keep mv).call (P:=tp) (f:=134) 7 rfl (λF1 h1=>CG h1 id m hm)
  rw [hE0] at this
  exact this
 have hC4:∀ v,On F w ([ak.blk (kb+1) (.cells #[vi iQ 14,vi iQ cpu,vi iQ id,vi uQ (m:Nat),vi iQ n] 34 (0,0)),ak.blk kb (.cells #[vp (sS ⟨b,0,nN⟩)] 41 (0,0))]++ag b p { k with iq:=k.iq.aim id m }) v -> Calls tp 127 #[vi iQ 0,.func (.func 135) #[] #[vp (sS ⟨kb,0,nN⟩),vp (sS ⟨kb+1,0,nN⟩)]] v (λe u'=>e=.returned (vi iQ 0) /\ (({ k with iq:=k.iq.aim id m }:KT).aim id).ok /\ ∃ p',On F w ([ak.blk (kb+1) (.cells #[vi iQ 14,vi iQ cpu,vi iQ id,vi uQ (m:Nat),vi iQ n] 34 (0,0)),ak.blk kb (.cells #[vp (sS ⟨b,0,nN⟩)] 41 (0,0))]++ag b p' (({ k with iq:=k.iq.aim id m }:KT).aim id)) u'):=λv hB=>BO (Kn hB HO.out HT.out.1 HT.out.2)
 generalize (({ k with iq:=k.iq.aim id m }:KT).aim id:KT)=k2 at *
 generalize ({ k with iq:=k.iq.aim id m }:KT)=k1 at *
 clear hok hE0
 refine bX [] (λv=>v.cell? ⟨kb,0,nN⟩=sS (vp (sS ⟨b,0,nN⟩)) /\ v.cell? ⟨kb+1,2,nN⟩=sS (vi iQ id) /\ v.cell? ⟨kb+1,3,nN⟩=sS (vi uQ (m:Nat))) kz ⟨C1,C3,C4⟩ (λhHeld=>?_)
 refine lp 0 (h:=?_)
 refine lp 11 (h:=?_)
 refine lp 6 (h:=?_)
 refine lp 8 (h:=?_)
 refine kU 1 (h:=?_)
 refine lp 2 (h:=?_)
 refine lp 3 (h:=?_)
 refine lp 4 (h:=?_)
 refine kU 7 (h:=?_)
 refine kU 9 (h:=?_)
 refine lo 5 (h:=λK hK=>?_)
 go_simp
 refine lk hK (hHeld) (h:=?_)
 clear hK K
 refine lo 10 (h:=λK hK=>?_)
 go_simp
 go_at_call 134
 refine (hQ _ m0.drew).s λv3 hE=>?_
 have C9:v3.cell? ⟨kb,0,nN⟩=sS (vp (sS ⟨b,0,nN⟩)) /\ v3.cell? ⟨kb+1,2,nN⟩=sS (vi iQ id) /\ v3.cell? ⟨kb+1,3,nN⟩=sS (vi uQ (m:Nat)):=⟨hE.cell 1 rfl 0,hE.cell 0 rfl 2,hE.cell 0 rfl 3⟩
 have hAf:=hC4 _ hE
 clear hE hQ
 refine lk hK (C9) (h:=?_)
 clear hK K
 refine lo 12 (h:=λK hK=>?_)
 go_simp
 go_at_call 127
 refine hAf.mono ?_
 rintro e v4 ⟨rfl,ok4,p4,hE4⟩
 have HE:=zh (And.intro ok4 hE4)
 have D9:v4.cell? ⟨kb,0,nN⟩=sS (vp (sS ⟨b,0,nN⟩)) /\ v4.cell? ⟨kb+1,2,nN⟩=sS (vi iQ id) /\ v4.cell? ⟨kb+1,3,nN⟩=sS (vi uQ (m:Nat)):=⟨hE4.cell 1 rfl 0,hE4.cell 0 rfl 2,hE4.cell 0 rfl 3⟩
 clear ok4 hE4 hAf
 refine lk hK (D9) (h:=?_)
 clear hK K
 refine lo 13 (h:=λK hK=>?_)
 go_simp
 refine lk hK (D9) (h:=?_)
 clear hK K
 refine aZ kz ?_ _
 go_wp2
 go_ret
 exact HE.out.2.kdrop2.kturns HE.out.1
theorem oI (h:(aa b k).holds F w) (hT:bA w) (hF:tzL_ren.g 1∉F) (cpu id n:Int) (m:Nat) (hm:m<2 ^ 64) (hE0:k.iq.reqE id m=0):Calls tp 72 #[vp (sS ⟨b,0,nN⟩),.agg #[vi iQ 12,vi iQ cpu,vi iQ id,vi uQ (m:Nat),vi iQ n]] w (al (aa b (({ k with iq:=k.iq.req id m }:KT).lead id (id % k.n))) F (vi iQ 0) w):=by
 obtain ⟨hok,p,hK⟩:=ad h
 have hA:=(((hK.alloc (.cells #[vp (sS ⟨b,0,nN⟩)] 41 (0,0))).front).alloc (.cells #[vi iQ 12,vi iQ cpu,vi iQ id,vi uQ (m:Nat),vi iQ n] 34 (0,0))).front
 have x0:=ab (ai (w.alloc (.cells #[vp (sS ⟨b,0,nN⟩)] 41 (0,0))) (.cells #[vi iQ 12,vi iQ cpu,vi iQ id,vi uQ (m:Nat),vi iQ n] 34 (0,0))) 0
 have HA:=zh hA
 have HO:=zh (show KT.ok { k with iq:=k.iq.req id m } from hok.wIq (Gs k.iq id m))
 have HT:=zh (And.intro hT hF)
 clear hT hF
 clear h hK hA
 go_in
 go_wp2
 rw [show (w.alloc (.cells #[vp (sS ⟨b,0,nN⟩)] 41 (0,0))).heap.size=w.heap.size+1 from by simp] at HA
 generalize ((w.alloc (.cells #[vp (sS ⟨b,0,nN⟩)] 41 (0,0))).alloc (.cells #[vi iQ 12,vi iQ cpu,vi iQ id,vi uQ (m:Nat),vi iQ n] 34 (0,0)))=W at *
 generalize w.heap.size=kb at *
 have hx:∀ v,af [] W v -> v.cell? ⟨kb,0,nN⟩=sS (vp (sS ⟨b,0,nN⟩)) /\ v.cell? ⟨b,3,nN⟩=sS (vp (sS ⟨p.iq,0,nN⟩)) /\ v.cell? ⟨kb+1,2,nN⟩=sS (vi iQ id) /\ v.cell? ⟨kb+1,3,nN⟩=sS (vi uQ (m:Nat)):=λv mv=>⟨(HA.out.keep mv).cell 1 rfl 0,(HA.out.keep mv).cell 2 rfl 3,(HA.out.keep mv).cell 0 rfl 2,(HA.out.keep mv).cell 0 rfl 3⟩
 have m0:af [] W W:=af.refl _ _
 have C:=hx W m0
 clear x0
 obtain ⟨C1,C2,C3,C4⟩:=C
 have hQ:∀ v,af [] W v -> Calls tp 128 #[vp (sS ⟨p.iq,0,nN⟩),vi iQ id,vi uQ (m:Nat)] v (λe u'=>e=.returned (vi iQ 0) /\ On F w ([ak.blk (kb+1) (.cells #[vi iQ 12,vi iQ cpu,vi iQ id,vi uQ (m:Nat),vi iQ n] 34 (0,0)),ak.blk kb (.cells #[vp (sS ⟨b,0,nN⟩)] 41 (0,0))]++ag b p { k with iq:=k.iq.req id m }) u'):=λv mv=>by
  have:=(HA.out.keep mv).call (P:=tp) (f:=128) 7 rfl (λF1 h1=>qQ h1 id m hm)
  rw [hE0] at this
  exact this
 have hC4:∀ v,On F w ([ak.blk (kb+1) (.cells #[vi iQ 12,vi iQ cpu,vi iQ id,vi uQ (m:Nat),vi iQ n] 34 (0,0)),ak.blk kb (.cells #[vp (sS ⟨b,0,nN⟩)] 41 (0,0))]++ag b p { k with iq:=k.iq.req id m }) v -> Calls tp 127 #[vi iQ 0,.func (.func 129) #[] #[vp (sS ⟨kb,0,nN⟩),vp (sS ⟨kb+1,0,nN⟩)]] v (λe u'=>e=.returned (vi iQ 0) /\ (({ k with iq:=k.iq.req id m }:KT).lead id (id % k.n)).ok /\ ∃ p',On F w ([ak.blk (kb+1) (.cells #[vi iQ 12,vi iQ cpu,vi iQ id,vi uQ (m:Nat),vi iQ n] 34 (0,0)),ak.blk kb (.cells #[vp (sS ⟨b,0,nN⟩)] 41 (0,0))]++ag b p' (({ k with iq:=k.iq.req id m }:KT).lead id (id % k.n))) u'):=λv hB=>GK (Kp hB HO.out HT.out.1 HT.out.2 (Kd hE0))
 generalize (({ k with iq:=k.iq.req id m }:KT).lead id (id % k.n):KT)=k2 at *
 generalize ({ k with iq:=k.iq.req id m }:KT)=k1 at *
 clear hok hE0
 refine bX [] (λv=>v.cell? ⟨kb,0,nN⟩=sS (vp (sS ⟨b,0,nN⟩)) /\ v.cell? ⟨kb+1,2,nN⟩=sS (vi iQ id) /\ v.cell? ⟨kb+1,3,nN⟩=sS (vi uQ (m:Nat))) kz ⟨C1,C3,C4⟩ (λhHeld=>?_)
 refine lp 0 (h:=?_)
 refine lp 11 (h:=?_)
 refine lp 6 (h:=?_)
 refine lp 8 (h:=?_)
 refine kU 1 (h:=?_)
 refine lp 2 (h:=?_)
 refine lp 3 (h:=?_)
 refine lp 4 (h:=?_)
 refine kU 7 (h:=?_)
 refine kU 9 (h:=?_)
 refine lo 5 (h:=λK hK=>?_)
 go_simp
 refine lk hK (hHeld) (h:=?_)
 clear hK K
 refine lo 10 (h:=λK hK=>?_)
 go_simp
 go_at_call 128
 refine (hQ _ m0.drew).s λv3 hE=>?_
 have C9:v3.cell? ⟨kb,0,nN⟩=sS (vp (sS ⟨b,0,nN⟩)) /\ v3.cell? ⟨kb+1,2,nN⟩=sS (vi iQ id) /\ v3.cell? ⟨kb+1,3,nN⟩=sS (vi uQ (m:Nat)):=⟨hE.cell 1 rfl 0,hE.cell 0 rfl 2,hE.cell 0 rfl 3⟩
 have hAf:=hC4 _ hE
 clear hE hQ
 refine lk hK (C9) (h:=?_)
 clear hK K
 refine lo 12 (h:=λK hK=>?_)
 go_simp
 go_at_call 127
 refine hAf.mono ?_
 rintro e v4 ⟨rfl,ok4,p4,hE4⟩
 have HE:=zh (And.intro ok4 hE4)
 have D9:v4.cell? ⟨kb,0,nN⟩=sS (vp (sS ⟨b,0,nN⟩)) /\ v4.cell? ⟨kb+1,2,nN⟩=sS (vi iQ id) /\ v4.cell? ⟨kb+1,3,nN⟩=sS (vi uQ (m:Nat)):=⟨hE4.cell 1 rfl 0,hE4.cell 0 rfl 2,hE4.cell 0 rfl 3⟩
 clear ok4 hE4 hAf
 refine lk hK (D9) (h:=?_)
 clear hK K
 refine lo 13 (h:=λK hK=>?_)
 go_simp
 refine lk hK (D9) (h:=?_)
 clear hK K
 refine aZ kz ?_ _
 go_wp2
 go_ret
 exact HE.out.2.kdrop2.kturns HE.out.1
theorem oH (h:(aa b k).holds F w) (hT:bA w) (hF:tzL_ren.g 1∉F) (cpu id n:Int) (m:Nat)  (hE0:k.iq.wantE id=0):Calls tp 72 #[vp (sS ⟨b,0,nN⟩),.agg #[vi iQ 13,vi iQ cpu,vi iQ id,vi uQ (m:Nat),vi iQ n]] w (al (aa b ({ k with iq:=k.iq.free id,rt:=k.rt.off id })) F (vi iQ 0) w):=by
 obtain ⟨hok,p,hK⟩:=ad h
 have hA:=(((hK.alloc (.cells #[vp (sS ⟨b,0,nN⟩)] 41 (0,0))).front).alloc (.cells #[vi iQ 13,vi iQ cpu,vi iQ id,vi uQ (m:Nat),vi iQ n] 34 (0,0))).front
 have x0:=ab (ai (w.alloc (.cells #[vp (sS ⟨b,0,nN⟩)] 41 (0,0))) (.cells #[vi iQ 13,vi iQ cpu,vi iQ id,vi uQ (m:Nat),vi iQ n] 34 (0,0))) 0
 have HA:=zh hA
 have HO:=zh (show KT.ok { k with iq:=k.iq.free id } from hok.wIq (Ef k.iq id))
 have HT:=zh (And.intro hT hF)
 clear hT hF
 clear h hK hA
 go_in
 go_wp2
 rw [show (w.alloc (.cells #[vp (sS ⟨b,0,nN⟩)] 41 (0,0))).heap.size=w.heap.size+1 from by simp] at HA
 generalize ((w.alloc (.cells #[vp (sS ⟨b,0,nN⟩)] 41 (0,0))).alloc (.cells #[vi iQ 13,vi iQ cpu,vi iQ id,vi uQ (m:Nat),vi iQ n] 34 (0,0)))=W at *
 generalize w.heap.size=kb at *
 have hx:∀ v,af [] W v -> v.cell? ⟨kb,0,nN⟩=sS (vp (sS ⟨b,0,nN⟩)) /\ v.cell? ⟨b,3,nN⟩=sS (vp (sS ⟨p.iq,0,nN⟩)) /\ v.cell? ⟨kb+1,2,nN⟩=sS (vi iQ id) /\ v.cell? ⟨kb+1,3,nN⟩=sS (vi uQ (m:Nat)):=λv mv=>⟨(HA.out.keep mv).cell 1 rfl 0,(HA.out.keep mv).cell 2 rfl 3,(HA.out.keep mv).cell 0 rfl 2,(HA.out.keep mv).cell 0 rfl 3⟩
 have m0:af [] W W:=af.refl _ _
 have C:=hx W m0
 clear x0
 obtain ⟨C1,C2,C3,C4⟩:=C
 have hQ:∀ v,af [] W v -> Calls tp 131 #[vp (sS ⟨p.iq,0,nN⟩),vi iQ id] v (λe u'=>e=.returned (vi iQ 0) /\ On F w ([ak.blk (kb+1) (.cells #[vi iQ 13,vi iQ cpu,vi iQ id,vi uQ (m:Nat),vi iQ n] 34 (0,0)),ak.blk kb (.cells #[vp (sS ⟨b,0,nN⟩)] 41 (0,0))]++ag b p { k with iq:=k.iq.free id }) u'):=λv mv=>by
  have:=(HA.out.keep mv).call (P:=tp) (f:=131) 7 rfl (λF1 h1=>zU h1 id)
  rw [hE0] at this
  exact this
 have hC4:∀ v,On F w ([ak.blk (kb+1) (.cells #[vi iQ 13,vi iQ cpu,vi iQ id,vi uQ (m:Nat),vi iQ n] 34 (0,0)),ak.blk kb (.cells #[vp (sS ⟨b,0,nN⟩)] 41 (0,0))]++ag b p { k with iq:=k.iq.free id }) v -> Calls tp 127 #[vi iQ 0,.func (.func 132) #[] #[vp (sS ⟨kb,0,nN⟩),vp (sS ⟨kb+1,0,nN⟩)]] v (λe u'=>e=.returned (vi iQ 0) /\ ({ k with iq:=k.iq.free id,rt:=k.rt.off id }).ok /\ ∃ p',On F w ([ak.blk (kb+1) (.cells #[vi iQ 13,vi iQ cpu,vi iQ id,vi uQ (m:Nat),vi iQ n] 34 (0,0)),ak.blk kb (.cells #[vp (sS ⟨b,0,nN⟩)] 41 (0,0))]++ag b p' ({ k with iq:=k.iq.free id,rt:=k.rt.off id })) u'):=λv hB=>GJ ((Ko hB).mono (λe u' q=>⟨q.1,HO.out.wRt (Gp _ _),p,q.2⟩))
 generalize ({ k with iq:=k.iq.free id,rt:=k.rt.off id }:KT)=k2 at *
 generalize ({ k with iq:=k.iq.free id }:KT)=k1 at *
 clear hok hE0
 refine bX [] (λv=>v.cell? ⟨kb,0,nN⟩=sS (vp (sS ⟨b,0,nN⟩)) /\ v.cell? ⟨kb+1,2,nN⟩=sS (vi iQ id) /\ v.cell? ⟨kb+1,3,nN⟩=sS (vi uQ (m:Nat))) kz ⟨C1,C3,C4⟩ (λhHeld=>?_)
 refine lp 0 (h:=?_)
 refine lp 9 (h:=?_)
 refine lp 6 (h:=?_)
 refine kU 1 (h:=?_)
 refine lp 2 (h:=?_)
 refine lp 3 (h:=?_)
 refine lp 4 (h:=?_)
 refine kU 7 (h:=?_)
 refine lo 5 (h:=λK hK=>?_)
 go_simp
 refine lk hK (hHeld) (h:=?_)
 clear hK K
 refine lo 8 (h:=λK hK=>?_)
 go_simp
 go_at_call 131
 refine (hQ _ m0.drew).s λv3 hE=>?_
 have C9:v3.cell? ⟨kb,0,nN⟩=sS (vp (sS ⟨b,0,nN⟩)) /\ v3.cell? ⟨kb+1,2,nN⟩=sS (vi iQ id) /\ v3.cell? ⟨kb+1,3,nN⟩=sS (vi uQ (m:Nat)):=⟨hE.cell 1 rfl 0,hE.cell 0 rfl 2,hE.cell 0 rfl 3⟩
 have hAf:=hC4 _ hE
 clear hE hQ
 refine lk hK (C9) (h:=?_)
 clear hK K
 refine lo 10 (h:=λK hK=>?_)
 go_simp
 go_at_call 127
 refine hAf.mono ?_
 rintro e v4 ⟨rfl,ok4,p4,hE4⟩
 have HE:=zh (And.intro ok4 hE4)
 have D9:v4.cell? ⟨kb,0,nN⟩=sS (vp (sS ⟨b,0,nN⟩)) /\ v4.cell? ⟨kb+1,2,nN⟩=sS (vi iQ id) /\ v4.cell? ⟨kb+1,3,nN⟩=sS (vi uQ (m:Nat)):=⟨hE4.cell 1 rfl 0,hE4.cell 0 rfl 2,hE4.cell 0 rfl 3⟩
 clear ok4 hE4 hAf
 refine lk hK (D9) (h:=?_)
 clear hK K
 refine lo 11 (h:=λK hK=>?_)
 go_simp
 refine lk hK (D9) (h:=?_)
 clear hK K
 refine aZ kz ?_ _
 go_wp2
 go_ret
 exact HE.out.2.kdrop2.kturns HE.out.1
theorem qd (h:(aa b k).holds F w) (cpu id n:Int) (m:Nat) (hm:m<2 ^ 64) (hE0:(k.iq.aimE id m)≠0):Calls tp 72 #[vp (sS ⟨b,0,nN⟩),.agg #[vi iQ 14,vi iQ cpu,vi iQ id,vi uQ (m:Nat),vi iQ n]] w (al (aa b k) F (vi iQ (k.iq.aimE id m)) w):=by
 obtain ⟨hok,p,hK⟩:=ad h
 have hA:=(((hK.alloc (.cells #[vp (sS ⟨b,0,nN⟩)] 41 (0,0))).front).alloc (.cells #[vi iQ 14,vi iQ cpu,vi iQ id,vi uQ (m:Nat),vi iQ n] 34 (0,0))).front
 have x0:=ab (ai (w.alloc (.cells #[vp (sS ⟨b,0,nN⟩)] 41 (0,0))) (.cells #[vi iQ 14,vi iQ cpu,vi iQ id,vi uQ (m:Nat),vi iQ n] 34 (0,0))) 0
 have HA:=zh hA
 have HO:=zh hok
 have HN:=zh (show ({ k with iq:=k.iq.aim id m }:KT)=k from Gu k id m hE0)
 clear h hK hA
 go_in
 go_wp2
 rw [show (w.alloc (.cells #[vp (sS ⟨b,0,nN⟩)] 41 (0,0))).heap.size=w.heap.size+1 from by simp] at HA
 generalize ((w.alloc (.cells #[vp (sS ⟨b,0,nN⟩)] 41 (0,0))).alloc (.cells #[vi iQ 14,vi iQ cpu,vi iQ id,vi uQ (m:Nat),vi iQ n] 34 (0,0)))=W at *
 generalize w.heap.size=kb at *
 have hx:∀ v,af [] W v -> v.cell? ⟨kb,0,nN⟩=sS (vp (sS ⟨b,0,nN⟩)) /\ v.cell? ⟨b,3,nN⟩=sS (vp (sS ⟨p.iq,0,nN⟩)) /\ v.cell? ⟨kb+1,2,nN⟩=sS (vi iQ id) /\ v.cell? ⟨kb+1,3,nN⟩=sS (vi uQ (m:Nat)):=λv mv=>⟨(HA.out.keep mv).cell 1 rfl 0,(HA.out.keep mv).cell 2 rfl 3,(HA.out.keep mv).cell 0 rfl 2,(HA.out.keep mv).cell 0 rfl 3⟩
 have m0:af [] W W:=af.refl _ _
 have C:=hx W m0
 clear x0
 obtain ⟨C1,C2,C3,C4⟩:=C
 have hQ:∀ v,af [] W v -> Calls tp 134 #[vp (sS ⟨p.iq,0,nN⟩),vi iQ id,vi uQ (m:Nat)] v (λe u'=>e=.returned (vi iQ (k.iq.aimE id m)) /\ On F w ([ak.blk (kb+1) (.cells #[vi iQ 14,vi iQ cpu,vi iQ id,vi uQ (m:Nat),vi iQ n] 34 (0,0)),ak.blk kb (.cells #[vp (sS ⟨b,0,nN⟩)] 41 (0,0))]++ag b p k) u'):=λv mv=>by
  have q:Calls tp 134 #[vp (sS ⟨p.iq,0,nN⟩),vi iQ id,vi uQ (m:Nat)] v (λe u'=>e=.returned (vi iQ (k.iq.aimE id m)) /\ On F w ([ak.blk (kb+1) (.cells #[vi iQ 14,vi iQ cpu,vi iQ id,vi uQ (m:Nat),vi iQ n] 34 (0,0)),ak.blk kb (.cells #[vp (sS ⟨b,0,nN⟩)] 41 (0,0))]++ag b p { k with iq:=k.iq.aim id m }) u'):=(HA.out.keep mv).call (P:=tp) (f:=134) 7 rfl (λF1 h1=>CG h1 id m hm)
  rw [HN.out] at q
  exact q
 generalize (k.iq.aimE id m)=e0 at *
 have hAf:=λfv v=>kD e0 hE0 fv v
 clear hok hE0 HN
 refine bX [] (λv=>v.cell? ⟨kb,0,nN⟩=sS (vp (sS ⟨b,0,nN⟩)) /\ v.cell? ⟨kb+1,2,nN⟩=sS (vi iQ id) /\ v.cell? ⟨kb+1,3,nN⟩=sS (vi uQ (m:Nat))) kz ⟨C1,C3,C4⟩ (λhHeld=>?_)
 refine lp 0 (h:=?_)
 refine lp 11 (h:=?_)
 refine lp 6 (h:=?_)
 refine lp 8 (h:=?_)
 refine kU 1 (h:=?_)
 refine lp 2 (h:=?_)
 refine lp 3 (h:=?_)
 refine lp 4 (h:=?_)
 refine kU 7 (h:=?_)
 refine kU 9 (h:=?_)
 refine lo 5 (h:=λK hK=>?_)
 go_simp
 refine lk hK (hHeld) (h:=?_)
 clear hK K
 refine lo 10 (h:=λK hK=>?_)
 go_simp
 go_at_call 134
 refine (hQ _ m0.drew).s λv3 hE=>?_
 have C9:v3.cell? ⟨kb,0,nN⟩=sS (vp (sS ⟨b,0,nN⟩)) /\ v3.cell? ⟨kb+1,2,nN⟩=sS (vi iQ id) /\ v3.cell? ⟨kb+1,3,nN⟩=sS (vi uQ (m:Nat)):=⟨hE.cell 1 rfl 0,hE.cell 0 rfl 2,hE.cell 0 rfl 3⟩
 have HE:=zh hE
 clear hE hQ
 refine lk hK (C9) (h:=?_)
 clear hK K
 refine lo 12 (h:=λK hK=>?_)
 go_simp
 go_at_call 127
 refine (hAf _ _).r λj4=>?_
 have HE4:=zh (HE.out.keep ((af.refl [] _).drewN j4))
 have D9:(v3.drewN j4).cell? ⟨kb,0,nN⟩=sS (vp (sS ⟨b,0,nN⟩)) /\ (v3.drewN j4).cell? ⟨kb+1,2,nN⟩=sS (vi iQ id) /\ (v3.drewN j4).cell? ⟨kb+1,3,nN⟩=sS (vi uQ (m:Nat)):=⟨HE4.out.cell 1 rfl 0,HE4.out.cell 0 rfl 2,HE4.out.cell 0 rfl 3⟩
 clear hAf HE
 refine lk hK (D9) (h:=?_)
 clear hK K
 refine lo 13 (h:=λK hK=>?_)
 go_simp
 refine lk hK (D9) (h:=?_)
 clear hK K
 refine aZ kz ?_ _
 go_wp2
 go_ret
 exact HE4.out.kdrop2.kturns HO.out
theorem qg (h:(aa b k).holds F w) (cpu id n:Int) (m:Nat) (hm:m<2 ^ 64) (hE0:(k.iq.reqE id m)≠0):Calls tp 72 #[vp (sS ⟨b,0,nN⟩),.agg #[vi iQ 12,vi iQ cpu,vi iQ id,vi uQ (m:Nat),vi iQ n]] w (al (aa b k) F (vi iQ (k.iq.reqE id m)) w):=by
 obtain ⟨hok,p,hK⟩:=ad h
 have hA:=(((hK.alloc (.cells #[vp (sS ⟨b,0,nN⟩)] 41 (0,0))).front).alloc (.cells #[vi iQ 12,vi iQ cpu,vi iQ id,vi uQ (m:Nat),vi iQ n] 34 (0,0))).front
 have x0:=ab (ai (w.alloc (.cells #[vp (sS ⟨b,0,nN⟩)] 41 (0,0))) (.cells #[vi iQ 12,vi iQ cpu,vi iQ id,vi uQ (m:Nat),vi iQ n] 34 (0,0))) 0
 have HA:=zh hA
 have HO:=zh hok
 have HN:=zh (show ({ k with iq:=k.iq.req id m }:KT)=k from Gr k id m hE0)
 clear h hK hA
 go_in
 go_wp2
 rw [show (w.alloc (.cells #[vp (sS ⟨b,0,nN⟩)] 41 (0,0))).heap.size=w.heap.size+1 from by simp] at HA
 generalize ((w.alloc (.cells #[vp (sS ⟨b,0,nN⟩)] 41 (0,0))).alloc (.cells #[vi iQ 12,vi iQ cpu,vi iQ id,vi uQ (m:Nat),vi iQ n] 34 (0,0)))=W at *
 generalize w.heap.size=kb at *
 have hx:∀ v,af [] W v -> v.cell? ⟨kb,0,nN⟩=sS (vp (sS ⟨b,0,nN⟩)) /\ v.cell? ⟨b,3,nN⟩=sS (vp (sS ⟨p.iq,0,nN⟩)) /\ v.cell? ⟨kb+1,2,nN⟩=sS (vi iQ id) /\ v.cell? ⟨kb+1,3,nN⟩=sS (vi uQ (m:Nat)):=λv mv=>⟨(HA.out.keep mv).cell 1 rfl 0,(HA.out.keep mv).cell 2 rfl 3,(HA.out.keep mv).cell 0 rfl 2,(HA.out.keep mv).cell 0 rfl 3⟩
 have m0:af [] W W:=af.refl _ _
 have C:=hx W m0
 clear x0
 obtain ⟨C1,C2,C3,C4⟩:=C
 have hQ:∀ v,af [] W v -> Calls tp 128 #[vp (sS ⟨p.iq,0,nN⟩),vi iQ id,vi uQ (m:Nat)] v (λe u'=>e=.returned (vi iQ (k.iq.reqE id m)) /\ On F w ([ak.blk (kb+1) (.cells #[vi iQ 12,vi iQ cpu,vi iQ id,vi uQ (m:Nat),vi iQ n] 34 (0,0)),ak.blk kb (.cells #[vp (sS ⟨b,0,nN⟩)] 41 (0,0))]++ag b p k) u'):=λv mv=>by
  have q:Calls tp 128 #[vp (sS ⟨p.iq,0,nN⟩),vi iQ id,vi uQ (m:Nat)] v (λe u'=>e=.returned (vi iQ (k.iq.reqE id m)) /\ On F w ([ak.blk (kb+1) (.cells #[vi iQ 12,vi iQ cpu,vi iQ id,vi uQ (m:Nat),vi iQ n] 34 (0,0)),ak.blk kb (.cells #[vp (sS ⟨b,0,nN⟩)] 41 (0,0))]++ag b p { k with iq:=k.iq.req id m }) u'):=(HA.out.keep mv).call (P:=tp) (f:=128) 7 rfl (λF1 h1=>qQ h1 id m hm)
  rw [HN.out] at q
  exact q
 generalize (k.iq.reqE id m)=e0 at *
 have hAf:=λfv v=>kD e0 hE0 fv v
 clear hok hE0 HN
 refine bX [] (λv=>v.cell? ⟨kb,0,nN⟩=sS (vp (sS ⟨b,0,nN⟩)) /\ v.cell? ⟨kb+1,2,nN⟩=sS (vi iQ id) /\ v.cell? ⟨kb+1,3,nN⟩=sS (vi uQ (m:Nat))) kz ⟨C1,C3,C4⟩ (λhHeld=>?_)
 refine lp 0 (h:=?_)
 refine lp 11 (h:=?_)
 refine lp 6 (h:=?_)
 refine lp 8 (h:=?_)
 refine kU 1 (h:=?_)
 refine lp 2 (h:=?_)
 refine lp 3 (h:=?_)
 refine lp 4 (h:=?_)
 refine kU 7 (h:=?_)
 refine kU 9 (h:=?_)
 refine lo 5 (h:=λK hK=>?_)
 go_simp
 refine lk hK (hHeld) (h:=?_)
 clear hK K
 refine lo 10 (h:=λK hK=>?_)
 go_simp
 go_at_call 128
 refine (hQ _ m0.drew).s λv3 hE=>?_
 have C9:v3.cell? ⟨kb,0,nN⟩=sS (vp (sS ⟨b,0,nN⟩)) /\ v3.cell? ⟨kb+1,2,nN⟩=sS (vi iQ id) /\ v3.cell? ⟨kb+1,3,nN⟩=sS (vi uQ (m:Nat)):=⟨hE.cell 1 rfl 0,hE.cell 0 rfl 2,hE.cell 0 rfl 3⟩
 have HE:=zh hE
 clear hE hQ
 refine lk hK (C9) (h:=?_)
 clear hK K
 refine lo 12 (h:=λK hK=>?_)
 go_simp
 go_at_call 127
 refine (hAf _ _).r λj4=>?_
 have HE4:=zh (HE.out.keep ((af.refl [] _).drewN j4))
 have D9:(v3.drewN j4).cell? ⟨kb,0,nN⟩=sS (vp (sS ⟨b,0,nN⟩)) /\ (v3.drewN j4).cell? ⟨kb+1,2,nN⟩=sS (vi iQ id) /\ (v3.drewN j4).cell? ⟨kb+1,3,nN⟩=sS (vi uQ (m:Nat)):=⟨HE4.out.cell 1 rfl 0,HE4.out.cell 0 rfl 2,HE4.out.cell 0 rfl 3⟩
 clear hAf HE
 refine lk hK (D9) (h:=?_)
 clear hK K
 refine lo 13 (h:=λK hK=>?_)
 go_simp
 refine lk hK (D9) (h:=?_)
 clear hK K
 refine aZ kz ?_ _
 go_wp2
 go_ret
 exact HE4.out.kdrop2.kturns HO.out
theorem qf (h:(aa b k).holds F w) (cpu id n:Int) (m:Nat)  (hE0:(k.iq.wantE id)≠0):Calls tp 72 #[vp (sS ⟨b,0,nN⟩),.agg #[vi iQ 13,vi iQ cpu,vi iQ id,vi uQ (m:Nat),vi iQ n]] w (al (aa b k) F (vi iQ (k.iq.wantE id)) w):=by
 obtain ⟨hok,p,hK⟩:=ad h
 have hA:=(((hK.alloc (.cells #[vp (sS ⟨b,0,nN⟩)] 41 (0,0))).front).alloc (.cells #[vi iQ 13,vi iQ cpu,vi iQ id,vi uQ (m:Nat),vi iQ n] 34 (0,0))).front
 have x0:=ab (ai (w.alloc (.cells #[vp (sS ⟨b,0,nN⟩)] 41 (0,0))) (.cells #[vi iQ 13,vi iQ cpu,vi iQ id,vi uQ (m:Nat),vi iQ n] 34 (0,0))) 0
 have HA:=zh hA
 have HO:=zh hok
 have HN:=zh (show ({ k with iq:=k.iq.free id }:KT)=k from Eg k id hE0)
 clear h hK hA
 go_in
 go_wp2
 rw [show (w.alloc (.cells #[vp (sS ⟨b,0,nN⟩)] 41 (0,0))).heap.size=w.heap.size+1 from by simp] at HA
 generalize ((w.alloc (.cells #[vp (sS ⟨b,0,nN⟩)] 41 (0,0))).alloc (.cells #[vi iQ 13,vi iQ cpu,vi iQ id,vi uQ (m:Nat),vi iQ n] 34 (0,0)))=W at *
 generalize w.heap.size=kb at *
 have hx:∀ v,af [] W v -> v.cell? ⟨kb,0,nN⟩=sS (vp (sS ⟨b,0,nN⟩)) /\ v.cell? ⟨b,3,nN⟩=sS (vp (sS ⟨p.iq,0,nN⟩)) /\ v.cell? ⟨kb+1,2,nN⟩=sS (vi iQ id) /\ v.cell? ⟨kb+1,3,nN⟩=sS (vi uQ (m:Nat)):=λv mv=>⟨(HA.out.keep mv).cell 1 rfl 0,(HA.out.keep mv).cell 2 rfl 3,(HA.out.keep mv).cell 0 rfl 2,(HA.out.keep mv).cell 0 rfl 3⟩
 have m0:af [] W W:=af.refl _ _
 have C:=hx W m0
 clear x0
 obtain ⟨C1,C2,C3,C4⟩:=C
 have hQ:∀ v,af [] W v -> Calls tp 131 #[vp (sS ⟨p.iq,0,nN⟩),vi iQ id] v (λe u'=>e=.returned (vi iQ (k.iq.wantE id)) /\ On F w ([ak.blk (kb+1) (.cells #[vi iQ 13,vi iQ cpu,vi iQ id,vi uQ (m:Nat),vi iQ n] 34 (0,0)),ak.blk kb (.cells #[vp (sS ⟨b,0,nN⟩)] 41 (0,0))]++ag b p k) u'):=λv mv=>by
  have q:Calls tp 131 #[vp (sS ⟨p.iq,0,nN⟩),vi iQ id] v (λe u'=>e=.returned (vi iQ (k.iq.wantE id)) /\ On F w ([ak.blk (kb+1) (.cells #[vi iQ 13,vi iQ cpu,vi iQ id,vi uQ (m:Nat),vi iQ n] 34 (0,0)),ak.blk kb (.cells #[vp (sS ⟨b,0,nN⟩)] 41 (0,0))]++ag b p { k with iq:=k.iq.free id }) u'):=(HA.out.keep mv).call (P:=tp) (f:=131) 7 rfl (λF1 h1=>zU h1 id)
  rw [HN.out] at q
  exact q
 generalize (k.iq.wantE id)=e0 at *
 have hAf:=λfv v=>kD e0 hE0 fv v
 clear hok hE0 HN
 refine bX [] (λv=>v.cell? ⟨kb,0,nN⟩=sS (vp (sS ⟨b,0,nN⟩)) /\ v.cell? ⟨kb+1,2,nN⟩=sS (vi iQ id) /\ v.cell? ⟨kb+1,3,nN⟩=sS (vi uQ (m:Nat))) kz ⟨C1,C3,C4⟩ (λhHeld=>?_)
 refine lp 0 (h:=?_)
 refine lp 9 (h:=?_)
 refine lp 6 (h:=?_)
 refine kU 1 (h:=?_)
 refine lp 2 (h:=?_)
 refine lp 3 (h:=?_)
 refine lp 4 (h:=?_)
 refine kU 7 (h:=?_)
 refine lo 5 (h:=λK hK=>?_)
 go_simp
 refine lk hK (hHeld) (h:=?_)
 clear hK K
 refine lo 8 (h:=λK hK=>?_)
 go_simp
 go_at_call 131
 refine (hQ _ m0.drew).s λv3 hE=>?_
 have C9:v3.cell? ⟨kb,0,nN⟩=sS (vp (sS ⟨b,0,nN⟩)) /\ v3.cell? ⟨kb+1,2,nN⟩=sS (vi iQ id) /\ v3.cell? ⟨kb+1,3,nN⟩=sS (vi uQ (m:Nat)):=⟨hE.cell 1 rfl 0,hE.cell 0 rfl 2,hE.cell 0 rfl 3⟩
 have HE:=zh hE
 clear hE hQ
 refine lk hK (C9) (h:=?_)
 clear hK K
 refine lo 10 (h:=λK hK=>?_)
 go_simp
 go_at_call 127
 refine (hAf _ _).r λj4=>?_
 have HE4:=zh (HE.out.keep ((af.refl [] _).drewN j4))
 have D9:(v3.drewN j4).cell? ⟨kb,0,nN⟩=sS (vp (sS ⟨b,0,nN⟩)) /\ (v3.drewN j4).cell? ⟨kb+1,2,nN⟩=sS (vi iQ id) /\ (v3.drewN j4).cell? ⟨kb+1,3,nN⟩=sS (vi uQ (m:Nat)):=⟨HE4.out.cell 1 rfl 0,HE4.out.cell 0 rfl 2,HE4.out.cell 0 rfl 3⟩
 clear hAf HE
 refine lk hK (D9) (h:=?_)
 clear hK K
 refine lo 11 (h:=λK hK=>?_)
 go_simp
 refine lk hK (D9) (h:=?_)
 clear hK K
 refine aZ kz ?_ _
 go_wp2
 go_ret
 exact HE4.out.kdrop2.kturns HO.out
end
end Go.Proofs.YtmiapbgkphpgoaaGreatDoor