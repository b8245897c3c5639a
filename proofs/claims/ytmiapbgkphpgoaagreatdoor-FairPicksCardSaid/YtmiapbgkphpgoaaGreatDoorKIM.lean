/- Walks and plain laws of the kernel. No condition. -/
import Derived.Test.YtmiapbgkphpgoaaGreatDoorKGM
import Derived.Test.YtmiapbgkphpgoaaGreatDoorKPM
import Derived.Test.YtmiapbgkphpgoaaGreatDoorKBM
namespace Go.Proofs.YtmiapbgkphpgoaaGreatDoor
set_option linter.unusedVariables false
set_option linter.unusedSimpArgs false
set_option maxRecDepth 100000
set_option maxHeartbeats 20000000
open Go.RowKit
open Go.Proofs.Tryz renaming prog → tp
open List renaming setIfInBounds_toArray → sA, set_cons_zero → sB, set_cons_succ → sC
open Go renaming World → wW
open Go.Value renaming pointer → vp, bool → vb, int → vi
open Go.IntKind renaming i64 → iQ, u64 → uQ
open Option renaming none → nN, some → sS
open Bool renaming true → tQ, false → fF
open Int renaming eq_ofNat_of_zero_le → iN
section
variable {k:KT}
theorem KT.ok.wTh (h:k.ok) {t:bP} (e:t.n=k.th.n):KT.ok { k with th:=t }:=⟨h.n1,h.n2,e.trans h.th,h.rq,h.tm,h.wk,h.cb,h.ob,h.ct,h.gt,h.co,h.mt,h.rt,h.iq,h.on,h.ac,h.now,h.lim⟩
theorem KT.ok.wRq (h:k.ok) {t:RQ} (e:t.n=k.rq.n):KT.ok { k with rq:=t }:=⟨h.n1,h.n2,h.th,e.trans h.rq,h.tm,h.wk,h.cb,h.ob,h.ct,h.gt,h.co,h.mt,h.rt,h.iq,h.on,h.ac,h.now,h.lim⟩
theorem KT.ok.wTm (h:k.ok) {t:TA} (e:t.n=k.tm.n):KT.ok { k with tm:=t }:=⟨h.n1,h.n2,h.th,h.rq,e.trans h.tm,h.wk,h.cb,h.ob,h.ct,h.gt,h.co,h.mt,h.rt,h.iq,h.on,h.ac,h.now,h.lim⟩
theorem KT.ok.wWk (h:k.ok) {t:dj} (e:t.n=k.wk.n):KT.ok { k with wk:=t }:=⟨h.n1,h.n2,h.th,h.rq,h.tm,e.trans h.wk,h.cb,h.ob,h.ct,h.gt,h.co,h.mt,h.rt,h.iq,h.on,h.ac,h.now,h.lim⟩
theorem KT.ok.wCb (h:k.ok) {t:fI} (e:t.n=k.cb.n):KT.ok { k with cb:=t }:=⟨h.n1,h.n2,h.th,h.rq,h.tm,h.wk,e.trans h.cb,h.ob,h.ct,h.gt,h.co,h.mt,h.rt,h.iq,h.on,h.ac,h.now,h.lim⟩
theorem KT.ok.wOb (h:k.ok) {t:cO} (e:t.n=k.ob.n):KT.ok { k with ob:=t }:=⟨h.n1,h.n2,h.th,h.rq,h.tm,h.wk,h.cb,e.trans h.ob,h.ct,h.gt,h.co,h.mt,h.rt,h.iq,h.on,h.ac,h.now,h.lim⟩
theorem KT.ok.wCt (h:k.ok) {t:List Int} (e:t.length=k.ct.length):KT.ok { k with ct:=t }:=⟨h.n1,h.n2,h.th,h.rq,h.tm,h.wk,h.cb,h.ob,e.trans h.ct,h.gt,h.co,h.mt,h.rt,h.iq,h.on,h.ac,h.now,h.lim⟩
theorem KT.ok.wGt (h:k.ok) {t:SG} (e:t.l.length=k.gt.l.length):KT.ok { k with gt:=t }:=⟨h.n1,h.n2,h.th,h.rq,h.tm,h.wk,h.cb,h.ob,h.ct,e.trans h.gt,h.co,h.mt,h.rt,h.iq,h.on,h.ac,h.now,h.lim⟩
theorem KT.ok.wCo (h:k.ok) {t:CT} (e:t.n=k.co.n):KT.ok { k with co:=t }:=⟨h.n1,h.n2,h.th,h.rq,h.tm,h.wk,h.cb,h.ob,h.ct,h.gt,e.trans h.co,h.mt,h.rt,h.iq,h.on,h.ac,h.now,h.lim⟩
theorem KT.ok.wMt (h:k.ok) {t:ju} (e:t.n=k.mt.n):KT.ok { k with mt:=t }:=⟨h.n1,h.n2,h.th,h.rq,h.tm,h.wk,h.cb,h.ob,h.ct,h.gt,h.co,e.trans h.mt,h.rt,h.iq,h.on,h.ac,h.now,h.lim⟩
theorem KT.ok.wRt (h:k.ok) {t:RT} (e:t.n=k.rt.n):KT.ok { k with rt:=t }:=⟨h.n1,h.n2,h.th,h.rq,h.tm,h.wk,h.cb,h.ob,h.ct,h.gt,h.co,h.mt,e.trans h.rt,h.iq,h.on,h.ac,h.now,h.lim⟩
theorem KT.ok.wIq (h:k.ok) {t:IT} (e:t.cpus=k.iq.cpus):KT.ok { k with iq:=t }:=⟨h.n1,h.n2,h.th,h.rq,h.tm,h.wk,h.cb,h.ob,h.ct,h.gt,h.co,h.mt,h.rt,e.trans h.iq,h.on,h.ac,h.now,h.lim⟩
theorem KT.ok.wSp (h:k.ok) (t:ST):KT.ok { k with sp:=t }:=⟨h.n1,h.n2,h.th,h.rq,h.tm,h.wk,h.cb,h.ob,h.ct,h.gt,h.co,h.mt,h.rt,h.iq,h.on,h.ac,h.now,h.lim⟩
theorem KT.ok.wDk (h:k.ok) (t:SH):KT.ok { k with dk:=t }:=⟨h.n1,h.n2,h.th,h.rq,h.tm,h.wk,h.cb,h.ob,h.ct,h.gt,h.co,h.mt,h.rt,h.iq,h.on,h.ac,h.now,h.lim⟩
theorem KT.ok.wGv (h:k.ok) (t:Nat -> dq):KT.ok { k with gv:=t }:=⟨h.n1,h.n2,h.th,h.rq,h.tm,h.wk,h.cb,h.ob,h.ct,h.gt,h.co,h.mt,h.rt,h.iq,h.on,h.ac,h.now,h.lim⟩
theorem KT.ok.wOwn (h:k.ok) (t:Int -> Option Int):KT.ok { k with own:=t }:=⟨h.n1,h.n2,h.th,h.rq,h.tm,h.wk,h.cb,h.ob,h.ct,h.gt,h.co,h.mt,h.rt,h.iq,h.on,h.ac,h.now,h.lim⟩
theorem KT.ok.wOn (h:k.ok) {t:Nat} (e:t<2 ^ 64):KT.ok { k with online:=t }:=⟨h.n1,h.n2,h.th,h.rq,h.tm,h.wk,h.cb,h.ob,h.ct,h.gt,h.co,h.mt,h.rt,h.iq,e,h.ac,h.now,h.lim⟩
theorem KT.ok.wAc (h:k.ok) {t:Nat} (e:t<2 ^ 64):KT.ok { k with active:=t }:=⟨h.n1,h.n2,h.th,h.rq,h.tm,h.wk,h.cb,h.ob,h.ct,h.gt,h.co,h.mt,h.rt,h.iq,h.on,e,h.now,h.lim⟩
theorem KT.ok.wNow (h:k.ok) {t:Int} (e:0 <= t /\ t <= 1152921504606846976):KT.ok { k with now:=t }:=⟨h.n1,h.n2,h.th,h.rq,h.tm,h.wk,h.cb,h.ob,h.ct,h.gt,h.co,h.mt,h.rt,h.iq,h.on,h.ac,e,h.lim⟩
theorem KT.ok.wLim (h:k.ok) {t:Int} (e:0 <= t /\ t <= 1073741824):KT.ok { k with limit:=t }:=⟨h.n1,h.n2,h.th,h.rq,h.tm,h.wk,h.cb,h.ob,h.ct,h.gt,h.co,h.mt,h.rt,h.iq,h.on,h.ac,h.now,e⟩
end
section
variable (t:bP) (r:RQ) (m:TA) (v:dj) (c:fI) (s:cO) (o:CT) (e:ju) (y:RT) (z:IT) (a b d:Int) (j:Nat) (f:Bool)
theorem vT:(t.exit a).n=t.n:=by
 first|rfl|(unfold bP.exit;first|rfl|(repeat (first|rfl|split)))
theorem zn:(t.aim a j).n=t.n:=by
 first|rfl|(unfold bP.aim;first|rfl|(repeat (first|rfl|split)))
theorem Bt:(t.place a b f).n=t.n:=by
 first|rfl|(unfold bP.place;first|rfl|(repeat (first|rfl|split)))
theorem sY:(t.sleep a b).n=t.n:=by
 first|rfl|(unfold bP.sleep;first|rfl|(repeat (first|rfl|split)))
theorem vS:(t.wake a).n=t.n:=by
 first|rfl|(unfold bP.wake;first|rfl|(repeat (first|rfl|split)))
theorem Gq:(r.put a b d).n=r.n:=by
 first|rfl|(unfold RQ.put;first|rfl|(repeat (first|rfl|split)))
theorem eX:(r.take a).n=r.n:=by
 first|rfl|(unfold RQ.take;first|rfl|(repeat (first|rfl|split)))
theorem Ea:(r.back a).n=r.n:=by
 first|rfl|(unfold RQ.back;first|rfl|(repeat (first|rfl|split)))
theorem qJ:(m.cancel a).n=m.n:=by
 first|rfl|(unfold TA.cancel;first|rfl|(repeat (first|rfl|split)))
theorem oc:(m.arm a b).n=m.n:=by
 first|rfl|(unfold TA.arm;first|rfl|(repeat (first|rfl|split)))
theorem Jf:(m.go a).n=m.n:=by
 first|rfl|(unfold TA.go;first|rfl|(repeat (first|rfl|split)))
theorem DZ:(m.fire a).n=m.n:=by
 first|rfl|(unfold TA.fire;first|rfl|(repeat (first|rfl|split)))
theorem vR:(m.move a b).n=m.n:=by
 first|rfl|(unfold TA.move;first|rfl|(repeat (first|rfl|split)))
theorem sX:(v.queue a).n=v.n:=by
 first|rfl|(unfold dj.queue;first|rfl|(repeat (first|rfl|split)))
theorem DY:(v.take a).n=v.n:=by
 first|rfl|(unfold dj.take;first|rfl|(repeat (first|rfl|split)))
theorem qI:(v.unbind a).n=v.n:=by
 first|rfl|(unfold dj.unbind;first|rfl|(repeat (first|rfl|split)))
theorem Ek:(c.send a).n=c.n:=by
 first|rfl|(unfold fI.send;first|rfl|(repeat (first|rfl|split)))
theorem Ej:(c.take a).n=c.n:=by
 first|rfl|(unfold fI.take;first|rfl|(repeat (first|rfl|split)))
theorem vX:(c.move a b).n=c.n:=by
 first|rfl|(unfold fI.move;first|rfl|(repeat (first|rfl|split)))
theorem lh:(o.pow a f).n=o.n:=by
 first|rfl|(unfold CT.pow;first|rfl|(repeat (first|rfl|split)))
theorem Ei:(o.take a).n=o.n:=by
 first|rfl|(unfold CT.take;first|rfl|(repeat (first|rfl|split)))
theorem Eh:(o.wake a b).n=o.n:=by
 first|rfl|(unfold CT.wake;first|rfl|(repeat (first|rfl|split)))
theorem fZ:(o.count a f).n=o.n:=by
 first|rfl|(unfold CT.count;first|rfl|(repeat (first|rfl|split)))
theorem Ed:(e.work a b d).n=e.n:=by
 first|rfl|(unfold ju.work;first|rfl|(repeat (first|rfl|split)))
theorem Ee (p:Int):(e.rest a b d p).n=e.n:=by
 first|rfl|(unfold ju.rest;first|rfl|(repeat (first|rfl|split)))
theorem Gn:(y.set a b).n=y.n:=by
 first|rfl|(unfold RT.set;first|rfl|(repeat (first|rfl|split)))
theorem Gp:(y.off a).n=y.n:=by
 first|rfl|(unfold RT.off;first|rfl|(repeat (first|rfl|split)))
theorem Gs:(z.req a j).cpus=z.cpus:=by
 first|rfl|(unfold IT.req;first|rfl|(repeat (first|rfl|split)))
theorem Ef:(z.free a).cpus=z.cpus:=by
 first|rfl|(unfold IT.free;first|rfl|(repeat (first|rfl|split)))
theorem Gt:(z.aim a j).cpus=z.cpus:=by
 first|rfl|(unfold IT.aim;first|rfl|(repeat (first|rfl|split)))
theorem vU:(z.hush a f).cpus=z.cpus:=by
 first|rfl|(unfold IT.hush;first|rfl|(repeat (first|rfl|split)))
theorem Bw:(z.raise a).cpus=z.cpus:=by
 first|rfl|(unfold IT.raise;first|rfl|(repeat (first|rfl|split)))
theorem Bx:(z.clear a).cpus=z.cpus:=by
 first|rfl|(unfold IT.clear;first|rfl|(repeat (first|rfl|split)))
theorem Bv:(s.alloc a).n=s.n:=by unfold cO.alloc;split;exact s.fill_n _;rfl
theorem Eb:(s.room j).n=s.n:=by unfold cO.room;split<;>rfl
theorem Ec:(s.give a b).n=s.n:=by unfold cO.give;split;exact Eb s _;rfl
theorem km:(s.drain a).n=s.n:=by unfold cO.drain;split<;>rfl
end
section
variable {F:List Nat} {w u:wW} {b:Nat} {p:KP} {k:KT} {l pre:List ak}
theorem On.fold (h:On F w (pre++ag b p k) u) (hok:k.ok):On F w (pre++[aa b k]) u:=h.imp λF' hF=>by
 obtain ⟨F1,F2,rfl,h1,h2,h3⟩:=aR.append.1 hF
 exact ⟨F1++F2,aR.append.2 ⟨F1,F2,rfl,h1,⟨F2,[],by simp,⟨hok,p,h2⟩,rfl,by simp⟩,h3⟩,λ_ h=>h⟩
theorem On.unfold (h:On F w (pre++[aa b k]) u):k.ok /\ ∃ p,On F w (pre++ag b p k) u:=by
 obtain ⟨F',hF,m,hn⟩:=h
 obtain ⟨F1,F2,rfl,h1,⟨F3,F4,rfl,⟨hok,p,h2⟩,h4,_⟩,h3⟩:=aR.append.1 hF
 refine ⟨hok,p,F1++F3,aR.append.2 ⟨F1,F3,rfl,h1,h2,λx hx hx2=>h3 x hx (by simp [hx2])⟩,m,λx hx=>hn x ?_⟩
 rcases List.mem_append.1 hx with hx|hx
 ·simp [hx]
 ·simp [hx]
/-- A kernel's function is called among other things. -/
theorem On.kcall {P:Program} {f:FuncId} {args:Array Value} {v:Value} {k':KT} (h:On F w (pre++ag b p k) u) (hok:k.ok) (hT:bA w) (hF:tzL_ren.g 1∉F) (hc:∀ F1,(aa b k).holds F1 u -> bA u -> tzL_ren.g 1∉F1 -> Calls P f args u (al (aa b k') F1 v u)):
  Calls P f args u (λe u'=>e=.returned v /\ k'.ok /\ ∃ p,On F w (pre++ag b p k') u'):=by
 have h2:=h.fold hok
 refine (h2.callU hT hF pre.length sM hc).s λu' hB=>?_
 rw [List.set_append_right _ _ (Nat.le_refl _),Nat.sub_self,sB] at hB
 exact ⟨rfl,hB.unfold⟩
theorem On.kern1 (h:On F w (ag b p k) u):On F w ([]++ag b p k) u:=h
theorem On.kdrop1 {x:ak} (h:On F w ([x]++ag b p k) u):On F w (ag b p k) u:=h.drop 0
theorem On.kdrop2 {x y:ak} (h:On F w ([x,y]++ag b p k) u):On F w (ag b p k) u:=(h.drop 0).drop 0
theorem On.kturns (h:On F w (ag b p k) u) (hok:k.ok) {v:Value}:al (aa b k) F v w (.returned v) u:=⟨rfl,h.kernel hok⟩
theorem ga (c15:u.cell? ⟨b,15,nN⟩=sS (vi iQ k.n)) (c17:u.cell? ⟨b,17,nN⟩=sS (vi uQ (k.active:Nat))) (ha:k.active<2 ^ 64) (cpu:Int):Calls tp 144 #[vp (sS ⟨b,0,nN⟩),vi iQ cpu] u (au (vi iQ (k.ofE cpu)) u):=by
 have hH:=λw=>bK k.active ha cpu w
 unfold KT.ofE
 by_cases hi:k.is cpu
 ·rw [nG (λx=>x hi)]
  obtain ⟨h1,h2⟩:=hi
  have h3:¬ cpu<0:=by omega
  cases hh:aW k.active cpu
  all_goals
   rw [hh] at hH
   clear hh
   go_in
   go_wp2_with (go_at_call 150;refine (hH _).r λj=>?_)
   go_ret
   exact au.of (rfl) dz
 ·rw [pG hi]
  have h2:cpu<0 \/ (¬ cpu<0 /\ (k.n:Int) <= cpu):=by unfold KT.is at hi;omega
  clear hi hH
  rcases h2 with h2|⟨h1,h2⟩
  all_goals
   go_in
   go_wp2
   go_ret
   exact au.of (rfl) dz
theorem Cv {x:ak} {i:Nat} {m:List ak} (h:m[i]?=sS x):(pre++m)[pre.length+i]?=sS x:=by
 rw [List.getElem?_append_right oM,Nat.add_sub_cancel_left];exact h
theorem Cu {x:ak} {i:Nat} {m:List ak}:(pre++m).set (pre.length+i) x=pre++m.set i x:=by
 rw [List.set_append_right _ _ oM,Nat.add_sub_cancel_left]
/-- A timer wakes no thread any more. -/
theorem On.kdel (h:On F w (pre++ag b p k) u) (t:Int):∃ w2 n',(∀ ty,(Builtin.delete_ #[75,3] ty #[.map (sS p.ow),vi iQ t]).run tp u=.ok (.tuple #[]) w2) /\ On F w (pre++ag b { p with cnt:=n' } { k with own:=dZ k.own t }) w2:=by
 obtain ⟨w2,hrun,hD⟩:=h.fmDel (P:=tp) (pre.length+1) (Cv (x:=dD p.ow p.cnt (ew k.own)) rfl) Tryz.underlying75 Tryz.underlying3 t
 rw [nV,Cu] at hD
 generalize (if (ew k.own t).isSome=tQ then p.cnt - 1 else p.cnt)=n' at hD
 exact ⟨w2,n',hrun,hD⟩
/-- A timer wakes a thread. -/
theorem On.kown (h:On F w (pre++ag b p k) u) (t id:Int):∃ w2 n',(Instr.mapUpdate 75 (.map (sS p.ow)) (vi iQ t) (vi iQ id)).run tp u=.ok () w2 /\ On F w (pre++ag b { p with cnt:=n' } { k with own:=cA k.own t id }) w2:=by
 obtain ⟨w2,hrun,hD⟩:=h.fmPut (P:=tp) (pre.length+1) (Cv (x:=dD p.ow p.cnt (ew k.own)) rfl) Tryz.underlying75 Tryz.underlying3 t (vi iQ id)
 rw [nU,Cu] at hD
 generalize (if (ew k.own t).isSome=tQ then p.cnt else p.cnt+1)=n' at hD
 exact ⟨w2,n',hrun,hD⟩
theorem KT.ok.quiet (h:k.ok) (t:Int):(k.quiet t).ok:=(h.wTm (qJ _ _)).wOwn _
theorem oE (h:(aa b k).holds F w) (t:Int):Calls tp 125 #[vp (sS ⟨b,0,nN⟩),vi iQ t] w (al (aa b (k.quiet t)) F (.tuple #[]) w):=by
 obtain ⟨hok,p,hA⟩:=ad h
 have HO:=zh (hok.quiet t)
 have c2:w.cell? ⟨b,2,nN⟩=sS (vp (sS ⟨p.tm,0,nN⟩)):=hA.kC 2
 have hC:=hA.call (P:=tp) (f:=222) 4 rfl (λF1 h1=>jn h1 t)
 clear hA h hok
 go_in
 go_wp2_with (first
  | (
   go_at_call 222
   refine hC.s λw1 hB=>?_
   have hB:On F w (ag b p { k with tm:=k.tm.cancel t }) w1:=hB
   have c20:w1.cell? ⟨b,20,nN⟩=sS (.map (sS p.ow)):=hB.kC 20
   obtain ⟨w2,n',hrun,hD⟩:=hB.kern1.kdel t
   have HD:=zh hD
   clear hC hB hD)
  | (at_builtin;rw [hrun]))
 go_wp2
 refine bodyPost_end (v:=.tuple #[]) (results_none rfl _ _ _) rfl ?_
 exact ⟨rfl,(show On F w (ag b { p with cnt:=n' } (k.quiet t)) _ from HD.out).kernel HO.out⟩
end
section
variable {F:List Nat} {w u:wW} {b:Nat} {p:KP} {k:KT} {l pre:List ak}
theorem KT.ok.wake (h:k.ok) (id:Int):(k.wake id).ok:=(h.wTh (vS _ _)).putT _ _
theorem qM (h:(aa b k).holds F w) (hT:bA w) (hF:tzL_ren.g 1∉F) (id:Int):Calls tp 126 #[vp (sS ⟨b,0,nN⟩),vi iQ id] w (al (aa b (k.wake id)) F (.tuple #[]) w):=by
 obtain ⟨hok,p,hA⟩:=ad h
 have hok2:=zh (hok.wTh (vS k.th id))
 have c0:w.cell? ⟨b,0,nN⟩=sS (vp (sS ⟨p.th,0,nN⟩)):=hA.kC 0
 have hW:=hA.call (P:=tp) (f:=223) 2 rfl (λF1 h1=>yF h1 id)
 have eW:k.wake id=({ k with th:=k.th.wake id }:KT).putT id ((k.th.wake id).get id).cpu:=rfl
 rw [eW]
 generalize k.th.wakeV id=v0 at *
 generalize k.th.wakeE id=e0 at *
 clear hA h hok eW
 go_in
 go_wp2_with (first
  | (
   go_at_call 223
   refine hW.s λw1 hB=>?_
   have hB:On F w (ag b p { k with th:=k.th.wake id }) w1:=hB
   have c1:w1.cell? ⟨b,0,nN⟩=sS (vp (sS ⟨p.th,0,nN⟩)):=hB.kC 0
   have hG:=hB.tells 2 rfl (λF1 h1=>iC h1 id)
   generalize hx:(k.th.wake id).get id=x at *
   have HX:=zh hx
   obtain ⟨pr,mk,cp,fo,sl,ti⟩:=x
   simp only [kZ] at hG
   clear hB hW hx c0)
  | (
   go_at_call 119
   refine hG.mono ?_
   rintro e w2 ⟨rfl,hC,m2⟩
   have hD:=(hC.alloc (.cells #[vi iQ pr,vi uQ (mk:Nat),vi iQ cp,vb fo,vb sl,vi iQ ti] 237 (0,0))).front
   have HP:=zh (On.kcall (pre:=[_]) hD hok2.out hT hF (λF1 h1 hT1 hF1=>ky h1 hT1 hF1 id cp))
   clear hC hG hD m2)
  | (
   go_at_call 118
   refine HP.out.mono ?_
   rintro e w3 ⟨rfl,ho,p3,hE⟩
   have HE:=zh (And.intro ho hE)
   clear ho hE HP))
 refine bodyPost_end (v:=.tuple #[]) (results_none rfl _ _ _) rfl ?_
 exact HE.out.2.kdrop1.kturns HE.out.1
theorem KT.ok.mend (h:k.ok) (id:Int):(k.mend id).ok:=by
 unfold KT.mend;split
 ·exact h
 ·exact (h.wRq (eX _ _)).putT _ _
theorem qN (h:(aa b k).holds F w) (hT:bA w) (hF:tzL_ren.g 1∉F) (id:Int):Calls tp 122 #[vp (sS ⟨b,0,nN⟩),vi iQ id] w (al (aa b (k.mend id)) F (.tuple #[]) w):=by
 obtain ⟨hok,p,hA⟩:=ad h
 have c0:w.cell? ⟨b,0,nN⟩=sS (vp (sS ⟨p.th,0,nN⟩)):=hA.kC 0
 have hG:=hA.tells 2 rfl (λF1 h1=>iC h1 id)
 have hmk:=sw (lS hA) id
 have eB:k.mendB id=((k.th.get id).sleeps||!jS k.active (k.th.get id).mask (k.th.get id).cpu (k.th.get id).forced):=rfl
 have eM:k.mend id=if k.mendB id then k else ({ k with rq:=k.rq.take id }:KT).putT id (k.th.get id).cpu:=rfl
 rw [eM,eB]
 have hWr:=λw=>qX k.active (k.th.get id).mask hok.ac hmk 0 (k.th.get id).cpu (k.th.get id).forced w
 have hok2:=zh (hok.wRq (eX k.rq id))
 have HO:=zh hok
 clear eM eB h hA hok
 generalize k.th.get id=x at *
 obtain ⟨pr,mk,cp,fo,sl,ti⟩:=x
 simp only [kZ] at hG hmk hWr ⊢
 cases sl
 ·simp only [Bool.false_or]
  cases hwr:jS k.active mk cp fo
  ·rw [hwr] at hWr
   simp only [Bool.not_false,if_true]
   clear hok2 hwr
   go_in
   go_wp2_with (
    go_at_call 119
    refine hG.mono ?_
    rintro e w1 ⟨rfl,hC,m1⟩
    have HX:=zh (hC.alloc (.cells #[vi iQ pr,vi uQ (mk:Nat),vi iQ cp,vb fo,vb fF,vi iQ ti] 237 (0,0))).front
    clear hC hG m1)
   generalize w1.alloc (.cells #[vi iQ pr,vi uQ (mk:Nat),vi iQ cp,vb fo,vb fF,vi iQ ti] 237 (0,0))=W at *
   generalize w1.heap.size=xb at *
   have hx:∀ v,af [] W v -> v.cell? ⟨xb,1,nN⟩=sS (vi uQ (mk:Nat)) /\ v.cell? ⟨xb,2,nN⟩=sS (vi iQ cp) /\ v.cell? ⟨xb,3,nN⟩=sS (vb fo) /\ v.cell? ⟨xb,4,nN⟩=sS (vb fF) /\ v.cell? ⟨b,17,nN⟩=sS (vi uQ (k.active:Nat)):=λv m=>⟨(HX.out.keep m).cell 0 rfl 1,(HX.out.keep m).cell 0 rfl 2,(HX.out.keep m).cell 0 rfl 3,(HX.out.keep m).cell 0 rfl 4,(HX.out.keep m).cell 1 rfl 17⟩
   have C:=hx W mR
   have m0:af [] W W:=af.refl _ _
   clear c0
   go_region_held3 (λv=>v.cell? ⟨xb,1,nN⟩=sS (vi uQ (mk:Nat)) /\ v.cell? ⟨xb,2,nN⟩=sS (vi iQ cp) /\ v.cell? ⟨xb,3,nN⟩=sS (vb fo) /\ v.cell? ⟨xb,4,nN⟩=sS (vb fF) /\ v.cell? ⟨b,17,nN⟩=sS (vi uQ (k.active:Nat))) (assumption) (first
    | (
     go_at_call 217
     refine (hWr _).s λv mx=>?_
     have m1:af [] W v:=by first|exact m0.trans mx sM|exact (m0.drewN _).trans mx sM|exact m0.drew.trans mx sM
     have C:=hx _ m1
     clear mx))
   have hY:=zh (HX.out.keep m1)
   clear C hx m0 m1 hWr
   go_wp2
   refine bodyPost_ret (results_none rfl _ _ _) rfl ?_
   exact (hY.out.drop 0).kturns HO.out
  ·rw [hwr] at hWr
   simp only [Bool.not_true,Bool.false_eq_true,if_false]
   clear hwr
   go_in
   go_wp2_with (
    go_at_call 119
    refine hG.mono ?_
    rintro e w1 ⟨rfl,hC,m1⟩
    have HX:=zh (hC.alloc (.cells #[vi iQ pr,vi uQ (mk:Nat),vi iQ cp,vb fo,vb fF,vi iQ ti] 237 (0,0))).front
    clear hC hG m1)
   generalize w1.alloc (.cells #[vi iQ pr,vi uQ (mk:Nat),vi iQ cp,vb fo,vb fF,vi iQ ti] 237 (0,0))=W at *
   generalize w1.heap.size=xb at *
   have hx:∀ v,af [] W v -> v.cell? ⟨xb,1,nN⟩=sS (vi uQ (mk:Nat)) /\ v.cell? ⟨xb,2,nN⟩=sS (vi iQ cp) /\ v.cell? ⟨xb,3,nN⟩=sS (vb fo) /\ v.cell? ⟨xb,4,nN⟩=sS (vb fF) /\ v.cell? ⟨b,17,nN⟩=sS (vi uQ (k.active:Nat)):=λv m=>⟨(HX.out.keep m).cell 0 rfl 1,(HX.out.keep m).cell 0 rfl 2,(HX.out.keep m).cell 0 rfl 3,(HX.out.keep m).cell 0 rfl 4,(HX.out.keep m).cell 1 rfl 17⟩
   have C:=hx W mR
   have m0:af [] W W:=af.refl _ _
   clear c0
   go_region_held3 (λv=>v.cell? ⟨xb,1,nN⟩=sS (vi uQ (mk:Nat)) /\ v.cell? ⟨xb,2,nN⟩=sS (vi iQ cp) /\ v.cell? ⟨xb,3,nN⟩=sS (vb fo) /\ v.cell? ⟨xb,4,nN⟩=sS (vb fF) /\ v.cell? ⟨b,17,nN⟩=sS (vi uQ (k.active:Nat))) (assumption) (first
    | (
     go_at_call 217
     refine (hWr _).s λv mx=>?_
     have m1:af [] W v:=by first|exact m0.trans mx sM|exact (m0.drewN _).trans mx sM|exact m0.drew.trans mx sM
     have C:=hx _ m1
     clear mx))
   have hY:=HX.out.keep m1
   have c1:v.cell? ⟨b,1,nN⟩=sS (vp (sS ⟨p.rq,0,nN⟩)):=hY.cell 1 rfl 1
   have hTk:=hY.call (P:=tp) (f:=215) 4 rfl (λF1 h1=>jz h1 id)
   generalize k.rq.takeE id=e0 at *
   clear C hx m0 m1 hWr hY
   go_wp2_with (first
    | (
     go_at_call 215
     refine hTk.s λw2 hB=>?_
     have hB:On F w ([ak.blk xb (.cells #[vi iQ pr,vi uQ (mk:Nat),vi iQ cp,vb fo,vb fF,vi iQ ti] 237 (0,0))]++ag b p { k with rq:=k.rq.take id }) w2:=hB
     have x2:w2.cell? ⟨xb,2,nN⟩=sS (vi iQ cp):=hB.cell 0 rfl 2
     have HP:=zh (hB.kcall hok2.out hT hF (λF1 h1 hT1 hF1=>ky h1 hT1 hF1 id cp))
     clear hB hTk)
    | (
     go_at_call 118
     refine HP.out.mono ?_
     rintro e w3 ⟨rfl,ho,p3,hE⟩
     have HE:=zh (And.intro ho hE)
     clear ho hE HP))
   refine bodyPost_end (v:=.tuple #[]) (results_none rfl _ _ _) rfl ?_
   exact HE.out.2.kdrop1.kturns HE.out.1
 ·simp only [Bool.true_or,if_true]
  clear hok2 hWr
  go_in
  go_wp2_with (
   go_at_call 119
   refine hG.mono ?_
   rintro e w1 ⟨rfl,hC,m1⟩
   have HX:=zh (hC.alloc (.cells #[vi iQ pr,vi uQ (mk:Nat),vi iQ cp,vb fo,vb tQ,vi iQ ti] 237 (0,0))).front
   clear hC hG m1)
  go_quiet (fail)
  go_wp2
  refine bodyPost_ret (results_none rfl _ _ _) rfl ?_
  exact ((HX.out.keep (u':=_) (mR.drewN _)).drop 0).kturns HO.out
theorem KT.ok.lead (h:k.ok) (i near:Int):(k.lead i near).ok:=h.wRt (Gn _ _ _)
theorem wF {t:IT} (h:t.ok) (i:Int):(t.get i).mask<2 ^ 64:=by
 unfold IT.get
 split
 ·exact h.2 _
 ·decide
theorem wE (h:On F w (ag b p k) u):k.iq.ok:=by
 obtain ⟨F1,h1,_⟩:=h.get 5 rfl
 exact h1
theorem lx (h:(aa b k).holds F w) (hT:bA w) (hF:tzL_ren.g 1∉F) (i near:Int):Calls tp 130 #[vp (sS ⟨b,0,nN⟩),vi iQ i,vi iQ near] w (al (aa b (k.lead i near)) F (.tuple #[]) w):=by
 obtain ⟨hok,p,hA⟩:=ad h
 have HO:=zh (hok.lead i near)
 have c3:w.cell? ⟨b,3,nN⟩=sS (vp (sS ⟨p.iq,0,nN⟩)):=hA.kC 3
 have hG:=hA.tells 5 rfl (λF1 h1=>CF h1 i)
 have hmk:=wF (wE hA) i
 have hch:=λw hT=>ph (k.iq.get i).mask k.active hmk hok.ac near w hT
 have eT:k.lead i near={ k with rt:=k.rt.set i (fE (k.iq.get i).mask k.active near) }:=rfl
 have eg:(if dd i then k.iq.at i else ud)=k.iq.get i:=rfl
 rw [eg] at hG
 rw [eT] at HO ⊢
 clear eT eg h hA hok
 generalize k.iq.get i=x at *
 obtain ⟨wa,ma,pe,mk⟩:=x
 simp only [gK] at *
 generalize fE mk k.active near=cv at *
 generalize pa mk k.active near=ce at *
 generalize jj mk k.active=cf at *
 go_in
 go_wp2_with (
  go_at_call 226
  refine hG.mono ?_
  rintro e w1 ⟨rfl,hB,m1⟩
  have HX:=zh (hB.alloc (.cells #[vb wa,vb ma,vb pe,vi uQ (mk:Nat)] 184 (0,0))).front
  clear hB hG)
 generalize w1.alloc (.cells #[vb wa,vb ma,vb pe,vi uQ (mk:Nat)] 184 (0,0))=W at *
 generalize w1.heap.size=xb at *
 have x3:W.cell? ⟨xb,3,nN⟩=sS (vi uQ (mk:Nat)):=HX.out.cell 0 rfl 3
 have c17:W.cell? ⟨b,17,nN⟩=sS (vi uQ (k.active:Nat)):=HX.out.cell 1 rfl 17
 have hC:=λj=>hch (W.drewN j) ((HX.out.tab hT hF).drewN j)
 clear hch m1 c3
 go_region_held3 (λu=>u.cell? ⟨xb,3,nN⟩=sS (vi uQ (mk:Nat)) /\ u.cell? ⟨b,17,nN⟩=sS (vi uQ (k.active:Nat))) (exact ⟨by assumption,by assumption⟩) (first
  | (go_at_call 211;refine (hC _).r λk3=>?_))
 clear hC
 generalize hj:1+k3=j at *
 have hY:=HX.out.keep (u':=W.drewN j) (mR.drewN _)
 have c4:(W.drewN j).cell? ⟨b,4,nN⟩=sS (vp (sS ⟨p.rt,0,nN⟩)):=hY.cell 1 rfl 4
 have hP:=hY.call (P:=tp) (f:=227) 7 rfl (λF1 h1=>DB h1 i cv)
 generalize k.rt.setE i cv=e0 at *
 clear x3 c17 hY hj
 go_wp2_with (
  go_at_call 227
  refine hP.s λw3 hZ=>?_
  have hZ:On F w (ak.blk xb (.cells #[vb wa,vb ma,vb pe,vi uQ (mk:Nat)] 184 (0,0)) :: ag b p { k with rt:=k.rt.set i cv }) w3:=hZ
  have HZ:=zh hZ
  clear hZ hP)
 refine bodyPost_end (v:=.tuple #[]) (results_none rfl _ _ _) rfl ?_
 exact (HZ.out.drop 0).kturns HO.out
theorem KT.ok.aim (h:k.ok) (i:Int):(k.aim i).ok:=by
 unfold KT.aim;split
 ·exact h.lead _ _
 ·exact h
theorem tW (h:(aa b k).holds F w) (hT:bA w) (hF:tzL_ren.g 1∉F) (i:Int):Calls tp 136 #[vp (sS ⟨b,0,nN⟩),vi iQ i] w (al (aa b (k.aim i)) F (.tuple #[]) w):=by
 obtain ⟨hok,p,hA⟩:=ad h
 have HO:=zh hok
 have c3:w.cell? ⟨b,3,nN⟩=sS (vp (sS ⟨p.iq,0,nN⟩)):=hA.kC 3
 have hG:=hA.tells 5 rfl (λF1 h1=>CF h1 i)
 have hmk:=wF (wE hA) i
 have eT:k.aim i=if jS k.active (k.iq.get i).mask (k.rt.of i) (!aW (k.iq.get i).mask (k.rt.of i)) then k.lead i (k.rt.of i) else k:=rfl
 have eg:(if dd i then k.iq.at i else ud)=k.iq.get i:=rfl
 rw [eg] at hG
 rw [eT]
 have hWr:=λw=>qX k.active (k.iq.get i).mask hok.ac hmk 0 (k.rt.of i) (!aW (k.iq.get i).mask (k.rt.of i)) w
 have hHa:=λw=>bK (k.iq.get i).mask hmk (k.rt.of i) w
 clear eT eg h hA hok
 generalize k.iq.get i=x at *
 obtain ⟨wa,ma,pe,mk⟩:=x
 simp only [gK] at *
 generalize hof:k.rt.of i=ro at *
 have HR:=zh hof
 generalize k.rt.has i=rh at *
 generalize aW mk ro=hm at *
 cases hwr:jS k.active mk ro (!hm)
 all_goals
  rw [hwr] at hWr
  simp only [Bool.false_eq_true,if_false,if_true]
  clear hwr hof
  go_in
  go_wp2_with (first
   | (
    go_at_call 226
    refine hG.mono ?_
    rintro e w1 ⟨rfl,hB,m1⟩
    have hX:=(hB.alloc (.cells #[vb wa,vb ma,vb pe,vi uQ (mk:Nat)] 184 (0,0))).front
    have c4:(w1.alloc (.cells #[vb wa,vb ma,vb pe,vi uQ (mk:Nat)] 184 (0,0))).cell? ⟨b,4,nN⟩=sS (vp (sS ⟨p.rt,0,nN⟩)):=hX.cell 1 rfl 4
    have hO:=hX.ask (P:=tp) (f:=229) 7 rfl (λF1 h1=>yS h1 i)
    rw [HR.out] at hO
    have HX:=zh hX
    clear hB hG hX m1)
   | (
    go_at_call 229
    refine hO.mono ?_
    rintro e w2 ⟨rfl,hY,dr⟩
    have HY:=zh hY
    clear hY hO dr))
  generalize w1.heap.size=xb at *
  have hx:∀ v,af [] w2 v -> v.cell? ⟨xb,3,nN⟩=sS (vi uQ (mk:Nat)) /\ v.cell? ⟨b,17,nN⟩=sS (vi uQ (k.active:Nat)):=λv m=>⟨(HY.out.keep m).cell 0 rfl 3,(HY.out.keep m).cell 1 rfl 17⟩
  have C:=hx w2 mR
  have m0:af [] w2 w2:=af.refl _ _
  clear c3 c4 HX
  go_region_held3 (λv=>v.cell? ⟨xb,3,nN⟩=sS (vi uQ (mk:Nat)) /\ v.cell? ⟨b,17,nN⟩=sS (vi uQ (k.active:Nat))) (assumption) (first
   | (
    go_at_call 150
    refine (hHa _).s λv dx=>?_
    have mx:=dx.mod (S:=[])
    have m1:af [] w2 v:=by first|exact m0.trans mx sM|exact (m0.drewN _).trans mx sM|exact m0.drew.trans mx sM
    have C:=hx _ m1
    clear mx dx)
   | (
    go_at_call 217
    refine (hWr _).s λv2 mx=>?_
    have m2:af [] w2 v2:=by first|exact m1.trans mx sM|exact (m1.drewN _).trans mx sM|exact m1.drew.trans mx sM
    have C:=hx _ m2
    clear mx))
  have hZ:=HY.out.keep m2
  have HZ:=zh hZ
  have HP:=zh (On.kcall (pre:=[_]) hZ HO.out hT hF (λF1 h1 hT1 hF1=>lx h1 hT1 hF1 i ro))
  clear C hx m0 m1 m2 hWr hHa hZ HY
 ·go_wp2
  refine bodyPost_end (v:=.tuple #[]) (results_none rfl _ _ _) rfl ?_
  exact (HZ.out.drop 0).kturns HO.out
 ·go_wp2_with (
   go_at_call 130
   refine HP.out.mono ?_
   rintro e w3 ⟨rfl,ho,p3,hE⟩
   have HE:=zh (And.intro ho hE)
   clear ho hE HP)
  refine bodyPost_end (v:=.tuple #[]) (results_none rfl _ _ _) rfl ?_
  exact HE.out.2.kdrop1.kturns HE.out.1
end
section
variable {F:List Nat} {w u:wW} {b:Nat} {p:KP} {k:KT} {l pre:List ak}
theorem On.klook (h:On F w (ag b p k) u) (id:Int):(Instr.lookup 75 (.map (sS p.ow)) (vi iQ id) fF).run tp u=.ok (vi iQ ((k.own id).getD 0)) u:=by
 have:=ES (P:=tp) (h.fm 1 rfl) Tryz.underlying75 Tryz.underlying3 id (λw=>Tryz.zeroValue3 w)
 rw [this]
 unfold ew
 cases k.own id<;>rfl
theorem vo (h:(aa b k).holds F w) (id:Int):Calls tp 156 #[vp (sS ⟨b,0,nN⟩),vi iQ id] w (al (aa b (k.cancel id)) F (vi iQ (k.cancelE id)) w):=by
 obtain ⟨hok,p,hA⟩:=ad h
 have HO:=zh hok
 have HA:=zh (λj=>hA.keep (u':=w.drewN j) (mR.drewN j))
 have c2:w.cell? ⟨b,2,nN⟩=sS (vp (sS ⟨p.tm,0,nN⟩)):=hA.kC 2
 have c20:w.cell? ⟨b,20,nN⟩=sS (.map (sS p.ow)):=hA.kC 20
 have hWh:=hA.ask (P:=tp) (f:=244) 4 rfl (λF1 h1=>xj h1 id)
 have hLk:=λj=>(HA.out j).klook id
 have eE:k.cancelE id=if (k.tm.whr id).isNone then 4 else if 0<(k.own id).getD 0 then 6 else k.tm.cancelE id:=rfl
 have eK:k.cancel id=if k.cancelE id=0 then { k with tm:=k.tm.cancel id } else k:=rfl
 rw [eK,eE]
 cases hw:k.tm.whr id with
 | none=>
  rw [hw] at hWh
  simp only [Option.isNone_none,if_true,Option.isSome_none] at hWh ⊢
  rw [nG dE]
  generalize k.tm.whereV id=v0 at *
  clear hA h hok eE eK hLk hw
  go_in
  go_wp2_with (
   go_at_call 244
   refine hWh.mono ?_
   rintro e w1 ⟨rfl,hB,j,rfl⟩
   clear hB hWh)
  go_ret
  exact (HA.out _).kturns HO.out
 | some c=>
  rw [hw] at hWh
  simp only [Option.isNone_some,if_false,Option.isSome_some,Bool.false_eq_true] at hWh ⊢
  have hcE:k.tm.cancelE id=0:=by unfold TA.cancelE;rw [hw];rfl
  have hCa:=λj=>(HA.out j).call (P:=tp) (f:=222) 4 rfl (λF1 h1=>jn h1 id)
  rw [hcE] at hCa
  rw [hcE]
  generalize k.tm.whereV id=v0 at *
  generalize (k.own id).getD 0=who at *
  clear hA h hok eE eK hw
  by_cases h0:0<who
  ·rw [pG h0,nG dE]
   clear hCa
   go_in
   go_wp2_with (
    go_at_call 244
    refine hWh.mono ?_
    rintro e w1 ⟨rfl,hB,j,rfl⟩
    have hLk:=hLk j
    clear hB hWh)
   go_ret
   exact (HA.out _).kturns HO.out
  ·rw [nG h0,pG rfl]
   have HO2:=zh (HO.out.wTm (qJ k.tm id))
   go_in
   go_wp2_with (first
    | (
     go_at_call 244
     refine hWh.mono ?_
     rintro e w1 ⟨rfl,hB,j,rfl⟩
     have hLk:=hLk j
     have hCa:=hCa j
     clear hB hWh)
    | (
     go_at_call 222
     refine hCa.s λw2 hB=>?_
     have HB:=zh (show On F w (ag b p { k with tm:=k.tm.cancel id }) w2 from hB)
     clear hB hCa))
   go_ret
   exact HB.out.kturns HO2.out
theorem xL (hA:On F w (ag b p k) u) (id:Int):Calls tp 157 #[vp (sS ⟨b,0,nN⟩),vi iQ id] u (au (.tuple #[vi iQ (k.flushV id),vi iQ (KT.flushE id)]) u):=by
 have c5:u.cell? ⟨b,5,nN⟩=sS (vp (sS ⟨p.wk,0,nN⟩)):=hA.kC 5
 obtain ⟨F7,h7⟩:=hA.get 7 rfl
 have hH:=FA h7 id
 unfold KT.flushV KT.flushE
 by_cases h0:id<1 \/ 32<id
 ·rw [pG h0,pG h0]
  have h1:id<1 \/ (¬ id<1 /\ 32<id):=by omega
  clear hA h7 hH h0
  rcases h1 with h1|⟨h1,h2⟩
  all_goals
   go_in
   go_wp2
   go_ret2
   exact au.of (rfl) dz
 ·rw [nG h0,nG h0]
  have h1:¬ id<1:=λx=>h0 (.inl x)
  have h2:¬ 32<id:=λx=>h0 (.inr x)
  clear hA h7 h0
  cases hh:k.wk.has id
  all_goals
   rw [hh] at hH
   clear hh
   go_in
   go_wp2_with (go_at_call 245;refine hH.r λj=>?_)
   go_ret2
   exact au.of (rfl) dz
theorem KT.ok.limd (h:k.ok) (d:Int):(k.lim d).ok:=by
 unfold KT.lim
 by_cases h0:d<0 \/ 1073741824<d
 ·rw [show tn d=2 from pG h0,nG dE];exact h
 ·rw [show tn d=0 from nG h0,pG rfl];exact h.wLim oM
theorem vk (h:(aa b k).holds F w) (d:Int):Calls tp 160 #[vp (sS ⟨b,0,nN⟩),vi iQ d] w (al (aa b (k.lim d)) F (vi iQ (tn d)) w):=by
 obtain ⟨hok,p,hA⟩:=ad h
 have HO:=zh (hok.limd d)
 have eK:k.lim d=if tn d=0 then { k with limit:=d } else k:=rfl
 have eE:tn d=if d<0 \/ 1073741824<d then 2 else 0:=rfl
 rw [eK] at HO
 rw [eK]
 by_cases h0:d<0 \/ 1073741824<d
 ·rw [pG h0] at eE
  rw [eE,nG dE] at HO
  rw [eE,nG dE]
  have h1:d<0 \/ (¬ d<0 /\ 1073741824<d):=by omega
  have HA:=zh hA
  clear hA h h0 eK eE hok
  rcases h1 with h1|⟨h1,h2⟩
  all_goals
   go_in
   go_wp2
   go_ret
   exact HA.out.kturns HO.out
 ·rw [nG h0] at eE
  rw [eE,pG rfl] at HO
  rw [eE,pG rfl]
  have h1:¬ d<0:=λx=>h0 (.inl x)
  have h2:¬ 1073741824<d:=λx=>h0 (.inr x)
  have c19:w.cell? ⟨b,19,nN⟩=sS (vi iQ k.limit):=hA.kC 19
  have f19:=hA.kF 19
  have s0:=hA.size 0 rfl
  have HB:=zh (show On F w (ag b p { k with limit:=d }) _ from hA.set 0 rfl 19 (vi iQ d))
  clear hA h h0 eK eE hok
  go_in
  go_wp2
  go_ret
  exact HB.out.kturns HO.out
theorem zH (h:(aa b k).holds F w) (s:Int):Calls tp 158 #[vp (sS ⟨b,0,nN⟩),vi iQ s] w (al (aa b (k.plan s)) F (vi iQ (KT.planE s)) w):=by
 obtain ⟨hok,p,hA⟩:=ad h
 have eK:k.plan s=if s<0 \/ 10 <= s then k else { k with dk:=k.dk.doPlan s }:=rfl
 have eE:KT.planE s=if s<0 \/ 10 <= s then 3 else Go.Proofs.YtmiapbgkphpgoaaGreatDoor.planE s:=rfl
 rw [eK,eE]
 by_cases h0:s<0 \/ 10 <= s
 ·rw [pG h0,pG h0]
  have h1:s<0 \/ (¬ s<0 /\ 10 <= s):=by omega
  have HA:=zh hA
  have HO:=zh hok
  clear hA h h0 eK eE hok
  rcases h1 with h1|⟨h1,h2⟩
  all_goals
   go_in
   go_wp2
   go_ret
   exact HA.out.kturns HO.out
 ·rw [nG h0,nG h0]
  have h1:¬ s<0:=λx=>h0 (.inl x)
  have h2:¬ 10 <= s:=λx=>h0 (.inr x)
  have HO:=zh (hok.wDk (k.dk.doPlan s))
  have c11:w.cell? ⟨b,11,nN⟩=sS (vp (sS ⟨p.dk,0,nN⟩)):=hA.kC 11
  have hP:=hA.call (P:=tp) (f:=246) 15 rfl (λF1 h1=>Cb h1 s)
  generalize Go.Proofs.YtmiapbgkphpgoaaGreatDoor.planE s=pe at *
  clear hA h h0 eK eE hok
  go_in
  go_wp2_with (
   go_at_call 246
   refine hP.s λw1 hB=>?_
   have HB:=zh (show On F w (ag b p { k with dk:=k.dk.doPlan s }) w1 from hB)
   clear hB hP)
  go_ret
  exact HB.out.kturns HO.out
theorem vV (g:SG):g.want.l.length=g.l.length:=by unfold SG.want;split<;>rfl
theorem oD (h:(aa b k).holds F w) (up:Bool) (cpu:Int) (hR:k.reqOk up cpu=fF):Calls tp 75 #[vp (sS ⟨b,0,nN⟩),vb up,vi iQ cpu] w (al (aa b k) F (vi iQ (k.reqE up cpu)) w):=by
 have eE:k.reqE up cpu=if ¬ k.is cpu then 3 else if k.dk.run.isSome then 7 else if up=tQ /\ aW k.online cpu=tQ then 8 else if up=fF /\ aW k.online cpu=fF then 9 else if up=fF /\ (cw k.online).length=1 then 10 else k.dk.beginE cpu (bF (aK k.active cpu)):=rfl
 rw [eE]
 clear eE
 by_cases hi:k.is cpu
 ·rw [nG (λx=>x hi)]
  cases hb:k.dk.run.isSome
  ·rw [nG dE]
   cases up
   ·cases ho:aW k.online cpu
    ·rw [nG dE,pG ⟨rfl,rfl⟩]
     obtain ⟨hok,p,hA⟩:=ad h
     have c16:w.cell? ⟨b,16,nN⟩=sS (vi uQ (k.online:Nat)):=hA.kC 16
     have c15:w.cell? ⟨b,15,nN⟩=sS (vi iQ k.n):=hA.kC 15
     have c11:w.cell? ⟨b,11,nN⟩=sS (vp (sS ⟨p.dk,0,nN⟩)):=hA.kC 11
     have hHa:=λw=>bK k.online hok.on cpu w
     have HA:=zh (λj=>hA.keep (u':=w.drewN j) (mR.drewN j))
     have hBu:=λj=>(HA.out j).ask (P:=tp) (f:=26) 15 rfl (λF1 h1=>dO h1)
     have HO:=zh hok
     obtain ⟨h1,h2⟩:=hi
     have q1:¬ cpu<0:=by omega
     have q2:¬ (k.n:Int) <= cpu:=by omega
     rw [ho] at hHa
     rw [hb] at hBu
     clear ho hb hR
     clear hA h hok
     go_in
     go_wp2_with (first
      | (go_at_call 150;refine (hHa _).r λj=>?_;have hBu:=hBu j;clear hHa)
      | (go_at_call 26;refine hBu.mono ?_;rintro e w2 ⟨rfl,hB,j2,rfl⟩;clear hB hBu)
      | fail)
     go_ret
     exact (HA.out _).kturns HO.out
    ·rw [nG dE,nG dE]
     by_cases hm:(cw k.online).length=1
     ·rw [pG ⟨rfl,hm⟩]
      obtain ⟨hok,p,hA⟩:=ad h
      have c16:w.cell? ⟨b,16,nN⟩=sS (vi uQ (k.online:Nat)):=hA.kC 16
      have c15:w.cell? ⟨b,15,nN⟩=sS (vi iQ k.n):=hA.kC 15
      have c11:w.cell? ⟨b,11,nN⟩=sS (vp (sS ⟨p.dk,0,nN⟩)):=hA.kC 11
      have hHa:=λw=>bK k.online hok.on cpu w
      have HA:=zh (λj=>hA.keep (u':=w.drewN j) (mR.drewN j))
      have hBu:=λj=>(HA.out j).ask (P:=tp) (f:=26) 15 rfl (λF1 h1=>dO h1)
      have HO:=zh hok
      obtain ⟨h1,h2⟩:=hi
      have q1:¬ cpu<0:=by omega
      have q2:¬ (k.n:Int) <= cpu:=by omega
      have hMa:=λw=>wu k.online hok.on w
      rw [hm] at hMa
      rw [ho] at hHa
      rw [hb] at hBu
      clear ho hb hR hm
      clear hA h hok
      go_in
      go_wp2_with (first
       | (go_at_call 150;refine (hHa _).r λj=>?_;have hBu:=hBu j;clear hHa)
       | (go_at_call 26;refine hBu.mono ?_;rintro e w2 ⟨rfl,hB,j2,rfl⟩;clear hB hBu)
       | (go_at_call 151;refine (hMa _).r λj3=>?_;clear hMa))
      go_ret
      exact (HA.out _).kturns HO.out
     ·exfalso
      unfold KT.reqOk at hR
      rw [decide_eq_true hi,hb,ho,decide_eq_false hm] at hR
      simp at hR
   ·cases ho:aW k.online cpu
    ·exfalso
     unfold KT.reqOk at hR
     rw [decide_eq_true hi,hb,ho] at hR
     simp at hR
    ·rw [pG ⟨rfl,rfl⟩]
     obtain ⟨hok,p,hA⟩:=ad h
     have c16:w.cell? ⟨b,16,nN⟩=sS (vi uQ (k.online:Nat)):=hA.kC 16
     have c15:w.cell? ⟨b,15,nN⟩=sS (vi iQ k.n):=hA.kC 15
     have c11:w.cell? ⟨b,11,nN⟩=sS (vp (sS ⟨p.dk,0,nN⟩)):=hA.kC 11
     have hHa:=λw=>bK k.online hok.on cpu w
     have HA:=zh (λj=>hA.keep (u':=w.drewN j) (mR.drewN j))
     have hBu:=λj=>(HA.out j).ask (P:=tp) (f:=26) 15 rfl (λF1 h1=>dO h1)
     have HO:=zh hok
     obtain ⟨h1,h2⟩:=hi
     have q1:¬ cpu<0:=by omega
     have q2:¬ (k.n:Int) <= cpu:=by omega
     rw [ho] at hHa
     rw [hb] at hBu
     clear ho hb hR
     clear hA h hok
     go_in
     go_wp2_with (first
      | (go_at_call 150;refine (hHa _).r λj=>?_;have hBu:=hBu j;clear hHa)
      | (go_at_call 26;refine hBu.mono ?_;rintro e w2 ⟨rfl,hB,j2,rfl⟩;clear hB hBu)
      | fail)
     go_ret
     exact (HA.out _).kturns HO.out
  ·rw [pG rfl]
   obtain ⟨hok,p,hA⟩:=ad h
   have c16:w.cell? ⟨b,16,nN⟩=sS (vi uQ (k.online:Nat)):=hA.kC 16
   have c15:w.cell? ⟨b,15,nN⟩=sS (vi iQ k.n):=hA.kC 15
   have c11:w.cell? ⟨b,11,nN⟩=sS (vp (sS ⟨p.dk,0,nN⟩)):=hA.kC 11
   have hHa:=λw=>bK k.online hok.on cpu w
   have HA:=zh (λj=>hA.keep (u':=w.drewN j) (mR.drewN j))
   have hBu:=λj=>(HA.out j).ask (P:=tp) (f:=26) 15 rfl (λF1 h1=>dO h1)
   have HO:=zh hok
   obtain ⟨h1,h2⟩:=hi
   have q1:¬ cpu<0:=by omega
   have q2:¬ (k.n:Int) <= cpu:=by omega
   rw [hb] at hBu
   generalize aW k.online cpu=on at *
   clear hb hR
   clear hA h hok
   go_in
   go_wp2_with (first
    | (go_at_call 150;refine (hHa _).r λj=>?_;have hBu:=hBu j;clear hHa)
    | (go_at_call 26;refine hBu.mono ?_;rintro e w2 ⟨rfl,hB,j2,rfl⟩;clear hB hBu)
    | fail)
   go_ret
   exact (HA.out _).kturns HO.out
 ·rw [pG hi]
  obtain ⟨hok,p,hA⟩:=ad h
  have c16:w.cell? ⟨b,16,nN⟩=sS (vi uQ (k.online:Nat)):=hA.kC 16
  have c15:w.cell? ⟨b,15,nN⟩=sS (vi iQ k.n):=hA.kC 15
  have c11:w.cell? ⟨b,11,nN⟩=sS (vp (sS ⟨p.dk,0,nN⟩)):=hA.kC 11
  have hHa:=λw=>bK k.online hok.on cpu w
  have HA:=zh (λj=>hA.keep (u':=w.drewN j) (mR.drewN j))
  have hBu:=λj=>(HA.out j).ask (P:=tp) (f:=26) 15 rfl (λF1 h1=>dO h1)
  have HO:=zh hok
  have h2:cpu<0 \/ (¬ cpu<0 /\ (k.n:Int) <= cpu):=by unfold KT.is at hi;omega
  generalize aW k.online cpu=on at *
  clear hR hi hBu
  rcases h2 with h2|⟨q1,q2⟩
  all_goals
   clear hA h hok
   go_in
   go_wp2_with (go_at_call 150;refine (hHa _).r λj=>?_;clear hHa)
   go_ret
   exact (HA.out _).kturns HO.out
theorem nk (h:(aa b k).holds F w) (hT:bA w) (up:Bool) (cpu:Int) (hR:k.reqOk up cpu=tQ):Calls tp 75 #[vp (sS ⟨b,0,nN⟩),vb up,vi iQ cpu] w (al (aa b { k with gt:=k.gt.want,dk:=k.dk.begin_ up cpu (bF (aK k.active cpu)) }) F (vi iQ (k.dk.beginE cpu (bF (aK k.active cpu)))) w):=by
 have hi:k.is cpu:=by
  unfold KT.reqOk at hR
  simp only [Bool.and_eq_true,decide_eq_true_eq] at hR
  exact hR.1.1.1.1
 have hb:k.dk.run.isSome=fF:=by
  unfold KT.reqOk at hR
  simp only [Bool.and_eq_true,Bool.not_eq_true'] at hR
  exact hR.1.1.1.2
 cases up
 ·have ho:aW k.online cpu=tQ:=by
   unfold KT.reqOk at hR
   cases ho:aW k.online cpu
   ·rw [ho] at hR;simp at hR
   ·rfl
  have hm:(cw k.online).length≠1:=by
   intro hm
   unfold KT.reqOk at hR
   rw [hm] at hR
   simp at hR
  obtain ⟨hok,p,hA⟩:=ad h
  have c16:w.cell? ⟨b,16,nN⟩=sS (vi uQ (k.online:Nat)):=hA.kC 16
  have c15:w.cell? ⟨b,15,nN⟩=sS (vi iQ k.n):=hA.kC 15
  have c11:w.cell? ⟨b,11,nN⟩=sS (vp (sS ⟨p.dk,0,nN⟩)):=hA.kC 11
  have hHa:=λw=>bK k.online hok.on cpu w
  have HA:=zh (λj=>hA.keep (u':=w.drewN j) (mR.drewN j))
  have hBu:=λj=>(HA.out j).ask (P:=tp) (f:=26) 15 rfl (λF1 h1=>dO h1)
  have HO:=zh hok
  obtain ⟨h1,h2⟩:=hi
  have q1:¬ cpu<0:=by omega
  have q2:¬ (k.n:Int) <= cpu:=by omega
  have hMa:=λw=>wu k.online hok.on w
  have hne:(((cw k.online).length:Int)==1)=fF:=by simp;omega
  rw [ho] at hHa
  rw [hb] at hBu
  generalize (cw k.online).length=mn at *
  clear ho hb hR hm
  have c17:w.cell? ⟨b,17,nN⟩=sS (vi uQ (k.active:Nat)):=hA.kC 17
  have c9:w.cell? ⟨b,9,nN⟩=sS (vp (sS ⟨p.gt,0,nN⟩)):=hA.kC 9
  have hLe:=λw=>jF k.active hok.ac cpu w
  have hFi:=λj=>ey (aK k.active cpu) (dQ (fK cpu) hok.ac) (w.drewN j) (hT.drewN j)
  have hWa:=λj=>(HA.out j).call (P:=tp) (f:=154) 11 rfl (λF1 h1=>um h1)
  have HO2:=zh ((hok.wGt (vV k.gt)).wDk (k.dk.begin_ fF cpu (bF (aK k.active cpu))))
  generalize iM (aK k.active cpu)=fe at *
  generalize k.gt.wantE=we at *
  generalize hby:bF (aK k.active cpu)=by_ at *
  generalize aK k.active cpu=la at *
  clear hA h hok hby
  go_in
  go_wp2_with (first
   | (go_at_call 150;refine (hHa _).r λj=>?_;have hBu:=hBu j;clear hHa)
   | (go_at_call 26;refine hBu.mono ?_;rintro e w2 ⟨rfl,hB,j2,rfl⟩;clear hB hBu)
   | (go_at_call 151;refine (hMa _).r λj3=>?_;clear hMa)
   | (go_at_call 152;refine (hLe _).r λj4=>?_;clear hLe)
   | (go_at_call 153;(try simp only [World.drewN_drewN]);refine (hFi _).r λj5=>?_;clear hFi)
   | (
    go_at_call 154
    (try simp only [World.drewN_drewN])
    refine (hWa _).s λw3 hB=>?_
    have hB:On F w (ag b p { k with gt:=k.gt.want }) w3:=hB
    have d11:w3.cell? ⟨b,11,nN⟩=sS (vp (sS ⟨p.dk,0,nN⟩)):=hB.kC 11
    have hBe:=hB.call (P:=tp) (f:=155) 15 rfl (λF1 h1=>qU h1 fF cpu by_)
    clear hB hWa)
   | (
    go_at_call 155
    refine hBe.s λw4 hB=>?_
    have HB:=zh (show On F w (ag b p { k with gt:=k.gt.want,dk:=k.dk.begin_ fF cpu by_ }) w4 from hB)
    clear hB hBe))
  go_ret
  exact HB.out.kturns HO2.out
 ·have ho:aW k.online cpu=fF:=by
   unfold KT.reqOk at hR
   cases ho:aW k.online cpu
   ·rfl
   ·rw [ho] at hR;simp at hR
  obtain ⟨hok,p,hA⟩:=ad h
  have c16:w.cell? ⟨b,16,nN⟩=sS (vi uQ (k.online:Nat)):=hA.kC 16
  have c15:w.cell? ⟨b,15,nN⟩=sS (vi iQ k.n):=hA.kC 15
  have c11:w.cell? ⟨b,11,nN⟩=sS (vp (sS ⟨p.dk,0,nN⟩)):=hA.kC 11
  have hHa:=λw=>bK k.online hok.on cpu w
  have HA:=zh (λj=>hA.keep (u':=w.drewN j) (mR.drewN j))
  have hBu:=λj=>(HA.out j).ask (P:=tp) (f:=26) 15 rfl (λF1 h1=>dO h1)
  have HO:=zh hok
  obtain ⟨h1,h2⟩:=hi
  have q1:¬ cpu<0:=by omega
  have q2:¬ (k.n:Int) <= cpu:=by omega
  rw [ho] at hHa
  rw [hb] at hBu
  clear ho hb hR
  have c17:w.cell? ⟨b,17,nN⟩=sS (vi uQ (k.active:Nat)):=hA.kC 17
  have c9:w.cell? ⟨b,9,nN⟩=sS (vp (sS ⟨p.gt,0,nN⟩)):=hA.kC 9
  have hLe:=λw=>jF k.active hok.ac cpu w
  have hFi:=λj=>ey (aK k.active cpu) (dQ (fK cpu) hok.ac) (w.drewN j) (hT.drewN j)
  have hWa:=λj=>(HA.out j).call (P:=tp) (f:=154) 11 rfl (λF1 h1=>um h1)
  have HO2:=zh ((hok.wGt (vV k.gt)).wDk (k.dk.begin_ tQ cpu (bF (aK k.active cpu))))
  generalize iM (aK k.active cpu)=fe at *
  generalize k.gt.wantE=we at *
  generalize hby:bF (aK k.active cpu)=by_ at *
  generalize aK k.active cpu=la at *
  clear hA h hok hby
  go_in
  go_wp2_with (first
   | (go_at_call 150;refine (hHa _).r λj=>?_;have hBu:=hBu j;clear hHa)
   | (go_at_call 26;refine hBu.mono ?_;rintro e w2 ⟨rfl,hB,j2,rfl⟩;clear hB hBu)
   | fail
   | (go_at_call 152;refine (hLe _).r λj4=>?_;clear hLe)
   | (go_at_call 153;(try simp only [World.drewN_drewN]);refine (hFi _).r λj5=>?_;clear hFi)
   | (
    go_at_call 154
    (try simp only [World.drewN_drewN])
    refine (hWa _).s λw3 hB=>?_
    have hB:On F w (ag b p { k with gt:=k.gt.want }) w3:=hB
    have d11:w3.cell? ⟨b,11,nN⟩=sS (vp (sS ⟨p.dk,0,nN⟩)):=hB.kC 11
    have hBe:=hB.call (P:=tp) (f:=155) 15 rfl (λF1 h1=>qU h1 tQ cpu by_)
    clear hB hWa)
   | (
    go_at_call 155
    refine hBe.s λw4 hB=>?_
    have HB:=zh (show On F w (ag b p { k with gt:=k.gt.want,dk:=k.dk.begin_ tQ cpu by_ }) w4 from hB)
    clear hB hBe))
  go_ret
  exact HB.out.kturns HO2.out
theorem tG (h:(aa b k).holds F w) (hT:bA w) (up:Bool) (cpu:Int):Calls tp 75 #[vp (sS ⟨b,0,nN⟩),vb up,vi iQ cpu] w (al (aa b (k.req up cpu)) F (vi iQ (k.reqE up cpu)) w):=by
 cases hR:k.reqOk up cpu
 ·have e:k.req up cpu=k:=by unfold KT.req;rw [hR];rfl
  rw [e]
  exact oD h up cpu hR
 ·have e:k.req up cpu={ k with gt:=k.gt.want,dk:=k.dk.begin_ up cpu (bF (aK k.active cpu)) }:=by unfold KT.req;rw [hR];rfl
  have e2:k.reqE up cpu=k.dk.beginE cpu (bF (aK k.active cpu)):=by
   unfold KT.reqOk at hR
   simp only [Bool.and_eq_true,decide_eq_true_eq,Bool.not_eq_true',Bool.and_eq_false_iff,decide_eq_false_iff_not] at hR
   obtain ⟨⟨⟨⟨h1,h2⟩,h3⟩,h4⟩,h5⟩:=hR
   unfold KT.reqE
   rw [nG (λx=>x h1),h2,nG dE]
   cases up<;>cases ho:aW k.online cpu<;>simp_all
  rw [e,e2]
  exact nk h hT up cpu hR
end
def tl (a:Option Addr) (l:List Int):ak where
 holds F w:=(l=[] /\ F=[]) \/ ∃ b,a=sS ⟨b,0,nN⟩ /\ F=[b] /\ b<w.heap.size /\ ∀ j,j<l.length -> w.cell? ⟨b,j,nN⟩=sS (vi iQ (ar l j))
 keep:=by
  rintro F S w w' (h|⟨b,h1,h2,h3,h4⟩) m hS
  ·exact .inl h
  ·exact .inr ⟨b,h1,h2,Nat.lt_of_lt_of_le h3 m.size,λj hj=>m.at (h4 j hj) (hS b (by rw [h2];exact List.mem_singleton_self _))⟩
 lt:=by
  rintro F w (⟨h1,h2⟩|⟨b,h1,h2,h3,h4⟩) b' hb
  ·rw [h2] at hb;cases hb
  ·rw [h2,List.mem_singleton] at hb;subst hb;exact h3
theorem On.newList {F0:List Nat} {w0 u u':wW} {l:List ak} (h:On F0 w0 l u) {a:Option Addr} {x:List Int} (m:af [] u u') (hi:bN u' a x) (hn:uF u a):On F0 w0 (l++[tl a x]) u':=by
 obtain ⟨F,h1,h2,h3⟩:=h
 have hl:=h1.lt
 have hs:=h2.size
 rcases hi with hi|⟨b,e1,e2,e3⟩
 ·exact ⟨F++[],aR.append.2 ⟨F,[],rfl,h1.keep m sM,⟨[],[],rfl,.inl ⟨hi,rfl⟩,rfl,by simp⟩,by simp⟩,h2.trans m sM,by simpa using h3⟩
 ·have hb:=hn b 0 e1
  refine ⟨F++[b],aR.append.2 ⟨F,[b],rfl,h1.keep m sM,⟨[b],[],rfl,.inr ⟨b,e1,rfl,e2,e3⟩,rfl,by simp⟩,λb' hb1 hb2=>?_⟩,h2.trans m sM,λb' hb1=>?_⟩
  ·rw [List.mem_singleton] at hb2;subst hb2;have:=hl _ hb1;omega
  ·rcases List.mem_append.1 hb1 with hb1|hb1
   ·exact h3 b' hb1
   ·rw [List.mem_singleton] at hb1;subst hb1;exact .inr oM
theorem On.listCell {F0:List Nat} {w0 u:wW} {l:List ak} (h:On F0 w0 l u) (k:Nat) {a:Option Addr} {x:List Int} (hk:l[k]?=sS (tl a x)):bN u a x:=by
 obtain ⟨F1,h1⟩:=h.get k hk
 rcases h1 with ⟨h1,_⟩|⟨b,h1,_,h3,h4⟩
 ·exact .inl h1
 ·exact .inr ⟨b,h1,h3,h4⟩
section
variable {F:List Nat} {w u:wW} {b:Nat} {p:KP} {k:KT} {l pre:List ak}
theorem KT.ok.undo (h:k.ok) (up:Bool) (st cpu:Int):(k.undo up st cpu).ok:=by
 unfold KT.undo;split
 ·split
  ·exact h.wCo (lh _ _ _)
  ·exact h.wAc (fk h.ac _)
 ·exact h
theorem Cl (m:Nat) (hm:m<2 ^ 64) (c:Int) (w:wW) (g:Nat) (h:w.cell? ⟨g,0,nN⟩=sS (vi iQ c)):Calls tp 96 #[vi uQ (m:Nat),.slice (sS ⟨g,0,nN⟩) 1 1] w (au (vi uQ (bn m c:Nat)) w):=by
 refine wq m hm [c] (sS ⟨g,0,nN⟩) 1 w (.inr ⟨g,rfl,λj hj=>?_⟩) sM
 have:j=0:=by simp at hj;exact hj
 subst this
 exact h
theorem zC (h:(aa b k).holds F w) (up:Bool) (st cpu:Int):Calls tp 262 #[vp (sS ⟨b,0,nN⟩),vb up,vi iQ st,vi iQ cpu] w (al (aa b (k.undo up st cpu)) F (.tuple #[]) w):=by
 obtain ⟨hok,p,hA⟩:=ad h
 have HO:=zh (hok.undo up st cpu)
 by_cases h1:st=1
 ·cases up
  ·have eK:k.undo fF st cpu={ k with active:=bn k.active cpu }:=by unfold KT.undo;rw [pG h1];rfl
   rw [eK] at HO ⊢
   have hb1:(st==1)=tQ:=by simp [h1]
   have c17:w.cell? ⟨b,17,nN⟩=sS (vi uQ (k.active:Nat)):=hA.kC 17
   have hX:=(hA.alloc (.cells #[vi iQ cpu] 3 (0,0))).front
   have hW:=Cl k.active hok.ac cpu (w.alloc (.cells #[vi iQ cpu] 3 (0,0))) w.heap.size sM
   have hS:=λj=>(hX.keep (u':=(w.alloc (.cells #[vi iQ cpu] 3 (0,0))).drewN j) (mR.drewN j)).set 1 rfl 17 (vi uQ (bn k.active cpu:Nat))
   have x17:(w.alloc (.cells #[vi iQ cpu] 3 (0,0))).cell? ⟨b,17,nN⟩=sS (vi uQ (k.active:Nat)):=hX.cell 1 rfl 17
   have f17:(w.alloc (.cells #[vi iQ cpu] 3 (0,0))).frozen? ⟨b,17,nN⟩=fF:=hX.free 1 rfl 17
   have l17:b<(w.alloc (.cells #[vi iQ cpu] 3 (0,0))).heap.size:=hX.size 1 rfl
   have HS:=zh hS
   generalize bn k.active cpu=wm at *
   clear hA h hok eK h1 hX hS
   go_in
   go_wp2_with (go_at_call 96;refine hW.r λj=>?_)
   refine bodyPost_end (v:=.tuple #[]) (results_none rfl _ _ _) rfl ?_
   exact ((show On F w ([_]++ag b p { k with active:=wm }) _ from HS.out _).kdrop1).kturns HO.out
  ·have eK:k.undo tQ st cpu={ k with co:=k.co.pow cpu fF }:=by unfold KT.undo;rw [pG h1];rfl
   rw [eK] at HO ⊢
   have hb1:(st==1)=tQ:=by simp [h1]
   have c12:w.cell? ⟨b,12,nN⟩=sS (vp (sS ⟨p.co,0,nN⟩)):=hA.kC 12
   have hP:=hA.call (P:=tp) (f:=305) 12 rfl (λF1 h1=>nw h1 cpu fF)
   generalize k.co.powE cpu fF=pe at *
   clear hA h hok eK h1
   go_in
   go_wp2_with (
    go_at_call 305
    refine hP.s λw1 hB=>?_
    have HB:=zh (show On F w (ag b p { k with co:=k.co.pow cpu fF }) w1 from hB)
    clear hB hP)
   refine bodyPost_end (v:=.tuple #[]) (results_none rfl _ _ _) rfl ?_
   exact HB.out.kturns HO.out
 ·have eK:k.undo up st cpu=k:=by unfold KT.undo;rw [nG h1]
  rw [eK] at HO ⊢
  have hb1:(st==1)=fF:=by simpa using h1
  have HA:=zh hA
  clear hA h hok eK h1
  cases up
  all_goals
   go_in
   go_wp2
   refine bodyPost_end (v:=.tuple #[]) (results_none rfl _ _ _) rfl ?_
   exact HA.out.kturns HO.out
theorem KT.ok.empty (h:k.ok) (cpu:Int):(k.empty cpu).ok:=by
 unfold KT.empty;split
 ·exact h
 ·exact (h.wRq (eX _ _)).putT _ _
theorem xM (h:(aa b k).holds F w) (hT:bA w) (hF:tzL_ren.g 1∉F) (cpu:Int):Calls tp 308 #[vp (sS ⟨b,0,nN⟩),vi iQ cpu] w (al (aa b (k.empty cpu)) F (vb (k.emptyB cpu)) w):=by
 obtain ⟨hok,p,hA⟩:=ad h
 have c1:w.cell? ⟨b,1,nN⟩=sS (vp (sS ⟨p.rq,0,nN⟩)):=hA.kC 1
 obtain ⟨F3,h3⟩:=hA.get 3 rfl
 have hL:=vH h3 cpu
 have eK:k.empty cpu=if k.rq.list cpu=[] then k else ({ k with rq:=k.rq.take (ar (k.rq.list cpu) 0) }:KT).putT (ar (k.rq.list cpu) 0) cpu:=rfl
 have eB:k.emptyB cpu=decide (k.rq.list cpu=[]):=rfl
 rw [eK,eB]
 have HA:=zh hA
 generalize hl:k.rq.list cpu=q at *
 by_cases hq:q=[]
 ·rw [pG hq,decide_eq_true hq]
  subst hq
  have HO:=zh hok
  clear hA h hok h3 eK eB hl
  go_in
  go_wp2_with (
   go_at_call 28
   refine hL.mono ?_
   rintro e w2 ⟨a2,c2,rfl,m2,i2,n2⟩
   have HM:=zh m2
   clear i2 n2 hL m2)
  go_ret
  exact (HA.out.keep HM.out).kturns HO.out
 ·rw [nG hq,decide_eq_false hq]
  obtain ⟨n0,hn0⟩:∃ n0,q.length=n0+1:=⟨q.length - 1,by have:=List.length_pos_iff.2 hq;omega⟩
  rw [show vu q w=λe w'=>∃ a c,e=.returned (.slice a (n0+1) c) /\ af [] w w' /\ bN w' a q /\ uF w a by unfold vu;rw [hn0]] at hL
  have hok2:=zh (hok.wRq (eX k.rq (ar q 0)))
  have HQ:=zh (And.intro hq hn0)
  clear hA h hok h3 eK eB hl hq hn0
  go_in
  go_wp2_with (
   go_at_call 28
   refine hL.mono ?_
   rintro e w2 ⟨a2,c2,rfl,m2,i2,n2⟩
   have hB:=(HA.out.newList m2 i2 n2).front
   obtain ⟨gb,rfl,_,i3⟩:=i2.resolve_left HQ.out.1
   have x0:=i3 0 (by rw [HQ.out.2];omega)
   have d1:w2.cell? ⟨b,1,nN⟩=sS (vp (sS ⟨p.rq,0,nN⟩)):=hB.cell 1 rfl 1
   have hTk:=λj=>(hB.keep (u':=w2.drewN j) (mR.drewN j)).call (P:=tp) (f:=215) 4 rfl (λF1 h1=>jz h1 (ar q 0))
   clear i2 n2 hL m2 i3 hB)
  go_region_held3 (λu=>u.cell? ⟨gb,0,nN⟩=sS (vi iQ (ar q 0)) /\ u.cell? ⟨b,1,nN⟩=sS (vp (sS ⟨p.rq,0,nN⟩))) (exact ⟨by assumption,by assumption⟩) (first
   | (
    go_at_call 215
    refine (hTk _).s λw3 hB=>?_
    have hB:On F w ([tl (sS ⟨gb,0,nN⟩) q]++ag b p { k with rq:=k.rq.take (ar q 0) }) w3:=hB
    have d1:w3.cell? ⟨b,1,nN⟩=sS (vp (sS ⟨p.rq,0,nN⟩)):=hB.cell 1 rfl 1
    have x3:w3.cell? ⟨gb,0,nN⟩=sS (vi iQ (ar q 0)):=by
     obtain ⟨g3,e3,_,i3⟩:=(hB.listCell 0 rfl).resolve_left HQ.out.1
     cases e3
     exact i3 0 (by rw [HQ.out.2];omega)
    have HP:=zh (hB.kcall hok2.out hT hF (λF1 h1 hT1 hF1=>ky h1 hT1 hF1 (ar q 0) cpu))
    clear hB hTk))
  go_wp2_with (
   go_at_call 118
   refine HP.out.mono ?_
   rintro e w4 ⟨rfl,ho,p3,hE⟩
   have HE:=zh (And.intro ho hE)
   clear ho hE HP)
  go_ret
  exact HE.out.2.kdrop1.kturns HE.out.1
end
section
variable {F:List Nat} {w u:wW} {b:Nat} {p:KP} {k:KT} {l pre:List ak}
theorem KT.ok.folds {f:KT -> Int -> KT} (hf:∀ k i,k.ok -> (f k i).ok):∀ (l:List Int) {k:KT},k.ok -> (l.foldl f k).ok
 | [],_,h=>h
 | x :: l,_,h=>KT.ok.folds hf l (hf _ x h)
theorem nm {α:Type} (f:α -> Int -> α) (k:α) {q:List Int} {j:Nat} (h:j<q.length):(q.take (j+1)).foldl f k=f ((q.take j).foldl f k) (ar q j):=by
 rw [ml h,List.foldl_append];rfl
theorem KT.ok.halt (h:k.ok) (cpu by_:Int):(k.halt cpu by_).ok:=by
 unfold KT.halt
 split
 ·exact h.wSp _
 ·split
  ·exact h
  ·exact (KT.ok.folds (λk i h=>h.lead i cpu) _ h).wSp _
theorem oJ (h:(aa b k).holds F w) (cpu by_:Int) (hO:k.sp.on=fF):Calls tp 312 #[vp (sS ⟨b,0,nN⟩),vi iQ cpu,vi iQ by_] w (al (aa b { k with sp:=k.sp.begin' (aK (bn k.active cpu) by_) }) F (vb fF) w):=by
 obtain ⟨hok,p,hA⟩:=ad h
 have HO:=zh (hok.wSp (k.sp.begin' (aK (bn k.active cpu) by_)))
 have c10:w.cell? ⟨b,10,nN⟩=sS (vp (sS ⟨p.sp,0,nN⟩)):=hA.kC 10
 have hOn:=hA.ask (P:=tp) (f:=343) 14 rfl (λF1 h1=>jY h1)
 rw [hO] at hOn
 have hac:=hok.ac
 have HA:=zh (λv (m:af [] w v)=>hA.keep m)
 have hLe:=λw=>jF (bn k.active cpu) (fk hok.ac cpu) by_ w
 have hlt:aK (bn k.active cpu) by_<2 ^ 64:=dQ (fK by_) (fk hok.ac cpu)
 have hWi:=λw g h=>Cl k.active hok.ac cpu w g h
 have hBg:=zh (λv (m:af [] w v)=>(hA.keep m).call (P:=tp) (f:=344) 14 rfl (λF1 h1=>AS h1 (aK (bn k.active cpu) by_) hlt))
 clear hA h hok hO
 generalize k.sp.beginE' (aK (bn k.active cpu) by_)=be at *
 generalize bn k.active cpu=wm at *
 generalize aK wm by_=lm at *
 go_in
 go_wp2_with (
  go_at_call 343
  refine hOn.mono ?_
  rintro e w1 ⟨rfl,hB,dr⟩
  have m0:=dr.mod (S:=[])
  have C:w1.cell? ⟨b,10,nN⟩=sS (vp (sS ⟨p.sp,0,nN⟩)) /\ w1.cell? ⟨b,17,nN⟩=sS (vi uQ (k.active:Nat)):=⟨hB.kC 10,hB.kC 17⟩
  clear hOn dr hB)
 go_region_held3 (λu=>u.cell? ⟨b,10,nN⟩=sS (vp (sS ⟨p.sp,0,nN⟩)) /\ u.cell? ⟨b,17,nN⟩=sS (vi uQ (k.active:Nat))) (first|assumption|go_keep) (first
  | (
   go_at_call 96
   refine (hWi _ _ sM).s λv dx=>?_
   have m1:af [] w v:=af.trans (S:=[]) (T:=[]) (by repeat (first|exact m0|with_reducible apply af.alloc|with_reducible apply af.drewN|with_reducible apply af.drew)) (dx.mod (S:=[])) sM
   have C:v.cell? ⟨b,10,nN⟩=sS (vp (sS ⟨p.sp,0,nN⟩)) /\ v.cell? ⟨b,17,nN⟩=sS (vi uQ (k.active:Nat)):=⟨(HA.out v m1).kC 10,(HA.out v m1).kC 17⟩
   clear dx)
  | (
   go_at_call 152
   refine (hLe _).s λv2 dx=>?_
   have m2:af [] w v2:=af.trans (S:=[]) (T:=[]) (by repeat (first|exact m1|with_reducible apply af.alloc|with_reducible apply af.drewN|with_reducible apply af.drew)) (dx.mod (S:=[])) sM
   have C:v2.cell? ⟨b,10,nN⟩=sS (vp (sS ⟨p.sp,0,nN⟩)) /\ v2.cell? ⟨b,17,nN⟩=sS (vi uQ (k.active:Nat)):=⟨(HA.out v2 m2).kC 10,(HA.out v2 m2).kC 17⟩
   clear dx)
  | (
   go_at_call 344
   refine (hBg.out _ (by repeat (first|exact m2|with_reducible apply af.alloc|with_reducible apply af.drewN|with_reducible apply af.drew))).s λv3 hB=>?_
   have hB:On F w (ag b p { k with sp:=k.sp.begin' lm }) v3:=hB
   have C:v3.cell? ⟨b,10,nN⟩=sS (vp (sS ⟨p.sp,0,nN⟩)) /\ v3.cell? ⟨b,17,nN⟩=sS (vi uQ (k.active:Nat)):=⟨hB.kC 10,hB.kC 17⟩
   have HB:=zh hB
   clear hB))
 go_wp2
 go_ret
 exact HB.out.kturns HO.out
theorem qh (h:(aa b k).holds F w) (cpu by_:Int) (hO:k.sp.on=tQ) (hR:k.sp.ready=fF):Calls tp 312 #[vp (sS ⟨b,0,nN⟩),vi iQ cpu,vi iQ by_] w (al (aa b k) F (vb fF) w):=by
 obtain ⟨hok,p,hA⟩:=ad h
 have HO:=zh hok
 have c10:w.cell? ⟨b,10,nN⟩=sS (vp (sS ⟨p.sp,0,nN⟩)):=hA.kC 10
 have hOn:=hA.ask (P:=tp) (f:=343) 14 rfl (λF1 h1=>jY h1)
 rw [hO] at hOn
 clear h hok hO
 have HA:=zh hA
 clear hA
 go_in
 go_wp2_with (first
  | (
   go_at_call 343
   refine hOn.mono ?_
   rintro e w1 ⟨rfl,hB,dr⟩
   have d10:w1.cell? ⟨b,10,nN⟩=sS (vp (sS ⟨p.sp,0,nN⟩)):=hB.kC 10
   have hRd:=hB.ask (P:=tp) (f:=345) 14 rfl (λF1 h1=>sx h1)
   rw [hR] at hRd
   clear hOn hB hR dr)
  | (
   go_at_call 345
   refine hRd.mono ?_
   rintro e w2 ⟨rfl,hB,dr2⟩
   have HB:=zh hB
   clear hRd hB dr2))
 go_ret
 exact HB.out.kturns HO.out
/-- Behind j interrupts that are led elsewhere. -/
def KT.leads (k:KT) (cpu:Int) (q:List Int) (j:Nat):KT:=(q.take j).foldl (λk i=>k.lead i cpu) k
theorem KT.leads_succ (k:KT) (cpu:Int) {q:List Int} {j:Nat} (h:j<q.length):k.leads cpu q (j+1)=(k.leads cpu q j).lead (ar q j) cpu:=nm _ k h
theorem KT.leads_ok (hok:k.ok) (cpu:Int) (q:List Int) (j:Nat):(k.leads cpu q j).ok:=KT.ok.folds (λk i h=>h.lead i cpu) _ hok
theorem tR (h:(aa b k).holds F w) (hT:bA w) (hF:tzL_ren.g 1∉F) (cpu by_:Int) (hO:k.sp.on=tQ) (hR:k.sp.ready=tQ):Calls tp 312 #[vp (sS ⟨b,0,nN⟩),vi iQ cpu,vi iQ by_] w
  (al (aa b { k.leads cpu (k.rt.onL cpu 16) (k.rt.onL cpu 16).length with sp:=(k.leads cpu (k.rt.onL cpu 16) (k.rt.onL cpu 16).length).sp.free }) F (vb tQ) w):=by
 obtain ⟨hok,p,hA⟩:=ad h
 have HO:=zh hok
 have c10:w.cell? ⟨b,10,nN⟩=sS (vp (sS ⟨p.sp,0,nN⟩)):=hA.kC 10
 have hOn:=hA.ask (P:=tp) (f:=343) 14 rfl (λF1 h1=>jY h1)
 rw [hO] at hOn
 have hlen:=rL k.rt cpu 16
 have hLs:=λu' (hB:On F w (ag b p k) u')=>yR (hB.get 6 rfl).choose_spec cpu
 generalize k.rt.onL cpu 16=q at *
 obtain ⟨n,hn⟩:∃ n,q.length=n:=⟨_,rfl⟩
 rw [hn] at hlen ⊢
 have HN:=zh hn
 clear hA h hok hO hn
 go_in
 go_wp2_with (first
  | (
   go_at_call 343
   refine hOn.mono ?_
   rintro e w1 ⟨rfl,hB,dr⟩
   have d10:w1.cell? ⟨b,10,nN⟩=sS (vp (sS ⟨p.sp,0,nN⟩)):=hB.kC 10
   have hRd:=hB.ask (P:=tp) (f:=345) 14 rfl (λF1 h1=>sx h1)
   rw [hR] at hRd
   clear hOn hB hR dr)
  | (
   go_at_call 345
   refine hRd.mono ?_
   rintro e w2 ⟨rfl,hB,dr2⟩
   have HB:=zh hB
   have hL:=hLs _ hB
   have d4:w2.cell? ⟨b,4,nN⟩=sS (vp (sS ⟨p.rt,0,nN⟩)):=hB.kC 4
   clear hRd hB hLs dr2)
  | (
   go_at_call 255
   refine hL.mono ?_
   intro e w3 hm3
   obtain ⟨a3,c3,e3,m3,i3,n3⟩:=hm3.newL
   rw [HN.out] at e3
   subst e3
   have HC:=zh (HB.out.newList m3 i3 n3).front
   clear hL hm3 m3 i3 n3))
 go_loopg [48] n (λgg i wr=>∃ (j:Nat) (p':KP),i=vi iQ j /\ j+gg=n /\ On F w ([tl a3 q]++ag b p' (k.leads cpu q j)) wr)
 case atStart=>exact ⟨0,p,rfl,by omega,HC.out⟩
 case round=>
  clear HC HB
  obtain ⟨j,p',rfl,hj,hB⟩:=hrel
  have hok2:=KT.leads_ok HO.out cpu q j
  by_cases hlt:j<n
  ·have hltI:(j:Int)<n:=by omega
   have hjq:j<q.length:=by rw [HN.out];exact hlt
   have HS:=zh (k.leads_succ cpu hjq)
   obtain ⟨gb,rfl,_,hc⟩:=(hB.listCell 0 rfl).resolve_left (λe=>by rw [e] at hjq;simp at hjq)
   have cj:=hc j hjq
   generalize ar q j=id at *
   generalize k.leads cpu q j=kj at *
   have HP:=zh (hB.kcall hok2 hT hF (λF1 h1 hT1 hF1=>lx h1 hT1 hF1 id cpu))
   clear hc hB hok2 hjq
   go_wp2_with (
    go_at_call 130
    refine HP.out.mono ?_
    rintro e w4 ⟨rfl,ho,p3,hE⟩
    have HE:=zh hE
    clear ho hE HP)
   go_roundg (gk - 1)
   case measure=>omega
   case rel=>exact ⟨j+1,p3,by go_num,by omega,by rw [HS.out];exact HE.out⟩
  ·have hltI:¬ (j:Int)<n:=by omega
   obtain rfl:j=n:=by omega
   have d10:wr.cell? ⟨b,10,nN⟩=sS (vp (sS ⟨p'.sp,0,nN⟩)):=hB.cell 1 rfl 10
   have HO2:=zh (hok2.wSp (k.leads cpu q j).sp.free)
   have hFr:=hB.call (P:=tp) (f:=346) 15 rfl (λF1 h1=>Dn h1)
   generalize k.leads cpu q j=kj at *
   generalize kj.sp.freeE=fe at *
   clear hB hok2
   go_wp2_with (
    go_at_call 346
    refine hFr.s λw4 hE=>?_
    have HE:=zh (show On F w ([tl a3 q]++ag b p' { kj with sp:=kj.sp.free }) w4 from hE)
    clear hE hFr)
   go_ret
   exact HE.out.kdrop1.kturns HO2.out
theorem zJ (h:(aa b k).holds F w) (hT:bA w) (hF:tzL_ren.g 1∉F) (cpu by_:Int):Calls tp 312 #[vp (sS ⟨b,0,nN⟩),vi iQ cpu,vi iQ by_] w (al (aa b (k.halt cpu by_)) F (vb k.haltB) w):=by
 unfold KT.halt KT.haltB
 cases hO:k.sp.on
 ·rw [pG rfl];exact oJ h cpu by_ hO
 ·rw [nG dE]
  cases hR:k.sp.ready
  ·rw [pG rfl];exact qh h cpu by_ hO hR
  ·rw [nG dE]
   have:=tR h hT hF cpu by_ hO hR
   unfold KT.leads at this
   rw [List.take_of_length_le (Nat.le_refl _)] at this
   exact this
end
section
variable {F:List Nat} {w u:wW} {b:Nat} {p:KP} {k:KT} {l pre:List ak}
theorem rr (h:(aa b k).holds F w) (cpu:Int):Calls tp 264 #[vp (sS ⟨b,0,nN⟩),vi iQ 1,vi iQ cpu] w (al (aa b { k with co:=k.co.pow cpu tQ }) F (.tuple #[]) w):=by
 obtain ⟨hok,p,hA⟩:=ad h
 have HO:=zh (hok.wCo (lh k.co cpu tQ))
 have c12:w.cell? ⟨b,12,nN⟩=sS (vp (sS ⟨p.co,0,nN⟩)):=hA.kC 12
 have hP:=hA.call (P:=tp) (f:=305) 12 rfl (λF1 h1=>nw h1 cpu tQ)
 generalize k.co.powE cpu tQ=pe at *
 clear hA h hok
 go_in
 go_wp2_with (
  go_at_call 305
  refine hP.s λw1 hB=>?_
  have HB:=zh (show On F w (ag b p { k with co:=k.co.pow cpu tQ }) w1 from hB)
  clear hB hP)
 refine bodyPost_ret (results_none rfl _ _ _) rfl ?_
 exact HB.out.kturns HO.out
theorem oK (h:(aa b k).holds F w) (cpu:Int):Calls tp 264 #[vp (sS ⟨b,0,nN⟩),vi iQ 2,vi iQ cpu] w (al (aa b { k with ob:=k.ob.drain cpu }) F (.tuple #[]) w):=by
 obtain ⟨hok,p,hA⟩:=ad h
 have HO:=zh (hok.wOb (km k.ob cpu))
 have c7:w.cell? ⟨b,7,nN⟩=sS (vp (sS ⟨p.ob,0,nN⟩)):=hA.kC 7
 have hP:=hA.call (P:=tp) (f:=306) 9 rfl (λF1 h1=>qB h1 cpu)
 generalize ((k.ob.keptL cpu).length:Int)=v0 at *
 generalize (if k.ob.is cpu then (0:Int) else 3)=v1 at *
 clear hA h hok
 go_in
 go_wp2_with (
  go_at_call 306
  refine hP.s λw1 hB=>?_
  have HB:=zh (show On F w (ag b p { k with ob:=k.ob.drain cpu }) w1 from hB)
  clear hB hP)
 refine bodyPost_ret (results_none rfl _ _ _) rfl ?_
 exact HB.out.kturns HO.out
def KT.mends (k:KT) (q:List Int) (j:Nat):KT:=(q.take j).foldl KT.mend k
def KT.aims (k:KT) (q:List Int) (j:Nat):KT:=(q.take j).foldl KT.aim k
theorem KT.mends_succ (k:KT) {q:List Int} {j:Nat} (h:j<q.length):k.mends q (j+1)=(k.mends q j).mend (ar q j):=nm _ k h
theorem KT.aims_succ (k:KT) {q:List Int} {j:Nat} (h:j<q.length):k.aims q (j+1)=(k.aims q j).aim (ar q j):=nm _ k h
theorem KT.mends_ok (hok:k.ok) (q:List Int) (j:Nat):(k.mends q j).ok:=KT.ok.folds (λk i h=>h.mend i) _ hok
theorem KT.aims_ok (hok:k.ok) (q:List Int) (j:Nat):(k.aims q j).ok:=KT.ok.folds (λk i h=>h.aim i) _ hok
theorem EE (t:IT):KT.come.idsOfI t=cK t 16:=by
 have h:∀ j:Nat,((List.range j).filter λi=>(t.c i).wanted).map (λ(i:Nat)=>(i:Int))=cK t j:=by
  intro j
  induction j with
  | zero=>rfl
  | succ j ih=>
   rw [List.range_succ,List.filter_append,List.map_append,ih,show cK t (j+1)=if (t.c j).wanted=tQ then cK t j++[(j:Int)] else cK t j from rfl]
   cases hw:(t.c j).wanted
   ·simp [hw]
   ·simp [hw]
 exact h 16
theorem AO (t:bP):t.list.length <= 32:=by
 have:=mJ (λi=>(t.t i).isSome) 32
 exact this
theorem gi {Q:wW -> Prop} {w0:wW} {R:wW -> Prop} (h0:R w0) (h:∀ W,R W -> Q W):Q w0:=h w0 h0
def KT.come3 (k1:KT):KT:=(cK (k1.th.list.foldl KT.mend k1).iq 16).foldl KT.aim (k1.th.list.foldl KT.mend k1)
theorem aY {w:wW} {T:TypeId} {v:Value} {g:Nat} (hg:g=w.heap.size):(w.alloc (.cells #[v] T (0,0))).cell? ⟨g,0,nN⟩=sS v:=by
 subst hg;exact ab (ai _ _) 0
theorem tS (h:(aa b k).holds F w) (hT:bA w) (hF:tzL_ren.g 1∉F) (st cpu:Int) (h1:st≠1) (h2:st≠2):Calls tp 264 #[vp (sS ⟨b,0,nN⟩),vi iQ st,vi iQ cpu] w (al (aa b (k.come st cpu)) F (.tuple #[]) w):=by
 obtain ⟨hok,p,hA⟩:=ad h
 have q1:(st==1)=fF:=by simpa using h1
 have q2:(st==2)=fF:=by simpa using h2
 have c16:w.cell? ⟨b,16,nN⟩=sS (vi uQ (k.online:Nat)):=hA.kC 16
 have c17:w.cell? ⟨b,17,nN⟩=sS (vi uQ (k.active:Nat)):=hA.kC 17
 have f16:=hA.kF 16
 have f17:=hA.kF 17
 have l0:=hA.size 0 rfl
 have hW16:=λw g h=>Cl k.online hok.on cpu w g h
 have hW17:=λw g h=>Cl k.active hok.ac cpu w g h
 have HS:=zh (λv (m:af [] w v)=>(((hA.keep m).set 0 rfl 16 (vi uQ (bn k.online cpu:Nat))).set 0 rfl 17 (vi uQ (bn k.active cpu:Nat))))
 have ne16:=World.new_ne w ⟨b,16,nN⟩ c16
 have ne17:=World.new_ne w ⟨b,17,nN⟩ c17
 have HO1:=zh ((hok.wOn (fk hok.on cpu)).wAc (fk hok.ac cpu))
 have HT:=zh (show k.come st cpu=KT.come3 { k with online:=bn k.online cpu,active:=bn k.active cpu } by unfold KT.come3;rw [<- EE];unfold KT.come;rw [nG h1,nG h2])
 have hSS:=λv (m:af [] w v)=>And.intro (m.at c16 sM) (m.at c17 sM)
 clear hA h
 go_in
 go_wp2
 refine bX [18,21] (λu=>u.cell? ⟨b,16,nN⟩=sS (vi uQ (k.online:Nat)) /\ u.cell? ⟨b,17,nN⟩=sS (vi uQ (k.active:Nat))) kz ⟨c16,c17⟩ (λhHeld=>?_)
 refine lp 0 (h:=?_)
 refine lp 1 (h:=?_)
 refine lp 2 (h:=?_)
 refine lp 3 (h:=?_)
 refine lp 4 (h:=?_)
 refine kU 5 (h:=?_)
 refine lp 6 (h:=?_)
 refine lp 9 (h:=?_)
 refine lp 10 (h:=?_)
 refine lp 11 (h:=?_)
 refine kU 12 (h:=?_)
 refine lp 13 (h:=?_)
 refine fg (rs:=[7,14]) kz sM ?_
 refine bg.cons rfl (λK hK=>?_) (bg.cons rfl (λK hK=>?_) bg.nil)
 go_simp
 rotate_left
 go_simp
 rotate_right
 refine hK.out _ _ (λ_=>hSS _ mz) ?_
 clear hK K
 try simp only [Act.put,sA,sB,sC]
 refine fg (rs:=[8,14]) kz sM ?_
 refine bg.cons rfl (λK hK=>?_) (bg.cons rfl (λK hK=>?_) bg.nil)
 go_simp
 rotate_left
 go_simp
 rotate_right
 refine (hW16 _ _ (by first|(refine aY ?_;simp;done)|(refine ay _ (aY ?_);simp;done)|(refine cellD (aY ?_) _;simp;done)|(refine ay _ (cellD (aY ?_) _);simp;done)|(refine cellD (ay _ (aY ?_)) _;simp;done))).r λj1=>?_
 refine hK.out _ _ (λ_=>hSS _ mz) ?_
 clear hK K
 try simp only [Act.put,sA,sB,sC]
 refine lo 14 (h:=λK hK=>?_)
 go_simp
 refine hK.out _ _ (λ_=>hSS _ mz) ?_
 clear hK K
 try simp only [Act.put,sA,sB,sC]
 refine lo 15 (h:=λK hK=>?_)
 go_simp
 refine (hW17 _ _ (by first|(refine aY ?_;simp;done)|(refine ay _ (aY ?_);simp;done)|(refine cellD (aY ?_) _;simp;done)|(refine ay _ (cellD (aY ?_) _);simp;done)|(refine cellD (ay _ (aY ?_)) _;simp;done))).r λj2=>?_
 refine hK.out _ _ (λ_=>hSS _ mz) ?_
 clear hK K
 try simp only [Act.put,sA,sB,sC]
 refine bB (i:=16) (v:=?_) rfl kz kz kz kz (λ_ _ _ h=>h) (Or.inl ⟨by rfl,?_⟩) (λhx=>hSS _ mz) ?_
 rotate_left
 ·intro w hSw;(go_simp<;>with_reducible rfl)
 try simp only [Act.put,sA,sB,sC]
 refine bB (i:=17) (v:=?_) rfl kz kz kz kz (λ_ _ _ h=>h) (Or.inl ⟨by rfl,?_⟩) (λhx=>hSS _ mz) ?_
 rotate_left
 ·intro w hSw;(go_simp<;>with_reducible rfl)
 try simp only [Act.put,sA,sB,sC]
 refine lo 18 (h:=λK hK=>?_)
 go_simp
 refine hK.out _ _ (λhx=>absurd (Eq.trans kz hx) Bool.false_ne_true) ?_
 clear hK K
 try simp only [Act.put,sA,sB,sC]
 refine bB (i:=19) (v:=?_) rfl kz kz kz kz (λ_ _ _ h=>h) (Or.inl ⟨by rfl,?_⟩) (λhx=>absurd (Eq.trans kz hx) Bool.false_ne_true) ?_
 rotate_left
 ·intro w hSw;(go_simp<;>with_reducible rfl)
 try simp only [Act.put,sA,sB,sC]
 refine bB (i:=20) (v:=?_) rfl kz kz kz kz (λ_ _ _ h=>h) (Or.inl ⟨by rfl,?_⟩) (λhx=>absurd (Eq.trans kz hx) Bool.false_ne_true) ?_
 rotate_left
 ·intro w hSw;(go_simp<;>with_reducible rfl)
 try simp only [Act.put,sA,sB,sC]
 refine lo 21 (h:=λK hK=>?_)
 go_simp
 refine hK.out _ _ (λhx=>absurd (Eq.trans kz hx) Bool.false_ne_true) ?_
 clear hK K
 try simp only [Act.put,sA,sB,sC]
 refine aZ kz ?_ _
 rotate_left
 refine hK.out _ _ (λ_=>hSS _ mz) ?_
 clear hK K
 try simp only [Act.put,sA,sB,sC]
 refine lo 8 (h:=λK hK=>?_)
 go_simp
 refine (hW16 _ _ (by first|(refine aY ?_;simp;done)|(refine ay _ (aY ?_);simp;done)|(refine cellD (aY ?_) _;simp;done)|(refine ay _ (cellD (aY ?_) _);simp;done)|(refine cellD (ay _ (aY ?_)) _;simp;done))).r λj1=>?_
 refine hK.out _ _ (λ_=>hSS _ mz) ?_
 clear hK K
 try simp only [Act.put,sA,sB,sC]
 refine lo 15 (h:=λK hK=>?_)
 go_simp
 refine (hW17 _ _ (by first|(refine aY ?_;simp;done)|(refine ay _ (aY ?_);simp;done)|(refine cellD (aY ?_) _;simp;done)|(refine ay _ (cellD (aY ?_) _);simp;done)|(refine cellD (ay _ (aY ?_)) _;simp;done))).r λj2=>?_
 refine hK.out _ _ (λ_=>hSS _ mz) ?_
 clear hK K
 try simp only [Act.put,sA,sB,sC]
 refine bB (i:=16) (v:=?_) rfl kz kz kz kz (λ_ _ _ h=>h) (Or.inl ⟨by rfl,?_⟩) (λhx=>hSS _ mz) ?_
 rotate_left
 ·intro w hSw;(go_simp<;>with_reducible rfl)
 try simp only [Act.put,sA,sB,sC]
 refine bB (i:=17) (v:=?_) rfl kz kz kz kz (λ_ _ _ h=>h) (Or.inl ⟨by rfl,?_⟩) (λhx=>hSS _ mz) ?_
 rotate_left
 ·intro w hSw;(go_simp<;>with_reducible rfl)
 try simp only [Act.put,sA,sB,sC]
 refine lo 18 (h:=λK hK=>?_)
 go_simp
 refine hK.out _ _ (λhx=>absurd (Eq.trans kz hx) Bool.false_ne_true) ?_
 clear hK K
 try simp only [Act.put,sA,sB,sC]
 refine bB (i:=19) (v:=?_) rfl kz kz kz kz (λ_ _ _ h=>h) (Or.inl ⟨by rfl,?_⟩) (λhx=>absurd (Eq.trans kz hx) Bool.false_ne_true) ?_
 rotate_left
 ·intro w hSw;(go_simp<;>with_reducible rfl)
 try simp only [Act.put,sA,sB,sC]
 refine bB (i:=20) (v:=?_) rfl kz kz kz kz (λ_ _ _ h=>h) (Or.inl ⟨by rfl,?_⟩) (λhx=>absurd (Eq.trans kz hx) Bool.false_ne_true) ?_
 rotate_left
 ·intro w hSw;(go_simp<;>with_reducible rfl)
 try simp only [Act.put,sA,sB,sC]
 refine lo 21 (h:=λK hK=>?_)
 go_simp
 refine hK.out _ _ (λhx=>absurd (Eq.trans kz hx) Bool.false_ne_true) ?_
 clear hK K
 try simp only [Act.put,sA,sB,sC]
 refine aZ kz ?_ _
 rotate_left
 refine hK.out _ _ (λ_=>hSS _ mz) ?_
 clear hK K
 try simp only [Act.put,sA,sB,sC]
 refine lo 7 (h:=λK hK=>?_)
 go_simp
 refine hK.out _ _ (λ_=>hSS _ mz) ?_
 clear hK K
 try simp only [Act.put,sA,sB,sC]
 refine lo 8 (h:=λK hK=>?_)
 go_simp
 refine (hW16 _ _ (by first|(refine aY ?_;simp;done)|(refine ay _ (aY ?_);simp;done)|(refine cellD (aY ?_) _;simp;done)|(refine ay _ (cellD (aY ?_) _);simp;done)|(refine cellD (ay _ (aY ?_)) _;simp;done))).r λj1=>?_
 refine hK.out _ _ (λ_=>hSS _ mz) ?_
 clear hK K
 try simp only [Act.put,sA,sB,sC]
 refine lo 15 (h:=λK hK=>?_)
 go_simp
 refine (hW17 _ _ (by first|(refine aY ?_;simp;done)|(refine ay _ (aY ?_);simp;done)|(refine cellD (aY ?_) _;simp;done)|(refine ay _ (cellD (aY ?_) _);simp;done)|(refine cellD (ay _ (aY ?_)) _;simp;done))).r λj2=>?_
 refine hK.out _ _ (λ_=>hSS _ mz) ?_
 clear hK K
 try simp only [Act.put,sA,sB,sC]
 refine bB (i:=16) (v:=?_) rfl kz kz kz kz (λ_ _ _ h=>h) (Or.inl ⟨by rfl,?_⟩) (λhx=>hSS _ mz) ?_
 rotate_left
 ·intro w hSw;(go_simp<;>with_reducible rfl)
 try simp only [Act.put,sA,sB,sC]
 refine bB (i:=17) (v:=?_) rfl kz kz kz kz (λ_ _ _ h=>h) (Or.inl ⟨by rfl,?_⟩) (λhx=>hSS _ mz) ?_
 rotate_left
 ·intro w hSw;(go_simp<;>with_reducible rfl)
 try simp only [Act.put,sA,sB,sC]
 refine lo 18 (h:=λK hK=>?_)
 go_simp
 refine hK.out _ _ (λhx=>absurd (Eq.trans kz hx) Bool.false_ne_true) ?_
 clear hK K
 try simp only [Act.put,sA,sB,sC]
 refine bB (i:=19) (v:=?_) rfl kz kz kz kz (λ_ _ _ h=>h) (Or.inl ⟨by rfl,?_⟩) (λhx=>absurd (Eq.trans kz hx) Bool.false_ne_true) ?_
 rotate_left
 ·intro w hSw;(go_simp<;>with_reducible rfl)
 try simp only [Act.put,sA,sB,sC]
 refine bB (i:=20) (v:=?_) rfl kz kz kz kz (λ_ _ _ h=>h) (Or.inl ⟨by rfl,?_⟩) (λhx=>absurd (Eq.trans kz hx) Bool.false_ne_true) ?_
 rotate_left
 ·intro w hSw;(go_simp<;>with_reducible rfl)
 try simp only [Act.put,sA,sB,sC]
 refine lo 21 (h:=λK hK=>?_)
 go_simp
 refine hK.out _ _ (λhx=>absurd (Eq.trans kz hx) Bool.false_ne_true) ?_
 clear hK K
 try simp only [Act.put,sA,sB,sC]
 refine aZ kz ?_ _
 all_goals
  refine gi (R:=λW=>On F w (ag b p { k with online:=bn k.online cpu,active:=bn k.active cpu }) W) (HS.out _ ?_) (λW hK1=>?_)
  ·repeat (first|exact mR|with_reducible apply af.alloc|with_reducible apply af.drewN|with_reducible apply af.drew)
  clear hSS hHeld c16 c17 f16 f17 l0 hW16 hW17 HS ne16 ne17 q1 q2 h1 h2
  generalize ({ k with online:=bn k.online cpu,active:=bn k.active cpu }:KT)=k1 at *
  have d0:W.cell? ⟨b,0,nN⟩=sS (vp (sS ⟨p.th,0,nN⟩)):=hK1.kC 0
  have hL:=yG (hK1.get 2 rfl).choose_spec
  have hlen:=AO k1.th
  have HK1:=zh hK1
  have eT:=HT.out
  unfold KT.come3 at eT
  replace HT:=zh eT
  clear eT
  generalize k1.th.list=q at *
  obtain ⟨n,hn⟩:∃ n,q.length=n:=⟨_,rfl⟩
  rw [hn] at hlen
  have HN:=zh hn
  clear hK1 hn
  go_wp2_with (
   go_at_call 307
   refine hL.mono ?_
   rintro e w3 ⟨a3,c3,e3,m3,i3,n3⟩
   rw [HN.out] at e3
   subst e3
   have HC:=zh (HK1.out.newList m3 i3 n3).front
   clear hL m3 i3 n3)
  go_loopg [56] n (λgg i wr=>∃ (j:Nat) (p':KP),i=vi iQ j /\ j+gg=n /\ On F w ([tl a3 q]++ag b p' (k1.mends q j)) wr)
  case atStart=>exact ⟨0,p,rfl,by omega,HC.out⟩
  case round=>
   clear HC HK1
   obtain ⟨j,p',rfl,hj,hB⟩:=hrel
   have hok2:=KT.mends_ok HO1.out q j
   by_cases hlt:j<n
   ·have hltI:(j:Int)<n:=by omega
    have hjq:j<q.length:=by rw [HN.out];exact hlt
    have HS:=zh (k1.mends_succ hjq)
    obtain ⟨gb,rfl,_,hc⟩:=(hB.listCell 0 rfl).resolve_left (λe=>by rw [e] at hjq;simp at hjq)
    have cj:=hc j hjq
    generalize ar q j=id at *
    generalize k1.mends q j=kj at *
    have HP:=zh (hB.kcall hok2 hT hF (λF1 h1 hT1 hF1=>qN h1 hT1 hF1 id))
    clear hc hB hok2 hjq
    go_wp2_with (
     go_at_call 122
     refine HP.out.mono ?_
     rintro e w4 ⟨rfl,ho,p3,hE⟩
     have HE:=zh hE
     clear ho hE HP)
    go_roundg (gk - 1)
    case measure=>omega
    case rel=>exact ⟨j+1,p3,by go_num,by omega,by rw [HS.out];exact HE.out⟩
   ·have hltI:¬ (j:Int)<n:=by omega
    obtain rfl:j=n:=by omega
    have eT:=HT.out
    unfold KT.mends at hB hok2
    rw [List.take_of_length_le (by rw [HN.out];exact Nat.le_refl _)] at hB hok2
    generalize q.foldl KT.mend k1=k2 at *
    have hD:=hB.kdrop1
    have d3:wr.cell? ⟨b,3,nN⟩=sS (vp (sS ⟨p'.iq,0,nN⟩)):=hD.kC 3
    have hL:=GL (hD.get 5 rfl).choose_spec
    have hlen2:=nl k2.iq 16
    have HD:=zh hD
    have HO2:=zh hok2
    generalize cK k2.iq 16=q2 at *
    obtain ⟨n2,hn2⟩:∃ n,q2.length=n:=⟨_,rfl⟩
    rw [hn2] at hlen2
    have HN2:=zh hn2
    have HT2:=zh eT
    clear hB hD hok2 hn2 eT HT
    go_wp2_with (
     go_at_call 86
     refine hL.mono ?_
     intro e w5 hm5
     obtain ⟨a5,c5,e5,m5,i5,n5⟩:=hm5.newL
     rw [HN2.out] at e5
     subst e5
     have HC:=zh (HD.out.newList m5 i5 n5).front
     clear hL m5 i5 n5 hm5)
    go_loopg [71] n2 (λgg i wr=>∃ (j:Nat) (p':KP),i=vi iQ j /\ j+gg=n2 /\ On F w ([tl a5 q2]++ag b p' (k2.aims q2 j)) wr)
    case atStart=>exact ⟨0,p',rfl,by omega,HC.out⟩
    case round=>
     clear HC HD
     obtain ⟨j2,p2,rfl,hj2,hB⟩:=hrel
     have hok2:=KT.aims_ok HO2.out q2 j2
     by_cases hlt2:j2<n2
     ·have hltI2:(j2:Int)<n2:=by omega
      have hjq:j2<q2.length:=by rw [HN2.out];exact hlt2
      have HS:=zh (k2.aims_succ hjq)
      obtain ⟨gb,rfl,_,hc⟩:=(hB.listCell 0 rfl).resolve_left (λe=>by rw [e] at hjq;simp at hjq)
      have cj:=hc j2 hjq
      generalize ar q2 j2=id at *
      generalize k2.aims q2 j2=kj at *
      have HP:=zh (hB.kcall hok2 hT hF (λF1 h1 hT1 hF1=>tW h1 hT1 hF1 id))
      clear hc hB hok2 hjq
      go_wp2_with (
       go_at_call 136
       refine HP.out.mono ?_
       rintro e w4 ⟨rfl,ho,p3,hE⟩
       have HE:=zh hE
       clear ho hE HP)
      go_roundg (gk - 1)
      case measure=>omega
      case rel=>exact ⟨j2+1,p3,by go_num,by omega,by rw [HS.out];exact HE.out⟩
     ·have hltI2:¬ (j2:Int)<n2:=by omega
      obtain rfl:j2=n2:=by omega
      unfold KT.aims at hB hok2
      rw [List.take_of_length_le (by rw [HN2.out];exact Nat.le_refl _)] at hB hok2
      rw [HT2.out]
      have HE:=zh (And.intro hB hok2)
      clear hB hok2
      go_wp2
      refine bodyPost_end (v:=.tuple #[]) (results_none rfl _ _ _) rfl ?_
      exact HE.out.1.kdrop1.kturns HE.out.2
end
section
variable {F:List Nat} {w u:wW} {b:Nat} {p:KP} {k:KT} {l pre:List ak}
theorem KT.ok.come (h:k.ok) (st cpu:Int):(k.come st cpu).ok:=by
 unfold KT.come
 split
 ·exact h.wCo (lh _ _ _)
 ·split
  ·exact h.wOb (km _ _)
  ·exact KT.ok.folds (λk i h=>h.aim i) _ (KT.ok.folds (λk i h=>h.mend i) _ ((h.wOn (fk h.on _)).wAc (fk h.ac _)))
theorem zM (h:(aa b k).holds F w) (hT:bA w) (hF:tzL_ren.g 1∉F) (st cpu:Int):Calls tp 264 #[vp (sS ⟨b,0,nN⟩),vi iQ st,vi iQ cpu] w (al (aa b (k.come st cpu)) F (.tuple #[]) w):=by
 by_cases h1:st=1
 ·subst h1;exact rr h cpu
 by_cases h2:st=2
 ·subst h2;exact oK h cpu
 exact tS h hT hF st cpu h1 h2
theorem KT.ok.leave (h:k.ok) (st cpu by_:Int):(k.leave st cpu by_).ok:=by
 unfold KT.leave
 split;· exact h.wAc (dQ (fK cpu) h.ac)
 split;· exact h.empty _
 split;· exact h.wTm (vR _ _ _)
 split;· exact h.wWk (qI _ _)
 split;· exact h.wCb (vX _ _ _)
 split;· exact h.halt _ _
 split;· exact h.wOb (km _ _)
 split;· exact h.wCt (nI _ _ _)
 exact (h.wOn (dQ (fK cpu) h.on)).wCo (lh _ _ _)
theorem tN (h:(aa b k).holds F w) (hT:bA w) (hF:tzL_ren.g 1∉F) (cpu by_:Int):Calls tp 265 #[vp (sS ⟨b,0,nN⟩),vi iQ 2,vi iQ cpu,vi iQ by_] w (al (aa b (k.empty cpu)) F (vb (k.emptyB cpu)) w):=by
 obtain ⟨hok,p,hA⟩:=ad h
 have HP:=zh (hA.kern1.kcall hok hT hF (λF1 h1 hT1 hF1=>xM h1 hT1 hF1 cpu))
 clear hA h hok
 go_in
 go_wp2_with (
  go_at_call 308
  refine HP.out.mono ?_
  rintro e w1 ⟨rfl,ho,p1,hB⟩
  have HB:=zh (And.intro ho hB)
  clear ho hB HP)
 go_ret
 exact ⟨rfl,HB.out.2.kernel HB.out.1⟩
theorem tJ (h:(aa b k).holds F w) (hT:bA w) (hF:tzL_ren.g 1∉F) (cpu by_:Int):Calls tp 265 #[vp (sS ⟨b,0,nN⟩),vi iQ 6,vi iQ cpu,vi iQ by_] w (al (aa b (k.halt cpu by_)) F (vb k.haltB) w):=by
 obtain ⟨hok,p,hA⟩:=ad h
 have HP:=zh (hA.kern1.kcall hok hT hF (λF1 h1 hT1 hF1=>zJ h1 hT1 hF1 cpu by_))
 clear hA h hok
 go_in
 go_wp2_with (
  go_at_call 312
  refine HP.out.mono ?_
  rintro e w1 ⟨rfl,ho,p1,hB⟩
  have HB:=zh (And.intro ho hB)
  clear ho hB HP)
 go_ret
 exact ⟨rfl,HB.out.2.kernel HB.out.1⟩
theorem tM (h:(aa b k).holds F w) (hT:bA w) (hF:tzL_ren.g 1∉F) (cpu by_:Int):Calls tp 265 #[vp (sS ⟨b,0,nN⟩),vi iQ 3,vi iQ cpu,vi iQ by_] w (al (aa b { k with tm:=k.tm.move cpu by_ }) F (vb (decide (k.tm.moveE cpu by_≠0))) w):=by
 obtain ⟨hok,p,hA⟩:=ad h
 have HO:=zh (hok.wTm (vR k.tm cpu by_))
 have cc:w.cell? ⟨b,2,nN⟩=sS (vp (sS ⟨p.tm,0,nN⟩)):=hA.kC 2
 have hP:=hA.call (P:=tp) (f:=309) 4 rfl (λF1 h1=>yC h1 cpu by_)
 generalize k.tm.moveE cpu by_=e0 at *
 clear hA h hok
 go_in
 go_wp2_with (
  go_at_call 309
  refine hP.s λw1 hB=>?_
  have HB:=zh (show On F w (ag b p { k with tm:=k.tm.move cpu by_ }) w1 from hB)
  clear hB hP)
 go_ret
 exact ⟨by first|rfl|(simp [bne];done)|(simp;rfl),HB.out.kernel HO.out⟩
theorem tL (h:(aa b k).holds F w) (hT:bA w) (hF:tzL_ren.g 1∉F) (cpu by_:Int):Calls tp 265 #[vp (sS ⟨b,0,nN⟩),vi iQ 4,vi iQ cpu,vi iQ by_] w (al (aa b { k with wk:=k.wk.unbind cpu }) F (vb (decide (k.wk.unbindE cpu≠0))) w):=by
 obtain ⟨hok,p,hA⟩:=ad h
 have HO:=zh (hok.wWk (qI k.wk cpu))
 have cc:w.cell? ⟨b,5,nN⟩=sS (vp (sS ⟨p.wk,0,nN⟩)):=hA.kC 5
 have hP:=hA.call (P:=tp) (f:=310) 7 rfl (λF1 h1=>yh h1 cpu)
 generalize k.wk.unbindE cpu=e0 at *
 clear hA h hok
 go_in
 go_wp2_with (
  go_at_call 310
  refine hP.s λw1 hB=>?_
  have HB:=zh (show On F w (ag b p { k with wk:=k.wk.unbind cpu }) w1 from hB)
  clear hB hP)
 go_ret
 exact ⟨by first|rfl|(simp [bne];done)|(simp;rfl),HB.out.kernel HO.out⟩
theorem tK (h:(aa b k).holds F w) (hT:bA w) (hF:tzL_ren.g 1∉F) (cpu by_:Int):Calls tp 265 #[vp (sS ⟨b,0,nN⟩),vi iQ 5,vi iQ cpu,vi iQ by_] w (al (aa b { k with cb:=k.cb.move cpu by_ }) F (vb (decide (k.cb.moveE cpu by_≠0))) w):=by
 obtain ⟨hok,p,hA⟩:=ad h
 have HO:=zh (hok.wCb (vX k.cb cpu by_))
 have cc:w.cell? ⟨b,6,nN⟩=sS (vp (sS ⟨p.cb,0,nN⟩)):=hA.kC 6
 have hP:=hA.call (P:=tp) (f:=311) 8 rfl (λF1 h1=>Fl h1 cpu by_)
 generalize k.cb.moveE cpu by_=e0 at *
 clear hA h hok
 go_in
 go_wp2_with (
  go_at_call 311
  refine hP.s λw1 hB=>?_
  have HB:=zh (show On F w (ag b p { k with cb:=k.cb.move cpu by_ }) w1 from hB)
  clear hB hP)
 go_ret
 exact ⟨by first|rfl|(simp [bne];done)|(simp;rfl),HB.out.kernel HO.out⟩
theorem tI (h:(aa b k).holds F w) (hT:bA w) (hF:tzL_ren.g 1∉F) (cpu by_:Int):Calls tp 265 #[vp (sS ⟨b,0,nN⟩),vi iQ 7,vi iQ cpu,vi iQ by_] w (al (aa b { k with ob:=k.ob.drain cpu }) F (vb tQ) w):=by
 obtain ⟨hok,p,hA⟩:=ad h
 have HO:=zh (hok.wOb (km k.ob cpu))
 have cc:w.cell? ⟨b,7,nN⟩=sS (vp (sS ⟨p.ob,0,nN⟩)):=hA.kC 7
 have hP:=hA.call (P:=tp) (f:=306) 9 rfl (λF1 h1=>qB h1 cpu)
 generalize (if k.ob.is cpu then (0:Int) else 3)=e0 at *
 clear hA h hok
 go_in
 go_wp2_with (
  go_at_call 306
  refine hP.s λw1 hB=>?_
  have HB:=zh (show On F w (ag b p { k with ob:=k.ob.drain cpu }) w1 from hB)
  clear hB hP)
 go_ret
 exact ⟨by first|rfl|(simp [bne];done)|(simp;rfl),HB.out.kernel HO.out⟩
theorem tH (h:(aa b k).holds F w) (hT:bA w) (hF:tzL_ren.g 1∉F) (cpu by_:Int):Calls tp 265 #[vp (sS ⟨b,0,nN⟩),vi iQ 8,vi iQ cpu,vi iQ by_] w (al (aa b { k with ct:=fq k.ct cpu by_ }) F (vb tQ) w):=by
 obtain ⟨hok,p,hA⟩:=ad h
 have HO:=zh (hok.wCt (nI k.ct cpu by_))
 have cc:w.cell? ⟨b,8,nN⟩=sS (vp (sS ⟨p.ct,0,nN⟩)):=hA.kC 8
 have hP:=hA.call (P:=tp) (f:=313) 10 rfl (λF1 h1=>yL h1 cpu by_)
 generalize fU k.ct cpu by_=e0 at *
 clear hA h hok
 go_in
 go_wp2_with (
  go_at_call 313
  refine hP.s λw1 hB=>?_
  have HB:=zh (show On F w (ag b p { k with ct:=fq k.ct cpu by_ }) w1 from hB)
  clear hB hP)
 go_ret
 exact ⟨by first|rfl|(simp [bne];done)|(simp;rfl),HB.out.kernel HO.out⟩
theorem tO (h:(aa b k).holds F w) (hT:bA w) (hF:tzL_ren.g 1∉F) (cpu by_:Int):Calls tp 265 #[vp (sS ⟨b,0,nN⟩),vi iQ 1,vi iQ cpu,vi iQ by_] w (al (aa b { k with active:=aK k.active cpu }) F (vb tQ) w):=by
 obtain ⟨hok,p,hA⟩:=ad h
 have HO:=zh (show KT.ok { k with active:=aK k.active cpu } from hok.wAc (dQ (fK cpu) hok.ac))
 have c17:w.cell? ⟨b,17,nN⟩=sS (vi uQ (k.active:Nat)):=hA.kC 17
 have f17:=hA.kF 17
 have l0:=hA.size 0 rfl
 have hLe:=λw=>jF k.active hok.ac cpu w
 have HS:=zh (λj=>((hA.keep (u':=w.drewN j) (mR.drewN j)).set 0 rfl 17 (vi uQ (aK k.active cpu:Nat))))
 clear hA h hok
 generalize aK k.active cpu=lm at *
 go_in
 go_wp2_with (go_at_call 152;refine (hLe _).r λj=>?_)
 go_ret
 exact (show On F w (ag b p { k with active:=lm }) _ from HS.out _).kturns HO.out
theorem tP (h:(aa b k).holds F w) (st cpu by_:Int) (h1:st≠1) (h2:st≠2) (h3:st≠3) (h4:st≠4) (h5:st≠5) (h6:st≠6) (h7:st≠7) (h8:st≠8):Calls tp 265 #[vp (sS ⟨b,0,nN⟩),vi iQ st,vi iQ cpu,vi iQ by_] w (al (aa b { k with online:=aK k.online cpu,co:=k.co.pow cpu fF }) F (vb tQ) w):=by
 obtain ⟨hok,p,hA⟩:=ad h
 have q1:(st==1)=fF:=by simpa using h1
 have q2:(st==2)=fF:=by simpa using h2
 have q3:(st==3)=fF:=by simpa using h3
 have q4:(st==4)=fF:=by simpa using h4
 have q5:(st==5)=fF:=by simpa using h5
 have q6:(st==6)=fF:=by simpa using h6
 have q7:(st==7)=fF:=by simpa using h7
 have q8:(st==8)=fF:=by simpa using h8
 have HO:=zh (show KT.ok { k with online:=aK k.online cpu,co:=k.co.pow cpu fF } from (hok.wOn (dQ (fK cpu) hok.on)).wCo (lh k.co cpu fF))
 have c16:w.cell? ⟨b,16,nN⟩=sS (vi uQ (k.online:Nat)):=hA.kC 16
 have f16:=hA.kF 16
 have l0:=hA.size 0 rfl
 have hLe:=λw=>jF k.online hok.on cpu w
 have HS:=zh (λj=>(show On F w (ag b p { k with online:=aK k.online cpu }) _ from ((hA.keep (u':=w.drewN j) (mR.drewN j)).set 0 rfl 16 (vi uQ (aK k.online cpu:Nat)))))
 clear hA h hok h1 h2 h3 h4 h5 h6 h7 h8
 generalize aK k.online cpu=lm at *
 generalize k.co.powE cpu fF=pe at *
 go_in
 go_wp2_with (first
  | (
   go_at_call 152
   refine (hLe _).r λj=>?_
   have hB:=HS.out j
   have d12:((w.drewN j).setCell ⟨b,16,nN⟩ (vi uQ (lm:Nat))).cell? ⟨b,12,nN⟩=sS (vp (sS ⟨p.co,0,nN⟩)):=hB.kC 12
   have hP:=hB.call (P:=tp) (f:=305) 12 rfl (λF1 h1=>nw h1 cpu fF)
   clear hB hLe)
  | (
   go_at_call 305
   refine hP.s λw1 hB=>?_
   have HB:=zh (show On F w (ag b p { k with online:=lm,co:=k.co.pow cpu fF }) w1 from hB)
   clear hB hP))
 go_ret
 exact HB.out.kturns HO.out
theorem xK (h:(aa b k).holds F w) (hT:bA w) (hF:tzL_ren.g 1∉F) (st cpu by_:Int):Calls tp 265 #[vp (sS ⟨b,0,nN⟩),vi iQ st,vi iQ cpu,vi iQ by_] w (al (aa b (k.leave st cpu by_)) F (vb (k.leaveB st cpu by_)) w):=by
 by_cases h1:st=1
 ·subst h1;exact tO h hT hF cpu by_
 by_cases h2:st=2
 ·subst h2;exact tN h hT hF cpu by_
 by_cases h3:st=3
 ·subst h3;exact tM h hT hF cpu by_
 by_cases h4:st=4
 ·subst h4;exact tL h hT hF cpu by_
 by_cases h5:st=5
 ·subst h5;exact tK h hT hF cpu by_
 by_cases h6:st=6
 ·subst h6;exact tJ h hT hF cpu by_
 by_cases h7:st=7
 ·subst h7;exact tI h hT hF cpu by_
 by_cases h8:st=8
 ·subst h8;exact tH h hT hF cpu by_
 unfold KT.leave KT.leaveB
 rw [nG h1,nG h2,nG h3,nG h4,nG h5,nG h6,nG h7,nG h8,nG h2,nG h3,nG h4,nG h5,nG h6]
 exact tP h st cpu by_ h1 h2 h3 h4 h5 h6 h7 h8
end
section
variable {F:List Nat} {w u:wW} {b:Nat} {p:KP} {k:KT} {l pre:List ak}
theorem KT.ok.exit (h:k.ok) (id:Int) (x:jQ):(k.exit id x).ok:=by
 unfold KT.exit
 split
 ·exact (h.quiet _).wTh (vT _ _)
 ·exact (h.wRq (eX _ _)).wTh (vT _ _)
theorem zL (h:(aa b k).holds F w) (hT:bA w) (hF:tzL_ren.g 1∉F) (id:Int) (x:jQ):Calls tp 120 #[vp (sS ⟨b,0,nN⟩),vi iQ id,.agg (kZ x).toArray] w (al (aa b (k.exit id x)) F (vi iQ (k.th.getE id)) w):=by
 obtain ⟨hok,p,hA⟩:=ad h
 have HO:=zh (hok.exit id x)
 obtain ⟨pr,mk,cp,fo,sl,ti⟩:=x
 simp only [kZ]
 have HX:=zh (hA.alloc (.cells #[vi iQ pr,vi uQ (mk:Nat),vi iQ cp,vb fo,vb sl,vi iQ ti] 237 (0,0))).front
 cases sl
 ·have eT:k.exit id ⟨pr,mk,cp,fo,fF,ti⟩={ k with rq:=k.rq.take id,th:=k.th.exit id }:=rfl
  rw [eT] at HO ⊢
  have c1:(w.alloc (.cells #[vi iQ pr,vi uQ (mk:Nat),vi iQ cp,vb fo,vb fF,vi iQ ti] 237 (0,0))).cell? ⟨b,1,nN⟩=sS (vp (sS ⟨p.rq,0,nN⟩)):=HX.out.cell 1 rfl 1
  have hQ:=HX.out.call (P:=tp) (f:=215) 4 rfl (λF1 h1=>jz h1 id)
  generalize k.rq.takeE id=e0 at *
  clear hA h hok eT HX
  generalize hw0:w.heap.size=xb at *
  clear hw0
  go_in
  go_wp2_with (first
   | (
    go_at_call 215
    refine hQ.s λw1 hB=>?_
    have hB:On F w ([ak.blk xb (.cells #[vi iQ pr,vi uQ (mk:Nat),vi iQ cp,vb fo,vb fF,vi iQ ti] 237 (0,0))]++ag b p { k with rq:=k.rq.take id }) w1:=hB
    have c0:w1.cell? ⟨b,0,nN⟩=sS (vp (sS ⟨p.th,0,nN⟩)):=hB.cell 1 rfl 0
    have hE:=hB.call (P:=tp) (f:=216) 3 rfl (λF1 h1=>qA h1 id)
    clear hB hQ)
   | (
    go_at_call 216
    refine hE.s λw2 hC=>?_
    have HC:=zh (show On F w ([ak.blk xb (.cells #[vi iQ pr,vi uQ (mk:Nat),vi iQ cp,vb fo,vb fF,vi iQ ti] 237 (0,0))]++ag b p { k with rq:=k.rq.take id,th:=k.th.exit id }) w2 from hC)
    clear hC hE))
  go_ret
  exact HC.out.kdrop1.kturns HO.out
 ·have eT:k.exit id ⟨pr,mk,cp,fo,tQ,ti⟩={ k.quiet ti with th:=k.th.exit id }:=rfl
  rw [eT] at HO ⊢
  have HQ:=zh (On.kcall (pre:=[_]) HX.out hok hT hF (λF1 h1 hT1 hF1=>oE h1 ti))
  clear hA h hok eT HX
  generalize hw0:w.heap.size=xb at *
  clear hw0
  go_in
  go_wp2_with (first
   | (
    go_at_call 125
    refine HQ.out.mono ?_
    rintro e w1 ⟨rfl,ho,p1,hB⟩
    have c0:w1.cell? ⟨b,0,nN⟩=sS (vp (sS ⟨p1.th,0,nN⟩)):=hB.cell 1 rfl 0
    have hE:=hB.call (P:=tp) (f:=216) 3 rfl (λF1 h1=>qA h1 id)
    clear hB HQ ho)
   | (
    go_at_call 216
    refine hE.s λw2 hC=>?_
    have HC:=zh (show On F w ([ak.blk xb (.cells #[vi iQ pr,vi uQ (mk:Nat),vi iQ cp,vb fo,vb tQ,vi iQ ti] 237 (0,0))]++ag b p1 { k.quiet ti with th:=k.th.exit id }) w2 from hC)
    clear hC hE))
  go_ret
  exact HC.out.kdrop1.kturns HO.out
theorem KT.ok.arm (h:k.ok) (c d:Int):(k.arm c d).ok:=by
 unfold KT.arm;split
 ·exact h
 ·exact h.wTm (oc _ _ _)
theorem BN (h:(aa b k).holds F w) (hT:bA w) (hF:tzL_ren.g 1∉F) (c d:Int):Calls tp 145 #[vp (sS ⟨b,0,nN⟩),vi iQ c,vi iQ d] w (al (aa b (k.arm c d)) F (.tuple #[vi iQ (k.armV c d),vi iQ (k.armE c d)]) w):=by
 obtain ⟨hok,p,hA⟩:=ad h
 have HO:=zh (hok.arm c d)
 have c18:w.cell? ⟨b,18,nN⟩=sS (vi iQ k.now):=hA.kC 18
 have c2:w.cell? ⟨b,2,nN⟩=sS (vp (sS ⟨p.tm,0,nN⟩)):=hA.kC 2
 have hL:=λw=>iw k.now d w
 have eK:k.arm c d=if aO k.now d≠0 then k else { k with tm:=k.tm.arm c (aI k.now d) }:=rfl
 have eV:k.armV c d=if aO k.now d≠0 then 0 else k.tm.armV c (aI k.now d):=rfl
 have eE:k.armE c d=if aO k.now d≠0 then aO k.now d else k.tm.armE c (aI k.now d):=rfl
 have hAr:=λj=>(hA.keep (u':=w.drewN j) (mR.drewN j)).callU (P:=tp) (f:=218) hT hF 4 rfl (λF1 h1 hT1 hF1=>mQ h1 hT1 hF1 c (aI k.now d))
 have HA:=zh (λj=>hA.keep (u':=w.drewN j) (mR.drewN j))
 by_cases hE:aO k.now d=0
 ·rw [nG (by simpa using hE)] at eK eV eE
  rw [eK] at HO
  rw [eK,eV,eE]
  rw [hE] at hL
  clear hA h hok eK eV eE hE HA
  generalize aI k.now d=due at *
  go_in
  go_wp2_with (first
   | (go_at_call 114;refine (hL _).r λj=>?_;have hAr:=hAr j;clear hL)
   | (
    go_at_call 218
    refine hAr.s λw1 hB=>?_
    have HB:=zh (show On F w (ag b p { k with tm:=k.tm.arm c due }) w1 from hB)
    clear hB hAr))
  go_ret2
  exact HB.out.kturns HO.out
 ·rw [pG hE] at eK eV eE
  rw [eK] at HO
  rw [eK,eV,eE]
  have hne:(aO k.now d != 0)=tQ:=by rw [bne_iff_ne];exact hE
  clear hA h hok eK eV eE hAr
  generalize aI k.now d=due at *
  generalize aO k.now d=le at *
  clear hE
  go_in
  go_wp2_with (go_at_call 114;refine (hL _).r λj=>?_;clear hL)
  go_ret2
  exact (HA.out _).kturns HO.out
theorem KT.ok.sleep (h:k.ok) (id:Int) (x:jQ) (d:Int):(k.sleep id x d).ok:=by
 unfold KT.sleep;split
 ·exact h
 ·split
  ·exact h
  ·exact (((h.wTm (oc _ _ _)).wOwn _).wRq (eX _ _)).wTh (sY _ _ _)
theorem pQ (h:(aa b k).holds F w) (id:Int) (x:jQ) (d:Int) (hE:aO k.now d≠0):Calls tp 123 #[vp (sS ⟨b,0,nN⟩),vi iQ id,.agg (kZ x).toArray,vi iQ d] w (al (aa b k) F (.tuple #[vi iQ 0,vi iQ (aO k.now d)]) w):=by
 obtain ⟨hok,p,hA⟩:=ad h
 have HO:=zh hok
 obtain ⟨pr,mk,cp,fo,sl,ti⟩:=x
 simp only [kZ]
 have HX:=zh (hA.alloc (.cells #[vi iQ pr,vi uQ (mk:Nat),vi iQ cp,vb fo,vb sl,vi iQ ti] 237 (0,0))).front
 have c18:(w.alloc (.cells #[vi iQ pr,vi uQ (mk:Nat),vi iQ cp,vb fo,vb sl,vi iQ ti] 237 (0,0))).cell? ⟨b,18,nN⟩=sS (vi iQ k.now):=HX.out.cell 1 rfl 18
 have hL:=λw=>iw k.now d w
 have hne:(aO k.now d != 0)=tQ:=by rw [bne_iff_ne];exact hE
 generalize aI k.now d=due at *
 generalize aO k.now d=le at *
 clear hE hA h hok
 go_in
 go_wp2_with (go_at_call 114;refine (hL _).r λj=>?_;clear hL)
 go_ret2
 exact ((HX.out.keep (u':=_) (mR.drewN _)).drop 0).kturns HO.out
/-- What comes of the timer's arming. -/
theorem rp (h:(aa b k).holds F w) (hT:bA w) (hF:tzL_ren.g 1∉F) (id:Int) (x:jQ) (d:Int) (hE:aO k.now d=0) (c:Int) (hcp:k.sleepC x=c) (hA0:k.tm.armE c (aI k.now d)≠0):Calls tp 123 #[vp (sS ⟨b,0,nN⟩),vi iQ id,.agg (kZ x).toArray,vi iQ d] w (al (aa b { k with tm:=k.tm.arm c (aI k.now d) }) F (.tuple #[vi iQ 0,vi iQ (k.tm.armE c (aI k.now d))]) w):=by
 obtain ⟨hok,p,hA⟩:=ad h
 have hac:=hok.ac
 obtain ⟨pr,mk,cp,fo,sl,ti⟩:=x
 simp only [kZ]
 have HX:=zh (hA.alloc (.cells #[vi iQ pr,vi uQ (mk:Nat),vi iQ cp,vb fo,vb sl,vi iQ ti] 237 (0,0))).front
 have c18:(w.alloc (.cells #[vi iQ pr,vi uQ (mk:Nat),vi iQ cp,vb fo,vb sl,vi iQ ti] 237 (0,0))).cell? ⟨b,18,nN⟩=sS (vi iQ k.now):=HX.out.cell 1 rfl 18
 have c17:(w.alloc (.cells #[vi iQ pr,vi uQ (mk:Nat),vi iQ cp,vb fo,vb sl,vi iQ ti] 237 (0,0))).cell? ⟨b,17,nN⟩=sS (vi uQ (k.active:Nat)):=HX.out.cell 1 rfl 17
 have c2:(w.alloc (.cells #[vi iQ pr,vi uQ (mk:Nat),vi iQ cp,vb fo,vb sl,vi iQ ti] 237 (0,0))).cell? ⟨b,2,nN⟩=sS (vp (sS ⟨p.tm,0,nN⟩)):=HX.out.cell 1 rfl 2
 have x2:(w.alloc (.cells #[vi iQ pr,vi uQ (mk:Nat),vi iQ cp,vb fo,vb sl,vi iQ ti] 237 (0,0))).cell? ⟨w.heap.size,2,nN⟩=sS (vi iQ cp):=HX.out.cell 0 rfl 2
 have hL:=λw=>iw k.now d w
 have hHa:=λw=>bK k.active hac cp w
 have hFi:=λj=>ey k.active hac ((w.alloc (.cells #[vi iQ pr,vi uQ (mk:Nat),vi iQ cp,vb fo,vb sl,vi iQ ti] 237 (0,0))).drewN j) ((HX.out.tab hT hF).drewN j)
 have hAr:=λj=>(HX.out.keep (u':=(w.alloc (.cells #[vi iQ pr,vi uQ (mk:Nat),vi iQ cp,vb fo,vb sl,vi iQ ti] 237 (0,0))).drewN j) (mR.drewN j)).callU (P:=tp) (f:=218) hT hF 5 rfl (λF1 h1 hT1 hF1=>mQ h1 hT1 hF1 c (aI k.now d))
 rw [hE] at hL
 have eC:k.sleepC ⟨pr,mk,cp,fo,sl,ti⟩=if aW k.active cp then cp else bF k.active:=rfl
 rw [eC] at hcp
 clear hE hA h eC
 have HO:=zh (hok.wTm (oc k.tm c (aI k.now d)))
 have hne:(k.tm.armE c (aI k.now d) != 0)=tQ:=by rw [bne_iff_ne];exact hA0
 generalize aI k.now d=due at *
 generalize k.tm.armE c due=ae at *
 generalize k.tm.armV c due=av at *
 clear hA0 hok
 cases hh:aW k.active cp
 all_goals
  rw [hh] at hHa hcp
  simp only [Bool.false_eq_true,if_false,if_true] at hcp
  subst hcp
  clear hh
  go_in
  go_wp2_with (first
   | (go_at_call 114;refine (hL _).r λj=>?_;clear hL)
   | (go_at_call 150;refine (hHa _).r λj2=>?_;have hFi:=hFi (j+j2);clear hHa)
   | (go_at_call 153;refine (hFi).r λj3=>?_;clear hFi)
   | (
    go_at_call 218
    refine (hAr _).s λw1 hB=>?_
    have HB:=zh (show On F w ([_]++ag b p { k with tm:=k.tm.arm _ due }) w1 from hB)
    clear hB hAr))
  go_ret2
  exact HB.out.kdrop1.kturns HO.out
theorem pP (h:(aa b k).holds F w) (hT:bA w) (hF:tzL_ren.g 1∉F) (id:Int) (x:jQ) (d:Int) (hE:aO k.now d=0) (c:Int) (hcp:k.sleepC x=c) (hA0:k.tm.armE c (aI k.now d)=0):Calls tp 123 #[vp (sS ⟨b,0,nN⟩),vi iQ id,.agg (kZ x).toArray,vi iQ d] w
  (al (aa b { k with tm:=k.tm.arm c (aI k.now d),own:=cA k.own (k.tm.armV c (aI k.now d)) id,rq:=k.rq.take id,th:=k.th.sleep id (k.tm.armV c (aI k.now d)) }) F (.tuple #[vi iQ (k.tm.armV c (aI k.now d)),vi iQ (k.th.sleepE id)]) w):=by
 obtain ⟨hok,p,hA⟩:=ad h
 have hac:=hok.ac
 obtain ⟨pr,mk,cp,fo,sl,ti⟩:=x
 simp only [kZ]
 have HX:=zh (hA.alloc (.cells #[vi iQ pr,vi uQ (mk:Nat),vi iQ cp,vb fo,vb sl,vi iQ ti] 237 (0,0))).front
 have c18:(w.alloc (.cells #[vi iQ pr,vi uQ (mk:Nat),vi iQ cp,vb fo,vb sl,vi iQ ti] 237 (0,0))).cell? ⟨b,18,nN⟩=sS (vi iQ k.now):=HX.out.cell 1 rfl 18
 have c17:(w.alloc (.cells #[vi iQ pr,vi uQ (mk:Nat),vi iQ cp,vb fo,vb sl,vi iQ ti] 237 (0,0))).cell? ⟨b,17,nN⟩=sS (vi uQ (k.active:Nat)):=HX.out.cell 1 rfl 17
 have c2:(w.alloc (.cells #[vi iQ pr,vi uQ (mk:Nat),vi iQ cp,vb fo,vb sl,vi iQ ti] 237 (0,0))).cell? ⟨b,2,nN⟩=sS (vp (sS ⟨p.tm,0,nN⟩)):=HX.out.cell 1 rfl 2
 have x2:(w.alloc (.cells #[vi iQ pr,vi uQ (mk:Nat),vi iQ cp,vb fo,vb sl,vi iQ ti] 237 (0,0))).cell? ⟨w.heap.size,2,nN⟩=sS (vi iQ cp):=HX.out.cell 0 rfl 2
 have hL:=λw=>iw k.now d w
 have hHa:=λw=>bK k.active hac cp w
 have hFi:=λj=>ey k.active hac ((w.alloc (.cells #[vi iQ pr,vi uQ (mk:Nat),vi iQ cp,vb fo,vb sl,vi iQ ti] 237 (0,0))).drewN j) ((HX.out.tab hT hF).drewN j)
 have hAr:=λj=>(HX.out.keep (u':=(w.alloc (.cells #[vi iQ pr,vi uQ (mk:Nat),vi iQ cp,vb fo,vb sl,vi iQ ti] 237 (0,0))).drewN j) (mR.drewN j)).callU (P:=tp) (f:=218) hT hF 5 rfl (λF1 h1 hT1 hF1=>mQ h1 hT1 hF1 c (aI k.now d))
 rw [hE] at hL
 have eC:k.sleepC ⟨pr,mk,cp,fo,sl,ti⟩=if aW k.active cp then cp else bF k.active:=rfl
 rw [eC] at hcp
 clear hE hA h eC
 have HO:=zh ((((hok.wTm (oc k.tm c (aI k.now d))).wOwn (cA k.own (k.tm.armV c (aI k.now d)) id)).wRq (eX k.rq id)).wTh (sY k.th id (k.tm.armV c (aI k.now d))))
 rw [hA0] at hAr
 generalize aI k.now d=due at *
 generalize k.tm.armV c due=av at *
 clear hA0 hok
 cases hh:aW k.active cp
 all_goals
  rw [hh] at hHa hcp
  simp only [Bool.false_eq_true,if_false,if_true] at hcp
  subst hcp
  clear hh
  go_in
  go_wp2_with (first
   | (go_at_call 114;refine (hL _).r λj=>?_;clear hL)
   | (go_at_call 150;refine (hHa _).r λj2=>?_;have hFi:=hFi (j+j2);clear hHa)
   | (go_at_call 153;refine (hFi).r λj3=>?_;clear hFi)
   | (
    go_at_call 218
    refine (hAr _).s λw1 hB=>?_
    have hB:On F w ([_]++ag b p { k with tm:=k.tm.arm _ due }) w1:=hB
    have c20:w1.cell? ⟨b,20,nN⟩=sS (.map (sS p.ow)):=hB.cell 1 rfl 20
    obtain ⟨w2,n',hput,hD⟩:=hB.kown av id
    have c1:w2.cell? ⟨b,1,nN⟩=sS (vp (sS ⟨p.rq,0,nN⟩)):=hD.cell 1 rfl 1
    have hQ:=hD.call (P:=tp) (f:=215) 4 rfl (λF1 h1=>jz h1 id)
    clear hB hAr hD)
   | (
    go_at_call 215
    refine hQ.s λw3 hB=>?_
    have hB:On F w ([_]++ag b { p with cnt:=n' } { k with tm:=k.tm.arm _ due,own:=cA k.own av id,rq:=k.rq.take id }) w3:=hB
    have c0:w3.cell? ⟨b,0,nN⟩=sS (vp (sS ⟨p.th,0,nN⟩)):=hB.cell 1 rfl 0
    have hE:=hB.call (P:=tp) (f:=219) 3 rfl (λF1 h1=>xm h1 id av)
    clear hB hQ)
   | (
    go_at_call 219
    refine hE.s λw4 hC=>?_
    have HC:=zh (show On F w ([_]++ag b { p with cnt:=n' } { k with tm:=k.tm.arm _ due,own:=cA k.own av id,rq:=k.rq.take id,th:=k.th.sleep id av }) w4 from hC)
    clear hC hE))
  go_ret2
  exact HC.out.kdrop1.kturns HO.out
theorem KT.tmArmNo (k:KT) {c d:Int} (h:k.tm.armE c d≠0):({ k with tm:=k.tm.arm c d }:KT)=k:=by
 have:k.tm.arm c d=k.tm:=by unfold TA.arm;exact nG h
 rw [this]
theorem xJ (h:(aa b k).holds F w) (hT:bA w) (hF:tzL_ren.g 1∉F) (id:Int) (x:jQ) (d:Int):Calls tp 123 #[vp (sS ⟨b,0,nN⟩),vi iQ id,.agg (kZ x).toArray,vi iQ d] w (al (aa b (k.sleep id x d)) F (.tuple #[vi iQ (k.sleepV x d),vi iQ (k.sleepE id x d)]) w):=by
 by_cases hE:aO k.now d=0
 ·have hE':¬ aO k.now d≠0:=λe=>e hE
  by_cases hA0:k.tm.armE (k.sleepC x) (aI k.now d)=0
  ·have hA':¬ k.tm.armE (k.sleepC x) (aI k.now d)≠0:=λe=>e hA0
   have:=pP h hT hF id x d hE _ rfl hA0
   unfold KT.sleep KT.sleepV KT.sleepE
   rw [nG hE',nG hE',nG hE',nG hA',nG hA',nG hA']
   exact this
  ·have:=rp h hT hF id x d hE _ rfl hA0
   rw [KT.tmArmNo k hA0] at this
   unfold KT.sleep KT.sleepV KT.sleepE
   rw [nG hE',nG hE',nG hE',pG hA0,pG hA0,pG hA0]
   exact this
 ·unfold KT.sleep KT.sleepV KT.sleepE
  rw [pG hE,pG hE,pG hE]
  exact pQ h id x d hE
end
end Go.Proofs.YtmiapbgkphpgoaaGreatDoor