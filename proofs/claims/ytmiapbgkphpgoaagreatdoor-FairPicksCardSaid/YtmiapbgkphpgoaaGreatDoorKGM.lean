/- Walks and plain laws of the kernel. No condition. -/
import Derived.Test.YtmiapbgkphpgoaaGreatDoorKFM
import Derived.Test.YtmiapbgkphpgoaaGreatDoorK5M
namespace Go.Proofs.YtmiapbgkphpgoaaGreatDoor
set_option linter.unusedVariables false
set_option linter.unusedSimpArgs false
set_option maxRecDepth 100000
set_option maxHeartbeats 20000000
open Go.RowKit
open Go.Proofs.Tryz renaming prog → tp
open List renaming setIfInBounds_toArray → sA, set_cons_zero → sB, set_cons_succ → sC
open Go renaming World → wW
open Go.Value renaming pointer → vp, bool → vb, int → vi
open Go.IntKind renaming i64 → iQ, u64 → uQ
open Option renaming none → nN, some → sS
open Bool renaming true → tQ, false → fF
open Int renaming eq_ofNat_of_zero_le → iN
/-- Records in memory. -/
def jB (a:Option Addr) (l:List cX):ak where
 holds F w:=(l=[] /\ F=[]) \/ ∃ g,a=sS ⟨g,0,nN⟩ /\ F=[g] /\ w.heap[g]?=sS (.cells (cC [] l.length (λi=>kT (l.getD i ⟨0,0,0,0,0⟩)) []) 63 (0,0))
 keep:=by
  rintro F S w w' (h|⟨g,h1,h2,h3⟩) m hS
  ·exact .inl h
  ·exact .inr ⟨g,h1,h2,m.keep h3 (hS g (by rw [h2];simp))⟩
 lt:=by
  rintro F w (⟨_,rfl⟩|⟨g,h1,rfl,h3⟩) x hx
  ·cases hx
  ·simp at hx;subst hx;exact bY h3
/-- What a call of a kernel does: its records, and what it is then. -/
def bo (b:Nat) (k:KT) (l:List cX) (F:List Nat) (w:wW) (e:Ending) (w':wW):Prop:=∃ a c,e=.returned (.slice a l.length c) /\ On F w [aa b k,jB a l] w'
section
variable {F:List Nat} {w u:wW} {b:Nat} {p:KP} {k:KT} {l:List cX}
theorem gC.does {e:Ending} {w':wW} (h:gC l u e w') (hA:On F w [aa b k] u):bo b k l F w e w':=by
 obtain ⟨a,c,rfl,m,hs⟩:=h
 refine ⟨a,c,rfl,?_⟩
 have hB:=hA.keep m
 rcases hs with ⟨h1,h2,h3⟩|⟨h1,g,h2,h3,h4⟩
 ·exact hB.more (P:=jB a l) (.inl ⟨h1,rfl⟩)
 ·obtain ⟨F1,⟨F2,F3,e1,g1,e2,g3⟩,g4,g5⟩:=hA
  subst e2
  simp only [List.append_nil] at e1
  subst e1
  refine ⟨F1++[g],⟨F1,[g],rfl,(aa b k).keep g1 m sM,⟨[g],[],by simp,.inr ⟨g,h2,rfl,h4⟩,rfl,by simp⟩,?_⟩,g4.trans m sM,?_⟩
  ·intro x hx hx2
   have:=(aa b k).lt g1 x hx
   simp at hx2
   omega
  ·intro x hx
   rcases List.mem_append.1 hx with hx|hx
   ·exact g5 x hx
   ·simp at hx;subst hx
    have:=g4.size
    exact .inr oM
theorem KT.ok.did (h:k.ok) (cpu:Int):(k.did cpu).ok:=
 ⟨h.n1,h.n2,h.th,h.rq,h.tm,h.wk,h.cb,h.ob,(yP k.ct cpu 1).trans h.ct,h.gt,h.co,h.mt,h.rt,h.iq,h.on,h.ac,h.now,h.lim⟩
theorem eY (hok:k.ok) (hA:On F w (ag b p k) u) (cpu kind id n:Int):Calls tp 197 #[vp (sS ⟨b,0,nN⟩),vi iQ cpu,vi iQ kind,vi iQ id,vi iQ n] u (bo b (k.did cpu) [⟨kind,cpu,id,n,0⟩] F w):=by
 have c8:u.cell? ⟨b,8,nN⟩=sS (vp (sS ⟨p.ct,0,nN⟩)):=hA.kC 8
 have hS:=hA.call (P:=tp) (f:=240) 10 rfl (λF1 h1=>AX h1 cpu 1 dE)
 have hok2:=zh (hok.did cpu)
 clear hA
 go_in
 go_wp2_with (go_at_call 240;refine hS.s λw1 hB=>?_;have HB:=zh (show On F w (ag b p (k.did cpu)) w1 from hB);clear hB hS)
 go_ret
 have:gC [⟨kind,cpu,id,n,0⟩] w1 (.returned (.slice (sS ⟨w1.heap.size,0,nN⟩) 1 1)) (w1.alloc (.cells #[vi iQ kind,vi iQ cpu,vi iQ id,vi iQ n,vi iQ 0] 63 (0,0))):=
  ⟨_,1,rfl,mR.alloc _,.inr ⟨rfl,_,rfl,Nat.le_refl _,ai _ _⟩⟩
 exact this.does (HB.out.kernel hok2.out).on
end
section
variable {F:List Nat} {w u:wW} {b:Nat} {p:KP} {k:KT} {l:List cX}
theorem uW (hok:k.ok) (hA:On F w (ag b p k) u) (cpu:Int):Calls tp 113 #[vp (sS ⟨b,0,nN⟩),vi iQ cpu,vi iQ 8] u (bo b (({ k with rq:=k.rq.pick cpu }:KT).did cpu) [⟨2,cpu,k.rq.pickV cpu,0,0⟩] F w):=by
 have c1:u.cell? ⟨b,1,nN⟩=sS (vp (sS ⟨p.rq,0,nN⟩)):=hA.kC 1
 have hS:=hA.call (P:=tp) (f:=201) 3 rfl (λF1 h1=>Dy h1 cpu)
 have hok2:KT.ok { k with rq:=k.rq.pick cpu }:=by
  refine ⟨hok.n1,hok.n2,hok.th,?_,hok.tm,hok.wk,hok.cb,hok.ob,hok.ct,hok.gt,hok.co,hok.mt,hok.rt,hok.iq,hok.on,hok.ac,hok.now,hok.lim⟩
  show (k.rq.pick cpu).n=k.n
  unfold RQ.pick;split<;>exact hok.rq
 have HO:=zh hok2
 generalize k.rq.pickV cpu=v at *
 generalize k.rq.pickE cpu=e0 at *
 clear hA hok2
 go_in
 go_wp2_with (first
  | (
   go_at_call 201
   refine hS.s λw1 hB=>?_
   have hD:=eY HO.out (show On F w (ag b p { k with rq:=k.rq.pick cpu }) w1 from hB) cpu 2 v 0
   clear hB hS)
  | (go_at_call 197;refine hD.mono ?_;rintro e w2 ⟨a,c,rfl,hE⟩))
 go_ret
 exact ⟨a,c,rfl,hE⟩
end
section
variable {F:List Nat} {w u:wW} {b:Nat} {p:KP} {k:KT} {l:List cX}
theorem KT.ok.counted (hok:k.ok) (cpu:Int) (busy:Bool):KT.ok { k with co:=k.co.count cpu busy }:=by
 refine ⟨hok.n1,hok.n2,hok.th,hok.rq,hok.tm,hok.wk,hok.cb,hok.ob,hok.ct,hok.gt,?_,hok.mt,hok.rt,hok.iq,hok.on,hok.ac,hok.now,hok.lim⟩
 show (k.co.count cpu busy).n=k.n
 unfold CT.count
 first|(split<;>exact hok.co)|exact hok.co|(repeat (first|split|exact hok.co))
end
end Go.Proofs.YtmiapbgkphpgoaaGreatDoor