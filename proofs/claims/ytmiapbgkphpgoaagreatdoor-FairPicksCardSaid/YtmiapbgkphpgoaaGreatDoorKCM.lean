/- Walks and plain laws of the kernel. No condition. -/
import Derived.Test.YtmiapbgkphpgoaaGreatDoorKBM
import Derived.Test.YtmiapbgkphpgoaaGreatDoorBaseM
import Derived.Test.YtmiapbgkphpgoaaGreatDoorKAM
import Derived.Deep.MidRow
namespace Go.Proofs.YtmiapbgkphpgoaaGreatDoor
set_option linter.unusedVariables false
set_option linter.unusedSimpArgs false
set_option maxRecDepth 100000
set_option maxHeartbeats 20000000
open Go.RowKit
open Go.Proofs.Tryz renaming prog → tp
open List renaming setIfInBounds_toArray → sA, set_cons_zero → sB, set_cons_succ → sC
open Go renaming World → wW
open Go.Value renaming pointer → vp, bool → vb, int → vi
open Go.IntKind renaming i64 → iQ, u64 → uQ
open Option renaming none → nN, some → sS
open Bool renaming true → tQ, false → fF
open Int renaming eq_ofNat_of_zero_le → iN
/-- Of 16 interrupts: the core plus one, or 0. -/
structure RT where
 n:Nat
 c:Nat -> Int
def RT.ok (t:RT):Prop:=1 <= t.n /\ t.n <= 64 /\ ∀ i,0 <= t.c i /\ t.c i <= 64
def dd (i:Int):Prop:=0 <= i /\ i<16
instance instRoute1 (i:Int):Decidable (dd i):=by unfold dd;infer_instance
def RT.put (t:RT) (i:Nat) (v:Int):RT:={ t with c:=aq t.c i v }
def kr (i:Int):Int:=if dd i then 0 else 3
def RT.setE (t:RT) (i cpu:Int):Int:=if ¬ dd i then 3 else if cpu<0 \/ (t.n:Int) <= cpu then 3 else 0
def RT.set (t:RT) (i cpu:Int):RT:=if t.setE i cpu=0 then t.put i.toNat (cpu+1) else t
def RT.has (t:RT) (i:Int):Bool:=decide (dd i /\ t.c i.toNat≠0)
def RT.of (t:RT) (i:Int):Int:=if t.has i then t.c i.toNat - 1 else 0
def RT.offE (t:RT) (i:Int):Int:=if ¬ dd i then 3 else if t.c i.toNat=0 then 4 else 0
def RT.off (t:RT) (i:Int):RT:=if t.offE i=0 then t.put i.toNat 0 else t
def gH (t:RT):Obj:=.cells (cC [] 16 (λi=>[vi iQ (t.c i)]) [vi iQ t.n]) 190 (0,0)
def fV (b:Nat) (t:RT):ak:=ak.such t.ok (ak.blk b (gH t))
theorem RT.put_ok {t:RT} (h:t.ok) (i:Nat) {v:Int} (hv:0 <= v /\ v <= 64):(t.put i v).ok:=by
 refine ⟨h.1,h.2.1,λj=>?_⟩
 show 0 <= aq t.c i v j /\ aq t.c i v j <= 64
 by_cases e:j=i
 ·subst e;rw [ah];exact hv
 ·rw [ao _ _ e];exact h.2.2 j
section
variable {F:List Nat} {w u:wW} {b:Nat} {t:RT}
theorem mV (h:(fV b t).holds F w):t.ok /\ On F w [ak.blk b (gH t)] w:=⟨h.1,On.one h.2⟩
theorem On.route (h:On F w [ak.blk b (gH t)] u) (hok:t.ok):dt (fV b t) F w u:=h.gain1.imp λF' h'=>⟨hok,h'⟩
theorem On.routeN (h:On F w [ak.blk b (gH t)] u):u.cell? ⟨b,16,nN⟩=sS (vi iQ t.n):=by
 rw [h.cell 0 rfl 16]
 exact (lW (k:=1) (f:=λi=>[vi iQ (t.c i)]) (λi=>rfl) (j:=0) (o:=16) rfl)
theorem On.routeC (h:On F w [ak.blk b (gH t)] u) {i:Nat} (hi:i<16):u.cell? ⟨b,i,nN⟩=sS (vi iQ (t.c i)):=by
 rw [h.cell 0 rfl i]
 exact (gN (k:=1) (f:=λi=>[vi iQ (t.c i)]) (λi=>rfl) hi (j:=0) dE sM)
theorem On.routeSet (h:On F w [ak.blk b (gH t)] u) {i:Nat} (hi:i<16) (v:Int):On F w [ak.blk b (gH (t.put i v))] (u.setCell ⟨b,i,nN⟩ (vi iQ v)):=by
 have:=h.set 0 rfl i (vi iQ v)
 rw [gM (k:=1) (f:=λi=>[vi iQ (t.c i)]) (λi=>rfl) hi (j:=0) dE (vi iQ v) sM] at this
 have e:aq (λi=>[vi iQ (t.c i)]) i ([vi iQ (t.c i)].set 0 (vi iQ v))=λx=>[vi iQ ((t.put i v).c x)]:=by
  funext x
  show _=[vi iQ (aq t.c i v x)]
  by_cases ex:x=i
  ·subst ex;rw [ah,ah];rfl
  ·rw [ao _ _ ex,ao _ _ ex]
 rw [e] at this
 exact this
theorem pB (b:Nat) (i:Int) (w:wW):Calls tp 228 #[vp (sS ⟨b,0,nN⟩),vi iQ i] w (au (vi iQ (kr i)) w):=by
 unfold kr
 by_cases hi:dd i
 ·rw [pG hi]
  obtain ⟨h1,h2⟩:=hi
  go_in
  go_wp2
  go_ret
  exact au.of (rfl) dz
 ·rw [nG hi]
  have h2:i<0 \/ (¬ i<0 /\ (16:Int) <= i):=by unfold dd at hi;omega
  clear hi
  rcases h2 with h2|⟨h1,h2⟩
  all_goals
   go_in
   go_wp2
   go_ret
   exact au.of (rfl) dz
theorem DB (h:(fV b t).holds F w) (i cpu:Int):Calls tp 227 #[vp (sS ⟨b,0,nN⟩),vi iQ i,vi iQ cpu] w (al (fV b (t.set i cpu)) F (vi iQ (t.setE i cpu)) w):=by
 obtain ⟨hok,hA⟩:=mV h
 have hM:=λw=>pB b i w
 have cn:=hA.routeN
 have hO:=zh hA
 by_cases hi:dd i
 ·rw [show kr i=0 from pG hi] at hM
  by_cases hc:cpu<0 \/ (t.n:Int) <= cpu
  ·have e1:t.setE i cpu=3:=by unfold RT.setE;rw [nG (by simpa using hi),pG hc]
   have e2:t.set i cpu=t:=nG (by rw [e1];decide)
   rw [e1,e2]
   clear e1 e2 hA h
   obtain ⟨h1,h2⟩:=hi
   have hc2:cpu<0 \/ (¬ cpu<0 /\ (t.n:Int) <= cpu):=by omega
   clear hc
   rcases hc2 with h3|⟨h3,h4⟩
   all_goals
    go_in
    go_wp2_with (go_at_call 228;refine (hM _).r λk=>?_)
    go_ret
    refine ⟨rfl,(hO.out.keep ?_).route hok⟩
    exact ms
  ·have e1:t.setE i cpu=0:=by unfold RT.setE;rw [nG (by simpa using hi),nG hc]
   have e2:t.set i cpu=t.put i.toNat (cpu+1):=pG e1
   rw [e1,e2]
   clear e1 e2 h
   obtain ⟨h1,h2⟩:=hi
   obtain ⟨j,rfl⟩:=iN h1
   obtain ⟨h3,h4⟩:0 <= cpu /\ cpu<t.n:=by omega
   have hn:=hok.2.1
   clear hc
   have hj:j<16:=by omega
   have cj:=hA.routeC hj
   have fj:w.frozen? ⟨b,j,nN⟩=fF:=hA.free 0 rfl _
   clear hA
   simp only [Int.toNat_natCast]
   go_in
   go_wp2_with (go_at_call 228;refine (hM _).r λk=>?_)
   go_ret
   refine ⟨rfl,?_⟩
   refine On.route ?_ (RT.put_ok hok j oM)
   refine On.routeSet ?_ hj _
   exact hO.out.keep mz
 ·rw [show kr i=3 from nG hi] at hM
  have e1:t.setE i cpu=3:=pG hi
  have e2:t.set i cpu=t:=nG (by rw [e1];decide)
  rw [e1,e2]
  clear e1 e2 hA h
  go_in
  go_wp2_with (go_at_call 228;refine (hM _).r λk=>?_)
  go_ret
  refine ⟨rfl,(hO.out.keep ?_).route hok⟩
  exact ms
theorem DC (h:(fV b t).holds F w) (i:Int):Calls tp 133 #[vp (sS ⟨b,0,nN⟩),vi iQ i] w (al (fV b (t.off i)) F (vi iQ (t.offE i)) w):=by
 obtain ⟨hok,hA⟩:=mV h
 have hM:=λw=>pB b i w
 have hO:=zh hA
 by_cases hi:dd i
 ·rw [show kr i=0 from pG hi] at hM
  by_cases hc:t.c i.toNat=0
  ·have e1:t.offE i=4:=by unfold RT.offE;rw [nG (by simpa using hi),pG hc]
   have e2:t.off i=t:=nG (by rw [e1];decide)
   rw [e1,e2]
   clear e1 e2 h
   obtain ⟨h1,h2⟩:=hi
   obtain ⟨j,rfl⟩:=iN h1
   simp only [Int.toNat_natCast] at *
   have hj:j<16:=by omega
   have cj:=hA.routeC hj
   rw [hc] at cj
   clear hA hc
   go_in
   go_wp2_with (go_at_call 228;refine (hM _).r λk=>?_)
   go_ret
   refine ⟨rfl,(hO.out.keep ?_).route hok⟩
   exact ms
  ·have e1:t.offE i=0:=by unfold RT.offE;rw [nG (by simpa using hi),nG hc]
   have e2:t.off i=t.put i.toNat 0:=pG e1
   rw [e1,e2]
   clear e1 e2 h
   obtain ⟨h1,h2⟩:=hi
   obtain ⟨j,rfl⟩:=iN h1
   simp only [Int.toNat_natCast] at *
   have hj:j<16:=by omega
   have cj:=hA.routeC hj
   have fj:w.frozen? ⟨b,j,nN⟩=fF:=hA.free 0 rfl _
   have hc2:(t.c j==0)=fF:=by simp [hc]
   clear hA
   go_in
   go_wp2_with (go_at_call 228;refine (hM _).r λk=>?_)
   go_ret
   refine ⟨rfl,?_⟩
   refine On.route ?_ (RT.put_ok hok j oM)
   refine On.routeSet ?_ hj _
   exact hO.out.keep mz
 ·rw [show kr i=3 from nG hi] at hM
  have e1:t.offE i=3:=pG hi
  have e2:t.off i=t:=nG (by rw [e1];decide)
  rw [e1,e2]
  clear e1 e2 hA h
  go_in
  go_wp2_with (go_at_call 228;refine (hM _).r λk=>?_)
  go_ret
  refine ⟨rfl,(hO.out.keep ?_).route hok⟩
  exact ms
theorem yS (h:(fV b t).holds F w) (i:Int):Calls tp 229 #[vp (sS ⟨b,0,nN⟩),vi iQ i] w (au (.tuple #[vi iQ (t.of i),vb (t.has i)]) w):=by
 obtain ⟨hok,hA⟩:=mV h
 have hM:=λw=>pB b i w
 by_cases hi:dd i
 ·rw [show kr i=0 from pG hi] at hM
  by_cases hc:t.c i.toNat=0
  ·have e1:t.has i=fF:=decide_eq_false (by rintro ⟨_,h⟩;exact h hc)
   have e2:t.of i=0:=nG (by rw [e1];decide)
   rw [e1,e2]
   clear e1 e2 h
   obtain ⟨h1,h2⟩:=hi
   obtain ⟨j,rfl⟩:=iN h1
   simp only [Int.toNat_natCast] at *
   have hj:j<16:=by omega
   have cj:=hA.routeC hj
   rw [hc] at cj
   clear hA hc
   go_in
   go_wp2_with (go_at_call 228;refine (hM _).r λk=>?_)
   go_ret2
   exact au.of (rfl) dz
  ·have e1:t.has i=tQ:=decide_eq_true ⟨hi,hc⟩
   have e2:t.of i=t.c i.toNat - 1:=pG e1
   rw [e1,e2]
   clear e1 e2 h
   obtain ⟨h1,h2⟩:=hi
   obtain ⟨j,rfl⟩:=iN h1
   simp only [Int.toNat_natCast] at *
   have hj:j<16:=by omega
   have cj:=hA.routeC hj
   have hcb:=hok.2.2 j
   have hc2:(t.c j==0)=fF:=by simp [hc]
   clear hA hok
   generalize t.c j=x at *
   obtain ⟨hx1,hx2⟩:=hcb
   go_in
   go_wp2_with (go_at_call 228;refine (hM _).r λk=>?_)
   go_ret2
   exact au.of (rfl) dz
 ·rw [show kr i=3 from nG hi] at hM
  have e1:t.has i=fF:=decide_eq_false (by rintro ⟨h,_⟩;exact hi h)
  have e2:t.of i=0:=nG (by rw [e1];decide)
  rw [e1,e2]
  clear e1 e2 hA h
  go_in
  go_wp2_with (go_at_call 228;refine (hM _).r λk=>?_)
  go_ret2
  exact au.of (rfl) dz
end
structure vv where
 wanted:Bool
 masked:Bool
 pending:Bool
 mask:Nat
def gK (x:vv):List Value:=[vb x.wanted,vb x.masked,vb x.pending,vi uQ (x.mask:Nat)]
def ud:vv:=⟨fF,fF,fF,0⟩
structure IT where
 cpus:Nat
 c:Nat -> vv
def IT.ok (t:IT):Prop:=t.cpus<2 ^ 64 /\ ∀ i,(t.c i).mask<2 ^ 64
def IT.put (t:IT) (i:Nat) (x:vv):IT:={ t with c:=aq t.c i x }
def IT.at (t:IT) (i:Int):vv:=t.c i.toNat
def IT.right (t:IT) (m:Nat):Bool:=decide (m≠0)&&decide (dF m t.cpus=0)
def IT.wantE (t:IT) (i:Int):Int:=if ¬ dd i then 3 else if (t.at i).wanted then 0 else 4
def IT.reqE (t:IT) (i:Int) (m:Nat):Int:=if ¬ dd i then 3 else if (t.at i).wanted then 6 else if t.right m then 0 else 2
def IT.req (t:IT) (i:Int) (m:Nat):IT:=if t.reqE i m=0 then t.put i.toNat ⟨tQ,fF,fF,m⟩ else t
def IT.free (t:IT) (i:Int):IT:=if t.wantE i=0 then t.put i.toNat ud else t
def IT.aimE (t:IT) (i:Int) (m:Nat):Int:=if t.wantE i≠0 then t.wantE i else if t.right m then 0 else 2
def IT.aim (t:IT) (i:Int) (m:Nat):IT:=if t.aimE i m=0 then t.put i.toNat { t.at i with mask:=m } else t
def IT.hushE (t:IT) (i:Int) (is:Bool):Int:=if t.wantE i≠0 then t.wantE i else if (t.at i).masked=is then 6 else 0
def IT.hush (t:IT) (i:Int) (is:Bool):IT:=if t.hushE i is=0 then t.put i.toNat { t.at i with masked:=is } else t
def IT.raise (t:IT) (i:Int):IT:=if t.wantE i=0 then t.put i.toNat { t.at i with pending:=true } else t
def IT.ready (t:IT) (i:Int):Bool:=decide (t.wantE i=0)&&(t.at i).pending&&!(t.at i).masked
def IT.clearE (t:IT) (i:Int):Int:=if t.wantE i≠0 then t.wantE i else if t.ready i then 0 else 12
def IT.clear (t:IT) (i:Int):IT:=if t.clearE i=0 then t.put i.toNat { t.at i with pending:=false } else t
def bH (t:IT):Obj:=.cells (cC [] 16 (λi=>gK (t.c i)) [vi uQ (t.cpus:Nat)]) 187 (0,0)
def fL (b:Nat) (t:IT):ak:=ak.such t.ok (ak.blk b (bH t))
theorem IT.put_ok {t:IT} (h:t.ok) (i:Nat) {x:vv} (hx:x.mask<2 ^ 64):(t.put i x).ok:=by
 refine ⟨h.1,λj=>?_⟩
 show (aq t.c i x j).mask<_
 by_cases e:j=i
 ·subst e;rw [ah];exact hx
 ·rw [ao _ _ e];exact h.2 j
theorem IT.put_self (t:IT) (i:Nat):t.put i (t.c i)=t:=by
 cases t with
 | mk n c=>
  show IT.mk n (aq c i (c i))=_
  congr 1
  funext x
  by_cases e:x=i
  ·subst e;exact ah _ _ _
  ·exact ao _ _ e
section
variable {F:List Nat} {w u:wW} {b:Nat} {t:IT}
theorem fB (h:(fL b t).holds F w):t.ok /\ On F w [ak.blk b (bH t)] w:=⟨h.1,On.one h.2⟩
theorem On.irq (h:On F w [ak.blk b (bH t)] u) (hok:t.ok):dt (fL b t) F w u:=h.gain1.imp λF' h'=>⟨hok,h'⟩
theorem On.irqN (h:On F w [ak.blk b (bH t)] u):u.cell? ⟨b,64,nN⟩=sS (vi uQ (t.cpus:Nat)):=by
 rw [h.cell 0 rfl 64]
 exact (lW (k:=4) (f:=λi=>gK (t.c i)) (λi=>rfl) (j:=0) (o:=64) rfl)
theorem On.irqC (h:On F w [ak.blk b (bH t)] u) {i:Nat} (hi:i<16) (j:Nat) (hj:j<4):u.cell? ⟨b,i * 4+j,nN⟩=(gK (t.c i))[j]?:=by
 rw [h.cell 0 rfl (i * 4+j)]
 exact (gN (k:=4) (f:=λi=>gK (t.c i)) (λi=>rfl) hi (j:=j) hj sM)
theorem On.irqSet (h:On F w [ak.blk b (bH t)] u) {i:Nat} (hi:i<16) (j:Nat) (hj:j<4) (v:Value) {x':vv} (hc:(gK (t.c i)).set j v=gK x'):On F w [ak.blk b (bH (t.put i x'))] (u.setCell ⟨b,i * 4+j,nN⟩ v):=by
 have:=h.set 0 rfl (i * 4+j) v
 rw [gM (k:=4) (f:=λi=>gK (t.c i)) (λi=>rfl) hi (j:=j) hj v sM] at this
 have e:aq (λi=>gK (t.c i)) i ((gK (t.c i)).set j v)=λx=>gK ((t.put i x').c x):=by
  funext x
  show _=gK (aq t.c i x' x)
  by_cases ex:x=i
  ·subst ex;rw [ah,ah,hc]
  ·rw [ao _ _ ex,ao _ _ ex]
 rw [e] at this
 exact this
theorem On.irqPut {x:vv} {i:Nat} (h:On F w [ak.blk b (bH (t.put i x))] u) (hi:i<16) (j:Nat) (hj:j<4) (v:Value) {x':vv} (hc:(gK x).set j v=gK x'):On F w [ak.blk b (bH (t.put i x'))] (u.setCell ⟨b,i * 4+j,nN⟩ v):=by
 have e:(t.put i x).c i=x:=ah _ _ _
 have:=h.irqSet (i:=i) hi j hj v (x':=x') (by rw [e];exact hc)
 have e2:(t.put i x).put i x'=t.put i x':=by
  show IT.mk t.cpus _=IT.mk t.cpus _
  congr 1
  funext z
  by_cases e:z=i
  ·subst e;rw [ah,ah]
  ·rw [ao _ _ e,ao _ _ e];exact ao _ _ e
 rwa [e2] at this
theorem uc (b:Nat) (i:Int) (w:wW):Calls tp 224 #[vp (sS ⟨b,0,nN⟩),vi iQ i] w (au (.tuple #[vp (if dd i then sS ⟨b,i.toNat * 4,nN⟩ else nN),vi iQ (kr i)]) w):=by
 unfold kr
 by_cases hi:dd i
 ·rw [pG hi,pG hi]
  obtain ⟨h1,h2⟩:=hi
  obtain ⟨c,rfl⟩:=iN h1
  simp only [Int.toNat_natCast]
  go_in
  go_wp2
  go_ret2
  exact au.of sM dz
 ·rw [nG hi,nG hi]
  have h2:i<0 \/ (¬ i<0 /\ (16:Int) <= i):=by unfold dd at hi;omega
  clear hi
  rcases h2 with h2|⟨h1,h2⟩
  all_goals
   go_in
   go_wp2
   go_ret2
   exact au.of (rfl) dz
theorem gd (hok:t.ok) (hA:On F w [ak.blk b (bH t)] w) (i:Int):Calls tp 170 #[vp (sS ⟨b,0,nN⟩),vi iQ i] w (au (.tuple #[vp (if t.wantE i=0 then sS ⟨b,i.toNat * 4,nN⟩ else nN),vi iQ (t.wantE i)]) w):=by
 have hM:=λw=>uc b i w
 by_cases hi:dd i
 ·rw [show kr i=0 from pG hi,pG hi] at hM
  by_cases hw:(t.at i).wanted
  ·have e1:t.wantE i=0:=by unfold IT.wantE;rw [nG (by simpa using hi),pG hw]
   rw [e1,pG rfl]
   clear e1
   obtain ⟨h1,h2⟩:=hi
   obtain ⟨j,rfl⟩:=iN h1
   have hj:j<16:=by omega
   simp only [IT.at,Int.toNat_natCast] at *
   have hB:=zh (show On F w [ak.blk b (bH (t.put j (t.c j)))] w by rw [IT.put_self];exact hA)
   have c0:w.cell? ⟨b,j * 4,nN⟩=sS (vb (t.c j).wanted):=hA.irqC hj 0 dE
   have c1:w.cell? ⟨b,j * 4+1,nN⟩=sS (vb (t.c j).masked):=hA.irqC hj 1 dE
   have c2:w.cell? ⟨b,j * 4+2,nN⟩=sS (vb (t.c j).pending):=hA.irqC hj 2 dE
   have c3:w.cell? ⟨b,j * 4+3,nN⟩=sS (vi uQ ((t.c j).mask:Nat)):=hA.irqC hj 3 dE
   have f0:w.frozen? ⟨b,j * 4,nN⟩=fF:=hA.free 0 rfl _
   have f1:w.frozen? ⟨b,j * 4+1,nN⟩=fF:=hA.free 0 rfl _
   have f2:w.frozen? ⟨b,j * 4+2,nN⟩=fF:=hA.free 0 rfl _
   have f3:w.frozen? ⟨b,j * 4+3,nN⟩=fF:=hA.free 0 rfl _
   have hmk:=hok.2 j
   generalize t.c j=x at *
   clear hA
   obtain ⟨wa,ma,pe,mk⟩:=x
   dsimp only at *
   subst hw
   go_in
   go_wp2_with (go_at_call 224;refine (hM _).r λk=>?_)
   go_ret2
   exact au.of (rfl) dz
  ·have e1:t.wantE i=4:=by unfold IT.wantE;rw [nG (by simpa using hi),nG hw]
   rw [e1,nG dE]
   clear e1
   obtain ⟨h1,h2⟩:=hi
   obtain ⟨j,rfl⟩:=iN h1
   have hj:j<16:=by omega
   simp only [IT.at,Int.toNat_natCast] at *
   have hB:=zh (show On F w [ak.blk b (bH (t.put j (t.c j)))] w by rw [IT.put_self];exact hA)
   have c0:w.cell? ⟨b,j * 4,nN⟩=sS (vb (t.c j).wanted):=hA.irqC hj 0 dE
   have c1:w.cell? ⟨b,j * 4+1,nN⟩=sS (vb (t.c j).masked):=hA.irqC hj 1 dE
   have c2:w.cell? ⟨b,j * 4+2,nN⟩=sS (vb (t.c j).pending):=hA.irqC hj 2 dE
   have c3:w.cell? ⟨b,j * 4+3,nN⟩=sS (vi uQ ((t.c j).mask:Nat)):=hA.irqC hj 3 dE
   have f0:w.frozen? ⟨b,j * 4,nN⟩=fF:=hA.free 0 rfl _
   have f1:w.frozen? ⟨b,j * 4+1,nN⟩=fF:=hA.free 0 rfl _
   have f2:w.frozen? ⟨b,j * 4+2,nN⟩=fF:=hA.free 0 rfl _
   have f3:w.frozen? ⟨b,j * 4+3,nN⟩=fF:=hA.free 0 rfl _
   have hmk:=hok.2 j
   generalize t.c j=x at *
   clear hA
   obtain ⟨wa,ma,pe,mk⟩:=x
   dsimp only at *
   have hw:wa=fF:=by simpa using hw
   subst hw
   go_in
   go_wp2_with (go_at_call 224;refine (hM _).r λk=>?_)
   go_ret2
   exact au.of (rfl) dz
 ·have e1:t.wantE i=3:=pG hi
  rw [show kr i=3 from nG hi,nG hi] at hM
  rw [e1,nG dE]
  clear e1 hA
  go_in
  go_wp2_with (go_at_call 224;refine (hM _).r λk=>?_)
  go_ret2
  exact au.of (rfl) dz
theorem Ew (hok:t.ok) (hA:On F w [ak.blk b (bH t)] u) (m:Nat) (hm:m<2 ^ 64):Calls tp 225 #[vp (sS ⟨b,0,nN⟩),vi uQ (m:Nat)] u (au (vb (t.right m)) u):=by
 have c0:=hA.irqN
 have hW:=λw=>qK m t.cpus hm hok.1 w
 unfold IT.right
 generalize t.cpus=x at *
 clear hA
 by_cases h0:m=0
 ·subst h0
  go_in
  go_wp2
  go_ret
  exact au.of sM dz
 ·have hne:((m:Int)==0)=fF:=by simp;omega
  have h1:decide (m≠0)=tQ:=by simp [h0]
  rw [h1]
  generalize decide (dF m x=0)=y at *
  go_in
  go_wp2_with (go_at_call 36;refine (hW _).r λk=>?_)
  go_ret
  exact au.of (by simp [h0]) dz
theorem gA {i:Int} (h:t.wantE i=0):dd i:=by
 by_cases hi:dd i
 ·exact hi
 ·unfold IT.wantE at h;rw [pG hi] at h;omega
theorem cF {i:Int} (h:t.wantE i=0):(t.at i).wanted=tQ:=by
 have hi:=gA h
 unfold IT.wantE at h
 rw [nG (by simpa using hi)] at h
 by_cases hw:(t.at i).wanted
 ·exact hw
 ·rw [nG hw] at h;omega
theorem zU (h:(fL b t).holds F w) (i:Int):Calls tp 131 #[vp (sS ⟨b,0,nN⟩),vi iQ i] w (al (fL b (t.free i)) F (vi iQ (t.wantE i)) w):=by
 obtain ⟨hok,hA⟩:=fB h
 have hM:=gd hok hA i
 have hO:=zh hA
 clear h
 by_cases hi:t.wantE i=0
 ·rw [show t.free i=t.put i.toNat ud from pG hi,hi]
  have hi2:=hi
  replace hi:=gA hi
  rw [hi2,pG rfl] at hM
  have hwt:=cF hi2
  clear hi2
  obtain ⟨h1,h2⟩:=hi
  obtain ⟨j,rfl⟩:=iN h1
  have hj:j<16:=by omega
  simp only [IT.at,Int.toNat_natCast] at *
  have hB:=zh (show On F w [ak.blk b (bH (t.put j (t.c j)))] w by rw [IT.put_self];exact hA)
  have c0:w.cell? ⟨b,j * 4,nN⟩=sS (vb (t.c j).wanted):=hA.irqC hj 0 dE
  have c1:w.cell? ⟨b,j * 4+1,nN⟩=sS (vb (t.c j).masked):=hA.irqC hj 1 dE
  have c2:w.cell? ⟨b,j * 4+2,nN⟩=sS (vb (t.c j).pending):=hA.irqC hj 2 dE
  have c3:w.cell? ⟨b,j * 4+3,nN⟩=sS (vi uQ ((t.c j).mask:Nat)):=hA.irqC hj 3 dE
  have f0:w.frozen? ⟨b,j * 4,nN⟩=fF:=hA.free 0 rfl _
  have f1:w.frozen? ⟨b,j * 4+1,nN⟩=fF:=hA.free 0 rfl _
  have f2:w.frozen? ⟨b,j * 4+2,nN⟩=fF:=hA.free 0 rfl _
  have f3:w.frozen? ⟨b,j * 4+3,nN⟩=fF:=hA.free 0 rfl _
  have hmk:=hok.2 j
  generalize t.c j=x at *
  clear hA
  obtain ⟨wa,ma,pe,mk⟩:=x
  dsimp only at *
  subst hwt
  go_in
  go_wp2_with (go_at_call 170;refine hM.r λk=>?_)
  go_ret
  refine ⟨rfl,?_⟩
  refine On.irq ?_ (IT.put_ok hok j dE)
  refine ((((?_:On F w _ _).irqPut hj 0 dE (vb fF) (x:=⟨tQ,ma,pe,mk⟩) (x':=⟨fF,ma,pe,mk⟩) rfl).irqPut hj 1 dE (vb fF) (x':=⟨fF,fF,pe,mk⟩) rfl).irqPut hj 2 dE (vb fF) (x':=⟨fF,fF,fF,mk⟩) rfl).irqPut hj 3 dE (vi uQ 0) (x':=ud) rfl
  exact hB.out.keep mz
 ·rw [show t.free i=t from nG hi]
  have he:(t.wantE i==0)=fF:=by simp [hi]
  rw [nG hi] at hM
  generalize t.wantE i=e1 at *
  clear hA
  go_in
  go_wp2_with (go_at_call 170;refine hM.r λk=>?_)
  go_ret
  refine ⟨rfl,(hO.out.keep ?_).irq hok⟩
  exact ms
theorem EA (h:(fL b t).holds F w) (i:Int):Calls tp 139 #[vp (sS ⟨b,0,nN⟩),vi iQ i] w (al (fL b (t.raise i)) F (vi iQ (t.wantE i)) w):=by
 obtain ⟨hok,hA⟩:=fB h
 have hM:=gd hok hA i
 have hO:=zh hA
 clear h
 by_cases hi:t.wantE i=0
 ·rw [show t.raise i=t.put i.toNat { t.at i with pending:=true } from pG hi,hi]
  have hi2:=hi
  replace hi:=gA hi
  rw [hi2,pG rfl] at hM
  have hwt:=cF hi2
  clear hi2
  obtain ⟨h1,h2⟩:=hi
  obtain ⟨j,rfl⟩:=iN h1
  have hj:j<16:=by omega
  simp only [IT.at,Int.toNat_natCast] at *
  have hB:=zh (show On F w [ak.blk b (bH (t.put j (t.c j)))] w by rw [IT.put_self];exact hA)
  have c0:w.cell? ⟨b,j * 4,nN⟩=sS (vb (t.c j).wanted):=hA.irqC hj 0 dE
  have c1:w.cell? ⟨b,j * 4+1,nN⟩=sS (vb (t.c j).masked):=hA.irqC hj 1 dE
  have c2:w.cell? ⟨b,j * 4+2,nN⟩=sS (vb (t.c j).pending):=hA.irqC hj 2 dE
  have c3:w.cell? ⟨b,j * 4+3,nN⟩=sS (vi uQ ((t.c j).mask:Nat)):=hA.irqC hj 3 dE
  have f0:w.frozen? ⟨b,j * 4,nN⟩=fF:=hA.free 0 rfl _
  have f1:w.frozen? ⟨b,j * 4+1,nN⟩=fF:=hA.free 0 rfl _
  have f2:w.frozen? ⟨b,j * 4+2,nN⟩=fF:=hA.free 0 rfl _
  have f3:w.frozen? ⟨b,j * 4+3,nN⟩=fF:=hA.free 0 rfl _
  have hmk:=hok.2 j
  generalize t.c j=x at *
  clear hA
  obtain ⟨wa,ma,pe,mk⟩:=x
  dsimp only at *
  subst hwt
  go_in
  go_wp2_with (go_at_call 170;refine hM.r λk=>?_)
  go_ret
  refine ⟨rfl,?_⟩
  refine On.irq ?_ (IT.put_ok hok j hmk)
  refine (?_:On F w _ _).irqPut hj 2 dE (vb tQ) (x:=⟨tQ,ma,pe,mk⟩) (x':=⟨tQ,ma,tQ,mk⟩) rfl
  exact hB.out.keep mz
 ·rw [show t.raise i=t from nG hi]
  have he:(t.wantE i==0)=fF:=by simp [hi]
  rw [nG hi] at hM
  generalize t.wantE i=e1 at *
  clear hA
  go_in
  go_wp2_with (go_at_call 170;refine hM.r λk=>?_)
  go_ret
  refine ⟨rfl,(hO.out.keep ?_).irq hok⟩
  exact ms
end
section
variable {F:List Nat} {w u:wW} {b:Nat} {t:IT}
theorem ub (hok:t.ok) (hA:On F w [ak.blk b (bH t)] w) (m:Nat) (hm:m<2 ^ 64) (k:Nat):Calls tp 225 #[vp (sS ⟨b,0,nN⟩),vi uQ (m:Nat)] (w.drewN k) (au (vb (t.right m)) (w.drewN k)):=Ew hok (hA.keep (mR.drewN k)) m hm
theorem CG (h:(fL b t).holds F w) (i:Int) (m:Nat) (hm:m<2 ^ 64):Calls tp 134 #[vp (sS ⟨b,0,nN⟩),vi iQ i,vi uQ (m:Nat)] w (al (fL b (t.aim i m)) F (vi iQ (t.aimE i m)) w):=by
 obtain ⟨hok,hA⟩:=fB h
 have hM:=gd hok hA i
 have hO:=zh hA
 clear h
 have hR:=ub hok hA m hm
 by_cases hi:t.wantE i=0
 ·cases hr:t.right m
  ·have e1:t.aimE i m=2:=by unfold IT.aimE;rw [nG (by simpa using hi),nG (by rw [hr];decide)]
   rw [show t.aim i m=t from nG (by rw [e1];decide),e1]
   rw [hr] at hR
   clear e1 hr
   have hi2:=hi
   replace hi:=gA hi
   rw [hi2,pG rfl] at hM
   have hwt:=cF hi2
   clear hi2
   obtain ⟨h1,h2⟩:=hi
   obtain ⟨j,rfl⟩:=iN h1
   have hj:j<16:=by omega
   simp only [IT.at,Int.toNat_natCast] at *
   have hB:=zh (show On F w [ak.blk b (bH (t.put j (t.c j)))] w by rw [IT.put_self];exact hA)
   have c0:w.cell? ⟨b,j * 4,nN⟩=sS (vb (t.c j).wanted):=hA.irqC hj 0 dE
   have c1:w.cell? ⟨b,j * 4+1,nN⟩=sS (vb (t.c j).masked):=hA.irqC hj 1 dE
   have c2:w.cell? ⟨b,j * 4+2,nN⟩=sS (vb (t.c j).pending):=hA.irqC hj 2 dE
   have c3:w.cell? ⟨b,j * 4+3,nN⟩=sS (vi uQ ((t.c j).mask:Nat)):=hA.irqC hj 3 dE
   have f0:w.frozen? ⟨b,j * 4,nN⟩=fF:=hA.free 0 rfl _
   have f1:w.frozen? ⟨b,j * 4+1,nN⟩=fF:=hA.free 0 rfl _
   have f2:w.frozen? ⟨b,j * 4+2,nN⟩=fF:=hA.free 0 rfl _
   have f3:w.frozen? ⟨b,j * 4+3,nN⟩=fF:=hA.free 0 rfl _
   have hmk:=hok.2 j
   generalize t.c j=x at *
   clear hA
   obtain ⟨wa,ma,pe,mk⟩:=x
   dsimp only at *
   subst hwt
   go_in
   go_wp2_with (first
    | (go_at_call 170;refine hM.r λk=>?_)
    | (go_at_call 225;refine (hR _).r λk2=>?_))
   go_ret
   refine ⟨rfl,(hO.out.keep ?_).irq hok⟩
   exact ms
  ·have e1:t.aimE i m=0:=by unfold IT.aimE;rw [nG (by simpa using hi),pG hr]
   rw [show t.aim i m=t.put i.toNat { t.at i with mask:=m } from pG e1,e1]
   rw [hr] at hR
   clear e1 hr
   have hi2:=hi
   replace hi:=gA hi
   rw [hi2,pG rfl] at hM
   have hwt:=cF hi2
   clear hi2
   obtain ⟨h1,h2⟩:=hi
   obtain ⟨j,rfl⟩:=iN h1
   have hj:j<16:=by omega
   simp only [IT.at,Int.toNat_natCast] at *
   have hB:=zh (show On F w [ak.blk b (bH (t.put j (t.c j)))] w by rw [IT.put_self];exact hA)
   have c0:w.cell? ⟨b,j * 4,nN⟩=sS (vb (t.c j).wanted):=hA.irqC hj 0 dE
   have c1:w.cell? ⟨b,j * 4+1,nN⟩=sS (vb (t.c j).masked):=hA.irqC hj 1 dE
   have c2:w.cell? ⟨b,j * 4+2,nN⟩=sS (vb (t.c j).pending):=hA.irqC hj 2 dE
   have c3:w.cell? ⟨b,j * 4+3,nN⟩=sS (vi uQ ((t.c j).mask:Nat)):=hA.irqC hj 3 dE
   have f0:w.frozen? ⟨b,j * 4,nN⟩=fF:=hA.free 0 rfl _
   have f1:w.frozen? ⟨b,j * 4+1,nN⟩=fF:=hA.free 0 rfl _
   have f2:w.frozen? ⟨b,j * 4+2,nN⟩=fF:=hA.free 0 rfl _
   have f3:w.frozen? ⟨b,j * 4+3,nN⟩=fF:=hA.free 0 rfl _
   have hmk:=hok.2 j
   generalize t.c j=x at *
   clear hA
   obtain ⟨wa,ma,pe,mk⟩:=x
   dsimp only at *
   subst hwt
   go_in
   go_wp2_with (first
    | (go_at_call 170;refine hM.r λk=>?_)
    | (go_at_call 225;refine (hR _).r λk2=>?_))
   go_ret
   refine ⟨rfl,?_⟩
   refine On.irq ?_ (IT.put_ok hok j hm)
   refine (?_:On F w _ _).irqPut hj 3 dE (vi uQ (m:Nat)) (x:=⟨tQ,ma,pe,mk⟩) (x':=⟨tQ,ma,pe,m⟩) rfl
   exact hB.out.keep mz
 ·have e1:t.aimE i m=t.wantE i:=pG hi
  rw [show t.aim i m=t from nG (by rw [e1];exact hi),e1]
  clear e1 hR
  have he:(t.wantE i==0)=fF:=by simp [hi]
  rw [nG hi] at hM
  generalize t.wantE i=e1 at *
  clear hA
  go_in
  go_wp2_with (go_at_call 170;refine hM.r λk=>?_)
  go_ret
  refine ⟨rfl,(hO.out.keep ?_).irq hok⟩
  exact ms
theorem zT (h:(fL b t).holds F w) (i:Int) (is:Bool):Calls tp 230 #[vp (sS ⟨b,0,nN⟩),vi iQ i,vb is] w (al (fL b (t.hush i is)) F (vi iQ (t.hushE i is)) w):=by
 obtain ⟨hok,hA⟩:=fB h
 have hM:=gd hok hA i
 have hO:=zh hA
 clear h
 by_cases hi:t.wantE i=0
 ·by_cases hr:(t.at i).masked=is
  ·have e1:t.hushE i is=6:=by unfold IT.hushE;rw [nG (by simpa using hi),pG hr]
   rw [show t.hush i is=t from nG (by rw [e1];decide),e1]
   clear e1
   have hi2:=hi
   replace hi:=gA hi
   rw [hi2,pG rfl] at hM
   have hwt:=cF hi2
   clear hi2
   obtain ⟨h1,h2⟩:=hi
   obtain ⟨j,rfl⟩:=iN h1
   have hj:j<16:=by omega
   simp only [IT.at,Int.toNat_natCast] at *
   have hB:=zh (show On F w [ak.blk b (bH (t.put j (t.c j)))] w by rw [IT.put_self];exact hA)
   have c0:w.cell? ⟨b,j * 4,nN⟩=sS (vb (t.c j).wanted):=hA.irqC hj 0 dE
   have c1:w.cell? ⟨b,j * 4+1,nN⟩=sS (vb (t.c j).masked):=hA.irqC hj 1 dE
   have c2:w.cell? ⟨b,j * 4+2,nN⟩=sS (vb (t.c j).pending):=hA.irqC hj 2 dE
   have c3:w.cell? ⟨b,j * 4+3,nN⟩=sS (vi uQ ((t.c j).mask:Nat)):=hA.irqC hj 3 dE
   have f0:w.frozen? ⟨b,j * 4,nN⟩=fF:=hA.free 0 rfl _
   have f1:w.frozen? ⟨b,j * 4+1,nN⟩=fF:=hA.free 0 rfl _
   have f2:w.frozen? ⟨b,j * 4+2,nN⟩=fF:=hA.free 0 rfl _
   have f3:w.frozen? ⟨b,j * 4+3,nN⟩=fF:=hA.free 0 rfl _
   have hmk:=hok.2 j
   generalize t.c j=x at *
   clear hA
   obtain ⟨wa,ma,pe,mk⟩:=x
   dsimp only at *
   subst hwt
   subst hr
   go_in
   go_wp2_with (go_at_call 170;refine hM.r λk=>?_)
   go_ret
   refine ⟨rfl,(hO.out.keep ?_).irq hok⟩
   exact ms
  ·have e1:t.hushE i is=0:=by unfold IT.hushE;rw [nG (by simpa using hi),nG hr]
   rw [show t.hush i is=t.put i.toNat { t.at i with masked:=is } from pG e1,e1]
   clear e1
   have hi2:=hi
   replace hi:=gA hi
   rw [hi2,pG rfl] at hM
   have hwt:=cF hi2
   clear hi2
   obtain ⟨h1,h2⟩:=hi
   obtain ⟨j,rfl⟩:=iN h1
   have hj:j<16:=by omega
   simp only [IT.at,Int.toNat_natCast] at *
   have hB:=zh (show On F w [ak.blk b (bH (t.put j (t.c j)))] w by rw [IT.put_self];exact hA)
   have c0:w.cell? ⟨b,j * 4,nN⟩=sS (vb (t.c j).wanted):=hA.irqC hj 0 dE
   have c1:w.cell? ⟨b,j * 4+1,nN⟩=sS (vb (t.c j).masked):=hA.irqC hj 1 dE
   have c2:w.cell? ⟨b,j * 4+2,nN⟩=sS (vb (t.c j).pending):=hA.irqC hj 2 dE
   have c3:w.cell? ⟨b,j * 4+3,nN⟩=sS (vi uQ ((t.c j).mask:Nat)):=hA.irqC hj 3 dE
   have f0:w.frozen? ⟨b,j * 4,nN⟩=fF:=hA.free 0 rfl _
   have f1:w.frozen? ⟨b,j * 4+1,nN⟩=fF:=hA.free 0 rfl _
   have f2:w.frozen? ⟨b,j * 4+2,nN⟩=fF:=hA.free 0 rfl _
   have f3:w.frozen? ⟨b,j * 4+3,nN⟩=fF:=hA.free 0 rfl _
   have hmk:=hok.2 j
   generalize t.c j=x at *
   clear hA
   obtain ⟨wa,ma,pe,mk⟩:=x
   dsimp only at *
   subst hwt
   have hq:(ma==is)=fF:=by simp [hr]
   go_in
   go_wp2_with (go_at_call 170;refine hM.r λk=>?_)
   go_ret
   refine ⟨rfl,?_⟩
   refine On.irq ?_ (IT.put_ok hok j hmk)
   refine (?_:On F w _ _).irqPut hj 1 dE (vb is) (x:=⟨tQ,ma,pe,mk⟩) (x':=⟨tQ,is,pe,mk⟩) rfl
   exact hB.out.keep mz
 ·have e1:t.hushE i is=t.wantE i:=pG hi
  rw [show t.hush i is=t from nG (by rw [e1];exact hi),e1]
  clear e1
  have he:(t.wantE i==0)=fF:=by simp [hi]
  rw [nG hi] at hM
  generalize t.wantE i=e1 at *
  clear hA
  go_in
  go_wp2_with (go_at_call 170;refine hM.r λk=>?_)
  go_ret
  refine ⟨rfl,(hO.out.keep ?_).irq hok⟩
  exact ms
theorem GM (h:(fL b t).holds F w) (i:Int):Calls tp 137 #[vp (sS ⟨b,0,nN⟩),vi iQ i] w (al (fL b (t.hush i tQ)) F (vi iQ (t.hushE i tQ)) w):=by
 have hM:=zT h i tQ
 go_in
 go_wp2_with (go_at_call 230;refine hM.s λw' hG=>?_)
 go_ret
 exact ⟨rfl,hG⟩
theorem BP (h:(fL b t).holds F w) (i:Int):Calls tp 138 #[vp (sS ⟨b,0,nN⟩),vi iQ i] w (al (fL b (t.hush i fF)) F (vi iQ (t.hushE i fF)) w):=by
 have hM:=zT h i fF
 go_in
 go_wp2_with (go_at_call 230;refine hM.s λw' hG=>?_)
 go_ret
 exact ⟨rfl,hG⟩
theorem Ez (h:(fL b t).holds F w) (i:Int):Calls tp 87 #[vp (sS ⟨b,0,nN⟩),vi iQ i] w (au (vb (t.ready i)) w):=by
 obtain ⟨hok,hA⟩:=fB h
 have hM:=gd hok hA i
 have hO:=zh hA
 clear h
 unfold IT.ready
 by_cases hi:t.wantE i=0
 ·rw [decide_eq_true hi]
  have hi2:=hi
  replace hi:=gA hi
  rw [hi2,pG rfl] at hM
  have hwt:=cF hi2
  clear hi2
  obtain ⟨h1,h2⟩:=hi
  obtain ⟨j,rfl⟩:=iN h1
  have hj:j<16:=by omega
  simp only [IT.at,Int.toNat_natCast] at *
  have hB:=zh (show On F w [ak.blk b (bH (t.put j (t.c j)))] w by rw [IT.put_self];exact hA)
  have c0:w.cell? ⟨b,j * 4,nN⟩=sS (vb (t.c j).wanted):=hA.irqC hj 0 dE
  have c1:w.cell? ⟨b,j * 4+1,nN⟩=sS (vb (t.c j).masked):=hA.irqC hj 1 dE
  have c2:w.cell? ⟨b,j * 4+2,nN⟩=sS (vb (t.c j).pending):=hA.irqC hj 2 dE
  have c3:w.cell? ⟨b,j * 4+3,nN⟩=sS (vi uQ ((t.c j).mask:Nat)):=hA.irqC hj 3 dE
  have f0:w.frozen? ⟨b,j * 4,nN⟩=fF:=hA.free 0 rfl _
  have f1:w.frozen? ⟨b,j * 4+1,nN⟩=fF:=hA.free 0 rfl _
  have f2:w.frozen? ⟨b,j * 4+2,nN⟩=fF:=hA.free 0 rfl _
  have f3:w.frozen? ⟨b,j * 4+3,nN⟩=fF:=hA.free 0 rfl _
  have hmk:=hok.2 j
  generalize t.c j=x at *
  clear hA
  obtain ⟨wa,ma,pe,mk⟩:=x
  dsimp only at *
  subst hwt
  cases pe<;>cases ma
  all_goals
   go_in
   go_wp2_with (go_at_call 170;refine hM.r λk=>?_)
   go_ret
   exact au.of (rfl) dz
 ·rw [decide_eq_false hi]
  have he:(t.wantE i==0)=fF:=by simp [hi]
  rw [nG hi] at hM
  generalize t.wantE i=e1 at *
  clear hA
  go_in
  go_wp2_with (go_at_call 170;refine hM.r λk=>?_)
  go_ret
  exact au.of sM dz
theorem EB (h:(fL b t).holds F w) (i:Int):Calls tp 198 #[vp (sS ⟨b,0,nN⟩),vi iQ i] w (al (fL b (t.clear i)) F (vi iQ (t.clearE i)) w):=by
 obtain ⟨hok,hA⟩:=fB h
 have hM:=gd hok hA i
 have hO:=zh hA
 clear h
 by_cases hi:t.wantE i=0
 ·cases hr:t.ready i
  ·have e1:t.clearE i=12:=by unfold IT.clearE;rw [nG (by simpa using hi),nG (by rw [hr];decide)]
   rw [show t.clear i=t from nG (by rw [e1];decide),e1]
   unfold IT.ready at hr
   rw [decide_eq_true hi] at hr
   clear e1
   have hi2:=hi
   replace hi:=gA hi
   rw [hi2,pG rfl] at hM
   have hwt:=cF hi2
   clear hi2
   obtain ⟨h1,h2⟩:=hi
   obtain ⟨j,rfl⟩:=iN h1
   have hj:j<16:=by omega
   simp only [IT.at,Int.toNat_natCast] at *
   have hB:=zh (show On F w [ak.blk b (bH (t.put j (t.c j)))] w by rw [IT.put_self];exact hA)
   have c0:w.cell? ⟨b,j * 4,nN⟩=sS (vb (t.c j).wanted):=hA.irqC hj 0 dE
   have c1:w.cell? ⟨b,j * 4+1,nN⟩=sS (vb (t.c j).masked):=hA.irqC hj 1 dE
   have c2:w.cell? ⟨b,j * 4+2,nN⟩=sS (vb (t.c j).pending):=hA.irqC hj 2 dE
   have c3:w.cell? ⟨b,j * 4+3,nN⟩=sS (vi uQ ((t.c j).mask:Nat)):=hA.irqC hj 3 dE
   have f0:w.frozen? ⟨b,j * 4,nN⟩=fF:=hA.free 0 rfl _
   have f1:w.frozen? ⟨b,j * 4+1,nN⟩=fF:=hA.free 0 rfl _
   have f2:w.frozen? ⟨b,j * 4+2,nN⟩=fF:=hA.free 0 rfl _
   have f3:w.frozen? ⟨b,j * 4+3,nN⟩=fF:=hA.free 0 rfl _
   have hmk:=hok.2 j
   generalize t.c j=x at *
   clear hA
   obtain ⟨wa,ma,pe,mk⟩:=x
   dsimp only at *
   subst hwt
   have hr2:pe=fF \/ (pe=tQ /\ ma=tQ):=by cases pe<;>cases ma<;>simp_all
   clear hr
   rcases hr2 with rfl|⟨rfl,rfl⟩
   all_goals
    go_in
    go_wp2_with (go_at_call 170;refine hM.r λk=>?_)
    go_ret
    refine ⟨rfl,(hO.out.keep ?_).irq hok⟩
    exact ms
  ·have e1:t.clearE i=0:=by unfold IT.clearE;rw [nG (by simpa using hi),pG hr]
   rw [show t.clear i=t.put i.toNat { t.at i with pending:=false } from pG e1,e1]
   unfold IT.ready at hr
   rw [decide_eq_true hi] at hr
   clear e1
   have hi2:=hi
   replace hi:=gA hi
   rw [hi2,pG rfl] at hM
   have hwt:=cF hi2
   clear hi2
   obtain ⟨h1,h2⟩:=hi
   obtain ⟨j,rfl⟩:=iN h1
   have hj:j<16:=by omega
   simp only [IT.at,Int.toNat_natCast] at *
   have hB:=zh (show On F w [ak.blk b (bH (t.put j (t.c j)))] w by rw [IT.put_self];exact hA)
   have c0:w.cell? ⟨b,j * 4,nN⟩=sS (vb (t.c j).wanted):=hA.irqC hj 0 dE
   have c1:w.cell? ⟨b,j * 4+1,nN⟩=sS (vb (t.c j).masked):=hA.irqC hj 1 dE
   have c2:w.cell? ⟨b,j * 4+2,nN⟩=sS (vb (t.c j).pending):=hA.irqC hj 2 dE
   have c3:w.cell? ⟨b,j * 4+3,nN⟩=sS (vi uQ ((t.c j).mask:Nat)):=hA.irqC hj 3 dE
   have f0:w.frozen? ⟨b,j * 4,nN⟩=fF:=hA.free 0 rfl _
   have f1:w.frozen? ⟨b,j * 4+1,nN⟩=fF:=hA.free 0 rfl _
   have f2:w.frozen? ⟨b,j * 4+2,nN⟩=fF:=hA.free 0 rfl _
   have f3:w.frozen? ⟨b,j * 4+3,nN⟩=fF:=hA.free 0 rfl _
   have hmk:=hok.2 j
   generalize t.c j=x at *
   clear hA
   obtain ⟨wa,ma,pe,mk⟩:=x
   dsimp only at *
   subst hwt
   have hr2:pe=tQ /\ ma=fF:=by cases pe<;>cases ma<;>simp_all
   clear hr
   obtain ⟨rfl,rfl⟩:=hr2
   go_in
   go_wp2_with (go_at_call 170;refine hM.r λk=>?_)
   go_ret
   refine ⟨rfl,?_⟩
   refine On.irq ?_ (IT.put_ok hok j hmk)
   refine (?_:On F w _ _).irqPut hj 2 dE (vb fF) (x:=⟨tQ,fF,tQ,mk⟩) (x':=⟨tQ,fF,fF,mk⟩) rfl
   exact hB.out.keep mz
 ·have e1:t.clearE i=t.wantE i:=pG hi
  rw [show t.clear i=t from nG (by rw [e1];exact hi),e1]
  clear e1
  have he:(t.wantE i==0)=fF:=by simp [hi]
  rw [nG hi] at hM
  generalize t.wantE i=e1 at *
  clear hA
  go_in
  go_wp2_with (go_at_call 170;refine hM.r λk=>?_)
  go_ret
  refine ⟨rfl,(hO.out.keep ?_).irq hok⟩
  exact ms
theorem qQ (h:(fL b t).holds F w) (i:Int) (m:Nat) (hm:m<2 ^ 64):Calls tp 128 #[vp (sS ⟨b,0,nN⟩),vi iQ i,vi uQ (m:Nat)] w (al (fL b (t.req i m)) F (vi iQ (t.reqE i m)) w):=by
 obtain ⟨hok,hA⟩:=fB h
 have hM:=λw=>uc b i w
 have hO:=zh hA
 clear h
 have hR:=ub hok hA m hm
 by_cases hi:dd i
 ·rw [show kr i=0 from pG hi,pG hi] at hM
  by_cases hw:(t.at i).wanted
  ·have e1:t.reqE i m=6:=by unfold IT.reqE;rw [nG (by simpa using hi),pG hw]
   rw [show t.req i m=t from nG (by rw [e1];decide),e1]
   clear e1 hR
   obtain ⟨h1,h2⟩:=hi
   obtain ⟨j,rfl⟩:=iN h1
   have hj:j<16:=by omega
   simp only [IT.at,Int.toNat_natCast] at *
   have hB:=zh (show On F w [ak.blk b (bH (t.put j (t.c j)))] w by rw [IT.put_self];exact hA)
   have c0:w.cell? ⟨b,j * 4,nN⟩=sS (vb (t.c j).wanted):=hA.irqC hj 0 dE
   have c1:w.cell? ⟨b,j * 4+1,nN⟩=sS (vb (t.c j).masked):=hA.irqC hj 1 dE
   have c2:w.cell? ⟨b,j * 4+2,nN⟩=sS (vb (t.c j).pending):=hA.irqC hj 2 dE
   have c3:w.cell? ⟨b,j * 4+3,nN⟩=sS (vi uQ ((t.c j).mask:Nat)):=hA.irqC hj 3 dE
   have f0:w.frozen? ⟨b,j * 4,nN⟩=fF:=hA.free 0 rfl _
   have f1:w.frozen? ⟨b,j * 4+1,nN⟩=fF:=hA.free 0 rfl _
   have f2:w.frozen? ⟨b,j * 4+2,nN⟩=fF:=hA.free 0 rfl _
   have f3:w.frozen? ⟨b,j * 4+3,nN⟩=fF:=hA.free 0 rfl _
   have hmk:=hok.2 j
   generalize t.c j=x at *
   clear hA
   obtain ⟨wa,ma,pe,mk⟩:=x
   dsimp only at *
   subst hw
   go_in
   go_wp2_with (go_at_call 224;refine (hM _).r λk=>?_)
   go_ret
   refine ⟨rfl,(hO.out.keep ?_).irq hok⟩
   exact ms
  ·cases hr:t.right m
   ·have e1:t.reqE i m=2:=by unfold IT.reqE;rw [nG (by simpa using hi),nG hw,nG (by rw [hr];decide)]
    rw [show t.req i m=t from nG (by rw [e1];decide),e1]
    rw [hr] at hR
    clear e1 hr
    obtain ⟨h1,h2⟩:=hi
    obtain ⟨j,rfl⟩:=iN h1
    have hj:j<16:=by omega
    simp only [IT.at,Int.toNat_natCast] at *
    have hB:=zh (show On F w [ak.blk b (bH (t.put j (t.c j)))] w by rw [IT.put_self];exact hA)
    have c0:w.cell? ⟨b,j * 4,nN⟩=sS (vb (t.c j).wanted):=hA.irqC hj 0 dE
    have c1:w.cell? ⟨b,j * 4+1,nN⟩=sS (vb (t.c j).masked):=hA.irqC hj 1 dE
    have c2:w.cell? ⟨b,j * 4+2,nN⟩=sS (vb (t.c j).pending):=hA.irqC hj 2 dE
    have c3:w.cell? ⟨b,j * 4+3,nN⟩=sS (vi uQ ((t.c j).mask:Nat)):=hA.irqC hj 3 dE
    have f0:w.frozen? ⟨b,j * 4,nN⟩=fF:=hA.free 0 rfl _
    have f1:w.frozen? ⟨b,j * 4+1,nN⟩=fF:=hA.free 0 rfl _
    have f2:w.frozen? ⟨b,j * 4+2,nN⟩=fF:=hA.free 0 rfl _
    have f3:w.frozen? ⟨b,j * 4+3,nN⟩=fF:=hA.free 0 rfl _
    have hmk:=hok.2 j
    generalize t.c j=x at *
    clear hA
    obtain ⟨wa,ma,pe,mk⟩:=x
    dsimp only at *
    have hw:wa=fF:=by simpa using hw
    subst hw
    go_in
    go_wp2_with (first
     | (go_at_call 224;refine (hM _).r λk=>?_)
     | (go_at_call 225;refine (hR _).r λk2=>?_))
    go_ret
    refine ⟨rfl,(hO.out.keep ?_).irq hok⟩
    exact ms
   ·have e1:t.reqE i m=0:=by unfold IT.reqE;rw [nG (by simpa using hi),nG hw,pG hr]
    rw [show t.req i m=t.put i.toNat ⟨tQ,fF,fF,m⟩ from pG e1,e1]
    rw [hr] at hR
    clear e1 hr
    obtain ⟨h1,h2⟩:=hi
    obtain ⟨j,rfl⟩:=iN h1
    have hj:j<16:=by omega
    simp only [IT.at,Int.toNat_natCast] at *
    have hB:=zh (show On F w [ak.blk b (bH (t.put j (t.c j)))] w by rw [IT.put_self];exact hA)
    have c0:w.cell? ⟨b,j * 4,nN⟩=sS (vb (t.c j).wanted):=hA.irqC hj 0 dE
    have c1:w.cell? ⟨b,j * 4+1,nN⟩=sS (vb (t.c j).masked):=hA.irqC hj 1 dE
    have c2:w.cell? ⟨b,j * 4+2,nN⟩=sS (vb (t.c j).pending):=hA.irqC hj 2 dE
    have c3:w.cell? ⟨b,j * 4+3,nN⟩=sS (vi uQ ((t.c j).mask:Nat)):=hA.irqC hj 3 dE
    have f0:w.frozen? ⟨b,j * 4,nN⟩=fF:=hA.free 0 rfl _
    have f1:w.frozen? ⟨b,j * 4+1,nN⟩=fF:=hA.free 0 rfl _
    have f2:w.frozen? ⟨b,j * 4+2,nN⟩=fF:=hA.free 0 rfl _
    have f3:w.frozen? ⟨b,j * 4+3,nN⟩=fF:=hA.free 0 rfl _
    have hmk:=hok.2 j
    generalize t.c j=x at *
    clear hA
    obtain ⟨wa,ma,pe,mk⟩:=x
    dsimp only at *
    have hw:wa=fF:=by simpa using hw
    subst hw
    go_in
    go_wp2_with (first
     | (go_at_call 224;refine (hM _).r λk=>?_)
     | (go_at_call 225;refine (hR _).r λk2=>?_))
    go_ret
    refine ⟨rfl,?_⟩
    refine On.irq ?_ (IT.put_ok hok j hm)
    refine ((((?_:On F w _ _).irqPut hj 0 dE (vb tQ) (x:=⟨fF,ma,pe,mk⟩) (x':=⟨tQ,ma,pe,mk⟩) rfl).irqPut hj 1 dE (vb fF) (x':=⟨tQ,fF,pe,mk⟩) rfl).irqPut hj 2 dE (vb fF) (x':=⟨tQ,fF,fF,mk⟩) rfl).irqPut hj 3 dE (vi uQ (m:Nat)) (x':=⟨tQ,fF,fF,m⟩) rfl
    exact hB.out.keep mz
 ·have e1:t.reqE i m=3:=pG hi
  rw [show kr i=3 from nG hi,nG hi] at hM
  rw [show t.req i m=t from nG (by rw [e1];decide),e1]
  clear e1 hA hR
  go_in
  go_wp2_with (go_at_call 224;refine (hM _).r λk=>?_)
  go_ret
  refine ⟨rfl,(hO.out.keep ?_).irq hok⟩
  exact ms
end
def it0 (n:Nat):IT:=⟨bw n,λ_=>ud⟩
def rt0 (n:Nat):RT:=⟨n,λ_=>0⟩
theorem DD (n:Nat) (h1:1 <= n) (h2:n <= 64) (w:wW):Calls tp 49 #[vi iQ n] w (cN (λd:Nat=>.tuple #[vp (sS ⟨d,0,nN⟩),vi iQ 0]) (λd=>fV d (rt0 n)) [] w):=by
 go_in
 go_wp2
 go_ret2
 refine ⟨w.heap.size,rfl,?_⟩
 have hA:=(On.start w).alloc (gH (rt0 n))
 exact On.route hA ⟨h1,h2,λi=>⟨Int.le_refl _,by show (0:Int) <= 64;decide⟩⟩
theorem GI (m:Nat):(Tryz.zeroCells187).setIfInBounds 64 (vi uQ (m:Nat))=cC [] 16 (λ_=>gK ud) [vi uQ (m:Nat)]:=by
 have e:Tryz.zeroCells187=cC [] 16 (λ_=>gK ud) [vi uQ 0]:=by kernel_rfl
 rw [e]
 exact pd (k:=4) (λ_=>rfl) (j:=0) _ rfl
theorem Jm (n:Nat) (h1:1 <= n) (h2:n <= 64) (w:wW):Calls tp 47 #[vi iQ n] w (cN (λd:Nat=>.tuple #[vp (sS ⟨d,0,nN⟩),vi iQ 0]) (λd=>fL d (it0 n)) [] w):=by
 have hU:=λw=>ix n w
 have hlt:=iB n
 unfold it0
 generalize bw n=m at *
 go_in
 go_wp2_with (go_at_call 22;refine (hU _).r λk=>?_)
 go_ret2
 refine ⟨w.heap.size,by simp,?_⟩
 rw [GI]
 exact On.irq (((On.start w).keep ((af.refl [] w).drewN k)).alloc (bH ⟨m,λ_=>ud⟩)) ⟨hlt,λi=>by show (0:Nat)<2 ^ 64;decide⟩
theorem CF {F:List Nat} {w:wW} {b:Nat} {t:IT} (h:(fL b t).holds F w) (i:Int):Calls tp 226 #[vp (sS ⟨b,0,nN⟩),vi iQ i] w (bp (.tuple #[.agg (gK (if dd i then t.at i else ud)).toArray,vi iQ (kr i)]) w):=by
 obtain ⟨hok,hA⟩:=fB h
 have hM:=λw=>uc b i w
 by_cases hi:dd i
 ·rw [pG hi]
  rw [show kr i=0 from pG hi,pG hi] at hM
  rw [show kr i=0 from pG hi]
  obtain ⟨h1,h2⟩:=hi
  obtain ⟨j,rfl⟩:=iN h1
  have hj:j<16:=by omega
  simp only [IT.at,Int.toNat_natCast] at *
  have hC:=hA.keep ((af.refl [] w).alloc (.cells #[vb fF,vb fF,vb fF,vi uQ 0] 184 (0,0)))
  have c0:(w.alloc (.cells #[vb fF,vb fF,vb fF,vi uQ 0] 184 (0,0))).cell? ⟨b,j * 4,nN⟩=sS (vb (t.c j).wanted):=hC.irqC hj 0 dE
  have c1:(w.alloc (.cells #[vb fF,vb fF,vb fF,vi uQ 0] 184 (0,0))).cell? ⟨b,j * 4+1,nN⟩=sS (vb (t.c j).masked):=hC.irqC hj 1 dE
  have c2:(w.alloc (.cells #[vb fF,vb fF,vb fF,vi uQ 0] 184 (0,0))).cell? ⟨b,j * 4+2,nN⟩=sS (vb (t.c j).pending):=hC.irqC hj 2 dE
  have c3:(w.alloc (.cells #[vb fF,vb fF,vb fF,vi uQ 0] 184 (0,0))).cell? ⟨b,j * 4+3,nN⟩=sS (vi uQ ((t.c j).mask:Nat)):=hC.irqC hj 3 dE
  clear hC hA h
  generalize t.c j=x at *
  obtain ⟨wa,ma,pe,mk⟩:=x
  simp only [gK] at *
  go_in
  go_wp2_with (go_at_call 224;refine (hM _).r λk=>?_)
  refine bodyPost_ret_by (v:=.tuple #[.agg #[vb wa,vb ma,vb pe,vi uQ (mk:Nat)],vi iQ 0]) ?_ rfl ?_
  ·rw [results_cell_tmp rfl];go_simp
  ·refine ⟨rfl,?_⟩
   exact ms
 ·rw [nG hi]
  rw [show kr i=3 from nG hi,nG hi] at hM
  rw [show kr i=3 from nG hi]
  clear h hi hA
  go_in
  go_wp2_with (go_at_call 224;refine (hM _).r λk=>?_)
  refine bodyPost_ret_by (v:=.tuple #[.agg #[vb fF,vb fF,vb fF,vi uQ 0],vi iQ 3]) ?_ rfl ?_
  ·rw [results_cell_tmp rfl];go_simp
  ·refine ⟨rfl,?_⟩
   exact ms
def RT.onL (t:RT) (cpu:Int):Nat -> List Int
 | 0=>[]
 | j+1=>if (t.has j&&decide (t.of j=cpu))=tQ then t.onL cpu j++[(j:Int)] else t.onL cpu j
theorem rL (t:RT) (cpu:Int):∀ j,(t.onL cpu j).length <= j
 | 0=>by simp [RT.onL]
 | j+1=>by
  have:=rL t cpu j
  unfold RT.onL
  split
  ·rw [List.length_append];simp;omega
  ·omega
/-- A new list was made. -/
def iU (l:List Int) (w:wW) (e:Ending) (w':wW):Prop:=∃ g cap,e=.returned (.slice (lA g) l.length cap) /\ fG w' g cap l /\ af [] w w' /\ ∀ b,b∈lF g -> w.heap.size <= b
theorem yR {F:List Nat} {w:wW} {b:Nat} {t:RT} (h:(fV b t).holds F w) (cpu:Int):Calls tp 255 #[vp (sS ⟨b,0,nN⟩),vi iQ cpu] w (iU (t.onL cpu 16) w):=by
 go_in
 go_wp2
 go_loopg [5,11] 16 (λgg out i wr=>∃ (j:Nat) (g:Option Nat) (cap:Nat),i=vi iQ j /\ j+gg=16 /\ out=.slice (lA g) (t.onL cpu j).length cap /\ fG wr g cap (t.onL cpu j) /\ af [] w wr /\ ∀ b,b∈lF g -> w.heap.size <= b)
 case atStart=>exact ⟨0,nN,0,rfl,by omega,rfl,⟨rfl,rfl⟩,by first|exact mR|exact mR.drewN _,by simp [lF]⟩
 case round=>
  obtain ⟨j,g,cap,rfl,hj,rfl,hL,m,hg⟩:=hrel
  by_cases hlt:j<16
  ·have hltI:(j:Int)<16:=by omega
   have hO:=yS ((fV b t).keep h m sM) (j:Int)
   have hS:t.onL cpu (j+1)=if (t.has j&&decide (t.of j=cpu))=tQ then t.onL cpu j++[(j:Int)] else t.onL cpu j:=rfl
   have hlen:(t.onL cpu j).length<1000000:=by have:=rL t cpu j;omega
   generalize t.has j=x at *
   generalize t.of j=y at *
   have hms:=m.size
   by_cases hc:(x&&decide (y=cpu))=tQ
   ·rw [pG hc] at hS
    have HS:=zh hS
    obtain ⟨rfl,hy⟩:x=tQ /\ y=cpu:=by simpa using hc
    subst hy
    clear hS hc
    generalize t.onL y j=lj at *
    go_wp2_with (first|(go_at_call 229;refine hO.r λk1=>?_)|(at_builtin;refine cE rfl _ _ rfl (by exact hL.keep (((af.refl [] wr).drewN _).alloc _) sM) hlen (ai _ _) rfl rfl ?_;rintro g2 cap2 w2 hL2 m2 hg2;have H2:=zh (And.intro hL2 (And.intro (af.trans (S:=[]) ((m.drewN _).alloc _) m2 (λb hb=>.inr (hg b hb))) hg2));clear hL2 m2 hg2))
    obtain ⟨hL2,m3,hg2⟩:=H2.out
    rw [cm] at hg2
    go_roundg (gk - 1)
    case measure=>omega
    case rel=>
     refine ⟨j+1,sS g2,cap2,by go_num,by omega,by rw [HS.out];simp [lA],by rw [HS.out];exact hL2,m3,?_⟩
     intro b hb
     simp [lF] at hb
     subst hb
     rcases hg2 with hg2|hg2
     ·exact hg _ hg2
     ·simp at hg2;omega
   ·rw [nG hc] at hS
    have HS:=zh hS
    clear hS
    generalize t.onL cpu j=lj at *
    cases x
    ·clear hc
     go_wp2_with (go_at_call 229;refine hO.r λk1=>?_)
     go_roundg (gk - 1)
     case measure=>omega
     case rel=>exact ⟨j+1,g,cap,by go_num,by omega,by rw [HS.out],by rw [HS.out];exact hL.same rfl,m.drewN _,hg⟩
    ·have hy:(y==cpu)=fF:=by simpa using hc
     clear hc
     go_wp2_with (go_at_call 229;refine hO.r λk1=>?_)
     go_roundg (gk - 1)
     case measure=>omega
     case rel=>exact ⟨j+1,g,cap,by go_num,by omega,by rw [HS.out],by rw [HS.out];exact hL.same rfl,m.drewN _,hg⟩
  ·obtain rfl:j=16:=by omega
   clear h
   go_wp2
   go_ret
   exact ⟨g,cap,rfl,hL,m,hg⟩
structure fH where
 stop:Bool
 held:Bool
 hot:Bool
 active:Bool
 call:Bool
 irq:Bool
 timer:Bool
 work:Bool
 thread:Bool
def ez (f:fH):List Value:=[vb f.stop,vb f.held,vb f.hot,vb f.active,vb f.call,vb f.irq,vb f.timer,vb f.work,vb f.thread]
def FF (f:fH):List Bool:=[f.stop,f.hot,f.held||!f.active,f.call,f.irq,f.timer,f.work,f.thread]
def fH.wants (f:fH):Int:=if f.stop then 2 else if f.hot then 3 else if f.held||!f.active then 0 else if f.call then 4 else if f.irq then 5 else if f.timer then 6 else if f.work then 7 else if f.thread then 8 else 9
theorem AE (b0 b1 b2 b3 b4 b5 b6 b7:Value) (n0 n1 n2 n3 n4 n5 n6 n7:Value) (w:wW):
  (∀ j:Nat,(h:j<8) -> (Instr.index 335 (.agg #[b0,n0,b1,n1,b2,n2,b3,n3,b4,n4,b5,n5,b6,n6,b7,n7]) (vi iQ j)).run tp w=.ok (.agg #[([b0,b1,b2,b3,b4,b5,b6,b7]:List Value).getD j b0,([n0,n1,n2,n3,n4,n5,n6,n7]:List Value).getD j n0]) w):=by
 intro j h
 have hu:=Tryz.underlying335
 have hc:j=0 \/ j=1 \/ j=2 \/ j=3 \/ j=4 \/ j=5 \/ j=6 \/ j=7:=by omega
 rcases hc with rfl|rfl|rfl|rfl|rfl|rfl|rfl|rfl
 all_goals
  simp [Instr.index,asIntOf,Sem.run_bind,run_underlying hu,part,Tryz.isAgg334,Tryz.sizeOf334,Result.andThen]
theorem yx (a1 a3 x a5 a6 a7 a8 a9:Bool) (w:wW) (j:Nat) (h:j<8):
  (Instr.index 335 (.agg #[vb a1,vi iQ 2,vb a3,vi iQ 3,vb x,vi iQ 0,vb a5,vi iQ 4,vb a6,vi iQ 5,vb a7,vi iQ 6,vb a8,vi iQ 7,vb a9,vi iQ 8]) (vi iQ j)).run tp w=.ok (.agg #[vb ([a1,a3,x,a5,a6,a7,a8,a9].getD j fF),vi iQ (([2,3,0,4,5,6,7,8]:List Int).getD j 0)]) w:=by
 rw [AE _ _ _ _ _ _ _ _ _ _ _ _ _ _ _ _ w j h]
 have hc:j=0 \/ j=1 \/ j=2 \/ j=3 \/ j=4 \/ j=5 \/ j=6 \/ j=7:=by omega
 rcases hc with rfl|rfl|rfl|rfl|rfl|rfl|rfl|rfl<;>rfl
/-- What the first one that is so tells. -/
def ql:List Bool -> List Int -> Int
 | true :: _,n :: _=>n
 | false :: l,_ :: ns=>ql l ns
 | _,_=>9
theorem qk:∀ (L:List Bool) (N:List Int) (j:Nat),L.length=N.length -> (∀ i,i<j -> L.getD i fF=fF) -> L.getD j fF=tQ -> ql L N=N.getD j 0
 | [],_,j,_,_,h=>by simp at h
 | _ :: _,[],_,hl,_,_=>by simp at hl
 | b :: L,n :: N,0,_,_,h=>by
  have h:b=tQ:=h
  subst h;rfl
 | b :: L,n :: N,j+1,hl,h1,h2=>by
  have hb:b=fF:=h1 0 oM
  subst hb
  exact qk L N j (by simpa using hl) (λi hi=>h1 (i+1) oM) h2
theorem qj:∀ (L:List Bool) (N:List Int),(∀ i,i<L.length -> L.getD i fF=fF) -> ql L N=9
 | [],_,_=>rfl
 | true :: L,[],h=>by have:=h 0 sM;cases this
 | false :: L,[],_=>rfl
 | b :: L,n :: N,h=>by
  have hb:b=fF:=h 0 sM
  subst hb
  exact qj L N (λi hi=>h (i+1) (by simpa using hi))
theorem yv (f:fH):f.wants=ql (FF f) [2,3,0,4,5,6,7,8]:=by
 unfold fH.wants FF
 generalize (f.held||!f.active)=x
 cases f.stop
 ·cases f.hot
  ·cases x
   ·cases f.call
    ·cases f.irq
     ·cases f.timer
      ·cases f.work
       ·cases f.thread<;>rfl
       ·rfl
      ·rfl
     ·rfl
    ·rfl
   ·rfl
  ·rfl
 ·rfl
theorem Cc (f:fH) (w:wW):Calls tp 176 #[.agg (ez f).toArray] w (bp (vi iQ f.wants) w):=by
 rw [yv]
 obtain ⟨a1,a2,a3,a4,a5,a6,a7,a8,a9⟩:=f
 simp only [ez,FF]
 cases a2
 ·rw [Bool.false_or]
  have hI:=λw j h=>yx a1 a3 (!a4) a5 a6 a7 a8 a9 w j h
  obtain ⟨L,hL⟩:∃ L:List Bool,L=[a1,a3,(!a4),a5,a6,a7,a8,a9]:=⟨_,rfl⟩
  obtain ⟨N,hN⟩:∃ N:List Int,N=[2,3,0,4,5,6,7,8]:=⟨_,rfl⟩
  have h8:L.length=8:=by rw [hL];rfl
  have h9:L.length=N.length:=by rw [hL,hN];rfl
  rw [<- hL,<- hN]
  rw [<- hL,<- hN] at hI
  have HL:=zh (And.intro h8 h9)
  obtain ⟨v,hv⟩:∃ v,v=ql L N:=⟨_,rfl⟩
  rw [<- hv]
  have HV:=zh hv
  have HI:=zh hI
  clear hL hN h8 h9 hv hI
  go_in
  go_wp2
  go_loopg [35] 8 (λgg i wr=>∃ (j:Nat),i=vi iQ j /\ j+gg=8 /\ af [] w wr /\ Hid (∀ i,i<j -> L.getD i fF=fF))
  case atStart=>exact ⟨0,rfl,by omega,mR.alloc _,zh (λi hi=>by omega)⟩
  case round=>
   obtain ⟨j,rfl,hj,m,hg⟩:=hrel
   by_cases hlt:j<8
   ·have hltI:(j:Int)<8:=by omega
    have I0:=λw=>HI.out w j hlt
    generalize hb:L.getD j fF=bb at *
    generalize hn:N.getD j 0=wn at *
    have HB:=zh (And.intro hb hn)
    clear hb hn
    have h1:=m
    cases bb
    ·go_wp2
     go_roundg (gk - 1)
     case measure=>omega
     case rel=>
      refine ⟨j+1,by go_num,by omega,?_,zh (λi hi=>?_)⟩
      ·repeat (first|with_reducible exact h1|with_reducible apply af.alloc|with_reducible apply af.drewN|with_reducible apply af.drew|(with_reducible refine af.setCell ?_ (by right;have:=h1.size;simp;try omega) _))
      ·by_cases e:i=j
       ·rw [e];exact HB.out.1
       ·exact hg.out i oM
    ·go_wp2
     go_ret
     have e:v=wn:=by rw [HV.out,qk L N j HL.out.2 hg.out HB.out.1,HB.out.2]
     refine ⟨by rw [e];rfl,?_⟩
     repeat (first|with_reducible exact h1|with_reducible apply af.alloc|with_reducible apply af.drewN|with_reducible apply af.drew|(with_reducible refine af.setCell ?_ (by right;have:=h1.size;simp;try omega) _))
   ·have hltI:¬ (j:Int)<8:=by omega
    have hj8:j=8:=by omega
    go_wp2
    go_ret
    have e:v=9:=by rw [HV.out,qj L N (λi hi=>hg.out i (by rw [HL.out.1] at hi;omega))]
    exact ⟨by rw [e];rfl,m⟩
 ·rw [Bool.true_or]
  have hI:=λw j h=>yx a1 a3 tQ a5 a6 a7 a8 a9 w j h
  obtain ⟨L,hL⟩:∃ L:List Bool,L=[a1,a3,tQ,a5,a6,a7,a8,a9]:=⟨_,rfl⟩
  obtain ⟨N,hN⟩:∃ N:List Int,N=[2,3,0,4,5,6,7,8]:=⟨_,rfl⟩
  have h8:L.length=8:=by rw [hL];rfl
  have h9:L.length=N.length:=by rw [hL,hN];rfl
  rw [<- hL,<- hN]
  rw [<- hL,<- hN] at hI
  have HL:=zh (And.intro h8 h9)
  obtain ⟨v,hv⟩:∃ v,v=ql L N:=⟨_,rfl⟩
  rw [<- hv]
  have HV:=zh hv
  have HI:=zh hI
  clear hL hN h8 h9 hv hI
  go_in
  go_wp2
  go_loopg [35] 8 (λgg i wr=>∃ (j:Nat),i=vi iQ j /\ j+gg=8 /\ af [] w wr /\ Hid (∀ i,i<j -> L.getD i fF=fF))
  case atStart=>exact ⟨0,rfl,by omega,mR.alloc _,zh (λi hi=>by omega)⟩
  case round=>
   obtain ⟨j,rfl,hj,m,hg⟩:=hrel
   by_cases hlt:j<8
   ·have hltI:(j:Int)<8:=by omega
    have I0:=λw=>HI.out w j hlt
    generalize hb:L.getD j fF=bb at *
    generalize hn:N.getD j 0=wn at *
    have HB:=zh (And.intro hb hn)
    clear hb hn
    have h1:=m
    cases bb
    ·go_wp2
     go_roundg (gk - 1)
     case measure=>omega
     case rel=>
      refine ⟨j+1,by go_num,by omega,?_,zh (λi hi=>?_)⟩
      ·repeat (first|with_reducible exact h1|with_reducible apply af.alloc|with_reducible apply af.drewN|with_reducible apply af.drew|(with_reducible refine af.setCell ?_ (by right;have:=h1.size;simp;try omega) _))
      ·by_cases e:i=j
       ·rw [e];exact HB.out.1
       ·exact hg.out i oM
    ·go_wp2
     go_ret
     have e:v=wn:=by rw [HV.out,qk L N j HL.out.2 hg.out HB.out.1,HB.out.2]
     refine ⟨by rw [e];rfl,?_⟩
     repeat (first|with_reducible exact h1|with_reducible apply af.alloc|with_reducible apply af.drewN|with_reducible apply af.drew|(with_reducible refine af.setCell ?_ (by right;have:=h1.size;simp;try omega) _))
   ·have hltI:¬ (j:Int)<8:=by omega
    have hj8:j=8:=by omega
    go_wp2
    go_ret
    have e:v=9:=by rw [HV.out,qj L N (λi hi=>hg.out i (by rw [HL.out.1] at hi;omega))]
    exact ⟨by rw [e];rfl,m⟩
def je (c:dG) (f:fH):Int:=if c.power=fF then 0 else if c.idle=fF then f.wants else if f.wants=0 \/ f.wants=9 then 0 else 1
theorem gu (c:dG) (f:fH) (w:wW):Calls tp 106 #[.agg (bD c).toArray,.agg (ez f).toArray] w (bp (vi iQ (je c f)) w):=by
 have hW:=λw=>Cc f w
 obtain ⟨pw,il,wy,si,st,bu⟩:=c
 have c0:((w.alloc (.cells (bD ⟨pw,il,wy,si,st,bu⟩).toArray 213 (0,0))).alloc (.cells (ez f).toArray 227 (0,0))).cell? ⟨w.heap.size,0,nN⟩=sS (vb pw):=ab (cS (ai _ _)) 0
 have c1:((w.alloc (.cells (bD ⟨pw,il,wy,si,st,bu⟩).toArray 213 (0,0))).alloc (.cells (ez f).toArray 227 (0,0))).cell? ⟨w.heap.size,1,nN⟩=sS (vb il):=ab (cS (ai _ _)) 1
 obtain ⟨v,hv⟩:∃ v,v=je ⟨pw,il,wy,si,st,bu⟩ f:=⟨_,rfl⟩
 rw [<- hv]
 unfold je at hv
 generalize f.wants=x at *
 simp only [ez,bD] at *
 obtain ⟨a1,a2,a3,a4,a5,a6,a7,a8,a9⟩:=f
 dsimp only at *
 cases pw
 ·simp at hv
  subst hv
  go_in
  go_wp2_with (
   go_at_call 176
   refine (hW _).s λw2 m=>?_
   have q0:=m.at c0 sM
   have q1:=m.at c1 sM
   have M:=zh m
   clear m
   )
  go_ret
  refine ⟨rfl,?_⟩
  have m:=M.out
  exact af.trans (S:=[]) (((af.refl [] w).alloc _).alloc _) m sM
 ·cases il
  ·simp at hv
   subst hv
   go_in
   go_wp2_with (
    go_at_call 176
    refine (hW _).s λw2 m=>?_
    have q0:=m.at c0 sM
    have q1:=m.at c1 sM
    have M:=zh m
    clear m
    )
   go_ret
   refine ⟨rfl,?_⟩
   have m:=M.out
   exact af.trans (S:=[]) (((af.refl [] w).alloc _).alloc _) m sM
  ·simp at hv
   by_cases h9:x=0
   ·rw [pG (.inl h9)] at hv
    subst hv
    subst h9
    go_in
    go_wp2_with (
     go_at_call 176
     refine (hW _).s λw2 m=>?_
     have q0:=m.at c0 sM
     have q1:=m.at c1 sM
     have M:=zh m
     clear m
     )
    go_ret
    refine ⟨rfl,?_⟩
    have m:=M.out
    exact af.trans (S:=[]) (((af.refl [] w).alloc _).alloc _) m sM
   ·by_cases h10:x=9
    ·rw [pG (.inr h10)] at hv
     subst hv
     subst h10
     go_in
     go_wp2_with (
      go_at_call 176
      refine (hW _).s λw2 m=>?_
      have q0:=m.at c0 sM
      have q1:=m.at c1 sM
      have M:=zh m
      clear m
      )
     go_ret
     refine ⟨rfl,?_⟩
     have m:=M.out
     exact af.trans (S:=[]) (((af.refl [] w).alloc _).alloc _) m sM
    ·rw [nG oM] at hv
     subst hv
     have e1:(x==0)=fF:=by simp [h9]
     have e2:(x==9)=fF:=by simp [h10]
     go_in
     go_wp2_with (
      go_at_call 176
      refine (hW _).s λw2 m=>?_
      have q0:=m.at c0 sM
      have q1:=m.at c1 sM
      have M:=zh m
      clear m
      )
     go_ret
     refine ⟨rfl,?_⟩
     have m:=M.out
     exact af.trans (S:=[]) (((af.refl [] w).alloc _).alloc _) m sM
theorem GZ {w:wW} {n:Nat} (o:Obj) (h:w.heap.size=n):(w.alloc o).heap[n]?=sS o:=h ▸ ai w o
theorem oQ {k n:Nat} {f:Nat -> List Value} (hk:∀ i,(f i).length=k) {i:Nat} (hi:i<n):(ea n f).toArray.extract (i * k) (i * k+k)=(f i).toArray:=by
 have hle:(i+1) * k <= n * k:=Nat.mul_le_mul_right k hi
 rw [Nat.add_mul,Nat.one_mul] at hle
 have hl:=bm hk n
 apply Array.ext_getElem?
 intro j
 rw [Array.getElem?_extract]
 simp only [List.size_toArray,List.getElem?_toArray,hl]
 by_cases hj:j<k
 ·rw [pG oM,jJ hk hj n hi]
 ·rw [nG oM,List.getElem?_eq_none (by rw [hk];omega)]
theorem Ey (f:Nat -> List Value) (hk:∀ i,(f i).length=4) {i:Nat} (hi:i<16) (w:wW):(Instr.index 185 (.agg (ea 16 f).toArray) (vi iQ i)).run tp w=.ok (.agg (f i).toArray) w:=by
 have h1:((i:Nat):Int)<16:=by omega
 have hu:=Tryz.underlying185
 have e:=oQ hk hi
 simp [Instr.index,asIntOf,Sem.run_bind,run_underlying hu,part,Tryz.isAgg184,Tryz.sizeOf184,h1,Result.andThen]
 rw [pG hi]
 have e2:=e
 simp at e2
 rw [e2]
def cK (t:IT):Nat -> List Int
 | 0=>[]
 | j+1=>if (t.c j).wanted=tQ then cK t j++[(j:Int)] else cK t j
theorem nl (t:IT):∀ j,(cK t j).length <= j
 | 0=>by simp [cK]
 | j+1=>by
  have:=nl t j
  unfold cK
  split
  ·rw [List.length_append];simp;omega
  ·omega
theorem Ex {F:List Nat} {w u:wW} {b:Nat} {t:IT} (h:On F w [ak.blk b (bH t)] u):u.rangeAt b 0 (ea 16 λi=>gK (t.c i)) /\ (tp.info? 185).map (·.size)=sS (ea 16 λi=>gK (t.c i)).length:=by
 constructor
 ·intro j v hj
  have hl:=bm (k:=4) (f:=λi=>gK (t.c i)) (λ_=>rfl) 16
  have hlt:j<64:=by have:=(List.getElem?_eq_some_iff.1 hj).1;omega
  have h1:=h.irqC (i:=j / 4) oM (j % 4) oM
  have e:j / 4 * 4+j % 4=j:=by omega
  rw [e] at h1
  have h2:=jJ (k:=4) (f:=λi=>gK (t.c i)) (λ_=>rfl) (i:=j / 4) (j:=j % 4) oM 16 oM
  rw [e,hj] at h2
  rw [Nat.zero_add,h1,<- h2]
 ·have:(tp.info? 185).map (·.size)=sS 64:=by kernel_rfl
  rw [this,bm (k:=4) (λ_=>rfl)]
theorem GL {F:List Nat} {w:wW} {b:Nat} {t:IT} (h:(fL b t).holds F w):Calls tp 86 #[vp (sS ⟨b,0,nN⟩)] w (iU (cK t 16) w):=by
 obtain ⟨hok,hA⟩:=fB h
 obtain ⟨hrg,hinf⟩:=Ex hA
 have hix:=λ(i:Nat) (hi:i<16) (w:wW)=>Ey (λi=>gK (t.c i)) (λ_=>rfl) hi w
 generalize (ea 16 λi=>gK (t.c i))=A at *
 clear hA h hok
 go_in
 go_wp2_with (refine wpList_load_mid rfl 185 _ rfl b 0 rfl A _ hrg Tryz.underlying185 rfl hinf ?_)
 clear hrg hinf
 go_loopg [3,12] 16 (λgg out i wr=>∃ (j:Nat) (g:Option Nat) (cap:Nat),i=vi iQ j /\ j+gg=16 /\ out=.slice (lA g) (cK t j).length cap /\ fG wr g cap (cK t j) /\ af [] w wr /\ ∀ b,b∈lF g -> w.heap.size <= b)
 case atStart=>exact ⟨0,nN,0,rfl,by omega,rfl,⟨rfl,rfl⟩,by first|exact mR|exact mR.drewN _,by simp [lF]⟩
 case round=>
  obtain ⟨j,g,cap,rfl,hj,rfl,hL,m,hg⟩:=hrel
  by_cases hlt:j<16
  ·have hltI:(j:Int)<16:=by omega
   have hx:=λw=>hix j hlt w
   have hS:cK t (j+1)=if (t.c j).wanted=tQ then cK t j++[(j:Int)] else cK t j:=rfl
   have hlen:(cK t j).length<1000000:=by have:=nl t j;omega
   have hms:=m.size
   generalize hc:t.c j=x at *
   obtain ⟨wa,ma,pe,mk⟩:=x
   clear hix hc
   simp only [gK] at hx
   cases wa
   ·rw [nG sM] at hS
    have HS:=zh hS
    clear hS
    generalize cK t j=lj at *
    go_wp2
    go_roundg (gk - 1)
    case measure=>omega
    case rel=>exact ⟨j+1,g,cap,by go_num,by omega,by rw [HS.out],by rw [HS.out];exact hL.keep (S:=[]) (by repeat (first|with_reducible exact mR|with_reducible apply af.alloc|with_reducible apply af.drewN|with_reducible refine af.setCell ?_ (.inr sM) _)) sM,m.trans (T:=[]) (by repeat (first|with_reducible exact mR|with_reducible apply af.alloc|with_reducible apply af.drewN|with_reducible refine af.setCell ?_ (.inr sM) _)) sM,hg⟩
   ·rw [pG rfl] at hS
    have HS:=zh hS
    clear hS
    generalize cK t j=lj at *
    go_wp2_with (at_builtin;(refine cE rfl _ _ rfl (hL.keep (S:=[]) (by repeat (first|with_reducible exact mR|with_reducible apply af.alloc|with_reducible apply af.drewN|with_reducible refine af.setCell ?_ (.inr sM) _)) sM) hlen (GZ _ sM) rfl rfl ?_;rintro g2 cap2 w2 hL2 m2 hg2;have H2:=zh (And.intro hL2 (And.intro (af.trans (S:=[]) (m.trans (T:=[]) (by repeat (first|with_reducible exact mR|with_reducible apply af.alloc|with_reducible apply af.drewN|with_reducible refine af.setCell ?_ (.inr sM) _)) sM) m2 (λb hb=>.inr (hg b hb))) hg2));clear hL2 m2 hg2))
    obtain ⟨hL2,m3,hg2⟩:=H2.out
    simp only [cm,lL,World.size_alloc] at hg2
    go_roundg (gk - 1)
    case measure=>omega
    case rel=>
     refine ⟨j+1,sS g2,cap2,by go_num,by omega,by rw [HS.out];simp [lA],by rw [HS.out];exact hL2,m3,?_⟩
     intro b hb
     simp [lF] at hb
     subst hb
     rcases hg2 with hg2|hg2
     ·exact hg _ hg2
     ·omega
  ·obtain rfl:j=16:=by omega
   clear hix
   go_wp2
   go_ret
   exact ⟨g,cap,rfl,hL,m,hg⟩
end Go.Proofs.YtmiapbgkphpgoaaGreatDoor