/- Walks and plain laws of the kernel. No condition. -/
import Derived.Test.YtmiapbgkphpgoaaGreatDoorKAM
import Derived.Test.YtmiapbgkphpgoaaGreatDoorBaseM
import Derived.Test.YtmiapbgkphpgoaaGreatDoorKBM
import Derived.Lib.TrailingZeros
import Derived.Shelf.Lays
import Derived.Test.YtmiapbgkphpgoaaGreatDoorProg
import Derived.Shelf.Bits.Mul64
import Derived.Test.YtmiapbgkphpgoaaGreatDoorTimerM
import Derived.OwnWalk
import Derived.Test.YtmiapbgkphpgoaaGreatDoorKCM
import Derived.Deep.RegionHeld3
namespace Go.Proofs.YtmiapbgkphpgoaaGreatDoor
set_option linter.unusedVariables false
set_option linter.unusedSimpArgs false
set_option maxRecDepth 100000
set_option maxHeartbeats 20000000
open Go.RowKit
open Go.Proofs.Tryz renaming prog → tp
open List renaming setIfInBounds_toArray → sA, set_cons_zero → sB, set_cons_succ → sC
open Go renaming World → wW
open Go.Value renaming pointer → vp, bool → vb, int → vi
open Go.IntKind renaming i64 → iQ, u64 → uQ
open Option renaming none → nN, some → sS
open Bool renaming true → tQ, false → fF
open Int renaming eq_ofNat_of_zero_le → iN
abbrev PQ:=List (Nat × Int)
/-- The ids of one priority, in order. -/
def cJ (L:PQ) (p:Nat):List Int:=(L.filter λx=>decide (x.1=p)).map (·.2)
def kP:List Nat:=[7,6,5,4,3,2,1,0]
def lu (L:PQ):List Int:=kP.flatMap (cJ L)
def aH (L:PQ) (id:Int):Option Nat:=(L.find? λx=>decide (x.2=id)).map (·.1)
def dT (L:PQ) (id:Int):PQ:=L.filter λx=>!decide (x.2=id)
def fu (most:Nat) (L:PQ) (p id:Int):Int:=if p<0 \/ 8 <= p then 2 else if (aH L id).isSome then 6 else if most <= L.length then 5 else 0
def mD (most:Nat) (L:PQ) (p id:Int):PQ:=if fu most L p id=0 then L++[(p.toNat,id)] else L
def qm (L:PQ) (id:Int):Int:=if (aH L id).isSome then 0 else 4
def iT (L:PQ) (id:Int):PQ:=match aH L id with|some p=>dT L id++[(p,id)]|none=>L
def fJ (L:PQ):Int:=ar (lu L) 0
def jW (L:PQ):Int:=if L=[] then 12 else 0
def eJ (L:PQ):PQ:=if L=[] then L else iT L (fJ L)
/-- No id twice, all priorities below 8. -/
structure PQ.ok (L:PQ):Prop where
 nodup:(L.map (·.2)).Nodup
 lt:∀ x,x∈L -> x.1<8
theorem BF (L M:PQ) (p:Nat):cJ (L++M) p=cJ L p++cJ M p:=by simp [cJ]
theorem lQ {L:PQ} {p:Nat} {id:Int}:id∈cJ L p↔(p,id)∈L:=by
 unfold cJ
 simp only [List.mem_map,List.mem_filter,decide_eq_true_eq]
 constructor
 ·rintro ⟨x,⟨h1,h2⟩,rfl⟩;rw [<- h2];exact h1
 ·intro h;exact ⟨_,⟨h,rfl⟩,rfl⟩
theorem ca {L:PQ} (h:L.ok) {id:Int} {p:Nat}:aH L id=sS p↔(p,id)∈L:=by
 unfold aH
 constructor
 ·intro hh
  obtain ⟨x,h1,rfl⟩:=Option.map_eq_some_iff.1 hh
  have h2:=List.find?_some h1
  have h3:=List.mem_of_find?_eq_some h1
  simp at h2
  rw [<- h2];exact h3
 ·intro hm
  cases hf:L.find? λx=>decide (x.2=id) with
  | none=>
   have:=List.find?_eq_none.1 hf _ hm
   simp at this
  | some x=>
   have h2:=List.find?_some hf
   have h3:=List.mem_of_find?_eq_some hf
   simp at h2
   obtain ⟨a,b⟩:=x
   simp only at h2
   subst h2
   have:a=p:=by
    have hn:=h.nodup
    rw [List.Nodup,List.pairwise_map] at hn
    apply Classical.byContradiction
    intro hne
    rcases List.mem_iff_getElem.1 h3 with ⟨i,hi,ei⟩
    rcases List.mem_iff_getElem.1 hm with ⟨j,hj,ej⟩
    have hij:i≠j:=by rintro rfl;rw [ei] at ej;cases ej;exact hne rfl
    have hp:=List.pairwise_iff_getElem.1 hn
    rcases Nat.lt_or_gt_of_ne hij with hlt|hlt
    ·have:=hp i j hi hj hlt;rw [ei,ej] at this;exact this rfl
    ·have:=hp j i hj hi hlt;rw [ei,ej] at this;exact this rfl
   rw [this];rfl
theorem ka {L:PQ} {id:Int}:aH L id=nN↔id∉L.map (·.2):=by
 unfold aH
 rw [Option.map_eq_none_iff,List.find?_eq_none]
 constructor
 ·intro h hm
  obtain ⟨x,hx,rfl⟩:=List.mem_map.1 hm
  have:=h x hx
  simp at this
 ·intro h x hx e
  simp at e
  exact h (List.mem_map.2 ⟨x,hx,e⟩)
theorem Gk (L:PQ) (id:Int) (p:Nat):cJ (dT L id) p=(cJ L p).filter λx=>!decide (x=id):=by
 unfold cJ dT
 rw [List.filter_map,List.filter_filter,List.filter_filter]
 congr 1
 refine List.filter_congr λx _=>?_
 simp [Bool.and_comm]
theorem wC {L:PQ} (h:L.ok) (p:Nat):(cJ L p).Nodup:=by
 have:=h.nodup
 unfold cJ
 exact (List.filter_sublist.map _).nodup this
theorem rJ {L:PQ} (h:L.ok) (id:Int):(dT L id:PQ).ok:=
 ⟨(List.filter_sublist.map _).nodup h.nodup,λx hx=>h.lt x (List.mem_filter.1 hx).1⟩
theorem rG {L:PQ} (h:L.ok) {p:Nat} {id:Int} (hp:p<8) (hn:aH L id=nN):PQ.ok (L++[(p,id)]):=by
 refine ⟨?_,λx hx=>?_⟩
 ·rw [List.map_append]
  exact List.nodup_append.2 ⟨h.nodup,by simp,by rintro x hx y hy rfl;simp at hy;exact ka.1 hn (hy ▸ hx)⟩
 ·rcases List.mem_append.1 hx with hx|hx
  ·exact h.lt x hx
  ·rw [List.mem_singleton] at hx;subst hx;exact hp
theorem Es:∀ (K:PQ),(∀ x,x∈K -> x.1<8) -> (lu K).length=K.length:=by
  intro K
  unfold lu
  induction K with
  | nil=>intro _;rfl
  | cons x K ih=>
   intro hK
   have h1:=ih (λy hy=>hK y (List.mem_cons_of_mem _ hy))
   have h2:=hK x List.mem_cons_self
   have hc:∀ p,(cJ (x :: K) p).length=(cJ K p).length+if x.1=p then 1 else 0:=by
    intro p
    unfold cJ
    by_cases e:x.1=p
    ·rw [List.filter_cons_of_pos (by simpa using e),pG e];simp
    ·rw [List.filter_cons_of_neg (by simpa using e),nG e];simp
   simp only [kP,List.flatMap_cons,List.flatMap_nil,List.length_append,List.length_nil,hc] at h1 ⊢
   rw [List.length_cons,<- h1]
   have h3:x.1=0 \/ x.1=1 \/ x.1=2 \/ x.1=3 \/ x.1=4 \/ x.1=5 \/ x.1=6 \/ x.1=7:=by omega
   rcases h3 with e|e|e|e|e|e|e|e<;>rw [e]<;>simp<;>omega
theorem og (i:Int):gJ [] i=none:=rfl
theorem cV (p:Int × Value) (m:List (Int × Value)) (i:Int):gJ (p :: m) i=if i=p.1 then sS p.2 else gJ m i:=by
 unfold gJ
 rw [bM]
 split
 ·rfl
 ·rw [dL];cases bM m i 0<;>rfl
theorem ta (p:Int × Value) (m:List (Int × Value)) (i:Int):bM (p :: m) i 0=if i=p.1 then sS (0,p.2) else (bM m i 0).map λq=>(q.1+1,q.2):=by
 rw [bM]
 split
 ·rfl
 ·rw [dL]
theorem vZ (p:Int × Value) (m:List (Int × Value)) (i:Int) (v:Value):oe (p :: m) i v=if i=p.1 then (i,v) :: m else p :: oe m i v:=by
 unfold oe
 rw [ta]
 by_cases e:i=p.1
 ·rw [pG e,pG e];rfl
 ·rw [nG e,nG e]
  cases bM m i 0<;>simp
theorem wo (p:Int × Value) (m:List (Int × Value)) (i:Int):pK (p :: m) i=if i=p.1 then m else p :: pK m i:=by
 unfold pK
 rw [ta]
 by_cases e:i=p.1
 ·rw [pG e,pG e];rfl
 ·rw [nG e,nG e]
  cases bM m i 0<;>simp
theorem zr:∀ (m:List (Int × Value)) (i:Int) (v:Value) (j:Int),gJ (oe m i v) j=if j=i then sS v else gJ m j
 | [],i,v,j=>by
  show gJ [(i,v)] j=_
  rw [cV,og]
 | p :: m,i,v,j=>by
  rw [vZ]
  split
  ·rename_i e
   rw [cV,cV]
   subst e
   by_cases h:j=p.1<;>simp [h]
  ·rename_i e
   rw [cV,cV,zr m i v j]
   by_cases h:j=p.1
   ·subst h
    rw [pG rfl,nG (λx=>e x.symm),pG rfl]
   ·rw [nG h,nG h]
theorem zq:∀ (m:List (Int × Value)) (i:Int) (v:Value),(oe m i v).length=if (gJ m i).isSome then m.length else m.length+1
 | [],i,v=>rfl
 | p :: m,i,v=>by
  rw [vZ,cV]
  split
  ·simp
  ·rw [List.length_cons,zq m i v]
   split<;>simp
theorem Gv {m:List (Int × Value)} {i:Int}:(gJ m i).isSome=tQ↔i∈m.map (·.1):=by
 induction m with
 | nil=>simp [og]
 | cons p m ih=>
  rw [cV,List.map_cons,List.mem_cons]
  by_cases e:i=p.1
  ·simp [e]
  ·rw [nG e,ih];simp [e]
theorem zs:∀ (m:List (Int × Value)),(m.map (·.1)).Nodup -> ∀ (i j:Int),gJ (pK m i) j=if j=i then nN else gJ m j
 | [],_,i,j=>by
  show gJ [] j=_
  rw [og];simp
 | p :: m,hn,i,j=>by
  rw [List.map_cons,List.nodup_cons] at hn
  rw [wo]
  split
  ·rename_i e
   subst e
   rw [cV]
   by_cases h:j=p.1
   ·subst h
    rw [pG rfl]
    cases hm:gJ m p.1 with
    | none=>rfl
    | some v=>exact absurd (Gv.1 (by rw [hm];rfl)) hn.1
   ·rw [nG h,nG h]
  ·rename_i e
   rw [cV,cV,zs m hn.2 i j]
   by_cases h:j=p.1
   ·subst h
    rw [pG rfl,nG (λx=>e x.symm),pG rfl]
   ·rw [nG h,nG h]
theorem zv:∀ (m:List (Int × Value)) (i:Int),(pK m i).length=if (gJ m i).isSome then m.length - 1 else m.length
 | [],i=>rfl
 | p :: m,i=>by
  rw [wo,cV]
  split
  ·simp
  ·rw [List.length_cons,zv m i]
   split
   ·rename_i h
    have:m≠[]:=by rintro rfl;simp [og] at h
    have:=List.length_pos_iff.2 this
    simp;omega
   ·simp
theorem bR.nodup {w:wW} {b:Nat} {m:List (Int × Value)} (h:bR .i64 w b m):(m.map (·.1)).Nodup:=by
 obtain ⟨es,clk,h1,h2⟩:=h
 exact h2.nodup
/-- The map at block b has n entries; it maps i to f i. -/
def jv (w:wW) (b n:Nat) (f:Int -> Option Value):Prop:=∃ m,bR .i64 w b m /\ m.length=n /\ ∀ i,gJ m i=f i
theorem jv.keep {S:List Nat} {w w':wW} {b n:Nat} {f:Int -> Option Value} (h:jv w b n f) (mm:af S w w') (hb:b∉S):jv w' b n f:=by
 obtain ⟨m,h1,h2⟩:=h
 exact ⟨m,h1.keep mm hb,h2⟩
theorem jv.lt {w:wW} {b n:Nat} {f:Int -> Option Value} (h:jv w b n f):b<w.heap.size:=by
 obtain ⟨m,h1,h2⟩:=h
 exact h1.lt
def BX (f:Int -> Option Value) (i:Int) (v:Value):Int -> Option Value:=λj=>if j=i then sS v else f j
def BZ (f:Int -> Option Value) (i:Int):Int -> Option Value:=λj=>if j=i then nN else f j
def dD (b n:Nat) (f:Int -> Option Value):ak where
 holds F w:=F=[b] /\ jv w b n f
 keep h m hS:=⟨h.1,h.2.keep m (hS _ (by rw [h.1];exact List.mem_singleton_self _))⟩
 lt h b hb:=by rw [h.1,List.mem_singleton] at hb;subst hb;exact h.2.lt
section
variable {P:Program} {w u:wW} {b n:Nat} {f:Int -> Option Value} {t k e:TypeId}
theorem ES (h:jv w b n f) (ht:P.underlying t=sS (.map k e)) (hk:P.underlying k=sS (.int .i64)) (i:Int) {z:Value} (hz:∀ w,(zeroValue e).run P w=.ok z w):
  (Instr.lookup t (.map (sS b)) (vi iQ i) fF).run P w=.ok ((f i).getD z) w:=by
 obtain ⟨m,h1,h2,h3⟩:=h
 rw [<- h3 i]
 exact kt h1 ht hk i hz
theorem kG (h:jv w b n f) (ht:P.underlying t=sS (.map k e)) (hk:P.underlying k=sS (.int .i64)) (i:Int) {z:Value} (hz:∀ w,(zeroValue e).run P w=.ok z w):
  (Instr.lookup t (.map (sS b)) (vi iQ i) tQ).run P w=.ok (.tuple #[(f i).getD z,vb (f i).isSome]) w:=by
 obtain ⟨m,h1,h2,h3⟩:=h
 rw [<- h3 i]
 exact ll h1 ht hk i hz
theorem Hh (h:jv w b n f) (ht:P.underlying t=sS (.map k e)) (ty:TypeId):(Builtin.len_ #[t] ty #[.map (sS b)]).run P w=.ok (vi iQ n) w:=by
 obtain ⟨m,⟨es,clk,hb,he⟩,h2,h3⟩:=h
 have hlen:es.size=n:=by have:=congrArg List.length he.eq;simp at this;omega
 rw [<- hlen]
 simp [Builtin.len_,run_underlying ht,getObj,Sem.run,hb]
 try rfl
variable {F0:List Nat} {w0:wW} {l:List ak}
theorem On.fmPut (h:On F0 w0 l u) (q:Nat) (hq:l[q]?=sS (dD b n f)) (ht:P.underlying t=sS (.map k e)) (hk:P.underlying k=sS (.int .i64)) (i:Int) (v:Value):
  ∃ w1,(Instr.mapUpdate t (.map (sS b)) (vi iQ i) v).run P u=.ok () w1 /\ On F0 w0 (l.set q (dD b (if (f i).isSome then n else n+1) (BX f i v))) w1:=by
 obtain ⟨F1,⟨rfl,m,h1,h2,h3⟩,_,h5⟩:=h.gain (P':=dD b n f) q hq
 obtain ⟨w1,hrun,m1,x1⟩:=iI (P:=P) h1 ht hk i v
 refine ⟨w1,hrun,h5 ⟨[b],⟨rfl,_,x1,?_,λj=>?_⟩,m1,λb hb=>.inl hb⟩⟩
 ·rw [zq,h3,h2]
 ·rw [zr,h3];rfl
theorem On.fmDel (h:On F0 w0 l u) (q:Nat) (hq:l[q]?=sS (dD b n f)) (ht:P.underlying t=sS (.map k e)) (hk:P.underlying k=sS (.int .i64)) (i:Int):
  ∃ w1,(∀ ty,(Builtin.delete_ #[t,k] ty #[.map (sS b),vi iQ i]).run P u=.ok (.tuple #[]) w1) /\ On F0 w0 (l.set q (dD b (if (f i).isSome then n - 1 else n) (BZ f i))) w1:=by
 obtain ⟨F1,⟨rfl,m,h1,h2,h3⟩,_,h5⟩:=h.gain (P':=dD b n f) q hq
 obtain ⟨w1,hrun,m1,x1⟩:=ku (P:=P) h1 ht hk i
 refine ⟨w1,hrun,h5 ⟨[b],⟨rfl,_,x1,?_,λj=>?_⟩,m1,λb hb=>.inl hb⟩⟩
 ·rw [zv,h3,h2]
 ·rw [zs _ h1.nodup,h3];rfl
theorem On.fm (h:On F0 w0 l u) (q:Nat) (hq:l[q]?=sS (dD b n f)):jv u b n f:=by
 obtain ⟨F,h1⟩:=h.get q hq
 exact h1.2
theorem On.fmNew (h:On F0 w0 l u):On F0 w0 (l++[dD u.heap.size 0 (λ_=>nN)]) (u.alloc (.map #[] 0)):=by
 have:=h.alloc (.map #[] 0)
 refine this.imp λF hF=>?_
 obtain ⟨F1,F2,rfl,h1,⟨F3,F4,e2,⟨h2,h3⟩,rfl,_⟩,h4⟩:=aR.append.1 hF
 have hF4:F2=F3:=by simpa using e2
 subst hF4
 refine ⟨F1++F2,aR.append.2 ⟨F1,F2,rfl,h1,⟨F2,[],by simp,⟨h2,[],⟨#[],0,h3,by simp,by simp,by simp,by simp⟩,rfl,λi=>rfl⟩,rfl,by simp⟩,h4⟩,λb hb=>hb⟩
end
/-- Numbers by numbers, pointers by numbers. -/
def ew (g:Int -> Option Int):Int -> Option Value:=λi=>(g i).map (vi iQ)
def xw (g:Int -> Option Nat):Int -> Option Value:=λi=>(g i).map λb=>vp (sS ⟨b,0,nN⟩)
def cA {α:Type} (g:Int -> Option α) (i:Int) (v:α):Int -> Option α:=λj=>if j=i then sS v else g j
def dZ {α:Type} (g:Int -> Option α) (i:Int):Int -> Option α:=λj=>if j=i then nN else g j
theorem nU (g:Int -> Option Int) (i v:Int):BX (ew g) i (vi iQ v)=ew (cA g i v):=by
 funext j;unfold BX ew cA;split<;>rfl
theorem nV (g:Int -> Option Int) (i:Int):BZ (ew g) i=ew (dZ g i):=by
 funext j;unfold BZ ew dZ;split<;>rfl
theorem Gd (g:Int -> Option Nat) (i:Int) (v:Nat):BX (xw g) i (vp (sS ⟨v,0,nN⟩))=xw (cA g i v):=by
 funext j;unfold BX xw cA;split<;>rfl
theorem Ge (g:Int -> Option Nat) (i:Int):BZ (xw g) i=xw (dZ g i):=by
 funext j;unfold BZ xw dZ;split<;>rfl
theorem vQ (g:Int -> Option Int) (i:Int):(ew g i).isSome=(g i).isSome:=by unfold ew;cases g i<;>rfl
/-- Of the first j numbers from 1 on those of which p is so. -/
def dW (p:Nat -> Bool):Nat -> List Int
 | 0=>[]
 | j+1=>if p (j+1)=tQ then dW p j++[((j:Int)+1)] else dW p j
theorem mJ (p:Nat -> Bool):∀ j,(dW p j).length <= j
 | 0=>by simp [dW]
 | j+1=>by
  have:=mJ p j
  unfold dW
  split
  ·rw [List.length_append];simp;omega
  ·omega
/-- The cores of a mask, rising. -/
def cw (m:Nat):List Int:=((List.range 64).filter λi=>m.testBit i).map λ(i:Nat)=>(i:Int)
theorem pM (m:Nat):(cw m).length <= 64:=by
 unfold cw
 rw [List.length_map]
 have:=List.length_filter_le (λi=>m.testBit i) (List.range 64)
 simpa using this
theorem oS {p q:Nat -> Bool} {k:Nat} (hp:p k=tQ) (h0:∀ j,j<k -> p j=fF) (hq:∀ j,q j=(p j&&decide (j≠k))):∀ n,(List.range n).filter p=if k<n then k :: (List.range n).filter q else []
 | 0=>by simp
 | n+1=>by
  rw [List.range_succ,List.filter_append,List.filter_append,oS hp h0 hq n]
  by_cases h1:k<n
  ·rw [pG h1,pG oM,List.cons_append]
   congr 2
   simp only [List.filter_cons,List.filter_nil]
   rw [hq n,decide_eq_true (show n≠k by omega),Bool.and_true]
  ·rw [nG h1]
   by_cases h2:k=n
   ·subst h2
    rw [pG oM]
    have e1:(List.range k).filter q=[]:=by
     rw [List.filter_eq_nil_iff]
     intro a ha
     rw [hq a,h0 a (List.mem_range.1 ha)];simp
    have e2:q k=fF:=by rw [hq k];simp
    simp [hp,e1,e2]
   ·rw [nG oM]
    have:p n=fF:=h0 n oM
    simp [this]
/-- The BG bit of a mask is struck. -/
theorem BG {m:Nat} (h0:m≠0) (hm:m<2 ^ 64):Lib.ctz 64 m<64 /\ m.testBit (Lib.ctz 64 m)=tQ /\ (∀ j,j<Lib.ctz 64 m -> m.testBit j=fF) /\ ∀ j,(m &&& (m - 1)).testBit j=(m.testBit j&&decide (j≠Lib.ctz 64 m)):=by
 have hc:Lib.ctz 64 m=Lib.ctzFrom 64 m:=by unfold Lib.ctz;rw [nG h0]
 obtain ⟨t,ht,hk⟩:=Lib.ctzFrom_spec 64 m oM hm
 rw [hc]
 generalize Lib.ctzFrom 64 m=k at *
 have hb:∀ j,m.testBit j=(decide (k <= j)&&(2 * t+1).testBit (j - k)):=by
  intro j
  rw [ht,Nat.mul_comm,Nat.testBit_mul_two_pow]
 have hpos:0<2 ^ k:=Nat.pow_pos oM
 have hm1:m - 1=2 ^ k * (2 * t)+(2 ^ k - 1):=by
  rw [ht,Nat.mul_add,Nat.mul_one];omega
 have hb1:∀ j,(m - 1).testBit j=if j<k then tQ else (2 * t).testBit (j - k):=by
  intro j
  rw [hm1,Nat.testBit_two_pow_mul_add _ oM]
  split
  ·rename_i h;rw [Nat.testBit_two_pow_sub_one];simp [h]
  ·rfl
 refine ⟨hk,?_,?_,?_⟩
 ·rw [hb k];simp
 ·intro j hj;rw [hb j];simp;omega
 ·intro j
  rw [Nat.testBit_and,hb j,hb1 j]
  by_cases h:j<k
  ·have:¬ k <= j:=by omega
   simp [this]
  ·rw [nG h]
   by_cases e:j=k
   ·subst e;simp
   ·have h2:∃ d,j - k=d+1:=⟨j - k - 1,by omega⟩
    obtain ⟨d,hd⟩:=h2
    rw [hd]
    have a1:(2 * t+1).testBit (d+1)=t.testBit d:=by rw [Nat.testBit_succ];congr 1;omega
    have a2:(2 * t).testBit (d+1)=t.testBit d:=by rw [Nat.testBit_succ];congr 1;omega
    rw [a1,a2,decide_eq_true (show k <= j by omega),decide_eq_true e]
    simp
theorem BJ {m:Nat} (h0:m≠0) (hm:m<2 ^ 64):cw m=(Lib.ctz 64 m:Int) :: cw (m &&& (m - 1)):=by
 obtain ⟨h1,h2,h3,h4⟩:=BG h0 hm
 unfold cw
 rw [oS (p:=λi=>m.testBit i) (q:=λi=>(m &&& (m - 1)).testBit i) h2 h3 h4 64,pG h1,List.map_cons]
theorem BI:cw 0=[]:=by
 unfold cw
 have:(List.range 64).filter (λi=>Nat.testBit 0 i)=[]:=by rw [List.filter_eq_nil_iff];intro a _;simp
 rw [this];rfl
def ou (a b:Int):Prop:=(0 <= a /\ a <= 1152921504606846976) /\ (0 <= b /\ b <= 1073741824)
instance instNum21 (a b:Int):Decidable (ou a b):=by unfold ou;infer_instance
def aO (a b:Int):Int:=if ¬ ou a b then 2 else if a <= 1152921504606846976 - b then 0 else 16
def aI (a b:Int):Int:=if aO a b=0 then a+b else 0
theorem sV (n m:Int) (w:wW):Calls tp 202 #[vi iQ n,vi iQ m] w (au (vb (decide (0 <= n /\ n <= m))) w):=by
 by_cases h:0 <= n
 ·go_in
  go_wp2
  go_ret
  exact au.of (by simp [h]) dz
 ·have e:decide (0 <= n /\ n <= m)=fF:=by simp;omega
  rw [e]
  have h':n<0:=by omega
  go_in
  go_wp2
  go_ret
  exact au.of sM dz
theorem iw (a b:Int) (w:wW):Calls tp 114 #[vi iQ a,vi iQ b] w (au (.tuple #[vi iQ (aI a b),vi iQ (aO a b)]) w):=by
 have hA:=λw=>sV a 1152921504606846976 w
 have hB:=λw=>sV b 1073741824 w
 by_cases h:ou a b
 ·obtain ⟨⟨h1,h2⟩,h3,h4⟩:=id h
  rw [decide_eq_true ⟨h1,h2⟩] at hA
  rw [decide_eq_true ⟨h3,h4⟩] at hB
  by_cases hs:a <= 1152921504606846976 - b
  ·have e1:aO a b=0:=by unfold aO;rw [nG (by simpa using h),pG hs]
   rw [show aI a b=a+b from pG e1,e1]
   have hF:=λw=>xQ (a+b) w
   clear e1 h
   go_in
   go_wp2_with (first
    | (go_at_call 202;refine (hA _).mono ?_;clear hA;rintro e w' ⟨rfl,k,rfl⟩)
    | (go_at_call 202;refine (hB _).r λk=>?_)
    | (go_at_call 203;refine (hF _).r λk=>?_))
   go_ret2
   exact au.of (rfl) dz
  ·have e1:aO a b=16:=by unfold aO;rw [nG (by simpa using h),nG hs]
   rw [show aI a b=0 from nG (by rw [e1];decide),e1]
   have hF:=λw=>BY (a+b) w
   have hs':1152921504606846976 - b<a:=by omega
   have hd:decide (a <= 1152921504606846976 - b)=fF:=decide_eq_false hs
   have hF:∀ w,Calls tp 203 #[vi iQ (a+b),vb (decide (a <= 1152921504606846976 - b))] w (au (.tuple #[vi iQ 0,vi iQ 16]) w):=by rw [hd];exact hF
   clear e1 h hs hd hs'
   go_in
   go_wp2_with (first
    | (go_at_call 202;refine (hA _).mono ?_;clear hA;rintro e w' ⟨rfl,k,rfl⟩)
    | (go_at_call 202;refine (hB _).r λk=>?_)
    | (go_at_call 203;refine (hF _).r λk=>?_))
   go_ret2
   exact au.of (rfl) dz
 ·have e1:aO a b=2:=pG h
  rw [show aI a b=0 from nG (by rw [e1];decide),e1]
  by_cases ha:0 <= a /\ a <= 1152921504606846976
  ·have hb:¬ (0 <= b /\ b <= 1073741824):=λhb=>h ⟨ha,hb⟩
   rw [decide_eq_true ha] at hA
   rw [decide_eq_false hb] at hB
   clear e1 h ha hb
   go_in
   go_wp2_with (first
    | (go_at_call 202;refine (hA _).mono ?_;clear hA;rintro e w' ⟨rfl,k,rfl⟩)
    | (go_at_call 202;refine (hB _).r λk=>?_))
   go_ret2
   exact au.of (rfl) dz
  ·rw [decide_eq_false ha] at hA
   clear e1 h ha
   go_in
   go_wp2_with (go_at_call 202;refine (hA _).r λk=>?_)
   go_ret2
   exact au.of (rfl) dz
theorem wU (lo y:Nat) (hl:lo<2 ^ 64) (hy0:0<y) (hy:y<2 ^ 64) (w:wW):Calls tp 349 #[vi uQ 0,vi uQ (lo:Nat),vi uQ (y:Nat)] w (au (.tuple #[vi uQ (lo / y:Nat),vi uQ (lo % y:Nat)]) w):=by
 have h0:((y:Int)==0)=fF:=by simp;omega
 have h1:(y:Int)≠0:=by omega
 have h2:(0:Int)<y:=by omega
 have h3:¬ (y:Int) <= 0:=by omega
 have hq:lo / y <= lo:=Nat.div_le_self _ _
 have hr:lo % y<y:=Nat.mod_lt _ hy0
 go_in
 go_wp2
 go_quiet (fail)
 go_wp2
 go_ret2
 refine ⟨?_,by repeat (first|exact aA.refl _|apply aA.drewN|apply aA.drew)⟩
 show Ending.returned (.tuple #[vi uQ (IntKind.u64.wrap ((lo:Int) / y)),vi uQ ((lo:Int) % y)])=_
 have e1:((lo:Int) / y)=((lo / y:Nat):Int):=by simp
 rw [e1,nz _ oM]
 simp
end Go.Proofs.YtmiapbgkphpgoaaGreatDoor
namespace Go.Proofs
open Go.Shelf
def YtmiapbgkphpgoaaGreatDoor.mulL_ren:Go.Shelf.Ren:=⟨fun|264=>348|n=>n,fun|53=>32|46=>165|n=>n,fun|n=>n⟩
theorem YtmiapbgkphpgoaaGreatDoor.mulL:Go.Proofs.Lays.n264 Tryz.prog YtmiapbgkphpgoaaGreatDoor.mulL_ren:={
 mixed:=by kernel_rfl
 f264:=Tryz.func348.trans (congrArg some (by kernel_rfl))
 t46:=Tryz.underlying165
 a46:=Tryz.isAgg165
 z46:=Tryz.sizeOf165
 v46:=Tryz.zeroValue165
 t53:=Tryz.underlying32
 a53:=Tryz.isAgg32
 z53:=Tryz.sizeOf32
 v53:=Tryz.zeroValue32 }
end Go.Proofs
namespace Go.Proofs.YtmiapbgkphpgoaaGreatDoor
set_option linter.unusedVariables false
set_option linter.unusedSimpArgs false
set_option maxRecDepth 100000
set_option maxHeartbeats 20000000
open Go.RowKit
open Go.Proofs.Tryz renaming prog → tp
open List renaming setIfInBounds_toArray → sA, set_cons_zero → sB, set_cons_succ → sC
open Go renaming World → wW
open Go.Value renaming pointer → vp, bool → vb, int → vi
open Go.IntKind renaming i64 → iQ, u64 → uQ
open Option renaming none → nN, some → sS
open Bool renaming true → tQ, false → fF
open Int renaming eq_ofNat_of_zero_le → iN
theorem JP (x y:Nat) (h:x * y<18446744073709551616) (hx:x<18446744073709551616) (hy:y<18446744073709551616) (w:wW):
  Calls tp 348 #[vi uQ x,vi uQ y] w (au (.tuple #[vi uQ 0,vi uQ (x * y:Nat)]) w):=by
 refine (show Calls tp 348 #[vi uQ x,vi uQ y] w _ from Any.bits_Mul64 mulL x y hx hy w).mono ?_;rintro e w' ⟨rfl,rfl⟩
 refine au.of ?_ (aA.refl _)
 rw [Nat.div_eq_of_lt h,Nat.mod_eq_of_lt h]
 rfl
def rf (a b:Int):Int:=if a<1 \/ b<1 then 0 else if b <= a then 100 else ((a.toNat * 100 / b.toNat:Nat):Int)
theorem IJ (a b:Int):0 <= rf a b /\ rf a b <= 100:=by
 unfold rf
 split
 ·omega
 ·split
  ·omega
  ·have:a.toNat * 100 / b.toNat <= 100:=Nat.div_le_of_le_mul (Nat.mul_le_mul_right 100 oM)
   generalize a.toNat * 100 / b.toNat=q at *
   omega
theorem zk (a b:Int) (ha:a<1125899906842624) (hb:bz b) (w:wW):Calls tp 350 #[vi iQ a,vi iQ b] w (au (vi iQ (rf a b)) w):=by
 obtain ⟨hb1,hb2⟩:=hb
 by_cases h0:a<1
 ·rw [show rf a b=0 from pG (.inl h0)]
  go_in
  go_wp2
  go_ret
  exact au.of (rfl) dz
 by_cases h1:b<1
 ·rw [show rf a b=0 from pG (.inr h1)]
  go_in
  go_wp2
  go_ret
  exact au.of (rfl) dz
 by_cases h2:b <= a
 ·rw [show rf a b=100 from by unfold rf;rw [nG oM,pG h2]]
  go_in
  go_wp2
  go_ret
  exact au.of (rfl) dz
 have hB:=(IJ a b).2
 have e0:rf a b=((a.toNat * 100 / b.toNat:Nat):Int):=by unfold rf;rw [nG oM,nG h2]
 rw [e0] at hB ⊢
 obtain ⟨x,rfl⟩:=iN (show 0 <= a by omega)
 obtain ⟨y,rfl⟩:=iN (show 0 <= b by omega)
 simp only [Int.toNat_natCast] at hB ⊢
 have hM:=λw=>JP x 100 oM oM oM w
 have hD:=λw=>wU (x * 100) y oM oM oM w
 clear e0
 generalize x * 100 / y=q at *
 generalize x * 100 % y=r at *
 generalize x * 100=p at *
 have hx:x<1125899906842624:=by omega
 go_in
 go_wp2_with (first
  | (go_at_call 348;refine (hM _).r λk=>?_)
  | (go_at_call 349;refine (hD _).r λk2=>?_))
 go_ret
 exact au.of (rfl) dz
def jZ (low high p:Int):Int:=if high<low \/ p<1 then low else if 100 <= p then high else low+(((high - low).toNat * p.toNat / 100:Nat):Int)
theorem DX (low high p:Int) (h1:0 <= low) (h2:low <= 1000000) (h3:0 <= high) (h4:high <= 1000000) (w:wW):Calls tp 320 #[vi iQ low,vi iQ high,vi iQ p] w (au (vi iQ (jZ low high p)) w):=by
 by_cases a1:high<low
 ·rw [show jZ low high p=low from pG (.inl a1)]
  go_in
  go_wp2
  go_ret
  exact au.of (rfl) dz
 by_cases a2:p<1
 ·rw [show jZ low high p=low from pG (.inr a2)]
  go_in
  go_wp2
  go_ret
  exact au.of (rfl) dz
 by_cases a3:100 <= p
 ·rw [show jZ low high p=high from by unfold jZ;rw [nG oM,pG a3]]
  go_in
  go_wp2
  go_ret
  exact au.of (rfl) dz
 have e0:jZ low high p=low+(((high - low).toNat * p.toNat / 100:Nat):Int):=by unfold jZ;rw [nG oM,nG a3]
 rw [e0]
 clear e0
 obtain ⟨x,rfl⟩:=iN h1
 obtain ⟨d,rfl⟩:∃ d:Nat,high=x+d:=⟨(high - x).toNat,by omega⟩
 obtain ⟨y,rfl⟩:=iN (show 0 <= p by omega)
 have hd:((x:Int)+d - x).toNat=d:=by omega
 rw [hd,Int.toNat_natCast]
 clear hd
 have hp1:d * y <= d * 100:=Nat.mul_le_mul_left _ oM
 have hM:=λw=>JP d y oM oM oM w
 have hD:=λw=>wU (d * y) 100 oM oM oM w
 have hq:d * y / 100 <= 1000000:=by omega
 generalize d * y / 100=q at *
 generalize d * y % 100=r at *
 generalize d * y=z at *
 have e1:(x:Int)+d - x=d:=by omega
 go_in
 go_wp2_with (first
  | (go_at_call 348;refine (hM _).r λk=>?_)
  | (go_at_call 349;refine (hD _).r λk2=>?_))
 go_ret
 exact au.of (rfl) dz
structure dq where
 low:Int
 high:Int
 busy:Nat -> Int
 all:Nat -> Int
 at':Nat
def mX (a b:Int):Bool:=decide (1 <= a /\ b <= 100000 /\ a <= b)
def dq.ok (g:dq):Prop:=(1 <= g.low /\ g.high <= 100000 /\ g.low <= g.high) /\ (∀ i,0 <= g.busy i /\ g.busy i <= g.all i /\ g.all i <= 1099511627776) /\ g.at'<4
def iJ (g:dq) (i:Nat):List Value:=[vi iQ (g.busy i),vi iQ (g.all i)]
def fD (g:dq):Obj:=.cells (cC [vi iQ g.low,vi iQ g.high] 4 (iJ g) [vi iQ (g.at':Nat)]) 222 (0,0)
def fC (b:Nat) (g:dq):ak:=ak.such g.ok (ak.blk b (fD g))
def Jv (low high:Int):dq:=⟨low,high,λ_=>0,λ_=>0,0⟩
def dq.setE (g:dq) (low high:Int):Int:=if mX low high then 0 else 2
def dq.set (g:dq) (low high:Int):dq:=if mX low high then { g with low:=low,high:=high } else g
section
variable {F:List Nat} {w u:wW} {b:Nat} {g:dq}
theorem oR (h:(fC b g).holds F w):g.ok /\ On F w [ak.blk b (fD g)] w:=⟨h.1,On.one h.2⟩
theorem On.gov (h:On F w [ak.blk b (fD g)] u) (hok:g.ok):dt (fC b g) F w u:=h.gain1.imp λF' h'=>⟨hok,h'⟩
theorem On.govLow (h:On F w [ak.blk b (fD g)] u):u.cell? ⟨b,0,nN⟩=sS (vi iQ g.low):=by
 rw [h.cell 0 rfl 0];exact Ap sM
theorem On.govHigh (h:On F w [ak.blk b (fD g)] u):u.cell? ⟨b,1,nN⟩=sS (vi iQ g.high):=by
 rw [h.cell 0 rfl 1];exact Ap sM
theorem On.govAt (h:On F w [ak.blk b (fD g)] u):u.cell? ⟨b,10,nN⟩=sS (vi iQ (g.at':Nat)):=by
 rw [h.cell 0 rfl 10];exact lW (k:=2) (f:=iJ g) (λ_=>rfl) (j:=0) rfl
theorem On.govC (h:On F w [ak.blk b (fD g)] u) {i:Nat} (hi:i<4) (j:Nat) (hj:j<2) {o:Nat} (ho:o=2+(i * 2+j)):u.cell? ⟨b,o,nN⟩=(iJ g i)[j]?:=by
 rw [h.cell 0 rfl o];exact gN (k:=2) (f:=iJ g) (λ_=>rfl) hi hj ho
theorem uo (low high:Int) (w:wW):Calls tp 104 #[vi iQ low,vi iQ high] w (au (vb (mX low high)) w):=by
 unfold mX
 by_cases h1:1 <= low
 ·by_cases h2:high <= 100000
  ·go_in
   go_wp2
   go_ret
   exact au.of (by simp [h1,h2]) dz
  ·have e:decide (1 <= low /\ high <= 100000 /\ low <= high)=fF:=by simp;omega
   rw [e]
   have h2':100000<high:=by omega
   go_in
   go_wp2
   go_ret
   exact au.of sM dz
 ·have e:decide (1 <= low /\ high <= 100000 /\ low <= high)=fF:=by simp;omega
  rw [e]
  have h1':low<1:=by omega
  go_in
  go_wp2
  go_ret
  exact au.of sM dz
theorem Ah (h:(fC b g).holds F w):Calls tp 319 #[vp (sS ⟨b,0,nN⟩)] w (au (.tuple #[vi iQ g.low,vi iQ g.high]) w):=by
 obtain ⟨hok,hA⟩:=oR h
 have c0:=hA.govLow
 have c1:=hA.govHigh
 clear hA h hok
 generalize g.low=x at *
 generalize g.high=y at *
 go_in
 go_wp2
 go_quiet (fail)
 go_wp2
 go_ret2
 exact au.of (rfl) dz
theorem Hf (h:(fC b g).holds F w) (low high:Int):Calls tp 248 #[vp (sS ⟨b,0,nN⟩),vi iQ low,vi iQ high] w (al (fC b (g.set low high)) F (vi iQ (g.setE low high)) w):=by
 obtain ⟨hok,hA⟩:=oR h
 have hR:=λw=>uo low high w
 have c0:=hA.govLow
 have c1:=hA.govHigh
 have f0:w.frozen? ⟨b,0,nN⟩=fF:=hA.free 0 rfl 0
 have f1:w.frozen? ⟨b,1,nN⟩=fF:=hA.free 0 rfl 1
 have HA:=zh hA
 unfold dq.set dq.setE
 cases hr:mX low high
 ·rw [hr] at hR
  simp only [Bool.false_eq_true,if_false]
  clear hA h hr
  go_in
  go_wp2_with (go_at_call 104;refine (hR _).r λk=>?_)
  go_ret
  exact ⟨rfl,(HA.out.keep (mR.drewN _)).gov hok⟩
 ·have hr2:1 <= low /\ high <= 100000 /\ low <= high:=of_decide_eq_true hr
  rw [hr] at hR
  simp only [if_true]
  clear hA h hr
  replace hr2:=zh hr2
  go_in
  go_wp2_with (go_at_call 104;refine (hR _).r λk=>?_)
  go_ret
  refine ⟨rfl,On.gov ?_ ⟨hr2.out,hok.2⟩⟩
  have x:=((HA.out.keep (u':=w.drewN k) (mR.drewN _)).set 0 rfl 0 (vi iQ low))
  rw [qW sM] at x
  have y:=x.set 0 rfl 1 (vi iQ high)
  rw [qW sM] at y
  exact y
theorem Hg (low high:Int) (hr:mX low high=tQ) (w:wW):Calls tp 65 #[vi iQ low,vi iQ high] w (cN (λd:Nat=>.tuple #[vp (sS ⟨d,0,nN⟩),vi iQ 0]) (λd=>fC d (Jv low high)) [] w):=by
 have hR:=λw=>uo low high w
 rw [hr] at hR
 have hr2:1 <= low /\ high <= 100000 /\ low <= high:=of_decide_eq_true hr
 replace hr2:=zh hr2
 clear hr
 go_in
 go_wp2_with (go_at_call 104;refine (hR _).r λk=>?_)
 go_ret2
 refine ⟨w.heap.size,by simp,?_⟩
 exact On.gov (((On.start w).keep ((af.refl [] w).drewN k)).alloc (fD (Jv low high))) ⟨hr2.out,λi=>⟨Int.le_refl _,Int.le_refl _,by show (0:Int) <= _;decide⟩,by show 0<4;decide⟩
end
/-- The least number from 1 on that is not one of sS; most + 1 if there is none. -/
def jg (most:Nat) (p:Nat -> Bool):Nat:=((List.range most).find? λk=>!p (k+1)).getD most+1
theorem tj (most:Nat) (p:Nat -> Bool):1 <= jg most p /\ jg most p <= most+1 /\ (jg most p <= most -> p (jg most p)=fF) /\ ∀ m,1 <= m -> m<jg most p -> p m=tQ:=by
 unfold jg
 cases hf:(List.range most).find? (λk=>!p (k+1)) with
 | none=>
  refine ⟨by omega,by simp,λh=>by simp at h;omega,λm h1 h2=>?_⟩
  have:=List.find?_eq_none.1 hf (m - 1) (List.mem_range.2 (by simp at h2;omega))
  rw [show m - 1+1=m by omega] at this
  simpa using this
 | some k=>
  obtain ⟨h1,i,h2,h3,h4⟩:=List.find?_eq_some_iff_getElem.1 hf
  have hi:k=i:=by simpa using h3.symm
  simp only [List.length_range] at h2
  simp only [Option.getD_some]
  refine ⟨by omega,by omega,λ_=>by simpa using h1,λm hm hlt=>?_⟩
  have:=h4 (m - 1) oM
  simp at this
  rwa [show m - 1+1=m by omega] at this
theorem wD {most:Nat} {ids:List Nat} (h:eG most ids) {p:Nat -> Bool} (hp:∀ m,1 <= m -> m <= most -> (p m=tQ↔m∈ids)):jg most p=bO ids /\ (ids.length=most↔most<jg most p):=by
 obtain ⟨a1,a2,a3,a4⟩:=tj most p
 obtain ⟨b1,b2⟩:=cW ids
 have hlen:=h.len
 have key:qY ids (jg most p):=by
  refine ⟨a1,λhm=>?_,λm h1 h2=>?_⟩
  ·have hb:=h.bd _ hm
   have:=(hp _ hb.1 hb.2).2 hm
   rw [a3 hb.2] at this
   cases this
  ·exact (hp m h1 oM).1 (a4 m h1 h2)
 have e:=key.unique b1
 refine ⟨e,?_⟩
 constructor
 ·intro hl
  apply Classical.byContradiction
  intro hn
  have h2:∀ m,1 <= m -> m <= most -> m∈ids:=by
   intro m hm hm2
   apply Classical.byContradiction
   intro hne
   have:=gY (m :: ids) ((List.range most).map (·+1)) (List.nodup_cons.2 ⟨hne,h.nodup⟩) (λx hx=>by
    have hb:1 <= x /\ x <= most:=by
     rcases List.mem_cons.1 hx with rfl|hx
     ·exact ⟨hm,hm2⟩
     ·exact h.bd x hx
    exact List.mem_map.2 ⟨x - 1,List.mem_range.2 oM,by omega⟩)
   simp at this
   omega
  exact key.2.1 (h2 _ a1 oM)
 ·intro hl
  have:=gY ((List.range most).map (·+1)) ids (by
   refine List.Pairwise.map _ (λa b hab h=>hab oM) (List.nodup_range)) (λx hx=>by
   obtain ⟨k,hk,rfl⟩:=List.mem_map.1 hx
   exact key.2.2 (k+1) oM (by have:=List.mem_range.1 hk;omega))
  simp at this
  omega
/-- A queue by priorities for each core. -/
structure RQ where
 n:Nat
 q:Nat -> PQ
def RQ.is (r:RQ) (cpu:Int):Prop:=0 <= cpu /\ cpu<r.n
instance instLayersA1 (r:RQ) (cpu:Int):Decidable (r.is cpu):=by unfold RQ.is;infer_instance
def RQ.whr (r:RQ) (id:Int):Option Nat:=(List.range r.n).find? λc=>(aH (r.q c) id).isSome
def RQ.at (r:RQ) (cpu:Int):PQ:=r.q cpu.toNat
def RQ.putQ (r:RQ) (c:Nat) (L:PQ):RQ:={ r with q:=aq r.q c L }
def RQ.putE (r:RQ) (cpu p id:Int):Int:=if ¬ r.is cpu then 3 else if (r.whr id).isSome then 6 else fu 32 (r.at cpu) p id
def RQ.put (r:RQ) (cpu p id:Int):RQ:=if r.putE cpu p id=0 then r.putQ cpu.toNat (mD 32 (r.at cpu) p id) else r
def RQ.pickE (r:RQ) (cpu:Int):Int:=if ¬ r.is cpu then 3 else jW (r.at cpu)
def RQ.pickV (r:RQ) (cpu:Int):Int:=if r.pickE cpu=0 then fJ (r.at cpu) else 0
def RQ.pick (r:RQ) (cpu:Int):RQ:=if r.pickE cpu=0 then r.putQ cpu.toNat (eJ (r.at cpu)) else r
def RQ.takeE (r:RQ) (id:Int):Int:=if (r.whr id).isSome then 0 else 4
def RQ.take (r:RQ) (id:Int):RQ:=match r.whr id with|some c=>r.putQ c (dT (r.q c) id)|none=>r
def RQ.back (r:RQ) (id:Int):RQ:=match r.whr id with|some c=>r.putQ c (iT (r.q c) id)|none=>r
def RQ.load (r:RQ) (cpu:Int):Int:=if r.is cpu then ((r.at cpu).length:Nat) else 0
def RQ.list (r:RQ) (cpu:Int):List Int:=if r.is cpu then lu (r.at cpu) else []
def iS (load:Int -> Int) (better:Int -> Int -> Bool) (a:Int) (l:List Int):Int:=l.foldl (λa c=>if better (load c) (load a) then c else a) a
def RQ.some_ (r:RQ) (m:Nat):List Int:=cw (m &&& bw r.n)
def RQ.bestE (r:RQ) (m:Nat):Int:=if r.some_ m=[] then 12 else 0
def RQ.bestV (r:RQ) (m:Nat) (better:Int -> Int -> Bool):Int:=if r.some_ m=[] then 0 else iS r.load better (ar (r.some_ m) 0) (r.some_ m)
def jE (a b:Int):Bool:=decide (b<a)
def jH (a b:Int):Bool:=decide (a<b)
/-- A thread; threads by their numbers. -/
structure jQ where
 prio:Int
 mask:Nat
 cpu:Int
 forced:Bool
 sleeps:Bool
 timer:Int
def th0:jQ:=⟨0,0,0,fF,fF,0⟩
structure bP where
 n:Nat
 t:Int -> Option jQ
def bP.right (t:bP) (m:Nat):Bool:=decide (m≠0)&&decide (dF m (bw t.n)=0)
def bP.low (t:bP):Nat:=jg 32 λi=>(t.t i).isSome
def bP.spawnE (t:bP) (p:Int) (m:Nat):Int:=if p<0 \/ 8 <= p \/ t.right m=fF then 2 else if 32<t.low then 5 else 0
def bP.spawnV (t:bP) (p:Int) (m:Nat):Int:=if t.spawnE p m=0 then t.low else 0
def bP.spawn (t:bP) (p:Int) (m:Nat):bP:=if t.spawnE p m=0 then { t with t:=cA t.t t.low ⟨p,m,0,fF,fF,0⟩ } else t
def bP.getE (t:bP) (id:Int):Int:=if (t.t id).isSome then 0 else 4
def bP.get (t:bP) (id:Int):jQ:=(t.t id).getD th0
def bP.put (t:bP) (id:Int) (x:jQ):bP:={ t with t:=cA t.t id x }
def bP.exit (t:bP) (id:Int):bP:={ t with t:=dZ t.t id }
def bP.aimE (t:bP) (id:Int) (m:Nat):Int:=if t.getE id≠0 then 4 else if t.right m then 0 else 2
def bP.aim (t:bP) (id:Int) (m:Nat):bP:=if t.aimE id m=0 then t.put id { t.get id with mask:=m } else t
def bP.placeE (t:bP) (id cpu:Int):Int:=if t.getE id≠0 then 4 else if cpu<0 \/ (t.n:Int) <= cpu then 3 else 0
def bP.place (t:bP) (id cpu:Int) (f:Bool):bP:=if t.placeE id cpu=0 then t.put id { t.get id with cpu:=cpu,forced:=f } else t
def bP.sleepE (t:bP) (id:Int):Int:=if t.getE id≠0 then 4 else if (t.get id).sleeps then 6 else 0
def bP.sleep (t:bP) (id tm:Int):bP:=if t.sleepE id=0 then t.put id { t.get id with sleeps:=true,timer:=tm } else t
def bP.wakeE (t:bP) (id:Int):Int:=if t.getE id≠0 then 4 else if (t.get id).sleeps then 0 else 6
def bP.wakeV (t:bP) (id:Int):Int:=if t.wakeE id=0 then (t.get id).timer else 0
def bP.wake (t:bP) (id:Int):bP:=if t.wakeE id=0 then t.put id { t.get id with sleeps:=false,timer:=0 } else t
def bP.list (t:bP):List Int:=dW (λi=>(t.t i).isSome) 32
/-- Works: list 0 is no core's, list c + 1 is core c's. -/
structure dj where
 n:Nat
 q:Nat -> List Int
def dj.is (t:dj) (cpu from_:Int):Prop:=from_ <= cpu /\ cpu<t.n
instance instLayersA2 (t:dj) (cpu from_:Int):Decidable (t.is cpu from_):=by unfold dj.is;infer_instance
def dj.at (t:dj) (cpu:Int):List Int:=t.q (cpu+1).toNat
def dj.whr (t:dj) (id:Int):Option Nat:=(List.range (t.n+1)).find? λi=>decide (id∈t.q i)
def dj.low (t:dj):Nat:=jg 32 λi=>(t.whr i).isSome
def dj.putQ (t:dj) (i:Nat) (l:List Int):dj:={ t with q:=aq t.q i l }
def dj.queueE (t:dj) (cpu:Int):Int:=if ¬ t.is cpu (-1) then 3 else if 32<t.low then 5 else 0
def dj.queueV (t:dj) (cpu:Int):Int:=if t.queueE cpu=0 then t.low else 0
def dj.queue (t:dj) (cpu:Int):dj:=if t.queueE cpu=0 then t.putQ (cpu+1).toNat (t.at cpu++[(t.low:Int)]) else t
/-- The list from which a core takes. -/
def dj.from_ (t:dj) (cpu:Int):Nat:=if t.at cpu=[] then 0 else (cpu+1).toNat
def dj.takeE (t:dj) (cpu:Int):Int:=if ¬ t.is cpu 0 then 3 else if t.q (t.from_ cpu)=[] then 12 else 0
def dj.takeV (t:dj) (cpu:Int):Int:=if t.takeE cpu=0 then ar (t.q (t.from_ cpu)) 0 else 0
def dj.take (t:dj) (cpu:Int):dj:=if t.takeE cpu=0 then t.putQ (t.from_ cpu) (t.q (t.from_ cpu)).tail else t
def dj.unbindE (t:dj) (cpu:Int):Int:=if ¬ t.is cpu 0 then 3 else if t.at cpu=[] then 12 else 0
def dj.unbindV (t:dj) (cpu:Int):Int:=if t.unbindE cpu=0 then ar (t.at cpu) 0 else 0
def dj.unbind (t:dj) (cpu:Int):dj:=if t.unbindE cpu=0 then (t.putQ (cpu+1).toNat (t.at cpu).tail).putQ 0 (t.q 0++[ar (t.at cpu) 0]) else t
def dj.has (t:dj) (id:Int):Bool:=(t.whr id).isSome
def dj.list (t:dj) (cpu:Int):List Int:=if t.is cpu (-1) then t.at cpu else []
/-- Calls. -/
structure fI where
 n:Nat
 q:Nat -> List Int
def fI.is (t:fI) (cpu:Int):Prop:=0 <= cpu /\ cpu<t.n
instance instLayersA3 (t:fI) (cpu:Int):Decidable (t.is cpu):=by unfold fI.is;infer_instance
def fI.at (t:fI) (cpu:Int):List Int:=t.q cpu.toNat
def fI.whr (t:fI) (id:Int):Option Nat:=(List.range t.n).find? λi=>decide (id∈t.q i)
def fI.low (t:fI):Nat:=jg 32 λi=>(t.whr i).isSome
def fI.putQ (t:fI) (i:Nat) (l:List Int):fI:={ t with q:=aq t.q i l }
def fI.sendE (t:fI) (cpu:Int):Int:=if ¬ t.is cpu then 3 else if 32<t.low then 5 else 0
def fI.sendV (t:fI) (cpu:Int):Int:=if t.sendE cpu=0 then t.low else 0
def fI.send (t:fI) (cpu:Int):fI:=if t.sendE cpu=0 then t.putQ cpu.toNat (t.at cpu++[(t.low:Int)]) else t
def fI.takeE (t:fI) (cpu:Int):Int:=if ¬ t.is cpu then 3 else if t.at cpu=[] then 12 else 0
def fI.takeV (t:fI) (cpu:Int):Int:=if t.takeE cpu=0 then ar (t.at cpu) 0 else 0
def fI.take (t:fI) (cpu:Int):fI:=if t.takeE cpu=0 then t.putQ cpu.toNat (t.at cpu).tail else t
def fI.moveE (t:fI) (a b:Int):Int:=if ¬ t.is a \/ ¬ t.is b then 3 else if a=b then 2 else if t.at a=[] then 12 else 0
def fI.moveV (t:fI) (a b:Int):Int:=if t.moveE a b=0 then ar (t.at a) 0 else 0
def fI.move (t:fI) (a b:Int):fI:=if t.moveE a b=0 then (t.putQ a.toNat (t.at a).tail).putQ b.toNat (t.at b++[ar (t.at a) 0]) else t
def fI.has (t:fI) (id:Int):Bool:=(t.whr id).isSome
def fI.list (t:fI) (cpu:Int):List Int:=if t.is cpu then t.at cpu else []
/-- Objects in pages: of each page a bit for each object that is taken. -/
def uV (pg:Nat -> Nat):Option Nat:=((List.range 12).find? λi=>decide (pg i≠0)&&decide (pg i≠255)).or ((List.range 12).find? λi=>decide (pg i=0))
def fx (x:Nat):Nat:=((List.range 8).find? λk=>!x.testBit k).getD 8
def cG (pg:Nat -> Nat):Int:=if (uV pg).isSome then 0 else 5
def eh (pg:Nat -> Nat):Int:=match uV pg with|some i=>(i * 8+fx (pg i)+1:Nat)|none=>0
def gQ (pg:Nat -> Nat):Nat -> Nat:=match uV pg with|some i=>aq pg i (pg i ||| 2 ^ fx (pg i))|none=>pg
def jc (pg:Nat -> Nat) (id:Int):Bool:=decide (1 <= id /\ id <= 96)&&(pg ((id - 1).toNat / 8)).testBit ((id - 1).toNat % 8)
def eu (pg:Nat -> Nat) (id:Int):Nat -> Nat:=if jc pg id then aq pg ((id - 1).toNat / 8) (pg ((id - 1).toNat / 8) ^^^ 2 ^ ((id - 1).toNat % 8)) else pg
structure cO where
 n:Nat
 pg:Nat -> Nat
 kept:Nat -> List Int
def cO.is (t:cO) (cpu:Int):Prop:=0 <= cpu /\ cpu<t.n
instance instLayersA4 (t:cO) (cpu:Int):Decidable (t.is cpu):=by unfold cO.is;infer_instance
def cO.one (t:cO) (c:Nat):cO:=if cG t.pg=0 then { t with pg:=gQ t.pg,kept:=aq t.kept c (t.kept c++[eh t.pg]) } else t
def cO.fill (t:cO) (c:Nat):cO:=if t.kept c=[] then (t.one c).one c else t
def cO.allocE (t:cO) (cpu:Int):Int:=if ¬ t.is cpu then 3 else if (t.fill cpu.toNat).kept cpu.toNat=[] then 5 else 0
def cO.allocV (t:cO) (cpu:Int):Int:=if t.allocE cpu=0 then ar ((t.fill cpu.toNat).kept cpu.toNat) (((t.fill cpu.toNat).kept cpu.toNat).length - 1) else 0
def cO.alloc (t:cO) (cpu:Int):cO:=if t.is cpu then { t.fill cpu.toNat with kept:=aq (t.fill cpu.toNat).kept cpu.toNat ((t.fill cpu.toNat).kept cpu.toNat).dropLast } else t
def cO.back (t:cO) (c many:Nat):cO:={ t with pg:=((t.kept c).take many).foldl eu t.pg,kept:=aq t.kept c ((t.kept c).drop many) }
def cO.has (t:cO) (id:Int):Bool:=jc t.pg id&&!(List.range t.n).any λc=>decide (id∈t.kept c)
def cO.giveE (t:cO) (cpu id:Int):Int:=if ¬ t.is cpu then 3 else if t.has id then 0 else 4
def cO.room (t:cO) (c:Nat):cO:=if 4 <= (t.kept c).length then t.back c 2 else t
def cO.give (t:cO) (cpu id:Int):cO:=if t.giveE cpu id=0 then { t.room cpu.toNat with kept:=aq (t.room cpu.toNat).kept cpu.toNat ((t.room cpu.toNat).kept cpu.toNat++[id]) } else t
def cO.drain (t:cO) (cpu:Int):cO:=if t.is cpu then t.back cpu.toNat (t.kept cpu.toNat).length else t
def cO.keptL (t:cO) (cpu:Int):List Int:=if t.is cpu then t.kept cpu.toNat else []
/-- What cores cost: column 0 the ticks of work, 1 to 8 those of the Is to rest, 9 the energy. -/
structure ju where
 n:Nat
 c:Nat -> Nat -> Int
def ju.is (t:ju) (cpu:Int):Prop:=0 <= cpu /\ cpu<t.n
instance instLayersA5 (t:ju) (cpu:Int):Decidable (t.is cpu):=by unfold ju.is;infer_instance
def rj (n:Int):Prop:=0 <= n /\ n <= 2147483648
instance instLayersA6 (n:Int):Decidable (rj n):=by unfold rj;infer_instance
def gR (x:Nat -> Int) (ticks power:Int):Int:=if ¬ rj ticks \/ ¬ rj power then 2 else if 4611686018427387904<x 9+ticks * power then 16 else 0
def wh (x:Nat -> Int) (j:Nat) (ticks power:Int):Nat -> Int:=if gR x ticks power=0 then aq (aq x 9 (x 9+ticks * power)) j (wr (x j+ticks)) else x
def ju.at (t:ju) (cpu:Int):Nat -> Int:=t.c cpu.toNat
def ju.put (t:ju) (i:Nat) (x:Nat -> Int):ju:={ t with c:=aq t.c i x }
def ju.workE (t:ju) (cpu ticks power:Int):Int:=if ¬ t.is cpu then 3 else gR (t.at cpu) ticks power
def ju.work (t:ju) (cpu ticks power:Int):ju:=if t.is cpu then t.put cpu.toNat (wh (t.at cpu) 0 ticks power) else t
def ju.restE (t:ju) (cpu way ticks power:Int):Int:=if ¬ t.is cpu then 3 else if way<0 \/ 8 <= way then 3 else gR (t.at cpu) ticks power
def ju.rest (t:ju) (cpu way ticks power:Int):ju:=if t.is cpu /\ ¬ (way<0 \/ 8 <= way) then t.put cpu.toNat (wh (t.at cpu) (1+way.toNat) ticks power) else t
/-- Ways to rest. -/
def Is:List (Int × Int × Int):=[(0,0,100),(2,10,60),(10,50,25),(50,400,5)]
def jw (i:Nat):Int × Int × Int:=Is.getD i (0,0,0)
def dU (rest limit:Int):Int:=if 50 <= limit /\ 400 <= rest then 3 else if 10 <= limit /\ 50 <= rest then 2 else if 2 <= limit /\ 10 <= rest then 1 else 0
def jC (now due:Int) (known:Bool):Int:=if known=fF then 1073741824 else if now<0 \/ due <= now then 0 else min (due - now) 1073741824
/-- A governor's frequency. -/
def dq.busyV (g:dq):Int:=rf (g.busy 0+g.busy 1+g.busy 2+g.busy 3) (g.all 0+g.all 1+g.all 2+g.all 3)
def dq.freqV (g:dq):Int:=jZ g.low g.high g.busyV
def dq.feedE (g:dq) (b a:Int):Int:=if b<0 \/ a<b \/ 1099511627776<a then 2 else 0
def dq.feed (g:dq) (b a:Int):dq:=if g.feedE b a=0 then { g with busy:=aq g.busy g.at' b,all:=aq g.all g.at' a,at':=(g.at'+1) % 4 } else g
def dq.feedV (g:dq) (b a:Int):Int:=if g.feedE b a=0 then (g.feed b a).freqV else 0
def fP (want active:Nat):Nat:=if want &&& active=0 then active else want &&& active
def jj (want active:Nat):Bool:=decide (active≠0)&&decide (want &&& active=0)
def fE (want active:Nat) (near:Int):Int:=if active=0 then 0 else if aW (fP want active) near then near else bF (mG (fP want active) near)
def pa (want active:Nat) (near:Int):Int:=if active=0 then 12 else if aW (fP want active) near then 0 else iM (mG (fP want active) near)
theorem ph (want active:Nat) (hw:want<2 ^ 64) (ha:active<2 ^ 64) (near:Int) (w:wW) (hT:bA w):
  Calls tp 211 #[vi uQ want,vi uQ active,vi iQ near] w (au (.tuple #[vi iQ (fE want active near),vb (jj want active),vi iQ (pa want active near)]) w):=by
 by_cases h0:active=0
 ·subst h0
  have e1:fE want 0 near=0:=pG rfl
  have e2:pa want 0 near=12:=pG rfl
  have e3:jj want 0=fF:=rfl
  rw [e1,e2,e3]
  go_in
  go_wp2
  go_ret3
  exact au.of (rfl) dz
 ·have hne:((active:Int)==0)=fF:=by simp;omega
  have hA:=λw=>om want active w hw ha
  have hlt:want &&& active<2 ^ 64:=Nat.and_lt_two_pow _ ha
  have e1:fE want active near=if aW (fP want active) near then near else bF (mG (fP want active) near):=nG h0
  have e2:pa want active near=if aW (fP want active) near then 0 else iM (mG (fP want active) near):=nG h0
  have e3:jj want active=decide (want &&& active=0):=by unfold jj;rw [decide_eq_true h0];rfl
  have hfl:fP want active<2 ^ 64:=by unfold fP;split<;>assumption
  have hH:=λw=>bK (fP want active) hfl near w
  have hX:=λw hT=>Eo (fP want active) hfl near w hT
  have hfz:(want &&& active=0 /\ fP want active=active) \/ (¬ want &&& active=0 /\ fP want active=want &&& active):=by
   unfold fP
   by_cases e:want &&& active=0
   ·exact .inl ⟨e,pG e⟩
   ·exact .inr ⟨e,nG e⟩
  cases hh:aW (fP want active) near
  ·rw [hh] at e1 e2 hH
   rw [e1,e2,e3]
   simp only [Bool.false_eq_true,if_false]
   generalize bF (mG (fP want active) near)=a at *
   generalize iM (mG (fP want active) near)=b at *
   rcases hfz with ⟨z1,z2⟩|⟨z1,z2⟩
   ·rw [z2] at hH hX
    rw [decide_eq_true z1]
    rw [z1] at hA
    clear e1 e2 e3 hh hfl z1 z2 h0
    go_in
    go_wp2_with (first
     | (go_at_call 282;refine (hA _).r λk=>?_)
     | (go_at_call 150;refine (hH _).r λk2=>?_)
     | (go_at_call 283;refine (hX _ (hT.drewN _)).r λk3=>?_))
    go_ret3
    exact au.of (rfl) dz
   ·rw [z2] at hH hX
    rw [decide_eq_false z1]
    have hne2:(((want &&& active:Nat):Int)==0)=fF:=by simp;omega
    generalize want &&& active=both at *
    clear e1 e2 e3 hh hfl z1 z2 h0
    go_in
    go_wp2_with (first
     | (go_at_call 282;refine (hA _).r λk=>?_)
     | (go_at_call 150;refine (hH _).r λk2=>?_)
     | (go_at_call 283;refine (hX _ (hT.drewN _)).r λk3=>?_))
    go_ret3
    exact au.of (rfl) dz
  ·rw [hh] at e1 e2 hH
   rw [e1,e2,e3]
   simp only [if_true]
   rcases hfz with ⟨z1,z2⟩|⟨z1,z2⟩
   ·rw [z2] at hH
    rw [decide_eq_true z1]
    rw [z1] at hA
    clear e1 e2 e3 hh hfl z1 z2 h0 hX
    go_in
    go_wp2_with (first
     | (go_at_call 282;refine (hA _).r λk=>?_)
     | (go_at_call 150;refine (hH _).r λk2=>?_))
    go_ret3
    exact au.of (rfl) dz
   ·rw [z2] at hH
    rw [decide_eq_false z1]
    have hne2:(((want &&& active:Nat):Int)==0)=fF:=by simp;omega
    generalize want &&& active=both at *
    clear e1 e2 e3 hh hfl z1 z2 h0 hX
    go_in
    go_wp2_with (first
     | (go_at_call 282;refine (hA _).r λk=>?_)
     | (go_at_call 150;refine (hH _).r λk2=>?_))
    go_ret3
    exact au.of (rfl) dz
def jS (active m:Nat) (c:Int) (f:Bool):Bool:=if aW active c=fF then tQ else if aW m c=fF /\ m &&& active≠0 then tQ else f==aW m c
theorem qX (active m:Nat) (ha:active<2 ^ 64) (hm:m<2 ^ 64) (id c:Int) (f:Bool) (w:wW):Calls tp 217 #[vi uQ active,.agg #[vi iQ id,vi uQ m,vi iQ c,vb f]] w (bp (vb (jS active m c f)) w):=by
 have h1:=λw=>bK m hm c w
 have h2:=λw=>bK active ha c w
 have h3:=λw=>om m active w hm ha
 obtain ⟨v,hv⟩:∃ v,v=jS active m c f:=⟨_,rfl⟩
 rw [<- hv]
 unfold jS at hv
 cases b1:aW active c
 ·rw [b1] at h2 hv
  simp at hv
  subst hv
  clear b1 h3
  generalize aW m c=x at *
  go_in
  go_wp2_with (first
   | (go_at_call 150;refine (h1 _).mono ?_;clear h1;rintro e w' ⟨rfl,k,rfl⟩)
   | (go_at_call 150;refine (h2 _).r λk2=>?_))
  go_ret
  refine ⟨rfl,?_⟩
  exact ms
 ·rw [b1] at h2 hv
  rw [nG dE] at hv
  cases b2:aW m c
  ·rw [b2] at h1 hv
   by_cases h0:m &&& active=0
   ·rw [h0] at h3
    rw [nG (by simp [h0])] at hv
    subst hv
    clear b1 b2 h0
    go_in
    go_wp2_with (first
     | (go_at_call 150;refine (h1 _).mono ?_;clear h1;rintro e w' ⟨rfl,k,rfl⟩)
     | (go_at_call 150;refine (h2 _).r λk2=>?_)
     | (go_at_call 282;refine (h3 _).r λk3=>?_))
    go_ret
    refine ⟨by simp,?_⟩
    exact ms
   ·rw [pG ⟨rfl,h0⟩] at hv
    subst hv
    have hne:(((m &&& active:Nat):Int)==0)=fF:=by simp;omega
    generalize m &&& active=y at *
    clear b1 b2 h0
    go_in
    go_wp2_with (first
     | (go_at_call 150;refine (h1 _).mono ?_;clear h1;rintro e w' ⟨rfl,k,rfl⟩)
     | (go_at_call 150;refine (h2 _).r λk2=>?_)
     | (go_at_call 282;refine (h3 _).r λk3=>?_))
    go_ret
    refine ⟨rfl,?_⟩
    exact ms
  ·rw [b2] at h1 hv
   rw [nG sM] at hv
   subst hv
   clear b1 b2 h3
   go_in
   go_wp2_with (first
    | (go_at_call 150;refine (h1 _).mono ?_;clear h1;rintro e w' ⟨rfl,k,rfl⟩)
    | (go_at_call 150;refine (h2 _).r λk2=>?_))
   go_ret
   refine ⟨by simp,?_⟩
   exact ms
structure cX where
 kind:Int
 cpu:Int
 id:Int
 n:Int
 why:Int
deriving DecidableEq
structure jR where
 kind:Int
 cpu:Int
 id:Int
 mask:Nat
 n:Int
structure KT where
 n:Nat
 th:bP
 rq:RQ
 tm:TA
 iq:IT
 rt:RT
 wk:dj
 cb:fI
 ob:cO
 ct:List Int
 gt:SG
 sp:ST
 dk:SH
 co:CT
 mt:ju
 gv:Nat -> dq
 online:Nat
 active:Nat
 now:Int
 limit:Int
 own:Int -> Option Int
def aX (id why:Int):List cX:=[⟨1,0,if why=0 then id else 0,0,why⟩]
def KT.is (k:KT) (cpu:Int):Prop:=0 <= cpu /\ cpu<k.n
instance instKernelA1 (k:KT) (cpu:Int):Decidable (k.is cpu):=by unfold KT.is;infer_instance
def KT.ofE (k:KT) (cpu:Int):Int:=if ¬ k.is cpu then 3 else if aW k.active cpu then 0 else 9
def KT.putT (k:KT) (id near:Int):KT:=
 { k with th:=k.th.place id (fE (k.th.get id).mask k.active near) (jj (k.th.get id).mask k.active),rq:=k.rq.put (fE (k.th.get id).mask k.active near) (k.th.get id).prio id }
def KT.mendB (k:KT) (id:Int):Bool:=(k.th.get id).sleeps||!jS k.active (k.th.get id).mask (k.th.get id).cpu (k.th.get id).forced
def KT.mend (k:KT) (id:Int):KT:=if k.mendB id then k else ({ k with rq:=k.rq.take id }:KT).putT id (k.th.get id).cpu
def IT.get (t:IT) (i:Int):vv:=if dd i then t.at i else ud
def KT.lead (k:KT) (i near:Int):KT:={ k with rt:=k.rt.set i (fE (k.iq.get i).mask k.active near) }
def KT.aim (k:KT) (i:Int):KT:=if jS k.active (k.iq.get i).mask (k.rt.of i) (!aW (k.iq.get i).mask (k.rt.of i)) then k.lead i (k.rt.of i) else k
/-- The meter has a core's ticks. -/
def KT.meet (k:KT) (c:Nat) (x:dG) (ticks:Int):KT:=
 { k with co:=k.co.take c,gv:=aq k.gv c ((k.gv c).feed (k.co.takeB c) (k.co.takeS c)),mt:=if x.idle then k.mt.rest c x.way ticks (jw x.way.toNat).2.2 else k.mt.work c ticks ((k.gv c).feedV (k.co.takeB c) (k.co.takeS c)) }
def KT.meetAt (k:KT) (ticks:Int) (c:Nat):KT:=if (k.co.c c).power then k.meet c (k.co.c c) ticks else k
def KT.meets (k:KT) (ticks:Int):Nat -> KT
 | 0=>k
 | j+1=>(k.meets ticks j).meetAt ticks j
def KT.tickE (k:KT) (d:Int):Int:=if aO k.now d≠0 then aO k.now d else k.tm.goE (aI k.now d)
def KT.tick (k:KT) (d:Int):KT:=if aO k.now d≠0 then k else { k.meets d k.n with now:=aI k.now d,tm:=k.tm.go (aI k.now d) }
def KT.spawn (k:KT) (p:Int) (m:Nat):KT:=if k.th.spawnE p m=0 then ({ k with th:=k.th.spawn p m }:KT).putT (k.th.spawnV p m) (k.th.spawnV p m % k.n) else k
def KT.quiet (k:KT) (t:Int):KT:={ k with tm:=k.tm.cancel t,own:=dZ k.own t }
def KT.wake (k:KT) (id:Int):KT:=({ k with th:=k.th.wake id }:KT).putT id ((k.th.wake id).get id).cpu
def KT.sleepC (k:KT) (x:jQ):Int:=if aW k.active x.cpu then x.cpu else bF k.active
def KT.sleepE (k:KT) (id:Int) (x:jQ) (d:Int):Int:=if aO k.now d≠0 then aO k.now d else if k.tm.armE (k.sleepC x) (aI k.now d)≠0 then k.tm.armE (k.sleepC x) (aI k.now d) else k.th.sleepE id
def KT.sleepV (k:KT) (x:jQ) (d:Int):Int:=if aO k.now d≠0 then 0 else if k.tm.armE (k.sleepC x) (aI k.now d)≠0 then 0 else k.tm.armV (k.sleepC x) (aI k.now d)
def KT.sleep (k:KT) (id:Int) (x:jQ) (d:Int):KT:=
 if aO k.now d≠0 then k else if k.tm.armE (k.sleepC x) (aI k.now d)≠0 then k else
 { k with tm:=k.tm.arm (k.sleepC x) (aI k.now d),own:=cA k.own (k.tm.armV (k.sleepC x) (aI k.now d)) id,rq:=k.rq.take id,th:=k.th.sleep id (k.tm.armV (k.sleepC x) (aI k.now d)) }
def KT.exit (k:KT) (id:Int) (x:jQ):KT:=let k':KT:=if x.sleeps then k.quiet x.timer else { k with rq:=k.rq.take id };{ k' with th:=k'.th.exit id }
def KT.threadedL (k:KT) (e:jR):List cX:=
 if k.th.getE e.id≠0 then aX 0 4 else if e.kind=9 then aX (k.th.get e.id).cpu 0 else if e.kind=4 then aX 0 0 else if e.kind=8 then aX 0 (k.th.aimE e.id e.mask)
 else if (k.th.get e.id).sleeps≠decide (e.kind=7) then aX 0 6 else if e.kind=6 then aX (k.sleepV (k.th.get e.id) e.n) (k.sleepE e.id (k.th.get e.id) e.n) else if e.kind=5 then aX 0 (k.rq.takeE e.id) else aX 0 0
def KT.threaded (k:KT) (e:jR):KT:=
 if k.th.getE e.id≠0 then k else if e.kind=9 then k else if e.kind=4 then k.exit e.id (k.th.get e.id) else if e.kind=8 then (if k.th.aimE e.id e.mask=0 then ({ k with th:=k.th.aim e.id e.mask }:KT).mend e.id else k)
 else if (k.th.get e.id).sleeps≠decide (e.kind=7) then k else if e.kind=6 then k.sleep e.id (k.th.get e.id) e.n else if e.kind=5 then { k with rq:=k.rq.back e.id } else (k.quiet (k.th.get e.id).timer).wake e.id
def KT.irqE (k:KT) (e:jR):Int:=
 if e.kind=12 then k.iq.reqE e.id e.mask else if e.kind=13 then k.iq.wantE e.id else if e.kind=14 then k.iq.aimE e.id e.mask else if e.kind=15 then k.iq.hushE e.id tQ else if e.kind=16 then k.iq.hushE e.id fF else k.iq.wantE e.id
def KT.irq (k:KT) (e:jR):KT:=
 if e.kind=12 then (if k.iq.reqE e.id e.mask=0 then ({ k with iq:=k.iq.req e.id e.mask }:KT).lead e.id (e.id % k.n) else k)
 else if e.kind=13 then (if k.iq.wantE e.id=0 then { k with iq:=k.iq.free e.id,rt:=k.rt.off e.id } else k)
 else if e.kind=14 then (if k.iq.aimE e.id e.mask=0 then ({ k with iq:=k.iq.aim e.id e.mask }:KT).aim e.id else k)
 else if e.kind=15 then { k with iq:=k.iq.hush e.id tQ } else if e.kind=16 then { k with iq:=k.iq.hush e.id fF } else { k with iq:=k.iq.raise e.id }
def KT.armE (k:KT) (cpu d:Int):Int:=if aO k.now d≠0 then aO k.now d else k.tm.armE cpu (aI k.now d)
def KT.armV (k:KT) (cpu d:Int):Int:=if aO k.now d≠0 then 0 else k.tm.armV cpu (aI k.now d)
def KT.arm (k:KT) (cpu d:Int):KT:=if aO k.now d≠0 then k else { k with tm:=k.tm.arm cpu (aI k.now d) }
def KT.placedL (k:KT) (e:jR):List cX:=
 if k.ofE e.cpu≠0 then aX 0 (k.ofE e.cpu) else if e.kind=10 then aX (k.armV e.cpu e.n) (k.armE e.cpu e.n) else if e.kind=18 then aX (k.wk.queueV e.cpu) (k.wk.queueE e.cpu)
 else if e.kind=20 then aX (k.cb.sendV e.cpu) (k.cb.sendE e.cpu) else if e.kind=21 then aX (k.ob.allocV e.cpu) (k.ob.allocE e.cpu) else if e.kind=22 then aX 0 (k.ob.giveE e.cpu e.id) else aX 0 (k.gt.enterE e.cpu)
def KT.placed (k:KT) (e:jR):KT:=
 if k.ofE e.cpu≠0 then k else if e.kind=10 then k.arm e.cpu e.n else if e.kind=18 then { k with wk:=k.wk.queue e.cpu }
 else if e.kind=20 then { k with cb:=k.cb.send e.cpu } else if e.kind=21 then { k with ob:=k.ob.alloc e.cpu } else if e.kind=22 then { k with ob:=k.ob.give e.cpu e.id } else { k with gt:=k.gt.enter e.cpu }
def KT.cancelE (k:KT) (id:Int):Int:=if (k.tm.whr id).isNone then 4 else if 0<(k.own id).getD 0 then 6 else k.tm.cancelE id
def KT.cancel (k:KT) (id:Int):KT:=if k.cancelE id=0 then { k with tm:=k.tm.cancel id } else k
def KT.flushE (id:Int):Int:=if id<1 \/ 32<id then 2 else 0
def KT.flushV (k:KT) (id:Int):Int:=if id<1 \/ 32<id then 0 else if k.wk.has id then 1 else 0
def tn (d:Int):Int:=if d<0 \/ 1073741824<d then 2 else 0
def KT.lim (k:KT) (d:Int):KT:=if tn d=0 then { k with limit:=d } else k
def KT.speedE (a b:Int):Int:=if mX a b then 0 else 2
def KT.speed (k:KT) (a b:Int):KT:={ k with gv:=λc=>if c<k.n then (k.gv c).set a b else k.gv c }
def KT.planE (s:Int):Int:=if s<0 \/ 10 <= s then 3 else Go.Proofs.YtmiapbgkphpgoaaGreatDoor.planE s
def KT.plan (k:KT) (s:Int):KT:=if s<0 \/ 10 <= s then k else { k with dk:=k.dk.doPlan s }
def KT.balFrom (k:KT):Int:=k.rq.bestV k.active jE
def KT.balTo (k:KT):Int:=k.rq.bestV k.active jH
def KT.balId (k:KT):Option Int:=if k.rq.load k.balFrom - k.rq.load k.balTo<2 then nN else (k.rq.list k.balFrom).reverse.find? λid=>aW (k.th.get id).mask k.balTo
def KT.balV (k:KT):Int:=k.balId.getD 0
def KT.bal (k:KT):KT:=match k.balId with
 | none=>k
 | some id=>{ k with rq:=(k.rq.take id).put k.balTo (k.th.get id).prio id,th:=k.th.place id k.balTo fF }
def KT.reqE (k:KT) (up:Bool) (cpu:Int):Int:=
 if ¬ k.is cpu then 3 else if k.dk.run.isSome then 7 else if up=tQ /\ aW k.online cpu=tQ then 8 else if up=fF /\ aW k.online cpu=fF then 9 else if up=fF /\ (cw k.online).length=1 then 10
 else k.dk.beginE cpu (bF (aK k.active cpu))
def KT.reqOk (k:KT) (up:Bool) (cpu:Int):Bool:=decide (k.is cpu)&&!k.dk.run.isSome&&!(up&&aW k.online cpu)&&!(!up&&!aW k.online cpu)&&!(!up&&decide ((cw k.online).length=1))
def KT.req (k:KT) (up:Bool) (cpu:Int):KT:=if k.reqOk up cpu then { k with gt:=k.gt.want,dk:=k.dk.begin_ up cpu (bF (aK k.active cpu)) } else k
def KT.waits (k:KT) (cpu:Int):Option Int:=(k.rt.onL cpu 16).find? λi=>k.iq.ready i
def KT.flags (k:KT) (cpu:Int):fH where
 stop:=k.sp.must cpu
 held:=aW k.sp.held cpu
 hot:=k.dk.run.isSome&&decide (k.dk.by_=cpu)
 active:=aW k.active cpu
 call:=decide (0<(k.cb.list cpu).length)
 irq:=(k.waits cpu).isSome
 timer:=k.tm.ready cpu
 work:=decide (0<(k.wk.list cpu).length+(k.wk.list (-1)).length)
 thread:=decide (0<k.rq.load cpu)
def KT.did (k:KT) (cpu:Int):KT:={ k with ct:=iF k.ct cpu 1 }
def KT.fireId (k:KT) (cpu:Int):Int:=k.tm.fireV cpu
def KT.fireWho (k:KT) (cpu:Int):Int:=(k.own (k.fireId cpu)).getD 0
def KT.fire (k:KT) (cpu:Int):KT:=
 let k':KT:={ k with tm:=k.tm.fire cpu,own:=dZ k.own (k.fireId cpu) }
 ((if 0<k.fireWho cpu then k'.wake (k.fireWho cpu) else k'):KT).did cpu
def KT.lie (k:KT) (cpu:Int):KT:={ k with co:=k.co.rest cpu (dU (jC k.now (k.tm.nextV cpu) (decide (k.tm.nextE cpu=0))) k.limit) k.now }
def KT.thingL (k:KT) (cpu what:Int):List cX:=
 if what=4 then [⟨6,cpu,k.cb.takeV cpu,0,0⟩] else if what=5 then [⟨4,cpu,(k.waits cpu).getD 0,0,0⟩] else if what=6 then [⟨3,cpu,k.fireId cpu,k.fireWho cpu,0⟩] else if what=7 then [⟨5,cpu,k.wk.takeV cpu,0,0⟩] else [⟨2,cpu,k.rq.pickV cpu,0,0⟩]
def KT.thing (k:KT) (cpu what:Int):KT:=
 if what=4 then ({ k with cb:=k.cb.take cpu }:KT).did cpu else if what=5 then ({ k with iq:=k.iq.clear ((k.waits cpu).getD 0) }:KT).did cpu else if what=6 then k.fire cpu else if what=7 then ({ k with wk:=k.wk.take cpu }:KT).did cpu else ({ k with rq:=k.rq.pick cpu }:KT).did cpu
/-- A stage's number, whether it is undone, whether it fails. -/
def SH.stK (s:SH):Int:=match s.run with|none=>0|some r=>if r.over then 0 else r.k
def SH.stU (s:SH):Bool:=match s.run with|none=>fF|some r=>if r.over then fF else r.back
def SH.stF (s:SH):Bool:=match s.run with|none=>fF|some r=>if r.over then fF else s.failsNow r
def KT.undo (k:KT) (up:Bool) (st cpu:Int):KT:=if st=1 then (if up then { k with co:=k.co.pow cpu fF } else { k with active:=bn k.active cpu }) else k
def KT.come (k:KT) (st cpu:Int):KT:=
 if st=1 then { k with co:=k.co.pow cpu tQ } else if st=2 then { k with ob:=k.ob.drain cpu } else
 let k1:KT:={ k with online:=bn k.online cpu,active:=bn k.active cpu }
 let k2:=k1.th.list.foldl KT.mend k1
 (idsOfI k2.iq).foldl KT.aim k2
where idsOfI (t:IT):List Int:=((List.range 16).filter λi=>(t.c i).wanted).map λ(i:Nat)=>(i:Int)
def KT.emptyB (k:KT) (cpu:Int):Bool:=decide (k.rq.list cpu=[])
def KT.empty (k:KT) (cpu:Int):KT:=if k.rq.list cpu=[] then k else ({ k with rq:=k.rq.take (ar (k.rq.list cpu) 0) }:KT).putT (ar (k.rq.list cpu) 0) cpu
def KT.haltB (k:KT):Bool:=k.sp.on&&k.sp.ready
def KT.halt (k:KT) (cpu by_:Int):KT:=
 if k.sp.on=fF then { k with sp:=k.sp.begin' (aK (bn k.active cpu) by_) } else if k.sp.ready=fF then k else
 let k1:=(k.rt.onL cpu 16).foldl (λk i=>k.lead i cpu) k
 { k1 with sp:=k1.sp.free }
def KT.leaveB (k:KT) (st cpu by_:Int):Bool:=
 if st=2 then k.emptyB cpu else if st=3 then decide (k.tm.moveE cpu by_≠0) else if st=4 then decide (k.wk.unbindE cpu≠0) else if st=5 then decide (k.cb.moveE cpu by_≠0) else if st=6 then k.haltB else tQ
def KT.leave (k:KT) (st cpu by_:Int):KT:=
 if st=1 then { k with active:=aK k.active cpu } else if st=2 then k.empty cpu else if st=3 then { k with tm:=k.tm.move cpu by_ } else if st=4 then { k with wk:=k.wk.unbind cpu } else if st=5 then { k with cb:=k.cb.move cpu by_ }
 else if st=6 then k.halt cpu by_ else if st=7 then { k with ob:=k.ob.drain cpu } else if st=8 then { k with ct:=fq k.ct cpu by_ } else { k with online:=aK k.online cpu,co:=k.co.pow cpu fF }
def KT.stageB (k:KT) (st:Int) (undo:Bool) (cpu by_:Int):Bool:=if undo then tQ else if st=0 then decide (k.gt.takeE=0) else if k.dk.up then tQ else k.leaveB st cpu by_
def KT.stage (k:KT) (st:Int) (undo:Bool) (cpu by_:Int):KT:=if undo then k.undo k.dk.up st cpu else if st=0 then { k with gt:=k.gt.take } else if k.dk.up then k.come st cpu else k.leave st cpu by_
/-- A step of a request, up to its end. -/
def KT.turn1 (k:KT) (by_:Int):KT:=
 let k1:KT:={ k with dk:=k.dk.next }
 if k.dk.stF then k1 else
 let k2:=k1.stage k.dk.stK k.dk.stU k.dk.cpu by_
 if k1.stageB k.dk.stK k.dk.stU k.dk.cpu by_ then { k2 with dk:=k2.dk.done } else k2
def KT.turnL (k:KT) (by_:Int):List cX:=if (k.turn1 by_).dk.over then [⟨7,k.dk.cpu,0,0,(k.turn1 by_).dk.endV⟩] else []
def KT.turn (k:KT) (by_:Int):KT:=if (k.turn1 by_).dk.over then { k.turn1 by_ with dk:=(k.turn1 by_).dk.end_,gt:=(k.turn1 by_).gt.free } else k.turn1 by_
def KT.what (k:KT) (cpu:Int):Int:=je (if k.co.is cpu then k.co.at cpu else core0) (k.flags cpu)
def KT.step0 (k:KT) (cpu:Int):KT:=if (if k.co.is cpu then k.co.at cpu else core0).power then { k with co:=k.co.count cpu (decide (k.what cpu≠0 /\ k.what cpu≠9)) } else k
def KT.stepL (k:KT) (cpu:Int):List cX:=
 if k.what cpu=0 \/ k.what cpu=1 \/ k.what cpu=2 \/ k.what cpu=9 then [] else if k.what cpu=3 then (k.step0 cpu).turnL cpu else (k.step0 cpu).thingL cpu (k.what cpu)
def KT.step (k:KT) (cpu:Int):KT:=
 if k.what cpu=0 then k.step0 cpu else if k.what cpu=1 then { k.step0 cpu with co:=(k.step0 cpu).co.wake cpu k.now } else if k.what cpu=2 then { k.step0 cpu with sp:=k.sp.ack cpu }
 else if k.what cpu=3 then (k.step0 cpu).turn cpu else if k.what cpu=9 then (k.step0 cpu).lie cpu else (k.step0 cpu).thing cpu (k.what cpu)
def KT.doL (k:KT) (e:jR):List cX:=
 if e.kind=1 then (if ¬ k.is e.cpu then aX 0 3 else k.stepL e.cpu) else if e.kind=2 then aX 0 (k.tickE e.n) else if e.kind=3 then aX (k.th.spawnV e.id e.mask) (k.th.spawnE e.id e.mask)
 else if 4 <= e.kind /\ e.kind <= 9 then k.threadedL e else if 12 <= e.kind /\ e.kind <= 17 then aX 0 (k.irqE e)
 else if e.kind=18 /\ e.cpu=-1 then aX (k.wk.queueV (-1)) (k.wk.queueE (-1)) else if e.kind=10 \/ e.kind=18 \/ (20 <= e.kind /\ e.kind <= 22) \/ e.kind=26 then k.placedL e
 else if e.kind=23 \/ e.kind=24 then aX 0 (k.reqE (decide (e.kind=23)) e.cpu)
 else if e.kind=11 then aX 0 (k.cancelE e.id) else if e.kind=19 then aX (k.flushV e.id) (KT.flushE e.id) else if e.kind=25 then aX 0 (KT.planE e.n) else if e.kind=27 then aX 0 (k.gt.leaveE e.cpu)
 else if e.kind=28 then aX 0 (tn e.n) else if e.kind=29 then aX 0 (KT.speedE e.id e.n) else if e.kind=30 then aX k.balV 0 else aX 0 2
def KT.doK (k:KT) (e:jR):KT:=
 if e.kind=1 then (if ¬ k.is e.cpu then k else k.step e.cpu) else if e.kind=2 then k.tick e.n else if e.kind=3 then k.spawn e.id e.mask
 else if 4 <= e.kind /\ e.kind <= 9 then k.threaded e else if 12 <= e.kind /\ e.kind <= 17 then k.irq e
 else if e.kind=18 /\ e.cpu=-1 then { k with wk:=k.wk.queue (-1) } else if e.kind=10 \/ e.kind=18 \/ (20 <= e.kind /\ e.kind <= 22) \/ e.kind=26 then k.placed e
 else if e.kind=23 \/ e.kind=24 then k.req (decide (e.kind=23)) e.cpu
 else if e.kind=11 then k.cancel e.id else if e.kind=19 then k else if e.kind=25 then k.plan e.n else if e.kind=27 then { k with gt:=k.gt.leave e.cpu }
 else if e.kind=28 then k.lim e.n else if e.kind=29 then k.speed e.id e.n else if e.kind=30 then k.bal else k
def Ke (n:Nat) (D:Nat -> Nat):List Value:=(List.range n).map λi=>vp (sS ⟨D i,0,nN⟩)
/-- The things by themselves. -/
def aN (n:Nat) (R:Nat -> ak):List ak:=(List.range n).map R
def js (T:TypeId) (g:Option Nat) (cap n:Nat) (D:Nat -> Nat) (R:Nat -> ak):List ak:=kS T 1 g cap n (Ke n D) :: aN n R
theorem iZ (n:Nat) (R:Nat -> ak) (c:Nat) (x:ak):(aN n R).set c x=aN n (aq R c x):=by
 unfold aN
 apply List.ext_getElem?
 intro j
 rw [List.getElem?_set]
 simp only [List.getElem?_map,List.length_map,List.length_range]
 by_cases e:c=j
 ·subst e
  by_cases hc:c<n
  ·simp [hc,ah]
  ·simp [hc]
 ·rw [nG e]
  by_cases hj:j<n
  ·simp [hj,ao _ _ (λx=>e x.symm)]
  ·simp [hj]
theorem eN {n:Nat} {R:Nat -> ak} {c:Nat} (hc:c<n):(aN n R)[c]?=sS (R c):=by simp [aN,hc]
theorem uP {n:Nat} {R R':Nat -> ak} (h:∀ i,i<n -> R i=R' i):aN n R=aN n R':=List.map_congr_left (λi hi=>h i (List.mem_range.1 hi))
theorem IF {n:Nat} {D:Nat -> Nat} {c:Nat} (hc:c<n):(Ke n D)[c]?=sS (vp (sS ⟨D c,0,nN⟩)):=by simp [Ke,hc]
theorem yH (f:Nat -> Nat -> ak) (j x:Nat) (D:Nat -> Nat):aN (j+1) (λi=>f i (aq D j x i))=aN j (λi=>f i (D i))++[f j x]:=by
 unfold aN
 rw [List.range_succ,List.map_append,List.map_cons,List.map_nil,ah]
 congr 1
 exact List.map_congr_left (λi hi=>by rw [ao _ _ (by have:=List.mem_range.1 hi;omega)])
section
variable {F0:List Nat} {w0 u:wW} {pre post:List ak} {T:TypeId} {g:Option Nat} {cap n k:Nat} {D:Nat -> Nat} {R:Nat -> ak}
theorem CN (hk:k=pre.length) {c:Nat} (hc:c<n):(pre++js T g cap n D R++post)[k+1+c]?=sS (R c):=by
 subst hk
 unfold js
 rw [List.append_assoc,List.getElem?_append_right oM,List.getElem?_append_left (by simp [aN];omega)]
 rw [show pre.length+1+c - pre.length=c+1 by omega,List.getElem?_cons_succ]
 exact eN hc
theorem JB (hk:k=pre.length) {c:Nat} (hc:c<n) (x:ak):(pre++js T g cap n D R++post).set (k+1+c) x=pre++js T g cap n D (aq R c x)++post:=by
 subst hk
 unfold js
 rw [List.append_assoc,List.set_append_right _ _ oM,List.set_append_left _ _ (by simp [aN];omega)]
 rw [show pre.length+1+c - pre.length=c+1 by omega,sC,iZ,List.append_assoc]
theorem xS (hk:k=pre.length):(pre++js T g cap n D R++post)[k]?=sS (kS T 1 g cap n (Ke n D)):=by
 subst hk
 unfold js
 rw [List.append_assoc,List.getElem?_append_right oM]
 simp
theorem On.famPtr (h:On F0 w0 (pre++js T g cap n D R++post) u) (hk:k=pre.length) {c:Nat} (hc:c<n):∃ b,g=sS b /\ u.cell? ⟨b,c,nN⟩=sS (vp (sS ⟨D c,0,nN⟩)):=by
 obtain ⟨F1,_,hr⟩:=h.get k (xS hk)
 exact hr.cell (IF hc)
theorem On.famCap (h:On F0 w0 (pre++js T g cap n D R++post) u) (hk:k=pre.length):n <= cap /\ cap <= maxLen:=by
 obtain ⟨F1,_,hr⟩:=h.get k (xS hk)
 exact hr.cap
theorem On.famHas (h:On F0 w0 (pre++js T g cap n D R++post) u) (hk:k=pre.length) {c:Nat} (hc:c<n):∃ F1,(R c).holds F1 u:=h.get _ (CN hk hc)
theorem On.famDo {P:Program} {f:FuncId} {args:Array Value} {v:Value} {x:ak} (h:On F0 w0 (pre++js T g cap n D R++post) u) (hk:k=pre.length) {c:Nat} (hc:c<n) (hh:∀ F1,(R c).holds F1 u -> Calls P f args u (al x F1 v u)):
  Calls P f args u (λe u'=>e=.returned v /\ On F0 w0 (pre++js T g cap n D (aq R c x)++post) u'):=by
 have:=h.call _ (CN hk hc) hh
 rw [JB hk hc] at this
 exact this
/-- One more thing: its pointer lies in a block of its own, it stands last. -/
theorem On.famMore {P:Program} {tt:TypeId} {x:ak} (h:On F0 w0 (pre++js T g cap n D R++[x]) u) (hT:P.underlying tt=sS (.slice T)) {bytes:Nat} (hI:(P.info? T).map (λi=>(i.zero,i.size,i.bytes))=sS (sS (vp nN),1,bytes)) (hbb:bytes <= 1000) (hn:n<1000000) {d b:Nat}
  (hbk:u.heap[b]?=sS (.cells #[vp (sS ⟨d,0,nN⟩)] T (0,0))):
  ∃ g' cap' u',(∀ ty,(Builtin.append_ #[tt,tt] ty #[.slice (rA g) n cap,.slice (sS ⟨b,0,nN⟩) 1 1]).run P u=.ok (.slice (sS ⟨g',0,nN⟩) (n+1) cap') u') /\ On F0 w0 (pre++js T (sS g') cap' (n+1) (aq D n d) (aq R n x)) u':=by
 obtain ⟨g',cap',u',hrun,h2⟩:=h.rowAppend (P:=P) (tt:=tt) (z:=vp nN) pre.length (xS rfl) hT hI rfl oM hn hbb (news:=[vp (sS ⟨d,0,nN⟩)]) rfl (by simp [Value.oneCell']) hbk
 refine ⟨g',cap',u',hrun,?_⟩
 have e1:Ke n D++[vp (sS ⟨d,0,nN⟩)]=Ke (n+1) (aq D n d):=by
  unfold Ke
  rw [List.range_succ,List.map_append,List.map_cons,List.map_nil,ah]
  congr 1
  exact List.map_congr_left (λi hi=>by rw [ao _ _ (by have:=List.mem_range.1 hi;omega)])
 have e2:aN n R++[x]=aN (n+1) (aq R n x):=by
  unfold aN
  rw [List.range_succ,List.map_append,List.map_cons,List.map_nil,ah]
  congr 1
  exact List.map_congr_left (λi hi=>by rw [ao _ _ (by have:=List.mem_range.1 hi;omega)])
 unfold js at h2 ⊢
 rw [<- e1,<- e2]
 rw [List.append_assoc,List.set_append_right _ _ oM] at h2
 simpa using h2
end
def cT (m:Nat) (l:List Int) (x:Int):Int:=if x∈l then 6 else if l.length=m then 5 else 0
def kM (m:Nat) (l:List Int) (x:Int):List Int:=if cT m l x=0 then l++[x] else l
def yX (m:Nat) (l:List Int):List Int:=if l=[] then l else kM m l.tail (cd l)
section
variable {F:List Nat} {w u:wW} {b r m f:Nat} {R l:List Int}
theorem On.fifoSet (h:On F w (qR b r m f R l) u) (i:Nat) (x:Int):On F w [ak.blk b (ic r m f l.length),ak.blk r (cq (R.set i x))] (u.setCell ⟨r,i,nN⟩ (vi iQ x)):=by
 have:=h.set 1 rfl i (vi iQ x)
 rw [sK] at this
 exact this
theorem iy (h:(aQ b m l).holds F w) (x:Int):Calls tp 143 #[vp (sS ⟨b,0,nN⟩),vi iQ x] w (al (aQ b m (kM m l x)) F (vi iQ (cT m l x)) w):=by
 have hH:=Hk h x
 obtain ⟨r,f,R,hq,hr,hA⟩:=gl h
 have hfit:=hr.fits
 have hf:=hr.first
 have hRl:=hr.len
 obtain ⟨h1,h2⟩:=id hq
 by_cases hx:x∈l
 ·have e1:cT m l x=6:=pG hx
  rw [show kM m l x=l from nG (by rw [e1];decide),e1]
  rw [decide_eq_true hx] at hH
  clear e1
  go_in
  go_wp2_with (
   go_at_call 232
   refine hH.s λw1 m1=>?_
   have hB:=hA.keep m1
   have c0:w1.cell? ⟨b,0,nN⟩=sS (.slice (sS ⟨r,0,nN⟩) m m):=hB.cell 0 rfl 0
   have c1:w1.cell? ⟨b,1,nN⟩=sS (vi iQ (f:Nat)):=hB.cell 0 rfl 1
   have c2:w1.cell? ⟨b,2,nN⟩=sS (vi iQ (l.length:Nat)):=hB.cell 0 rfl 2
   have f2:w1.frozen? ⟨b,2,nN⟩=fF:=hB.free 0 rfl 2
   have hO:=zh hB
   clear hB
   )
  go_ret
  exact ⟨rfl,hO.out.fifo hq hr⟩
 ·rw [decide_eq_false hx] at hH
  by_cases hfull:l.length=m
  ·have e1:cT m l x=5:=by unfold cT;rw [nG hx,pG hfull]
   rw [show kM m l x=l from nG (by rw [e1];decide),e1]
   clear e1
   have hne:((l.length:Int)==m)=tQ:=by simp [hfull]
   go_in
   go_wp2_with (
    go_at_call 232
    refine hH.s λw1 m1=>?_
    have hB:=hA.keep m1
    have c0:w1.cell? ⟨b,0,nN⟩=sS (.slice (sS ⟨r,0,nN⟩) m m):=hB.cell 0 rfl 0
    have c1:w1.cell? ⟨b,1,nN⟩=sS (vi iQ (f:Nat)):=hB.cell 0 rfl 1
    have c2:w1.cell? ⟨b,2,nN⟩=sS (vi iQ (l.length:Nat)):=hB.cell 0 rfl 2
    have f2:w1.frozen? ⟨b,2,nN⟩=fF:=hB.free 0 rfl 2
    have hO:=zh hB
    clear hB
    )
   go_quiet (fail)
   go_wp2
   go_ret
   exact ⟨rfl,(hO.out.keep (mR.drewN _)).fifo hq hr⟩
  ·have e1:cT m l x=0:=by unfold cT;rw [nG hx,nG hfull]
   rw [show kM m l x=l++[x] from pG e1,e1]
   clear e1
   have hne:((l.length:Int)==m)=fF:=by simp;omega
   have hlt:l.length<m:=by omega
   have hpl:(f+l.length) % m<m:=Nat.mod_lt _ oM
   have hpush:=zh (hr.push hlt x)
   go_in
   go_wp2_with (
    go_at_call 232
    refine hH.s λw1 m1=>?_
    have hB:=hA.keep m1
    have c0:w1.cell? ⟨b,0,nN⟩=sS (.slice (sS ⟨r,0,nN⟩) m m):=hB.cell 0 rfl 0
    have c1:w1.cell? ⟨b,1,nN⟩=sS (vi iQ (f:Nat)):=hB.cell 0 rfl 1
    have c2:w1.cell? ⟨b,2,nN⟩=sS (vi iQ (l.length:Nat)):=hB.cell 0 rfl 2
    have f2:w1.frozen? ⟨b,2,nN⟩=fF:=hB.free 0 rfl 2
    have hO:=zh hB
    clear hB
    )
   go_quiet (fail)
   have d0:w1.cell? ⟨r,(f+l.length) % m,nN⟩=sS (vi iQ (ar R ((f+l.length) % m))):=by
    rw [hO.out.cell 1 rfl _];exact bZ oM
   have d1:w1.frozen? ⟨r,(f+l.length) % m,nN⟩=fF:=hO.out.free 1 rfl _
   have hbr:b≠r:=hO.out.ne 0 1 dE rfl rfl
   have hrb:r≠b:=Ne.symm hbr
   have hat:=λk=>CM hq hr (hO.out.keep ((af.refl [] w1).drewN k)) l.length oM
   generalize hp:(f+l.length) % m=p at *
   replace hp:=zh hp
   have hpI:(p:Int)<m:=by omega
   go_wp2
   go_region_held3 (λu=>u.cell? ⟨b,0,nN⟩=sS (.slice (sS ⟨r,0,nN⟩) m m) /\ u.cell? ⟨b,2,nN⟩=sS (vi iQ (l.length:Nat))) (exact ⟨by first|assumption|exact (af.setCell (S:=[r]) mR (.inl sM) _).at (by assumption) (by simpa using hbr),by first|assumption|exact (af.setCell (S:=[r]) mR (.inl sM) _).at (by assumption) (by simpa using hbr)⟩) (first
    | (
     go_at_call 233
     refine (hat _).r λk4=>?_
     ))
   go_wp2
   go_ret
   refine ⟨rfl,?_⟩
   refine On.fifo (f:=f) (R:=R.set p x) (r:=r) ?_ hq hpush.out
   have x1:=(hO.out.keep (u':=w1.drewN (nq+1+k4)) (mR.drewN _)).fifoSet p x
   have x2:=x1.set 0 rfl 2 (vi iQ ((l.length:Int)+1))
   simpa [qR,ic] using x2
theorem oT (h:(aQ b m l).holds F w):Calls tp 269 #[vp (sS ⟨b,0,nN⟩)] w (al (aQ b m l.tail) F (.tuple #[vi iQ (cd l),vi iQ (dN l)]) w):=by
 have hH:=nt h
 obtain ⟨r,f,R,hq,hr,hA⟩:=gl h
 obtain ⟨h1,h2⟩:=id hq
 have hf:=hr.first
 have c0:w.cell? ⟨b,0,nN⟩=sS (.slice (sS ⟨r,0,nN⟩) m m):=hA.cell 0 rfl 0
 have c1:w.cell? ⟨b,1,nN⟩=sS (vi iQ (f:Nat)):=hA.cell 0 rfl 1
 have c2:w.cell? ⟨b,2,nN⟩=sS (vi iQ (l.length:Nat)):=hA.cell 0 rfl 2
 have f1:w.frozen? ⟨b,1,nN⟩=fF:=hA.free 0 rfl 1
 have f2:w.frozen? ⟨b,2,nN⟩=fF:=hA.free 0 rfl 2
 have hO:=zh hA
 cases l with
 | nil=>
  rw [show dN []=12 from rfl,show cd []=0 from rfl] at *
  clear hA h
  go_in
  go_wp2_with (go_at_call 272;refine hH.r λk=>?_)
  go_ret2
  exact ⟨rfl,(hO.out.keep (mR.drewN _)).fifo hq hr⟩
 | cons x l=>
  rw [show dN (x :: l)=0 from rfl] at *
  have hat:=λk=>CM hq hr (hA.keep ((af.refl [] w).drewN k)) 1 oM
  have hlen:(x :: l).length=l.length+1:=rfl
  have hfit:=hr.fits
  rw [hlen] at hfit
  rw [hlen] at c2
  have hpop:=zh hr.pop
  generalize cd (x :: l)=y at *
  generalize (f+1) % m=p at *
  show Calls _ _ _ _ (al (aQ b m l) _ _ _)
  clear hA h hr hlen
  have hbig:l.length<1000000:=by omega
  generalize hn:l.length=n at *
  replace hn:=zh hn
  go_in
  go_wp2_with (first
   | (go_at_call 272;refine hH.r λk=>?_)
   | (go_at_call 233;refine (hat _).r λk2=>?_))
  go_ret2
  refine ⟨by simp,?_⟩
  refine On.fifo (f:=p) (R:=R) (r:=r) ?_ hq hpop.out
  have x1:=(hO.out.keep (u':=w.drewN (k+k2)) (mR.drewN _)).set 0 rfl 1 (vi iQ (p:Nat))
  have x2:=x1.set 0 rfl 2 (vi iQ (n:Nat))
  have hn2:=hn.out
  subst hn2
  simpa [qR,ic] using x2
theorem EW (h:(aQ b m l).holds F w):Calls tp 318 #[vp (sS ⟨b,0,nN⟩)] w (al (aQ b m (yX m l)) F (vi iQ (if l=[] then 12 else cT m l.tail (cd l))) w):=by
 have hP:=(On.one h).call 0 rfl (λF1 h1=>oT h1)
 by_cases hl:l=[]
 ·rw [show yX m l=l from pG hl,pG hl]
  rw [show dN l=12 from pG hl] at hP
  subst hl
  generalize cd ([]:List Int)=y at *
  go_in
  go_wp2_with (go_at_call 269;refine hP.s λw' hB=>?_)
  go_ret
  exact ⟨rfl,hB.gain1⟩
 ·rw [show yX m l=kM m l.tail (cd l) from nG hl,nG hl]
  rw [show dN l=0 from nG hl] at hP
  generalize cd l=y at *
  go_in
  go_wp2_with (first
   | (go_at_call 269;refine hP.s λw1 hB=>?_;have hQ:=hB.call 0 rfl (λF1 h1=>iy h1 y);clear hP)
   | (go_at_call 143;refine hQ.s λw2 hC=>?_))
  go_ret
  exact ⟨rfl,hC.gain1⟩
end
def sP (l:List Int) (x:Int):Int:=if x∈l then 0 else 4
theorem wS:∀ (l:List Int) (x:Int) (k:Nat),k<l.length -> ar l k=x -> (∀ i,i<k -> ar l i≠x) -> l.eraseIdx k=l.erase x
 | [],_,_,h,_,_=>by simp at h
 | a :: l,x,0,_,h2,_=>by
  have:a=x:=by simpa [ar] using h2
  subst this;simp
 | a :: l,x,k+1,h1,h2,h3=>by
  have h0:a≠x:=by have:=h3 0 oM;simpa [ar] using this
  have ih:=wS l x k (by simpa using h1) (by simpa [ar] using h2) (λi hi=>by have:=h3 (i+1) oM;simpa [ar] using this)
  rw [List.eraseIdx_cons_succ,ih,List.erase_cons_tail (by simpa using h0)]
section
variable {F:List Nat} {w u:wW} {b r m f:Nat} {R l:List Int}
theorem Hi (n:Nat) (R':List Int) (hm1:1 <= m) (hm2:m <= 1024) (hf:f<m) (hA:On F w [ak.blk b (ic r m f n),ak.blk r (cq R')] u) (i:Nat) (hi:i <= m):Calls tp 233 #[vp (sS ⟨b,0,nN⟩),vi iQ i] u (au (vi iQ ((f+i) % m:Nat)) u):=by
 have c0:u.cell? ⟨b,0,nN⟩=sS (.slice (sS ⟨r,0,nN⟩) m m):=hA.cell 0 rfl 0
 have c1:u.cell? ⟨b,1,nN⟩=sS (vi iQ (f:Nat)):=hA.cell 0 rfl 1
 clear hA
 have hm0:(m:Int)≠0:=by omega
 have hm3:(0:Int)<m:=by omega
 go_in
 go_wp2
 go_quiet (fail)
 go_wp2
 go_ret
 refine ⟨?_,by repeat (first|exact aA.refl _|apply aA.drewN|apply aA.drew)⟩
 show Ending.returned (vi iQ (((f:Int)+i) % m))=_
 simp
theorem wR (h:(aQ b m l).holds F w) (x:Int):Calls tp 316 #[vp (sS ⟨b,0,nN⟩),vi iQ x] w (al (aQ b m (l.erase x)) F (vi iQ (sP l x)) w):=by
 have hL:=jL h
 obtain ⟨r,f,R,hq,hr,hA⟩:=gl h
 have hfit:=hr.fits
 have hf:=hr.first
 have hRl:=hr.len
 obtain ⟨h1,h2⟩:=id hq
 have hrw:=hA.size 1 rfl
 have hbw:=hA.size 0 rfl
 by_cases hx:x∈l
 ·rw [show sP l x=0 from pG hx]
  have hl0:l≠[]:=by rintro rfl;simp at hx
  go_in
  go_wp2_with (first
   | (
    go_at_call 172
    refine hL.mono ?_
    rintro e w1 ⟨a,c,rfl,m1,hs⟩
    obtain ⟨rfl,rfl,h4⟩:=hs.resolve_left (λh=>hl0 h.1)
    have hI:=qi (sS ⟨w.heap.size,0,nN⟩) l.length l x w1 (.inr ⟨_,rfl,λj hj=>by rw [ab h4 j];exact bZ hj⟩) oM
    have hH:=zh (And.intro m1 h4)
    clear hL m1 h4
    )
   | (
    go_at_call 327
    refine hI.mono ?_
    rintro e w2 ⟨k,rfl,hD,hk⟩
    obtain ⟨k,rfl,hkl,hkx,hkn⟩:=hk.resolve_left (λh=>by obtain ⟨i,hi,e⟩:=jd.1 hx;exact h.2 i hi e)
    have hkI:(0:Int) <= k:=by omega
    clear hI
    ))
  obtain ⟨m1,h4⟩:=hH.out
  have m2:af [] w w2:=af.trans (S:=[]) (T:=[]) m1 hD.mod sM
  have g2:w2.heap[w.heap.size]?=sS (cq l):=by rw [hD.heap];exact h4
  have hB:=hA.keep m2
  have hE:=wS l x k hkl hkx hkn
  have hSt:=pn.start hr hkl
  clear hH m1 h4 hD m2 hkn hkx hx hl0
  generalize hg:w.heap.size=g at *
  have hgr:g≠r:=by omega
  have hgb:g≠b:=by omega
  clear hg
  obtain ⟨n,hn⟩:∃ n,l.length=n:=⟨_,rfl⟩
  have hB2:On F w [ak.blk b (ic r m f n),ak.blk r (cq R)] w2:=by rw [<- hn];exact hB
  clear hB hA h hrw hbw
  rw [hn] at hfit hkl
  replace hE:=zh hE
  replace hn:=zh hn
  go_loopg [7] (n - 1 - k) (λgg i wr=>∃ (j:Nat) (R':List Int),i=vi iQ j /\ k <= j /\ j+gg+1=n /\ pn R' m f l k j /\ On F w [ak.blk b (ic r m f n),ak.blk r (cq R')] wr /\ wr.heap[g]?=sS (cq l))
  case atStart=>exact ⟨k,R,rfl,Nat.le_refl _,by omega,hSt,hB2,g2⟩
  case round=>
   clear hB2 hSt g2
   obtain ⟨j,R',rfl,hkj,hj,hSt,hB,g2⟩:=hrel
   have c0:wr.cell? ⟨b,0,nN⟩=sS (.slice (sS ⟨r,0,nN⟩) m m):=hB.cell 0 rfl 0
   have c2:wr.cell? ⟨b,2,nN⟩=sS (vi iQ (n:Nat)):=hB.cell 0 rfl 2
   have f2:wr.frozen? ⟨b,2,nN⟩=fF:=hB.free 0 rfl 2
   have hbr:b≠r:=hB.ne 0 1 dE rfl rfl
   have hrb:r≠b:=Ne.symm hbr
   have hbig:n<1000000:=by omega
   by_cases hlt:j+1<n
   ·have hltI:(j:Int)+1<l.length:=by have:=hn.out;omega
    have hltN:j+1<l.length:=by have:=hn.out;omega
    have hj0:(0:Int) <= (j:Int)+1:=by omega
    have hjw:IntKind.i64.wrap ((j:Int)+1)=(j:Int)+1:=by rw [IntKind.wrap_i64];omega
    have hjs:(j:Int)<1000000:=by omega
    have hls:l.length<1000000:=by have:=hn.out;omega
    have hjt:((j:Int)+1).toNat=j+1:=by omega
    have hlen:=hSt.len
    have hpl:(f+j) % m<m:=Nat.mod_lt _ oM
    have d0:wr.cell? ⟨r,(f+j) % m,nN⟩=sS (vi iQ (ar R' ((f+j) % m))):=by
     rw [hB.cell 1 rfl _];exact bZ oM
    have d1:wr.frozen? ⟨r,(f+j) % m,nN⟩=fF:=hB.free 1 rfl _
    have gc:wr.cell? ⟨g,j+1,nN⟩=sS (vi iQ (ar l (j+1))):=by
     rw [ab g2 (j+1)];exact bZ (by rw [hn.out];exact hlt)
    have hat:=λq=>Hi n R' h1 h2 hf (hB.keep ((af.refl [] wr).drewN q)) j oM
    have hNext:=zh (hSt.step hf (by rw [hn.out];exact hfit) hkj (by rw [hn.out];exact hlt))
    have hO:=zh hB
    have hG:=zh g2
    clear hSt hB g2
    generalize (f+j) % m=p at *
    generalize ar l (j+1)=y at *
    have hpI:(p:Int)<m:=by omega
    go_wp2
    go_region_held3 (λu=>u.cell? ⟨b,0,nN⟩=sS (.slice (sS ⟨r,0,nN⟩) m m) /\ u.cell? ⟨g,j+1,nN⟩=sS (vi iQ y)) (exact ⟨by first|assumption|exact (af.setCell (S:=[r]) mR (.inl sM) _).at (by assumption) (by simpa using hbr),by first|assumption|exact (af.setCell (S:=[r]) mR (.inl sM) _).at (by assumption) (by simpa using hgr)⟩) (first
     | (
      go_at_call 233
      refine (hat _).r λk4=>?_
      ))
    go_wp2
    go_roundg (gk - 1)
    case measure=>omega
    case rel=>
     refine ⟨j+1,R'.set p y,by go_num,by omega,by omega,hNext.out,?_,?_⟩
     ·have x1:=(hO.out.keep (u':=wr.drewN (1+k4)) (mR.drewN _)).set 1 rfl p (vi iQ y)
      rw [sK] at x1
      first
       | exact x1
       | (refine On.keep (u:=(wr.drewN (1+k4)).setCell ⟨r,p,nN⟩ (vi iQ y)) x1 ?_;exact mR)
     ·rw [bq hgr];exact hG.out
   ·have hltI:¬ (j:Int)+1<l.length:=by have:=hn.out;omega
    have hDone:=zh (hSt.done hf (by rw [hn.out];exact hfit) (by rw [hn.out];exact hkl) (by rw [hn.out];omega))
    have hO:=zh hB
    clear hSt hB g2
    have hn1:(l.eraseIdx k).length=n - 1:=by rw [List.length_eraseIdx_of_lt (by rw [hn.out];exact hkl),hn.out]
    have hN1:=zh hn1
    clear hn1
    go_wp2
    go_ret
    refine ⟨rfl,?_⟩
    rw [<- hE.out]
    refine On.fifo (f:=f) (R:=R') (r:=r) ?_ hq hDone.out
    unfold qR
    rw [hN1.out]
    have x1:=hO.out.set 0 rfl 2 (vi iQ ((n - 1:Nat):Int))
    have e:((n:Int) - 1)=((n - 1:Nat):Int):=by omega
    rw [e]
    simpa [ic] using x1
 ·rw [show sP l x=4 from nG hx,List.erase_of_not_mem hx]
  go_in
  go_wp2_with (first
   | (
    go_at_call 172
    refine hL.mono ?_
    rintro e w1 ⟨a,c,rfl,m1,hs⟩
    have hI:=qi a c l x w1 (by
     rcases hs with ⟨h1,_⟩|⟨_,h2,h3⟩
     ·exact .inl h1
     ·exact .inr ⟨_,h2,λj hj=>by rw [ab h3 j];exact bZ hj⟩) oM
    have hH:=zh m1
    clear hL m1 hs
    )
   | (
    go_at_call 327
    refine hI.mono ?_
    rintro e w2 ⟨k,rfl,hD,hk⟩
    obtain rfl:k=-1:=by
     rcases hk with h|⟨j,_,h1,h2,_⟩
     ·exact h.1
     ·exact absurd (jd.2 ⟨j,h1,h2⟩) hx
    clear hI hk
    ))
  go_ret
  exact ⟨rfl,(hA.keep (af.trans (S:=[]) (T:=[]) hH.out hD.mod sM)).fifo hq hr⟩
end
def xE (x:Nat -> Int):List Value:=(List.range 10).map λj=>vi iQ (x j)
theorem xD (x:Nat -> Int):(xE x).length=10:=by simp [xE]
theorem Jh (x:Nat -> Int) {j:Nat} (hj:j<10):(xE x)[j]?=sS (vi iQ (x j)):=by simp [xE,hj]
theorem Jg (x:Nat -> Int) {j:Nat} (hj:j<10) (v:Int):(xE x).set j (vi iQ v)=xE (aq x j v):=by
 unfold xE
 apply List.ext_getElem?
 intro i
 rw [List.getElem?_set]
 simp only [List.getElem?_map,List.length_map,List.length_range]
 by_cases e:j=i
 ·subst e;simp [hj,ah]
 ·rw [nG e]
  by_cases hi:i<10
  ·simp [hi,ao _ _ (λq=>e q.symm)]
  ·simp [hi]
def Gw (x:Nat -> Int):Prop:=(∀ j,bz (x j)) /\ 0 <= x 9 /\ x 9 <= 4611686018427387904
def ju.ok (t:ju):Prop:=1 <= t.n /\ t.n <= 64 /\ ∀ i,Gw (t.c i)
def Em (b r:Nat) (t:ju):List ak:=[ak.blk b (.cells #[.slice (sS ⟨r,0,nN⟩) t.n t.n] 216 (0,0)),ak.blk r (.cells (cC [] t.n (λi=>xE (t.c i)) []) 270 (0,0))]
def Im (b:Nat) (t:ju):ak:=ak.such t.ok (ak.ex λr:Nat=>ak.star (Em b r t))
def KY (n:Nat):ju:=⟨n,λ_ _=>0⟩
theorem zY {a b:Int} (h1:rj a) (h2:rj b):0 <= a * b /\ a * b <= 4611686018427387904:=by
 obtain ⟨a1,a2⟩:=h1
 obtain ⟨b1,b2⟩:=h2
 have h:=Int.mul_le_mul a2 b2 b1 oM
 exact ⟨Int.mul_nonneg a1 b1,by omega⟩
section
variable {F:List Nat} {w u:wW} {b r:Nat} {t:ju}
theorem xA (h:(Im b t).holds F w):∃ r,t.ok /\ On F w (Em b r t) w:=by
 obtain ⟨hok,r,h⟩:=h
 exact ⟨r,hok,On.of h⟩
theorem On.mt (h:On F w (Em b r t) u) (hok:t.ok):dt (Im b t) F w u:=h.gains.imp λF' h'=>⟨hok,r,h'⟩
theorem On.mtC (h:On F w (Em b r t) u) {i j:Nat} (hi:i<t.n) (hj:j<10) {o:Nat} (ho:o=i * 10+j):u.cell? ⟨r,o,nN⟩=sS (vi iQ (t.c i j)):=by
 rw [h.cell 1 rfl o,gN (k:=10) (λi=>xD _) hi hj (by simpa using ho)]
 exact Jh _ hj
theorem On.mtSet (h:On F w (Em b r t) u) {i j:Nat} (hi:i<t.n) (hj:j<10) (v:Int) {o:Nat} (ho:o=i * 10+j):On F w (Em b r (t.put i (aq (t.c i) j v))) (u.setCell ⟨r,o,nN⟩ (vi iQ v)):=by
 have:=h.set 1 rfl o (vi iQ v)
 rw [gM (k:=10) (λi=>xD _) hi hj _ (by simpa using ho),Jg _ hj] at this
 have e:aq (λi=>xE (t.c i)) i (xE (aq (t.c i) j v))=λx=>xE ((t.put i (aq (t.c i) j v)).c x):=by
  funext x
  by_cases e:x=i
  ·subst e;rw [ah];show _=xE (aq t.c x _ x);rw [ah]
  ·rw [ao _ _ e];show _=xE (aq t.c i _ x);rw [ao _ _ e]
 rw [e] at this
 exact this
theorem El (t:ju) (i:Nat) (x y:Nat -> Int):(t.put i x).put i y=t.put i y:=by
 unfold ju.put
 simp only [ju.mk.injEq,true_and]
 funext j
 by_cases e:j=i
 ·subst e;rw [ah,ah]
 ·rw [ao _ _ e,ao _ _ e,ao _ _ e]
theorem BA (t:ju) (i:Nat):t.put i (t.c i)=t:=by
 cases t with
 | mk n c=>
  show ju.mk n (aq c i (c i))=_
  congr 1
  funext x
  by_cases e:x=i
  ·subst e;exact ah _ _ _
  ·exact ao _ _ e
theorem zu {x:Nat -> Int} (h:Gw x) (j:Nat) (hj:j<9) (a p:Int):Gw (wh x j a p):=by
 unfold wh
 split
 ·rename_i e
  unfold gR at e
  split at e
  ·omega
  ·rename_i h1
   split at e
   ·omega
   ·rename_i h2
    have h3:rj a /\ rj p:=by
     constructor<;>(apply Classical.byContradiction;intro q;simp [q] at h1)
    have h4:=zY h3.1 h3.2
    obtain ⟨h5,h6,h7⟩:=h
    refine ⟨λi=>?_,?_,?_⟩
    ·by_cases e1:i=j
     ·subst e1;rw [ah];exact Ck _
     ·rw [ao _ _ e1]
      by_cases e2:i=9
      ·subst e2;rw [ah];unfold bz;omega
      ·rw [ao _ _ e2];exact h5 i
    ·rw [ao _ _ oM,ah];omega
    ·rw [ao _ _ oM,ah];omega
 ·exact h
theorem zp (h:t.ok) (i:Nat) {x:Nat -> Int} (hx:Gw x):(t.put i x).ok:=by
 refine ⟨h.1,h.2.1,λj=>?_⟩
 show Gw (aq t.c i x j)
 by_cases e:j=i
 ·subst e;rw [ah];exact hx
 ·rw [ao _ _ e];exact h.2.2 j
theorem oh (n:Int) (w:wW):Calls tp 322 #[vi iQ n] w (au (vb (decide (rj n))) w):=by
 unfold rj
 by_cases h:0 <= n
 ·go_in
  go_wp2
  go_ret
  exact au.of (by simp [h]) dz
 ·have e:decide (0 <= n /\ n <= 2147483648)=fF:=by simp;omega
  rw [e]
  have h':n<0:=by omega
  go_in
  go_wp2
  go_ret
  exact au.of sM dz
theorem nh (h:On F w (Em b r t) u) (cpu:Int):Calls tp 173 #[vp (sS ⟨b,0,nN⟩),vi iQ cpu] u (au (.tuple #[vp (if t.is cpu then sS ⟨r,cpu.toNat * 10,nN⟩ else nN),vi iQ (if t.is cpu then 0 else 3)]) u):=by
 have c0:u.cell? ⟨b,0,nN⟩=sS (.slice (sS ⟨r,0,nN⟩) t.n t.n):=h.cell 0 rfl 0
 by_cases hi:t.is cpu
 ·rw [pG hi,pG hi]
  obtain ⟨h1,h2⟩:=hi
  obtain ⟨c,rfl⟩:=iN h1
  simp only [Int.toNat_natCast]
  clear h
  go_in
  go_wp2
  go_ret2
  exact au.of sM dz
 ·rw [nG hi,nG hi]
  have h2:cpu<0 \/ (¬ cpu<0 /\ (t.n:Int) <= cpu):=by unfold ju.is at hi;omega
  clear h hi
  rcases h2 with h2|⟨h1,h2⟩
  all_goals
   go_in
   go_wp2
   go_ret2
   exact au.of (rfl) dz
theorem wg (h:On F w (Em b r t) u) (hok:t.ok) {c j:Nat} (hc:c<t.n) (hj:j<9) (o:Nat) (ho:o=c * 10+j) (a p:Int):Calls tp 277 #[vp (sS ⟨r,c * 10,nN⟩),vp (sS ⟨r,o,nN⟩),vi iQ a,vi iQ p] u (λe u'=>e=.returned (vi iQ (gR (t.c c) a p)) /\ On F w (Em b r (t.put c (wh (t.c c) j a p))) u'):=by
 have hA:=λw=>oh a w
 have hP:=λw=>oh p w
 have hx:=hok.2.2 c
 have c9:=h.mtC hc (j:=9) dE (o:=c * 10+9) rfl
 have cj:=h.mtC hc (j:=j) oM (o:=o) ho
 have f9:u.frozen? ⟨r,c * 10+9,nN⟩=fF:=h.free 1 rfl _
 have fj:u.frozen? ⟨r,o,nN⟩=fF:=h.free 1 rfl _
 have hself:=BA t c
 unfold wh
 by_cases h1:rj a
 case neg=>
  have e:gR (t.c c) a p=2:=by unfold gR;rw [pG (.inl h1)]
  rw [e,nG dE,hself]
  rw [decide_eq_false h1] at hA
  clear hP hself h1 e cj
  have H:=zh h
  clear h
  go_in
  go_wp2_with (go_at_call 322;refine (hA _).r λk=>?_)
  go_ret
  exact ⟨rfl,H.out.keep (mR.drewN _)⟩
 rw [decide_eq_true h1] at hA
 by_cases h2:rj p
 case neg=>
  have e:gR (t.c c) a p=2:=by unfold gR;rw [pG (.inr h2)]
  rw [e,nG dE,hself]
  rw [decide_eq_false h2] at hP
  clear hself h2 e cj h1
  have H:=zh h
  clear h
  go_in
  go_wp2_with (first
   | (go_at_call 322;refine (hA _).mono ?_;clear hA;rintro e w' ⟨rfl,k,rfl⟩)
   | (go_at_call 322;refine (hP _).r λk2=>?_))
  go_ret
  exact ⟨rfl,H.out.keep (by first|exact mR.drewN _|exact mR)⟩
 rw [decide_eq_true h2] at hP
 have hb:=zY h1 h2
 obtain ⟨hb1,hb2⟩:=hb
 have hw:IntKind.i64.wrap (a * p)=a * p:=by rw [IntKind.wrap_i64];omega
 obtain ⟨hx1,hx2,hx3⟩:=hx
 have hN:=λw=>Gm (t.c c 9) (a * p) w (hx1 9) ⟨by omega,by omega⟩
 have hE:gR (t.c c) a p=if 4611686018427387904<t.c c 9+a * p then 16 else 0:=by unfold gR;rw [nG (by simp [h1,h2])]
 by_cases hs:4611686018427387904<t.c c 9+a * p
 ·rw [pG hs] at hE
  rw [hE,nG dE,hself]
  have H:=zh h
  clear h hself h1 h2 cj hE hok
  by_cases hi:bz (t.c c 9+a * p)
  ·rw [show rD (t.c c 9) (a * p)=t.c c 9+a * p from pG hi,show addE (t.c c 9) (a * p)=0 from pG hi] at hN
   obtain ⟨hi1,hi2⟩:=hi
   generalize t.c c 9=x at *
   generalize hz:a * p=z at *
   go_in
   go_wp2_with (first
    | (go_at_call 322;refine (hA _).mono ?_;clear hA;rintro e w' ⟨rfl,k,rfl⟩)
    | (go_at_call 322;refine (hP _).r λk2=>?_)
    | (go_at_call 297;refine (hN _).r λk3=>?_))
   go_ret
   exact ⟨rfl,H.out.keep (by first|exact mR.drewN _|exact mR)⟩
  ·rw [show rD (t.c c 9) (a * p)=0 from nG hi,show addE (t.c c 9) (a * p)=16 from nG hi] at hN
   generalize t.c c 9=x at *
   generalize hz:a * p=z at *
   clear hi
   go_in
   go_wp2_with (first
    | (go_at_call 322;refine (hA _).mono ?_;clear hA;rintro e w' ⟨rfl,k,rfl⟩)
    | (go_at_call 322;refine (hP _).r λk2=>?_)
    | (go_at_call 297;refine (hN _).r λk3=>?_))
   go_ret
   exact ⟨rfl,H.out.keep (by first|exact mR.drewN _|exact mR)⟩
 ·rw [nG hs] at hE
  rw [hE,pG rfl]
  have hi:bz (t.c c 9+a * p):=⟨by omega,by omega⟩
  rw [show rD (t.c c 9) (a * p)=t.c c 9+a * p from pG hi,show addE (t.c c 9) (a * p)=0 from pG hi] at hN
  obtain ⟨hi1,hi2⟩:=hi
  have hpp:=El t c
  have H:=zh h
  have ewr:IntKind.i64.wrap (t.c c j+a)=wr (t.c c j+a):=rfl
  subst ho
  have h9j:¬ (9=j):=by omega
  have hj9:¬ (j=9):=by omega
  have HP:=zh hpp
  clear h hself h1 h2 hE hok hpp
  have hfin:∀ k,On F w (Em b r (t.put c (aq (aq (t.c c) 9 (t.c c 9+a * p)) j (wr (t.c c j+a))))) (((u.drewN k).setCell ⟨r,c * 10+9,nN⟩ (vi iQ (t.c c 9+a * p))).setCell ⟨r,c * 10+j,nN⟩ (vi iQ (wr (t.c c j+a)))):=by
   intro k
   have q:=((H.out.keep (u':=u.drewN k) (mR.drewN _)).mtSet hc (j:=9) dE (t.c c 9+a * p) (o:=c * 10+9) rfl).mtSet hc (j:=j) oM (wr (t.c c j+a)) rfl
   rw [HP.out] at q
   have e:(t.put c (aq (t.c c) 9 (t.c c 9+a * p))).c c=aq (t.c c) 9 (t.c c 9+a * p):=ah _ _ _
   rw [e] at q
   exact q
  replace hfin:=zh hfin
  generalize t.c c j=y at *
  generalize t.c c 9=x at *
  generalize hz:a * p=z at *
  have hyw:=Ck (y+a)
  generalize wr (y+a)=yw at *
  go_in
  go_wp2_with (first
   | (go_at_call 322;refine (hA _).mono ?_;clear hA;rintro e w' ⟨rfl,k,rfl⟩)
   | (go_at_call 322;refine (hP _).r λk2=>?_)
   | (go_at_call 297;refine (hN _).r λk3=>?_))
  go_ret
  refine ⟨rfl,?_⟩
  first
   | exact hfin.out _
   | simpa [ewr] using hfin.out _
theorem BB (h:(Im b t).holds F w) (cpu a p:Int):Calls tp 207 #[vp (sS ⟨b,0,nN⟩),vi iQ cpu,vi iQ a,vi iQ p] w (al (Im b (t.work cpu a p)) F (vi iQ (t.workE cpu a p)) w):=by
 obtain ⟨r,hok,hA⟩:=xA h
 have hF:=nh hA cpu
 unfold ju.work ju.workE
 by_cases hi:t.is cpu
 ·rw [pG hi,nG (by simpa using hi)]
  rw [pG hi,pG hi] at hF
  obtain ⟨h1,h2⟩:=hi
  obtain ⟨c,rfl⟩:=iN h1
  simp only [ju.at,Int.toNat_natCast] at *
  have hc:c<t.n:=by omega
  have hp:=λk=>wg (hA.keep (u':=w.drewN k) (mR.drewN k)) hok hc (j:=0) oM (c * 10) rfl a p
  have hok2:=zp hok c (zu (hok.2.2 c) 0 oM a p)
  clear h hA
  go_in
  go_wp2_with (first
   | (go_at_call 173;refine hF.r λk=>?_)
   | (go_at_call 277;refine (hp _).s λw2 hB=>?_))
  go_ret
  exact ⟨rfl,hB.mt hok2⟩
 ·rw [nG hi,pG hi]
  rw [nG hi,nG hi] at hF
  clear h hi
  go_in
  go_wp2_with (go_at_call 173;refine hF.r λk=>?_)
  go_ret
  exact ⟨rfl,(hA.keep (mR.drewN k)).mt hok⟩
theorem BC (h:(Im b t).holds F w) (cpu way a p:Int):Calls tp 206 #[vp (sS ⟨b,0,nN⟩),vi iQ cpu,vi iQ way,vi iQ a,vi iQ p] w (al (Im b (t.rest cpu way a p)) F (vi iQ (t.restE cpu way a p)) w):=by
 obtain ⟨r,hok,hA⟩:=xA h
 have hF:=nh hA cpu
 by_cases hi:t.is cpu
 ·rw [pG hi,pG hi] at hF
  by_cases hw:way<0 \/ 8 <= way
  ·rw [show t.rest cpu way a p=t from nG (λx=>x.2 hw),show t.restE cpu way a p=3 by unfold ju.restE;rw [nG (λx=>x hi),pG hw]]
   have hB:=zh (λk=>(hA.keep (u':=w.drewN k) (mR.drewN k)).mt hok)
   clear h hA
   have h2:way<0 \/ (¬ way<0 /\ 8 <= way):=by omega
   clear hw
   rcases h2 with h2|⟨h1,h2⟩
   all_goals
    go_in
    go_wp2_with (go_at_call 173;refine hF.r λk=>?_)
    go_ret
    exact ⟨rfl,hB.out _⟩
  ·rw [show t.rest cpu way a p=_ from pG ⟨hi,hw⟩,show t.restE cpu way a p=gR (t.at cpu) a p by unfold ju.restE;rw [nG (λx=>x hi),nG hw]]
   obtain ⟨h1,h2⟩:=hi
   obtain ⟨c,rfl⟩:=iN h1
   obtain ⟨v,rfl⟩:=iN (show 0 <= way by omega)
   simp only [ju.at,Int.toNat_natCast] at *
   have hc:c<t.n:=by omega
   have hv:v<8:=by omega
   have hvI:(v:Int)<8:=by omega
   have hp:=λk=>wg (hA.keep (u':=w.drewN k) (mR.drewN k)) hok hc (j:=1+v) oM (c * 10+1+v) oM a p
   have hok2:=zp hok c (zu (hok.2.2 c) (1+v) oM a p)
   clear h hA hw
   go_in
   go_wp2_with (first
    | (go_at_call 173;refine hF.r λk=>?_)
    | (go_at_call 277;refine (hp _).s λw2 hB=>?_))
   go_ret
   exact ⟨rfl,hB.mt hok2⟩
 ·rw [show t.rest cpu way a p=t from nG (λx=>hi x.1),show t.restE cpu way a p=3 from pG hi]
  rw [nG hi,nG hi] at hF
  clear h hi
  go_in
  go_wp2_with (go_at_call 173;refine hF.r λk=>?_)
  go_ret
  exact ⟨rfl,(hA.keep (mR.drewN k)).mt hok⟩
end
theorem Kt:(tp.info? 270).map (λi=>(i.zero.map Value.cells,i.size))=sS (sS (xE λ_=>0).toArray,10):=by kernel_rfl
theorem Jo:((tp.info? 270).map (λi=>decide (i.bytes <= 1000)))=sS tQ:=by kernel_rfl
theorem Gz (n:Nat) (h2:n <= 64) (w:wW):(Instr.makeSlice 214 (vi iQ n) (vi iQ n)).run tp w=.ok (.slice (sS ⟨w.heap.size,0,nN⟩) n n) (w.alloc (.cells (cC [] n (λ_=>xE λ_=>0) []) 270 (0,0))):=by
 obtain ⟨i,hi,hzz⟩:=Option.map_eq_some_iff.1 Kt
 obtain ⟨i2,hi2,hb⟩:=Option.map_eq_some_iff.1 Jo
 have:i2=i:=by rw [hi] at hi2;exact (Option.some.inj hi2).symm
 subst this
 simp only [Prod.mk.injEq] at hzz
 obtain ⟨hz,hs⟩:=hzz
 obtain ⟨z,hz1,hz2⟩:=Option.map_eq_some_iff.1 hz
 have hb2:=of_decide_eq_true hb
 have:=Go.run_make (P:=tp) w 214 270 i2 z Tryz.underlying214 hi hz1 .i64 .i64 n n oM oM (by have:(i2.bytes:Int) * n <= 1000 * 64:=Int.mul_le_mul oM oM oM oM;omega) oM
 rw [this,Int.toNat_natCast,hs,hz2]
 rw [ni (xE λ_=>0) 10 (xD _) dE n]
theorem Kj {n:Nat} (h1:1 <= n) (h2:n <= 64):(KY n).ok:=⟨h1,h2,λi=>⟨λj=>uf,Int.le_refl _,by show (0:Int) <= _;decide⟩⟩
theorem En (n:Nat) (h1:1 <= n) (h2:n <= 64) (w:wW):Calls tp 63 #[vi iQ n] w (cN (λd:Nat=>.tuple #[vp (sS ⟨d,0,nN⟩),vi iQ 0]) (λd=>Im d (KY n)) [] w):=by
 have hmk:=λw=>Gz n h2 w
 have hB:On [] w (Em (w.heap.size+1) w.heap.size (KY n)) ((w.alloc (.cells (cC [] n (λ_=>xE λ_=>0) []) 270 (0,0))).alloc (.cells #[.slice (sS ⟨w.heap.size,0,nN⟩) n n] 216 (0,0))):=by
  have x1:=(On.start w).alloc (.cells (cC [] n (λ_=>xE λ_=>0) []) 270 (0,0))
  have x2:=(x1.alloc (.cells #[.slice (sS ⟨w.heap.size,0,nN⟩) n n] 216 (0,0))).front
  simpa [Em,KY] using x2
 have hlen:(w.alloc (.cells (cC [] n (λ_=>xE λ_=>0) []) 270 (0,0))).heap.size=w.heap.size+1:=cm _ _
 have HB:=zh hB
 clear hB
 go_in
 go_wp2
 go_ret2
 refine ⟨w.heap.size+1,by simp,?_⟩
 exact On.mt HB.out (Kj h1 h2)
def iV (f:Nat -> Int):Nat -> Int
 | 0=>0
 | j+1=>iV f j+f j
theorem xp {f:Nat -> Int} (h:∀ i,0 <= f i /\ f i <= 1099511627776):∀ j:Nat,0 <= iV f j /\ iV f j <= 1099511627776 * j
 | 0=>by simp [iV]
 | j+1=>by
  have:=xp h j
  have:=h j
  unfold iV
  omega
theorem BT (g:dq) {i:Nat} (hi:i<4) (w:wW):(Instr.index 220 (.agg (ea 4 (iJ g)).toArray) (vi iQ i)).run tp w=.ok (.agg #[vi iQ (g.busy i),vi iQ (g.all i)]) w:=by
 have h1:((i:Nat):Int)<4:=by omega
 have hu:=Tryz.underlying220
 have e:=oQ (f:=iJ g) (k:=2) (λ_=>rfl) hi
 simp [Instr.index,asIntOf,Sem.run_bind,run_underlying hu,part,Tryz.isAgg219,Tryz.sizeOf219,h1,Result.andThen]
 rw [pG hi]
 have e2:=e
 simp at e2
 rw [e2]
 rfl
section
variable {F:List Nat} {w u:wW} {b:Nat} {g:dq}
theorem wO (h:On F w [ak.blk b (fD g)] u):u.rangeAt b 2 (ea 4 (iJ g)) /\ (tp.info? 220).map (·.size)=sS (ea 4 (iJ g)).length:=by
 constructor
 ·intro j v hj
  have hl:=bm (k:=2) (f:=iJ g) (λ_=>rfl) 4
  have hlt:j<8:=by have:=(List.getElem?_eq_some_iff.1 hj).1;omega
  have h1:=h.govC (i:=j / 2) oM (j % 2) oM (o:=2+j) oM
  have h2:=jJ (k:=2) (f:=iJ g) (λ_=>rfl) (i:=j / 2) (j:=j % 2) oM 4 oM
  have e:j / 2 * 2+j % 2=j:=by omega
  rw [e,hj] at h2
  rw [h1,<- h2]
 ·have:(tp.info? 220).map (·.size)=sS 8:=by kernel_rfl
  rw [this,bm (k:=2) (λ_=>rfl)]
theorem ER (h:(fC b g).holds F w):Calls tp 321 #[vp (sS ⟨b,0,nN⟩)] w (λe w'=>e=.returned (vi iQ g.busyV) /\ af [] w w'):=by
 obtain ⟨hok,hA⟩:=oR h
 obtain ⟨hrg,hinf⟩:=wO hA
 have hrg:=λ(w':wW) (m:af [] w w')=>(wO (hA.keep m)).1
 have hix:=λ(i:Nat) (hi:i<4) (w:wW)=>BT g hi w
 have hbd:=λj=>xp (f:=g.busy) (λi=>⟨(hok.2.1 i).1,by have:=hok.2.1 i;omega⟩) j
 have had:=λj=>xp (f:=g.all) (λi=>⟨by have:=hok.2.1 i;omega,by have:=hok.2.1 i;omega⟩) j
 have hpc:=λw=>zk (iV g.busy 4) (iV g.all 4) (by have:=hbd 4;omega) ⟨by have:=had 4;omega,by have:=had 4;omega⟩ w
 have hV:rf (iV g.busy 4) (iV g.all 4)=g.busyV:=by
  unfold dq.busyV
  simp [iV]
 rw [hV] at hpc
 generalize g.busyV=V at *
 generalize hAA:ea 4 (iJ g)=A at *
 have hb1:=λi=>hok.2.1 i
 clear hA h hok hAA hV
 go_in
 go_wp2_with (refine wpList_load_mid rfl 220 _ rfl b 2 rfl A _ (hrg _ (by repeat (first|with_reducible exact mR|with_reducible apply af.alloc|with_reducible apply af.drewN))) Tryz.underlying220 rfl hinf ?_)
 clear hrg hinf
 go_loopg [12] 4 (λgg i wr=>∃ j:Nat,i=vi iQ j /\ j+gg=4 /\ wr.heap[w.heap.size]?=sS (.cells #[vi iQ (iV g.busy j),vi iQ (iV g.all j)] 219 (0,0)) /\ af [] w wr)
 case atStart=>exact ⟨0,rfl,by omega,ai _ _,mR.alloc _⟩
 case round=>
  obtain ⟨j,rfl,hj,hS,m⟩:=hrel
  have c0:wr.cell? ⟨w.heap.size,0,nN⟩=sS (vi iQ (iV g.busy j)):=ab hS 0
  have c1:wr.cell? ⟨w.heap.size,1,nN⟩=sS (vi iQ (iV g.all j)):=ab hS 1
  have f0:wr.frozen? ⟨w.heap.size,0,nN⟩=fF:=ax hS 0
  have f1:wr.frozen? ⟨w.heap.size,1,nN⟩=fF:=ax hS 1
  have s0:=bY hS
  by_cases hlt:j<4
  ·have hltI:(j:Int)<4:=by omega
   have hx:=λw=>hix j hlt w
   have e1:iV g.busy (j+1)=iV g.busy j+g.busy j:=rfl
   have e2:iV g.all (j+1)=iV g.all j+g.all j:=rfl
   obtain ⟨b1,b2⟩:=hbd j
   obtain ⟨a1,a2⟩:=had j
   obtain ⟨x1,x2,x3⟩:=hb1 j
   have HE:=zh (And.intro e1 e2)
   have HS:=zh hS
   clear hix hbd had hb1 e1 e2 hS hpc
   generalize iV g.busy j=sb at *
   generalize iV g.all j=sa at *
   generalize g.busy j=y at *
   generalize g.all j=z at *
   have hne:¬ (wr.heap.size=w.heap.size):=by omega
   have hne2:¬ (w.heap.size=wr.heap.size):=by omega
   go_wp2
   go_roundg (gk - 1)
   case measure=>omega
   case rel=>
    refine ⟨j+1,by go_num,by omega,?_,?_⟩
    ·rw [HE.out.1,HE.out.2]
     have:=cS (o:=Obj.cells #[vi iQ y,vi iQ z] 219 (0,0)) (ba (ba HS.out 0 (vi iQ (sb+y))) 1 (vi iQ (sa+z)))
     simpa using this
    ·exact ((m.setCell (.inr (Nat.le_refl _)) _).setCell (.inr (Nat.le_refl _)) _).alloc _
  ·obtain rfl:j=4:=by omega
   have HS:=zh hS
   clear hix hbd had hb1 hS
   generalize iV g.busy 4=sb at *
   generalize iV g.all 4=sa at *
   go_wp2_with (go_at_call 350;refine (hpc _).r λk=>?_)
   go_ret
   exact ⟨rfl,m.drewN _⟩
theorem EP (h:(fC b g).holds F w):Calls tp 276 #[vp (sS ⟨b,0,nN⟩)] w (λe w'=>e=.returned (vi iQ g.freqV) /\ af [] w w'):=by
 have hL:=Ah h
 have hB:=λw' (m:af [] w w')=>ER ((fC b g).keep h m sM)
 obtain ⟨⟨h1,h2,h3⟩,_⟩:=h.1
 have hS:=λw=>DX g.low g.high g.busyV oM oM oM oM w
 unfold dq.freqV
 generalize jZ g.low g.high g.busyV=V at *
 clear h h1 h2 h3
 go_in
 go_wp2_with (first
  | (go_at_call 319;refine hL.r λk=>?_)
  | (go_at_call 321;refine (hB _ (by repeat (first|with_reducible exact mR|with_reducible apply af.alloc|with_reducible apply af.drewN))).s λw2 m2=>?_)
  | (go_at_call 320;refine (hS _).r λk3=>?_))
 go_ret
 exact ⟨rfl,(m2.undrewN).drewN _⟩
theorem On.govFeed (h:On F w [ak.blk b (fD g)] u) {i:Nat} (hi:i<4) (x y:Int):On F w [ak.blk b (fD { g with busy:=aq g.busy i x,all:=aq g.all i y })] ((u.setCell ⟨b,2+i * 2,nN⟩ (vi iQ x)).setCell ⟨b,2+i * 2+1,nN⟩ (vi iQ y)):=by
 have q:=h.set 0 rfl (2+i * 2) (vi iQ x)
 rw [gM (k:=2) (f:=iJ g) (pre:=[vi iQ g.low,vi iQ g.high]) (λ_=>rfl) hi (j:=0) dE _ (o:=2+i * 2) sM] at q
 have hl2:∀ j,(aq (iJ g) i ((iJ g i).set 0 (vi iQ x)) j).length=2:=by
  intro j;unfold aq;split<;>rfl
 have q2:=q.set 0 rfl (2+i * 2+1) (vi iQ y)
 rw [gM (k:=2) (pre:=[vi iQ g.low,vi iQ g.high]) hl2 hi (j:=1) dE _ (o:=2+i * 2+1) (by simp;omega)] at q2
 have e:aq (aq (iJ g) i ((iJ g i).set 0 (vi iQ x))) i ((aq (iJ g) i ((iJ g i).set 0 (vi iQ x)) i).set 1 (vi iQ y))=iJ { g with busy:=aq g.busy i x,all:=aq g.all i y }:=by
  funext j
  by_cases e:j=i
  ·subst e;simp [ah,iJ]
  ·simp [ao _ _ e,iJ]
 rw [e] at q2
 exact q2
theorem On.govAt' (h:On F w [ak.blk b (fD g)] u) (n:Nat):On F w [ak.blk b (fD { g with at':=n })] (u.setCell ⟨b,10,nN⟩ (vi iQ (n:Nat))):=by
 have q:=h.set 0 rfl 10 (vi iQ (n:Nat))
 rw [pd (k:=2) (n:=4) (f:=iJ g) (pre:=[vi iQ g.low,vi iQ g.high]) (λ_=>rfl) (j:=0) _ (o:=10) sM] at q
 exact q
theorem JA (hok:g.ok) (x y:Int):(g.feed x y).ok:=by
 unfold dq.feed
 split
 ·rename_i e
  unfold dq.feedE at e
  split at e
  ·omega
  ·rename_i h1
   refine ⟨hok.1,λi=>?_,Nat.mod_lt _ dE⟩
   show 0 <= aq g.busy g.at' x i /\ aq g.busy g.at' x i <= aq g.all g.at' y i /\ aq g.all g.at' y i <= _
   by_cases e2:i=g.at'
   ·subst e2;rw [ah,ah];omega
   ·rw [ao _ _ e2,ao _ _ e2];exact hok.2.1 i
 ·exact hok
theorem wP (h:(fC b g).holds F w) (x y:Int):Calls tp 205 #[vp (sS ⟨b,0,nN⟩),vi iQ x,vi iQ y] w (al (fC b (g.feed x y)) F (.tuple #[vi iQ (g.feedV x y),vi iQ (g.feedE x y)]) w):=by
 obtain ⟨hok,hA⟩:=oR h
 have hok2:=JA hok x y
 by_cases h1:x<0 \/ y<x \/ 1099511627776<y
 ·have e:g.feedE x y=2:=pG h1
  rw [show g.feed x y=g by unfold dq.feed;rw [nG (by rw [e];decide)],show g.feedV x y=0 by unfold dq.feedV;rw [nG (by rw [e];decide)],e]
  have h2:x<0 \/ (¬ x<0 /\ y<x) \/ (¬ x<0 /\ ¬ y<x /\ 1099511627776<y):=by omega
  have H:=zh (hA.gov hok)
  clear h hA h1 e hok2
  rcases h2 with h2|⟨h2,h3⟩|⟨h2,h3,h4⟩
  all_goals
   go_in
   go_wp2
   go_ret2
   exact ⟨rfl,H.out⟩
 ·have e:g.feedE x y=0:=nG h1
  have eF:g.feed x y={ g with busy:=aq g.busy g.at' x,all:=aq g.all g.at' y,at':=(g.at'+1) % 4 }:=pG e
  rw [show g.feedV x y=(g.feed x y).freqV from pG e,e]
  have c10:=hA.govAt
  have hat:=hok.2.2
  have hfr:=λw' (hg:dt (fC b (g.feed x y)) F w w')=>EP hg.choose_spec.1
  have f10:w.frozen? ⟨b,10,nN⟩=fF:=hA.free 0 rfl 10
  have d0:=hA.govC hat 0 dE (o:=2+g.at' * 2) rfl
  have d1:=hA.govC hat 1 dE (o:=2+g.at' * 2+1) rfl
  have q0:w.frozen? ⟨b,2+g.at' * 2,nN⟩=fF:=hA.free 0 rfl _
  have q1:w.frozen? ⟨b,2+g.at' * 2+1,nN⟩=fF:=hA.free 0 rfl _
  simp only [iJ,List.getElem?_cons_zero,List.getElem?_cons_succ] at d0 d1
  have h2:¬ x<0:=by omega
  have h3:¬ y<x:=by omega
  have h4:¬ 1099511627776<y:=by omega
  have HA:=zh hA
  have HEF:=zh eF
  generalize (g.feed x y).freqV=V at *
  clear h hA h1 e eF
  go_in
  go_wp2
  go_region
  have hB:On F w [ak.blk b (fD { g with busy:=aq g.busy g.at' x,all:=aq g.all g.at' y })] (((w.setCell ⟨b,2+g.at' * 2,nN⟩ (vi iQ x)).setCell ⟨b,2+g.at' * 2+1,nN⟩ (vi iQ y)).drew):=(HA.out.govFeed hat x y).keep mR.drew
  have k10:=hB.govAt
  have g10:(((w.setCell ⟨b,2+g.at' * 2,nN⟩ (vi iQ x)).setCell ⟨b,2+g.at' * 2+1,nN⟩ (vi iQ y)).drew).frozen? ⟨b,10,nN⟩=fF:=hB.free 0 rfl 10
  have hC:=hB.govAt' ((g.at'+1) % 4)
  have hfr2:=hfr _ (by rw [HEF.out];rw [HEF.out] at hok2;exact hC.gov hok2)
  have hF2:=hC.gov (by rw [HEF.out] at hok2;exact hok2)
  have z10:=hB.size 0 rfl
  clear hB hC hfr c10 f10 d0 d1 q0 q1
  generalize ((w.setCell ⟨b,2+g.at' * 2,nN⟩ (vi iQ x)).setCell ⟨b,2+g.at' * 2+1,nN⟩ (vi iQ y)).drew=W1 at *
  have eA:(((g.at'+1) % 4:Nat):Int)=((g.at':Nat)+1:Int) % 4:=by omega
  rw [eA] at hfr2 hF2
  clear eA
  have HF2:=zh hF2
  clear hF2
  dsimp only at *
  generalize g.at'=at0 at *
  go_wp2_with (go_at_call 276;refine hfr2.s λw2 m2=>?_)
  go_ret2
  rw [HEF.out]
  obtain ⟨F',q1,q2,q3⟩:=HF2.out
  exact ⟨rfl,F',(fC b _).keep q1 m2 sM,q2.trans m2 sM,q3⟩
end
theorem xO (now due:Int) (hn:bz now) (hd:bz due) (known:Bool) (w:wW):Calls tp 192 #[vi iQ now,vi iQ due,vb known] w (au (vi iQ (jC now due known)) w):=by
 obtain ⟨hn1,hn2⟩:=hn
 obtain ⟨hd1,hd2⟩:=hd
 unfold jC
 cases known
 ·rw [pG rfl]
  go_in
  go_wp2
  go_ret
  exact au.of (rfl) dz
 ·rw [nG dE]
  by_cases h1:now<0
  ·rw [pG (.inl h1)]
   go_in
   go_wp2
   go_ret
   exact au.of (rfl) dz
  by_cases h2:due <= now
  ·rw [pG (.inr h2)]
   go_in
   go_wp2
   go_ret
   exact au.of (rfl) dz
  rw [nG oM]
  have e:min (due - now) 1073741824=if due - now <= 1073741824 then due - now else 1073741824:=by
   split<;>omega
  rw [e]
  by_cases h3:due - now <= 1073741824
  ·rw [pG h3]
   go_in
   go_wp2
   go_ret
   refine ⟨?_,by repeat (first|exact aA.refl _|apply aA.drewN|apply aA.drew)⟩
   first|rfl|simp [h3]|(simp;omega)
  ·rw [nG h3]
   go_in
   go_wp2
   go_ret
   refine ⟨?_,by repeat (first|exact aA.refl _|apply aA.drewN|apply aA.drew)⟩
   first|rfl|simp [h3]|(simp;omega)
/-- The table lies at a. -/
def qq (w:wW) (g:Nat):Prop:=∀ i,i<4 -> w.cell? ⟨g,i * 3,nN⟩=sS (vi iQ (jw i).1) /\ w.cell? ⟨g,i * 3+1,nN⟩=sS (vi iQ (jw i).2.1) /\ w.cell? ⟨g,i * 3+2,nN⟩=sS (vi iQ (jw i).2.2)
theorem ug (w:wW):Calls tp 195 #[] w (λe w'=>∃ g,e=.returned (.slice (sS ⟨g,0,nN⟩) 4 4) /\ af [] w w' /\ w.heap.size <= g /\ qq w' g):=by
 go_in
 go_wp2
 go_ret
 refine ⟨w.heap.size,rfl,?_,Nat.le_refl _,?_⟩
 ·repeat (first|with_reducible exact mR|with_reducible apply af.alloc|with_reducible apply af.drewN|with_reducible apply af.drew|with_reducible refine af.setCell ?_ (by first|(simp;done)|(simp;omega)) _)
 ·intro i hi
  have h:i=0 \/ i=1 \/ i=2 \/ i=3:=by omega
  rcases h with rfl|rfl|rfl|rfl<;>refine ⟨?_,?_,?_⟩<;>simp [jw,Is]
end Go.Proofs.YtmiapbgkphpgoaaGreatDoor