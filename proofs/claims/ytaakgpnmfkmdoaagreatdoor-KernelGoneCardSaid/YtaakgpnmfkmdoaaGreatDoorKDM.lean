/- Walks and plain laws of the kernel. No condition. -/
import Derived.Test.YtaakgpnmfkmdoaaGreatDoorKAM
import Derived.Test.YtaakgpnmfkmdoaaGreatDoorBaseM
import Derived.Test.YtaakgpnmfkmdoaaGreatDoorKBM
import Derived.Lib.TrailingZeros
import Derived.Shelf.Lays
import Derived.Test.YtaakgpnmfkmdoaaGreatDoorProg
import Derived.Shelf.Bits.Mul64
import Derived.Test.YtaakgpnmfkmdoaaGreatDoorTimerM
import Derived.OwnWalk
import Derived.Test.YtaakgpnmfkmdoaaGreatDoorKCM
import Derived.Deep.RegionHeld3
namespace Go.Proofs.YtaakgpnmfkmdoaaGreatDoor
set_option linter.unusedVariables false
set_option linter.unusedSimpArgs false
set_option maxRecDepth 100000
set_option maxHeartbeats 20000000
open Go.RowKit
open Go.Proofs.Tryz renaming prog → tp
open List renaming setIfInBounds_toArray → sA, set_cons_zero → sB, set_cons_succ → sC
open Go renaming World → wW
open Go.Value renaming pointer → vp, bool → vb, int → vi
open Go.IntKind renaming i64 → iQ, u64 → uQ
open Option renaming none → nN, some → sS
open Bool renaming true → tQ, false → fF
open Int renaming eq_ofNat_of_zero_le → iN
abbrev PQ:=List (Nat × Int)
/-- The ids of one priority, in order. -/
def cX (L:PQ) (p:Nat):List Int:=(L.filter λx=>decide (x.1=p)).map (·.2)
def lW:List Nat:=[7,6,5,4,3,2,1,0]
def lU (L:PQ):List Int:=lW.flatMap (cX L)
def aL (L:PQ) (id:Int):Option Nat:=(L.find? λx=>decide (x.2=id)).map (·.1)
def er (L:PQ) (id:Int):PQ:=L.filter λx=>!decide (x.2=id)
def fP (most:Nat) (L:PQ) (p id:Int):Int:=if p<0 \/ 8 <= p then 2 else if (aL L id).isSome then 6 else if most <= L.length then 5 else 0
def nO (most:Nat) (L:PQ) (p id:Int):PQ:=if fP most L p id=0 then L++[(p.toNat,id)] else L
def rR (L:PQ) (id:Int):Int:=if (aL L id).isSome then 0 else 4
def jz (L:PQ) (id:Int):PQ:=match aL L id with|some p=>er L id++[(p,id)]|none=>L
def gd (L:PQ):Int:=ax (lU L) 0
def kV (L:PQ):Int:=if L=[] then 12 else 0
def eH (L:PQ):PQ:=if L=[] then L else jz L (gd L)
/-- No id twice, all priorities below 8. -/
structure PQ.ok (L:PQ):Prop where
 nodup:(L.map (·.2)).Nodup
 lt:∀ x,x∈L -> x.1<8
theorem Dv (L M:PQ) (p:Nat):cX (L++M) p=cX L p++cX M p:=by simp [cX]
theorem nt {L:PQ} {p:Nat} {id:Int}:id∈cX L p↔(p,id)∈L:=by
 unfold cX
 simp only [List.mem_map,List.mem_filter,decide_eq_true_eq]
 constructor
 ·rintro ⟨x,⟨h1,h2⟩,rfl⟩;rw [<- h2];exact h1
 ·intro h;exact ⟨_,⟨h,rfl⟩,rfl⟩
theorem cy {L:PQ} (h:L.ok) {id:Int} {p:Nat}:aL L id=sS p↔(p,id)∈L:=by
 unfold aL
 constructor
 ·intro hh
  obtain ⟨x,h1,rfl⟩:=Option.map_eq_some_iff.1 hh
  have h2:=List.find?_some h1
  have h3:=List.mem_of_find?_eq_some h1
  simp at h2
  rw [<- h2];exact h3
 ·intro hm
  cases hf:L.find? λx=>decide (x.2=id) with
  | none=>
   have:=List.find?_eq_none.1 hf _ hm
   simp at this
  | some x=>
   have h2:=List.find?_some hf
   have h3:=List.mem_of_find?_eq_some hf
   simp at h2
   obtain ⟨a,b⟩:=x
   simp only at h2
   subst h2
   have:a=p:=by
    have hn:=h.nodup
    rw [List.Nodup,List.pairwise_map] at hn
    apply Classical.byContradiction
    intro hne
    rcases List.mem_iff_getElem.1 h3 with ⟨i,hi,ei⟩
    rcases List.mem_iff_getElem.1 hm with ⟨j,hj,ej⟩
    have hij:i≠j:=by rintro rfl;rw [ei] at ej;cases ej;exact hne rfl
    have hp:=List.pairwise_iff_getElem.1 hn
    rcases Nat.lt_or_gt_of_ne hij with hlt|hlt
    ·have:=hp i j hi hj hlt;rw [ei,ej] at this;exact this rfl
    ·have:=hp j i hj hi hlt;rw [ei,ej] at this;exact this rfl
   rw [this];rfl
theorem ll {L:PQ} {id:Int}:aL L id=nN↔id∉L.map (·.2):=by
 unfold aL
 rw [Option.map_eq_none_iff,List.find?_eq_none]
 constructor
 ·intro h hm
  obtain ⟨x,hx,rfl⟩:=List.mem_map.1 hm
  have:=h x hx
  simp at this
 ·intro h x hx e
  simp at e
  exact h (List.mem_map.2 ⟨x,hx,e⟩)
theorem IY (L:PQ) (id:Int) (p:Nat):cX (er L id) p=(cX L p).filter λx=>!decide (x=id):=by
 unfold cX er
 rw [List.filter_map,List.filter_filter,List.filter_filter]
 congr 1
 refine List.filter_congr λx _=>?_
 simp [Bool.and_comm]
theorem xX {L:PQ} (h:L.ok) (p:Nat):(cX L p).Nodup:=by
 have:=h.nodup
 unfold cX
 exact (List.filter_sublist.map _).nodup this
theorem tD {L:PQ} (h:L.ok) (id:Int):(er L id:PQ).ok:=
 ⟨(List.filter_sublist.map _).nodup h.nodup,λx hx=>h.lt x (List.mem_filter.1 hx).1⟩
theorem tA {L:PQ} (h:L.ok) {p:Nat} {id:Int} (hp:p<8) (hn:aL L id=nN):PQ.ok (L++[(p,id)]):=by
 refine ⟨?_,λx hx=>?_⟩
 ·rw [List.map_append]
  exact List.nodup_append.2 ⟨h.nodup,by simp,by rintro x hx y hy rfl;simp at hy;exact ll.1 hn (hy ▸ hx)⟩
 ·rcases List.mem_append.1 hx with hx|hx
  ·exact h.lt x hx
  ·rw [List.mem_singleton] at hx;subst hx;exact hp
theorem xZ:∀ (K:PQ),(∀ x,x∈K -> x.1<8) -> (lU K).length=K.length:=by
  intro K
  unfold lU
  induction K with
  | nil=>intro _;rfl
  | cons x K ih=>
   intro hK
   have h1:=ih (λy hy=>hK y (List.mem_cons_of_mem _ hy))
   have h2:=hK x List.mem_cons_self
   have hc:∀ p,(cX (x :: K) p).length=(cX K p).length+if x.1=p then 1 else 0:=by
    intro p
    unfold cX
    by_cases e:x.1=p
    ·rw [List.filter_cons_of_pos (by simpa using e),pG e];simp
    ·rw [List.filter_cons_of_neg (by simpa using e),nG e];simp
   simp only [lW,List.flatMap_cons,List.flatMap_nil,List.length_append,List.length_nil,hc] at h1 ⊢
   rw [List.length_cons,<- h1]
   have h3:x.1=0 \/ x.1=1 \/ x.1=2 \/ x.1=3 \/ x.1=4 \/ x.1=5 \/ x.1=6 \/ x.1=7:=by omega
   rcases h3 with e|e|e|e|e|e|e|e<;>rw [e]<;>simp<;>omega
theorem py (i:Int):ic [] i=none:=rfl
theorem dA (p:Int × Value) (m:List (Int × Value)) (i:Int):ic (p :: m) i=if i=p.1 then sS p.2 else ic m i:=by
 unfold ic
 rw [bP]
 split
 ·rfl
 ·rw [dY];cases bP m i 0<;>rfl
theorem uJ (p:Int × Value) (m:List (Int × Value)) (i:Int):bP (p :: m) i 0=if i=p.1 then sS (0,p.2) else (bP m i 0).map λq=>(q.1+1,q.2):=by
 rw [bP]
 split
 ·rfl
 ·rw [dY]
theorem xK (p:Int × Value) (m:List (Int × Value)) (i:Int) (v:Value):px (p :: m) i v=if i=p.1 then (i,v) :: m else p :: px m i v:=by
 unfold px
 rw [uJ]
 by_cases e:i=p.1
 ·rw [pG e,pG e];rfl
 ·rw [nG e,nG e]
  cases bP m i 0<;>simp
theorem xQ (p:Int × Value) (m:List (Int × Value)) (i:Int):qW (p :: m) i=if i=p.1 then m else p :: qW m i:=by
 unfold qW
 rw [uJ]
 by_cases e:i=p.1
 ·rw [pG e,pG e];rfl
 ·rw [nG e,nG e]
  cases bP m i 0<;>simp
theorem AY:∀ (m:List (Int × Value)) (i:Int) (v:Value) (j:Int),ic (px m i v) j=if j=i then sS v else ic m j
 | [],i,v,j=>by
  show ic [(i,v)] j=_
  rw [dA,py]
 | p :: m,i,v,j=>by
  rw [xK]
  split
  ·rename_i e
   rw [dA,dA]
   subst e
   by_cases h:j=p.1<;>simp [h]
  ·rename_i e
   rw [dA,dA,AY m i v j]
   by_cases h:j=p.1
   ·subst h
    rw [pG rfl,nG (λx=>e x.symm),pG rfl]
   ·rw [nG h,nG h]
theorem AX:∀ (m:List (Int × Value)) (i:Int) (v:Value),(px m i v).length=if (ic m i).isSome then m.length else m.length+1
 | [],i,v=>rfl
 | p :: m,i,v=>by
  rw [xK,dA]
  split
  ·simp
  ·rw [List.length_cons,AX m i v]
   split<;>simp
theorem Jm {m:List (Int × Value)} {i:Int}:(ic m i).isSome=tQ↔i∈m.map (·.1):=by
 induction m with
 | nil=>simp [py]
 | cons p m ih=>
  rw [dA,List.map_cons,List.mem_cons]
  by_cases e:i=p.1
  ·simp [e]
  ·rw [nG e,ih];simp [e]
theorem AZ:∀ (m:List (Int × Value)),(m.map (·.1)).Nodup -> ∀ (i j:Int),ic (qW m i) j=if j=i then nN else ic m j
 | [],_,i,j=>by
  show ic [] j=_
  rw [py];simp
 | p :: m,hn,i,j=>by
  rw [List.map_cons,List.nodup_cons] at hn
  rw [xQ]
  split
  ·rename_i e
   subst e
   rw [dA]
   by_cases h:j=p.1
   ·subst h
    rw [pG rfl]
    cases hm:ic m p.1 with
    | none=>rfl
    | some v=>exact absurd (Jm.1 (by rw [hm];rfl)) hn.1
   ·rw [nG h,nG h]
  ·rename_i e
   rw [dA,dA,AZ m hn.2 i j]
   by_cases h:j=p.1
   ·subst h
    rw [pG rfl,nG (λx=>e x.symm),pG rfl]
   ·rw [nG h,nG h]
theorem Bc:∀ (m:List (Int × Value)) (i:Int),(qW m i).length=if (ic m i).isSome then m.length - 1 else m.length
 | [],i=>rfl
 | p :: m,i=>by
  rw [xQ,dA]
  split
  ·simp
  ·rw [List.length_cons,Bc m i]
   split
   ·rename_i h
    have:m≠[]:=by rintro rfl;simp [py] at h
    have:=List.length_pos_iff.2 this
    simp;omega
   ·simp
theorem bV.nodup {w:wW} {b:Nat} {m:List (Int × Value)} (h:bV .i64 w b m):(m.map (·.1)).Nodup:=by
 obtain ⟨es,clk,h1,h2⟩:=h
 exact h2.nodup
/-- The map at block b has n entries; it maps i to f i. -/
def jX (w:wW) (b n:Nat) (f:Int -> Option Value):Prop:=∃ m,bV .i64 w b m /\ m.length=n /\ ∀ i,ic m i=f i
theorem jX.keep {S:List Nat} {w w':wW} {b n:Nat} {f:Int -> Option Value} (h:jX w b n f) (mm:af S w w') (hb:b∉S):jX w' b n f:=by
 obtain ⟨m,h1,h2⟩:=h
 exact ⟨m,h1.keep mm hb,h2⟩
theorem jX.lt {w:wW} {b n:Nat} {f:Int -> Option Value} (h:jX w b n f):b<w.heap.size:=by
 obtain ⟨m,h1,h2⟩:=h
 exact h1.lt
def DN (f:Int -> Option Value) (i:Int) (v:Value):Int -> Option Value:=λj=>if j=i then sS v else f j
def DP (f:Int -> Option Value) (i:Int):Int -> Option Value:=λj=>if j=i then nN else f j
def dR (b n:Nat) (f:Int -> Option Value):ao where
 holds F w:=F=[b] /\ jX w b n f
 keep h m hS:=⟨h.1,h.2.keep m (hS _ (by rw [h.1];exact List.mem_singleton_self _))⟩
 lt h b hb:=by rw [h.1,List.mem_singleton] at hb;subst hb;exact h.2.lt
section
variable {P:Program} {w u:wW} {b n:Nat} {f:Int -> Option Value} {t k e:TypeId}
theorem Hg (h:jX w b n f) (ht:P.underlying t=sS (.map k e)) (hk:P.underlying k=sS (.int .i64)) (i:Int) {z:Value} (hz:∀ w,(zeroValue e).run P w=.ok z w):
  (Instr.lookup t (.map (sS b)) (vi iQ i) fF).run P w=.ok ((f i).getD z) w:=by
 obtain ⟨m,h1,h2,h3⟩:=h
 rw [<- h3 i]
 exact lD h1 ht hk i hz
theorem lL (h:jX w b n f) (ht:P.underlying t=sS (.map k e)) (hk:P.underlying k=sS (.int .i64)) (i:Int) {z:Value} (hz:∀ w,(zeroValue e).run P w=.ok z w):
  (Instr.lookup t (.map (sS b)) (vi iQ i) tQ).run P w=.ok (.tuple #[(f i).getD z,vb (f i).isSome]) w:=by
 obtain ⟨m,h1,h2,h3⟩:=h
 rw [<- h3 i]
 exact mH h1 ht hk i hz
theorem JY (h:jX w b n f) (ht:P.underlying t=sS (.map k e)) (ty:TypeId):(Builtin.len_ #[t] ty #[.map (sS b)]).run P w=.ok (vi iQ n) w:=by
 obtain ⟨m,⟨es,clk,hb,he⟩,h2,h3⟩:=h
 have hlen:es.size=n:=by have:=congrArg List.length he.eq;simp at this;omega
 rw [<- hlen]
 simp [Builtin.len_,run_underlying ht,getObj,Sem.run,hb]
 try rfl
variable {F0:List Nat} {w0:wW} {l:List ao}
theorem On.fmPut (h:On F0 w0 l u) (q:Nat) (hq:l[q]?=sS (dR b n f)) (ht:P.underlying t=sS (.map k e)) (hk:P.underlying k=sS (.int .i64)) (i:Int) (v:Value):
  ∃ w1,(Instr.mapUpdate t (.map (sS b)) (vi iQ i) v).run P u=.ok () w1 /\ On F0 w0 (l.set q (dR b (if (f i).isSome then n else n+1) (DN f i v))) w1:=by
 obtain ⟨F1,⟨rfl,m,h1,h2,h3⟩,_,h5⟩:=h.gain (P':=dR b n f) q hq
 obtain ⟨w1,hrun,m1,x1⟩:=ji (P:=P) h1 ht hk i v
 refine ⟨w1,hrun,h5 ⟨[b],⟨rfl,_,x1,?_,λj=>?_⟩,m1,λb hb=>.inl hb⟩⟩
 ·rw [AX,h3,h2]
 ·rw [AY,h3];rfl
theorem On.fmDel (h:On F0 w0 l u) (q:Nat) (hq:l[q]?=sS (dR b n f)) (ht:P.underlying t=sS (.map k e)) (hk:P.underlying k=sS (.int .i64)) (i:Int):
  ∃ w1,(∀ ty,(Builtin.delete_ #[t,k] ty #[.map (sS b),vi iQ i]).run P u=.ok (.tuple #[]) w1) /\ On F0 w0 (l.set q (dR b (if (f i).isSome then n - 1 else n) (DP f i))) w1:=by
 obtain ⟨F1,⟨rfl,m,h1,h2,h3⟩,_,h5⟩:=h.gain (P':=dR b n f) q hq
 obtain ⟨w1,hrun,m1,x1⟩:=lE (P:=P) h1 ht hk i
 refine ⟨w1,hrun,h5 ⟨[b],⟨rfl,_,x1,?_,λj=>?_⟩,m1,λb hb=>.inl hb⟩⟩
 ·rw [Bc,h3,h2]
 ·rw [AZ _ h1.nodup,h3];rfl
theorem On.fm (h:On F0 w0 l u) (q:Nat) (hq:l[q]?=sS (dR b n f)):jX u b n f:=by
 obtain ⟨F,h1⟩:=h.get q hq
 exact h1.2
theorem On.fmNew (h:On F0 w0 l u):On F0 w0 (l++[dR u.heap.size 0 (λ_=>nN)]) (u.alloc (.map #[] 0)):=by
 have:=h.alloc (.map #[] 0)
 refine this.imp λF hF=>?_
 obtain ⟨F1,F2,rfl,h1,⟨F3,F4,e2,⟨h2,h3⟩,rfl,_⟩,h4⟩:=aZ.append.1 hF
 have hF4:F2=F3:=by simpa using e2
 subst hF4
 refine ⟨F1++F2,aZ.append.2 ⟨F1,F2,rfl,h1,⟨F2,[],by simp,⟨h2,[],⟨#[],0,h3,by simp,by simp,by simp,by simp⟩,rfl,λi=>rfl⟩,rfl,by simp⟩,h4⟩,λb hb=>hb⟩
end
/-- Numbers by numbers, pointers by numbers. -/
def eY (g:Int -> Option Int):Int -> Option Value:=λi=>(g i).map (vi iQ)
def yV (g:Int -> Option Nat):Int -> Option Value:=λi=>(g i).map λb=>vp (sS ⟨b,0,nN⟩)
def cN {α:Type} (g:Int -> Option α) (i:Int) (v:α):Int -> Option α:=λj=>if j=i then sS v else g j
def eu {α:Type} (g:Int -> Option α) (i:Int):Int -> Option α:=λj=>if j=i then nN else g j
theorem pf (g:Int -> Option Int) (i v:Int):DN (eY g) i (vi iQ v)=eY (cN g i v):=by
 funext j;unfold DN eY cN;split<;>rfl
theorem ph (g:Int -> Option Int) (i:Int):DP (eY g) i=eY (eu g i):=by
 funext j;unfold DP eY eu;split<;>rfl
theorem IN (g:Int -> Option Nat) (i:Int) (v:Nat):DN (yV g) i (vp (sS ⟨v,0,nN⟩))=yV (cN g i v):=by
 funext j;unfold DN yV cN;split<;>rfl
theorem IP (g:Int -> Option Nat) (i:Int):DP (yV g) i=yV (eu g i):=by
 funext j;unfold DP yV eu;split<;>rfl
theorem xB (g:Int -> Option Int) (i:Int):(eY g i).isSome=(g i).isSome:=by unfold eY;cases g i<;>rfl
/-- Of the first j numbers from 1 on those of which p is so. -/
def ez (p:Nat -> Bool):Nat -> List Int
 | 0=>[]
 | j+1=>if p (j+1)=tQ then ez p j++[((j:Int)+1)] else ez p j
theorem nS (p:Nat -> Bool):∀ j,(ez p j).length <= j
 | 0=>by simp [ez]
 | j+1=>by
  have:=nS p j
  unfold ez
  split
  ·rw [List.length_append];simp;omega
  ·omega
/-- The cores of a mask, rising. -/
def cd (m:Nat):List Int:=((List.range 64).filter λi=>m.testBit i).map λ(i:Nat)=>(i:Int)
theorem xN {m:Nat} {x:Int}:x∈cd m↔∃ i:Nat,x=i /\ i<64 /\ m.testBit i=tQ:=by
 unfold cd
 simp only [List.mem_map,List.mem_filter,List.mem_range]
 constructor
 ·rintro ⟨i,⟨h1,h2⟩,rfl⟩;exact ⟨i,rfl,h1,h2⟩
 ·rintro ⟨i,rfl,h1,h2⟩;exact ⟨i,⟨h1,h2⟩,rfl⟩
theorem qY (m:Nat):(cd m).length <= 64:=by
 unfold cd
 rw [List.length_map]
 have:=List.length_filter_le (λi=>m.testBit i) (List.range 64)
 simpa using this
theorem qj {p q:Nat -> Bool} {k:Nat} (hp:p k=tQ) (h0:∀ j,j<k -> p j=fF) (hq:∀ j,q j=(p j&&decide (j≠k))):∀ n,(List.range n).filter p=if k<n then k :: (List.range n).filter q else []
 | 0=>by simp
 | n+1=>by
  rw [List.range_succ,List.filter_append,List.filter_append,qj hp h0 hq n]
  by_cases h1:k<n
  ·rw [pG h1,pG oM,List.cons_append]
   congr 2
   simp only [List.filter_cons,List.filter_nil]
   rw [hq n,decide_eq_true (show n≠k by omega),Bool.and_true]
  ·rw [nG h1]
   by_cases h2:k=n
   ·subst h2
    rw [pG oM]
    have e1:(List.range k).filter q=[]:=by
     rw [List.filter_eq_nil_iff]
     intro a ha
     rw [hq a,h0 a (List.mem_range.1 ha)];simp
    have e2:q k=fF:=by rw [hq k];simp
    simp [hp,e1,e2]
   ·rw [nG oM]
    have:p n=fF:=h0 n oM
    simp [this]
/-- The zj bit of a mask is struck. -/
theorem zj {m:Nat} (h0:m≠0) (hm:m<2 ^ 64):Lib.ctz 64 m<64 /\ m.testBit (Lib.ctz 64 m)=tQ /\ (∀ j,j<Lib.ctz 64 m -> m.testBit j=fF) /\ ∀ j,(m &&& (m - 1)).testBit j=(m.testBit j&&decide (j≠Lib.ctz 64 m)):=by
 have hc:Lib.ctz 64 m=Lib.ctzFrom 64 m:=by unfold Lib.ctz;rw [nG h0]
 obtain ⟨t,ht,hk⟩:=Lib.ctzFrom_spec 64 m oM hm
 rw [hc]
 generalize Lib.ctzFrom 64 m=k at *
 have hb:∀ j,m.testBit j=(decide (k <= j)&&(2 * t+1).testBit (j - k)):=by
  intro j
  rw [ht,Nat.mul_comm,Nat.testBit_mul_two_pow]
 have hpos:0<2 ^ k:=Nat.pow_pos oM
 have hm1:m - 1=2 ^ k * (2 * t)+(2 ^ k - 1):=by
  rw [ht,Nat.mul_add,Nat.mul_one];omega
 have hb1:∀ j,(m - 1).testBit j=if j<k then tQ else (2 * t).testBit (j - k):=by
  intro j
  rw [hm1,Nat.testBit_two_pow_mul_add _ oM]
  split
  ·rename_i h;rw [Nat.testBit_two_pow_sub_one];simp [h]
  ·rfl
 refine ⟨hk,?_,?_,?_⟩
 ·rw [hb k];simp
 ·intro j hj;rw [hb j];simp;omega
 ·intro j
  rw [Nat.testBit_and,hb j,hb1 j]
  by_cases h:j<k
  ·have:¬ k <= j:=by omega
   simp [this]
  ·rw [nG h]
   by_cases e:j=k
   ·subst e;simp
   ·have h2:∃ d,j - k=d+1:=⟨j - k - 1,by omega⟩
    obtain ⟨d,hd⟩:=h2
    rw [hd]
    have a1:(2 * t+1).testBit (d+1)=t.testBit d:=by rw [Nat.testBit_succ];congr 1;omega
    have a2:(2 * t).testBit (d+1)=t.testBit d:=by rw [Nat.testBit_succ];congr 1;omega
    rw [a1,a2,decide_eq_true (show k <= j by omega),decide_eq_true e]
    simp
theorem Dy {m:Nat} (h0:m≠0) (hm:m<2 ^ 64):cd m=(Lib.ctz 64 m:Int) :: cd (m &&& (m - 1)):=by
 obtain ⟨h1,h2,h3,h4⟩:=zj h0 hm
 unfold cd
 rw [qj (p:=λi=>m.testBit i) (q:=λi=>(m &&& (m - 1)).testBit i) h2 h3 h4 64,pG h1,List.map_cons]
theorem Dx:cd 0=[]:=by
 unfold cd
 have:(List.range 64).filter (λi=>Nat.testBit 0 i)=[]:=by rw [List.filter_eq_nil_iff];intro a _;simp
 rw [this];rfl
def pE (a b:Int):Prop:=(0 <= a /\ a <= 1152921504606846976) /\ (0 <= b /\ b <= 1073741824)
instance instNum21 (a b:Int):Decidable (pE a b):=by unfold pE;infer_instance
def aT (a b:Int):Int:=if ¬ pE a b then 2 else if a <= 1152921504606846976 - b then 0 else 16
def aM (a b:Int):Int:=if aT a b=0 then a+b else 0
theorem uE (n m:Int) (w:wW):Calls tp 189 #[vi iQ n,vi iQ m] w (ay (vb (decide (0 <= n /\ n <= m))) w):=by
 by_cases h:0 <= n
 ·go_in
  go_wp2
  go_ret
  exact ay.of (by simp [h]) dz
 ·have e:decide (0 <= n /\ n <= m)=fF:=by simp;omega
  rw [e]
  have h':n<0:=by omega
  go_in
  go_wp2
  go_ret
  exact ay.of sM dz
theorem iU (a b:Int) (w:wW):Calls tp 105 #[vi iQ a,vi iQ b] w (ay (.tuple #[vi iQ (aM a b),vi iQ (aT a b)]) w):=by
 have hA:=λw=>uE a 1152921504606846976 w
 have hB:=λw=>uE b 1073741824 w
 by_cases h:pE a b
 ·obtain ⟨⟨h1,h2⟩,h3,h4⟩:=id h
  rw [decide_eq_true ⟨h1,h2⟩] at hA
  rw [decide_eq_true ⟨h3,h4⟩] at hB
  by_cases hs:a <= 1152921504606846976 - b
  ·have e1:aT a b=0:=by unfold aT;rw [nG (by simpa using h),pG hs]
   rw [show aM a b=a+b from pG e1,e1]
   have hF:=λw=>zx (a+b) w
   clear e1 h
   go_in
   go_wp2_with (first
    | (go_at_call 189;refine (hA _).mono ?_;clear hA;rintro e w' ⟨rfl,k,rfl⟩)
    | (go_at_call 189;refine (hB _).r λk=>?_)
    | (go_at_call 190;refine (hF _).r λk=>?_))
   go_ret2
   exact ay.of (rfl) dz
  ·have e1:aT a b=16:=by unfold aT;rw [nG (by simpa using h),nG hs]
   rw [show aM a b=0 from nG (by rw [e1];decide),e1]
   have hF:=λw=>DO (a+b) w
   have hs':1152921504606846976 - b<a:=by omega
   have hd:decide (a <= 1152921504606846976 - b)=fF:=decide_eq_false hs
   have hF:∀ w,Calls tp 190 #[vi iQ (a+b),vb (decide (a <= 1152921504606846976 - b))] w (ay (.tuple #[vi iQ 0,vi iQ 16]) w):=by rw [hd];exact hF
   clear e1 h hs hd hs'
   go_in
   go_wp2_with (first
    | (go_at_call 189;refine (hA _).mono ?_;clear hA;rintro e w' ⟨rfl,k,rfl⟩)
    | (go_at_call 189;refine (hB _).r λk=>?_)
    | (go_at_call 190;refine (hF _).r λk=>?_))
   go_ret2
   exact ay.of (rfl) dz
 ·have e1:aT a b=2:=pG h
  rw [show aM a b=0 from nG (by rw [e1];decide),e1]
  by_cases ha:0 <= a /\ a <= 1152921504606846976
  ·have hb:¬ (0 <= b /\ b <= 1073741824):=λhb=>h ⟨ha,hb⟩
   rw [decide_eq_true ha] at hA
   rw [decide_eq_false hb] at hB
   clear e1 h ha hb
   go_in
   go_wp2_with (first
    | (go_at_call 189;refine (hA _).mono ?_;clear hA;rintro e w' ⟨rfl,k,rfl⟩)
    | (go_at_call 189;refine (hB _).r λk=>?_))
   go_ret2
   exact ay.of (rfl) dz
  ·rw [decide_eq_false ha] at hA
   clear e1 h ha
   go_in
   go_wp2_with (go_at_call 189;refine (hA _).r λk=>?_)
   go_ret2
   exact ay.of (rfl) dz
theorem yy (lo y:Nat) (hl:lo<2 ^ 64) (hy0:0<y) (hy:y<2 ^ 64) (w:wW):Calls tp 339 #[vi uQ 0,vi uQ (lo:Nat),vi uQ (y:Nat)] w (ay (.tuple #[vi uQ (lo / y:Nat),vi uQ (lo % y:Nat)]) w):=by
 have h0:((y:Int)==0)=fF:=by simp;omega
 have h1:(y:Int)≠0:=by omega
 have h2:(0:Int)<y:=by omega
 have h3:¬ (y:Int) <= 0:=by omega
 have hq:lo / y <= lo:=Nat.div_le_self _ _
 have hr:lo % y<y:=Nat.mod_lt _ hy0
 go_in
 go_wp2
 go_quiet (fail)
 go_wp2
 go_ret2
 refine ⟨?_,by repeat (first|exact aG.refl _|apply aG.drewN|apply aG.drew)⟩
 show Ending.returned (.tuple #[vi uQ (IntKind.u64.wrap ((lo:Int) / y)),vi uQ ((lo:Int) % y)])=_
 have e1:((lo:Int) / y)=((lo / y:Nat):Int):=by simp
 rw [e1,ke _ oM]
 simp
end Go.Proofs.YtaakgpnmfkmdoaaGreatDoor
namespace Go.Proofs
open Go.Shelf
def YtaakgpnmfkmdoaaGreatDoor.mulL_ren:Go.Shelf.Ren:=⟨fun|264=>338|n=>n,fun|53=>28|46=>150|n=>n,fun|n=>n⟩
theorem YtaakgpnmfkmdoaaGreatDoor.mulL:Go.Proofs.Lays.n264 Tryz.prog YtaakgpnmfkmdoaaGreatDoor.mulL_ren:={
 mixed:=by kernel_rfl
 f264:=Tryz.func338.trans (congrArg some (by kernel_rfl))
 t46:=Tryz.underlying150
 a46:=Tryz.isAgg150
 z46:=Tryz.sizeOf150
 v46:=Tryz.zeroValue150
 t53:=Tryz.underlying28
 a53:=Tryz.isAgg28
 z53:=Tryz.sizeOf28
 v53:=Tryz.zeroValue28 }
end Go.Proofs
namespace Go.Proofs.YtaakgpnmfkmdoaaGreatDoor
set_option linter.unusedVariables false
set_option linter.unusedSimpArgs false
set_option maxRecDepth 100000
set_option maxHeartbeats 20000000
open Go.RowKit
open Go.Proofs.Tryz renaming prog → tp
open List renaming setIfInBounds_toArray → sA, set_cons_zero → sB, set_cons_succ → sC
open Go renaming World → wW
open Go.Value renaming pointer → vp, bool → vb, int → vi
open Go.IntKind renaming i64 → iQ, u64 → uQ
open Option renaming none → nN, some → sS
open Bool renaming true → tQ, false → fF
open Int renaming eq_ofNat_of_zero_le → iN
theorem Ma (x y:Nat) (h:x * y<18446744073709551616) (hx:x<18446744073709551616) (hy:y<18446744073709551616) (w:wW):
  Calls tp 338 #[vi uQ x,vi uQ y] w (ay (.tuple #[vi uQ 0,vi uQ (x * y:Nat)]) w):=by
 refine (show Calls tp 338 #[vi uQ x,vi uQ y] w _ from Any.bits_Mul64 mulL x y hx hy w).mono ?_;rintro e w' ⟨rfl,rfl⟩
 refine ay.of ?_ (aG.refl _)
 rw [Nat.div_eq_of_lt h,Nat.mod_eq_of_lt h]
 rfl
def sX (a b:Int):Int:=if a<1 \/ b<1 then 0 else if b <= a then 100 else ((a.toNat * 100 / b.toNat:Nat):Int)
theorem KS (a b:Int):0 <= sX a b /\ sX a b <= 100:=by
 unfold sX
 split
 ·omega
 ·split
  ·omega
  ·have:a.toNat * 100 / b.toNat <= 100:=Nat.div_le_of_le_mul (Nat.mul_le_mul_right 100 oM)
   generalize a.toNat * 100 / b.toNat=q at *
   omega
theorem AR (a b:Int) (ha:a<1125899906842624) (hb:bD b) (w:wW):Calls tp 340 #[vi iQ a,vi iQ b] w (ay (vi iQ (sX a b)) w):=by
 obtain ⟨hb1,hb2⟩:=hb
 by_cases h0:a<1
 ·rw [show sX a b=0 from pG (.inl h0)]
  go_in
  go_wp2
  go_ret
  exact ay.of (rfl) dz
 by_cases h1:b<1
 ·rw [show sX a b=0 from pG (.inr h1)]
  go_in
  go_wp2
  go_ret
  exact ay.of (rfl) dz
 by_cases h2:b <= a
 ·rw [show sX a b=100 from by unfold sX;rw [nG oM,pG h2]]
  go_in
  go_wp2
  go_ret
  exact ay.of (rfl) dz
 have hB:=(KS a b).2
 have e0:sX a b=((a.toNat * 100 / b.toNat:Nat):Int):=by unfold sX;rw [nG oM,nG h2]
 rw [e0] at hB ⊢
 obtain ⟨x,rfl⟩:=iN (show 0 <= a by omega)
 obtain ⟨y,rfl⟩:=iN (show 0 <= b by omega)
 simp only [Int.toNat_natCast] at hB ⊢
 have hM:=λw=>Ma x 100 oM oM oM w
 have hD:=λw=>yy (x * 100) y oM oM oM w
 clear e0
 generalize x * 100 / y=q at *
 generalize x * 100 % y=r at *
 generalize x * 100=p at *
 have hx:x<1125899906842624:=by omega
 go_in
 go_wp2_with (first
  | (go_at_call 338;refine (hM _).r λk=>?_)
  | (go_at_call 339;refine (hD _).r λk2=>?_))
 go_ret
 exact ay.of (rfl) dz
def lg (low high p:Int):Int:=if high<low \/ p<1 then low else if 100 <= p then high else low+(((high - low).toNat * p.toNat / 100:Nat):Int)
theorem Gk (low high p:Int) (h1:0 <= low) (h2:low <= 1000000) (h3:0 <= high) (h4:high <= 1000000) (w:wW):Calls tp 309 #[vi iQ low,vi iQ high,vi iQ p] w (ay (vi iQ (lg low high p)) w):=by
 by_cases a1:high<low
 ·rw [show lg low high p=low from pG (.inl a1)]
  go_in
  go_wp2
  go_ret
  exact ay.of (rfl) dz
 by_cases a2:p<1
 ·rw [show lg low high p=low from pG (.inr a2)]
  go_in
  go_wp2
  go_ret
  exact ay.of (rfl) dz
 by_cases a3:100 <= p
 ·rw [show lg low high p=high from by unfold lg;rw [nG oM,pG a3]]
  go_in
  go_wp2
  go_ret
  exact ay.of (rfl) dz
 have e0:lg low high p=low+(((high - low).toNat * p.toNat / 100:Nat):Int):=by unfold lg;rw [nG oM,nG a3]
 rw [e0]
 clear e0
 obtain ⟨x,rfl⟩:=iN h1
 obtain ⟨d,rfl⟩:∃ d:Nat,high=x+d:=⟨(high - x).toNat,by omega⟩
 obtain ⟨y,rfl⟩:=iN (show 0 <= p by omega)
 have hd:((x:Int)+d - x).toNat=d:=by omega
 rw [hd,Int.toNat_natCast]
 clear hd
 have hp1:d * y <= d * 100:=Nat.mul_le_mul_left _ oM
 have hM:=λw=>Ma d y oM oM oM w
 have hD:=λw=>yy (d * y) 100 oM oM oM w
 have hq:d * y / 100 <= 1000000:=by omega
 generalize d * y / 100=q at *
 generalize d * y % 100=r at *
 generalize d * y=z at *
 have e1:(x:Int)+d - x=d:=by omega
 go_in
 go_wp2_with (first
  | (go_at_call 338;refine (hM _).r λk=>?_)
  | (go_at_call 339;refine (hD _).r λk2=>?_))
 go_ret
 exact ay.of (rfl) dz
structure dM where
 low:Int
 high:Int
 busy:Nat -> Int
 all:Nat -> Int
 at':Nat
def oe (a b:Int):Bool:=decide (1 <= a /\ b <= 100000 /\ a <= b)
def dM.ok (g:dM):Prop:=(1 <= g.low /\ g.high <= 100000 /\ g.low <= g.high) /\ (∀ i,0 <= g.busy i /\ g.busy i <= g.all i /\ g.all i <= 1099511627776) /\ g.at'<4
def jn (g:dM) (i:Nat):List Value:=[vi iQ (g.busy i),vi iQ (g.all i)]
def fX (g:dM):Obj:=.cells (db [vi iQ g.low,vi iQ g.high] 4 (jn g) [vi iQ (g.at':Nat)]) 212 (0,0)
def fW (b:Nat) (g:dM):ao:=ao.such g.ok (ao.blk b (fX g))
def LI (low high:Int):dM:=⟨low,high,λ_=>0,λ_=>0,0⟩
def dM.setE (g:dM) (low high:Int):Int:=if oe low high then 0 else 2
def dM.set (g:dM) (low high:Int):dM:=if oe low high then { g with low:=low,high:=high } else g
section
variable {F:List Nat} {w u:wW} {b:Nat} {g:dM}
theorem qh (h:(fW b g).holds F w):g.ok /\ On F w [ao.blk b (fX g)] w:=⟨h.1,On.one h.2⟩
theorem On.gov (h:On F w [ao.blk b (fX g)] u) (hok:g.ok):dN (fW b g) F w u:=h.gain1.imp λF' h'=>⟨hok,h'⟩
theorem On.govLow (h:On F w [ao.blk b (fX g)] u):u.cell? ⟨b,0,nN⟩=sS (vi iQ g.low):=by
 rw [h.cell 0 rfl 0];exact Ca sM
theorem On.govHigh (h:On F w [ao.blk b (fX g)] u):u.cell? ⟨b,1,nN⟩=sS (vi iQ g.high):=by
 rw [h.cell 0 rfl 1];exact Ca sM
theorem On.govAt (h:On F w [ao.blk b (fX g)] u):u.cell? ⟨b,10,nN⟩=sS (vi iQ (g.at':Nat)):=by
 rw [h.cell 0 rfl 10];exact nA (k:=2) (f:=jn g) (λ_=>rfl) (j:=0) rfl
theorem On.govC (h:On F w [ao.blk b (fX g)] u) {i:Nat} (hi:i<4) (j:Nat) (hj:j<2) {o:Nat} (ho:o=2+(i * 2+j)):u.cell? ⟨b,o,nN⟩=(jn g i)[j]?:=by
 rw [h.cell 0 rfl o];exact ij (k:=2) (f:=jn g) (λ_=>rfl) hi hj ho
theorem vN (low high:Int) (w:wW):Calls tp 96 #[vi iQ low,vi iQ high] w (ay (vb (oe low high)) w):=by
 unfold oe
 by_cases h1:1 <= low
 ·by_cases h2:high <= 100000
  ·go_in
   go_wp2
   go_ret
   exact ay.of (by simp [h1,h2]) dz
  ·have e:decide (1 <= low /\ high <= 100000 /\ low <= high)=fF:=by simp;omega
   rw [e]
   have h2':100000<high:=by omega
   go_in
   go_wp2
   go_ret
   exact ay.of sM dz
 ·have e:decide (1 <= low /\ high <= 100000 /\ low <= high)=fF:=by simp;omega
  rw [e]
  have h1':low<1:=by omega
  go_in
  go_wp2
  go_ret
  exact ay.of sM dz
theorem BS (h:(fW b g).holds F w):Calls tp 308 #[vp (sS ⟨b,0,nN⟩)] w (ay (.tuple #[vi iQ g.low,vi iQ g.high]) w):=by
 obtain ⟨hok,hA⟩:=qh h
 have c0:=hA.govLow
 have c1:=hA.govHigh
 clear hA h hok
 generalize g.low=x at *
 generalize g.high=y at *
 go_in
 go_wp2
 go_quiet (fail)
 go_wp2
 go_ret2
 exact ay.of (rfl) dz
theorem JW (h:(fW b g).holds F w) (low high:Int):Calls tp 234 #[vp (sS ⟨b,0,nN⟩),vi iQ low,vi iQ high] w (aq (fW b (g.set low high)) F (vi iQ (g.setE low high)) w):=by
 obtain ⟨hok,hA⟩:=qh h
 have hR:=λw=>vN low high w
 have c0:=hA.govLow
 have c1:=hA.govHigh
 have f0:w.frozen? ⟨b,0,nN⟩=fF:=hA.free 0 rfl 0
 have f1:w.frozen? ⟨b,1,nN⟩=fF:=hA.free 0 rfl 1
 have HA:=zh hA
 unfold dM.set dM.setE
 cases hr:oe low high
 ·rw [hr] at hR
  simp only [Bool.false_eq_true,if_false]
  clear hA h hr
  go_in
  go_wp2_with (go_at_call 96;refine (hR _).r λk=>?_)
  go_ret
  exact ⟨rfl,(HA.out.keep (mR.drewN _)).gov hok⟩
 ·have hr2:1 <= low /\ high <= 100000 /\ low <= high:=of_decide_eq_true hr
  rw [hr] at hR
  simp only [if_true]
  clear hA h hr
  replace hr2:=zh hr2
  go_in
  go_wp2_with (go_at_call 96;refine (hR _).r λk=>?_)
  go_ret
  refine ⟨rfl,On.gov ?_ ⟨hr2.out,hok.2⟩⟩
  have x:=((HA.out.keep (u':=w.drewN k) (mR.drewN _)).set 0 rfl 0 (vi iQ low))
  rw [sQ sM] at x
  have y:=x.set 0 rfl 1 (vi iQ high)
  rw [sQ sM] at y
  exact y
theorem JX (low high:Int) (hr:oe low high=tQ) (w:wW):Calls tp 68 #[vi iQ low,vi iQ high] w (dd (λd:Nat=>.tuple #[vp (sS ⟨d,0,nN⟩),vi iQ 0]) (λd=>fW d (LI low high)) [] w):=by
 have hR:=λw=>vN low high w
 rw [hr] at hR
 have hr2:1 <= low /\ high <= 100000 /\ low <= high:=of_decide_eq_true hr
 replace hr2:=zh hr2
 clear hr
 go_in
 go_wp2_with (go_at_call 96;refine (hR _).r λk=>?_)
 go_ret2
 refine ⟨w.heap.size,by simp,?_⟩
 exact On.gov (((On.start w).keep ((af.refl [] w).drewN k)).alloc (fX (LI low high))) ⟨hr2.out,λi=>⟨Int.le_refl _,Int.le_refl _,by show (0:Int) <= _;decide⟩,by show 0<4;decide⟩
end
/-- The least number from 1 on that is not one of sS; most + 1 if there is none. -/
def jK (most:Nat) (p:Nat -> Bool):Nat:=((List.range most).find? λk=>!p (k+1)).getD most+1
theorem uO (most:Nat) (p:Nat -> Bool):1 <= jK most p /\ jK most p <= most+1 /\ (jK most p <= most -> p (jK most p)=fF) /\ ∀ m,1 <= m -> m<jK most p -> p m=tQ:=by
 unfold jK
 cases hf:(List.range most).find? (λk=>!p (k+1)) with
 | none=>
  refine ⟨by omega,by simp,λh=>by simp at h;omega,λm h1 h2=>?_⟩
  have:=List.find?_eq_none.1 hf (m - 1) (List.mem_range.2 (by simp at h2;omega))
  rw [show m - 1+1=m by omega] at this
  simpa using this
 | some k=>
  obtain ⟨h1,i,h2,h3,h4⟩:=List.find?_eq_some_iff_getElem.1 hf
  have hi:k=i:=by simpa using h3.symm
  simp only [List.length_range] at h2
  simp only [Option.getD_some]
  refine ⟨by omega,by omega,λ_=>by simpa using h1,λm hm hlt=>?_⟩
  have:=h4 (m - 1) oM
  simp at this
  rwa [show m - 1+1=m by omega] at this
theorem xY {most:Nat} {ids:List Nat} (h:fh most ids) {p:Nat -> Bool} (hp:∀ m,1 <= m -> m <= most -> (p m=tQ↔m∈ids)):jK most p=bS ids /\ (ids.length=most↔most<jK most p):=by
 obtain ⟨a1,a2,a3,a4⟩:=uO most p
 obtain ⟨b1,b2⟩:=dB ids
 have hlen:=h.len
 have key:sT ids (jK most p):=by
  refine ⟨a1,λhm=>?_,λm h1 h2=>?_⟩
  ·have hb:=h.bd _ hm
   have:=(hp _ hb.1 hb.2).2 hm
   rw [a3 hb.2] at this
   cases this
  ·exact (hp m h1 oM).1 (a4 m h1 h2)
 have e:=key.unique b1
 refine ⟨e,?_⟩
 constructor
 ·intro hl
  apply Classical.byContradiction
  intro hn
  have h2:∀ m,1 <= m -> m <= most -> m∈ids:=by
   intro m hm hm2
   apply Classical.byContradiction
   intro hne
   have:=iE (m :: ids) ((List.range most).map (·+1)) (List.nodup_cons.2 ⟨hne,h.nodup⟩) (λx hx=>by
    have hb:1 <= x /\ x <= most:=by
     rcases List.mem_cons.1 hx with rfl|hx
     ·exact ⟨hm,hm2⟩
     ·exact h.bd x hx
    exact List.mem_map.2 ⟨x - 1,List.mem_range.2 oM,by omega⟩)
   simp at this
   omega
  exact key.2.1 (h2 _ a1 oM)
 ·intro hl
  have:=iE ((List.range most).map (·+1)) ids (by
   refine List.Pairwise.map _ (λa b hab h=>hab oM) (List.nodup_range)) (λx hx=>by
   obtain ⟨k,hk,rfl⟩:=List.mem_map.1 hx
   exact key.2.2 (k+1) oM (by have:=List.mem_range.1 hk;omega))
  simp at this
  omega
/-- A queue by priorities for each core. -/
structure RQ where
 n:Nat
 q:Nat -> PQ
def RQ.is (r:RQ) (cpu:Int):Prop:=0 <= cpu /\ cpu<r.n
instance instLayersA1 (r:RQ) (cpu:Int):Decidable (r.is cpu):=by unfold RQ.is;infer_instance
def RQ.whr (r:RQ) (id:Int):Option Nat:=(List.range r.n).find? λc=>(aL (r.q c) id).isSome
def RQ.at (r:RQ) (cpu:Int):PQ:=r.q cpu.toNat
def RQ.putQ (r:RQ) (c:Nat) (L:PQ):RQ:={ r with q:=ar r.q c L }
def RQ.putE (r:RQ) (cpu p id:Int):Int:=if ¬ r.is cpu then 3 else if (r.whr id).isSome then 6 else fP 32 (r.at cpu) p id
def RQ.put (r:RQ) (cpu p id:Int):RQ:=if r.putE cpu p id=0 then r.putQ cpu.toNat (nO 32 (r.at cpu) p id) else r
def RQ.pickE (r:RQ) (cpu:Int):Int:=if ¬ r.is cpu then 3 else kV (r.at cpu)
def RQ.pickV (r:RQ) (cpu:Int):Int:=if r.pickE cpu=0 then gd (r.at cpu) else 0
def RQ.pick (r:RQ) (cpu:Int):RQ:=if r.pickE cpu=0 then r.putQ cpu.toNat (eH (r.at cpu)) else r
def RQ.takeE (r:RQ) (id:Int):Int:=if (r.whr id).isSome then 0 else 4
def RQ.take (r:RQ) (id:Int):RQ:=match r.whr id with|some c=>r.putQ c (er (r.q c) id)|none=>r
def RQ.back (r:RQ) (id:Int):RQ:=match r.whr id with|some c=>r.putQ c (jz (r.q c) id)|none=>r
def RQ.load (r:RQ) (cpu:Int):Int:=if r.is cpu then ((r.at cpu).length:Nat) else 0
def RQ.list (r:RQ) (cpu:Int):List Int:=if r.is cpu then lU (r.at cpu) else []
def gm (load:Int -> Int) (better:Int -> Int -> Bool) (a:Int) (l:List Int):Int:=l.foldl (λa c=>if better (load c) (load a) then c else a) a
def RQ.some_ (r:RQ) (m:Nat):List Int:=cd (m &&& bs r.n)
def RQ.bestE (r:RQ) (m:Nat):Int:=if r.some_ m=[] then 12 else 0
def RQ.bestV (r:RQ) (m:Nat) (better:Int -> Int -> Bool):Int:=if r.some_ m=[] then 0 else gm r.load better (ax (r.some_ m) 0) (r.some_ m)
def ky (a b:Int):Bool:=decide (b<a)
def kE (a b:Int):Bool:=decide (a<b)
/-- A thread; threads by their numbers. -/
structure jS where
 prio:Int
 mask:Nat
 cpu:Int
 forced:Bool
 sleeps:Bool
 timer:Int
def th0:jS:=⟨0,0,0,fF,fF,0⟩
structure bT where
 n:Nat
 t:Int -> Option jS
def bT.right (t:bT) (m:Nat):Bool:=decide (m≠0)&&decide (dI m (bs t.n)=0)
def bT.low (t:bT):Nat:=jK 32 λi=>(t.t i).isSome
def bT.spawnE (t:bT) (p:Int) (m:Nat):Int:=if p<0 \/ 8 <= p \/ t.right m=fF then 2 else if 32<t.low then 5 else 0
def bT.spawnV (t:bT) (p:Int) (m:Nat):Int:=if t.spawnE p m=0 then t.low else 0
def bT.spawn (t:bT) (p:Int) (m:Nat):bT:=if t.spawnE p m=0 then { t with t:=cN t.t t.low ⟨p,m,0,fF,fF,0⟩ } else t
def bT.getE (t:bT) (id:Int):Int:=if (t.t id).isSome then 0 else 4
def bT.get (t:bT) (id:Int):jS:=(t.t id).getD th0
def bT.put (t:bT) (id:Int) (x:jS):bT:={ t with t:=cN t.t id x }
def bT.exit (t:bT) (id:Int):bT:={ t with t:=eu t.t id }
def bT.aimE (t:bT) (id:Int) (m:Nat):Int:=if t.getE id≠0 then 4 else if t.right m then 0 else 2
def bT.aim (t:bT) (id:Int) (m:Nat):bT:=if t.aimE id m=0 then t.put id { t.get id with mask:=m } else t
def bT.placeE (t:bT) (id cpu:Int):Int:=if t.getE id≠0 then 4 else if cpu<0 \/ (t.n:Int) <= cpu then 3 else 0
def bT.place (t:bT) (id cpu:Int) (f:Bool):bT:=if t.placeE id cpu=0 then t.put id { t.get id with cpu:=cpu,forced:=f } else t
def bT.sleepE (t:bT) (id:Int):Int:=if t.getE id≠0 then 4 else if (t.get id).sleeps then 6 else 0
def bT.sleep (t:bT) (id tm:Int):bT:=if t.sleepE id=0 then t.put id { t.get id with sleeps:=true,timer:=tm } else t
def bT.wakeE (t:bT) (id:Int):Int:=if t.getE id≠0 then 4 else if (t.get id).sleeps then 0 else 6
def bT.wakeV (t:bT) (id:Int):Int:=if t.wakeE id=0 then (t.get id).timer else 0
def bT.wake (t:bT) (id:Int):bT:=if t.wakeE id=0 then t.put id { t.get id with sleeps:=false,timer:=0 } else t
def bT.list (t:bT):List Int:=ez (λi=>(t.t i).isSome) 32
/-- Works: list 0 is no core's, list c + 1 is core c's. -/
structure cu where
 n:Nat
 q:Nat -> List Int
def cu.is (t:cu) (cpu from_:Int):Prop:=from_ <= cpu /\ cpu<t.n
instance instLayersA2 (t:cu) (cpu from_:Int):Decidable (t.is cpu from_):=by unfold cu.is;infer_instance
def cu.at (t:cu) (cpu:Int):List Int:=t.q (cpu+1).toNat
def cu.whr (t:cu) (id:Int):Option Nat:=(List.range (t.n+1)).find? λi=>decide (id∈t.q i)
def cu.low (t:cu):Nat:=jK 32 λi=>(t.whr i).isSome
def cu.putQ (t:cu) (i:Nat) (l:List Int):cu:={ t with q:=ar t.q i l }
def cu.queueE (t:cu) (cpu:Int):Int:=if ¬ t.is cpu (-1) then 3 else if 32<t.low then 5 else 0
def cu.queueV (t:cu) (cpu:Int):Int:=if t.queueE cpu=0 then t.low else 0
def cu.queue (t:cu) (cpu:Int):cu:=if t.queueE cpu=0 then t.putQ (cpu+1).toNat (t.at cpu++[(t.low:Int)]) else t
/-- The list from which a core takes. -/
def cu.from_ (t:cu) (cpu:Int):Nat:=if t.at cpu=[] then 0 else (cpu+1).toNat
def cu.takeE (t:cu) (cpu:Int):Int:=if ¬ t.is cpu 0 then 3 else if t.q (t.from_ cpu)=[] then 12 else 0
def cu.takeV (t:cu) (cpu:Int):Int:=if t.takeE cpu=0 then ax (t.q (t.from_ cpu)) 0 else 0
def cu.take (t:cu) (cpu:Int):cu:=if t.takeE cpu=0 then t.putQ (t.from_ cpu) (t.q (t.from_ cpu)).tail else t
def cu.unbindE (t:cu) (cpu:Int):Int:=if ¬ t.is cpu 0 then 3 else if t.at cpu=[] then 12 else 0
def cu.unbindV (t:cu) (cpu:Int):Int:=if t.unbindE cpu=0 then ax (t.at cpu) 0 else 0
def cu.unbind (t:cu) (cpu:Int):cu:=if t.unbindE cpu=0 then (t.putQ (cpu+1).toNat (t.at cpu).tail).putQ 0 (t.q 0++[ax (t.at cpu) 0]) else t
def cu.has (t:cu) (id:Int):Bool:=(t.whr id).isSome
def cu.list (t:cu) (cpu:Int):List Int:=if t.is cpu (-1) then t.at cpu else []
/-- Calls. -/
structure dO where
 n:Nat
 q:Nat -> List Int
def dO.is (t:dO) (cpu:Int):Prop:=0 <= cpu /\ cpu<t.n
instance instLayersA3 (t:dO) (cpu:Int):Decidable (t.is cpu):=by unfold dO.is;infer_instance
def dO.at (t:dO) (cpu:Int):List Int:=t.q cpu.toNat
def dO.whr (t:dO) (id:Int):Option Nat:=(List.range t.n).find? λi=>decide (id∈t.q i)
def dO.low (t:dO):Nat:=jK 32 λi=>(t.whr i).isSome
def dO.putQ (t:dO) (i:Nat) (l:List Int):dO:={ t with q:=ar t.q i l }
def dO.sendE (t:dO) (cpu:Int):Int:=if ¬ t.is cpu then 3 else if 32<t.low then 5 else 0
def dO.sendV (t:dO) (cpu:Int):Int:=if t.sendE cpu=0 then t.low else 0
def dO.send (t:dO) (cpu:Int):dO:=if t.sendE cpu=0 then t.putQ cpu.toNat (t.at cpu++[(t.low:Int)]) else t
def dO.takeE (t:dO) (cpu:Int):Int:=if ¬ t.is cpu then 3 else if t.at cpu=[] then 12 else 0
def dO.takeV (t:dO) (cpu:Int):Int:=if t.takeE cpu=0 then ax (t.at cpu) 0 else 0
def dO.take (t:dO) (cpu:Int):dO:=if t.takeE cpu=0 then t.putQ cpu.toNat (t.at cpu).tail else t
def dO.moveE (t:dO) (a b:Int):Int:=if ¬ t.is a \/ ¬ t.is b then 3 else if a=b then 2 else if t.at a=[] then 12 else 0
def dO.moveV (t:dO) (a b:Int):Int:=if t.moveE a b=0 then ax (t.at a) 0 else 0
def dO.move (t:dO) (a b:Int):dO:=if t.moveE a b=0 then (t.putQ a.toNat (t.at a).tail).putQ b.toNat (t.at b++[ax (t.at a) 0]) else t
def dO.has (t:dO) (id:Int):Bool:=(t.whr id).isSome
def dO.list (t:dO) (cpu:Int):List Int:=if t.is cpu then t.at cpu else []
/-- Objects in pages: of each page a bit for each object that is taken. -/
def wH (pg:Nat -> Nat):Option Nat:=((List.range 12).find? λi=>decide (pg i≠0)&&decide (pg i≠255)).or ((List.range 12).find? λi=>decide (pg i=0))
def fQ (x:Nat):Nat:=((List.range 8).find? λk=>!x.testBit k).getD 8
def cQ (pg:Nat -> Nat):Int:=if (wH pg).isSome then 0 else 5
def eP (pg:Nat -> Nat):Int:=match wH pg with|some i=>(i * 8+fQ (pg i)+1:Nat)|none=>0
def iv (pg:Nat -> Nat):Nat -> Nat:=match wH pg with|some i=>ar pg i (pg i ||| 2 ^ fQ (pg i))|none=>pg
def jH (pg:Nat -> Nat) (id:Int):Bool:=decide (1 <= id /\ id <= 96)&&(pg ((id - 1).toNat / 8)).testBit ((id - 1).toNat % 8)
def eX (pg:Nat -> Nat) (id:Int):Nat -> Nat:=if jH pg id then ar pg ((id - 1).toNat / 8) (pg ((id - 1).toNat / 8) ^^^ 2 ^ ((id - 1).toNat % 8)) else pg
structure bL where
 n:Nat
 pg:Nat -> Nat
 kept:Nat -> List Int
def bL.is (t:bL) (cpu:Int):Prop:=0 <= cpu /\ cpu<t.n
instance instLayersA4 (t:bL) (cpu:Int):Decidable (t.is cpu):=by unfold bL.is;infer_instance
def bL.one (t:bL) (c:Nat):bL:=if cQ t.pg=0 then { t with pg:=iv t.pg,kept:=ar t.kept c (t.kept c++[eP t.pg]) } else t
def bL.fill (t:bL) (c:Nat):bL:=if t.kept c=[] then (t.one c).one c else t
def bL.allocE (t:bL) (cpu:Int):Int:=if ¬ t.is cpu then 3 else if (t.fill cpu.toNat).kept cpu.toNat=[] then 5 else 0
def bL.allocV (t:bL) (cpu:Int):Int:=if t.allocE cpu=0 then ax ((t.fill cpu.toNat).kept cpu.toNat) (((t.fill cpu.toNat).kept cpu.toNat).length - 1) else 0
def bL.alloc (t:bL) (cpu:Int):bL:=if t.is cpu then { t.fill cpu.toNat with kept:=ar (t.fill cpu.toNat).kept cpu.toNat ((t.fill cpu.toNat).kept cpu.toNat).dropLast } else t
def bL.back (t:bL) (c many:Nat):bL:={ t with pg:=((t.kept c).take many).foldl eX t.pg,kept:=ar t.kept c ((t.kept c).drop many) }
def bL.has (t:bL) (id:Int):Bool:=jH t.pg id&&!(List.range t.n).any λc=>decide (id∈t.kept c)
def bL.giveE (t:bL) (cpu id:Int):Int:=if ¬ t.is cpu then 3 else if t.has id then 0 else 4
def bL.room (t:bL) (c:Nat):bL:=if 4 <= (t.kept c).length then t.back c 2 else t
def bL.give (t:bL) (cpu id:Int):bL:=if t.giveE cpu id=0 then { t.room cpu.toNat with kept:=ar (t.room cpu.toNat).kept cpu.toNat ((t.room cpu.toNat).kept cpu.toNat++[id]) } else t
def bL.drain (t:bL) (cpu:Int):bL:=if t.is cpu then t.back cpu.toNat (t.kept cpu.toNat).length else t
def bL.keptL (t:bL) (cpu:Int):List Int:=if t.is cpu then t.kept cpu.toNat else []
/-- What cores cost: column 0 the ticks of work, 1 to 8 those of the KC to rest, 9 the energy. -/
structure jZ where
 n:Nat
 c:Nat -> Nat -> Int
def jZ.is (t:jZ) (cpu:Int):Prop:=0 <= cpu /\ cpu<t.n
instance instLayersA5 (t:jZ) (cpu:Int):Decidable (t.is cpu):=by unfold jZ.is;infer_instance
def sY (n:Int):Prop:=0 <= n /\ n <= 2147483648
instance instLayersA6 (n:Int):Decidable (sY n):=by unfold sY;infer_instance
def iw (x:Nat -> Int) (ticks power:Int):Int:=if ¬ sY ticks \/ ¬ sY power then 2 else if 4611686018427387904<x 9+ticks * power then 16 else 0
def xO (x:Nat -> Int) (j:Nat) (ticks power:Int):Nat -> Int:=if iw x ticks power=0 then ar (ar x 9 (x 9+ticks * power)) j (wr (x j+ticks)) else x
def jZ.at (t:jZ) (cpu:Int):Nat -> Int:=t.c cpu.toNat
def jZ.put (t:jZ) (i:Nat) (x:Nat -> Int):jZ:={ t with c:=ar t.c i x }
def jZ.workE (t:jZ) (cpu ticks power:Int):Int:=if ¬ t.is cpu then 3 else iw (t.at cpu) ticks power
def jZ.work (t:jZ) (cpu ticks power:Int):jZ:=if t.is cpu then t.put cpu.toNat (xO (t.at cpu) 0 ticks power) else t
def jZ.restE (t:jZ) (cpu way ticks power:Int):Int:=if ¬ t.is cpu then 3 else if way<0 \/ 8 <= way then 3 else iw (t.at cpu) ticks power
def jZ.rest (t:jZ) (cpu way ticks power:Int):jZ:=if t.is cpu /\ ¬ (way<0 \/ 8 <= way) then t.put cpu.toNat (xO (t.at cpu) (1+way.toNat) ticks power) else t
/-- Ways to rest. -/
def KC:List (Int × Int × Int):=[(0,0,100),(2,10,60),(10,50,25),(50,400,5)]
def km (i:Nat):Int × Int × Int:=KC.getD i (0,0,0)
def ew (rest limit:Int):Int:=if 50 <= limit /\ 400 <= rest then 3 else if 10 <= limit /\ 50 <= rest then 2 else if 2 <= limit /\ 10 <= rest then 1 else 0
def kv (now due:Int) (known:Bool):Int:=if known=fF then 1073741824 else if now<0 \/ due <= now then 0 else min (due - now) 1073741824
/-- A governor's frequency. -/
def dM.busyV (g:dM):Int:=sX (g.busy 0+g.busy 1+g.busy 2+g.busy 3) (g.all 0+g.all 1+g.all 2+g.all 3)
def dM.freqV (g:dM):Int:=lg g.low g.high g.busyV
def dM.feedE (g:dM) (b a:Int):Int:=if b<0 \/ a<b \/ 1099511627776<a then 2 else 0
def dM.feed (g:dM) (b a:Int):dM:=if g.feedE b a=0 then { g with busy:=ar g.busy g.at' b,all:=ar g.all g.at' a,at':=(g.at'+1) % 4 } else g
def dM.feedV (g:dM) (b a:Int):Int:=if g.feedE b a=0 then (g.feed b a).freqV else 0
def dL (want active:Nat):Nat:=if want &&& active=0 then active else want &&& active
def jN (want active:Nat):Bool:=decide (active≠0)&&decide (want &&& active=0)
def cK (want active:Nat) (near:Int):Int:=if active=0 then 0 else if aw (dL want active) near then near else bc (mD (dL want active) near)
def qu (want active:Nat) (near:Int):Int:=if active=0 then 12 else if aw (dL want active) near then 0 else jr (mD (dL want active) near)
theorem qz (want active:Nat) (hw:want<2 ^ 64) (ha:active<2 ^ 64) (near:Int) (w:wW) (hT:bK w):
  Calls tp 197 #[vi uQ want,vi uQ active,vi iQ near] w (ay (.tuple #[vi iQ (cK want active near),vb (jN want active),vi iQ (qu want active near)]) w):=by
 by_cases h0:active=0
 ·subst h0
  have e1:cK want 0 near=0:=pG rfl
  have e2:qu want 0 near=12:=pG rfl
  have e3:jN want 0=fF:=rfl
  rw [e1,e2,e3]
  go_in
  go_wp2
  go_ret3
  exact ay.of (rfl) dz
 ·have hne:((active:Int)==0)=fF:=by simp;omega
  have hA:=λw=>pA want active w hw ha
  have hlt:want &&& active<2 ^ 64:=Nat.and_lt_two_pow _ ha
  have e1:cK want active near=if aw (dL want active) near then near else bc (mD (dL want active) near):=nG h0
  have e2:qu want active near=if aw (dL want active) near then 0 else jr (mD (dL want active) near):=nG h0
  have e3:jN want active=decide (want &&& active=0):=by unfold jN;rw [decide_eq_true h0];rfl
  have hfl:dL want active<2 ^ 64:=by unfold dL;split<;>assumption
  have hH:=λw=>bA (dL want active) hfl near w
  have hX:=λw hT=>GB (dL want active) hfl near w hT
  have hfz:(want &&& active=0 /\ dL want active=active) \/ (¬ want &&& active=0 /\ dL want active=want &&& active):=by
   unfold dL
   by_cases e:want &&& active=0
   ·exact .inl ⟨e,pG e⟩
   ·exact .inr ⟨e,nG e⟩
  cases hh:aw (dL want active) near
  ·rw [hh] at e1 e2 hH
   rw [e1,e2,e3]
   simp only [Bool.false_eq_true,if_false]
   generalize bc (mD (dL want active) near)=a at *
   generalize jr (mD (dL want active) near)=b at *
   rcases hfz with ⟨z1,z2⟩|⟨z1,z2⟩
   ·rw [z2] at hH hX
    rw [decide_eq_true z1]
    rw [z1] at hA
    clear e1 e2 e3 hh hfl z1 z2 h0
    go_in
    go_wp2_with (first
     | (go_at_call 269;refine (hA _).r λk=>?_)
     | (go_at_call 13;refine (hH _).r λk2=>?_)
     | (go_at_call 270;refine (hX _ (hT.drewN _)).r λk3=>?_))
    go_ret3
    exact ay.of (rfl) dz
   ·rw [z2] at hH hX
    rw [decide_eq_false z1]
    have hne2:(((want &&& active:Nat):Int)==0)=fF:=by simp;omega
    generalize want &&& active=both at *
    clear e1 e2 e3 hh hfl z1 z2 h0
    go_in
    go_wp2_with (first
     | (go_at_call 269;refine (hA _).r λk=>?_)
     | (go_at_call 13;refine (hH _).r λk2=>?_)
     | (go_at_call 270;refine (hX _ (hT.drewN _)).r λk3=>?_))
    go_ret3
    exact ay.of (rfl) dz
  ·rw [hh] at e1 e2 hH
   rw [e1,e2,e3]
   simp only [if_true]
   rcases hfz with ⟨z1,z2⟩|⟨z1,z2⟩
   ·rw [z2] at hH
    rw [decide_eq_true z1]
    rw [z1] at hA
    clear e1 e2 e3 hh hfl z1 z2 h0 hX
    go_in
    go_wp2_with (first
     | (go_at_call 269;refine (hA _).r λk=>?_)
     | (go_at_call 13;refine (hH _).r λk2=>?_))
    go_ret3
    exact ay.of (rfl) dz
   ·rw [z2] at hH
    rw [decide_eq_false z1]
    have hne2:(((want &&& active:Nat):Int)==0)=fF:=by simp;omega
    generalize want &&& active=both at *
    clear e1 e2 e3 hh hfl z1 z2 h0 hX
    go_in
    go_wp2_with (first
     | (go_at_call 269;refine (hA _).r λk=>?_)
     | (go_at_call 13;refine (hH _).r λk2=>?_))
    go_ret3
    exact ay.of (rfl) dz
def kQ (active m:Nat) (c:Int) (f:Bool):Bool:=if aw active c=fF then tQ else if aw m c=fF /\ m &&& active≠0 then tQ else f==aw m c
theorem sR (active m:Nat) (ha:active<2 ^ 64) (hm:m<2 ^ 64) (id c:Int) (f:Bool) (w:wW):Calls tp 203 #[vi uQ active,.agg #[vi iQ id,vi uQ m,vi iQ c,vb f]] w (aK (vb (kQ active m c f)) w):=by
 have h1:=λw=>bA m hm c w
 have h2:=λw=>bA active ha c w
 have h3:=λw=>pA m active w hm ha
 obtain ⟨v,hv⟩:∃ v,v=kQ active m c f:=⟨_,rfl⟩
 rw [<- hv]
 unfold kQ at hv
 cases b1:aw active c
 ·rw [b1] at h2 hv
  simp at hv
  subst hv
  clear b1 h3
  generalize aw m c=x at *
  go_in
  go_wp2_with (first
   | (go_at_call 13;refine (h1 _).mono ?_;clear h1;rintro e w' ⟨rfl,k,rfl⟩)
   | (go_at_call 13;refine (h2 _).r λk2=>?_))
  go_ret
  refine ⟨rfl,?_⟩
  exact ms
 ·rw [b1] at h2 hv
  rw [nG dE] at hv
  cases b2:aw m c
  ·rw [b2] at h1 hv
   by_cases h0:m &&& active=0
   ·rw [h0] at h3
    rw [nG (by simp [h0])] at hv
    subst hv
    clear b1 b2 h0
    go_in
    go_wp2_with (first
     | (go_at_call 13;refine (h1 _).mono ?_;clear h1;rintro e w' ⟨rfl,k,rfl⟩)
     | (go_at_call 13;refine (h2 _).r λk2=>?_)
     | (go_at_call 269;refine (h3 _).r λk3=>?_))
    go_ret
    refine ⟨by simp,?_⟩
    exact ms
   ·rw [pG ⟨rfl,h0⟩] at hv
    subst hv
    have hne:(((m &&& active:Nat):Int)==0)=fF:=by simp;omega
    generalize m &&& active=y at *
    clear b1 b2 h0
    go_in
    go_wp2_with (first
     | (go_at_call 13;refine (h1 _).mono ?_;clear h1;rintro e w' ⟨rfl,k,rfl⟩)
     | (go_at_call 13;refine (h2 _).r λk2=>?_)
     | (go_at_call 269;refine (h3 _).r λk3=>?_))
    go_ret
    refine ⟨rfl,?_⟩
    exact ms
  ·rw [b2] at h1 hv
   rw [nG sM] at hv
   subst hv
   clear b1 b2 h3
   go_in
   go_wp2_with (first
    | (go_at_call 13;refine (h1 _).mono ?_;clear h1;rintro e w' ⟨rfl,k,rfl⟩)
    | (go_at_call 13;refine (h2 _).r λk2=>?_))
   go_ret
   refine ⟨by simp,?_⟩
   exact ms
structure dS where
 kind:Int
 cpu:Int
 id:Int
 n:Int
 why:Int
deriving DecidableEq
structure oH where
 kind:Int
 cpu:Int
 id:Int
 mask:Nat
 n:Int
structure KT where
 n:Nat
 th:bT
 rq:RQ
 tm:TA
 iq:IT
 rt:RT
 wk:cu
 cb:dO
 ob:bL
 ct:List Int
 gt:SG
 sp:ST
 dk:SH
 co:CT
 mt:jZ
 gv:Nat -> dM
 online:Nat
 active:Nat
 now:Int
 limit:Int
 own:Int -> Option Int
def aW (id why:Int):List dS:=[⟨1,0,if why=0 then id else 0,0,why⟩]
def KT.is (k:KT) (cpu:Int):Prop:=0 <= cpu /\ cpu<k.n
instance instKernelA1 (k:KT) (cpu:Int):Decidable (k.is cpu):=by unfold KT.is;infer_instance
def KT.ofE (k:KT) (cpu:Int):Int:=if ¬ k.is cpu then 3 else if aw k.active cpu then 0 else 9
def KT.putT (k:KT) (id near:Int):KT:=
 { k with th:=k.th.place id (cK (k.th.get id).mask k.active near) (jN (k.th.get id).mask k.active),rq:=k.rq.put (cK (k.th.get id).mask k.active near) (k.th.get id).prio id }
def KT.mendB (k:KT) (id:Int):Bool:=(k.th.get id).sleeps||!kQ k.active (k.th.get id).mask (k.th.get id).cpu (k.th.get id).forced
def KT.mend (k:KT) (id:Int):KT:=if k.mendB id then k else ({ k with rq:=k.rq.take id }:KT).putT id (k.th.get id).cpu
def IT.get (t:IT) (i:Int):xd:=if cz i then t.at i else vC
def KT.lead (k:KT) (i near:Int):KT:={ k with rt:=k.rt.set i (cK (k.iq.get i).mask k.active near) }
def KT.aim (k:KT) (i:Int):KT:=if kQ k.active (k.iq.get i).mask (k.rt.of i) (!aw (k.iq.get i).mask (k.rt.of i)) then k.lead i (k.rt.of i) else k
/-- The meter has a core's ticks. -/
def KT.meet (k:KT) (c:Nat) (x:cW) (ticks:Int):KT:=
 { k with co:=k.co.take c,gv:=ar k.gv c ((k.gv c).feed (k.co.takeB c) (k.co.takeS c)),mt:=if x.idle then k.mt.rest c x.way ticks (km x.way.toNat).2.2 else k.mt.work c ticks ((k.gv c).feedV (k.co.takeB c) (k.co.takeS c)) }
def KT.meetAt (k:KT) (ticks:Int) (c:Nat):KT:=if (k.co.c c).power then k.meet c (k.co.c c) ticks else k
def KT.meets (k:KT) (ticks:Int):Nat -> KT
 | 0=>k
 | j+1=>(k.meets ticks j).meetAt ticks j
def KT.tickE (k:KT) (d:Int):Int:=if aT k.now d≠0 then aT k.now d else k.tm.goE (aM k.now d)
def KT.tick (k:KT) (d:Int):KT:=if aT k.now d≠0 then k else { k.meets d k.n with now:=aM k.now d,tm:=k.tm.go (aM k.now d) }
def KT.spawn (k:KT) (p:Int) (m:Nat):KT:=if k.th.spawnE p m=0 then ({ k with th:=k.th.spawn p m }:KT).putT (k.th.spawnV p m) (k.th.spawnV p m % k.n) else k
def KT.quiet (k:KT) (t:Int):KT:={ k with tm:=k.tm.cancel t,own:=eu k.own t }
def KT.wake (k:KT) (id:Int):KT:=({ k with th:=k.th.wake id }:KT).putT id ((k.th.wake id).get id).cpu
def KT.sleepC (k:KT) (x:jS):Int:=if aw k.active x.cpu then x.cpu else bc k.active
def KT.sleepE (k:KT) (id:Int) (x:jS) (d:Int):Int:=if aT k.now d≠0 then aT k.now d else if k.tm.armE (k.sleepC x) (aM k.now d)≠0 then k.tm.armE (k.sleepC x) (aM k.now d) else k.th.sleepE id
def KT.sleepV (k:KT) (x:jS) (d:Int):Int:=if aT k.now d≠0 then 0 else if k.tm.armE (k.sleepC x) (aM k.now d)≠0 then 0 else k.tm.armV (k.sleepC x) (aM k.now d)
def KT.sleep (k:KT) (id:Int) (x:jS) (d:Int):KT:=
 if aT k.now d≠0 then k else if k.tm.armE (k.sleepC x) (aM k.now d)≠0 then k else
 { k with tm:=k.tm.arm (k.sleepC x) (aM k.now d),own:=cN k.own (k.tm.armV (k.sleepC x) (aM k.now d)) id,rq:=k.rq.take id,th:=k.th.sleep id (k.tm.armV (k.sleepC x) (aM k.now d)) }
def KT.exit (k:KT) (id:Int) (x:jS):KT:=let k':KT:=if x.sleeps then k.quiet x.timer else { k with rq:=k.rq.take id };{ k' with th:=k'.th.exit id }
def KT.threadedL (k:KT) (e:oH):List dS:=
 if k.th.getE e.id≠0 then aW 0 4 else if e.kind=9 then aW (k.th.get e.id).cpu 0 else if e.kind=4 then aW 0 0 else if e.kind=8 then aW 0 (k.th.aimE e.id e.mask)
 else if (k.th.get e.id).sleeps≠decide (e.kind=7) then aW 0 6 else if e.kind=6 then aW (k.sleepV (k.th.get e.id) e.n) (k.sleepE e.id (k.th.get e.id) e.n) else if e.kind=5 then aW 0 (k.rq.takeE e.id) else aW 0 0
def KT.threaded (k:KT) (e:oH):KT:=
 if k.th.getE e.id≠0 then k else if e.kind=9 then k else if e.kind=4 then k.exit e.id (k.th.get e.id) else if e.kind=8 then (if k.th.aimE e.id e.mask=0 then ({ k with th:=k.th.aim e.id e.mask }:KT).mend e.id else k)
 else if (k.th.get e.id).sleeps≠decide (e.kind=7) then k else if e.kind=6 then k.sleep e.id (k.th.get e.id) e.n else if e.kind=5 then { k with rq:=k.rq.back e.id } else (k.quiet (k.th.get e.id).timer).wake e.id
def KT.irqE (k:KT) (e:oH):Int:=
 if e.kind=12 then k.iq.reqE e.id e.mask else if e.kind=13 then k.iq.wantE e.id else if e.kind=14 then k.iq.aimE e.id e.mask else if e.kind=15 then k.iq.hushE e.id tQ else if e.kind=16 then k.iq.hushE e.id fF else k.iq.wantE e.id
def KT.irq (k:KT) (e:oH):KT:=
 if e.kind=12 then (if k.iq.reqE e.id e.mask=0 then ({ k with iq:=k.iq.req e.id e.mask }:KT).lead e.id (e.id % k.n) else k)
 else if e.kind=13 then (if k.iq.wantE e.id=0 then { k with iq:=k.iq.free e.id,rt:=k.rt.off e.id } else k)
 else if e.kind=14 then (if k.iq.aimE e.id e.mask=0 then ({ k with iq:=k.iq.aim e.id e.mask }:KT).aim e.id else k)
 else if e.kind=15 then { k with iq:=k.iq.hush e.id tQ } else if e.kind=16 then { k with iq:=k.iq.hush e.id fF } else { k with iq:=k.iq.raise e.id }
def KT.armE (k:KT) (cpu d:Int):Int:=if aT k.now d≠0 then aT k.now d else k.tm.armE cpu (aM k.now d)
def KT.armV (k:KT) (cpu d:Int):Int:=if aT k.now d≠0 then 0 else k.tm.armV cpu (aM k.now d)
def KT.arm (k:KT) (cpu d:Int):KT:=if aT k.now d≠0 then k else { k with tm:=k.tm.arm cpu (aM k.now d) }
def KT.placedL (k:KT) (e:oH):List dS:=
 if k.ofE e.cpu≠0 then aW 0 (k.ofE e.cpu) else if e.kind=10 then aW (k.armV e.cpu e.n) (k.armE e.cpu e.n) else if e.kind=18 then aW (k.wk.queueV e.cpu) (k.wk.queueE e.cpu)
 else if e.kind=20 then aW (k.cb.sendV e.cpu) (k.cb.sendE e.cpu) else if e.kind=21 then aW (k.ob.allocV e.cpu) (k.ob.allocE e.cpu) else if e.kind=22 then aW 0 (k.ob.giveE e.cpu e.id) else aW 0 (k.gt.enterE e.cpu)
def KT.placed (k:KT) (e:oH):KT:=
 if k.ofE e.cpu≠0 then k else if e.kind=10 then k.arm e.cpu e.n else if e.kind=18 then { k with wk:=k.wk.queue e.cpu }
 else if e.kind=20 then { k with cb:=k.cb.send e.cpu } else if e.kind=21 then { k with ob:=k.ob.alloc e.cpu } else if e.kind=22 then { k with ob:=k.ob.give e.cpu e.id } else { k with gt:=k.gt.enter e.cpu }
def KT.cancelE (k:KT) (id:Int):Int:=if (k.tm.whr id).isNone then 4 else if 0<(k.own id).getD 0 then 6 else k.tm.cancelE id
def KT.cancel (k:KT) (id:Int):KT:=if k.cancelE id=0 then { k with tm:=k.tm.cancel id } else k
def KT.flushE (id:Int):Int:=if id<1 \/ 32<id then 2 else 0
def KT.flushV (k:KT) (id:Int):Int:=if id<1 \/ 32<id then 0 else if k.wk.has id then 1 else 0
def uR (d:Int):Int:=if d<0 \/ 1073741824<d then 2 else 0
def KT.lim (k:KT) (d:Int):KT:=if uR d=0 then { k with limit:=d } else k
def KT.speedE (a b:Int):Int:=if oe a b then 0 else 2
def KT.speed (k:KT) (a b:Int):KT:={ k with gv:=λc=>if c<k.n then (k.gv c).set a b else k.gv c }
def KT.planE (s:Int):Int:=if s<0 \/ 10 <= s then 3 else Go.Proofs.YtaakgpnmfkmdoaaGreatDoor.planE s
def KT.plan (k:KT) (s:Int):KT:=if s<0 \/ 10 <= s then k else { k with dk:=k.dk.doPlan s }
def KT.balFrom (k:KT):Int:=k.rq.bestV k.active ky
def KT.balTo (k:KT):Int:=k.rq.bestV k.active kE
def KT.balId (k:KT):Option Int:=if k.rq.load k.balFrom - k.rq.load k.balTo<2 then nN else (k.rq.list k.balFrom).reverse.find? λid=>aw (k.th.get id).mask k.balTo
def KT.balV (k:KT):Int:=k.balId.getD 0
def KT.bal (k:KT):KT:=match k.balId with
 | none=>k
 | some id=>{ k with rq:=(k.rq.take id).put k.balTo (k.th.get id).prio id,th:=k.th.place id k.balTo fF }
def KT.reqE (k:KT) (up:Bool) (cpu:Int):Int:=
 if ¬ k.is cpu then 3 else if k.dk.run.isSome then 7 else if up=tQ /\ aw k.online cpu=tQ then 8 else if up=fF /\ aw k.online cpu=fF then 9 else if up=fF /\ (cd k.online).length=1 then 10
 else k.dk.beginE cpu (bc (aE k.active cpu))
def KT.reqOk (k:KT) (up:Bool) (cpu:Int):Bool:=decide (k.is cpu)&&!k.dk.run.isSome&&!(up&&aw k.online cpu)&&!(!up&&!aw k.online cpu)&&!(!up&&decide ((cd k.online).length=1))
def KT.req (k:KT) (up:Bool) (cpu:Int):KT:=if k.reqOk up cpu then { k with gt:=k.gt.want,dk:=k.dk.begin_ up cpu (bc (aE k.active cpu)) } else k
def KT.waits (k:KT) (cpu:Int):Option Int:=(k.rt.onL cpu 16).find? λi=>k.iq.ready i
def KT.flags (k:KT) (cpu:Int):fk where
 stop:=k.sp.must cpu
 held:=aw k.sp.held cpu
 hot:=k.dk.run.isSome&&decide (k.dk.by_=cpu)
 active:=aw k.active cpu
 call:=decide (0<(k.cb.list cpu).length)
 irq:=(k.waits cpu).isSome
 timer:=k.tm.ready cpu
 work:=decide (0<(k.wk.list cpu).length+(k.wk.list (-1)).length)
 thread:=decide (0<k.rq.load cpu)
def KT.did (k:KT) (cpu:Int):KT:={ k with ct:=jd k.ct cpu 1 }
def KT.fireId (k:KT) (cpu:Int):Int:=k.tm.fireV cpu
def KT.fireWho (k:KT) (cpu:Int):Int:=(k.own (k.fireId cpu)).getD 0
def KT.fire (k:KT) (cpu:Int):KT:=
 let k':KT:={ k with tm:=k.tm.fire cpu,own:=eu k.own (k.fireId cpu) }
 ((if 0<k.fireWho cpu then k'.wake (k.fireWho cpu) else k'):KT).did cpu
def KT.lie (k:KT) (cpu:Int):KT:={ k with co:=k.co.rest cpu (ew (kv k.now (k.tm.nextV cpu) (decide (k.tm.nextE cpu=0))) k.limit) k.now }
def KT.thingL (k:KT) (cpu what:Int):List dS:=
 if what=4 then [⟨6,cpu,k.cb.takeV cpu,0,0⟩] else if what=5 then [⟨4,cpu,(k.waits cpu).getD 0,0,0⟩] else if what=6 then [⟨3,cpu,k.fireId cpu,k.fireWho cpu,0⟩] else if what=7 then [⟨5,cpu,k.wk.takeV cpu,0,0⟩] else [⟨2,cpu,k.rq.pickV cpu,0,0⟩]
def KT.thing (k:KT) (cpu what:Int):KT:=
 if what=4 then ({ k with cb:=k.cb.take cpu }:KT).did cpu else if what=5 then ({ k with iq:=k.iq.clear ((k.waits cpu).getD 0) }:KT).did cpu else if what=6 then k.fire cpu else if what=7 then ({ k with wk:=k.wk.take cpu }:KT).did cpu else ({ k with rq:=k.rq.pick cpu }:KT).did cpu
/-- A stage's number, whether it is undone, whether it fails. -/
def SH.stK (s:SH):Int:=match s.run with|none=>0|some r=>if r.over then 0 else r.k
def SH.stU (s:SH):Bool:=match s.run with|none=>fF|some r=>if r.over then fF else r.back
def SH.stF (s:SH):Bool:=match s.run with|none=>fF|some r=>if r.over then fF else s.failsNow r
def KT.undo (k:KT) (up:Bool) (st cpu:Int):KT:=if st=1 then (if up then { k with co:=k.co.pow cpu fF } else { k with active:=aP k.active cpu }) else k
def KT.come (k:KT) (st cpu:Int):KT:=
 if st=1 then { k with co:=k.co.pow cpu tQ } else if st=2 then { k with ob:=k.ob.drain cpu } else
 let k1:KT:={ k with online:=aP k.online cpu,active:=aP k.active cpu }
 let k2:=k1.th.list.foldl KT.mend k1
 (idsOfI k2.iq).foldl KT.aim k2
where idsOfI (t:IT):List Int:=((List.range 16).filter λi=>(t.c i).wanted).map λ(i:Nat)=>(i:Int)
def KT.emptyB (k:KT) (cpu:Int):Bool:=decide (k.rq.list cpu=[])
def KT.empty (k:KT) (cpu:Int):KT:=if k.rq.list cpu=[] then k else ({ k with rq:=k.rq.take (ax (k.rq.list cpu) 0) }:KT).putT (ax (k.rq.list cpu) 0) cpu
def KT.haltB (k:KT):Bool:=k.sp.on&&k.sp.ready
def KT.halt (k:KT) (cpu by_:Int):KT:=
 if k.sp.on=fF then { k with sp:=k.sp.begin' (aE (aP k.active cpu) by_) } else if k.sp.ready=fF then k else
 let k1:=(k.rt.onL cpu 16).foldl (λk i=>k.lead i cpu) k
 { k1 with sp:=k1.sp.free }
def KT.leaveB (k:KT) (st cpu by_:Int):Bool:=
 if st=2 then k.emptyB cpu else if st=3 then decide (k.tm.moveE cpu by_≠0) else if st=4 then decide (k.wk.unbindE cpu≠0) else if st=5 then decide (k.cb.moveE cpu by_≠0) else if st=6 then k.haltB else tQ
def KT.leave (k:KT) (st cpu by_:Int):KT:=
 if st=1 then { k with active:=aE k.active cpu } else if st=2 then k.empty cpu else if st=3 then { k with tm:=k.tm.move cpu by_ } else if st=4 then { k with wk:=k.wk.unbind cpu } else if st=5 then { k with cb:=k.cb.move cpu by_ }
 else if st=6 then k.halt cpu by_ else if st=7 then { k with ob:=k.ob.drain cpu } else if st=8 then { k with ct:=fN k.ct cpu by_ } else { k with online:=aE k.online cpu,co:=k.co.pow cpu fF }
def KT.stageB (k:KT) (st:Int) (undo:Bool) (cpu by_:Int):Bool:=if undo then tQ else if st=0 then decide (k.gt.takeE=0) else if k.dk.up then tQ else k.leaveB st cpu by_
def KT.stage (k:KT) (st:Int) (undo:Bool) (cpu by_:Int):KT:=if undo then k.undo k.dk.up st cpu else if st=0 then { k with gt:=k.gt.take } else if k.dk.up then k.come st cpu else k.leave st cpu by_
/-- A step of a request, up to its end. -/
def KT.turn1 (k:KT) (by_:Int):KT:=
 let k1:KT:={ k with dk:=k.dk.next }
 if k.dk.stF then k1 else
 let k2:=k1.stage k.dk.stK k.dk.stU k.dk.cpu by_
 if k1.stageB k.dk.stK k.dk.stU k.dk.cpu by_ then { k2 with dk:=k2.dk.done } else k2
def KT.turnL (k:KT) (by_:Int):List dS:=if (k.turn1 by_).dk.over then [⟨7,k.dk.cpu,0,0,(k.turn1 by_).dk.endV⟩] else []
def KT.turn (k:KT) (by_:Int):KT:=if (k.turn1 by_).dk.over then { k.turn1 by_ with dk:=(k.turn1 by_).dk.end_,gt:=(k.turn1 by_).gt.free } else k.turn1 by_
def KT.what (k:KT) (cpu:Int):Int:=ib (if k.co.is cpu then k.co.at cpu else core0) (k.flags cpu)
def KT.step0 (k:KT) (cpu:Int):KT:=if (if k.co.is cpu then k.co.at cpu else core0).power then { k with co:=k.co.count cpu (decide (k.what cpu≠0 /\ k.what cpu≠9)) } else k
def KT.stepL (k:KT) (cpu:Int):List dS:=
 if k.what cpu=0 \/ k.what cpu=1 \/ k.what cpu=2 \/ k.what cpu=9 then [] else if k.what cpu=3 then (k.step0 cpu).turnL cpu else (k.step0 cpu).thingL cpu (k.what cpu)
def KT.step (k:KT) (cpu:Int):KT:=
 if k.what cpu=0 then k.step0 cpu else if k.what cpu=1 then { k.step0 cpu with co:=(k.step0 cpu).co.wake cpu k.now } else if k.what cpu=2 then { k.step0 cpu with sp:=k.sp.ack cpu }
 else if k.what cpu=3 then (k.step0 cpu).turn cpu else if k.what cpu=9 then (k.step0 cpu).lie cpu else (k.step0 cpu).thing cpu (k.what cpu)
def KT.doL (k:KT) (e:oH):List dS:=
 if e.kind=1 then (if ¬ k.is e.cpu then aW 0 3 else k.stepL e.cpu) else if e.kind=2 then aW 0 (k.tickE e.n) else if e.kind=3 then aW (k.th.spawnV e.id e.mask) (k.th.spawnE e.id e.mask)
 else if 4 <= e.kind /\ e.kind <= 9 then k.threadedL e else if 12 <= e.kind /\ e.kind <= 17 then aW 0 (k.irqE e)
 else if e.kind=18 /\ e.cpu=-1 then aW (k.wk.queueV (-1)) (k.wk.queueE (-1)) else if e.kind=10 \/ e.kind=18 \/ (20 <= e.kind /\ e.kind <= 22) \/ e.kind=26 then k.placedL e
 else if e.kind=23 \/ e.kind=24 then aW 0 (k.reqE (decide (e.kind=23)) e.cpu)
 else if e.kind=11 then aW 0 (k.cancelE e.id) else if e.kind=19 then aW (k.flushV e.id) (KT.flushE e.id) else if e.kind=25 then aW 0 (KT.planE e.n) else if e.kind=27 then aW 0 (k.gt.leaveE e.cpu)
 else if e.kind=28 then aW 0 (uR e.n) else if e.kind=29 then aW 0 (KT.speedE e.id e.n) else if e.kind=30 then aW k.balV 0 else aW 0 2
def KT.doK (k:KT) (e:oH):KT:=
 if e.kind=1 then (if ¬ k.is e.cpu then k else k.step e.cpu) else if e.kind=2 then k.tick e.n else if e.kind=3 then k.spawn e.id e.mask
 else if 4 <= e.kind /\ e.kind <= 9 then k.threaded e else if 12 <= e.kind /\ e.kind <= 17 then k.irq e
 else if e.kind=18 /\ e.cpu=-1 then { k with wk:=k.wk.queue (-1) } else if e.kind=10 \/ e.kind=18 \/ (20 <= e.kind /\ e.kind <= 22) \/ e.kind=26 then k.placed e
 else if e.kind=23 \/ e.kind=24 then k.req (decide (e.kind=23)) e.cpu
 else if e.kind=11 then k.cancel e.id else if e.kind=19 then k else if e.kind=25 then k.plan e.n else if e.kind=27 then { k with gt:=k.gt.leave e.cpu }
 else if e.kind=28 then k.lim e.n else if e.kind=29 then k.speed e.id e.n else if e.kind=30 then k.bal else k
def Mm (n:Nat) (D:Nat -> Nat):List Value:=(List.range n).map λi=>vp (sS ⟨D i,0,nN⟩)
/-- The things by themselves. -/
def aS (n:Nat) (R:Nat -> ao):List ao:=(List.range n).map R
def jW (T:TypeId) (g:Option Nat) (cap n:Nat) (D:Nat -> Nat) (R:Nat -> ao):List ao:=ml T 1 g cap n (Mm n D) :: aS n R
theorem jD (n:Nat) (R:Nat -> ao) (c:Nat) (x:ao):(aS n R).set c x=aS n (ar R c x):=by
 unfold aS
 apply List.ext_getElem?
 intro j
 rw [List.getElem?_set]
 simp only [List.getElem?_map,List.length_map,List.length_range]
 by_cases e:c=j
 ·subst e
  by_cases hc:c<n
  ·simp [hc,ah]
  ·simp [hc]
 ·rw [nG e]
  by_cases hj:j<n
  ·simp [hj,al _ _ (λx=>e x.symm)]
  ·simp [hj]
theorem ft {n:Nat} {R:Nat -> ao} {c:Nat} (hc:c<n):(aS n R)[c]?=sS (R c):=by simp [aS,hc]
theorem wC {n:Nat} {R R':Nat -> ao} (h:∀ i,i<n -> R i=R' i):aS n R=aS n R':=List.map_congr_left (λi hi=>h i (List.mem_range.1 hi))
theorem KN {n:Nat} {D:Nat -> Nat} {c:Nat} (hc:c<n):(Mm n D)[c]?=sS (vp (sS ⟨D c,0,nN⟩)):=by simp [Mm,hc]
theorem Al (f:Nat -> Nat -> ao) (j x:Nat) (D:Nat -> Nat):aS (j+1) (λi=>f i (ar D j x i))=aS j (λi=>f i (D i))++[f j x]:=by
 unfold aS
 rw [List.range_succ,List.map_append,List.map_cons,List.map_nil,ah]
 congr 1
 exact List.map_congr_left (λi hi=>by rw [al _ _ (by have:=List.mem_range.1 hi;omega)])
section
variable {F0:List Nat} {w0 u:wW} {pre post:List ao} {T:TypeId} {g:Option Nat} {cap n k:Nat} {D:Nat -> Nat} {R:Nat -> ao}
theorem EK (hk:k=pre.length) {c:Nat} (hc:c<n):(pre++jW T g cap n D R++post)[k+1+c]?=sS (R c):=by
 subst hk
 unfold jW
 rw [List.append_assoc,List.getElem?_append_right oM,List.getElem?_append_left (by simp [aS];omega)]
 rw [show pre.length+1+c - pre.length=c+1 by omega,List.getElem?_cons_succ]
 exact ft hc
theorem LO (hk:k=pre.length) {c:Nat} (hc:c<n) (x:ao):(pre++jW T g cap n D R++post).set (k+1+c) x=pre++jW T g cap n D (ar R c x)++post:=by
 subst hk
 unfold jW
 rw [List.append_assoc,List.set_append_right _ _ oM,List.set_append_left _ _ (by simp [aS];omega)]
 rw [show pre.length+1+c - pre.length=c+1 by omega,sC,jD,List.append_assoc]
theorem zz (hk:k=pre.length):(pre++jW T g cap n D R++post)[k]?=sS (ml T 1 g cap n (Mm n D)):=by
 subst hk
 unfold jW
 rw [List.append_assoc,List.getElem?_append_right oM]
 simp
theorem On.famPtr (h:On F0 w0 (pre++jW T g cap n D R++post) u) (hk:k=pre.length) {c:Nat} (hc:c<n):∃ b,g=sS b /\ u.cell? ⟨b,c,nN⟩=sS (vp (sS ⟨D c,0,nN⟩)):=by
 obtain ⟨F1,_,hr⟩:=h.get k (zz hk)
 exact hr.cell (KN hc)
theorem On.famCap (h:On F0 w0 (pre++jW T g cap n D R++post) u) (hk:k=pre.length):n <= cap /\ cap <= maxLen:=by
 obtain ⟨F1,_,hr⟩:=h.get k (zz hk)
 exact hr.cap
theorem On.famHas (h:On F0 w0 (pre++jW T g cap n D R++post) u) (hk:k=pre.length) {c:Nat} (hc:c<n):∃ F1,(R c).holds F1 u:=h.get _ (EK hk hc)
theorem On.famDo {P:Program} {f:FuncId} {args:Array Value} {v:Value} {x:ao} (h:On F0 w0 (pre++jW T g cap n D R++post) u) (hk:k=pre.length) {c:Nat} (hc:c<n) (hh:∀ F1,(R c).holds F1 u -> Calls P f args u (aq x F1 v u)):
  Calls P f args u (λe u'=>e=.returned v /\ On F0 w0 (pre++jW T g cap n D (ar R c x)++post) u'):=by
 have:=h.call _ (EK hk hc) hh
 rw [LO hk hc] at this
 exact this
/-- One more thing: its pointer lies in a block of its own, it stands last. -/
theorem On.famMore {P:Program} {tt:TypeId} {x:ao} (h:On F0 w0 (pre++jW T g cap n D R++[x]) u) (hT:P.underlying tt=sS (.slice T)) {bytes:Nat} (hI:(P.info? T).map (λi=>(i.zero,i.size,i.bytes))=sS (sS (vp nN),1,bytes)) (hbb:bytes <= 1000) (hn:n<1000000) {d b:Nat}
  (hbk:u.heap[b]?=sS (.cells #[vp (sS ⟨d,0,nN⟩)] T (0,0))):
  ∃ g' cap' u',(∀ ty,(Builtin.append_ #[tt,tt] ty #[.slice (rA g) n cap,.slice (sS ⟨b,0,nN⟩) 1 1]).run P u=.ok (.slice (sS ⟨g',0,nN⟩) (n+1) cap') u') /\ On F0 w0 (pre++jW T (sS g') cap' (n+1) (ar D n d) (ar R n x)) u':=by
 obtain ⟨g',cap',u',hrun,h2⟩:=h.rowAppend (P:=P) (tt:=tt) (z:=vp nN) pre.length (zz rfl) hT hI rfl oM hn hbb (news:=[vp (sS ⟨d,0,nN⟩)]) rfl (by simp [Value.oneCell']) hbk
 refine ⟨g',cap',u',hrun,?_⟩
 have e1:Mm n D++[vp (sS ⟨d,0,nN⟩)]=Mm (n+1) (ar D n d):=by
  unfold Mm
  rw [List.range_succ,List.map_append,List.map_cons,List.map_nil,ah]
  congr 1
  exact List.map_congr_left (λi hi=>by rw [al _ _ (by have:=List.mem_range.1 hi;omega)])
 have e2:aS n R++[x]=aS (n+1) (ar R n x):=by
  unfold aS
  rw [List.range_succ,List.map_append,List.map_cons,List.map_nil,ah]
  congr 1
  exact List.map_congr_left (λi hi=>by rw [al _ _ (by have:=List.mem_range.1 hi;omega)])
 unfold jW at h2 ⊢
 rw [<- e1,<- e2]
 rw [List.append_assoc,List.set_append_right _ _ oM] at h2
 simpa using h2
end
def dq (m:Nat) (l:List Int) (x:Int):Int:=if x∈l then 6 else if l.length=m then 5 else 0
def lR (m:Nat) (l:List Int) (x:Int):List Int:=if dq m l x=0 then l++[x] else l
def AE (m:Nat) (l:List Int):List Int:=if l=[] then l else lR m l.tail (cA l)
section
variable {F:List Nat} {w u:wW} {b r m f:Nat} {R l:List Int}
theorem On.fifoSet (h:On F w (sJ b r m f R l) u) (i:Nat) (x:Int):On F w [ao.blk b (iI r m f l.length),ao.blk r (cI (R.set i x))] (u.setCell ⟨r,i,nN⟩ (vi iQ x)):=by
 have:=h.set 1 rfl i (vi iQ x)
 rw [uq] at this
 exact this
theorem iX (h:(aV b m l).holds F w) (x:Int):Calls tp 134 #[vp (sS ⟨b,0,nN⟩),vi iQ x] w (aq (aV b m (lR m l x)) F (vi iQ (dq m l x)) w):=by
 have hH:=Kb h x
 obtain ⟨r,f,R,hq,hr,hA⟩:=gO h
 have hfit:=hr.fits
 have hf:=hr.first
 have hRl:=hr.len
 obtain ⟨h1,h2⟩:=id hq
 by_cases hx:x∈l
 ·have e1:dq m l x=6:=pG hx
  rw [show lR m l x=l from nG (by rw [e1];decide),e1]
  rw [decide_eq_true hx] at hH
  clear e1
  go_in
  go_wp2_with (
   go_at_call 218
   refine hH.s λw1 m1=>?_
   have hB:=hA.keep m1
   have c0:w1.cell? ⟨b,0,nN⟩=sS (.slice (sS ⟨r,0,nN⟩) m m):=hB.cell 0 rfl 0
   have c1:w1.cell? ⟨b,1,nN⟩=sS (vi iQ (f:Nat)):=hB.cell 0 rfl 1
   have c2:w1.cell? ⟨b,2,nN⟩=sS (vi iQ (l.length:Nat)):=hB.cell 0 rfl 2
   have f2:w1.frozen? ⟨b,2,nN⟩=fF:=hB.free 0 rfl 2
   have hO:=zh hB
   clear hB
   )
  go_ret
  exact ⟨rfl,hO.out.fifo hq hr⟩
 ·rw [decide_eq_false hx] at hH
  by_cases hfull:l.length=m
  ·have e1:dq m l x=5:=by unfold dq;rw [nG hx,pG hfull]
   rw [show lR m l x=l from nG (by rw [e1];decide),e1]
   clear e1
   have hne:((l.length:Int)==m)=tQ:=by simp [hfull]
   go_in
   go_wp2_with (
    go_at_call 218
    refine hH.s λw1 m1=>?_
    have hB:=hA.keep m1
    have c0:w1.cell? ⟨b,0,nN⟩=sS (.slice (sS ⟨r,0,nN⟩) m m):=hB.cell 0 rfl 0
    have c1:w1.cell? ⟨b,1,nN⟩=sS (vi iQ (f:Nat)):=hB.cell 0 rfl 1
    have c2:w1.cell? ⟨b,2,nN⟩=sS (vi iQ (l.length:Nat)):=hB.cell 0 rfl 2
    have f2:w1.frozen? ⟨b,2,nN⟩=fF:=hB.free 0 rfl 2
    have hO:=zh hB
    clear hB
    )
   go_quiet (fail)
   go_wp2
   go_ret
   exact ⟨rfl,(hO.out.keep (mR.drewN _)).fifo hq hr⟩
  ·have e1:dq m l x=0:=by unfold dq;rw [nG hx,nG hfull]
   rw [show lR m l x=l++[x] from pG e1,e1]
   clear e1
   have hne:((l.length:Int)==m)=fF:=by simp;omega
   have hlt:l.length<m:=by omega
   have hpl:(f+l.length) % m<m:=Nat.mod_lt _ oM
   have hpush:=zh (hr.push hlt x)
   go_in
   go_wp2_with (
    go_at_call 218
    refine hH.s λw1 m1=>?_
    have hB:=hA.keep m1
    have c0:w1.cell? ⟨b,0,nN⟩=sS (.slice (sS ⟨r,0,nN⟩) m m):=hB.cell 0 rfl 0
    have c1:w1.cell? ⟨b,1,nN⟩=sS (vi iQ (f:Nat)):=hB.cell 0 rfl 1
    have c2:w1.cell? ⟨b,2,nN⟩=sS (vi iQ (l.length:Nat)):=hB.cell 0 rfl 2
    have f2:w1.frozen? ⟨b,2,nN⟩=fF:=hB.free 0 rfl 2
    have hO:=zh hB
    clear hB
    )
   go_quiet (fail)
   have d0:w1.cell? ⟨r,(f+l.length) % m,nN⟩=sS (vi iQ (ax R ((f+l.length) % m))):=by
    rw [hO.out.cell 1 rfl _];exact cx oM
   have d1:w1.frozen? ⟨r,(f+l.length) % m,nN⟩=fF:=hO.out.free 1 rfl _
   have hbr:b≠r:=hO.out.ne 0 1 dE rfl rfl
   have hrb:r≠b:=Ne.symm hbr
   have hat:=λk=>EJ hq hr (hO.out.keep ((af.refl [] w1).drewN k)) l.length oM
   generalize hp:(f+l.length) % m=p at *
   replace hp:=zh hp
   have hpI:(p:Int)<m:=by omega
   go_wp2
   go_region_held3 (λu=>u.cell? ⟨b,0,nN⟩=sS (.slice (sS ⟨r,0,nN⟩) m m) /\ u.cell? ⟨b,2,nN⟩=sS (vi iQ (l.length:Nat))) (exact ⟨by first|assumption|exact (af.setCell (S:=[r]) mR (.inl sM) _).at (by assumption) (by simpa using hbr),by first|assumption|exact (af.setCell (S:=[r]) mR (.inl sM) _).at (by assumption) (by simpa using hbr)⟩) (first
    | (
     go_at_call 219
     refine (hat _).r λk4=>?_
     ))
   go_wp2
   go_ret
   refine ⟨rfl,?_⟩
   refine On.fifo (f:=f) (R:=R.set p x) (r:=r) ?_ hq hpush.out
   have x1:=(hO.out.keep (u':=w1.drewN (nq+1+k4)) (mR.drewN _)).fifoSet p x
   have x2:=x1.set 0 rfl 2 (vi iQ ((l.length:Int)+1))
   simpa [sJ,iI] using x2
theorem qk (h:(aV b m l).holds F w):Calls tp 255 #[vp (sS ⟨b,0,nN⟩)] w (aq (aV b m l.tail) F (.tuple #[vi iQ (cA l),vi iQ (ea l)]) w):=by
 have hH:=oB h
 obtain ⟨r,f,R,hq,hr,hA⟩:=gO h
 obtain ⟨h1,h2⟩:=id hq
 have hf:=hr.first
 have c0:w.cell? ⟨b,0,nN⟩=sS (.slice (sS ⟨r,0,nN⟩) m m):=hA.cell 0 rfl 0
 have c1:w.cell? ⟨b,1,nN⟩=sS (vi iQ (f:Nat)):=hA.cell 0 rfl 1
 have c2:w.cell? ⟨b,2,nN⟩=sS (vi iQ (l.length:Nat)):=hA.cell 0 rfl 2
 have f1:w.frozen? ⟨b,1,nN⟩=fF:=hA.free 0 rfl 1
 have f2:w.frozen? ⟨b,2,nN⟩=fF:=hA.free 0 rfl 2
 have hO:=zh hA
 cases l with
 | nil=>
  rw [show ea []=12 from rfl,show cA []=0 from rfl] at *
  clear hA h
  go_in
  go_wp2_with (go_at_call 258;refine hH.r λk=>?_)
  go_ret2
  exact ⟨rfl,(hO.out.keep (mR.drewN _)).fifo hq hr⟩
 | cons x l=>
  rw [show ea (x :: l)=0 from rfl] at *
  have hat:=λk=>EJ hq hr (hA.keep ((af.refl [] w).drewN k)) 1 oM
  have hlen:(x :: l).length=l.length+1:=rfl
  have hfit:=hr.fits
  rw [hlen] at hfit
  rw [hlen] at c2
  have hpop:=zh hr.pop
  generalize cA (x :: l)=y at *
  generalize (f+1) % m=p at *
  show Calls _ _ _ _ (aq (aV b m l) _ _ _)
  clear hA h hr hlen
  have hbig:l.length<1000000:=by omega
  generalize hn:l.length=n at *
  replace hn:=zh hn
  go_in
  go_wp2_with (first
   | (go_at_call 258;refine hH.r λk=>?_)
   | (go_at_call 219;refine (hat _).r λk2=>?_))
  go_ret2
  refine ⟨by simp,?_⟩
  refine On.fifo (f:=p) (R:=R) (r:=r) ?_ hq hpop.out
  have x1:=(hO.out.keep (u':=w.drewN (k+k2)) (mR.drewN _)).set 0 rfl 1 (vi iQ (p:Nat))
  have x2:=x1.set 0 rfl 2 (vi iQ (n:Nat))
  have hn2:=hn.out
  subst hn2
  simpa [sJ,iI] using x2
theorem Hk (h:(aV b m l).holds F w):Calls tp 307 #[vp (sS ⟨b,0,nN⟩)] w (aq (aV b m (AE m l)) F (vi iQ (if l=[] then 12 else dq m l.tail (cA l))) w):=by
 have hP:=(On.one h).call 0 rfl (λF1 h1=>qk h1)
 by_cases hl:l=[]
 ·rw [show AE m l=l from pG hl,pG hl]
  rw [show ea l=12 from pG hl] at hP
  subst hl
  generalize cA ([]:List Int)=y at *
  go_in
  go_wp2_with (go_at_call 255;refine hP.s λw' hB=>?_)
  go_ret
  exact ⟨rfl,hB.gain1⟩
 ·rw [show AE m l=lR m l.tail (cA l) from nG hl,nG hl]
  rw [show ea l=0 from nG hl] at hP
  generalize cA l=y at *
  go_in
  go_wp2_with (first
   | (go_at_call 255;refine hP.s λw1 hB=>?_;have hQ:=hB.call 0 rfl (λF1 h1=>iX h1 y);clear hP)
   | (go_at_call 134;refine hQ.s λw2 hC=>?_))
  go_ret
  exact ⟨rfl,hC.gain1⟩
end
def ux (l:List Int) (x:Int):Int:=if x∈l then 0 else 4
theorem yv:∀ (l:List Int) (x:Int) (k:Nat),k<l.length -> ax l k=x -> (∀ i,i<k -> ax l i≠x) -> l.eraseIdx k=l.erase x
 | [],_,_,h,_,_=>by simp at h
 | a :: l,x,0,_,h2,_=>by
  have:a=x:=by simpa [ax] using h2
  subst this;simp
 | a :: l,x,k+1,h1,h2,h3=>by
  have h0:a≠x:=by have:=h3 0 oM;simpa [ax] using this
  have ih:=yv l x k (by simpa using h1) (by simpa [ax] using h2) (λi hi=>by have:=h3 (i+1) oM;simpa [ax] using this)
  rw [List.eraseIdx_cons_succ,ih,List.erase_cons_tail (by simpa using h0)]
section
variable {F:List Nat} {w u:wW} {b r m f:Nat} {R l:List Int}
theorem JZ (n:Nat) (R':List Int) (hm1:1 <= m) (hm2:m <= 1024) (hf:f<m) (hA:On F w [ao.blk b (iI r m f n),ao.blk r (cI R')] u) (i:Nat) (hi:i <= m):Calls tp 219 #[vp (sS ⟨b,0,nN⟩),vi iQ i] u (ay (vi iQ ((f+i) % m:Nat)) u):=by
 have c0:u.cell? ⟨b,0,nN⟩=sS (.slice (sS ⟨r,0,nN⟩) m m):=hA.cell 0 rfl 0
 have c1:u.cell? ⟨b,1,nN⟩=sS (vi iQ (f:Nat)):=hA.cell 0 rfl 1
 clear hA
 have hm0:(m:Int)≠0:=by omega
 have hm3:(0:Int)<m:=by omega
 go_in
 go_wp2
 go_quiet (fail)
 go_wp2
 go_ret
 refine ⟨?_,by repeat (first|exact aG.refl _|apply aG.drewN|apply aG.drew)⟩
 show Ending.returned (vi iQ (((f:Int)+i) % m))=_
 simp
theorem yu (h:(aV b m l).holds F w) (x:Int):Calls tp 305 #[vp (sS ⟨b,0,nN⟩),vi iQ x] w (aq (aV b m (l.erase x)) F (vi iQ (ux l x)) w):=by
 have hL:=kK h
 obtain ⟨r,f,R,hq,hr,hA⟩:=gO h
 have hfit:=hr.fits
 have hf:=hr.first
 have hRl:=hr.len
 obtain ⟨h1,h2⟩:=id hq
 have hrw:=hA.size 1 rfl
 have hbw:=hA.size 0 rfl
 by_cases hx:x∈l
 ·rw [show ux l x=0 from pG hx]
  have hl0:l≠[]:=by rintro rfl;simp at hx
  go_in
  go_wp2_with (first
   | (
    go_at_call 239
    refine hL.mono ?_
    rintro e w1 ⟨a,c,rfl,m1,hs⟩
    obtain ⟨rfl,rfl,h4⟩:=hs.resolve_left (λh=>hl0 h.1)
    have hI:=rN (sS ⟨w.heap.size,0,nN⟩) l.length l x w1 (.inr ⟨_,rfl,λj hj=>by rw [ad h4 j];exact cx hj⟩) oM
    have hH:=zh (And.intro m1 h4)
    clear hL m1 h4
    )
   | (
    go_at_call 316
    refine hI.mono ?_
    rintro e w2 ⟨k,rfl,hD,hk⟩
    obtain ⟨k,rfl,hkl,hkx,hkn⟩:=hk.resolve_left (λh=>by obtain ⟨i,hi,e⟩:=jI.1 hx;exact h.2 i hi e)
    have hkI:(0:Int) <= k:=by omega
    clear hI
    ))
  obtain ⟨m1,h4⟩:=hH.out
  have m2:af [] w w2:=af.trans (S:=[]) (T:=[]) m1 hD.mod sM
  have g2:w2.heap[w.heap.size]?=sS (cI l):=by rw [hD.heap];exact h4
  have hB:=hA.keep m2
  have hE:=yv l x k hkl hkx hkn
  have hSt:=qC.start hr hkl
  clear hH m1 h4 hD m2 hkn hkx hx hl0
  generalize hg:w.heap.size=g at *
  have hgr:g≠r:=by omega
  have hgb:g≠b:=by omega
  clear hg
  obtain ⟨n,hn⟩:∃ n,l.length=n:=⟨_,rfl⟩
  have hB2:On F w [ao.blk b (iI r m f n),ao.blk r (cI R)] w2:=by rw [<- hn];exact hB
  clear hB hA h hrw hbw
  rw [hn] at hfit hkl
  replace hE:=zh hE
  replace hn:=zh hn
  go_loopg [7] (n - 1 - k) (λgg i wr=>∃ (j:Nat) (R':List Int),i=vi iQ j /\ k <= j /\ j+gg+1=n /\ qC R' m f l k j /\ On F w [ao.blk b (iI r m f n),ao.blk r (cI R')] wr /\ wr.heap[g]?=sS (cI l))
  case atStart=>exact ⟨k,R,rfl,Nat.le_refl _,by omega,hSt,hB2,g2⟩
  case round=>
   clear hB2 hSt g2
   obtain ⟨j,R',rfl,hkj,hj,hSt,hB,g2⟩:=hrel
   have c0:wr.cell? ⟨b,0,nN⟩=sS (.slice (sS ⟨r,0,nN⟩) m m):=hB.cell 0 rfl 0
   have c2:wr.cell? ⟨b,2,nN⟩=sS (vi iQ (n:Nat)):=hB.cell 0 rfl 2
   have f2:wr.frozen? ⟨b,2,nN⟩=fF:=hB.free 0 rfl 2
   have hbr:b≠r:=hB.ne 0 1 dE rfl rfl
   have hrb:r≠b:=Ne.symm hbr
   have hbig:n<1000000:=by omega
   by_cases hlt:j+1<n
   ·have hltI:(j:Int)+1<l.length:=by have:=hn.out;omega
    have hltN:j+1<l.length:=by have:=hn.out;omega
    have hj0:(0:Int) <= (j:Int)+1:=by omega
    have hjw:IntKind.i64.wrap ((j:Int)+1)=(j:Int)+1:=by rw [IntKind.wrap_i64];omega
    have hjs:(j:Int)<1000000:=by omega
    have hls:l.length<1000000:=by have:=hn.out;omega
    have hjt:((j:Int)+1).toNat=j+1:=by omega
    have hlen:=hSt.len
    have hpl:(f+j) % m<m:=Nat.mod_lt _ oM
    have d0:wr.cell? ⟨r,(f+j) % m,nN⟩=sS (vi iQ (ax R' ((f+j) % m))):=by
     rw [hB.cell 1 rfl _];exact cx oM
    have d1:wr.frozen? ⟨r,(f+j) % m,nN⟩=fF:=hB.free 1 rfl _
    have gc:wr.cell? ⟨g,j+1,nN⟩=sS (vi iQ (ax l (j+1))):=by
     rw [ad g2 (j+1)];exact cx (by rw [hn.out];exact hlt)
    have hat:=λq=>JZ n R' h1 h2 hf (hB.keep ((af.refl [] wr).drewN q)) j oM
    have hNext:=zh (hSt.step hf (by rw [hn.out];exact hfit) hkj (by rw [hn.out];exact hlt))
    have hO:=zh hB
    have hG:=zh g2
    clear hSt hB g2
    generalize (f+j) % m=p at *
    generalize ax l (j+1)=y at *
    have hpI:(p:Int)<m:=by omega
    go_wp2
    go_region_held3 (λu=>u.cell? ⟨b,0,nN⟩=sS (.slice (sS ⟨r,0,nN⟩) m m) /\ u.cell? ⟨g,j+1,nN⟩=sS (vi iQ y)) (exact ⟨by first|assumption|exact (af.setCell (S:=[r]) mR (.inl sM) _).at (by assumption) (by simpa using hbr),by first|assumption|exact (af.setCell (S:=[r]) mR (.inl sM) _).at (by assumption) (by simpa using hgr)⟩) (first
     | (
      go_at_call 219
      refine (hat _).r λk4=>?_
      ))
    go_wp2
    go_roundg (gk - 1)
    case measure=>omega
    case rel=>
     refine ⟨j+1,R'.set p y,by go_num,by omega,by omega,hNext.out,?_,?_⟩
     ·have x1:=(hO.out.keep (u':=wr.drewN (1+k4)) (mR.drewN _)).set 1 rfl p (vi iQ y)
      rw [uq] at x1
      first
       | exact x1
       | (refine On.keep (u:=(wr.drewN (1+k4)).setCell ⟨r,p,nN⟩ (vi iQ y)) x1 ?_;exact mR)
     ·rw [bw hgr];exact hG.out
   ·have hltI:¬ (j:Int)+1<l.length:=by have:=hn.out;omega
    have hDone:=zh (hSt.done hf (by rw [hn.out];exact hfit) (by rw [hn.out];exact hkl) (by rw [hn.out];omega))
    have hO:=zh hB
    clear hSt hB g2
    have hn1:(l.eraseIdx k).length=n - 1:=by rw [List.length_eraseIdx_of_lt (by rw [hn.out];exact hkl),hn.out]
    have hN1:=zh hn1
    clear hn1
    go_wp2
    go_ret
    refine ⟨rfl,?_⟩
    rw [<- hE.out]
    refine On.fifo (f:=f) (R:=R') (r:=r) ?_ hq hDone.out
    unfold sJ
    rw [hN1.out]
    have x1:=hO.out.set 0 rfl 2 (vi iQ ((n - 1:Nat):Int))
    have e:((n:Int) - 1)=((n - 1:Nat):Int):=by omega
    rw [e]
    simpa [iI] using x1
 ·rw [show ux l x=4 from nG hx,List.erase_of_not_mem hx]
  go_in
  go_wp2_with (first
   | (
    go_at_call 239
    refine hL.mono ?_
    rintro e w1 ⟨a,c,rfl,m1,hs⟩
    have hI:=rN a c l x w1 (by
     rcases hs with ⟨h1,_⟩|⟨_,h2,h3⟩
     ·exact .inl h1
     ·exact .inr ⟨_,h2,λj hj=>by rw [ad h3 j];exact cx hj⟩) oM
    have hH:=zh m1
    clear hL m1 hs
    )
   | (
    go_at_call 316
    refine hI.mono ?_
    rintro e w2 ⟨k,rfl,hD,hk⟩
    obtain rfl:k=-1:=by
     rcases hk with h|⟨j,_,h1,h2,_⟩
     ·exact h.1
     ·exact absurd (jI.2 ⟨j,h1,h2⟩) hx
    clear hI hk
    ))
  go_ret
  exact ⟨rfl,(hA.keep (af.trans (S:=[]) (T:=[]) hH.out hD.mod sM)).fifo hq hr⟩
end
def zf (x:Nat -> Int):List Value:=(List.range 10).map λj=>vi iQ (x j)
theorem ze (x:Nat -> Int):(zf x).length=10:=by simp [zf]
theorem Lp (x:Nat -> Int) {j:Nat} (hj:j<10):(zf x)[j]?=sS (vi iQ (x j)):=by simp [zf,hj]
theorem Lo (x:Nat -> Int) {j:Nat} (hj:j<10) (v:Int):(zf x).set j (vi iQ v)=zf (ar x j v):=by
 unfold zf
 apply List.ext_getElem?
 intro i
 rw [List.getElem?_set]
 simp only [List.getElem?_map,List.length_map,List.length_range]
 by_cases e:j=i
 ·subst e;simp [hj,ah]
 ·rw [nG e]
  by_cases hi:i<10
  ·simp [hi,al _ _ (λq=>e q.symm)]
  ·simp [hi]
def Jn (x:Nat -> Int):Prop:=(∀ j,bD (x j)) /\ 0 <= x 9 /\ x 9 <= 4611686018427387904
def jZ.ok (t:jZ):Prop:=1 <= t.n /\ t.n <= 64 /\ ∀ i,Jn (t.c i)
def Ig (b r:Nat) (t:jZ):List ao:=[ao.blk b (.cells #[.slice (sS ⟨r,0,nN⟩) t.n t.n] 206 (0,0)),ao.blk r (.cells (db [] t.n (λi=>zf (t.c i)) []) 326 (0,0))]
def Ky (b:Nat) (t:jZ):ao:=ao.such t.ok (ao.ex λr:Nat=>ao.star (Ig b r t))
def Nd (n:Nat):jZ:=⟨n,λ_ _=>0⟩
theorem BH {a b:Int} (h1:sY a) (h2:sY b):0 <= a * b /\ a * b <= 4611686018427387904:=by
 obtain ⟨a1,a2⟩:=h1
 obtain ⟨b1,b2⟩:=h2
 have h:=Int.mul_le_mul a2 b2 b1 oM
 exact ⟨Int.mul_nonneg a1 b1,by omega⟩
section
variable {F:List Nat} {w u:wW} {b r:Nat} {t:jZ}
theorem Ey (h:(Ky b t).holds F w):∃ r,t.ok /\ On F w (Ig b r t) w:=by
 obtain ⟨hok,r,h⟩:=h
 exact ⟨r,hok,On.of h⟩
theorem On.mt (h:On F w (Ig b r t) u) (hok:t.ok):dN (Ky b t) F w u:=h.gains.imp λF' h'=>⟨hok,r,h'⟩
theorem On.mtC (h:On F w (Ig b r t) u) {i j:Nat} (hi:i<t.n) (hj:j<10) {o:Nat} (ho:o=i * 10+j):u.cell? ⟨r,o,nN⟩=sS (vi iQ (t.c i j)):=by
 rw [h.cell 1 rfl o,ij (k:=10) (λi=>ze _) hi hj (by simpa using ho)]
 exact Lp _ hj
theorem On.mtSet (h:On F w (Ig b r t) u) {i j:Nat} (hi:i<t.n) (hj:j<10) (v:Int) {o:Nat} (ho:o=i * 10+j):On F w (Ig b r (t.put i (ar (t.c i) j v))) (u.setCell ⟨r,o,nN⟩ (vi iQ v)):=by
 have:=h.set 1 rfl o (vi iQ v)
 rw [ig (k:=10) (λi=>ze _) hi hj _ (by simpa using ho),Lo _ hj] at this
 have e:ar (λi=>zf (t.c i)) i (zf (ar (t.c i) j v))=λx=>zf ((t.put i (ar (t.c i) j v)).c x):=by
  funext x
  by_cases e:x=i
  ·subst e;rw [ah];show _=zf (ar t.c x _ x);rw [ah]
  ·rw [al _ _ e];show _=zf (ar t.c i _ x);rw [al _ _ e]
 rw [e] at this
 exact this
theorem Gz (t:jZ) (i:Nat) (x y:Nat -> Int):(t.put i x).put i y=t.put i y:=by
 unfold jZ.put
 simp only [jZ.mk.injEq,true_and]
 funext j
 by_cases e:j=i
 ·subst e;rw [ah,ah]
 ·rw [al _ _ e,al _ _ e,al _ _ e]
theorem Dq (t:jZ) (i:Nat):t.put i (t.c i)=t:=by
 cases t with
 | mk n c=>
  show jZ.mk n (ar c i (c i))=_
  congr 1
  funext x
  by_cases e:x=i
  ·subst e;exact ah _ _ _
  ·exact al _ _ e
theorem Bb {x:Nat -> Int} (h:Jn x) (j:Nat) (hj:j<9) (a p:Int):Jn (xO x j a p):=by
 unfold xO
 split
 ·rename_i e
  unfold iw at e
  split at e
  ·omega
  ·rename_i h1
   split at e
   ·omega
   ·rename_i h2
    have h3:sY a /\ sY p:=by
     constructor<;>(apply Classical.byContradiction;intro q;simp [q] at h1)
    have h4:=BH h3.1 h3.2
    obtain ⟨h5,h6,h7⟩:=h
    refine ⟨λi=>?_,?_,?_⟩
    ·by_cases e1:i=j
     ·subst e1;rw [ah];exact Eb _
     ·rw [al _ _ e1]
      by_cases e2:i=9
      ·subst e2;rw [ah];unfold bD;omega
      ·rw [al _ _ e2];exact h5 i
    ·rw [al _ _ oM,ah];omega
    ·rw [al _ _ oM,ah];omega
 ·exact h
theorem AW (h:t.ok) (i:Nat) {x:Nat -> Int} (hx:Jn x):(t.put i x).ok:=by
 refine ⟨h.1,h.2.1,λj=>?_⟩
 show Jn (ar t.c i x j)
 by_cases e:j=i
 ·subst e;rw [ah];exact hx
 ·rw [al _ _ e];exact h.2.2 j
theorem pz (n:Int) (w:wW):Calls tp 311 #[vi iQ n] w (ay (vb (decide (sY n))) w):=by
 unfold sY
 by_cases h:0 <= n
 ·go_in
  go_wp2
  go_ret
  exact ay.of (by simp [h]) dz
 ·have e:decide (0 <= n /\ n <= 2147483648)=fF:=by simp;omega
  rw [e]
  have h':n<0:=by omega
  go_in
  go_wp2
  go_ret
  exact ay.of sM dz
theorem uK (h:On F w (Ig b r t) u) (cpu:Int):Calls tp 263 #[vp (sS ⟨b,0,nN⟩),vi iQ cpu] u (ay (.tuple #[vp (if t.is cpu then sS ⟨r,cpu.toNat * 10,nN⟩ else nN),vi iQ (if t.is cpu then 0 else 3)]) u):=by
 have c0:u.cell? ⟨b,0,nN⟩=sS (.slice (sS ⟨r,0,nN⟩) t.n t.n):=h.cell 0 rfl 0
 by_cases hi:t.is cpu
 ·rw [pG hi,pG hi]
  obtain ⟨h1,h2⟩:=hi
  obtain ⟨c,rfl⟩:=iN h1
  simp only [Int.toNat_natCast]
  clear h
  go_in
  go_wp2
  go_ret2
  exact ay.of sM dz
 ·rw [nG hi,nG hi]
  have h2:cpu<0 \/ (¬ cpu<0 /\ (t.n:Int) <= cpu):=by unfold jZ.is at hi;omega
  clear h hi
  rcases h2 with h2|⟨h1,h2⟩
  all_goals
   go_in
   go_wp2
   go_ret2
   exact ay.of (rfl) dz
theorem xM (h:On F w (Ig b r t) u) (hok:t.ok) {c j:Nat} (hc:c<t.n) (hj:j<9) (o:Nat) (ho:o=c * 10+j) (a p:Int):Calls tp 264 #[vp (sS ⟨r,c * 10,nN⟩),vp (sS ⟨r,o,nN⟩),vi iQ a,vi iQ p] u (λe u'=>e=.returned (vi iQ (iw (t.c c) a p)) /\ On F w (Ig b r (t.put c (xO (t.c c) j a p))) u'):=by
 have hA:=λw=>pz a w
 have hP:=λw=>pz p w
 have hx:=hok.2.2 c
 have c9:=h.mtC hc (j:=9) dE (o:=c * 10+9) rfl
 have cj:=h.mtC hc (j:=j) oM (o:=o) ho
 have f9:u.frozen? ⟨r,c * 10+9,nN⟩=fF:=h.free 1 rfl _
 have fj:u.frozen? ⟨r,o,nN⟩=fF:=h.free 1 rfl _
 have hself:=Dq t c
 unfold xO
 by_cases h1:sY a
 case neg=>
  have e:iw (t.c c) a p=2:=by unfold iw;rw [pG (.inl h1)]
  rw [e,nG dE,hself]
  rw [decide_eq_false h1] at hA
  clear hP hself h1 e cj
  have H:=zh h
  clear h
  go_in
  go_wp2_with (go_at_call 311;refine (hA _).r λk=>?_)
  go_ret
  exact ⟨rfl,H.out.keep (mR.drewN _)⟩
 rw [decide_eq_true h1] at hA
 by_cases h2:sY p
 case neg=>
  have e:iw (t.c c) a p=2:=by unfold iw;rw [pG (.inr h2)]
  rw [e,nG dE,hself]
  rw [decide_eq_false h2] at hP
  clear hself h2 e cj h1
  have H:=zh h
  clear h
  go_in
  go_wp2_with (first
   | (go_at_call 311;refine (hA _).mono ?_;clear hA;rintro e w' ⟨rfl,k,rfl⟩)
   | (go_at_call 311;refine (hP _).r λk2=>?_))
  go_ret
  exact ⟨rfl,H.out.keep (by first|exact mR.drewN _|exact mR)⟩
 rw [decide_eq_true h2] at hP
 have hb:=BH h1 h2
 obtain ⟨hb1,hb2⟩:=hb
 have hw:IntKind.i64.wrap (a * p)=a * p:=by rw [IntKind.wrap_i64];omega
 obtain ⟨hx1,hx2,hx3⟩:=hx
 have hN:=λw=>Je (t.c c 9) (a * p) w (hx1 9) ⟨by omega,by omega⟩
 have hE:iw (t.c c) a p=if 4611686018427387904<t.c c 9+a * p then 16 else 0:=by unfold iw;rw [nG (by simp [h1,h2])]
 by_cases hs:4611686018427387904<t.c c 9+a * p
 ·rw [pG hs] at hE
  rw [hE,nG dE,hself]
  have H:=zh h
  clear h hself h1 h2 cj hE hok
  by_cases hi:bD (t.c c 9+a * p)
  ·rw [show tw (t.c c 9) (a * p)=t.c c 9+a * p from pG hi,show addE (t.c c 9) (a * p)=0 from pG hi] at hN
   obtain ⟨hi1,hi2⟩:=hi
   generalize t.c c 9=x at *
   generalize hz:a * p=z at *
   go_in
   go_wp2_with (first
    | (go_at_call 311;refine (hA _).mono ?_;clear hA;rintro e w' ⟨rfl,k,rfl⟩)
    | (go_at_call 311;refine (hP _).r λk2=>?_)
    | (go_at_call 284;refine (hN _).r λk3=>?_))
   go_ret
   exact ⟨rfl,H.out.keep (by first|exact mR.drewN _|exact mR)⟩
  ·rw [show tw (t.c c 9) (a * p)=0 from nG hi,show addE (t.c c 9) (a * p)=16 from nG hi] at hN
   generalize t.c c 9=x at *
   generalize hz:a * p=z at *
   clear hi
   go_in
   go_wp2_with (first
    | (go_at_call 311;refine (hA _).mono ?_;clear hA;rintro e w' ⟨rfl,k,rfl⟩)
    | (go_at_call 311;refine (hP _).r λk2=>?_)
    | (go_at_call 284;refine (hN _).r λk3=>?_))
   go_ret
   exact ⟨rfl,H.out.keep (by first|exact mR.drewN _|exact mR)⟩
 ·rw [nG hs] at hE
  rw [hE,pG rfl]
  have hi:bD (t.c c 9+a * p):=⟨by omega,by omega⟩
  rw [show tw (t.c c 9) (a * p)=t.c c 9+a * p from pG hi,show addE (t.c c 9) (a * p)=0 from pG hi] at hN
  obtain ⟨hi1,hi2⟩:=hi
  have hpp:=Gz t c
  have H:=zh h
  have ewr:IntKind.i64.wrap (t.c c j+a)=wr (t.c c j+a):=rfl
  subst ho
  have h9j:¬ (9=j):=by omega
  have hj9:¬ (j=9):=by omega
  have HP:=zh hpp
  clear h hself h1 h2 hE hok hpp
  have hfin:∀ k,On F w (Ig b r (t.put c (ar (ar (t.c c) 9 (t.c c 9+a * p)) j (wr (t.c c j+a))))) (((u.drewN k).setCell ⟨r,c * 10+9,nN⟩ (vi iQ (t.c c 9+a * p))).setCell ⟨r,c * 10+j,nN⟩ (vi iQ (wr (t.c c j+a)))):=by
   intro k
   have q:=((H.out.keep (u':=u.drewN k) (mR.drewN _)).mtSet hc (j:=9) dE (t.c c 9+a * p) (o:=c * 10+9) rfl).mtSet hc (j:=j) oM (wr (t.c c j+a)) rfl
   rw [HP.out] at q
   have e:(t.put c (ar (t.c c) 9 (t.c c 9+a * p))).c c=ar (t.c c) 9 (t.c c 9+a * p):=ah _ _ _
   rw [e] at q
   exact q
  replace hfin:=zh hfin
  generalize t.c c j=y at *
  generalize t.c c 9=x at *
  generalize hz:a * p=z at *
  have hyw:=Eb (y+a)
  generalize wr (y+a)=yw at *
  go_in
  go_wp2_with (first
   | (go_at_call 311;refine (hA _).mono ?_;clear hA;rintro e w' ⟨rfl,k,rfl⟩)
   | (go_at_call 311;refine (hP _).r λk2=>?_)
   | (go_at_call 284;refine (hN _).r λk3=>?_))
  go_ret
  refine ⟨rfl,?_⟩
  first
   | exact hfin.out _
   | simpa [ewr] using hfin.out _
theorem Dr (h:(Ky b t).holds F w) (cpu a p:Int):Calls tp 194 #[vp (sS ⟨b,0,nN⟩),vi iQ cpu,vi iQ a,vi iQ p] w (aq (Ky b (t.work cpu a p)) F (vi iQ (t.workE cpu a p)) w):=by
 obtain ⟨r,hok,hA⟩:=Ey h
 have hF:=uK hA cpu
 unfold jZ.work jZ.workE
 by_cases hi:t.is cpu
 ·rw [pG hi,nG (by simpa using hi)]
  rw [pG hi,pG hi] at hF
  obtain ⟨h1,h2⟩:=hi
  obtain ⟨c,rfl⟩:=iN h1
  simp only [jZ.at,Int.toNat_natCast] at *
  have hc:c<t.n:=by omega
  have hp:=λk=>xM (hA.keep (u':=w.drewN k) (mR.drewN k)) hok hc (j:=0) oM (c * 10) rfl a p
  have hok2:=AW hok c (Bb (hok.2.2 c) 0 oM a p)
  clear h hA
  go_in
  go_wp2_with (first
   | (go_at_call 263;refine hF.r λk=>?_)
   | (go_at_call 264;refine (hp _).s λw2 hB=>?_))
  go_ret
  exact ⟨rfl,hB.mt hok2⟩
 ·rw [nG hi,pG hi]
  rw [nG hi,nG hi] at hF
  clear h hi
  go_in
  go_wp2_with (go_at_call 263;refine hF.r λk=>?_)
  go_ret
  exact ⟨rfl,(hA.keep (mR.drewN k)).mt hok⟩
theorem Ds (h:(Ky b t).holds F w) (cpu way a p:Int):Calls tp 193 #[vp (sS ⟨b,0,nN⟩),vi iQ cpu,vi iQ way,vi iQ a,vi iQ p] w (aq (Ky b (t.rest cpu way a p)) F (vi iQ (t.restE cpu way a p)) w):=by
 obtain ⟨r,hok,hA⟩:=Ey h
 have hF:=uK hA cpu
 by_cases hi:t.is cpu
 ·rw [pG hi,pG hi] at hF
  by_cases hw:way<0 \/ 8 <= way
  ·rw [show t.rest cpu way a p=t from nG (λx=>x.2 hw),show t.restE cpu way a p=3 by unfold jZ.restE;rw [nG (λx=>x hi),pG hw]]
   have hB:=zh (λk=>(hA.keep (u':=w.drewN k) (mR.drewN k)).mt hok)
   clear h hA
   have h2:way<0 \/ (¬ way<0 /\ 8 <= way):=by omega
   clear hw
   rcases h2 with h2|⟨h1,h2⟩
   all_goals
    go_in
    go_wp2_with (go_at_call 263;refine hF.r λk=>?_)
    go_ret
    exact ⟨rfl,hB.out _⟩
  ·rw [show t.rest cpu way a p=_ from pG ⟨hi,hw⟩,show t.restE cpu way a p=iw (t.at cpu) a p by unfold jZ.restE;rw [nG (λx=>x hi),nG hw]]
   obtain ⟨h1,h2⟩:=hi
   obtain ⟨c,rfl⟩:=iN h1
   obtain ⟨v,rfl⟩:=iN (show 0 <= way by omega)
   simp only [jZ.at,Int.toNat_natCast] at *
   have hc:c<t.n:=by omega
   have hv:v<8:=by omega
   have hvI:(v:Int)<8:=by omega
   have hp:=λk=>xM (hA.keep (u':=w.drewN k) (mR.drewN k)) hok hc (j:=1+v) oM (c * 10+1+v) oM a p
   have hok2:=AW hok c (Bb (hok.2.2 c) (1+v) oM a p)
   clear h hA hw
   go_in
   go_wp2_with (first
    | (go_at_call 263;refine hF.r λk=>?_)
    | (go_at_call 264;refine (hp _).s λw2 hB=>?_))
   go_ret
   exact ⟨rfl,hB.mt hok2⟩
 ·rw [show t.rest cpu way a p=t from nG (λx=>hi x.1),show t.restE cpu way a p=3 from pG hi]
  rw [nG hi,nG hi] at hF
  clear h hi
  go_in
  go_wp2_with (go_at_call 263;refine hF.r λk=>?_)
  go_ret
  exact ⟨rfl,(hA.keep (mR.drewN k)).mt hok⟩
end
theorem MC:(tp.info? 326).map (λi=>(i.zero.map Value.cells,i.size))=sS (sS (zf λ_=>0).toArray,10):=by kernel_rfl
theorem LA:((tp.info? 326).map (λi=>decide (i.bytes <= 1000)))=sS tQ:=by kernel_rfl
theorem Jq (n:Nat) (h2:n <= 64) (w:wW):(Instr.makeSlice 204 (vi iQ n) (vi iQ n)).run tp w=.ok (.slice (sS ⟨w.heap.size,0,nN⟩) n n) (w.alloc (.cells (db [] n (λ_=>zf λ_=>0) []) 326 (0,0))):=by
 obtain ⟨i,hi,hzz⟩:=Option.map_eq_some_iff.1 MC
 obtain ⟨i2,hi2,hb⟩:=Option.map_eq_some_iff.1 LA
 have:i2=i:=by rw [hi] at hi2;exact (Option.some.inj hi2).symm
 subst this
 simp only [Prod.mk.injEq] at hzz
 obtain ⟨hz,hs⟩:=hzz
 obtain ⟨z,hz1,hz2⟩:=Option.map_eq_some_iff.1 hz
 have hb2:=of_decide_eq_true hb
 have:=Go.run_make (P:=tp) w 204 326 i2 z Tryz.underlying204 hi hz1 .i64 .i64 n n oM oM (by have:(i2.bytes:Int) * n <= 1000 * 64:=Int.mul_le_mul oM oM oM oM;omega) oM
 rw [this,Int.toNat_natCast,hs,hz2]
 rw [ou (zf λ_=>0) 10 (ze _) dE n]
theorem Ms {n:Nat} (h1:1 <= n) (h2:n <= 64):(Nd n).ok:=⟨h1,h2,λi=>⟨λj=>vE,Int.le_refl _,by show (0:Int) <= _;decide⟩⟩
theorem GA (n:Nat) (h1:1 <= n) (h2:n <= 64) (w:wW):Calls tp 66 #[vi iQ n] w (dd (λd:Nat=>.tuple #[vp (sS ⟨d,0,nN⟩),vi iQ 0]) (λd=>Ky d (Nd n)) [] w):=by
 have hmk:=λw=>Jq n h2 w
 have hB:On [] w (Ig (w.heap.size+1) w.heap.size (Nd n)) ((w.alloc (.cells (db [] n (λ_=>zf λ_=>0) []) 326 (0,0))).alloc (.cells #[.slice (sS ⟨w.heap.size,0,nN⟩) n n] 206 (0,0))):=by
  have x1:=(On.start w).alloc (.cells (db [] n (λ_=>zf λ_=>0) []) 326 (0,0))
  have x2:=(x1.alloc (.cells #[.slice (sS ⟨w.heap.size,0,nN⟩) n n] 206 (0,0))).front
  simpa [Ig,Nd] using x2
 have hlen:(w.alloc (.cells (db [] n (λ_=>zf λ_=>0) []) 326 (0,0))).heap.size=w.heap.size+1:=cH _ _
 have HB:=zh hB
 clear hB
 go_in
 go_wp2
 go_ret2
 refine ⟨w.heap.size+1,by simp,?_⟩
 exact On.mt HB.out (Ms h1 h2)
def jA (f:Nat -> Int):Nat -> Int
 | 0=>0
 | j+1=>jA f j+f j
theorem yR {f:Nat -> Int} (h:∀ i,0 <= f i /\ f i <= 1099511627776):∀ j:Nat,0 <= jA f j /\ jA f j <= 1099511627776 * j
 | 0=>by simp [jA]
 | j+1=>by
  have:=yR h j
  have:=h j
  unfold jA
  omega
theorem DJ (g:dM) {i:Nat} (hi:i<4) (w:wW):(Instr.index 210 (.agg (fD 4 (jn g)).toArray) (vi iQ i)).run tp w=.ok (.agg #[vi iQ (g.busy i),vi iQ (g.all i)]) w:=by
 have h1:((i:Nat):Int)<4:=by omega
 have hu:=Tryz.underlying210
 have e:=qg (f:=jn g) (k:=2) (λ_=>rfl) hi
 simp [Instr.index,asIntOf,Sem.run_bind,run_underlying hu,part,Tryz.isAgg209,Tryz.sizeOf209,h1,Result.andThen]
 rw [pG hi]
 have e2:=e
 simp at e2
 rw [e2]
 rfl
section
variable {F:List Nat} {w u:wW} {b:Nat} {g:dM}
theorem yn (h:On F w [ao.blk b (fX g)] u):u.rangeAt b 2 (fD 4 (jn g)) /\ (tp.info? 210).map (·.size)=sS (fD 4 (jn g)).length:=by
 constructor
 ·intro j v hj
  have hl:=br (k:=2) (f:=jn g) (λ_=>rfl) 4
  have hlt:j<8:=by have:=(List.getElem?_eq_some_iff.1 hj).1;omega
  have h1:=h.govC (i:=j / 2) oM (j % 2) oM (o:=2+j) oM
  have h2:=kH (k:=2) (f:=jn g) (λ_=>rfl) (i:=j / 2) (j:=j % 2) oM 4 oM
  have e:j / 2 * 2+j % 2=j:=by omega
  rw [e,hj] at h2
  rw [h1,<- h2]
 ·have:(tp.info? 210).map (·.size)=sS 8:=by kernel_rfl
  rw [this,br (k:=2) (λ_=>rfl)]
theorem Hf (h:(fW b g).holds F w):Calls tp 310 #[vp (sS ⟨b,0,nN⟩)] w (λe w'=>e=.returned (vi iQ g.busyV) /\ af [] w w'):=by
 obtain ⟨hok,hA⟩:=qh h
 obtain ⟨hrg,hinf⟩:=yn hA
 have hrg:=λ(w':wW) (m:af [] w w')=>(yn (hA.keep m)).1
 have hix:=λ(i:Nat) (hi:i<4) (w:wW)=>DJ g hi w
 have hbd:=λj=>yR (f:=g.busy) (λi=>⟨(hok.2.1 i).1,by have:=hok.2.1 i;omega⟩) j
 have had:=λj=>yR (f:=g.all) (λi=>⟨by have:=hok.2.1 i;omega,by have:=hok.2.1 i;omega⟩) j
 have hpc:=λw=>AR (jA g.busy 4) (jA g.all 4) (by have:=hbd 4;omega) ⟨by have:=had 4;omega,by have:=had 4;omega⟩ w
 have hV:sX (jA g.busy 4) (jA g.all 4)=g.busyV:=by
  unfold dM.busyV
  simp [jA]
 rw [hV] at hpc
 generalize g.busyV=V at *
 generalize hAA:fD 4 (jn g)=A at *
 have hb1:=λi=>hok.2.1 i
 clear hA h hok hAA hV
 go_in
 go_wp2_with (refine wpList_load_mid rfl 210 _ rfl b 2 rfl A _ (hrg _ (by repeat (first|with_reducible exact mR|with_reducible apply af.alloc|with_reducible apply af.drewN))) Tryz.underlying210 rfl hinf ?_)
 clear hrg hinf
 go_loopg [12] 4 (λgg i wr=>∃ j:Nat,i=vi iQ j /\ j+gg=4 /\ wr.heap[w.heap.size]?=sS (.cells #[vi iQ (jA g.busy j),vi iQ (jA g.all j)] 209 (0,0)) /\ af [] w wr)
 case atStart=>exact ⟨0,rfl,by omega,ai _ _,mR.alloc _⟩
 case round=>
  obtain ⟨j,rfl,hj,hS,m⟩:=hrel
  have c0:wr.cell? ⟨w.heap.size,0,nN⟩=sS (vi iQ (jA g.busy j)):=ad hS 0
  have c1:wr.cell? ⟨w.heap.size,1,nN⟩=sS (vi iQ (jA g.all j)):=ad hS 1
  have f0:wr.frozen? ⟨w.heap.size,0,nN⟩=fF:=aD hS 0
  have f1:wr.frozen? ⟨w.heap.size,1,nN⟩=fF:=aD hS 1
  have s0:=cq hS
  by_cases hlt:j<4
  ·have hltI:(j:Int)<4:=by omega
   have hx:=λw=>hix j hlt w
   have e1:jA g.busy (j+1)=jA g.busy j+g.busy j:=rfl
   have e2:jA g.all (j+1)=jA g.all j+g.all j:=rfl
   obtain ⟨b1,b2⟩:=hbd j
   obtain ⟨a1,a2⟩:=had j
   obtain ⟨x1,x2,x3⟩:=hb1 j
   have HE:=zh (And.intro e1 e2)
   have HS:=zh hS
   clear hix hbd had hb1 e1 e2 hS hpc
   generalize jA g.busy j=sb at *
   generalize jA g.all j=sa at *
   generalize g.busy j=y at *
   generalize g.all j=z at *
   have hne:¬ (wr.heap.size=w.heap.size):=by omega
   have hne2:¬ (w.heap.size=wr.heap.size):=by omega
   go_wp2
   go_roundg (gk - 1)
   case measure=>omega
   case rel=>
    refine ⟨j+1,by go_num,by omega,?_,?_⟩
    ·rw [HE.out.1,HE.out.2]
     have:=dm (o:=Obj.cells #[vi iQ y,vi iQ z] 209 (0,0)) (bm (bm HS.out 0 (vi iQ (sb+y))) 1 (vi iQ (sa+z)))
     simpa using this
    ·exact ((m.setCell (.inr (Nat.le_refl _)) _).setCell (.inr (Nat.le_refl _)) _).alloc _
  ·obtain rfl:j=4:=by omega
   have HS:=zh hS
   clear hix hbd had hb1 hS
   generalize jA g.busy 4=sb at *
   generalize jA g.all 4=sa at *
   go_wp2_with (go_at_call 340;refine (hpc _).r λk=>?_)
   go_ret
   exact ⟨rfl,m.drewN _⟩
theorem He (h:(fW b g).holds F w):Calls tp 262 #[vp (sS ⟨b,0,nN⟩)] w (λe w'=>e=.returned (vi iQ g.freqV) /\ af [] w w'):=by
 have hL:=BS h
 have hB:=λw' (m:af [] w w')=>Hf ((fW b g).keep h m sM)
 obtain ⟨⟨h1,h2,h3⟩,_⟩:=h.1
 have hS:=λw=>Gk g.low g.high g.busyV oM oM oM oM w
 unfold dM.freqV
 generalize lg g.low g.high g.busyV=V at *
 clear h h1 h2 h3
 go_in
 go_wp2_with (first
  | (go_at_call 308;refine hL.r λk=>?_)
  | (go_at_call 310;refine (hB _ (by repeat (first|with_reducible exact mR|with_reducible apply af.alloc|with_reducible apply af.drewN))).s λw2 m2=>?_)
  | (go_at_call 309;refine (hS _).r λk3=>?_))
 go_ret
 exact ⟨rfl,(m2.undrewN).drewN _⟩
theorem On.govFeed (h:On F w [ao.blk b (fX g)] u) {i:Nat} (hi:i<4) (x y:Int):On F w [ao.blk b (fX { g with busy:=ar g.busy i x,all:=ar g.all i y })] ((u.setCell ⟨b,2+i * 2,nN⟩ (vi iQ x)).setCell ⟨b,2+i * 2+1,nN⟩ (vi iQ y)):=by
 have q:=h.set 0 rfl (2+i * 2) (vi iQ x)
 rw [ig (k:=2) (f:=jn g) (pre:=[vi iQ g.low,vi iQ g.high]) (λ_=>rfl) hi (j:=0) dE _ (o:=2+i * 2) sM] at q
 have hl2:∀ j,(ar (jn g) i ((jn g i).set 0 (vi iQ x)) j).length=2:=by
  intro j;unfold ar;split<;>rfl
 have q2:=q.set 0 rfl (2+i * 2+1) (vi iQ y)
 rw [ig (k:=2) (pre:=[vi iQ g.low,vi iQ g.high]) hl2 hi (j:=1) dE _ (o:=2+i * 2+1) (by simp;omega)] at q2
 have e:ar (ar (jn g) i ((jn g i).set 0 (vi iQ x))) i ((ar (jn g) i ((jn g i).set 0 (vi iQ x)) i).set 1 (vi iQ y))=jn { g with busy:=ar g.busy i x,all:=ar g.all i y }:=by
  funext j
  by_cases e:j=i
  ·subst e;simp [ah,jn]
  ·simp [al _ _ e,jn]
 rw [e] at q2
 exact q2
theorem On.govAt' (h:On F w [ao.blk b (fX g)] u) (n:Nat):On F w [ao.blk b (fX { g with at':=n })] (u.setCell ⟨b,10,nN⟩ (vi iQ (n:Nat))):=by
 have q:=h.set 0 rfl 10 (vi iQ (n:Nat))
 rw [qx (k:=2) (n:=4) (f:=jn g) (pre:=[vi iQ g.low,vi iQ g.high]) (λ_=>rfl) (j:=0) _ (o:=10) sM] at q
 exact q
theorem LN (hok:g.ok) (x y:Int):(g.feed x y).ok:=by
 unfold dM.feed
 split
 ·rename_i e
  unfold dM.feedE at e
  split at e
  ·omega
  ·rename_i h1
   refine ⟨hok.1,λi=>?_,Nat.mod_lt _ dE⟩
   show 0 <= ar g.busy g.at' x i /\ ar g.busy g.at' x i <= ar g.all g.at' y i /\ ar g.all g.at' y i <= _
   by_cases e2:i=g.at'
   ·subst e2;rw [ah,ah];omega
   ·rw [al _ _ e2,al _ _ e2];exact hok.2.1 i
 ·exact hok
theorem yp (h:(fW b g).holds F w) (x y:Int):Calls tp 192 #[vp (sS ⟨b,0,nN⟩),vi iQ x,vi iQ y] w (aq (fW b (g.feed x y)) F (.tuple #[vi iQ (g.feedV x y),vi iQ (g.feedE x y)]) w):=by
 obtain ⟨hok,hA⟩:=qh h
 have hok2:=LN hok x y
 by_cases h1:x<0 \/ y<x \/ 1099511627776<y
 ·have e:g.feedE x y=2:=pG h1
  rw [show g.feed x y=g by unfold dM.feed;rw [nG (by rw [e];decide)],show g.feedV x y=0 by unfold dM.feedV;rw [nG (by rw [e];decide)],e]
  have h2:x<0 \/ (¬ x<0 /\ y<x) \/ (¬ x<0 /\ ¬ y<x /\ 1099511627776<y):=by omega
  have H:=zh (hA.gov hok)
  clear h hA h1 e hok2
  rcases h2 with h2|⟨h2,h3⟩|⟨h2,h3,h4⟩
  all_goals
   go_in
   go_wp2
   go_ret2
   exact ⟨rfl,H.out⟩
 ·have e:g.feedE x y=0:=nG h1
  have eF:g.feed x y={ g with busy:=ar g.busy g.at' x,all:=ar g.all g.at' y,at':=(g.at'+1) % 4 }:=pG e
  rw [show g.feedV x y=(g.feed x y).freqV from pG e,e]
  have c10:=hA.govAt
  have hat:=hok.2.2
  have hfr:=λw' (hg:dN (fW b (g.feed x y)) F w w')=>He hg.choose_spec.1
  have f10:w.frozen? ⟨b,10,nN⟩=fF:=hA.free 0 rfl 10
  have d0:=hA.govC hat 0 dE (o:=2+g.at' * 2) rfl
  have d1:=hA.govC hat 1 dE (o:=2+g.at' * 2+1) rfl
  have q0:w.frozen? ⟨b,2+g.at' * 2,nN⟩=fF:=hA.free 0 rfl _
  have q1:w.frozen? ⟨b,2+g.at' * 2+1,nN⟩=fF:=hA.free 0 rfl _
  simp only [jn,List.getElem?_cons_zero,List.getElem?_cons_succ] at d0 d1
  have h2:¬ x<0:=by omega
  have h3:¬ y<x:=by omega
  have h4:¬ 1099511627776<y:=by omega
  have HA:=zh hA
  have HEF:=zh eF
  generalize (g.feed x y).freqV=V at *
  clear h hA h1 e eF
  go_in
  go_wp2
  go_region
  have hB:On F w [ao.blk b (fX { g with busy:=ar g.busy g.at' x,all:=ar g.all g.at' y })] (((w.setCell ⟨b,2+g.at' * 2,nN⟩ (vi iQ x)).setCell ⟨b,2+g.at' * 2+1,nN⟩ (vi iQ y)).drew):=(HA.out.govFeed hat x y).keep mR.drew
  have k10:=hB.govAt
  have g10:(((w.setCell ⟨b,2+g.at' * 2,nN⟩ (vi iQ x)).setCell ⟨b,2+g.at' * 2+1,nN⟩ (vi iQ y)).drew).frozen? ⟨b,10,nN⟩=fF:=hB.free 0 rfl 10
  have hC:=hB.govAt' ((g.at'+1) % 4)
  have hfr2:=hfr _ (by rw [HEF.out];rw [HEF.out] at hok2;exact hC.gov hok2)
  have hF2:=hC.gov (by rw [HEF.out] at hok2;exact hok2)
  have z10:=hB.size 0 rfl
  clear hB hC hfr c10 f10 d0 d1 q0 q1
  generalize ((w.setCell ⟨b,2+g.at' * 2,nN⟩ (vi iQ x)).setCell ⟨b,2+g.at' * 2+1,nN⟩ (vi iQ y)).drew=W1 at *
  have eA:(((g.at'+1) % 4:Nat):Int)=((g.at':Nat)+1:Int) % 4:=by omega
  rw [eA] at hfr2 hF2
  clear eA
  have HF2:=zh hF2
  clear hF2
  dsimp only at *
  generalize g.at'=at0 at *
  go_wp2_with (go_at_call 262;refine hfr2.s λw2 m2=>?_)
  go_ret2
  rw [HEF.out]
  obtain ⟨F',q1,q2,q3⟩:=HF2.out
  exact ⟨rfl,F',(fW b _).keep q1 m2 sM,q2.trans m2 sM,q3⟩
end
theorem zu (now due:Int) (hn:bD now) (hd:bD due) (known:Bool) (w:wW):Calls tp 179 #[vi iQ now,vi iQ due,vb known] w (ay (vi iQ (kv now due known)) w):=by
 obtain ⟨hn1,hn2⟩:=hn
 obtain ⟨hd1,hd2⟩:=hd
 unfold kv
 cases known
 ·rw [pG rfl]
  go_in
  go_wp2
  go_ret
  exact ay.of (rfl) dz
 ·rw [nG dE]
  by_cases h1:now<0
  ·rw [pG (.inl h1)]
   go_in
   go_wp2
   go_ret
   exact ay.of (rfl) dz
  by_cases h2:due <= now
  ·rw [pG (.inr h2)]
   go_in
   go_wp2
   go_ret
   exact ay.of (rfl) dz
  rw [nG oM]
  have e:min (due - now) 1073741824=if due - now <= 1073741824 then due - now else 1073741824:=by
   split<;>omega
  rw [e]
  by_cases h3:due - now <= 1073741824
  ·rw [pG h3]
   go_in
   go_wp2
   go_ret
   refine ⟨?_,by repeat (first|exact aG.refl _|apply aG.drewN|apply aG.drew)⟩
   first|rfl|simp [h3]|(simp;omega)
  ·rw [nG h3]
   go_in
   go_wp2
   go_ret
   refine ⟨?_,by repeat (first|exact aG.refl _|apply aG.drewN|apply aG.drew)⟩
   first|rfl|simp [h3]|(simp;omega)
/-- The table lies at a. -/
def rV (w:wW) (g:Nat):Prop:=∀ i,i<4 -> w.cell? ⟨g,i * 3,nN⟩=sS (vi iQ (km i).1) /\ w.cell? ⟨g,i * 3+1,nN⟩=sS (vi iQ (km i).2.1) /\ w.cell? ⟨g,i * 3+2,nN⟩=sS (vi iQ (km i).2.2)
theorem vF (w:wW):Calls tp 182 #[] w (λe w'=>∃ g,e=.returned (.slice (sS ⟨g,0,nN⟩) 4 4) /\ af [] w w' /\ w.heap.size <= g /\ rV w' g):=by
 go_in
 go_wp2
 go_ret
 refine ⟨w.heap.size,rfl,?_,Nat.le_refl _,?_⟩
 ·repeat (first|with_reducible exact mR|with_reducible apply af.alloc|with_reducible apply af.drewN|with_reducible apply af.drew|with_reducible refine af.setCell ?_ (by first|(simp;done)|(simp;omega)) _)
 ·intro i hi
  have h:i=0 \/ i=1 \/ i=2 \/ i=3:=by omega
  rcases h with rfl|rfl|rfl|rfl<;>refine ⟨?_,?_,?_⟩<;>simp [km,KC]
end Go.Proofs.YtaakgpnmfkmdoaaGreatDoor