/- Walks and plain laws of the kernel. No condition. -/
import Derived.Test.YtmiapbgkphpgoaaGreatDoorKLM
import Derived.Test.YtmiapbgkphpgoaaGreatDoorBaseM
import Derived.Deep.Upon
namespace Go.Proofs.YtmiapbgkphpgoaaGreatDoor
set_option linter.unusedVariables false
set_option linter.unusedSimpArgs false
set_option maxRecDepth 100000
set_option maxHeartbeats 20000000
open Go.RowKit
open Go.Proofs.Tryz renaming prog → tp
open List renaming setIfInBounds_toArray → sA, set_cons_zero → sB, set_cons_succ → sC
open Go renaming World → wW
open Go.Value renaming pointer → vp, bool → vb, int → vi
open Go.IntKind renaming i64 → iQ, u64 → uQ
open Option renaming none → nN, some → sS
open Bool renaming true → tQ, false → fF
open Int renaming eq_ofNat_of_zero_le → iN
/-- Events in memory. -/
def kQ (w:wW) (a:Option Addr) (len:Nat) (E:Nat -> jR):Prop:=
 len=0 \/ ∃ b o,a=sS ⟨b,o,nN⟩ /\ b<w.heap.size /\ ∀ j,j<len -> (E j).mask<2 ^ 64 /\ ∀ i,i<5 -> w.cell? ⟨b,o+j * 5+i,nN⟩=(vq (E j))[i]?
theorem kQ.keep {w w':wW} {a:Option Addr} {len:Nat} {E:Nat -> jR} (h:kQ w a len E) (m:af [] w w'):kQ w' a len E:=by
 rcases h with h|⟨b,o,ha,hb,h⟩
 ·exact .inl h
 ·refine .inr ⟨b,o,ha,Nat.lt_of_lt_of_le hb m.size,λj hj=>⟨(h j hj).1,λi hi=>?_⟩⟩
  rw [<- (h j hj).2 i hi]
  exact m.cell (p:=⟨b,o+j * 5+i,nN⟩) hb sM
def Hl (a:qs):jR:=⟨a.kind,a.cpu,a.id,a.mask.toNat,a.n⟩
theorem kQ.of {w:wW} {a:Option Addr} {len cap:Nat} {A:Nat -> qs} (h:xe 5 qs.vals qs.ok w a len cap A):kQ w a len (λj=>Hl (A j)):=by
 obtain ⟨_,_,h|⟨b,off,ha,hb,h⟩⟩:=h
 ·exact .inl h
 ·refine .inr ⟨b,off,ha,hb,λj hj=>?_⟩
  obtain ⟨h1,h2⟩:=h j hj
  have hm:=KN h1.2.2.2.1
  obtain ⟨mk,hmk⟩:=iN hm.1
  refine ⟨by show (A j).mask.toNat<_;rw [hmk];rw [hmk] at hm;simp only [Int.toNat_natCast];omega,λi hi=>?_⟩
  have h3:=h2 i hi
  rw [<- Nat.add_assoc] at h3
  rw [h3]
  unfold vq Hl qs.vals
  simp only
  rw [hmk]
  have:i=0 \/ i=1 \/ i=2 \/ i=3 \/ i=4:=by omega
  rcases this with rfl|rfl|rfl|rfl|rfl<;>rfl
section
variable {w u:wW} {d:Nat} {k:KT} {rest l:List ak}
theorem CE (hT:bA w) (h:On [] w (aa d k :: rest) u) (hi:fM k) (e:jR) (hm:e.mask<2 ^ 64):
  Calls tp 18 #[vp (sS ⟨d,0,nN⟩),.agg (vq e)] u (λe' u'=>∃ a c,e'=.returned (.slice a (k.doL e).length c) /\ On [] w (aa d (k.doK e) :: jB a (k.doL e) :: rest) u'):=by
 have hT1:=h.tab hT sM
 obtain ⟨F1,g1,g2,g3⟩:=h.splice (L:=[])
 have tz:tzL_ren.g 1∉F1:=λhb=>by
  have:=hT.lt
  rcases g2 _ hb with hb|hb
  ·cases hb
  ·omega
 refine (Eu g1 hT1 tz hi.way e hm).mono ?_
 rintro e' u' ⟨a,c,rfl,hE⟩
 exact ⟨a,c,rfl,g3 hE⟩
/-- Records one after another. -/
def my (L:List cX):List Value:=L.flatMap kT
theorem DE (a b:List cX):my (a++b)=my a++my b:=by unfold my;rw [List.flatMap_append]
abbrev fW (g:Option Nat) (cap:Nat) (L:List cX):ak:=kS 63 5 g cap L.length (my L)
/-- Records that a call made are added to a row of records. -/
theorem On.recsAppend (h:On [] w l u) (i j:Nat) {g:Option Nat} {cap:Nat} {xs L:List cX} {a:Option Addr} (hi:l[i]?=sS (fW g cap xs)) (hj:l[j]?=sS (jB a L)) (hL:L=[] \/ ∃ r,L=[r]) (hn:xs.length<900000) (c:Nat):
  ∃ g' cap' u',(∀ ty,(Builtin.append_ #[24,24] ty #[.slice (rA g) xs.length cap,.slice a L.length c]).run tp u=.ok (.slice (rA g') (xs++L).length cap') u') /\ On [] w (l.set i (fW g' cap' (xs++L))) u':=by
 obtain ⟨F1,⟨hF1,hr⟩,hb1,hg1⟩:=h.gain (P':=fW g cap xs) i hi
 have hI:(tp.info? 63).map (λi=>(i.zero,i.size,i.bytes))=sS (sS (.agg #[vi iQ 0,vi iQ 0,vi iQ 0,vi iQ 0,vi iQ 0]),5,40):=by kernel_rfl
 obtain ⟨inf,hinf,hi2⟩:=Option.map_eq_some_iff.1 hI
 simp only [Prod.mk.injEq] at hi2
 obtain ⟨i1,i2,i3⟩:=hi2
 rcases hL with rfl|⟨r,rfl⟩
 ·refine ⟨g,cap,u,λty=>?_,?_⟩
  ·rw [List.append_nil]
   exact run_append_nothing u _ _ ty 63 inf Tryz.underlying24 hinf (rA g) _ _ hr.cap.1 _ ⟨.inl ⟨_,Tryz.underlying24⟩,λ_=>rfl,by cases a<;>simp [Builtin.firstCells,loadCells,go_sem],by cases a<;>simp [Builtin.firstCells,loadCells,go_sem],by simp,by simp⟩
  ·rw [List.append_nil]
   obtain ⟨hlt,he⟩:=List.getElem?_eq_some_iff.1 hi
   rw [<- he,List.set_getElem_self]
   exact h
 ·obtain ⟨F2,hx⟩:=h.get j hj
  rcases hx with ⟨hx,_⟩|⟨g2,rfl,_,hb⟩
  ·cases hx
  have hsrc:xd u 5 (sS ⟨g2,0,nN⟩) 1 (kT r):=by
   refine ⟨rfl,?_,.inr ⟨g2,0,rfl,λq v hq=>?_⟩⟩
   ·intro v hv
    unfold kT at hv
    simp only [List.mem_cons,List.not_mem_nil,or_false] at hv
    rcases hv with rfl|rfl|rfl|rfl|rfl<;>rfl
   ·rw [Nat.zero_add,ab hb q,show cC [] [r].length (λi=>kT ([r].getD i ⟨0,0,0,0,0⟩)) []=(kT r).toArray by simp [cC,ea]]
    simpa using hq
  obtain ⟨g',cap',u',hrun,r1,r2,r3⟩:=hr.appendSrc (P:=tp) (tt:=24) (bytes:=40) Tryz.underlying24 hinf i1 i2 i3 (by rfl) oM oM hsrc oM (c2:=c) (λx=>by cases x)
  refine ⟨g',cap',u',λty=>?_,?_⟩
  ·rw [List.length_append]
   exact hrun ty
  ·refine hg1 ⟨_,⟨rfl,?_⟩,by rw [hF1];exact r2,λb hb'=>?_⟩
   ·rw [DE,List.length_append]
    have:my [r]=kT r:=by unfold my;simp
    rw [this]
    exact r1
   ·rcases r3 b hb' with h1|h1
    ·exact .inl (by rw [hF1];exact h1)
    ·exact .inr oM
end
def sG (e:jR):Bool:=decide (e.kind=28 \/ e.kind=29)
/-- A kernel and the records told behind so many events. -/
def bj (k:KT) (E:Nat -> jR):Nat -> KT × List cX
 | 0=>(k,[])
 | j+1=>((bj k E j).1.doK (E j),(bj k E j).2++(if sG (E j) then [] else (bj k E j).1.doL (E j)))
theorem JE {k:KT} (hok:KT.ok k) (hI:fM k) (e:jR):k.doL e=[] \/ ∃ r,k.doL e=[r]:=by
 have h:=(xW hok hI e).2
 rcases h with ⟨h,_⟩|⟨id,why,h,_⟩|⟨why,h,_⟩|⟨kd,i,n,h,_⟩
 ·exact .inl h
 ·exact .inr ⟨_,h⟩
 ·exact .inr ⟨_,h⟩
 ·exact .inr ⟨_,h⟩
section
variable {w u:wW} {d q cap:Nat} {g:Option Nat} {k:KT} {xs L:List cX} {rest l:List ak}
theorem yU (e:jR) (w:wW):Calls tp 33 #[.agg (vq e)] w (bp (vb (sG e)) w):=by
 obtain ⟨kd,c,i,m,n⟩:=e
 unfold vq sG
 simp only
 have hx:=ab (ai w (.cells #[vi iQ kd,vi iQ c,vi iQ i,vi uQ (m:Nat),vi iQ n] 34 (0,0))) 0
 have h1:kd=28 \/ (¬ kd=28 /\ kd=29) \/ ((kd==28)=fF /\ (kd==29)=fF /\ ¬ (kd=28 \/ kd=29)):=by
  by_cases h:kd=28
  ·exact .inl h
  ·by_cases g:kd=29
   ·exact .inr (.inl ⟨h,g⟩)
   ·exact .inr (.inr ⟨by simpa using h,by simpa using g,λx=>x.elim h g⟩)
 rcases h1 with rfl|⟨_,rfl⟩|⟨h1,h2,h3⟩
 ·rw [decide_eq_true (.inl rfl)]
  go_in
  go_wp2
  go_ret
  refine ⟨rfl,?_⟩
  exact ms
 ·rw [decide_eq_true (.inr rfl)]
  go_in
  go_wp2
  go_ret
  refine ⟨rfl,?_⟩
  exact ms
 ·rw [decide_eq_false h3]
  go_in
  go_wp2
  go_ret
  refine ⟨rfl,?_⟩
  exact ms
abbrev yY (q:Nat) (g:Option Nat) (n cap:Nat):ak:=ak.blk q (.cells #[.slice (rA g) n cap] 24 (0,0))
/-- The function by which Trace is told: records are added, but those of events that set how cores rest. -/
theorem AK {a:Option Addr} (h:On [] w (jB a L :: yY q g xs.length cap :: fW g cap xs :: rest) u) (hL:L=[] \/ ∃ r,L=[r]) (hn:xs.length<900000) (c:Nat) (e:jR):
  Calls tp 32 #[.agg (vq e),.slice a L.length c,vp (sS ⟨q,0,nN⟩)] u (λe' u'=>e'=.returned (.tuple #[]) /\ ∃ g' cap',On [] w (jB a L :: yY q g' (xs++if sG e then [] else L).length cap' :: fW g' cap' (xs++if sG e then [] else L) :: rest) u'):=by
 have hS:=λw=>yU e w
 obtain ⟨kd,cp,i,m,n⟩:=e
 unfold vq at *
 simp only at hS ⊢
 cases hb:sG ⟨kd,cp,i,m,n⟩
 ·rw [hb] at hS
  rw [nG dE]
  have hA:=h.alloc (.cells #[vi iQ kd,vi iQ cp,vi iQ i,vi uQ (m:Nat),vi iQ n] 34 (0,0))
  have HA:=zh hA
  have hx:=ab (ai u (.cells #[vi iQ kd,vi iQ cp,vi iQ i,vi uQ (m:Nat),vi iQ n] 34 (0,0)))
  have x0:=hx 0
  have x1:=hx 1
  have x2:=hx 2
  have x3:=hx 3
  have x4:=hx 4
  clear hx hb h hA
  generalize u.heap.size=xb at *
  go_in
  go_wp2_with (first
   | (
    go_at_call 33
    refine (hS _).s λv m1=>?_
    have hB:=HA.out.keep m1
    obtain ⟨g',cap',u2,hrun,hC⟩:=hB.recsAppend 2 0 rfl rfl hL hn c
    have c1:v.cell? ⟨q,0,nN⟩=sS (.slice (rA g) xs.length cap):=hB.cell 1 rfl 0
    have c2:u2.cell? ⟨q,0,nN⟩=sS (.slice (rA g) xs.length cap):=hC.cell 1 rfl 0
    have f1:=hC.free 1 rfl 0
    have s1:=hC.size 1 rfl
    have HC:=zh (hC.set 1 rfl 0 (.slice (rA g') (xs++L).length cap'))
    clear hB hC)
   | (at_builtin;refine aM rfl _ _ _ rfl rfl rfl (hrun _) ?_))
  go_end0
  exact ⟨rfl,g',cap',by rw [<- List.length_append];exact HC.out.take (l:=_ :: _ :: _ :: rest) (m:=[_])⟩
 ·rw [hb] at hS
  rw [pG rfl,List.append_nil]
  have hA:=h.alloc (.cells #[vi iQ kd,vi iQ cp,vi iQ i,vi uQ (m:Nat),vi iQ n] 34 (0,0))
  have HA:=zh hA
  have hx:=ab (ai u (.cells #[vi iQ kd,vi iQ cp,vi iQ i,vi uQ (m:Nat),vi iQ n] 34 (0,0)))
  have x0:=hx 0
  have x1:=hx 1
  have x2:=hx 2
  have x3:=hx 3
  have x4:=hx 4
  clear hx hb h hA
  generalize u.heap.size=xb at *
  go_in
  go_wp2_with (
   go_at_call 33
   refine (hS _).s λv m1=>?_
   have HB:=zh (HA.out.keep m1))
  go_end0
  exact ⟨rfl,g,cap,HB.out.take (l:=_ :: _ :: _ :: rest) (m:=[_])⟩
theorem Ca (hT:bA w) (hq:On [] w [yY q nN 0 0] u) (n:Nat) (h1:1 <= n) (h2:n <= 64) {a:Option Addr} {len cp:Nat} {E:Nat -> jR} (hE:kQ w a len E) (hl:len <= 100000):
  Calls tp 31 #[vi iQ n,.slice a len cp,.func (.func 32) #[] #[vp (sS ⟨q,0,nN⟩)]] u
   (λe u'=>∃ d,e=.returned (.tuple #[vp (sS ⟨d,0,nN⟩),vi iQ 0]) /\ ∃ g cap',On [] w [aa d (bj (k0 n) E len).1,yY q g (bj (k0 n) E len).2.length cap',fW g cap' (bj (k0 n) E len).2] u'):=by
 have hN:=hq.make (tY n h1 h2 u)
 have hK0:=zh (GG h1 h2)
 clear hq h1 h2
 go_in
 go_wp2_with (
  go_at_call 17
  refine hN.mono ?_
  rintro e w1 ⟨d,rfl,hA⟩
  have H1:=zh (show On [] w [aa d (k0 n),yY q nN 0 0,fW nN 0 []] w1 from (hA.front (l:=[_])).more (P:=fW nN 0 []) ⟨rfl,lY.nil _ _ _⟩)
  clear hA hN)
 go_loopg [22] len (λgg iv wr=>∃ (j:Nat) (g:Option Nat) (cap:Nat),iv=vi iQ j /\ j+gg=len /\ On [] w [aa d (bj (k0 n) E j).1,yY q g (bj (k0 n) E j).2.length cap,fW g cap (bj (k0 n) E j).2] wr /\ fM (bj (k0 n) E j).1 /\ (bj (k0 n) E j).2.length <= j)
 case atStart=>exact ⟨0,nN,0,rfl,by omega,H1.out,hK0.out,by show ([]:List cX).length <= 0;simp⟩
 case round=>
  clear H1 hK0
  obtain ⟨j,g,cap,rfl,hj,h0,hI,hlen⟩:=hrel
  by_cases hjl:j<len
  ·have hjI:(j:Int)<(len:Int):=by omega
   rcases hE with hE|⟨b,o,rfl,hb,hE⟩
   ·omega
   obtain ⟨hm,hc⟩:=hE j hjl
   have hst:bj (k0 n) E (j+1)=((bj (k0 n) E j).1.doK (E j),(bj (k0 n) E j).2++(if sG (E j) then [] else (bj (k0 n) E j).1.doL (E j))):=rfl
   have c0:=hc 0 oM
   have c1:=hc 1 oM
   have c2:=hc 2 oM
   have c3:=hc 3 oM
   have c4:=hc 4 oM
   clear hc
   generalize bj (k0 n) E j=kx at *
   obtain ⟨kj,xs⟩:=kx
   simp only at h0 hI hlen hst
   generalize E j=ev at *
   obtain ⟨kd,ci,id,mk,nn⟩:=ev
   simp only at hm
   unfold vq at c0 c1 c2 c3 c4
   simp only [List.getElem?_toArray,List.getElem?_cons_zero,List.getElem?_cons_succ,Nat.add_zero] at c0 c1 c2 c3 c4
   have c0:=h0.mod.at c0 sM
   have c1:=h0.mod.at c1 sM
   have c2:=h0.mod.at c2 sM
   have c3:=h0.mod.at c3 sM
   have c4:=h0.mod.at c4 sM
   have hok:=(ad (h0.get 0 rfl).choose_spec).1
   have hone:=JE hok hI ⟨kd,ci,id,mk,nn⟩
   have hI2:=(xW hok hI ⟨kd,ci,id,mk,nn⟩).1
   have HX:=zh (h0.alloc (.cells #[vi iQ kd,vi iQ ci,vi iQ id,vi uQ (mk:Nat),vi iQ nn] 34 (0,0)))
   have HI:=zh hI
   have HST:=zh (And.intro hst (And.intro hone (And.intro hI2 hlen)))
   have hx:=ab (ai wr (.cells #[vi iQ kd,vi iQ ci,vi iQ id,vi uQ (mk:Nat),vi iQ nn] 34 (0,0)))
   have x0:=hx 0
   have x1:=hx 1
   have x2:=hx 2
   have x3:=hx 3
   have x4:=hx 4
   clear hok hone hI2 hst hI hlen h0 hx
   go_wp2
   generalize wr.heap.size=xb at *
   generalize wr.alloc (.cells #[vi iQ kd,vi iQ ci,vi iQ id,vi uQ (mk:Nat),vi iQ nn] 34 (0,0))=W at *
   have hx:∀ v,af [] W v -> v.cell? ⟨xb,0,nN⟩=sS (vi iQ kd) /\ v.cell? ⟨xb,1,nN⟩=sS (vi iQ ci) /\ v.cell? ⟨xb,2,nN⟩=sS (vi iQ id) /\ v.cell? ⟨xb,3,nN⟩=sS (vi uQ (mk:Nat)) /\ v.cell? ⟨xb,4,nN⟩=sS (vi iQ nn):=λv m=>⟨m.at x0 sM,m.at x1 sM,m.at x2 sM,m.at x3 sM,m.at x4 sM⟩
   have hDo:∀ v,af [] W v -> Calls tp 18 #[vp (sS ⟨d,0,nN⟩),.agg #[vi iQ kd,vi iQ ci,vi iQ id,vi uQ (mk:Nat),vi iQ nn]] v (λe' u'=>∃ a c,e'=.returned (.slice a (kj.doL ⟨kd,ci,id,mk,nn⟩).length c) /\ On [] w (aa d (kj.doK ⟨kd,ci,id,mk,nn⟩) :: jB a (kj.doL ⟨kd,ci,id,mk,nn⟩) :: [yY q g xs.length cap,fW g cap xs,ak.blk xb (.cells #[vi iQ kd,vi iQ ci,vi iQ id,vi uQ (mk:Nat),vi iQ nn] 34 (0,0))]) u'):=λv m=>CE hT (HX.out.keep m) HI.out ⟨kd,ci,id,mk,nn⟩ hm
   have m0:af [] W W:=af.refl _ _
   have C:=hx W m0
   clear x0 x1 x2 x3 x4
   generalize kj.doL ⟨kd,ci,id,mk,nn⟩=L at *
   generalize kj.doK ⟨kd,ci,id,mk,nn⟩=k2 at *
   clear c0 c1 c2 c3 c4
   go_region_held3 (λv=>v.cell? ⟨xb,0,nN⟩=sS (vi iQ kd) /\ v.cell? ⟨xb,1,nN⟩=sS (vi iQ ci) /\ v.cell? ⟨xb,2,nN⟩=sS (vi iQ id) /\ v.cell? ⟨xb,3,nN⟩=sS (vi uQ (mk:Nat)) /\ v.cell? ⟨xb,4,nN⟩=sS (vi iQ nn)) (assumption) (first
    | (
     go_at_call 18
     refine (hDo _ (by first|exact m0|exact m0.drewN _|exact m0.drew)).mono ?_
     rintro e v ⟨av,cv,rfl,hB⟩
     have C:v.cell? ⟨xb,0,nN⟩=sS (vi iQ kd) /\ v.cell? ⟨xb,1,nN⟩=sS (vi iQ ci) /\ v.cell? ⟨xb,2,nN⟩=sS (vi iQ id) /\ v.cell? ⟨xb,3,nN⟩=sS (vi uQ (mk:Nat)) /\ v.cell? ⟨xb,4,nN⟩=sS (vi iQ nn):=⟨hB.cell 4 rfl 0,hB.cell 4 rfl 1,hB.cell 4 rfl 2,hB.cell 4 rfl 3,hB.cell 4 rfl 4⟩
     have HB:=zh (hB.perm (List.perm_middle (l₁:=[_,_,_]) (l₂:=[_])).symm)
     clear hB)
    | (
     go_at_call 32
     refine (AK (by first|exact HB.out|exact HB.out.keep (mR.drewN _)|exact HB.out.keep mR.drew) HST.out.2.1 (by have:=HST.out.2.2.2;omega) cv ⟨kd,ci,id,mk,nn⟩).mono ?_
     rintro e v2 ⟨rfl,g2,cap2,hD⟩
     have C:v2.cell? ⟨xb,0,nN⟩=sS (vi iQ kd) /\ v2.cell? ⟨xb,1,nN⟩=sS (vi iQ ci) /\ v2.cell? ⟨xb,2,nN⟩=sS (vi iQ id) /\ v2.cell? ⟨xb,3,nN⟩=sS (vi uQ (mk:Nat)) /\ v2.cell? ⟨xb,4,nN⟩=sS (vi iQ nn):=⟨hD.cell 4 rfl 0,hD.cell 4 rfl 1,hD.cell 4 rfl 2,hD.cell 4 rfl 3,hD.cell 4 rfl 4⟩
     have HD:=zh hD
     clear hD))
   clear C hx hDo m0 HX HB
   go_wp2
   go_roundg (len - j - 1)
   case measure=>omega
   case rel=>
    refine ⟨j+1,g2,cap2,by go_num,by omega,?_,?_,?_⟩
    ·rw [HST.out.1]
     exact ((HD.out.drop 0).perm (List.perm_middle (l₁:=[_,_]) (l₂:=[_]))).take (l:=[_,_,_]) (m:=[_])
    ·rw [HST.out.1];exact HST.out.2.2.1
    ·rw [HST.out.1]
     have h1:=HST.out.2.2.2
     have h2:=HST.out.2.1
     show (xs++_).length <= j+1
     rw [List.length_append]
     split
     ·simp;omega
     ·rcases h2 with h2|⟨r,h2⟩
      ·rw [h2];simp;omega
      ·rw [h2];simp;omega
  ·have hjI:¬ (j:Int)<(len:Int):=by omega
   have:j=len:=by omega
   subst this
   have H2:=zh h0
   clear h0 hI hlen
   go_wp2
   go_ret2
   exact ⟨d,rfl,g,cap,H2.out⟩
theorem Ho (n:Int) (hn:¬ (1 <= n /\ n <= 64)) {a:Option Addr} {len cp:Nat} (f:Value):Calls tp 31 #[vi iQ n,.slice a len cp,f] u (bp (.tuple #[vp nN,vi iQ 2]) u):=by
 have hN:=tX n hn u
 clear hn
 go_in
 go_wp2_with (go_at_call 17;refine hN.s λw1 m1=>?_)
 go_ret2
 exact ⟨rfl,m1⟩
theorem nP (hT:bA w) (hu:On [] w [] u) (n:Nat) (h1:1 <= n) (h2:n <= 64) {a:Option Addr} {len cp:Nat} {E:Nat -> jR} (hE:kQ w a len E) (hl:len <= 100000):
  Calls tp 9 #[vi iQ n,.slice a len cp] u (λe u'=>∃ g cap',e=.returned (.tuple #[.slice (rA g) (bj (k0 n) E len).2.length cap',vi iQ 0]) /\ On [] w [fW g cap' (bj (k0 n) E len).2] u'):=by
 have hmf:∀ (fn:Fn) (first cap:Array Value) (w:wW),(Instr.makeFunc fn first cap).run tp w=.ok (.func fn first cap) w:=λ_ _ _ _=>rfl
 have hD:=Ca hT (show On [] w [yY u.heap.size nN 0 0] (u.alloc (.cells #[.slice nN 0 0] 24 (0,0))) from hu.alloc _) n h1 h2 hE hl (cp:=cp)
 clear hE
 go_in
 go_wp2_with (
  go_at_call 31
  refine hD.mono ?_
  rintro e v ⟨d,rfl,g,cap',hA⟩
  have c0:=hA.cell 1 rfl 0
  have HA:=zh ((hA.drop 0).drop 0)
  clear hA hD)
 go_ret2
 exact ⟨g,cap',rfl,HA.out⟩
theorem pD (n:Int) (hn:¬ (1 <= n /\ n <= 64)) {a:Option Addr} {len cp:Nat}:Calls tp 9 #[vi iQ n,.slice a len cp] u (bp (.tuple #[.slice nN 0 0,vi iQ 2]) u):=by
 have hmf:∀ (fn:Fn) (first cap:Array Value) (w:wW),(Instr.makeFunc fn first cap).run tp w=.ok (.func fn first cap) w:=λ_ _ _ _=>rfl
 have hD:=λu f=>Ho (u:=u) n hn (a:=a) (len:=len) (cp:=cp) f
 have c0:=ab (ai u (.cells #[.slice nN 0 0] 24 (0,0))) 0
 have m0:af [] u (u.alloc (.cells #[.slice nN 0 0] 24 (0,0))):=mR.alloc _
 clear hn
 go_in
 go_wp2_with (
  go_at_call 31
  refine (hD _ _).s λv m1=>?_
  have c0:=m1.at c0 sM)
 go_ret2
 exact ⟨rfl,m0.trans m1 sM⟩
/-- Records in memory. -/
def jt (w:wW) (a:Option Addr) (n:Nat) (xs:Nat -> cX):Prop:=
 ∀ i,i<n -> ∃ b,a=sS ⟨b,0,nN⟩ /\ ∀ j,j<5 -> w.cell? ⟨b,i * 5+j,nN⟩=(kT (xs i))[j]?
theorem jt.keep {w w':wW} {a:Option Addr} {n:Nat} {xs:Nat -> cX} (h:jt w a n xs) (m:af [] w w'):jt w' a n xs:=λi hi=>by
 obtain ⟨b,ha,h⟩:=h i hi
 refine ⟨b,ha,λj hj=>?_⟩
 have h1:=h j hj
 have:∃ v,(kT (xs i))[j]?=sS v:=⟨_,List.getElem?_eq_getElem (show j<(kT (xs i)).length from hj)⟩
 obtain ⟨v,hv⟩:=this
 rw [hv] at h1 ⊢
 exact m.at h1 sM
theorem jt.le {w:wW} {a:Option Addr} {n m:Nat} {xs:Nat -> cX} (h:jt w a n xs) (hm:m <= n):jt w a m xs:=λi hi=>h i oM
theorem yW:∀ (L:List cX) (i:Nat) (hi:i<L.length) (j:Nat),j<5 -> (my L)[i * 5+j]?=(kT (L.getD i ⟨0,0,0,0,0⟩))[j]?
 | r :: L,0,_,j,hj=>by
  show (kT r++my L)[0 * 5+j]?=_
  rw [Nat.zero_mul,Nat.zero_add,List.getElem?_append_left (show j<(kT r).length from hj)]
  rfl
 | r :: L,i+1,hi,j,hj=>by
  show (kT r++my L)[(i+1) * 5+j]?=_
  rw [List.getElem?_append_right (by show 5 <= _;omega),show (i+1) * 5+j - (kT r).length=i * 5+j by show _ - 5=_;omega]
  exact yW L i (by simpa using hi) j hj
theorem pH {g:Option Nat} {cap:Nat} {L:List cX} {F:List Nat} (h:(fW g cap L).holds F u):jt u (rA g) L.length (λi=>L.getD i ⟨0,0,0,0,0⟩):=λi hi=>by
 obtain ⟨_,hr⟩:=h
 have h0:=yW L i hi
 have hl:∀ j,j<5 -> ∃ v,(kT (L.getD i ⟨0,0,0,0,0⟩))[j]?=sS v:=λj hj=>⟨_,List.getElem?_eq_getElem (show j<(kT (L.getD i ⟨0,0,0,0,0⟩)).length from hj)⟩
 obtain ⟨v0,hv0⟩:=hl 0 oM
 obtain ⟨b,rfl,_⟩:=hr.cell (j:=i * 5+0) (v:=v0) ((h0 0 oM).trans hv0)
 refine ⟨b,rfl,λj hj=>?_⟩
 obtain ⟨v,hv⟩:=hl j hj
 obtain ⟨b2,e,h2⟩:=hr.cell (j:=i * 5+j) (v:=v) ((h0 j hj).trans hv)
 cases e
 rw [hv]
 exact h2
/-- Two rows that begin alike are unlike where the shorter one ends. -/
theorem dB {gx gy:Option Addr} {n1 n2 k1 k2:Nat} {xs:Nat -> cX} (hx:jt w gx (min n1 n2) xs) (hy:jt w gy (min n1 n2) xs) (hb1:n1<1000000) (hb2:n2<1000000):
  Calls tp 10 #[.slice gx n1 k1,.slice gy n2 k2] w (bp (vi iQ (if n1=n2 then -1 else ((min n1 n2:Nat):Int))) w):=by
 obtain ⟨mn,hmn⟩:∃ mn,min n1 n2=mn:=⟨_,rfl⟩
 have hmi:min (n1:Int) (n2:Int)=(mn:Int):=by omega
 rw [hmn] at hx hy ⊢
 have h11:mn <= n1:=by omega
 have h12:mn <= n2:=by omega
 obtain ⟨dv,hdv⟩:∃ dv:Int,(if n1=n2 then -1 else (mn:Int))=dv:=⟨_,rfl⟩
 rw [hdv]
 have HM:=zh (And.intro hmn hdv)
 clear hmn hdv
 go_in
 go_wp2
 go_loopg [11] mn (λgg iv wr=>∃ i:Nat,iv=vi iQ i /\ i+gg=mn /\ af [] w wr)
 case atStart=>exact ⟨0,rfl,by omega,af.refl _ _⟩
 case round=>
  obtain ⟨i,rfl,hi,m0⟩:=hrel
  by_cases him:i<mn
  ·have h1I:(i:Int)<(mn:Int):=by omega
   have h2I:(i:Int)<(n1:Int):=by omega
   have h3I:(i:Int)<(n2:Int):=by omega
   obtain ⟨bx,rfl,cx⟩:=(hx.keep m0) i him
   obtain ⟨by_,rfl,cy⟩:=(hy.keep m0) i him
   generalize xs i=r at *
   obtain ⟨kd,rc,ri,rn,ry⟩:=r
   have hcs:∀ (z:Array Bool) u,af [] wr u -> u.cell? ⟨bx,i * 5,nN⟩=sS (vi iQ kd) /\ u.cell? ⟨bx,i * 5+1,nN⟩=sS (vi iQ rc) /\ u.cell? ⟨bx,i * 5+2,nN⟩=sS (vi iQ ri) /\ u.cell? ⟨bx,i * 5+3,nN⟩=sS (vi iQ rn) /\ u.cell? ⟨bx,i * 5+4,nN⟩=sS (vi iQ ry)
     /\ u.cell? ⟨by_,i * 5,nN⟩=sS (vi iQ kd) /\ u.cell? ⟨by_,i * 5+1,nN⟩=sS (vi iQ rc) /\ u.cell? ⟨by_,i * 5+2,nN⟩=sS (vi iQ ri) /\ u.cell? ⟨by_,i * 5+3,nN⟩=sS (vi iQ rn) /\ u.cell? ⟨by_,i * 5+4,nN⟩=sS (vi iQ ry):=
    λz u hc=>⟨hc.at (cx 0 oM) sM,hc.at (cx 1 oM) sM,hc.at (cx 2 oM) sM,hc.at (cx 3 oM) sM,hc.at (cx 4 oM) sM,hc.at (cy 0 oM) sM,hc.at (cy 1 oM) sM,hc.at (cy 2 oM) sM,hc.at (cy 3 oM) sM,hc.at (cy 4 oM) sM⟩
   have hload:=hcs
   have hm:∀ i,i<100 -> dR (λ(_:Array Bool) u=>af [] wr u) i:=λi _ z u _ hc=>hc
   have M0:=zh m0
   clear hcs cx cy m0 hx hy
   go_wp2
   refine de kz kz (λ_ u=>af [] wr u) (λz hz=>mR.drew) ?_
   iterate 9 (first|(refine aF (v:=?_) (by rfl) (λw=>?_) (hm _ dE) ?_;rotate_left;· (go_simp<;>with_reducible rfl))|(refine aG (v:=?_) (by rfl) (λs w hUp hC=>?_) (hm _ dE) ?_;rotate_left;· (have hl:=hload s w hC;go_split_ands;go_simp<;>with_reducible rfl))|(refine aE (by rfl) (hm _ dE) ?_));simp only [Act.put,sA,sB,sC,Nat.reduceAdd,Nat.zero_add]
   refine pc ?_
   intro z w5 hall hc
   go_wp2
   go_roundg (mn - i - 1)
   case measure=>omega
   case rel=>exact ⟨i+1,by go_num,by omega,M0.out.trans hc sM⟩
  ·have h1I:¬ (i:Int)<(mn:Int):=by omega
   by_cases he:n1=n2
   ·have hd:=HM.out.2
    rw [pG he] at hd
    subst he hd
    clear hx hy
    go_wp2
    go_ret
    exact ⟨rfl,m0⟩
   ·have hd:=HM.out.2
    rw [nG he] at hd
    subst hd
    have heI:((n1:Int)==(n2:Int))=fF:=by simp;omega
    clear hx hy
    go_wp2
    go_ret
    exact ⟨rfl,m0⟩
end
section
variable {F:List Nat} {w u:wW} {b d r:Nat} {p:KP} {k:KT} {t:ju}
theorem xB (h:On F w (Em b r t) u) {c:Nat} (hc:c<t.n):Calls tp 94 #[vp (sS ⟨b,0,nN⟩),vi iQ c] u (au (vi iQ (t.c c 9)) u):=by
 have hF:=nh h (c:Int)
 have hi:t.is (c:Int):=⟨by omega,by omega⟩
 simp only [pG hi,Int.toNat_natCast] at hF
 have c9:=λj=>((h.keep (u':=u.drewN j) (mR.drewN j)).mtC hc (j:=9) oM (o:=c * 10+9) rfl)
 clear hi h
 go_in
 go_wp2_with (go_at_call 173;refine hF.r λj=>?_;have c9:=c9 j)
 go_ret
 exact au.of (rfl) dz
theorem Fc (e:jR) (sl:Value) (w:wW):Calls tp 92 #[.agg (vq e),sl] w (bp (.tuple #[]) w):=by
 obtain ⟨kd,c,i,m,n⟩:=e
 unfold vq
 simp only
 go_in
 go_wp2
 go_end0
 refine ⟨rfl,?_⟩
 exact ms
theorem EZ (hT:bA w) (hq:On [] w [] u) (n:Nat) (h1:1 <= n) (h2:n <= 64) {a:Option Addr} {len cp:Nat} {E:Nat -> jR} (hE:kQ w a len E) (hl:len <= 100000):
  Calls tp 31 #[vi iQ n,.slice a len cp,.func (.func 92) #[] #[]] u
   (λe u'=>∃ d,e=.returned (.tuple #[vp (sS ⟨d,0,nN⟩),vi iQ 0]) /\ On [] w [aa d (bj (k0 n) E len).1] u'):=by
 have hN:=hq.make (tY n h1 h2 u)
 have hK0:=zh (GG h1 h2)
 clear hq h1 h2
 go_in
 go_wp2_with (
  go_at_call 17
  refine hN.mono ?_
  rintro e w1 ⟨d,rfl,hA⟩
  have H1:=zh (show On [] w [aa d (k0 n)] w1 from hA)
  clear hA hN)
 go_loopg [22] len (λgg iv wr=>∃ (j:Nat),iv=vi iQ j /\ j+gg=len /\ On [] w [aa d (bj (k0 n) E j).1] wr /\ fM (bj (k0 n) E j).1)
 case atStart=>exact ⟨0,rfl,by omega,H1.out,hK0.out⟩
 case round=>
  clear H1 hK0
  obtain ⟨j,rfl,hj,h0,hI⟩:=hrel
  by_cases hjl:j<len
  ·have hjI:(j:Int)<(len:Int):=by omega
   rcases hE with hE|⟨b,o,rfl,hb,hE⟩
   ·omega
   obtain ⟨hm,hc⟩:=hE j hjl
   have hst:(bj (k0 n) E (j+1)).1=(bj (k0 n) E j).1.doK (E j):=rfl
   have c0:=hc 0 oM
   have c1:=hc 1 oM
   have c2:=hc 2 oM
   have c3:=hc 3 oM
   have c4:=hc 4 oM
   clear hc
   generalize (bj (k0 n) E j).1=kj at *
   generalize E j=ev at *
   obtain ⟨kd,ci,id,mk,nn⟩:=ev
   simp only at hm
   unfold vq at c0 c1 c2 c3 c4
   simp only [List.getElem?_toArray,List.getElem?_cons_zero,List.getElem?_cons_succ,Nat.add_zero] at c0 c1 c2 c3 c4
   have c0:=h0.mod.at c0 sM
   have c1:=h0.mod.at c1 sM
   have c2:=h0.mod.at c2 sM
   have c3:=h0.mod.at c3 sM
   have c4:=h0.mod.at c4 sM
   have hok:=(ad (h0.get 0 rfl).choose_spec).1
   have hI2:=(xW hok hI ⟨kd,ci,id,mk,nn⟩).1
   have HX:=zh (h0.alloc (.cells #[vi iQ kd,vi iQ ci,vi iQ id,vi uQ (mk:Nat),vi iQ nn] 34 (0,0)))
   have HI:=zh hI
   have HST:=zh (And.intro hst hI2)
   have hx:=ab (ai wr (.cells #[vi iQ kd,vi iQ ci,vi iQ id,vi uQ (mk:Nat),vi iQ nn] 34 (0,0)))
   have x0:=hx 0
   have x1:=hx 1
   have x2:=hx 2
   have x3:=hx 3
   have x4:=hx 4
   clear hok hI2 hst hI h0 hx
   go_wp2
   generalize wr.heap.size=xb at *
   generalize wr.alloc (.cells #[vi iQ kd,vi iQ ci,vi iQ id,vi uQ (mk:Nat),vi iQ nn] 34 (0,0))=W at *
   have hx:∀ v,af [] W v -> v.cell? ⟨xb,0,nN⟩=sS (vi iQ kd) /\ v.cell? ⟨xb,1,nN⟩=sS (vi iQ ci) /\ v.cell? ⟨xb,2,nN⟩=sS (vi iQ id) /\ v.cell? ⟨xb,3,nN⟩=sS (vi uQ (mk:Nat)) /\ v.cell? ⟨xb,4,nN⟩=sS (vi iQ nn):=λv m=>⟨m.at x0 sM,m.at x1 sM,m.at x2 sM,m.at x3 sM,m.at x4 sM⟩
   have hDo:∀ v,af [] W v -> Calls tp 18 #[vp (sS ⟨d,0,nN⟩),.agg #[vi iQ kd,vi iQ ci,vi iQ id,vi uQ (mk:Nat),vi iQ nn]] v (λe' u'=>∃ a c,e'=.returned (.slice a (kj.doL ⟨kd,ci,id,mk,nn⟩).length c) /\ On [] w (aa d (kj.doK ⟨kd,ci,id,mk,nn⟩) :: jB a (kj.doL ⟨kd,ci,id,mk,nn⟩) :: [ak.blk xb (.cells #[vi iQ kd,vi iQ ci,vi iQ id,vi uQ (mk:Nat),vi iQ nn] 34 (0,0))]) u'):=λv m=>CE hT (HX.out.keep m) HI.out ⟨kd,ci,id,mk,nn⟩ hm
   have hTl:∀ sl v,Calls tp 92 #[.agg #[vi iQ kd,vi iQ ci,vi iQ id,vi uQ (mk:Nat),vi iQ nn],sl] v (bp (.tuple #[]) v):=λsl v=>Fc ⟨kd,ci,id,mk,nn⟩ sl v
   have m0:af [] W W:=af.refl _ _
   have C:=hx W m0
   clear x0 x1 x2 x3 x4
   generalize kj.doL ⟨kd,ci,id,mk,nn⟩=L at *
   generalize kj.doK ⟨kd,ci,id,mk,nn⟩=k2 at *
   clear c0 c1 c2 c3 c4
   go_region_held3 (λv=>v.cell? ⟨xb,0,nN⟩=sS (vi iQ kd) /\ v.cell? ⟨xb,1,nN⟩=sS (vi iQ ci) /\ v.cell? ⟨xb,2,nN⟩=sS (vi iQ id) /\ v.cell? ⟨xb,3,nN⟩=sS (vi uQ (mk:Nat)) /\ v.cell? ⟨xb,4,nN⟩=sS (vi iQ nn)) (assumption) (first
    | (
     go_at_call 18
     refine (hDo _ (by first|exact m0|exact m0.drewN _|exact m0.drew)).mono ?_
     rintro e v ⟨av,cv,rfl,hB⟩
     have C:v.cell? ⟨xb,0,nN⟩=sS (vi iQ kd) /\ v.cell? ⟨xb,1,nN⟩=sS (vi iQ ci) /\ v.cell? ⟨xb,2,nN⟩=sS (vi iQ id) /\ v.cell? ⟨xb,3,nN⟩=sS (vi uQ (mk:Nat)) /\ v.cell? ⟨xb,4,nN⟩=sS (vi iQ nn):=⟨hB.cell 2 rfl 0,hB.cell 2 rfl 1,hB.cell 2 rfl 2,hB.cell 2 rfl 3,hB.cell 2 rfl 4⟩
     have HB:=zh hB
     clear hB)
    | (
     go_at_call 92
     refine (hTl _ _).s λv2 m2=>?_
     have hD:=(show On [] w (aa d k2 :: jB av L :: [ak.blk xb (.cells #[vi iQ kd,vi iQ ci,vi iQ id,vi uQ (mk:Nat),vi iQ nn] 34 (0,0))]) _ by first|exact HB.out|exact HB.out.keep (mR.drewN _)|exact HB.out.keep mR.drew).keep m2
     have C:v2.cell? ⟨xb,0,nN⟩=sS (vi iQ kd) /\ v2.cell? ⟨xb,1,nN⟩=sS (vi iQ ci) /\ v2.cell? ⟨xb,2,nN⟩=sS (vi iQ id) /\ v2.cell? ⟨xb,3,nN⟩=sS (vi uQ (mk:Nat)) /\ v2.cell? ⟨xb,4,nN⟩=sS (vi iQ nn):=⟨hD.cell 2 rfl 0,hD.cell 2 rfl 1,hD.cell 2 rfl 2,hD.cell 2 rfl 3,hD.cell 2 rfl 4⟩
     have HD:=zh hD
     clear hD m2))
   clear C hx hDo hTl m0 HX HB
   go_wp2
   go_roundg (len - j - 1)
   case measure=>omega
   case rel=>exact ⟨j+1,by go_num,by omega,by rw [HST.out.1];exact HD.out.take (l:=[_]) (m:=[_,_]),by rw [HST.out.1];exact HST.out.2⟩
  ·have hjI:¬ (j:Int)<(len:Int):=by omega
   have:j=len:=by omega
   subst this
   have H2:=zh h0
   clear h0 hI
   go_wp2
   go_ret2
   exact ⟨d,rfl,H2.out⟩
theorem yV (hT:bA w) (hu:On [] w [] u) (n:Nat) (h1:1 <= n) (h2:n <= 64) {c:Nat} (hc:c<n) {a:Option Addr} {len cp:Nat} {E:Nat -> jR} (hE:kQ w a len E) (hl:len <= 100000) (hn:(bj (k0 n) E len).1.n=n):
  Calls tp 30 #[vi iQ n,vi iQ c,.slice a len cp] u (λe u'=>e=.returned (.tuple #[vi iQ ((bj (k0 n) E len).1.mt.c c 9),vi iQ 0]) /\ On [] w [] u'):=by
 have hD:=EZ hT hu n h1 h2 hE hl (cp:=cp)
 have hcI:(c:Int)<(n:Int):=by omega
 clear hu hE h1 h2
 generalize (bj (k0 n) E len).1=k at *
 go_in
 go_wp2_with (first
  | (
   go_at_call 31
   refine hD.mono ?_
   rintro e v ⟨d,rfl,hA⟩
   obtain ⟨F1,hk⟩:=hA.get 0 rfl
   obtain ⟨hok,p,hK⟩:=ad hk
   have hM:=ru hK
   have hEn:∀ v',af [] v v' -> Calls tp 94 #[vp (sS ⟨p.mt,0,nN⟩),vi iQ c] v' (au (vi iQ (k.mt.c c 9)) v'):=λv' m=>by
    obtain ⟨r,_,hmt⟩:=xA ((hK.keep m).get 13 rfl).choose_spec
    exact xB hmt (by rw [hok.mt,hn];exact hc)
   have HA:=zh hA
   clear hA hk hK hok hD)
  | (go_at_call 93;refine hM.s λv1 m1=>?_;clear hM)
  | (go_at_call 94;refine (hEn _ m1).r λj=>?_))
 go_ret2
 exact ⟨rfl,(HA.out.keep (m1.drewN j)).drop 0⟩
end
def rkE (j:Nat):jR:=if j=0 then ⟨3,0,1,1,0⟩ else if j=1 then ⟨28,0,0,0,0⟩ else ⟨1,0,0,0,0⟩
def rkT (j:Nat):jR:=⟨2,0,0,0,3⟩
theorem FY:(bj (k0 2) rkE 3).2=[⟨1,0,1,0,0⟩,⟨2,0,1,0,0⟩]:=by kernel_rfl
theorem ID:(bj (k0 2) rkT 1).1.mt.c 0 9=300:=by kernel_rfl
theorem rk_n:(bj (k0 2) rkT 1).1.n=2:=by kernel_rfl
abbrev KI:Obj:=.cells #[vi iQ 3,vi iQ 0,vi iQ 1,vi uQ 1,vi iQ 0,vi iQ 28,vi iQ 0,vi iQ 0,vi uQ 0,vi iQ 0,vi iQ 1,vi iQ 0,vi iQ 0,vi uQ 0,vi iQ 0] 34 (0,0)
abbrev Kc:Obj:=.cells #[vi iQ 2,vi iQ 0,vi iQ 0,vi uQ 0,vi iQ 3] 34 (0,0)
theorem KV (w:wW):kQ (w.alloc KI) (sS ⟨w.heap.size,0,nN⟩) 3 rkE:=by
 refine .inr ⟨w.heap.size,0,rfl,by simp,λj hj=>⟨?_,λi hi=>?_⟩⟩
 ·have:j=0 \/ j=1 \/ j=2:=by omega
  rcases this with rfl|rfl|rfl<;>decide
 ·rw [ab (ai w KI)]
  have h1:j=0 \/ j=1 \/ j=2:=by omega
  have h2:i=0 \/ i=1 \/ i=2 \/ i=3 \/ i=4:=by omega
  rcases h1 with rfl|rfl|rfl<;>rcases h2 with rfl|rfl|rfl|rfl|rfl<;>rfl
theorem Kb (w:wW):kQ (w.alloc Kc) (sS ⟨w.heap.size,0,nN⟩) 1 rkT:=by
 refine .inr ⟨w.heap.size,0,rfl,by simp,λj hj=>⟨by show (0:Nat)<2 ^ 64;decide,λi hi=>?_⟩⟩
 obtain rfl:j=0:=by omega
 rw [ab (ai w Kc)]
 have h2:i=0 \/ i=1 \/ i=2 \/ i=3 \/ i=4:=by omega
 rcases h2 with rfl|rfl|rfl|rfl|rfl<;>rfl
theorem JF (k:KT) (e:jR):(k.doL e).length <= 1:=by
 by_cases h1:e.kind=1
 ·rw [(ux k e h1).2]
  split
  ·exact Nat.le_refl _
  ·unfold KT.stepL
   split
   ·exact Nat.zero_le _
   ·split
    ·unfold KT.turnL
     split
     ·exact Nat.le_refl _
     ·exact Nat.zero_le _
    ·unfold KT.thingL
     repeat' split
     all_goals exact Nat.le_refl _
 ·obtain ⟨id,why,h⟩:=CO k e h1
  rw [h]
  exact Nat.le_refl _
theorem sk (k:KT) (E:Nat -> jR):∀ j,(bj k E j).2.length <= j
 | 0=>Nat.le_refl _
 | j+1=>by
  have h:=sk k E j
  have h1:=JF (bj k E j).1 (E j)
  show ((bj k E j).2++_).length <= _
  rw [List.length_append]
  split
  ·simp;omega
  ·omega
section
variable {w u:wW}
theorem xu (w:wW) (hT:bA w):Calls tp 8 #[] w (bp (vb tQ) w):=by
 have hTr:=nP (hT.keep ((af.refl [] w).alloc KI) sM) (On.start _) 2 oM oM (KV w) oM (cp:=3)
 rw [FY] at hTr
 have hTr2:Calls tp 9 #[vi iQ 2,.slice (sS ⟨w.heap.size,0,nN⟩) 3 3] (w.alloc KI) (λe u'=>∃ g cap',e=.returned (.tuple #[.slice (rA g) 2 cap',vi iQ 0]) /\ On [] (w.alloc KI) [fW g cap' [⟨1,0,1,0,0⟩,⟨2,0,1,0,0⟩]] u'):=hTr
 have m0:af [] w (w.alloc KI):=mR.alloc _
 clear hTr
 go_in
 go_wp2_with (first
  | (
   go_at_call 9
   refine hTr2.mono ?_
   rintro e v ⟨g,cap',rfl,hA⟩
   obtain ⟨F1,hr⟩:=hA.get 0 rfl
   have hcap:=hr.2.cap
   have hR:=pH hr
   have hm:=hA.mod
   obtain ⟨b,hgb,_⟩:=hR 0 dE
   rw [hgb] at hR ⊢
   have hT2:bA (v.alloc Kc):=hT.keep ((m0.trans hm sM).alloc Kc) sM
   have hCo:Calls tp 30 #[vi iQ 2,vi iQ 0,.slice (sS ⟨v.heap.size,0,nN⟩) 1 1] (v.alloc Kc) (λe u'=>e=.returned (.tuple #[vi iQ 300,vi iQ 0]) /\ On [] (v.alloc Kc) [] u'):=by
    have:=yV hT2 (On.start _) 2 oM oM (c:=0) oM (Kb v) oM rk_n (cp:=1)
    rw [ID] at this
    exact this
   have hc1:(1:Int) <= (cap':Int):=by have:=hcap.1;simp at this;omega
   have hc2:1 <= cap':=by have:=hcap.1;simp at this;omega
   have hR:jt v (sS ⟨b,0,nN⟩) 2 (λi=>[(⟨1,0,1,0,0⟩:cX),⟨2,0,1,0,0⟩].getD i ⟨0,0,0,0,0⟩):=hR
   have HM:=zh (m0.trans hm sM)
   clear hTr2 hA hr hcap hm m0 hT2)
  | (
   go_at_call 30
   refine hCo.s λv2 hB=>?_
   have hm2:af [] v v2:=(mR.alloc Kc).trans hB.mod sM
   have hR2:=hR.keep hm2
   have hD1:Calls tp 10 #[.slice (sS ⟨b,0,nN⟩) 2 cap',.slice (sS ⟨b,0,nN⟩) 1 cap'] v2 (bp (vi iQ 1) v2):=dB (n1:=2) (n2:=1) (hR2.le dE) (hR2.le dE) oM oM
   have hD2:∀ v3,af [] v2 v3 -> Calls tp 10 #[.slice (sS ⟨b,0,nN⟩) 2 cap',.slice (sS ⟨b,0,nN⟩) 2 cap'] v3 (bp (vi iQ (-1)) v3):=λv3 m=>dB (n1:=2) (n2:=2) ((hR2.keep m).le dE) ((hR2.keep m).le dE) oM oM
   have HM2:=zh (HM.out.trans hm2 sM)
   clear hCo hB hm2 hR hR2)
  | (
   have hx:=hD1
   go_at_call 10
   refine hD1.s λv3 m3=>?_
   clear hD1 hx)
  | (
   go_at_call 10
   refine (hD2 _ m3).s λv4 m4=>?_))
 go_ret
 exact ⟨rfl,(HM2.out.trans m3 sM).trans m4 sM⟩
theorem ReplayTwice_walk (w:wW) (hT:bA w) (n:Int) (_hn:(Lit.int .i64 n).wf=tQ) (a:Option Addr) (len cap:Nat) (A:Nat -> qs) (hA:xe 5 qs.vals qs.ok w a len cap A):
  Calls tp 3 #[vi iQ n,.slice a len cap] w (bL (vb tQ) [] w λ_=>True):=by
 have hE:=kQ.of hA
 have hKn:∀ v,af [] w v -> Calls tp 8 #[] v (bp (vb tQ) v):=λv m=>xu v (hT.keep m sM)
 by_cases hl:300<len
 ·have hlI:(300:Int)<(len:Int):=by omega
  clear hA hE
  go_in
  go_wp2_with (go_at_call 8;refine (hKn _ mR).s λv m1=>?_)
  go_ret
  exact bL.of rfl m1 trivial
 have hlI:¬ (300:Int)<(len:Int):=by omega
 by_cases hv:1 <= n /\ n <= 64
 case neg=>
  have hTr:=λv=>pD (u:=v) n hv (a:=a) (len:=len) (cp:=cap)
  have hD:∀ v,Calls tp 10 #[.slice nN 0 0,.slice nN 0 0] v (bp (vi iQ (-1)) v):=λv=>dB (n1:=0) (n2:=0) (xs:=λ_=>⟨0,0,0,0,0⟩) (λi hi=>by simp at hi) (λi hi=>by simp at hi) oM oM
  have hz:=hT
  clear hA hE hv
  go_in
  go_wp2_with (first
   | (have hq:=hz;go_at_call 9;refine (hTr _).s λv1 m1=>?_;clear hz hq)
   | (go_at_call 9;refine (hTr _).s λv2 m2=>?_)
   | (go_at_call 10;refine (hD _).s λv3 m3=>?_;have M3:=(m1.trans m2 sM).trans m3 sM)
   | (go_at_call 8;refine (hKn _ M3).s λv4 m4=>?_))
  go_ret
  exact bL.of rfl (M3.trans m4 sM) trivial
 obtain ⟨hv1,hv2⟩:=hv
 obtain ⟨t,rfl⟩:=iN (show 0 <= n by omega)
 have hTr:∀ v,af [] w v -> _:=λv m=>nP (hT.keep m sM) (On.start v) t oM oM (hE.keep m) oM (cp:=cap)
 have hb:(bj (k0 t) (λj=>Hl (A j)) len).2.length<1000000:=by have:=sk (k0 t) (λj=>Hl (A j)) len;omega
 generalize (bj (k0 t) (λj=>Hl (A j)) len).2=L at *
 clear hA hE _hn
 have hTr1:=hTr w mR
 rcases L with _|⟨r,L⟩
 ·simp only [List.length_nil] at hTr hTr1
  have hD:∀ gx cx gy cy v,Calls tp 10 #[.slice gx 0 cx,.slice gy 0 cy] v (bp (vi iQ (-1)) v):=λ_ _ _ _ v=>dB (n1:=0) (n2:=0) (xs:=λ_=>⟨0,0,0,0,0⟩) (λi hi=>by simp at hi) (λi hi=>by simp at hi) oM oM
  go_in
  go_wp2_with (first
   | (have hq:=hTr1;go_at_call 9;refine hTr1.mono ?_;rintro e v1 ⟨g1,c1,rfl,h1⟩;have m1:=h1.mod;clear hTr1 hq h1)
   | (go_at_call 9;refine (hTr _ m1).mono ?_;rintro e v2 ⟨g2,c2,rfl,h2⟩;have m2:=h2.mod;clear h2)
   | (go_at_call 10;refine (hD _ _ _ _ _).s λv3 m3=>?_;have M3:=(m1.trans m2 sM).trans m3 sM)
   | (go_at_call 8;refine (hKn _ M3).s λv4 m4=>?_))
  go_ret
  exact bL.of rfl (M3.trans m4 sM) trivial
 ·simp only [List.length_cons] at hTr hTr1 hb
  obtain ⟨q,hq⟩:∃ q,L.length=q:=⟨_,rfl⟩
  rw [hq] at hTr hTr1 hb
  have HQ:=zh hq
  have hq1:((q:Int)+1) - 1=q:=by omega
  have hq2:(0:Int)<(q:Int)+1:=by omega
  go_in
  go_wp2_with (first
   | (
    have hq:=hTr1
    go_at_call 9
    refine hTr1.mono ?_
    rintro e v1 ⟨g1,c1,rfl,h1⟩
    have m1:=h1.mod
    have r1:=pH (h1.get 0 rfl).choose_spec
    clear hTr1 hq h1)
   | (
    go_at_call 9
    refine (hTr _ m1).mono ?_
    rintro e v2 ⟨g2,c2,rfl,h2⟩
    have m2:=h2.mod
    have r2:=pH (h2.get 0 rfl).choose_spec
    have hcap:=(h2.get 0 rfl).choose_spec.2.cap
    have r1:=r1.keep m2
    simp only [List.length_cons] at r1 r2 hcap
    rw [HQ.out] at r1 r2 hcap
    obtain ⟨b1,e1,_⟩:=r1 0 oM
    obtain ⟨b2,e2,_⟩:=r2 0 oM
    rw [e1] at r1 ⊢
    rw [e2] at r2 ⊢
    have hD1:Calls tp 10 #[.slice (sS ⟨b1,0,nN⟩) (q+1) c1,.slice (sS ⟨b2,0,nN⟩) (q+1) c2] v2 (bp (vi iQ (-1)) v2):=by
     have:=dB (n1:=q+1) (n2:=q+1) (k1:=c1) (k2:=c2) (r1.le oM) (r2.le oM) oM oM
     rw [pG rfl] at this
     exact this
    have hD2:∀ v,af [] v2 v -> Calls tp 10 #[.slice (sS ⟨b1,0,nN⟩) (q+1) c1,.slice (sS ⟨b2,0,nN⟩) q c2] v (bp (vi iQ q) v):=λv m=>by
     have:=dB (n1:=q+1) (n2:=q) (k1:=c1) (k2:=c2) ((r1.keep m).le oM) ((r2.keep m).le oM) oM oM
     rw [nG oM,show min (q+1) q=q by omega] at this
     exact this
    have hc1:(q:Int) <= (c2:Int):=by have:=hcap.1;omega
    have hc2:q <= c2:=by have:=hcap.1;omega
    have M2:=m1.trans m2 sM
    clear h2 r1 r2 e1 e2 hcap hTr)
   | (
    have hx:=hD1
    go_at_call 10
    refine hD1.s λv3 m3=>?_
    clear hD1 hx)
   | (
    go_at_call 10
    refine (hD2 _ m3).s λv4 m4=>?_
    have M4:=(M2.trans m3 sM).trans m4 sM)
   | (go_at_call 8;refine (hKn _ M4).s λv5 m5=>?_))
  go_ret
  exact bL.of rfl (M4.trans m5 sM) trivial
end
end Go.Proofs.YtmiapbgkphpgoaaGreatDoor