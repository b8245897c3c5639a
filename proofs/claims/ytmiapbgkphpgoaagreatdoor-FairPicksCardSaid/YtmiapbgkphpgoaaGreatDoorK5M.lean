/- Walks and plain laws of the kernel. No condition. -/
import Derived.Test.YtmiapbgkphpgoaaGreatDoorKFM
import Derived.Test.YtmiapbgkphpgoaaGreatDoorBaseM
import Derived.Laws.Tables
import Derived.Laws.Rows
namespace Go.Proofs.YtmiapbgkphpgoaaGreatDoor
set_option linter.unusedVariables false
set_option linter.unusedSimpArgs false
set_option maxRecDepth 100000
set_option maxHeartbeats 20000000
open Go.RowKit
open Go.Proofs.Tryz renaming prog → tp
open List renaming setIfInBounds_toArray → sA, set_cons_zero → sB, set_cons_succ → sC
open Go renaming World → wW
open Go.Value renaming pointer → vp, bool → vb, int → vi
open Go.IntKind renaming i64 → iQ, u64 → uQ
open Option renaming none → nN, some → sS
open Bool renaming true → tQ, false → fF
open Int renaming eq_ofNat_of_zero_le → iN
theorem ja {fn:Func} {p:Tmp} {ty:TypeId} (h:fn.results=#[.cell p ty]) (tmps:Array Value) (P:Program) (w:wW):
  (results fn tmps).run P w=((asAddr (tmps.getD p undef)).run P w).andThen λa w₁=>(loadVar ty a).run P w₁:=by
 simp only [results,h]
 simp [Sem.run_bind,Result.andThen]
section
variable {F:List Nat} {w u:wW} {b:Nat} {p:KP} {k:KT}
theorem GC {t:fI} (hok:t.ok) (cpu:Int):(t.list cpu).length <= 32:=by
 unfold fI.list
 split
 ·rename_i hi
  have hc:cpu.toNat<t.n:=by obtain ⟨h1,h2⟩:=hi;omega
  exact Cg (hok.2.2.nodup _ hc) (λx hx=>hok.2.2.bd _ x hc hx)
 ·simp
theorem vy {t:dj} (hok:t.ok) (cpu:Int):(t.list cpu).length <= 32:=by
 unfold dj.list
 split
 ·rename_i hi
  have hc:(cpu+1).toNat<t.n+1:=by obtain ⟨h1,h2⟩:=hi;omega
  exact Cg (hok.2.2.nodup _ hc) (λx hx=>hok.2.2.bd _ x hc hx)
 ·simp
theorem wc (w:wW) (g:Nat) (cs:Array Value):af [g] w (w.setRow g cs):=⟨rfl,rfl,rfl,by simp,λk hk hS=>setRow_other w g k cs (by simpa using hS)⟩
theorem uC {P:Program} {ops:Array Oper} {md:Region.Mode} {C:Array Bool -> wW -> Prop} {Q:Act -> Prop} {i:Nat} {o:Oper} {rest:List Oper} {a:Act} (hw:Region.wanted o (yielded ops a.tmps)=tQ) (ty:TypeId) (x y:Operand) (ho:o.op=.store ty x y)
  (g:Nat) (cells:Array Value) (hx:a.eval x=vp (sS ⟨g,0,nN⟩)) (hy:a.eval y=.agg cells) (hi:(P.info? ty).map (·.size)=sS cells.size) (h1:cells.all (·.oneCell')=tQ)
  (hr:∀ s w,C s w -> ∃ t old,w.heap[g]?=sS (.cells old t (0,0)) /\ old.size=cells.size /\ C (s.setIfInBounds i tQ) (w.setRow g cells)) (h:bS P md ops C Q (i+1) rest (a.put o.dst undef)):bS P md ops C Q i (o :: rest) a:=by
 unfold bS
 rw [pG hw]
 refine ⟨undef,λs w hs hW hC=>?_,h⟩
 obtain ⟨t,old,h2,h3,h4⟩:=hr s w hC
 unfold execOp
 simp only [ho,hx,hy,Instr.storeAt,Instr.sureAddr,Sem.run_bind,Sem.run_pure,Result.andThen_ok,run_storeVar_row w g t ty old cells h2 hi h3 h1]
 exact ⟨rfl,h4⟩
theorem di (hok:k.ok) (hA:On F w (ag b p k) u) (cpu:Int):Calls tp 107 #[vp (sS ⟨b,0,nN⟩),vi iQ cpu] u (λe u'=>e=.returned (.agg (ez (k.flags cpu)).toArray) /\ af [] u u'):=by
 have hc0:∀ u',af [] u u' -> u'.cell? ⟨b,1,nN⟩=sS (vp (sS ⟨p.rq,0,nN⟩)) /\ u'.cell? ⟨b,2,nN⟩=sS (vp (sS ⟨p.tm,0,nN⟩)) /\ u'.cell? ⟨b,5,nN⟩=sS (vp (sS ⟨p.wk,0,nN⟩)) /\ u'.cell? ⟨b,6,nN⟩=sS (vp (sS ⟨p.cb,0,nN⟩)) /\ u'.cell? ⟨b,10,nN⟩=sS (vp (sS ⟨p.sp,0,nN⟩)) /\ u'.cell? ⟨b,11,nN⟩=sS (vp (sS ⟨p.dk,0,nN⟩)) /\ u'.cell? ⟨b,17,nN⟩=sS (vi uQ (k.active:Nat)):=
  λu' m=>⟨(hA.keep m).kC 1,(hA.keep m).kC 2,(hA.keep m).kC 5,(hA.keep m).kC 6,(hA.keep m).kC 10,(hA.keep m).kC 11,(hA.keep m).kC 17⟩
 have m0:af [] u (u.alloc (.cells #[vb fF,vb fF,vb fF,vb fF,vb fF,vb fF,vb fF,vb fF,vb fF] 227 (0,0))):=mR.alloc _
 have hWa:=λu' (m:af [] u u')=>ov (hA.keep m) cpu
 obtain ⟨F14,h14⟩:=hA.get 14 rfl
 obtain ⟨F15,h15⟩:=hA.get 15 rfl
 obtain ⟨F8,h8⟩:=hA.get 8 rfl
 obtain ⟨F4,h4⟩:=hA.get 4 rfl
 obtain ⟨F7,h7⟩:=hA.get 7 rfl
 obtain ⟨F3,h3⟩:=hA.get 3 rfl
 have hMu:=λu' (m:af [] u u')=>vC ((eP p.sp k.sp).keep h14 m sM) cpu
 have hHe:=λu' (m:af [] u u')=>(Dm ((eP p.sp k.sp).keep h14 m sM) cpu).mono (λe w h=>(⟨h.1,h.2.mod⟩:_ /\ af [] _ _))
 have hBu:=λu' (m:af [] u u')=>(dO ((dV p.dk k.dk).keep h15 m sM)).mono (λe w h=>(⟨h.1,h.2.mod⟩:_ /\ af [] _ _))
 have hBy:=λu' (m:af [] u u')=>(Hs ((dV p.dk k.dk).keep h15 m sM)).mono (λe w h=>(⟨h.1,h.2.mod⟩:_ /\ af [] _ _))
 have hHa:=λu' (m:af [] u u')=>(bK k.active hok.ac cpu u').mono (λe w h=>(⟨h.1,h.2.mod⟩:_ /\ af [] _ _))
 have hCa:=λu' (m:af [] u u')=>Fm ((iR p.cb k.cb).keep h8 m sM) cpu
 have hTi:=λu' (m:af [] u u')=>xk ((bh p.tm k.tm).keep h4 m sM) cpu
 have hWo:=λu' (m:af [] u u')=>vx ((fh p.wk k.wk).keep h7 m sM) cpu
 have hW2:=λu' (m:af [] u u')=>vx ((fh p.wk k.wk).keep h7 m sM) (-1)
 have hRu:=λu' (m:af [] u u')=>(jA ((dK p.rq k.rq).keep h3 m sM) cpu).mono (λe w h=>(⟨h.1,h.2.mod⟩:_ /\ af [] _ _))
 have hl1:=GC h8.1 cpu
 have hl2:=vy h7.1 cpu
 have hl3:=vy h7.1 (-1)
 have hfl:k.flags cpu=⟨k.sp.must cpu,aW k.sp.held cpu,k.dk.run.isSome&&decide (k.dk.by_=cpu),aW k.active cpu,decide (0<(k.cb.list cpu).length),(k.waits cpu).isSome,k.tm.ready cpu,decide (0<(k.wk.list cpu).length+(k.wk.list (-1)).length),decide (0<k.rq.load cpu)⟩:=rfl
 rw [hfl]
 simp only [ez]
 clear hfl hA h14 h15 h8 h4 h7 h3
 generalize k.sp.must cpu=f1 at *
 generalize aW k.sp.held cpu=f2 at *
 generalize k.dk.run.isSome=f3 at *
 generalize k.dk.by_=by_ at *
 generalize aW k.active cpu=f4 at *
 generalize (k.cb.list cpu).length=n1 at *
 generalize (k.waits cpu).isSome=f5 at *
 generalize (k.waits cpu).getD 0=wv at *
 generalize k.tm.ready cpu=f6 at *
 generalize (k.wk.list cpu).length=n2 at *
 generalize (k.wk.list (-1)).length=n3 at *
 generalize k.rq.load cpu=n4 at *
 have hwp:IntKind.i64.wrap ((n2:Int)+n3)=(n2:Int)+n3:=by first|(simp [IntKind.wrap,IntKind.bits];omega)|(rw [show IntKind.i64.wrap ((n2:Int)+n3)=wrap64 ((n2:Int)+n3) by simp];unfold wrap64;omega)|(simp;omega)
 cases f3
 ·go_in
  go_wp2_with (go_at_call 177;refine (hWa _ m0).s λv1 mx=>?_;have m1:=m0.trans mx sM;have hR0:=mx.keep (ai u (.cells #[vb fF,vb fF,vb fF,vb fF,vb fF,vb fF,vb fF,vb fF,vb fF] 227 (0,0))) sM;clear mx)
  simp only [List.append_eq,List.cons_append,List.nil_append]
  obtain ⟨R,hR⟩:∃ R,R=u.heap.size:=⟨_,rfl⟩
  rw [<- hR] at hR0 ⊢
  obtain ⟨CC,hCC⟩:∃ CC:Array Bool -> wW -> Prop,CC=(λ(z:Array Bool) (v:wW)=>(v.cell? ⟨b,1,nN⟩=sS (vp (sS ⟨p.rq,0,nN⟩)) /\ v.cell? ⟨b,2,nN⟩=sS (vp (sS ⟨p.tm,0,nN⟩)) /\ v.cell? ⟨b,5,nN⟩=sS (vp (sS ⟨p.wk,0,nN⟩)) /\ v.cell? ⟨b,6,nN⟩=sS (vp (sS ⟨p.cb,0,nN⟩)) /\ v.cell? ⟨b,10,nN⟩=sS (vp (sS ⟨p.sp,0,nN⟩)) /\ v.cell? ⟨b,11,nN⟩=sS (vp (sS ⟨p.dk,0,nN⟩)) /\ v.cell? ⟨b,17,nN⟩=sS (vi uQ (k.active:Nat))) /\ af [] u v /\ v.heap[R]?=sS (.cells (if z.getD 76 tQ=tQ then #[vb f1,vb f2,vb fF,vb f4,vb (decide (0<(n1:Int))),vb f5,vb f6,vb (decide (0<(n2:Int)+n3)),vb (decide (0<n4))] else #[vb fF,vb fF,vb fF,vb fF,vb fF,vb fF,vb fF,vb fF,vb fF]) 227 (0,0))):=⟨_,rfl⟩
  refine de kz kz CC (λz hz=>by rw [hCC];exact ⟨hc0 _ m1.drew,m1.drew,by rw [nG (by rw [hz 76 dE];decide)];exact hR0⟩) ?_
  have hm:∀ i,i≠76 -> dR CC i:=by
   rintro i h5 z v _ hc
   rw [hCC] at hc ⊢
   simp only [jl _ h5]
   exact hc
  have hload:∀ z v,CC z v -> v.cell? ⟨b,1,nN⟩=sS (vp (sS ⟨p.rq,0,nN⟩)) /\ v.cell? ⟨b,2,nN⟩=sS (vp (sS ⟨p.tm,0,nN⟩)) /\ v.cell? ⟨b,5,nN⟩=sS (vp (sS ⟨p.wk,0,nN⟩)) /\ v.cell? ⟨b,6,nN⟩=sS (vp (sS ⟨p.cb,0,nN⟩)) /\ v.cell? ⟨b,10,nN⟩=sS (vp (sS ⟨p.sp,0,nN⟩)) /\ v.cell? ⟨b,11,nN⟩=sS (vp (sS ⟨p.dk,0,nN⟩)) /\ v.cell? ⟨b,17,nN⟩=sS (vi uQ (k.active:Nat)):=by
   intro z v hc
   rw [hCC] at hc
   exact hc.1
  have key:∀ {fn:FuncId} {args:Array Value} {val:Value} (n:Nat) (hn:n≠76) (H:∀ v,af [] u v -> Calls tp fn args v (λe v'=>e=.returned val /\ af [] v v')) (z:Array Bool) (v:wW),CC z v -> Calls tp fn args v (λe v'=>e=.returned val /\ CC (z.setIfInBounds n tQ) v'):=by
   intro fn args val n hn H z v hc
   rw [hCC] at hc ⊢
   refine (H v hc.2.1).s λv' mx=>?_
   exact ⟨rfl,hc0 _ (hc.2.1.trans mx sM),hc.2.1.trans mx sM,by simp only [jl _ hn];exact mx.keep hc.2.2 sM⟩
  clear m0 m1 hR0
  iterate 6 (first|(refine aF (v:=?_) (by rfl) (λw=>?_) (hm _ dE) ?_;rotate_left;· (go_simp<;>with_reducible rfl))|(refine aG (v:=?_) (by rfl) (λs w hUp hC=>?_) (hm _ dE) ?_;rotate_left;· (have hl:=hload s w hC;go_split_ands;go_simp<;>with_reducible rfl))|(refine aE (by rfl) (hm _ dE) ?_));simp only [Act.put,sA,sB,sC,Nat.reduceAdd,Nat.zero_add]
  refine aS (by rfl) (λw=>?_) (λs u hs hUp hc=>key 6 dE hMu s u hc) ?_
  ·go_simp
  simp only [Act.put,sA,sB,sC,Nat.reduceAdd,Nat.zero_add]
  iterate 6 (first|(refine aF (v:=?_) (by rfl) (λw=>?_) (hm _ dE) ?_;rotate_left;· (go_simp<;>with_reducible rfl))|(refine aG (v:=?_) (by rfl) (λs w hUp hC=>?_) (hm _ dE) ?_;rotate_left;· (have hl:=hload s w hC;go_split_ands;go_simp<;>with_reducible rfl))|(refine aE (by rfl) (hm _ dE) ?_));simp only [Act.put,sA,sB,sC,Nat.reduceAdd,Nat.zero_add]
  refine aS (by rfl) (λw=>?_) (λs u hs hUp hc=>key 13 dE hHe s u hc) ?_
  ·go_simp
  simp only [Act.put,sA,sB,sC,Nat.reduceAdd,Nat.zero_add]
  iterate 5 (first|(refine aF (v:=?_) (by rfl) (λw=>?_) (hm _ dE) ?_;rotate_left;· (go_simp<;>with_reducible rfl))|(refine aG (v:=?_) (by rfl) (λs w hUp hC=>?_) (hm _ dE) ?_;rotate_left;· (have hl:=hload s w hC;go_split_ands;go_simp<;>with_reducible rfl))|(refine aE (by rfl) (hm _ dE) ?_));simp only [Act.put,sA,sB,sC,Nat.reduceAdd,Nat.zero_add]
  refine aS (by rfl) (λw=>?_) (λs u hs hUp hc=>key 19 dE hBu s u hc) ?_
  ·go_simp
  simp only [Act.put,sA,sB,sC,Nat.reduceAdd,Nat.zero_add]
  iterate 1 (first|(refine aF (v:=?_) (by rfl) (λw=>?_) (hm _ dE) ?_;rotate_left;· (go_simp<;>with_reducible rfl))|(refine aG (v:=?_) (by rfl) (λs w hUp hC=>?_) (hm _ dE) ?_;rotate_left;· (have hl:=hload s w hC;go_split_ands;go_simp<;>with_reducible rfl))|(refine aE (by rfl) (hm _ dE) ?_));simp only [Act.put,sA,sB,sC,Nat.reduceAdd,Nat.zero_add]
  iterate 8 (first|(refine aF (v:=?_) (by rfl) (λw=>?_) (hm _ dE) ?_;rotate_left;· (go_simp<;>with_reducible rfl))|(refine aG (v:=?_) (by rfl) (λs w hUp hC=>?_) (hm _ dE) ?_;rotate_left;· (have hl:=hload s w hC;go_split_ands;go_simp<;>with_reducible rfl))|(refine aE (by rfl) (hm _ dE) ?_));simp only [Act.put,sA,sB,sC,Nat.reduceAdd,Nat.zero_add]
  iterate 1 (first|(refine aF (v:=?_) (by rfl) (λw=>?_) (hm _ dE) ?_;rotate_left;· (go_simp<;>with_reducible rfl))|(refine aG (v:=?_) (by rfl) (λs w hUp hC=>?_) (hm _ dE) ?_;rotate_left;· (have hl:=hload s w hC;go_split_ands;go_simp<;>with_reducible rfl))|(refine aE (by rfl) (hm _ dE) ?_));simp only [Act.put,sA,sB,sC,Nat.reduceAdd,Nat.zero_add]
  iterate 5 (first|(refine aF (v:=?_) (by rfl) (λw=>?_) (hm _ dE) ?_;rotate_left;· (go_simp<;>with_reducible rfl))|(refine aG (v:=?_) (by rfl) (λs w hUp hC=>?_) (hm _ dE) ?_;rotate_left;· (have hl:=hload s w hC;go_split_ands;go_simp<;>with_reducible rfl))|(refine aE (by rfl) (hm _ dE) ?_));simp only [Act.put,sA,sB,sC,Nat.reduceAdd,Nat.zero_add]
  refine aS (by rfl) (λw=>?_) (λs u hs hUp hc=>key 35 dE hHa s u hc) ?_
  ·go_simp
  simp only [Act.put,sA,sB,sC,Nat.reduceAdd,Nat.zero_add]
  iterate 6 (first|(refine aF (v:=?_) (by rfl) (λw=>?_) (hm _ dE) ?_;rotate_left;· (go_simp<;>with_reducible rfl))|(refine aG (v:=?_) (by rfl) (λs w hUp hC=>?_) (hm _ dE) ?_;rotate_left;· (have hl:=hload s w hC;go_split_ands;go_simp<;>with_reducible rfl))|(refine aE (by rfl) (hm _ dE) ?_));simp only [Act.put,sA,sB,sC,Nat.reduceAdd,Nat.zero_add]
  refine aS (by rfl) (λw=>?_) (λs u hs hUp hc=>key 42 dE hCa s u hc) ?_
  ·go_simp
  simp only [Act.put,sA,sB,sC,Nat.reduceAdd,Nat.zero_add]
  iterate 8 (first|(refine aF (v:=?_) (by rfl) (λw=>?_) (hm _ dE) ?_;rotate_left;· (go_simp<;>with_reducible rfl))|(refine aG (v:=?_) (by rfl) (λs w hUp hC=>?_) (hm _ dE) ?_;rotate_left;· (have hl:=hload s w hC;go_split_ands;go_simp<;>with_reducible rfl))|(refine aE (by rfl) (hm _ dE) ?_));simp only [Act.put,sA,sB,sC,Nat.reduceAdd,Nat.zero_add]
  refine aS (by rfl) (λw=>?_) (λs u hs hUp hc=>key 51 dE hTi s u hc) ?_
  ·go_simp
  simp only [Act.put,sA,sB,sC,Nat.reduceAdd,Nat.zero_add]
  iterate 6 (first|(refine aF (v:=?_) (by rfl) (λw=>?_) (hm _ dE) ?_;rotate_left;· (go_simp<;>with_reducible rfl))|(refine aG (v:=?_) (by rfl) (λs w hUp hC=>?_) (hm _ dE) ?_;rotate_left;· (have hl:=hload s w hC;go_split_ands;go_simp<;>with_reducible rfl))|(refine aE (by rfl) (hm _ dE) ?_));simp only [Act.put,sA,sB,sC,Nat.reduceAdd,Nat.zero_add]
  refine aS (by rfl) (λw=>?_) (λs u hs hUp hc=>key 58 dE hWo s u hc) ?_
  ·go_simp
  simp only [Act.put,sA,sB,sC,Nat.reduceAdd,Nat.zero_add]
  iterate 5 (first|(refine aF (v:=?_) (by rfl) (λw=>?_) (hm _ dE) ?_;rotate_left;· (go_simp<;>with_reducible rfl))|(refine aG (v:=?_) (by rfl) (λs w hUp hC=>?_) (hm _ dE) ?_;rotate_left;· (have hl:=hload s w hC;go_split_ands;go_simp<;>with_reducible rfl))|(refine aE (by rfl) (hm _ dE) ?_));simp only [Act.put,sA,sB,sC,Nat.reduceAdd,Nat.zero_add]
  refine aS (by rfl) (λw=>?_) (λs u hs hUp hc=>key 64 dE hW2 s u hc) ?_
  ·go_simp
  simp only [Act.put,sA,sB,sC,Nat.reduceAdd,Nat.zero_add]
  iterate 8 (first|(refine aF (v:=?_) (by rfl) (λw=>?_) (hm _ dE) ?_;rotate_left;· (go_simp<;>with_reducible rfl))|(refine aG (v:=?_) (by rfl) (λs w hUp hC=>?_) (hm _ dE) ?_;rotate_left;· (have hl:=hload s w hC;go_split_ands;go_simp<;>with_reducible rfl))|(refine aE (by rfl) (hm _ dE) ?_));simp only [Act.put,sA,sB,sC,Nat.reduceAdd,Nat.zero_add]
  refine aS (by rfl) (λw=>?_) (λs u hs hUp hc=>key 73 dE hRu s u hc) ?_
  ·go_simp
  simp only [Act.put,sA,sB,sC,Nat.reduceAdd,Nat.zero_add]
  iterate 2 (first|(refine aF (v:=?_) (by rfl) (λw=>?_) (hm _ dE) ?_;rotate_left;· (go_simp<;>with_reducible rfl))|(refine aG (v:=?_) (by rfl) (λs w hUp hC=>?_) (hm _ dE) ?_;rotate_left;· (have hl:=hload s w hC;go_split_ands;go_simp<;>with_reducible rfl))|(refine aE (by rfl) (hm _ dE) ?_));simp only [Act.put,sA,sB,sC,Nat.reduceAdd,Nat.zero_add]
  refine uC (by rfl) _ _ _ rfl R #[vb f1,vb f2,vb fF,vb f4,vb (decide (0<(n1:Int))),vb f5,vb f6,vb (decide (0<(n2:Int)+n3)),vb (decide (0<n4))] (by rfl) (by first|rfl|(go_simp;done)|(go_simp;rfl)|(go_simp;rw [hwp];omega)|(go_simp;omega)) kz (by simp [Value.oneCell']) ?_ ?_
  ·intro z v hc
   rw [hCC] at hc ⊢
   obtain ⟨_,g2,g3⟩:=hc
   have m5:=g2.trans (wc v R #[vb f1,vb f2,vb fF,vb f4,vb (decide (0<(n1:Int))),vb f5,vb f6,vb (decide (0<(n2:Int)+n3)),vb (decide (0<n4))]) (by simp;omega)
   refine ⟨_,_,g3,by split<;>rfl,hc0 _ m5,m5,?_⟩
   rw [pG (qn _ _)]
   exact setRow_heap _ _ _ _ _ _ g3
  refine pc ?_
  intro z v hall hc
  rw [hCC] at hc
  obtain ⟨_,g2,g3⟩:=hc
  rw [pG (hall 76 dE)] at g3
  clear hm hload key hCC hall CC hMu hHe hBu hBy hHa hCa hTi hWo hW2 hRu hc0 hWa
  go_wp2
  refine bodyPost_ret (results_cell_row rfl _ _ R _ _ (0,0) _ (by rfl) g3 Tryz.underlying227 rfl kz) rfl ?_
  refine ⟨?_,g2⟩
  simp;omega
 ·go_in
  go_wp2_with (go_at_call 177;refine (hWa _ m0).s λv1 mx=>?_;have m1:=m0.trans mx sM;have hR0:=mx.keep (ai u (.cells #[vb fF,vb fF,vb fF,vb fF,vb fF,vb fF,vb fF,vb fF,vb fF] 227 (0,0))) sM;clear mx)
  simp only [List.append_eq,List.cons_append,List.nil_append]
  obtain ⟨R,hR⟩:∃ R,R=u.heap.size:=⟨_,rfl⟩
  rw [<- hR] at hR0 ⊢
  obtain ⟨CC,hCC⟩:∃ CC:Array Bool -> wW -> Prop,CC=(λ(z:Array Bool) (v:wW)=>(v.cell? ⟨b,1,nN⟩=sS (vp (sS ⟨p.rq,0,nN⟩)) /\ v.cell? ⟨b,2,nN⟩=sS (vp (sS ⟨p.tm,0,nN⟩)) /\ v.cell? ⟨b,5,nN⟩=sS (vp (sS ⟨p.wk,0,nN⟩)) /\ v.cell? ⟨b,6,nN⟩=sS (vp (sS ⟨p.cb,0,nN⟩)) /\ v.cell? ⟨b,10,nN⟩=sS (vp (sS ⟨p.sp,0,nN⟩)) /\ v.cell? ⟨b,11,nN⟩=sS (vp (sS ⟨p.dk,0,nN⟩)) /\ v.cell? ⟨b,17,nN⟩=sS (vi uQ (k.active:Nat))) /\ af [] u v /\ v.heap[R]?=sS (.cells (if z.getD 76 tQ=tQ then #[vb f1,vb f2,vb (decide (by_=cpu)),vb f4,vb (decide (0<(n1:Int))),vb f5,vb f6,vb (decide (0<(n2:Int)+n3)),vb (decide (0<n4))] else #[vb fF,vb fF,vb fF,vb fF,vb fF,vb fF,vb fF,vb fF,vb fF]) 227 (0,0))):=⟨_,rfl⟩
  refine de kz kz CC (λz hz=>by rw [hCC];exact ⟨hc0 _ m1.drew,m1.drew,by rw [nG (by rw [hz 76 dE];decide)];exact hR0⟩) ?_
  have hm:∀ i,i≠76 -> dR CC i:=by
   rintro i h5 z v _ hc
   rw [hCC] at hc ⊢
   simp only [jl _ h5]
   exact hc
  have hload:∀ z v,CC z v -> v.cell? ⟨b,1,nN⟩=sS (vp (sS ⟨p.rq,0,nN⟩)) /\ v.cell? ⟨b,2,nN⟩=sS (vp (sS ⟨p.tm,0,nN⟩)) /\ v.cell? ⟨b,5,nN⟩=sS (vp (sS ⟨p.wk,0,nN⟩)) /\ v.cell? ⟨b,6,nN⟩=sS (vp (sS ⟨p.cb,0,nN⟩)) /\ v.cell? ⟨b,10,nN⟩=sS (vp (sS ⟨p.sp,0,nN⟩)) /\ v.cell? ⟨b,11,nN⟩=sS (vp (sS ⟨p.dk,0,nN⟩)) /\ v.cell? ⟨b,17,nN⟩=sS (vi uQ (k.active:Nat)):=by
   intro z v hc
   rw [hCC] at hc
   exact hc.1
  have key:∀ {fn:FuncId} {args:Array Value} {val:Value} (n:Nat) (hn:n≠76) (H:∀ v,af [] u v -> Calls tp fn args v (λe v'=>e=.returned val /\ af [] v v')) (z:Array Bool) (v:wW),CC z v -> Calls tp fn args v (λe v'=>e=.returned val /\ CC (z.setIfInBounds n tQ) v'):=by
   intro fn args val n hn H z v hc
   rw [hCC] at hc ⊢
   refine (H v hc.2.1).s λv' mx=>?_
   exact ⟨rfl,hc0 _ (hc.2.1.trans mx sM),hc.2.1.trans mx sM,by simp only [jl _ hn];exact mx.keep hc.2.2 sM⟩
  clear m0 m1 hR0
  iterate 6 (first|(refine aF (v:=?_) (by rfl) (λw=>?_) (hm _ dE) ?_;rotate_left;· (go_simp<;>with_reducible rfl))|(refine aG (v:=?_) (by rfl) (λs w hUp hC=>?_) (hm _ dE) ?_;rotate_left;· (have hl:=hload s w hC;go_split_ands;go_simp<;>with_reducible rfl))|(refine aE (by rfl) (hm _ dE) ?_));simp only [Act.put,sA,sB,sC,Nat.reduceAdd,Nat.zero_add]
  refine aS (by rfl) (λw=>?_) (λs u hs hUp hc=>key 6 dE hMu s u hc) ?_
  ·go_simp
  simp only [Act.put,sA,sB,sC,Nat.reduceAdd,Nat.zero_add]
  iterate 6 (first|(refine aF (v:=?_) (by rfl) (λw=>?_) (hm _ dE) ?_;rotate_left;· (go_simp<;>with_reducible rfl))|(refine aG (v:=?_) (by rfl) (λs w hUp hC=>?_) (hm _ dE) ?_;rotate_left;· (have hl:=hload s w hC;go_split_ands;go_simp<;>with_reducible rfl))|(refine aE (by rfl) (hm _ dE) ?_));simp only [Act.put,sA,sB,sC,Nat.reduceAdd,Nat.zero_add]
  refine aS (by rfl) (λw=>?_) (λs u hs hUp hc=>key 13 dE hHe s u hc) ?_
  ·go_simp
  simp only [Act.put,sA,sB,sC,Nat.reduceAdd,Nat.zero_add]
  iterate 5 (first|(refine aF (v:=?_) (by rfl) (λw=>?_) (hm _ dE) ?_;rotate_left;· (go_simp<;>with_reducible rfl))|(refine aG (v:=?_) (by rfl) (λs w hUp hC=>?_) (hm _ dE) ?_;rotate_left;· (have hl:=hload s w hC;go_split_ands;go_simp<;>with_reducible rfl))|(refine aE (by rfl) (hm _ dE) ?_));simp only [Act.put,sA,sB,sC,Nat.reduceAdd,Nat.zero_add]
  refine aS (by rfl) (λw=>?_) (λs u hs hUp hc=>key 19 dE hBu s u hc) ?_
  ·go_simp
  simp only [Act.put,sA,sB,sC,Nat.reduceAdd,Nat.zero_add]
  iterate 1 (first|(refine aF (v:=?_) (by rfl) (λw=>?_) (hm _ dE) ?_;rotate_left;· (go_simp<;>with_reducible rfl))|(refine aG (v:=?_) (by rfl) (λs w hUp hC=>?_) (hm _ dE) ?_;rotate_left;· (have hl:=hload s w hC;go_split_ands;go_simp<;>with_reducible rfl))|(refine aE (by rfl) (hm _ dE) ?_));simp only [Act.put,sA,sB,sC,Nat.reduceAdd,Nat.zero_add]
  iterate 5 (first|(refine aF (v:=?_) (by rfl) (λw=>?_) (hm _ dE) ?_;rotate_left;· (go_simp<;>with_reducible rfl))|(refine aG (v:=?_) (by rfl) (λs w hUp hC=>?_) (hm _ dE) ?_;rotate_left;· (have hl:=hload s w hC;go_split_ands;go_simp<;>with_reducible rfl))|(refine aE (by rfl) (hm _ dE) ?_));simp only [Act.put,sA,sB,sC,Nat.reduceAdd,Nat.zero_add]
  refine aS (by rfl) (λw=>?_) (λs u hs hUp hc=>key 26 dE hBy s u hc) ?_
  ·go_simp
  simp only [Act.put,sA,sB,sC,Nat.reduceAdd,Nat.zero_add]
  iterate 3 (first|(refine aF (v:=?_) (by rfl) (λw=>?_) (hm _ dE) ?_;rotate_left;· (go_simp<;>with_reducible rfl))|(refine aG (v:=?_) (by rfl) (λs w hUp hC=>?_) (hm _ dE) ?_;rotate_left;· (have hl:=hload s w hC;go_split_ands;go_simp<;>with_reducible rfl))|(refine aE (by rfl) (hm _ dE) ?_));simp only [Act.put,sA,sB,sC,Nat.reduceAdd,Nat.zero_add]
  iterate 5 (first|(refine aF (v:=?_) (by rfl) (λw=>?_) (hm _ dE) ?_;rotate_left;· (go_simp<;>with_reducible rfl))|(refine aG (v:=?_) (by rfl) (λs w hUp hC=>?_) (hm _ dE) ?_;rotate_left;· (have hl:=hload s w hC;go_split_ands;go_simp<;>with_reducible rfl))|(refine aE (by rfl) (hm _ dE) ?_));simp only [Act.put,sA,sB,sC,Nat.reduceAdd,Nat.zero_add]
  refine aS (by rfl) (λw=>?_) (λs u hs hUp hc=>key 35 dE hHa s u hc) ?_
  ·go_simp
  simp only [Act.put,sA,sB,sC,Nat.reduceAdd,Nat.zero_add]
  iterate 6 (first|(refine aF (v:=?_) (by rfl) (λw=>?_) (hm _ dE) ?_;rotate_left;· (go_simp<;>with_reducible rfl))|(refine aG (v:=?_) (by rfl) (λs w hUp hC=>?_) (hm _ dE) ?_;rotate_left;· (have hl:=hload s w hC;go_split_ands;go_simp<;>with_reducible rfl))|(refine aE (by rfl) (hm _ dE) ?_));simp only [Act.put,sA,sB,sC,Nat.reduceAdd,Nat.zero_add]
  refine aS (by rfl) (λw=>?_) (λs u hs hUp hc=>key 42 dE hCa s u hc) ?_
  ·go_simp
  simp only [Act.put,sA,sB,sC,Nat.reduceAdd,Nat.zero_add]
  iterate 8 (first|(refine aF (v:=?_) (by rfl) (λw=>?_) (hm _ dE) ?_;rotate_left;· (go_simp<;>with_reducible rfl))|(refine aG (v:=?_) (by rfl) (λs w hUp hC=>?_) (hm _ dE) ?_;rotate_left;· (have hl:=hload s w hC;go_split_ands;go_simp<;>with_reducible rfl))|(refine aE (by rfl) (hm _ dE) ?_));simp only [Act.put,sA,sB,sC,Nat.reduceAdd,Nat.zero_add]
  refine aS (by rfl) (λw=>?_) (λs u hs hUp hc=>key 51 dE hTi s u hc) ?_
  ·go_simp
  simp only [Act.put,sA,sB,sC,Nat.reduceAdd,Nat.zero_add]
  iterate 6 (first|(refine aF (v:=?_) (by rfl) (λw=>?_) (hm _ dE) ?_;rotate_left;· (go_simp<;>with_reducible rfl))|(refine aG (v:=?_) (by rfl) (λs w hUp hC=>?_) (hm _ dE) ?_;rotate_left;· (have hl:=hload s w hC;go_split_ands;go_simp<;>with_reducible rfl))|(refine aE (by rfl) (hm _ dE) ?_));simp only [Act.put,sA,sB,sC,Nat.reduceAdd,Nat.zero_add]
  refine aS (by rfl) (λw=>?_) (λs u hs hUp hc=>key 58 dE hWo s u hc) ?_
  ·go_simp
  simp only [Act.put,sA,sB,sC,Nat.reduceAdd,Nat.zero_add]
  iterate 5 (first|(refine aF (v:=?_) (by rfl) (λw=>?_) (hm _ dE) ?_;rotate_left;· (go_simp<;>with_reducible rfl))|(refine aG (v:=?_) (by rfl) (λs w hUp hC=>?_) (hm _ dE) ?_;rotate_left;· (have hl:=hload s w hC;go_split_ands;go_simp<;>with_reducible rfl))|(refine aE (by rfl) (hm _ dE) ?_));simp only [Act.put,sA,sB,sC,Nat.reduceAdd,Nat.zero_add]
  refine aS (by rfl) (λw=>?_) (λs u hs hUp hc=>key 64 dE hW2 s u hc) ?_
  ·go_simp
  simp only [Act.put,sA,sB,sC,Nat.reduceAdd,Nat.zero_add]
  iterate 8 (first|(refine aF (v:=?_) (by rfl) (λw=>?_) (hm _ dE) ?_;rotate_left;· (go_simp<;>with_reducible rfl))|(refine aG (v:=?_) (by rfl) (λs w hUp hC=>?_) (hm _ dE) ?_;rotate_left;· (have hl:=hload s w hC;go_split_ands;go_simp<;>with_reducible rfl))|(refine aE (by rfl) (hm _ dE) ?_));simp only [Act.put,sA,sB,sC,Nat.reduceAdd,Nat.zero_add]
  refine aS (by rfl) (λw=>?_) (λs u hs hUp hc=>key 73 dE hRu s u hc) ?_
  ·go_simp
  simp only [Act.put,sA,sB,sC,Nat.reduceAdd,Nat.zero_add]
  iterate 2 (first|(refine aF (v:=?_) (by rfl) (λw=>?_) (hm _ dE) ?_;rotate_left;· (go_simp<;>with_reducible rfl))|(refine aG (v:=?_) (by rfl) (λs w hUp hC=>?_) (hm _ dE) ?_;rotate_left;· (have hl:=hload s w hC;go_split_ands;go_simp<;>with_reducible rfl))|(refine aE (by rfl) (hm _ dE) ?_));simp only [Act.put,sA,sB,sC,Nat.reduceAdd,Nat.zero_add]
  refine uC (by rfl) _ _ _ rfl R #[vb f1,vb f2,vb (decide (by_=cpu)),vb f4,vb (decide (0<(n1:Int))),vb f5,vb f6,vb (decide (0<(n2:Int)+n3)),vb (decide (0<n4))] (by rfl) (by first|rfl|(go_simp;done)|(go_simp;rfl)|(go_simp;rw [hwp];omega)|(go_simp;omega)) kz (by simp [Value.oneCell']) ?_ ?_
  ·intro z v hc
   rw [hCC] at hc ⊢
   obtain ⟨_,g2,g3⟩:=hc
   have m5:=g2.trans (wc v R #[vb f1,vb f2,vb (decide (by_=cpu)),vb f4,vb (decide (0<(n1:Int))),vb f5,vb f6,vb (decide (0<(n2:Int)+n3)),vb (decide (0<n4))]) (by simp;omega)
   refine ⟨_,_,g3,by split<;>rfl,hc0 _ m5,m5,?_⟩
   rw [pG (qn _ _)]
   exact setRow_heap _ _ _ _ _ _ g3
  refine pc ?_
  intro z v hall hc
  rw [hCC] at hc
  obtain ⟨_,g2,g3⟩:=hc
  rw [pG (hall 76 dE)] at g3
  clear hm hload key hCC hall CC hMu hHe hBu hBy hHa hCa hTi hWo hW2 hRu hc0 hWa
  go_wp2
  refine bodyPost_ret (results_cell_row rfl _ _ R _ _ (0,0) _ (by rfl) g3 Tryz.underlying227 rfl kz) rfl ?_
  refine ⟨?_,g2⟩
  simp;omega
end
end Go.Proofs.YtmiapbgkphpgoaaGreatDoor