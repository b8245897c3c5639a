/- Walks and plain laws of the kernel. No condition. -/
import Derived.Test.YtaakgpnmfkmdoaaGreatDoorWheelM
import Derived.Test.YtaakgpnmfkmdoaaGreatDoorBaseM
namespace Go.Proofs.YtaakgpnmfkmdoaaGreatDoor
set_option linter.unusedVariables false
set_option linter.unusedSimpArgs false
set_option maxRecDepth 100000
set_option maxHeartbeats 20000000
open Go.RowKit
open Go.Proofs.Tryz renaming prog → tp
open List renaming setIfInBounds_toArray → sA, set_cons_zero → sB, set_cons_succ → sC
open Go renaming World → wW
open Go.Value renaming pointer → vp, bool → vb, int → vi
open Go.IntKind renaming i64 → iQ, u64 → uQ
open Option renaming none → nN, some → sS
open Bool renaming true → tQ, false → fF
open Int renaming eq_ofNat_of_zero_le → iN
def fH (L:List (Int × Nat)) (i:Nat):Int × Nat:=L.getD i (0,0)
theorem AS {L:List (Int × Nat)} {i:Nat} (h:i<L.length):fH L i∈L:=by
 have:fH L i=L[i]:=by simp [fH,List.getD,h]
 rw [this];exact List.getElem_mem h
/-- Go: the errno; the tick. -/
def CR (now:Nat) (t:Int):Int:=if t<now \/ 1152921504606846976<t then 2 else 0
def Nx (now:Nat) (t:Int):Nat:=if t<now \/ 1152921504606846976<t then now else t.toNat
def qN (L:List (Int × Nat)):Nat:=(fH L 0).2
def uu (L:List (Int × Nat)):Int:=if L=[] then 12 else 0
def dH (L:List (Int × Nat)):List Int:=L.map (·.1)
def ix (now:Nat) (L:List (Int × Nat)):List (Int × Nat):=L.filter (λp=>decide (p.2 <= now))
theorem Ke {m:List (Int × Nat)} {i:Int} {n v:Nat} (h:dj m i 0=sS (n,v)):n<m.length:=by
 have hx:∀ (m:List (Int × Nat)) (j:Nat),dj m i j=sS (n,v) -> n<j+m.length:=by
  intro m
  induction m with
  | nil=>intro j h;cases h
  | cons p m ih=>
   intro j h
   unfold dj at h
   split at h
   ·simp at h
    simp;omega
   ·have:=ih (j+1) h
    simp;omega
 have:=hx m 0 h
 omega
def Lr (p:Int × Nat) (id:Int) (due:Nat):Prop:=p.2<due \/ (p.2=due /\ p.1<id)
instance instWheelRef41 (p:Int × Nat) (id:Int) (due:Nat):Decidable (Lr p id due):=by unfold Lr;infer_instance
/-- Where a thing comes to stand. -/
def mQ:List (Int × Nat) -> Int -> Nat -> Nat
 | [],_,_=>0
 | p :: L,id,due=>if Lr p id due then mQ L id due+1 else 0
def tv (L:List (Int × Nat)) (id:Int) (due:Nat):List (Int × Nat):=L.take (mQ L id due)++[(id,due)]++L.drop (mQ L id due)
/-- Add: the errno; the list behind it. -/
def xq (L:List (Int × Nat)) (id due:Int):Int:=if ¬ bh due then 2 else if (aI L id).isSome then 6 else 0
def radd (L:List (Int × Nat)) (id due:Int):List (Int × Nat):=if xq L id due=0 then tv L id due.toNat else L
theorem yB (i:Int):∀ (m:List (Int × Nat)) (j:Nat),(m.map (·.1)).Nodup -> match dj m i j with|some (n,_)=>j <= n /\ m.eraseIdx (n - j)=m.filter (λp=>!decide (p.1=i))|none=>m=m.filter (λp=>!decide (p.1=i))
 | [],j,_=>rfl
 | p :: m,j,hn=>by
  have hn':=List.nodup_cons.1 (show (p.1 :: m.map (·.1)).Nodup from hn)
  unfold dj
  by_cases e:i=p.1
  ·rw [pG e]
   have hf:m.filter (λp=>!decide (p.1=i))=m:=by
    rw [List.filter_eq_self]
    intro q hq
    have:q.1≠i:=by
     rintro rfl
     exact hn'.1 (e ▸ List.mem_map.2 ⟨q,hq,rfl⟩)
    simpa using this
   simp only [Nat.sub_self,List.eraseIdx_zero,List.tail_cons]
   refine ⟨Nat.le_refl _,?_⟩
   rw [List.filter_cons_of_neg (by simp [e]),hf]
  ·rw [nG e]
   have ih:=yB i m (j+1) hn'.2
   have hp:(!decide (p.1=i))=tQ:=by
    have:¬ p.1=i:=λx=>e x.symm
    simpa using this
   cases hd:dj m i (j+1) with
   | none=>
    rw [hd] at ih
    simp only at ih ⊢
    rw [List.filter_cons_of_pos (by simpa using hp),<- ih]
   | some q=>
    obtain ⟨n,v⟩:=q
    rw [hd] at ih
    simp only at ih ⊢
    refine ⟨by omega,?_⟩
    rw [show n - j=(n - (j+1))+1 by omega,List.eraseIdx_cons_succ,ih.2,List.filter_cons_of_pos (by simpa using hp)]
theorem tK {m:List (Int × Nat)} (i:Int) (h:(m.map (·.1)).Nodup):jB m i=m.filter (λp=>!decide (p.1=i)):=by
 have:=yB i m 0 h
 unfold jB
 cases hd:dj m i 0 with
 | none=>rw [hd] at this;exact this
 | some q=>
  obtain ⟨n,v⟩:=q
  rw [hd] at this
  exact this.2
theorem jt {m:List (Int × Nat)} (h:(m.map (·.1)).Nodup) (i:Int) (v:Nat):aI m i=sS v↔(i,v)∈m:=⟨qo,cV h⟩
theorem yz {m n:List (Int × Nat)} (h:m.Perm n) (hn:(n.map (·.1)).Nodup) (i:Int):aI m i=aI n i:=by
 have hm:(m.map (·.1)).Nodup:=(h.map (·.1)).nodup_iff.2 hn
 apply Option.ext
 intro v
 rw [jt hm,jt hn]
 exact h.mem_iff
theorem wY {m:List (Int × Nat)} {i:Int}:aI m i=nN -> i∉m.map (·.1):=λh=>lM (kL h)
theorem SW.Inv.has {s:SW} (h:s.Inv) {id:Int} (hs:(aI s.dues id).isSome=tQ):(id,aQ s id)∈s.dues /\ id∈s.lists (aU s.now (aQ s id)):=by
 cases hd:aI s.dues id with
 | none=>rw [hd] at hs;cases hs
 | some v=>
  have hm:=qo hd
  have hv:aQ s id=v:=h.due hm
  rw [hv]
  refine ⟨hm,(h.part _).mem_iff.2 (List.mem_map.2 ⟨(id,v),List.mem_filter.2 ⟨hm,by simp⟩,rfl⟩)⟩
theorem SW.Inv.drop {s:SW} (h:s.Inv) (id:Int):(s.drop id).Inv:=by
 unfold SW.drop
 by_cases hs:(aI s.dues id).isSome=tQ
 case neg=>rw [nG hs];exact h
 rw [pG hs]
 obtain ⟨hm,_⟩:=h.has hs
 have hE:=tK id h.nodup
 refine ⟨⟨h.ok.now,λp hp=>h.ok.due p ?_⟩,?_,λp hp=>h.wf p ?_,λk=>?_⟩
 ·simp only at hp;rw [hE] at hp;exact (List.mem_filter.1 hp).1
 ·simp only;rw [hE];exact (List.filter_sublist.map _).nodup h.nodup
 ·simp only at hp;rw [hE] at hp;exact (List.mem_filter.1 hp).1
 ·simp only
  rw [hE,List.filter_filter]
  by_cases hk:k=aU s.now (aQ s id)
  ·subst hk
   rw [aN]
   have h1:=(h.part (aU s.now (aQ s id))).filter (λx=>!decide (x=id))
   unfold oK
   refine h1.trans ?_
   rw [List.filter_map,List.filter_filter]
   refine List.Perm.of_eq ?_
   congr 1
   apply List.filter_congr
   intro p _
   simp [Function.comp_def,Bool.and_comm]
  ·rw [bg _ _ hk]
   refine (h.part k).trans (List.Perm.of_eq ?_)
   congr 1
   apply List.filter_congr
   intro p hp
   by_cases e:p.1=id
   ·have hv:p.2=aQ s id:=by rw [<- e];exact (h.due hp).symm
    have:¬ aU s.now p.2=k:=λx=>hk (by rw [<- x,hv])
    simp [this]
   ·simp [e]
/-- The two wheels hold the same. -/
structure iM (s:SW) (L:List (Int × Nat)):Prop where
 inv:s.Inv
 perm:L.Perm s.dues
 sorted:L.Pairwise (λp q=>p.2<q.2 \/ (p.2=q.2 /\ p.1<q.1))
theorem iM.get {s:SW} {L:List (Int × Nat)} (h:iM s L) (id:Int):aI L id=aI s.dues id:=yz h.perm h.inv.nodup id
theorem iM.len {s:SW} {L:List (Int × Nat)} (h:iM s L):L.length=s.dues.length:=h.perm.length_eq
theorem iM.dueE {s:SW} {L:List (Int × Nat)} (h:iM s L) {p:Int × Nat} (hp:p∈L):aQ s p.1=p.2:=h.inv.due (h.perm.mem_iff.1 hp)
theorem sim0 {t:Nat} (h:bh t):iM (Cj t) []:=⟨KJ h,List.Perm.refl _,List.Pairwise.nil⟩
theorem iM.ids {s:SW} {L M:List (Int × Nat)} (h:iM s L) (hM:M.Sublist L):(dH M).Pairwise (λx y=>Kz s x y=tQ):=by
 unfold dH
 rw [List.pairwise_map]
 refine (h.sorted.sublist hM).imp_of_mem ?_
 intro p q hp hq hpq
 rw [pD,h.dueE (hM.subset hp),h.dueE (hM.subset hq)]
 omega
theorem iM.list {s:SW} {L:List (Int × Nat)} (h:iM s L):dV s (s.dues.map (·.1))=dH L:=
 jU s ((gu s _).trans (h.perm.map (·.1)).symm) (fL s _) (h.ids (List.Sublist.refl _))
theorem iM.due {s:SW} {L:List (Int × Nat)} (h:iM s L):dV s (s.lists 168)=dH (ix s.now L):=
 jU s ((gu s _).trans (h.inv.ready.trans ((h.perm.filter (λp=>decide (p.2 <= s.now))).map (·.1)).symm)) (fL s _) (h.ids List.filter_sublist)
theorem vD:∀ (L:List (Int × Nat)) (id:Int) (due:Nat),L.Pairwise (λp q=>p.2<q.2 \/ (p.2=q.2 /\ p.1<q.1)) -> (∀ p,p∈L.take (mQ L id due) -> Lr p id due) /\ (∀ p,p∈L.drop (mQ L id due) -> ¬ Lr p id due)
 | [],id,due,_=>by simp [mQ]
 | q :: L,id,due,hs=>by
  have hs':=List.pairwise_cons.1 hs
  unfold mQ
  by_cases hq:Lr q id due
  ·rw [pG hq]
   obtain ⟨i1,i2⟩:=vD L id due hs'.2
   refine ⟨λp hp=>?_,λp hp=>i2 p (by simpa using hp)⟩
   simp only [List.take_succ_cons,List.mem_cons] at hp
   rcases hp with rfl|hp
   ·exact hq
   ·exact i1 p hp
  ·rw [nG hq]
   refine ⟨by simp,λp hp=>?_⟩
   simp only [List.drop_zero,List.mem_cons] at hp
   rcases hp with rfl|hp
   ·exact hq
   ·have:=hs'.1 p hp
    unfold Lr at *
    omega
theorem yg (L:List (Int × Nat)) (id:Int) (due:Nat):(tv L id due).Perm (L++[(id,due)]):=by
 unfold tv
 have h1:(L++[(id,due)])=(L.take (mQ L id due)++L.drop (mQ L id due))++[(id,due)]:=by rw [List.take_append_drop]
 rw [h1,List.append_assoc,List.append_assoc]
 exact List.Perm.append_left _ List.perm_append_comm
theorem BE {L:List (Int × Nat)} {id:Int} {due:Nat} (hs:L.Pairwise (λp q=>p.2<q.2 \/ (p.2=q.2 /\ p.1<q.1))) (hn:id∉L.map (·.1)):(tv L id due).Pairwise (λp q=>p.2<q.2 \/ (p.2=q.2 /\ p.1<q.1)):=by
 obtain ⟨i1,i2⟩:=vD L id due hs
 have hL:L=L.take (mQ L id due)++L.drop (mQ L id due):=(List.take_append_drop _ _).symm
 have hs2:=hs
 rw [hL] at hs2
 obtain ⟨a1,a2,a3⟩:=List.pairwise_append.1 hs2
 unfold tv
 rw [List.append_assoc]
 refine List.pairwise_append.2 ⟨a1,?_,?_⟩
 ·rw [List.singleton_append]
  refine List.pairwise_cons.2 ⟨λp hp=>?_,a2⟩
  have:=i2 p hp
  have hne:p.1≠id:=λe=>hn (List.mem_map.2 ⟨p,List.mem_of_mem_drop hp,e⟩)
  unfold Lr at this
  simp only
  omega
 ·intro p hp q hq
  rw [List.singleton_append] at hq
  rcases List.mem_cons.1 hq with rfl|hq
  ·have:=i1 p hp
   unfold Lr at this
   simp only
   omega
  ·exact a3 p hp q hq
theorem iM.addE {s:SW} {L:List (Int × Nat)} (h:iM s L) (id due:Int):s.addE id due=xq L id due:=by
 unfold SW.addE xq
 rw [h.get]
theorem iM.add {s:SW} {L:List (Int × Nat)} (h:iM s L) {id:Int} (hid:(Lit.int .i64 id).wf=tQ) (due:Int):iM (s.add id due) (radd L id due):=by
 refine ⟨h.inv.add hid due,?_,?_⟩
 ·unfold SW.add radd
  rw [<- h.addE]
  by_cases he:s.addE id due=0
  ·rw [pG he,pG he]
   have hd:aI s.dues id=none:=by
    unfold SW.addE at he
    by_cases ht:bh due
    ·rw [nG (by simpa using ht)] at he
     cases hd:aI s.dues id with
     | none=>rfl
     | some v=>rw [hd] at he;simp at he
    ·rw [pG ht] at he;cases he
   have e:((s.setDue id due.toNat).put id).dues=iy s.dues id due.toNat:=rfl
   have e2:iy s.dues id due.toNat=s.dues++[(id,due.toNat)]:=by
    unfold iy
    rw [kL hd]
   rw [e,e2]
   exact (yg L id _).trans (h.perm.append_right _)
  ·rw [nG he,nG he];exact h.perm
 ·unfold radd
  by_cases he:xq L id due=0
  ·rw [pG he]
   refine BE h.sorted ?_
   unfold xq at he
   by_cases ht:bh due
   ·rw [nG (by simpa using ht)] at he
    cases hd:aI L id with
    | none=>exact wY hd
    | some v=>rw [hd] at he;simp at he
   ·rw [pG ht] at he;cases he
  ·rw [nG he];exact h.sorted
theorem iM.nodup {s:SW} {L:List (Int × Nat)} (h:iM s L):(L.map (·.1)).Nodup:=(h.perm.map (·.1)).nodup_iff.2 h.inv.nodup
theorem iM.drop {s:SW} {L:List (Int × Nat)} (h:iM s L) (id:Int):iM (s.drop id) (jB L id):=by
 have e1:=tK id h.nodup
 have e2:=tK id h.inv.nodup
 refine ⟨h.inv.drop id,?_,?_⟩
 ·have:(s.drop id).dues=jB s.dues id:=by
   unfold SW.drop
   split
   ·rfl
   ·rename_i hs
    have hd:aI s.dues id=none:=by
     cases hd:aI s.dues id with
     | none=>rfl
     | some v=>rw [hd] at hs;simp at hs
    unfold jB
    rw [kL hd]
  rw [this,e1,e2]
  exact h.perm.filter _
 ·rw [e1];exact h.sorted.filter _
theorem iM.goE {s:SW} {L:List (Int × Nat)} (h:iM s L) (t:Int):s.goE t=CR s.now t:=by
 unfold SW.goE CR
 by_cases hc:t<s.now \/ 1152921504606846976<t
 ·rw [pG hc,pG (by unfold bh;omega)]
 ·rw [nG hc,nG (by unfold bh;omega)]
theorem iM.goNow {s:SW} {L:List (Int × Nat)} (h:iM s L) (t:Int):(s.go t).now=Nx s.now t:=by
 unfold Nx
 by_cases hc:t<s.now \/ 1152921504606846976<t
 ·rw [pG hc]
  unfold SW.go
  rw [pG (by unfold bh;omega)]
 ·rw [nG hc]
  obtain ⟨n,rfl⟩:=iN (show 0 <= t by omega)
  rw [MF oM oM]
  omega
theorem iM.go {s:SW} {L:List (Int × Nat)} (h:iM s L) (t:Int):iM (s.go t) L:=⟨h.inv.go t,by rw [LL];exact h.perm,h.sorted⟩
theorem iM.when {s:SW} {L:List (Int × Nat)} (h:iM s L) (id:Int):aQ s id=(aI L id).getD 0:=by rw [h.get];rfl
theorem vO {s:SW} (h:s.Inv) (hd:s.dues≠[]):s.lists s.firstK≠[] /\ ∀ p,p∈s.dues -> s.lists 168=[] -> s.firstK <= aU s.now p.2:=by
 have hin:∀ p,p∈s.dues -> p.1∈s.lists (aU s.now p.2):=λp hp=>(h.part _).mem_iff.2 (List.mem_map.2 ⟨p,List.mem_filter.2 ⟨hp,by simp⟩,rfl⟩)
 by_cases hr:s.lists 168=[]
 case neg=>
  have:s.firstK=168:=pG hr
  rw [this]
  exact ⟨hr,λp _ h=>absurd h hr⟩
 have hlt:∀ p,p∈s.dues -> aU s.now p.2<168:=by
  intro p hp
  have h1:=zt h.ok.now (h.ok.due p hp)
  rcases Nat.lt_or_ge (aU s.now p.2) 168 with h2|h2
  ·exact h2
  ·have:=hin p hp
   rw [show aU s.now p.2=168 by omega,hr] at this
   cases this
 unfold SW.firstK
 rw [nG (by simpa using hr)]
 cases hf:(List.range 168).find? (λk=>!(s.lists k).isEmpty) with
 | none=>
  exfalso
  obtain ⟨p,hp⟩:=List.exists_mem_of_ne_nil _ hd
  have:=List.find?_eq_none.1 hf (aU s.now p.2) (List.mem_range.2 (hlt p hp))
  have hx:=hin p hp
  simp at this
  rw [this] at hx
  cases hx
 | some k=>
  obtain ⟨h1,i,h2,h3,h4⟩:=List.find?_eq_some_iff_getElem.1 hf
  have hi:k=i:=by simpa using h3.symm
  refine ⟨by simpa using h1,λp hp _=>?_⟩
  show k <= _
  rcases Nat.lt_or_ge (aU s.now p.2) k with h5|h5
  ·have h6:=h4 (aU s.now p.2) oM
   have hx:=hin p hp
   simp at h6
   rw [h6] at hx
   cases hx
  ·exact h5
theorem iM.nextE {s:SW} {L:List (Int × Nat)} (h:iM s L):s.nextE=uu L:=by
 unfold SW.nextE uu
 by_cases hL:L=[]
 ·rw [pG hL,pG (by have:=h.len;rw [hL] at this;exact List.eq_nil_of_length_eq_zero this.symm)]
 ·rw [nG hL,nG (by intro e;have:=h.len;rw [e] at this;exact hL (List.eq_nil_of_length_eq_zero this))]
theorem iM.next {s:SW} {L:List (Int × Nat)} (h:iM s L):s.nextV=qN L:=by
 unfold SW.nextV qN
 by_cases hd:s.dues=[]
 ·rw [pG hd]
  have hL:L=[]:=by have:=h.len;rw [hd] at this;exact List.eq_nil_of_length_eq_zero this
  rw [hL];rfl
 rw [nG hd]
 obtain ⟨f1,f2⟩:=vO h.inv hd
 have hlen:0<s.firstL.length:=by unfold SW.firstL;rw [kq];exact List.length_pos_iff.2 f1
 -- the first of the first list
 have hx:ax s.firstL 0∈s.lists s.firstK:=(gu s _).mem_iff.1 (by
  have:ax s.firstL 0=s.firstL[0]:=by simp [ax,List.getD,hlen]
  rw [this];exact List.getElem_mem hlen)
 have hmin:∀ y,y∈s.lists s.firstK -> Kz s (ax s.firstL 0) y=tQ \/ ax s.firstL 0=y:=by
  intro y hy
  have hy':y∈s.firstL:=(gu s _).mem_iff.2 hy
  have hs:=fL s (s.lists s.firstK)
  have e:s.firstL=dV s (s.lists s.firstK):=rfl
  cases hl:s.firstL with
  | nil=>rw [hl] at hlen;simp at hlen
  | cons a r=>
   rw [hl] at hy'
   rw [<- e,hl] at hs
   have:ax (a :: r) 0=a:=rfl
   rw [this]
   rcases List.mem_cons.1 hy' with rfl|hy'
   ·exact .inr rfl
   ·exact .inl ((List.pairwise_cons.1 hs).1 y hy')
 obtain ⟨p,hp,hp1⟩:=List.mem_map.1 ((h.inv.part _).mem_iff.1 hx)
 obtain ⟨hp2,hp3⟩:=List.mem_filter.1 hp
 have hp3:aU s.now p.2=s.firstK:=by simpa using hp3
 have hpv:aQ s p.1=p.2:=h.inv.due hp2
 rw [<- hp1,hpv]
 -- it is due no later than any
 have hall:∀ q,q∈s.dues -> p.2 <= q.2:=by
  intro q hq
  have hqv:aQ s q.1=q.2:=h.inv.due hq
  by_cases hk:aU s.now q.2=s.firstK
  ·have hqm:q.1∈s.lists s.firstK:=(h.inv.part _).mem_iff.2 (List.mem_map.2 ⟨q,List.mem_filter.2 ⟨hq,by simpa using hk⟩,rfl⟩)
   rcases hmin q.1 hqm with hle|he
   ·rw [<- hp1,pD,hpv,hqv] at hle;omega
   ·rw [<- hp1] at he;rw [<- hpv,<- hqv,he];exact Nat.le_refl _
  ·by_cases hr:s.lists 168=[]
   ·have h1:=f2 q hq hr
    have h2:aU s.now p.2<aU s.now q.2:=by omega
    have hnr:∀ z,z∈s.dues -> s.now<z.2:=by
     intro z hz
     rcases Nat.lt_or_ge s.now z.2 with h3|h3
     ·exact h3
     ·have hz':z.1∈s.lists 168:=(h.inv.part _).mem_iff.2 (List.mem_map.2 ⟨z,List.mem_filter.2 ⟨hz,by simp [aU,h3]⟩,rfl⟩)
      rw [hr] at hz';cases hz'
    exact Nat.le_of_lt (DH h.inv.ok.now (hnr p hp2) (hnr q hq) (h.inv.ok.due p hp2) (h.inv.ok.due q hq) h2)
   ·have hf:s.firstK=168:=pG hr
    have h1:p.2 <= s.now:=by
     rcases Nat.lt_or_ge s.now p.2 with h3|h3
     ·have h1:aU s.now p.2=bf p.2 s.now * 8+gP p.2 (bf p.2 s.now):=nG oM
      have h4:=pB (h.inv.ok.due p hp2) h.inv.ok.now
      have h5:=iK p.2 (bf p.2 s.now)
      omega
     ·exact h3
    have h2:s.now<q.2:=by
     rcases Nat.lt_or_ge s.now q.2 with h3|h3
     ·exact h3
     ·exact absurd (show aU s.now q.2=s.firstK by rw [hf];exact pG h3) hk
    omega
 cases hL:L with
 | nil=>have:=h.len;rw [hL] at this;exact absurd (List.eq_nil_of_length_eq_zero this.symm) hd
 | cons a r=>
  have:fH (a :: r) 0=a:=rfl
  rw [this]
  have ha:a∈s.dues:=h.perm.mem_iff.1 (by rw [hL];exact List.mem_cons_self)
  have h1:=hall a ha
  have hpL:p∈L:=h.perm.mem_iff.2 hp2
  rw [hL] at hpL
  have hs:=h.sorted
  rw [hL] at hs
  rcases List.mem_cons.1 hpL with rfl|hpL
  ·rfl
  ·have:=(List.pairwise_cons.1 hs).1 p hpL
   omega
end Go.Proofs.YtaakgpnmfkmdoaaGreatDoor