/- Walks and plain laws of the kernel. No condition. -/
import Derived.Test.YtmiapbgkphpgoaaGreatDoorWheelM
import Derived.Test.YtmiapbgkphpgoaaGreatDoorBaseM
namespace Go.Proofs.YtmiapbgkphpgoaaGreatDoor
set_option linter.unusedVariables false
set_option linter.unusedSimpArgs false
set_option maxRecDepth 100000
set_option maxHeartbeats 20000000
open Go.RowKit
open Go.Proofs.Tryz renaming prog → tp
open List renaming setIfInBounds_toArray → sA, set_cons_zero → sB, set_cons_succ → sC
open Go renaming World → wW
open Go.Value renaming pointer → vp, bool → vb, int → vi
open Go.IntKind renaming i64 → iQ, u64 → uQ
open Option renaming none → nN, some → sS
open Bool renaming true → tQ, false → fF
open Int renaming eq_ofNat_of_zero_le → iN
def fb (L:List (Int × Nat)) (i:Nat):Int × Nat:=L.getD i (0,0)
theorem zl {L:List (Int × Nat)} {i:Nat} (h:i<L.length):fb L i∈L:=by
 have:fb L i=L[i]:=by simp [fb,List.getD,h]
 rw [this];exact List.getElem_mem h
/-- Go: the errno; the tick. -/
def Bf (now:Nat) (t:Int):Int:=if t<now \/ 1152921504606846976<t then 2 else 0
def Lm (now:Nat) (t:Int):Nat:=if t<now \/ 1152921504606846976<t then now else t.toNat
def pC (L:List (Int × Nat)):Nat:=(fb L 0).2
def sL (L:List (Int × Nat)):Int:=if L=[] then 12 else 0
def dC (L:List (Int × Nat)):List Int:=L.map (·.1)
def gS (now:Nat) (L:List (Int × Nat)):List (Int × Nat):=L.filter (λp=>decide (p.2 <= now))
theorem Hr {m:List (Int × Nat)} {i:Int} {n v:Nat} (h:cQ m i 0=sS (n,v)):n<m.length:=by
 have hx:∀ (m:List (Int × Nat)) (j:Nat),cQ m i j=sS (n,v) -> n<j+m.length:=by
  intro m
  induction m with
  | nil=>intro j h;cases h
  | cons p m ih=>
   intro j h
   unfold cQ at h
   split at h
   ·simp at h
    simp;omega
   ·have:=ih (j+1) h
    simp;omega
 have:=hx m 0 h
 omega
def Jj (p:Int × Nat) (id:Int) (due:Nat):Prop:=p.2<due \/ (p.2=due /\ p.1<id)
instance instWheelRef41 (p:Int × Nat) (id:Int) (due:Nat):Decidable (Jj p id due):=by unfold Jj;infer_instance
/-- Where a thing comes to stand. -/
def lz:List (Int × Nat) -> Int -> Nat -> Nat
 | [],_,_=>0
 | p :: L,id,due=>if Jj p id due then lz L id due+1 else 0
def rC (L:List (Int × Nat)) (id:Int) (due:Nat):List (Int × Nat):=L.take (lz L id due)++[(id,due)]++L.drop (lz L id due)
/-- Add: the errno; the list behind it. -/
def vI (L:List (Int × Nat)) (id due:Int):Int:=if ¬ aV due then 2 else if (aC L id).isSome then 6 else 0
def radd (L:List (Int × Nat)) (id due:Int):List (Int × Nat):=if vI L id due=0 then rC L id due.toNat else L
theorem wY (i:Int):∀ (m:List (Int × Nat)) (j:Nat),(m.map (·.1)).Nodup -> match cQ m i j with|some (n,_)=>j <= n /\ m.eraseIdx (n - j)=m.filter (λp=>!decide (p.1=i))|none=>m=m.filter (λp=>!decide (p.1=i))
 | [],j,_=>rfl
 | p :: m,j,hn=>by
  have hn':=List.nodup_cons.1 (show (p.1 :: m.map (·.1)).Nodup from hn)
  unfold cQ
  by_cases e:i=p.1
  ·rw [pG e]
   have hf:m.filter (λp=>!decide (p.1=i))=m:=by
    rw [List.filter_eq_self]
    intro q hq
    have:q.1≠i:=by
     rintro rfl
     exact hn'.1 (e ▸ List.mem_map.2 ⟨q,hq,rfl⟩)
    simpa using this
   simp only [Nat.sub_self,List.eraseIdx_zero,List.tail_cons]
   refine ⟨Nat.le_refl _,?_⟩
   rw [List.filter_cons_of_neg (by simp [e]),hf]
  ·rw [nG e]
   have ih:=wY i m (j+1) hn'.2
   have hp:(!decide (p.1=i))=tQ:=by
    have:¬ p.1=i:=λx=>e x.symm
    simpa using this
   cases hd:cQ m i (j+1) with
   | none=>
    rw [hd] at ih
    simp only at ih ⊢
    rw [List.filter_cons_of_pos (by simpa using hp),<- ih]
   | some q=>
    obtain ⟨n,v⟩:=q
    rw [hd] at ih
    simp only at ih ⊢
    refine ⟨by omega,?_⟩
    rw [show n - j=(n - (j+1))+1 by omega,List.eraseIdx_cons_succ,ih.2,List.filter_cons_of_pos (by simpa using hp)]
theorem rQ {m:List (Int × Nat)} (i:Int) (h:(m.map (·.1)).Nodup):iW m i=m.filter (λp=>!decide (p.1=i)):=by
 have:=wY i m 0 h
 unfold iW
 cases hd:cQ m i 0 with
 | none=>rw [hd] at this;exact this
 | some q=>
  obtain ⟨n,v⟩:=q
  rw [hd] at this
  exact this.2
theorem iP {m:List (Int × Nat)} (h:(m.map (·.1)).Nodup) (i:Int) (v:Nat):aC m i=sS v↔(i,v)∈m:=⟨oV,cI h⟩
theorem wV {m n:List (Int × Nat)} (h:m.Perm n) (hn:(n.map (·.1)).Nodup) (i:Int):aC m i=aC n i:=by
 have hm:(m.map (·.1)).Nodup:=(h.map (·.1)).nodup_iff.2 hn
 apply Option.ext
 intro v
 rw [iP hm,iP hn]
 exact h.mem_iff
theorem vr {m:List (Int × Nat)} {i:Int}:aC m i=nN -> i∉m.map (·.1):=λh=>kH (jM h)
theorem SW.Inv.has {s:SW} (h:s.Inv) {id:Int} (hs:(aC s.dues id).isSome=tQ):(id,aL s id)∈s.dues /\ id∈s.lists (aP s.now (aL s id)):=by
 cases hd:aC s.dues id with
 | none=>rw [hd] at hs;cases hs
 | some v=>
  have hm:=oV hd
  have hv:aL s id=v:=h.due hm
  rw [hv]
  refine ⟨hm,(h.part _).mem_iff.2 (List.mem_map.2 ⟨(id,v),List.mem_filter.2 ⟨hm,by simp⟩,rfl⟩)⟩
theorem SW.Inv.drop {s:SW} (h:s.Inv) (id:Int):(s.drop id).Inv:=by
 unfold SW.drop
 by_cases hs:(aC s.dues id).isSome=tQ
 case neg=>rw [nG hs];exact h
 rw [pG hs]
 obtain ⟨hm,_⟩:=h.has hs
 have hE:=rQ id h.nodup
 refine ⟨⟨h.ok.now,λp hp=>h.ok.due p ?_⟩,?_,λp hp=>h.wf p ?_,λk=>?_⟩
 ·simp only at hp;rw [hE] at hp;exact (List.mem_filter.1 hp).1
 ·simp only;rw [hE];exact (List.filter_sublist.map _).nodup h.nodup
 ·simp only at hp;rw [hE] at hp;exact (List.mem_filter.1 hp).1
 ·simp only
  rw [hE,List.filter_filter]
  by_cases hk:k=aP s.now (aL s id)
  ·subst hk
   rw [aJ]
   have h1:=(h.part (aP s.now (aL s id))).filter (λx=>!decide (x=id))
   unfold nC
   refine h1.trans ?_
   rw [List.filter_map,List.filter_filter]
   refine List.Perm.of_eq ?_
   congr 1
   apply List.filter_congr
   intro p _
   simp [Function.comp_def,Bool.and_comm]
  ·rw [bc _ _ hk]
   refine (h.part k).trans (List.Perm.of_eq ?_)
   congr 1
   apply List.filter_congr
   intro p hp
   by_cases e:p.1=id
   ·have hv:p.2=aL s id:=by rw [<- e];exact (h.due hp).symm
    have:¬ aP s.now p.2=k:=λx=>hk (by rw [<- x,hv])
    simp [this]
   ·simp [e]
/-- The two wheels hold the same. -/
structure iA (s:SW) (L:List (Int × Nat)):Prop where
 inv:s.Inv
 perm:L.Perm s.dues
 sorted:L.Pairwise (λp q=>p.2<q.2 \/ (p.2=q.2 /\ p.1<q.1))
theorem iA.get {s:SW} {L:List (Int × Nat)} (h:iA s L) (id:Int):aC L id=aC s.dues id:=wV h.perm h.inv.nodup id
theorem iA.len {s:SW} {L:List (Int × Nat)} (h:iA s L):L.length=s.dues.length:=h.perm.length_eq
theorem iA.dueE {s:SW} {L:List (Int × Nat)} (h:iA s L) {p:Int × Nat} (hp:p∈L):aL s p.1=p.2:=h.inv.due (h.perm.mem_iff.1 hp)
theorem sim0 {t:Nat} (h:aV t):iA (Av t) []:=⟨IB h,List.Perm.refl _,List.Pairwise.nil⟩
theorem iA.ids {s:SW} {L M:List (Int × Nat)} (h:iA s L) (hM:M.Sublist L):(dC M).Pairwise (λx y=>Io s x y=tQ):=by
 unfold dC
 rw [List.pairwise_map]
 refine (h.sorted.sublist hM).imp_of_mem ?_
 intro p q hp hq hpq
 rw [ot,h.dueE (hM.subset hp),h.dueE (hM.subset hq)]
 omega
theorem iA.list {s:SW} {L:List (Int × Nat)} (h:iA s L):dI s (s.dues.map (·.1))=dC L:=
 jo s ((fT s _).trans (h.perm.map (·.1)).symm) (fl s _) (h.ids (List.Sublist.refl _))
theorem iA.due {s:SW} {L:List (Int × Nat)} (h:iA s L):dI s (s.lists 168)=dC (gS s.now L):=
 jo s ((fT s _).trans (h.inv.ready.trans ((h.perm.filter (λp=>decide (p.2 <= s.now))).map (·.1)).symm)) (fl s _) (h.ids List.filter_sublist)
theorem ue:∀ (L:List (Int × Nat)) (id:Int) (due:Nat),L.Pairwise (λp q=>p.2<q.2 \/ (p.2=q.2 /\ p.1<q.1)) -> (∀ p,p∈L.take (lz L id due) -> Jj p id due) /\ (∀ p,p∈L.drop (lz L id due) -> ¬ Jj p id due)
 | [],id,due,_=>by simp [lz]
 | q :: L,id,due,hs=>by
  have hs':=List.pairwise_cons.1 hs
  unfold lz
  by_cases hq:Jj q id due
  ·rw [pG hq]
   obtain ⟨i1,i2⟩:=ue L id due hs'.2
   refine ⟨λp hp=>?_,λp hp=>i2 p (by simpa using hp)⟩
   simp only [List.take_succ_cons,List.mem_cons] at hp
   rcases hp with rfl|hp
   ·exact hq
   ·exact i1 p hp
  ·rw [nG hq]
   refine ⟨by simp,λp hp=>?_⟩
   simp only [List.drop_zero,List.mem_cons] at hp
   rcases hp with rfl|hp
   ·exact hq
   ·have:=hs'.1 p hp
    unfold Jj at *
    omega
theorem wI (L:List (Int × Nat)) (id:Int) (due:Nat):(rC L id due).Perm (L++[(id,due)]):=by
 unfold rC
 have h1:(L++[(id,due)])=(L.take (lz L id due)++L.drop (lz L id due))++[(id,due)]:=by rw [List.take_append_drop]
 rw [h1,List.append_assoc,List.append_assoc]
 exact List.Perm.append_left _ List.perm_append_comm
theorem zV {L:List (Int × Nat)} {id:Int} {due:Nat} (hs:L.Pairwise (λp q=>p.2<q.2 \/ (p.2=q.2 /\ p.1<q.1))) (hn:id∉L.map (·.1)):(rC L id due).Pairwise (λp q=>p.2<q.2 \/ (p.2=q.2 /\ p.1<q.1)):=by
 obtain ⟨i1,i2⟩:=ue L id due hs
 have hL:L=L.take (lz L id due)++L.drop (lz L id due):=(List.take_append_drop _ _).symm
 have hs2:=hs
 rw [hL] at hs2
 obtain ⟨a1,a2,a3⟩:=List.pairwise_append.1 hs2
 unfold rC
 rw [List.append_assoc]
 refine List.pairwise_append.2 ⟨a1,?_,?_⟩
 ·rw [List.singleton_append]
  refine List.pairwise_cons.2 ⟨λp hp=>?_,a2⟩
  have:=i2 p hp
  have hne:p.1≠id:=λe=>hn (List.mem_map.2 ⟨p,List.mem_of_mem_drop hp,e⟩)
  unfold Jj at this
  simp only
  omega
 ·intro p hp q hq
  rw [List.singleton_append] at hq
  rcases List.mem_cons.1 hq with rfl|hq
  ·have:=i1 p hp
   unfold Jj at this
   simp only
   omega
  ·exact a3 p hp q hq
theorem iA.addE {s:SW} {L:List (Int × Nat)} (h:iA s L) (id due:Int):s.addE id due=vI L id due:=by
 unfold SW.addE vI
 rw [h.get]
theorem iA.add {s:SW} {L:List (Int × Nat)} (h:iA s L) {id:Int} (hid:(Lit.int .i64 id).wf=tQ) (due:Int):iA (s.add id due) (radd L id due):=by
 refine ⟨h.inv.add hid due,?_,?_⟩
 ·unfold SW.add radd
  rw [<- h.addE]
  by_cases he:s.addE id due=0
  ·rw [pG he,pG he]
   have hd:aC s.dues id=none:=by
    unfold SW.addE at he
    by_cases ht:aV due
    ·rw [nG (by simpa using ht)] at he
     cases hd:aC s.dues id with
     | none=>rfl
     | some v=>rw [hd] at he;simp at he
    ·rw [pG ht] at he;cases he
   have e:((s.setDue id due.toNat).put id).dues=gT s.dues id due.toNat:=rfl
   have e2:gT s.dues id due.toNat=s.dues++[(id,due.toNat)]:=by
    unfold gT
    rw [jM hd]
   rw [e,e2]
   exact (wI L id _).trans (h.perm.append_right _)
  ·rw [nG he,nG he];exact h.perm
 ·unfold radd
  by_cases he:vI L id due=0
  ·rw [pG he]
   refine zV h.sorted ?_
   unfold vI at he
   by_cases ht:aV due
   ·rw [nG (by simpa using ht)] at he
    cases hd:aC L id with
    | none=>exact vr hd
    | some v=>rw [hd] at he;simp at he
   ·rw [pG ht] at he;cases he
  ·rw [nG he];exact h.sorted
theorem iA.nodup {s:SW} {L:List (Int × Nat)} (h:iA s L):(L.map (·.1)).Nodup:=(h.perm.map (·.1)).nodup_iff.2 h.inv.nodup
theorem iA.drop {s:SW} {L:List (Int × Nat)} (h:iA s L) (id:Int):iA (s.drop id) (iW L id):=by
 have e1:=rQ id h.nodup
 have e2:=rQ id h.inv.nodup
 refine ⟨h.inv.drop id,?_,?_⟩
 ·have:(s.drop id).dues=iW s.dues id:=by
   unfold SW.drop
   split
   ·rfl
   ·rename_i hs
    have hd:aC s.dues id=none:=by
     cases hd:aC s.dues id with
     | none=>rfl
     | some v=>rw [hd] at hs;simp at hs
    unfold iW
    rw [jM hd]
  rw [this,e1,e2]
  exact h.perm.filter _
 ·rw [e1];exact h.sorted.filter _
theorem iA.goE {s:SW} {L:List (Int × Nat)} (h:iA s L) (t:Int):s.goE t=Bf s.now t:=by
 unfold SW.goE Bf
 by_cases hc:t<s.now \/ 1152921504606846976<t
 ·rw [pG hc,pG (by unfold aV;omega)]
 ·rw [nG hc,nG (by unfold aV;omega)]
theorem iA.goNow {s:SW} {L:List (Int × Nat)} (h:iA s L) (t:Int):(s.go t).now=Lm s.now t:=by
 unfold Lm
 by_cases hc:t<s.now \/ 1152921504606846976<t
 ·rw [pG hc]
  unfold SW.go
  rw [pG (by unfold aV;omega)]
 ·rw [nG hc]
  obtain ⟨n,rfl⟩:=iN (show 0 <= t by omega)
  rw [Kw oM oM]
  omega
theorem iA.go {s:SW} {L:List (Int × Nat)} (h:iA s L) (t:Int):iA (s.go t) L:=⟨h.inv.go t,by rw [Jy];exact h.perm,h.sorted⟩
theorem iA.when {s:SW} {L:List (Int × Nat)} (h:iA s L) (id:Int):aL s id=(aC L id).getD 0:=by rw [h.get];rfl
theorem uq {s:SW} (h:s.Inv) (hd:s.dues≠[]):s.lists s.firstK≠[] /\ ∀ p,p∈s.dues -> s.lists 168=[] -> s.firstK <= aP s.now p.2:=by
 have hin:∀ p,p∈s.dues -> p.1∈s.lists (aP s.now p.2):=λp hp=>(h.part _).mem_iff.2 (List.mem_map.2 ⟨p,List.mem_filter.2 ⟨hp,by simp⟩,rfl⟩)
 by_cases hr:s.lists 168=[]
 case neg=>
  have:s.firstK=168:=pG hr
  rw [this]
  exact ⟨hr,λp _ h=>absurd h hr⟩
 have hlt:∀ p,p∈s.dues -> aP s.now p.2<168:=by
  intro p hp
  have h1:=xN h.ok.now (h.ok.due p hp)
  rcases Nat.lt_or_ge (aP s.now p.2) 168 with h2|h2
  ·exact h2
  ·have:=hin p hp
   rw [show aP s.now p.2=168 by omega,hr] at this
   cases this
 unfold SW.firstK
 rw [nG (by simpa using hr)]
 cases hf:(List.range 168).find? (λk=>!(s.lists k).isEmpty) with
 | none=>
  exfalso
  obtain ⟨p,hp⟩:=List.exists_mem_of_ne_nil _ hd
  have:=List.find?_eq_none.1 hf (aP s.now p.2) (List.mem_range.2 (hlt p hp))
  have hx:=hin p hp
  simp at this
  rw [this] at hx
  cases hx
 | some k=>
  obtain ⟨h1,i,h2,h3,h4⟩:=List.find?_eq_some_iff_getElem.1 hf
  have hi:k=i:=by simpa using h3.symm
  refine ⟨by simpa using h1,λp hp _=>?_⟩
  show k <= _
  rcases Nat.lt_or_ge (aP s.now p.2) k with h5|h5
  ·have h6:=h4 (aP s.now p.2) oM
   have hx:=hin p hp
   simp at h6
   rw [h6] at hx
   cases hx
  ·exact h5
theorem iA.nextE {s:SW} {L:List (Int × Nat)} (h:iA s L):s.nextE=sL L:=by
 unfold SW.nextE sL
 by_cases hL:L=[]
 ·rw [pG hL,pG (by have:=h.len;rw [hL] at this;exact List.eq_nil_of_length_eq_zero this.symm)]
 ·rw [nG hL,nG (by intro e;have:=h.len;rw [e] at this;exact hL (List.eq_nil_of_length_eq_zero this))]
theorem iA.next {s:SW} {L:List (Int × Nat)} (h:iA s L):s.nextV=pC L:=by
 unfold SW.nextV pC
 by_cases hd:s.dues=[]
 ·rw [pG hd]
  have hL:L=[]:=by have:=h.len;rw [hd] at this;exact List.eq_nil_of_length_eq_zero this
  rw [hL];rfl
 rw [nG hd]
 obtain ⟨f1,f2⟩:=uq h.inv hd
 have hlen:0<s.firstL.length:=by unfold SW.firstL;rw [jy];exact List.length_pos_iff.2 f1
 -- the first of the first list
 have hx:ar s.firstL 0∈s.lists s.firstK:=(fT s _).mem_iff.1 (by
  have:ar s.firstL 0=s.firstL[0]:=by simp [ar,List.getD,hlen]
  rw [this];exact List.getElem_mem hlen)
 have hmin:∀ y,y∈s.lists s.firstK -> Io s (ar s.firstL 0) y=tQ \/ ar s.firstL 0=y:=by
  intro y hy
  have hy':y∈s.firstL:=(fT s _).mem_iff.2 hy
  have hs:=fl s (s.lists s.firstK)
  have e:s.firstL=dI s (s.lists s.firstK):=rfl
  cases hl:s.firstL with
  | nil=>rw [hl] at hlen;simp at hlen
  | cons a r=>
   rw [hl] at hy'
   rw [<- e,hl] at hs
   have:ar (a :: r) 0=a:=rfl
   rw [this]
   rcases List.mem_cons.1 hy' with rfl|hy'
   ·exact .inr rfl
   ·exact .inl ((List.pairwise_cons.1 hs).1 y hy')
 obtain ⟨p,hp,hp1⟩:=List.mem_map.1 ((h.inv.part _).mem_iff.1 hx)
 obtain ⟨hp2,hp3⟩:=List.mem_filter.1 hp
 have hp3:aP s.now p.2=s.firstK:=by simpa using hp3
 have hpv:aL s p.1=p.2:=h.inv.due hp2
 rw [<- hp1,hpv]
 -- it is due no later than any
 have hall:∀ q,q∈s.dues -> p.2 <= q.2:=by
  intro q hq
  have hqv:aL s q.1=q.2:=h.inv.due hq
  by_cases hk:aP s.now q.2=s.firstK
  ·have hqm:q.1∈s.lists s.firstK:=(h.inv.part _).mem_iff.2 (List.mem_map.2 ⟨q,List.mem_filter.2 ⟨hq,by simpa using hk⟩,rfl⟩)
   rcases hmin q.1 hqm with hle|he
   ·rw [<- hp1,ot,hpv,hqv] at hle;omega
   ·rw [<- hp1] at he;rw [<- hpv,<- hqv,he];exact Nat.le_refl _
  ·by_cases hr:s.lists 168=[]
   ·have h1:=f2 q hq hr
    have h2:aP s.now p.2<aP s.now q.2:=by omega
    have hnr:∀ z,z∈s.dues -> s.now<z.2:=by
     intro z hz
     rcases Nat.lt_or_ge s.now z.2 with h3|h3
     ·exact h3
     ·have hz':z.1∈s.lists 168:=(h.inv.part _).mem_iff.2 (List.mem_map.2 ⟨z,List.mem_filter.2 ⟨hz,by simp [aP,h3]⟩,rfl⟩)
      rw [hr] at hz';cases hz'
    exact Nat.le_of_lt (BS h.inv.ok.now (hnr p hp2) (hnr q hq) (h.inv.ok.due p hp2) (h.inv.ok.due q hq) h2)
   ·have hf:s.firstK=168:=pG hr
    have h1:p.2 <= s.now:=by
     rcases Nat.lt_or_ge s.now p.2 with h3|h3
     ·have h1:aP s.now p.2=aU p.2 s.now * 8+gm p.2 (aU p.2 s.now):=nG oM
      have h4:=oo (h.inv.ok.due p hp2) h.inv.ok.now
      have h5:=ig p.2 (aU p.2 s.now)
      omega
     ·exact h3
    have h2:s.now<q.2:=by
     rcases Nat.lt_or_ge s.now q.2 with h3|h3
     ·exact h3
     ·exact absurd (show aP s.now q.2=s.firstK by rw [hf];exact pG h3) hk
    omega
 cases hL:L with
 | nil=>have:=h.len;rw [hL] at this;exact absurd (List.eq_nil_of_length_eq_zero this.symm) hd
 | cons a r=>
  have:fb (a :: r) 0=a:=rfl
  rw [this]
  have ha:a∈s.dues:=h.perm.mem_iff.1 (by rw [hL];exact List.mem_cons_self)
  have h1:=hall a ha
  have hpL:p∈L:=h.perm.mem_iff.2 hp2
  rw [hL] at hpL
  have hs:=h.sorted
  rw [hL] at hs
  rcases List.mem_cons.1 hpL with rfl|hpL
  ·rfl
  ·have:=(List.pairwise_cons.1 hs).1 p hpL
   omega
end Go.Proofs.YtmiapbgkphpgoaaGreatDoor