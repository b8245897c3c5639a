/- Walks and plain laws of the kernel. No condition. -/
import Derived.Test.YtaakgpnmfkmdoaaGreatDoorKEM
import Derived.Test.YtaakgpnmfkmdoaaGreatDoorKDM
import Derived.Test.YtaakgpnmfkmdoaaGreatDoorTimerM
import Derived.Test.YtaakgpnmfkmdoaaGreatDoorKBM
import Derived.Test.YtaakgpnmfkmdoaaGreatDoorKCM
namespace Go.Proofs.YtaakgpnmfkmdoaaGreatDoor
set_option linter.unusedVariables false
set_option linter.unusedSimpArgs false
set_option maxRecDepth 100000
set_option maxHeartbeats 20000000
open Go.RowKit
open Go.Proofs.Tryz renaming prog → tp
open List renaming setIfInBounds_toArray → sA, set_cons_zero → sB, set_cons_succ → sC
open Go renaming World → wW
open Go.Value renaming pointer → vp, bool → vb, int → vi
open Go.IntKind renaming i64 → iQ, u64 → uQ
open Option renaming none → nN, some → sS
open Bool renaming true → tQ, false → fF
open Int renaming eq_ofNat_of_zero_le → iN
section
variable {F:List Nat} {w u:wW} {b tb mb cnt:Nat} {ids:List Nat} {D:Nat -> Nat} {n:Nat} {T:Int -> Option jS} {t:bT}
theorem yO (h:(bU b t).holds F w) (id tm:Int):Calls tp 205 #[vp (sS ⟨b,0,nN⟩),vi iQ id,vi iQ tm] w (aq (bU b (t.sleep id tm)) F (vi iQ (t.sleepE id)) w):=by
 obtain ⟨hok,tb,mb,cnt,ids,D,hI,hA⟩:=dF h
 have hF:=fq hA id
 have e0:t.getE id=if (t.t id).isSome then 0 else 4:=rfl
 cases hx:t.t id with
 | none=>
  rw [hx] at e0
  have e4:t.getE id≠0:=by rw [e0];decide
  have e0':t.getE id=4:=e0
  rw [gZ hx,e0'] at hF
  have H:=zh (λk=>(hA.keep (u':=w.drewN k) (mR.drewN k)).threadOk hok rfl rfl hI)
  have eE:t.sleepE id=4:=pG e4
  rw [show t.sleep id tm=t from nG (by rw [eE];decide),eE]
  clear hA h e0 e4 e0' eE hx hok
  go_in
  go_wp2_with (go_at_call 200;refine hF.r λk=>?_)
  go_ret
  exact ⟨rfl,H.out _⟩
 | some x=>
  rw [hx] at e0
  obtain ⟨h1,h2⟩:=hok.bd id x hx
  obtain ⟨k,rfl⟩:∃ k:Nat,id=(k:Int)+1:=⟨(id - 1).toNat,by omega⟩
  have hk:k<32:=by omega
  have ek:((k:Int)+1 - 1).toNat=k:=by omega
  have e0':t.getE ((k:Int)+1)=0:=e0
  have eg:t.get ((k:Int)+1)=x:=by unfold bT.get;rw [hx];rfl
  rw [gY hx,e0',ek] at hF
  have c4:=hA.thCell hk hx 4
  simp only [mj,List.getElem?_cons_zero,List.getElem?_cons_succ] at c4
  by_cases hi:x.sleeps=tQ
  ·have eE:t.sleepE ((k:Int)+1)=6:=by unfold bT.sleepE;rw [nG (by rw [e0'];decide),eg,pG hi]
   rw [show t.sleep ((k:Int)+1) tm=t from nG (by rw [eE];decide),eE]
   have H:=zh (λk=>(hA.keep (u':=w.drewN k) (mR.drewN k)).threadOk hok rfl rfl hI)
   rw [hi] at c4
   clear hA h e0 e0' eE hx hok hi eg
   generalize (k:Int)+1=id at *
   go_in
   go_wp2_with (go_at_call 200;refine hF.r λk=>?_)
   go_ret
   exact ⟨rfl,H.out _⟩
  ·have hi2:x.sleeps=fF:=by simpa using hi
   have eE:t.sleepE ((k:Int)+1)=0:=by unfold bT.sleepE;rw [nG (by rw [e0'];decide),eg,nG hi]
   rw [show t.sleep ((k:Int)+1) tm=t.put ((k:Int)+1) { x with sleeps:=true,timer:=tm } by unfold bT.sleep;rw [pG eE,eg],eE]
   have hok2:=hok.put (x:={ x with sleeps:=true,timer:=tm }) hx (show x.mask<2 ^ 64 from hok.msk _ _ hx) rfl
   have hI2:=qd (x:={ x with sleeps:=true,timer:=tm }) hI hx
   have H:=zh (λk0=>((hA.keep (u':=w.drewN k0) (mR.drewN k0)).thSet hk hx 4 (vb tQ) { x with sleeps:=true } rfl).thSet hk (x:={ x with sleeps:=true }) (by unfold cN;rw [pG rfl]) 5 (vi iQ tm) { x with sleeps:=true,timer:=tm } rfl)
   have c5:=hA.thCell hk hx 5
   have f4:=hA.thFree hk hx 4
   have f5:=hA.thFree hk hx 5
   simp only [mj,List.getElem?_cons_zero,List.getElem?_cons_succ] at c5
   rw [hi2] at c4
   have ho:cN (cN t.t ((k:Int)+1) { x with sleeps:=true }) ((k:Int)+1) { x with sleeps:=true,timer:=tm }=(t.put ((k:Int)+1) { x with sleeps:=true,timer:=tm }).t:=by
    funext j;unfold bT.put cN;simp only [];split<;>rfl
   have HO:=zh ho
   clear hA h e0 e0' eE eg ho
   generalize D k=d at *
   have HI:=zh (And.intro hok2 hI2)
   clear hok2 hI2 hx hi hi2
   go_in
   go_wp2_with (go_at_call 200;refine hF.r λk=>?_)
   go_ret
   have hE:=H.out k
   rw [HO.out] at hE
   exact ⟨rfl,hE.threadOk HI.out.1 rfl rfl HI.out.2⟩
theorem Aj (h:(bU b t).holds F w) (id:Int):Calls tp 209 #[vp (sS ⟨b,0,nN⟩),vi iQ id] w (aq (bU b (t.wake id)) F (.tuple #[vi iQ (t.wakeV id),vi iQ (t.wakeE id)]) w):=by
 obtain ⟨hok,tb,mb,cnt,ids,D,hI,hA⟩:=dF h
 have hF:=fq hA id
 have e0:t.getE id=if (t.t id).isSome then 0 else 4:=rfl
 cases hx:t.t id with
 | none=>
  rw [hx] at e0
  have e4:t.getE id≠0:=by rw [e0];decide
  have e0':t.getE id=4:=e0
  rw [gZ hx,e0'] at hF
  have H:=zh (λk=>(hA.keep (u':=w.drewN k) (mR.drewN k)).threadOk hok rfl rfl hI)
  have eE:t.wakeE id=4:=pG e4
  rw [show t.wake id=t from nG (by rw [eE];decide),show t.wakeV id=0 from nG (by rw [eE];decide),eE]
  clear hA h e0 e4 e0' eE hx hok
  go_in
  go_wp2_with (go_at_call 200;refine hF.r λk=>?_)
  go_ret2
  exact ⟨rfl,H.out _⟩
 | some x=>
  rw [hx] at e0
  obtain ⟨h1,h2⟩:=hok.bd id x hx
  obtain ⟨k,rfl⟩:∃ k:Nat,id=(k:Int)+1:=⟨(id - 1).toNat,by omega⟩
  have hk:k<32:=by omega
  have ek:((k:Int)+1 - 1).toNat=k:=by omega
  have e0':t.getE ((k:Int)+1)=0:=e0
  have eg:t.get ((k:Int)+1)=x:=by unfold bT.get;rw [hx];rfl
  rw [gY hx,e0',ek] at hF
  have c4:=hA.thCell hk hx 4
  simp only [mj,List.getElem?_cons_zero,List.getElem?_cons_succ] at c4
  by_cases hi:x.sleeps=tQ
  ·have eE:t.wakeE ((k:Int)+1)=0:=by unfold bT.wakeE;rw [nG (by rw [e0'];decide),eg,pG hi]
   rw [show t.wake ((k:Int)+1)=t.put ((k:Int)+1) { x with sleeps:=false,timer:=0 } by unfold bT.wake;rw [pG eE,eg],show t.wakeV ((k:Int)+1)=x.timer by unfold bT.wakeV;rw [pG eE,eg],eE]
   have hok2:=hok.put (x:={ x with sleeps:=false,timer:=0 }) hx (show x.mask<2 ^ 64 from hok.msk _ _ hx) rfl
   have hI2:=qd (x:={ x with sleeps:=false,timer:=0 }) hI hx
   have H:=zh (λk0=>((hA.keep (u':=w.drewN k0) (mR.drewN k0)).thSet hk hx 4 (vb fF) { x with sleeps:=false } rfl).thSet hk (x:={ x with sleeps:=false }) (by unfold cN;rw [pG rfl]) 5 (vi iQ 0) { x with sleeps:=false,timer:=0 } rfl)
   have c5:=hA.thCell hk hx 5
   have f4:=hA.thFree hk hx 4
   have f5:=hA.thFree hk hx 5
   simp only [mj,List.getElem?_cons_zero,List.getElem?_cons_succ] at c5
   rw [hi] at c4
   have ho:cN (cN t.t ((k:Int)+1) { x with sleeps:=false }) ((k:Int)+1) { x with sleeps:=false,timer:=0 }=(t.put ((k:Int)+1) { x with sleeps:=false,timer:=0 }).t:=by
    funext j;unfold bT.put cN;simp only [];split<;>rfl
   have HO:=zh ho
   clear hA h e0 e0' eE eg ho
   generalize D k=d at *
   have HI:=zh (And.intro hok2 hI2)
   clear hok2 hI2 hx hi
   go_in
   go_wp2_with (go_at_call 200;refine hF.r λk=>?_)
   go_ret2
   have hE:=H.out k
   rw [HO.out] at hE
   exact ⟨rfl,hE.threadOk HI.out.1 rfl rfl HI.out.2⟩
  ·have hi2:x.sleeps=fF:=by simpa using hi
   have eE:t.wakeE ((k:Int)+1)=6:=by unfold bT.wakeE;rw [nG (by rw [e0'];decide),eg,nG hi]
   rw [show t.wake ((k:Int)+1)=t from nG (by rw [eE];decide),show t.wakeV ((k:Int)+1)=0 from nG (by rw [eE];decide),eE]
   have H:=zh (λk=>(hA.keep (u':=w.drewN k) (mR.drewN k)).threadOk hok rfl rfl hI)
   rw [hi2] at c4
   clear hA h e0 e0' eE hx hok hi hi2 eg
   generalize (k:Int)+1=id at *
   go_in
   go_wp2_with (go_at_call 200;refine hF.r λk=>?_)
   go_ret2
   exact ⟨rfl,H.out _⟩
theorem uf (h:(bU b t).holds F w) (id:Int) (m:Nat) (hm:m<2 ^ 64):Calls tp 112 #[vp (sS ⟨b,0,nN⟩),vi iQ id,vi uQ (m:Nat)] w (aq (bU b (t.aim id m)) F (vi iQ (t.aimE id m)) w):=by
 obtain ⟨hok,tb,mb,cnt,ids,D,hI,hA⟩:=dF h
 have hF:=fq hA id
 have e0:t.getE id=if (t.t id).isSome then 0 else 4:=rfl
 cases hx:t.t id with
 | none=>
  rw [hx] at e0
  have e4:t.getE id≠0:=by rw [e0];decide
  have e0':t.getE id=4:=e0
  rw [gZ hx,e0'] at hF
  have H:=zh (λk=>(hA.keep (u':=w.drewN k) (mR.drewN k)).threadOk hok rfl rfl hI)
  have eE:t.aimE id m=4:=pG e4
  rw [show t.aim id m=t from nG (by rw [eE];decide),eE]
  clear hA h e0 e4 e0' eE hx hok
  go_in
  go_wp2_with (go_at_call 200;refine hF.r λk=>?_)
  go_ret
  exact ⟨rfl,H.out _⟩
 | some x=>
  rw [hx] at e0
  obtain ⟨h1,h2⟩:=hok.bd id x hx
  obtain ⟨k,rfl⟩:∃ k:Nat,id=(k:Int)+1:=⟨(id - 1).toNat,by omega⟩
  have hk:k<32:=by omega
  have ek:((k:Int)+1 - 1).toNat=k:=by omega
  have e0':t.getE ((k:Int)+1)=0:=e0
  have eg:t.get ((k:Int)+1)=x:=by unfold bT.get;rw [hx];rfl
  rw [gY hx,e0',ek] at hF
  have hR:=λk=>kW (w:=w.drewN k) (by simpa using hA.thC.2.1) hok.n2 m hm
  by_cases hi:t.right m=tQ
  ·have eE:t.aimE ((k:Int)+1) m=0:=by unfold bT.aimE;rw [nG (by rw [e0'];decide),pG hi]
   rw [show t.aim ((k:Int)+1) m=t.put ((k:Int)+1) { x with mask:=m } by unfold bT.aim;rw [pG eE,eg],eE]
   have hok2:=hok.put (x:={ x with mask:=m }) hx hm rfl
   have hI2:=qd (x:={ x with mask:=m }) hI hx
   have H:=zh (λk0=>((hA.keep (u':=w.drewN k0) (mR.drewN k0)).thSet hk hx 1 (vi uQ (m:Nat)) { x with mask:=m } rfl))
   have c1:=hA.thCell hk hx 1
   have f1:=hA.thFree hk hx 1
   simp only [mj,List.getElem?_cons_zero,List.getElem?_cons_succ] at c1
   rw [hi] at hR
   clear hA h e0 e0' eE eg
   generalize D k=d at *
   have HI:=zh (And.intro hok2 hI2)
   clear hok2 hI2 hx hi
   go_in
   go_wp2_with (first
    | (go_at_call 200;refine hF.r λk=>?_)
    | (go_at_call 196;refine (hR _).r λk2=>?_))
   go_ret
   exact ⟨rfl,(H.out _).threadOk HI.out.1 rfl rfl HI.out.2⟩
  ·have hi2:t.right m=fF:=by simpa using hi
   have eE:t.aimE ((k:Int)+1) m=2:=by unfold bT.aimE;rw [nG (by rw [e0'];decide),nG hi]
   rw [show t.aim ((k:Int)+1) m=t from nG (by rw [eE];decide),eE]
   have H:=zh (λk=>(hA.keep (u':=w.drewN k) (mR.drewN k)).threadOk hok rfl rfl hI)
   rw [hi2] at hR
   clear hA h e0 e0' eE hx hok hi hi2 eg
   generalize (k:Int)+1=id at *
   go_in
   go_wp2_with (first
    | (go_at_call 200;refine hF.r λk=>?_)
    | (go_at_call 196;refine (hR _).r λk2=>?_))
   go_ret
   exact ⟨rfl,H.out _⟩
end
section
variable {F:List Nat} {w u:wW} {b tb mb cnt:Nat} {ids:List Nat} {D:Nat -> Nat} {n:Nat} {T:Int -> Option jS} {t:bT}
theorem On.thDel (h:On F w (bH b tb mb cnt ids D n T) u) {k:Nat} (hk:k<32):∃ w1 cnt',(∀ ty,(Builtin.delete_ #[161,3] ty #[.map (sS mb),vi iQ ((k:Int)+1)]).run tp u=.ok (.tuple #[]) w1) /\ On F w (bH b tb mb cnt' ids D n (eu T ((k:Int)+1))) w1:=by
 have h1:=h.lose (3+k) (by rw [Eg];omega)
 rw [yP] at h1
 have e:ar (λk=>Ie (D k) (T ((k:Int)+1))) k AT=λi=>Ie (D i) (eu T ((k:Int)+1) ((i:Int)+1)):=by
  funext i
  by_cases e:i=k
  ·subst e;rw [ah];unfold eu;rw [pG rfl];rfl
  ·rw [al _ _ e];unfold eu;rw [nG oM]
 rw [e] at h1
 obtain ⟨w1,h2,h3⟩:=h1.fmDel (P:=tp) 2 rfl Tryz.underlying161 Tryz.underlying3 ((k:Int)+1)
 rw [IP,KI] at h3
 exact ⟨w1,_,h2,h3⟩
theorem On.thNew {d:Nat} {x:jS} (h:On F w (bH b tb mb cnt ids D n T++[ao.blk d (.cells (mj x).toArray 226 (0,0))]) u) {k:Nat} (hk:k<32) (hb:∀ id x,T id=sS x -> 1 <= id /\ id <= 32):
  ∃ w1 cnt',(Instr.mapUpdate 161 (.map (sS mb)) (vi iQ ((k:Int)+1)) (vp (sS ⟨d,0,nN⟩))).run tp u=.ok () w1 /\ On F w (bH b tb mb cnt' ids (ar D k d) n (cN T ((k:Int)+1) x)) w1:=by
 have h1:=h.move (3+k) (by rw [Eg];omega)
 rw [yP,show ao.blk d (.cells (mj x).toArray 226 (0,0))=Ie d (sS x) from rfl,Ef] at h1
 obtain ⟨w1,h2,h3⟩:=h1.fmPut (P:=tp) 2 rfl Tryz.underlying161 Tryz.underlying3 ((k:Int)+1) (vp (sS ⟨d,0,nN⟩))
 rw [IN,KH hb] at h3
 exact ⟨w1,_,h2,h3⟩
theorem JJ {ids:List Nat} (hn:ids.Nodup) (hi:wh ids T) (m:Nat):wh (ids.erase m) (eu T (m:Int)):=by
 intro j
 rw [hn.mem_erase_iff,hi j]
 unfold eu
 by_cases e:j=m
 ·subst e;simp
 ·rw [nG oM];simp [e]
theorem JI {ids:List Nat} (hi:wh ids T) (m:Nat) (x:jS):wh (m :: ids) (cN T (m:Int) x):=by
 intro j
 rw [List.mem_cons,hi j]
 unfold cN
 by_cases e:j=m
 ·subst e;simp
 ·rw [nG oM];simp [e]
theorem bT.ok.del {t:bT} (h:t.ok) (id:Int):(t.exit id).ok:=by
 refine ⟨h.n1,h.n2,?_,?_,?_⟩
 all_goals
  intro j z hz
  have hz:(if j=id then nN else t.t j)=sS z:=hz
  split at hz
  ·cases hz
 ·exact h.bd _ _ hz
 ·exact h.msk _ _ hz
 ·exact h.pr _ _ hz
theorem sh (h:(bU b t).holds F w) (id:Int):Calls tp 202 #[vp (sS ⟨b,0,nN⟩),vi iQ id] w (aq (bU b (t.exit id)) F (vi iQ (t.getE id)) w):=by
 obtain ⟨hok,tb,mb,cnt,ids,D,hI,hA⟩:=dF h
 have hF:=fq hA id
 have e0:t.getE id=if (t.t id).isSome then 0 else 4:=rfl
 cases hx:t.t id with
 | none=>
  rw [hx] at e0
  have e0':t.getE id=4:=e0
  rw [gZ hx,e0'] at hF
  have H:=zh (λk=>(hA.keep (u':=w.drewN k) (mR.drewN k)).threadOk hok rfl rfl hI)
  have ee:t.exit id=t:=by
   unfold bT.exit
   have:eu t.t id=t.t:=by
    funext j;unfold eu;split
    ·rename_i e;rw [e,hx]
    ·rfl
   rw [this]
  rw [ee,e0']
  clear hA h e0 e0' hx hok
  go_in
  go_wp2_with (go_at_call 200;refine hF.r λk=>?_)
  go_ret
  exact ⟨rfl,H.out _⟩
 | some x=>
  rw [hx] at e0
  obtain ⟨h1,h2⟩:=hok.bd id x hx
  obtain ⟨k,rfl⟩:∃ k:Nat,id=(k:Int)+1:=⟨(id - 1).toNat,by omega⟩
  have hk:k<32:=by omega
  have ek:((k:Int)+1 - 1).toNat=k:=by omega
  have e0':t.getE ((k:Int)+1)=0:=e0
  rw [gY hx,e0',ek] at hF
  rw [e0']
  have hs:fh 32 ids:=by obtain ⟨F1,h1,_⟩:=hA.get 1 rfl;exact h1
  have hmi:k+1∈ids:=(hI (k+1)).2 (by rw [show ((k+1:Nat):Int)=(k:Int)+1 by omega,hx];rfl)
  have hI2:=JJ hs.nodup hI (k+1)
  have hdel:=λk0=>(hA.keep (u':=w.drewN k0) (mR.drewN k0)).thDel hk
  have hok2:=hok.del ((k:Int)+1)
  rw [show ((k+1:Nat):Int)=(k:Int)+1 by omega] at hI2
  obtain ⟨k0,k1,k2⟩:=hA.thC
  have HI:=zh (And.intro hI2 hok2)
  have HM:=zh hmi
  generalize D k=d at *
  clear hA h e0 e0' hx hok hI2 hok2 hmi
  go_in
  go_wp2_with (first
   | (
    go_at_call 200
    refine hF.r λk9=>?_
    obtain ⟨w1,cnt1,hrun,hB⟩:=hdel k9
    obtain ⟨d0,d1,d2⟩:=hB.thC
    have hG:=hB.call (P:=tp) (f:=256) 1 rfl (λF1 h1=>nh _ _ _ _ _ h1 (k+1) HM.out)
    rw [show ((k+1:Nat):Int)=(k:Int)+1 by omega] at hG
    clear hdel hB hF
    )
   | (at_builtin;rw [hrun])
   | (go_at_call 256;refine hG.s λw2 hE=>?_))
  go_ret
  have hE:On F w (bH b tb mb cnt1 (ids.erase (k+1)) D t.n (eu t.t ((k:Int)+1))) w2:=hE
  exact ⟨rfl,hE.threadOk HI.out.2 rfl rfl HI.out.1⟩
theorem bT.ok.new {t:bT} (h:t.ok) {id:Int} {x:jS} (h1:1 <= id) (h2:id <= 32) (hm:x.mask<2 ^ 64) (hp:0 <= x.prio /\ x.prio<8):(t.put id x).ok:=by
 refine ⟨h.n1,h.n2,?_,?_,?_⟩
 all_goals
  intro j z hz
  have hz:(if j=id then sS x else t.t j)=sS z:=hz
  split at hz
 ·rename_i e;subst e;exact ⟨h1,h2⟩
 ·exact h.bd _ _ hz
 ·cases hz;exact hm
 ·exact h.msk _ _ hz
 ·cases hz;exact hp
 ·exact h.pr _ _ hz
theorem Cy (hok:t.ok) {ids:List Nat} (hs:fh 32 ids) (hi:wh ids t.t):t.low=bS ids /\ (ids.length=32↔32<t.low):=xY hs (λm h1 h2=>(hi m).symm)
theorem yN (h:(bU b t).holds F w) (hTb:bK w) (hF:tzL_ren.g 1∉F) (p:Int) (m:Nat) (hm:m<2 ^ 64):Calls tp 108 #[vp (sS ⟨b,0,nN⟩),vi iQ p,vi uQ (m:Nat)] w (aq (bU b (t.spawn p m)) F (.tuple #[vi iQ (t.spawnV p m),vi iQ (t.spawnE p m)]) w):=by
 obtain ⟨hok,tb,mb,cnt,ids,D,hI,hA⟩:=dF h
 have hR:=λk=>kW (w:=w.drewN k) (by simpa using hA.thC.2.1) hok.n2 m hm
 have hR0:=kW (w:=w) hA.thC.2.1 hok.n2 m hm
 have hB:=λk=>hA.keep (u':=w.drewN k) (mR.drewN k)
 have H:=zh (λk=>(hB k).threadOk hok rfl rfl hI)
 have H0:=zh (hA.threadOk hok rfl rfl hI)
 by_cases hi:p<0 \/ 8 <= p \/ t.right m=fF
 ·have eE:t.spawnE p m=2:=pG hi
  rw [show t.spawn p m=t from nG (by rw [eE];decide),show t.spawnV p m=0 from nG (by rw [eE];decide),eE]
  have hi2:p<0 \/ (¬ p<0 /\ 8 <= p) \/ (¬ p<0 /\ ¬ 8 <= p /\ t.right m=fF):=by
   by_cases h1:p<0
   ·exact .inl h1
   ·by_cases h2:8 <= p
    ·exact .inr (.inl ⟨h1,h2⟩)
    ·exact .inr (.inr ⟨h1,h2,hi.resolve_left h1 |>.resolve_left h2⟩)
  clear hA hB h eE hi
  rcases hi2 with h1|⟨h1,h2⟩|⟨h1,h2,h3⟩
  ·clear hR hR0
   go_in
   go_wp2
   go_ret2
   exact ⟨rfl,by first|exact H0.out|exact H.out _⟩
  ·clear hR hR0
   go_in
   go_wp2
   go_ret2
   exact ⟨rfl,by first|exact H0.out|exact H.out _⟩
  ·rw [h3] at hR hR0
   clear h3
   go_in
   go_wp2_with (first
    | (go_at_call 196;refine hR0.r λk=>?_)
    | (go_at_call 196;refine (hR _).r λk=>?_))
   go_ret2
   exact ⟨rfl,by first|exact H0.out|exact H.out _⟩
 ·have h1:¬ p<0:=λx=>hi (.inl x)
  have h2:¬ 8 <= p:=λx=>hi (.inr (.inl x))
  have h3:t.right m=tQ:=by
   cases hr:t.right m with
   | true=>rfl
   | false=>exact absurd (.inr (.inr hr)) hi
  have hs:fh 32 ids:=by obtain ⟨F1,h1,_⟩:=hA.get 1 rfl;exact h1
  obtain ⟨hlow,hfull⟩:=Cy hok hs hI
  rw [h3] at hR hR0
  obtain ⟨k0,k1,k2⟩:=hA.thC
  by_cases hf:32<t.low
  ·have eE:t.spawnE p m=5:=by unfold bT.spawnE;rw [nG hi,pG hf]
   rw [show t.spawn p m=t from nG (by rw [eE];decide),show t.spawnV p m=0 from nG (by rw [eE];decide),eE]
   have hTk:=λk=>fM _ _ _ _ _ ((hB k).get 1 rfl).choose_spec (hfull.2 hf)
   clear hA hB h eE hi h3 hf hlow hfull
   go_in
   go_wp2_with (first
    | (go_at_call 196;refine hR0.r λk=>?_)
    | (go_at_call 196;refine (hR _).r λk=>?_)
    | (go_at_call 132;refine (hTk _).r λk3=>?_))
   go_ret2
   exact ⟨rfl,by first|exact H0.out|exact H.out _⟩
  ·have eE:t.spawnE p m=0:=by unfold bT.spawnE;rw [nG hi,nG hf]
   have hl:ids.length≠32:=λx=>hf (hfull.1 x)
   have hTk:=λk=>hTb.keep ((af.refl [] w).drewN k) sM
   have h1l:=(dB ids).1.1
   obtain ⟨k,hk⟩:∃ k:Nat,bS ids=k+1:=⟨bS ids - 1,by omega⟩
   have hk32:k<32:=by omega
   rw [show t.spawn p m=t.put ((k:Int)+1) ⟨p,m,0,fF,fF,0⟩ by unfold bT.spawn;rw [pG eE,hlow,hk];rfl,show t.spawnV p m=(k:Int)+1 by unfold bT.spawnV;rw [pG eE,hlow,hk];rfl,eE]
   have hok2:=hok.new (id:=(k:Int)+1) (x:=⟨p,m,0,fF,fF,0⟩) oM oM hm ⟨by simp only [];omega,by simp only [];omega⟩
   have hI2:=JI hI (k+1) ⟨p,m,0,fF,fF,0⟩
   rw [show ((k+1:Nat):Int)=(k:Int)+1 by omega] at hI2
   have hbd:=hok.bd
   have HI:=zh (And.intro hI2 hok2)
   have HB:=zh hbd
   have HTk:=zh (λk=>((hB k).call (P:=tp) (f:=132) 1 rfl (λF1 h1=>ng _ _ _ _ _ h1 (hTk k) hl)))
   have hk2:(bS ids:Int)=(k:Int)+1:=by omega
   rw [hk2] at HTk
   have HL:=zh hk
   clear hA h eE hi h3 hf hlow hfull h1l hI2 hok2 hok hbd hB hTk hk hk2
   go_in
   go_wp2_with (first
    | (go_at_call 196;refine hR0.r λk9=>?_)
    | (go_at_call 196;refine (hR _).r λk9=>?_)
    | (
     go_at_call 132
     refine (HTk.out _).s λw2 hC=>?_
     have hC:On F w (bH b tb mb cnt (bS ids :: ids) D t.n t.t) w2:=hC
     rw [HL.out] at hC
     obtain ⟨d0,d1,d2⟩:=hC.thC
     obtain ⟨w4,cnt4,hput,hE⟩:=(hC.alloc (.cells (mj ⟨p,m,0,fF,fF,0⟩).toArray 226 (0,0))).thNew hk32 HB.out
     have HE:=zh hE
     replace hput:(Instr.mapUpdate 161 (.map (sS mb)) (vi iQ ((k:Int)+1)) (vp (sS ⟨w2.heap.size,0,nN⟩))).run tp (w2.alloc (.cells #[vi iQ p,vi uQ (m:Nat),vi iQ 0,vb fF,vb fF,vi iQ 0] 226 (0,0)))=.ok () w4:=hput
     clear hE hC
     ))
   go_ret2
   exact ⟨rfl,HE.out.threadOk HI.out.2 rfl rfl HI.out.1⟩
end
def Mh (n:Nat):bT:=⟨n,λ_=>nN⟩
theorem Cz (n:Nat) (h1:1 <= n) (h2:n <= 64) (w:wW):Calls tp 44 #[vi iQ n] w (dd (λd:Nat=>.tuple #[vp (sS ⟨d,0,nN⟩),vi iQ 0]) (λd=>bU d (Mh n)) [] w):=by
 have hS:=(On.start w).make (oP 32 oM oM w)
 have hmk:=λw=>run_makeMap (P:=tp) 161 w
 go_in
 go_wp2_with (first
  | (
   go_at_call 91
   refine hS.mono ?_
   rintro e w1 ⟨tb,rfl,hA⟩
   have hB:On [] w (bH (w1.heap.size+1) tb w1.heap.size 0 [] (λ_=>0) n (λ_=>nN)) ((w1.alloc (.map #[] 0)).alloc (.cells #[vp (sS ⟨tb,0,nN⟩),vi iQ n,.map (sS w1.heap.size)] 163 (0,0))):=by
    have x2:=(hA.fmNew.alloc (.cells #[vp (sS ⟨tb,0,nN⟩),vi iQ n,.map (sS w1.heap.size)] 163 (0,0))).front
    rw [cH] at x2
    have hx:∀ j:Nat,∀ l:List ao,∀ u,On [] w l u -> On [] w (l++aS j (λk=>Ie 0 nN)) u:=by
     intro j
     induction j with
     | zero=>intro l u h;unfold aS;rw [List.range_zero,List.map_nil,List.append_nil];exact h
     | succ j ih=>
      intro l u h
      have:=(ih l u h).more (P:=AT) rfl
      unfold aS at *
      rw [List.range_succ,List.map_append,<- List.append_assoc]
      exact this
    exact hx 32 _ _ x2
   have HB:=zh hB
   clear hB hA hS
   )
  )
 go_ret2
 refine ⟨_,rfl,?_⟩
 exact HB.out.threadOk (t:=Mh n) ⟨h1,h2,(λ_ _ h=>by cases h),(λ_ _ h=>by cases h),(λ_ _ h=>by cases h)⟩ rfl rfl (λm=>by simp)
def dJ (N:Nat) (q:Nat -> List Int) (id:Int):Option Nat:=(List.range N).find? λi=>decide (id∈q i)
structure wo (N:Nat) (q:Nat -> List Int):Prop where
 nodup:∀ c,c<N -> (q c).Nodup
 bd:∀ c x,c<N -> x∈q c -> 1 <= x /\ x <= 32
 uniq:∀ c d x,c<N -> d<N -> x∈q c -> x∈q d -> c=d
section
variable {N:Nat} {q:Nat -> List Int}
theorem iR (h:wo N q) {id:Int} {c:Nat}:dJ N q id=sS c↔c<N /\ id∈q c:=by
 unfold dJ
 constructor
 ·intro hh
  have h2:=List.find?_some hh
  exact ⟨List.mem_range.1 (List.mem_of_find?_eq_some hh),by simpa using h2⟩
 ·rintro ⟨h1,h2⟩
  cases hf:(List.range N).find? λi=>decide (id∈q i) with
  | none=>
   have:=List.find?_eq_none.1 hf c (List.mem_range.2 h1)
   simp [h2] at this
  | some d=>
   have h3:=List.find?_some hf
   have h4:=List.mem_range.1 (List.mem_of_find?_eq_some hf)
   rw [h.uniq c d id h1 h4 h2 (by simpa using h3)]
theorem ep {id:Int}:dJ N q id=nN↔∀ c,c<N -> id∉q c:=by
 unfold dJ
 rw [List.find?_eq_none]
 constructor
 ·intro h c hc
  simpa using h c (List.mem_range.2 hc)
 ·intro h c hc
  simpa using h c (List.mem_range.1 hc)
theorem gX {id:Int}:(dJ N q id).isSome=tQ↔∃ c,c<N /\ id∈q c:=by
 constructor
 ·intro h
  apply Classical.byContradiction
  intro hn
  have:dJ N q id=none:=ep.2 (λc hc hm=>hn ⟨c,hc,hm⟩)
  rw [this] at h;cases h
 ·rintro ⟨c,hc,hm⟩
  cases hw:dJ N q id with
  | none=>exact absurd hm (ep.1 hw c hc)
  | some d=>rfl
theorem DW {l:List Int} (hn:l.Nodup) (hb:∀ x,x∈l -> 1 <= x /\ x <= 32):l.length <= 32:=by
 have:=iE l ((List.range 32).map λk=>((k+1:Nat):Int)) hn (λx hx=>by
  have h:=hb x hx
  exact List.mem_map.2 ⟨x.toNat - 1,List.mem_range.2 oM,by omega⟩)
 simpa using this
theorem tL (h:wo N q) {id:Int} (hw:dJ N q id=nN) (h1:1 <= id) (h2:id <= 32) {c:Nat} (hc:c<N):
  wo N (ar q c (q c++[id])) /\ (∀ j,dJ N (ar q c (q c++[id])) j=if j=id then sS c else dJ N q j) /\ (q c).length<32:=by
 have hn:=ep.1 hw
 have hmem:∀ d x,x∈ar q c (q c++[id]) d↔x∈q d \/ (d=c /\ x=id):=by
  intro d x
  by_cases e:d=c
  ·subst e;rw [ah];simp
  ·rw [al _ _ e];simp [e]
 have hnd:(q c++[id]).Nodup:=List.nodup_append.2 ⟨h.nodup c hc,by simp,by rintro x hx y hy rfl;simp at hy;exact hn c hc (hy ▸ hx)⟩
 have hlen:(q c++[id]).length <= 32:=DW hnd (by
  intro x hx
  rcases List.mem_append.1 hx with hx|hx
  ·exact h.bd c x hc hx
  ·simp at hx;omega)
 have hok:wo N (ar q c (q c++[id])):=by
  refine ⟨λd hd=>?_,λd x hd hx=>?_,λd e x hd he hx hy=>?_⟩
  ·by_cases e:d=c
   ·subst e;rw [ah];exact hnd
   ·rw [al _ _ e];exact h.nodup d hd
  ·rcases (hmem d x).1 hx with hx|⟨_,rfl⟩
   ·exact h.bd d x hd hx
   ·exact ⟨h1,h2⟩
  ·rcases (hmem d x).1 hx with hx'|⟨hd2,hx2⟩
   ·rcases (hmem e x).1 hy with hy'|⟨he2,hy2⟩
    ·exact h.uniq d e x hd he hx' hy'
    ·exact absurd (hy2 ▸ hx') (hn d hd)
   ·rcases (hmem e x).1 hy with hy'|⟨he2,hy2⟩
    ·exact absurd (hx2 ▸ hy') (hn e he)
    ·exact hd2.trans he2.symm
 refine ⟨hok,λj=>?_,by simp at hlen;omega⟩
 by_cases e:j=id
 ·subst e
  rw [pG rfl]
  exact (iR hok).2 ⟨hc,(hmem c j).2 (.inr ⟨rfl,rfl⟩)⟩
 ·rw [nG e]
  apply Option.ext
  intro d
  rw [iR hok,iR h,hmem]
  simp [e]
theorem zF (h:wo N q) {c:Nat} (hc:c<N) {x:Int} {l:List Int} (hq:(q c).Perm (x :: l)):wo N (ar q c l) /\ ∀ j,dJ N (ar q c l) j=if j=x then nN else dJ N q j:=by
 have hnd:=(hq.nodup_iff).1 (h.nodup c hc)
 rw [List.nodup_cons] at hnd
 have hmem:∀ d y,d<N -> (y∈ar q c l d↔y∈q d /\ y≠x):=by
  intro d y hd
  by_cases e:d=c
  ·subst e
   rw [ah,hq.mem_iff,List.mem_cons]
   constructor
   ·intro hy
    exact ⟨.inr hy,λe=>hnd.1 (e ▸ hy)⟩
   ·rintro ⟨rfl|hy,hne⟩
    ·exact absurd rfl hne
    ·exact hy
  ·rw [al _ _ e]
   constructor
   ·intro hy
    refine ⟨hy,λe2=>e (h.uniq d c y hd hc hy ?_)⟩
    rw [hq.mem_iff,e2];exact List.mem_cons_self
   ·exact λhy=>hy.1
 have hok:wo N (ar q c l):=by
  refine ⟨λd hd=>?_,λd y hd hy=>h.bd d y hd ((hmem d y hd).1 hy).1,λd e y hd he hy hz=>h.uniq d e y hd he ((hmem d y hd).1 hy).1 ((hmem e y he).1 hz).1⟩
  by_cases e:d=c
  ·subst e;rw [ah];exact hnd.2
  ·rw [al _ _ e];exact h.nodup d hd
 refine ⟨hok,λj=>?_⟩
 by_cases e:j=x
 ·subst e
  rw [pG rfl]
  exact ep.2 (λd hd hm=>((hmem d j hd).1 hm).2 rfl)
 ·rw [nG e]
  apply Option.ext
  intro d
  rw [iR hok,iR h]
  constructor
  ·rintro ⟨h1,h2⟩;exact ⟨h1,((hmem d j h1).1 h2).1⟩
  ·rintro ⟨h1,h2⟩;exact ⟨h1,(hmem d j h1).2 ⟨h2,e⟩⟩
/-- The numbers that are given out are those that are in a list. -/
def lQ (ids:List Nat) (N:Nat) (q:Nat -> List Int):Prop:=∀ m:Nat,m∈ids↔(dJ N q (m:Int)).isSome=tQ
theorem BJ (h:wo N q) {ids:List Nat} (hs:fh 32 ids) (hi:lQ ids N q):jK 32 (λi=>(dJ N q (i:Int)).isSome)=bS ids /\ (ids.length=32↔32<jK 32 (λi=>(dJ N q (i:Int)).isSome)):=
 xY hs (λm _ _=>(hi m).symm)
theorem Be (ids:List Nat) (hi:lQ ids N q):dJ N q (bS ids:Int)=none:=by
 have h:=(dB ids).1.2.1
 cases hw:dJ N q (bS ids:Int) with
 | none=>rfl
 | some c=>exact absurd ((hi _).2 (by rw [hw];rfl)) h
theorem yj {ids:List Nat} (hi:lQ ids N q) {q':Nat -> List Int} {n c:Nat} (hw:∀ j,dJ N q' j=if j=(n:Int) then sS c else dJ N q j):lQ (n :: ids) N q':=by
 intro m
 rw [List.mem_cons,hw,hi m]
 by_cases e:m=n
 ·subst e;simp
 ·have:¬ ((m:Int)=n):=by omega
  simp [e,this]
theorem BI {ids:List Nat} (hn:ids.Nodup) (hi:lQ ids N q) {q':Nat -> List Int} {n:Nat} (hw:∀ j,dJ N q' j=if j=(n:Int) then nN else dJ N q j):lQ (ids.erase n) N q':=by
 intro m
 rw [hn.mem_erase_iff,hw,hi m]
 by_cases e:m=n
 ·subst e;simp
 ·have:¬ ((m:Int)=n):=by omega
  simp [e,this]
theorem yi {ids:List Nat} (hi:lQ ids N q) {q':Nat -> List Int} (hw:∀ j,(dJ N q' j).isSome=(dJ N q j).isSome):lQ ids N q':=λm=>by rw [hw];exact hi m
end
theorem vS {l:List Int} {w:wW} {e:Ending} {w':wW} (h:∃ a c,e=.returned (.slice a l.length c) /\ af [] w w' /\ (l=[] /\ a=nN /\ c=0 \/ c=l.length /\ a=sS ⟨w.heap.size,0,nN⟩ /\ w'.heap[w.heap.size]?=sS (cI l))):xc l w e w':=by
 obtain ⟨a,c,rfl,m,hs⟩:=h
 refine ⟨a,c,rfl,m,?_,?_⟩
 ·rcases hs with ⟨h1,_⟩|⟨_,h2,h3⟩
  ·exact .inl h1
  ·exact .inr ⟨_,h2,cq h3,λj hj=>by rw [ad h3 j];exact cx hj⟩
 ·intro b o e
  rcases hs with ⟨_,h2,_⟩|⟨_,h2,_⟩
  ·rw [h2] at e;cases e
  ·rw [h2] at e;cases e;exact Nat.le_refl _
def dO.ok (t:dO):Prop:=1 <= t.n /\ t.n <= 64 /\ wo t.n t.q
def jR (b tb:Nat) (ids:List Nat) (g:Option Nat) (cap:Nat) (D:Nat -> Nat) (n:Nat) (q:Nat -> List Int):List ao:=
 [ao.blk b (.cells #[vp (sS ⟨tb,0,nN⟩),.slice (rA g) n cap] 192 (0,0)),iB tb 32 ids]++jW 187 g cap n D (λc=>aV (D c) 32 (q c))++[]
structure CbP where
 tb:Nat
 ids:List Nat
 g:Option Nat
 cap:Nat
 D:Nat -> Nat
def ju (b:Nat) (t:dO):ao:=ao.such t.ok (ao.ex λp:CbP=>ao.such (lQ p.ids t.n t.q) (ao.star (jR b p.tb p.ids p.g p.cap p.D t.n t.q)))
section
variable {F:List Nat} {w u:wW} {b tb:Nat} {ids:List Nat} {g:Option Nat} {cap:Nat} {D:Nat -> Nat} {n:Nat} {q:Nat -> List Int} {t:dO}
theorem nz (h:(ju b t).holds F w):t.ok /\ ∃ tb ids g cap D,lQ ids t.n t.q /\ On F w (jR b tb ids g cap D t.n t.q) w:=by
 obtain ⟨h1,p,h2,h3⟩:=h
 exact ⟨h1,p.tb,p.ids,p.g,p.cap,p.D,h2,On.of h3⟩
theorem On.callOk (h:On F w (jR b tb ids g cap D n q) u) {t:dO} (hok:t.ok) (hn:t.n=n) (hq:t.q=q) (hi:lQ ids n q):dN (ju b t) F w u:=by
 subst hn hq
 exact h.gains.imp λF' h'=>⟨hok,⟨tb,ids,g,cap,D⟩,hi,h'⟩
theorem On.cbC (h:On F w (jR b tb ids g cap D n q) u):u.cell? ⟨b,0,nN⟩=sS (vp (sS ⟨tb,0,nN⟩)) /\ u.cell? ⟨b,1,nN⟩=sS (.slice (rA g) n cap) /\ n <= cap /\ cap <= maxLen:=
 ⟨h.cell 0 rfl 0,h.cell 0 rfl 1,h.famCap (k:=2) rfl⟩
theorem On.cbPtr (h:On F w (jR b tb ids g cap D n q) u) {c:Nat} (hc:c<n):∃ gb,g=sS gb /\ u.cell? ⟨gb,c,nN⟩=sS (vp (sS ⟨D c,0,nN⟩)):=h.famPtr (k:=2) rfl hc
theorem On.cbHas (h:On F w (jR b tb ids g cap D n q) u) {c:Nat} (hc:c<n):∃ F1,(aV (D c) 32 (q c)).holds F1 u:=h.famHas (k:=2) rfl hc
theorem On.cbDo {P:Program} {fn:FuncId} {args:Array Value} {v:Value} {L:List Int} (h:On F w (jR b tb ids g cap D n q) u) {c:Nat} (hc:c<n) (hh:∀ F1,(aV (D c) 32 (q c)).holds F1 u -> Calls P fn args u (aq (aV (D c) 32 L) F1 v u)):
  Calls P fn args u (λe u'=>e=.returned v /\ On F w (jR b tb ids g cap D n (ar q c L)) u'):=by
 have:=h.famDo (k:=2) rfl hc hh
 have e:ar (λc=>aV (D c) 32 (q c)) c (aV (D c) 32 L)=λi=>aV (D i) 32 (ar q c L i):=by
  funext i
  by_cases e:i=c
  ·subst e;rw [ah,ah]
  ·rw [al _ _ e,al _ _ e]
 rw [e] at this
 exact this
theorem BZ (c1:w.cell? ⟨b,1,nN⟩=sS (.slice (rA g) n cap)) (a:Option Addr) (cp:Nat) (l:List Int) (hl:l.length <= 1000) (hI:bR w a l):
  Calls tp 220 #[vp (sS ⟨b,0,nN⟩),.slice a l.length cp] w (ay (vi iQ (Ee n l)) w):=by
 have hM:∀ j,j<l.length -> ¬ (0 <= ax l j /\ ax l j<n) -> Ee n l=3:=by
  intro j hj hn
  exact nG (λh=>hn (h _ (by simp [ax,List.getD,hj])))
 have hM0:(∀ j,j<l.length -> 0 <= ax l j /\ ax l j<n) -> Ee n l=0:=by
  intro h
  refine pG (λc hc=>?_)
  obtain ⟨j,hj,rfl⟩:=List.getElem_of_mem hc
  have:=h j hj
  simpa [ax,List.getD,hj] using this
 generalize Ee n l=v at *
 go_in
 go_wp2
 go_loopg [11] l.length (λgg i wr=>∃ j:Nat,i=vi iQ j /\ j+gg=l.length /\ (∀ k,k<j -> 0 <= ax l k /\ ax l k<n) /\ aG w wr)
 case atStart=>exact ⟨0,rfl,by omega,by omega,aG.refl _⟩
 case round=>
  obtain ⟨j,rfl,hj,he,hD⟩:=hrel
  have c1r:=(hD.mod (S:=[])).at c1 sM
  by_cases hlt:j<l.length
  ·have hIr:=hI.same hD.heap
   obtain ⟨b,rfl,_,hc⟩:=hIr.resolve_left (λe=>by rw [e] at hlt;simp at hlt)
   have cj:=hc j hlt
   have hltI:(j:Int)<l.length:=by omega
   clear hc hI hIr
   by_cases ok:0 <= ax l j /\ ax l j<n
   ·have hstep:∀ k,k<j+1 -> 0 <= ax l k /\ ax l k<n:=by
     intro k hk
     by_cases e:k=j
     ·subst e;exact ok
     ·exact he k oM
    obtain ⟨ok1,ok2⟩:=ok
    clear he hM
    generalize ax l j=x at *
    have q1:¬ (x<0):=by omega
    have q2:¬ ((n:Int) <= x):=by omega
    go_wp2
    go_roundg (gk - 1)
    case measure=>omega
    case rel=>exact ⟨j+1,by go_num,by omega,hstep,by first|exact hD|exact hD.drewN _⟩
   ·have hv:=hM j hlt ok
    subst hv
    clear hM hM0 he
    generalize ax l j=x at *
    by_cases q1:x<0
    ·go_wp2
     go_ret
     refine ⟨rfl,by repeat (first|exact hD|apply aG.drewN|apply aG.drew)⟩
    ·have q2:(n:Int) <= x:=by omega
     go_wp2
     go_ret
     refine ⟨rfl,by repeat (first|exact hD|apply aG.drewN|apply aG.drew)⟩
  ·have hv:=hM0 (λk hk=>he k oM)
   subst hv
   have hltI:¬ (j:Int)<l.length:=by omega
   clear hM hM0 he hI
   go_wp2
   go_ret
   refine ⟨rfl,by repeat (first|exact hD|apply aG.drewN|apply aG.drew)⟩
end
section
variable {F:List Nat} {w u:wW} {b tb:Nat} {ids:List Nat} {g:Option Nat} {cap:Nat} {D:Nat -> Nat} {n:Nat} {q:Nat -> List Int} {t:dO}
theorem rU (c1:w.cell? ⟨b,1,nN⟩=sS (.slice (rA g) n cap)) (c:Int):
  Calls tp 220 #[vp (sS ⟨b,0,nN⟩),.slice (sS ⟨w.heap.size,0,nN⟩) 1 1] (w.alloc (.cells #[vi iQ c] 3 (0,0))) (ay (vi iQ (if 0 <= c /\ c<n then 0 else 3)) (w.alloc (.cells #[vi iQ c] 3 (0,0)))):=by
 have:=BZ (w:=w.alloc (.cells #[vi iQ c] 3 (0,0))) (au _ c1) (sS ⟨w.heap.size,0,nN⟩) 1 [c] sM (yf w c _)
 rwa [MX] at this
theorem Hr (c1:w.cell? ⟨b,1,nN⟩=sS (.slice (rA g) n cap)) (c d:Int):
  Calls tp 220 #[vp (sS ⟨b,0,nN⟩),.slice (sS ⟨w.heap.size,0,nN⟩) 2 2] (w.alloc (.cells #[vi iQ c,vi iQ d] 3 (0,0))) (ay (vi iQ (if (0 <= c /\ c<n) /\ (0 <= d /\ d<n) then 0 else 3)) (w.alloc (.cells #[vi iQ c,vi iQ d] 3 (0,0)))):=by
 have:=BZ (w:=w.alloc (.cells #[vi iQ c,vi iQ d] 3 (0,0))) (au _ c1) (sS ⟨w.heap.size,0,nN⟩) 2 [c,d] sM (ye w c d _)
 rwa [MW] at this
theorem Km (hok:t.ok) {ids:List Nat} (hs:fh 32 ids) (hi:lQ ids t.n t.q):t.low=bS ids /\ (ids.length=32↔32<t.low):=BJ hok.2.2 hs hi
theorem Hv (h:(ju b t).holds F w) (cpu:Int):Calls tp 158 #[vp (sS ⟨b,0,nN⟩),vi iQ cpu] w (xc (t.list cpu) w):=by
 obtain ⟨hok,tb,ids,g,cap,D,hI,hA⟩:=nz h
 have hm:=rU hA.cbC.2.1 cpu
 unfold dO.list
 by_cases hi:t.is cpu
 ·rw [pG hi]
  rw [pG (show 0 <= cpu /\ cpu<t.n from hi)] at hm
  obtain ⟨h1,h2⟩:=hi
  obtain ⟨c,rfl⟩:=iN h1
  have hc:c<t.n:=by omega
  obtain ⟨gb,rfl,kp⟩:=hA.cbPtr hc
  obtain ⟨k0,k1,k2,k3⟩:=hA.cbC
  simp only [rA] at k1 hm
  have kp':=au (.cells #[vi iQ (c:Int)] 3 (0,0)) kp
  have k0':=au (.cells #[vi iQ (c:Int)] 3 (0,0)) k0
  have k1':=au (.cells #[vi iQ (c:Int)] 3 (0,0)) k1
  have hL:=λk=>kK ((hA.keep (u':=(w.alloc (.cells #[vi iQ (c:Int)] 3 (0,0))).drewN k) ((mR.alloc _).drewN k)).cbHas hc).choose_spec
  rw [show t.at (c:Int)=t.q c from rfl]
  generalize t.q c=x at *
  clear hA h h1
  go_in
  go_wp2_with (first
   | (go_at_call 220;refine hm.r λk=>?_)
   | (go_at_call 239;refine (hL _).mono ?_;intro e w2 hm2;obtain ⟨a2,c2,rfl,m2,i2,n2⟩:=vS hm2))
  go_ret
  refine ⟨a2,c2,rfl,(((af.refl [] w).alloc _).drewN k).trans m2 sM,i2,λb o e=>?_⟩
  have:=n2 b o e
  simp at this
  omega
 ·rw [nG hi]
  rw [nG (show ¬ (0 <= cpu /\ cpu<t.n) from hi)] at hm
  clear hA h hi
  go_in
  go_wp2_with (go_at_call 220;refine hm.r λk=>?_)
  go_ret
  exact ⟨nN,0,rfl,(mR.alloc _).drewN _,.inl rfl,λb o e=>by cases e⟩
theorem yF (h:(ju b t).holds F w) (cpu:Int):Calls tp 88 #[vp (sS ⟨b,0,nN⟩),vi iQ cpu] w (λe w'=>e=.returned (vi iQ (t.list cpu).length) /\ af [] w w'):=by
 have hL:=Hv h cpu
 clear h
 go_in
 go_wp2_with (go_at_call 158;refine hL.mono ?_;rintro e w2 ⟨a2,c2,rfl,m2,i2,n2⟩)
 go_ret
 exact ⟨rfl,m2⟩
theorem Ht (h:(ju b t).holds F w) (hT:bK w) (hF:tzL_ren.g 1∉F) (cpu:Int):Calls tp 137 #[vp (sS ⟨b,0,nN⟩),vi iQ cpu] w (aq (ju b (t.send cpu)) F (.tuple #[vi iQ (t.sendV cpu),vi iQ (t.sendE cpu)]) w):=by
 obtain ⟨hok,tb,ids,g,cap,D,hI,hA⟩:=nz h
 have hm:=rU hA.cbC.2.1 cpu
 have hB:=λk=>hA.keep (u':=(w.alloc (.cells #[vi iQ cpu] 3 (0,0))).drewN k) ((mR.alloc _).drewN k)
 by_cases hi:t.is cpu
 case neg=>
  have e:t.sendE cpu=3:=pG hi
  rw [show t.send cpu=t from nG (by rw [e];decide),show t.sendV cpu=0 from nG (by rw [e];decide),e]
  rw [nG (show ¬ (0 <= cpu /\ cpu<t.n) from hi)] at hm
  have H:=zh (λk=>(hB k).callOk hok rfl rfl hI)
  clear hA h hi e hB
  go_in
  go_wp2_with (go_at_call 220;refine hm.r λk=>?_)
  go_ret2
  exact ⟨rfl,H.out _⟩
 rw [pG (show 0 <= cpu /\ cpu<t.n from hi)] at hm
 have hs:fh 32 ids:=by obtain ⟨F1,h1,_⟩:=hA.get 1 rfl;exact h1
 obtain ⟨hlow,hfull⟩:=Km hok hs hI
 by_cases hf:32<t.low
 ·have e:t.sendE cpu=5:=by unfold dO.sendE;rw [nG (λx=>x hi),pG hf]
  rw [show t.send cpu=t from nG (by rw [e];decide),show t.sendV cpu=0 from nG (by rw [e];decide),e]
  have H:=zh (λk=>(hB k).callOk hok rfl rfl hI)
  have hTk:=λk=>fM _ _ _ _ _ ((hB k).get 1 rfl).choose_spec (hfull.2 hf)
  obtain ⟨k0,k1,k2,k3⟩:=hA.cbC
  have k0':=au (.cells #[vi iQ cpu] 3 (0,0)) k0
  clear hA h hi e hB
  go_in
  go_wp2_with (first
   | (go_at_call 220;refine hm.r λk=>?_)
   | (go_at_call 132;refine (hTk _).r λk3=>?_))
  go_ret2
  exact ⟨rfl,H.out _⟩
 ·have e:t.sendE cpu=0:=by unfold dO.sendE;rw [nG (λx=>x hi),nG hf]
  rw [show t.send cpu=_ from pG e,show t.sendV cpu=_ from pG e,e]
  have hl:ids.length≠32:=λx=>hf (hfull.1 x)
  have hTk:=λk=>hT.keep (((af.refl [] w).alloc (.cells #[vi iQ cpu] 3 (0,0))).drewN k) sM
  have hwn:=Be ids hI
  rw [hlow]
  obtain ⟨h1,h2⟩:=hi
  obtain ⟨c,rfl⟩:=iN h1
  have hc:c<t.n:=by omega
  obtain ⟨gb,rfl,kp⟩:=hA.cbPtr hc
  obtain ⟨k0,k1,k2,k3⟩:=hA.cbC
  simp only [rA] at k1 hm
  have kp':=au (.cells #[vi iQ (c:Int)] 3 (0,0)) kp
  have k0':=au (.cells #[vi iQ (c:Int)] 3 (0,0)) k0
  have k1':=au (.cells #[vi iQ (c:Int)] 3 (0,0)) k1
  obtain ⟨hx,hw2,hlen⟩:=tL hok.2.2 hwn (by have:=(dB ids).1.1;omega) oM hc
  have hpe:dq 32 (t.q c) (bS ids)=0:=by unfold dq;rw [nG (ep.1 hwn c hc),nG oM]
  have hps:lR 32 (t.q c) (bS ids)=t.q c++[(bS ids:Int)]:=pG hpe
  have hI2:=yj hI hw2
  clear h hA e hlow hfull hf
  go_in
  go_wp2_with (first
   | (go_at_call 220;refine hm.r λk=>?_)
   | (
    go_at_call 132
    refine ((hB k).call 1 rfl (λF1 h1=>ng _ _ _ _ _ h1 (hTk k) hl)).s λw2 hC=>?_
    have hC:On F w (jR b tb (bS ids :: ids) (sS gb) cap D t.n t.q) w2:=hC
    obtain ⟨d0,d1,_,_⟩:=hC.cbC
    obtain ⟨gb2,e2,dp⟩:=hC.cbPtr hc
    cases e2
    simp only [rA] at d1
    have hP:=hC.cbDo (P:=tp) (fn:=134) hc (λF1 hF=>iX hF (bS ids))
    rw [hpe,hps] at hP
    clear hC hB kp' k0' k1'
    )
   | (go_at_call 134;refine hP.s λw3 hE=>?_))
  go_ret2
  exact ⟨rfl,hE.callOk (t:=⟨t.n,ar t.q c (t.q c++[(bS ids:Int)])⟩) ⟨hok.1,hok.2.1,hx⟩ rfl rfl hI2⟩
theorem ny {l:List Int} (h:l≠[]):l.Perm (ax l 0 :: l.tail):=by
 cases l with
 | nil=>exact absurd rfl h
 | cons a l=>simp [ax]
theorem Hs (h:(ju b t).holds F w) (cpu:Int):Calls tp 183 #[vp (sS ⟨b,0,nN⟩),vi iQ cpu] w (aq (ju b (t.take cpu)) F (.tuple #[vi iQ (t.takeV cpu),vi iQ (t.takeE cpu)]) w):=by
 obtain ⟨hok,tb,ids,g,cap,D,hI,hA⟩:=nz h
 have hm:=rU hA.cbC.2.1 cpu
 have hB:=λk=>hA.keep (u':=(w.alloc (.cells #[vi iQ cpu] 3 (0,0))).drewN k) ((mR.alloc _).drewN k)
 by_cases hi:t.is cpu
 case neg=>
  have e:t.takeE cpu=3:=pG hi
  rw [show t.take cpu=t from nG (by rw [e];decide),show t.takeV cpu=0 from nG (by rw [e];decide),e]
  rw [nG (show ¬ (0 <= cpu /\ cpu<t.n) from hi)] at hm
  have H:=zh (λk=>(hB k).callOk hok rfl rfl hI)
  clear hA h hi e hB
  go_in
  go_wp2_with (go_at_call 220;refine hm.r λk=>?_)
  go_ret2
  exact ⟨rfl,H.out _⟩
 rw [pG (show 0 <= cpu /\ cpu<t.n from hi)] at hm
 have hE0:t.takeE cpu=if t.at cpu=[] then 12 else 0:=by unfold dO.takeE;rw [nG (λx=>x hi)]
 have hs:fh 32 ids:=by obtain ⟨F1,h1,_⟩:=hA.get 1 rfl;exact h1
 obtain ⟨h1,h2⟩:=hi
 obtain ⟨c,rfl⟩:=iN h1
 have hc:c<t.n:=by omega
 obtain ⟨gb,rfl,kp⟩:=hA.cbPtr hc
 obtain ⟨k0,k1,k2,k3⟩:=hA.cbC
 simp only [rA] at k1 hm
 have kp':=au (.cells #[vi iQ (c:Int)] 3 (0,0)) kp
 have k0':=au (.cells #[vi iQ (c:Int)] 3 (0,0)) k0
 have k1':=au (.cells #[vi iQ (c:Int)] 3 (0,0)) k1
 rw [show t.at (c:Int)=t.q c from rfl] at hE0
 have hP:=λk=>(hB k).cbDo (P:=tp) (fn:=255) hc (λF1 hF=>qk hF)
 by_cases hq:t.q c=[]
 ·rw [pG hq] at hE0
  rw [show t.take c=t from nG (by rw [hE0];decide),show t.takeV c=0 from nG (by rw [hE0];decide),hE0]
  have e1:ar t.q c (t.q c).tail=t.q:=by
   funext i
   by_cases e:i=c
   ·subst e;rw [ah,hq];rfl
   ·rw [al _ _ e]
  rw [e1,show cA (t.q c)=0 by rw [hq];rfl,show ea (t.q c)=12 from pG hq] at hP
  clear h hA hB e1 hE0 hq
  go_in
  go_wp2_with (first
   | (go_at_call 220;refine hm.r λk=>?_)
   | (go_at_call 255;refine (hP _).s λw2 hC=>?_;have HC:=zh hC;clear hC hP))
  go_ret2
  exact ⟨rfl,HC.out.callOk hok rfl rfl hI⟩
 ·rw [nG hq] at hE0
  rw [show t.take c=⟨t.n,ar t.q c (t.q c).tail⟩ from pG hE0,show t.takeV c=ax (t.q c) 0 from pG hE0,hE0]
  rw [show cA (t.q c)=ax (t.q c) 0 from rfl,show ea (t.q c)=0 from nG hq] at hP
  have hperm:=ny hq
  obtain ⟨hx,hw2⟩:=zF hok.2.2 hc hperm
  have hmem:ax (t.q c) 0∈t.q c:=hperm.mem_iff.2 List.mem_cons_self
  have hb:=hok.2.2.bd c _ hc hmem
  obtain ⟨m,hm0⟩:=iN (show 0 <= ax (t.q c) 0 by omega)
  rw [hm0] at hP hw2 hmem
  rw [hm0]
  have hmi:m∈ids:=(hI m).2 (gX.2 ⟨c,hc,hmem⟩)
  have hI2:=BI hs.nodup hI hw2
  have HM:=zh (And.intro hI2 hx)
  clear h hA hB hE0 hq hperm hw2 hmem hb hm0 hI2 hx
  go_in
  go_wp2_with (first
   | (go_at_call 220;refine hm.r λk=>?_)
   | (
    go_at_call 255
    refine (hP _).s λw2 hC=>?_
    obtain ⟨d0,d1,_,_⟩:=hC.cbC
    have hG:=hC.call (P:=tp) (f:=256) 1 rfl (λF1 h1=>nh _ _ _ _ _ h1 m hmi)
    clear hC hP
    )
   | (go_at_call 256;refine hG.s λw3 hE=>?_))
  go_ret2
  have hE:On F w (jR b tb (ids.erase m) (sS gb) cap D t.n (ar t.q c (t.q c).tail)) w3:=hE
  exact ⟨rfl,hE.callOk (t:=⟨t.n,ar t.q c (t.q c).tail⟩) ⟨hok.1,hok.2.1,HM.out.2⟩ rfl rfl HM.out.1⟩
theorem Hu (h:(ju b t).holds F w) (a d:Int):Calls tp 300 #[vp (sS ⟨b,0,nN⟩),vi iQ a,vi iQ d] w (aq (ju b (t.move a d)) F (.tuple #[vi iQ (t.moveV a d),vi iQ (t.moveE a d)]) w):=by
 obtain ⟨hok,tb,ids,g,cap,D,hI,hA⟩:=nz h
 have hm:=Hr hA.cbC.2.1 a d
 have hB:=λk=>hA.keep (u':=(w.alloc (.cells #[vi iQ a,vi iQ d] 3 (0,0))).drewN k) ((mR.alloc _).drewN k)
 have H:=zh (λk=>(hB k).callOk hok rfl rfl hI)
 by_cases hi:t.is a /\ t.is d
 case neg=>
  have e:t.moveE a d=3:=pG (by by_cases x:t.is a;exact .inr (λy=>hi ⟨x,y⟩);exact .inl x)
  rw [show t.move a d=t from nG (by rw [e];decide),show t.moveV a d=0 from nG (by rw [e];decide),e]
  rw [nG (show ¬ ((0 <= a /\ a<t.n) /\ (0 <= d /\ d<t.n)) from hi)] at hm
  clear hA h hi e hB
  go_in
  go_wp2_with (go_at_call 220;refine hm.r λk=>?_)
  go_ret2
  exact ⟨rfl,H.out _⟩
 rw [pG (show (0 <= a /\ a<t.n) /\ (0 <= d /\ d<t.n) from hi)] at hm
 by_cases had:a=d
 ·have e:t.moveE a d=2:=by unfold dO.moveE;rw [nG (λx=>x.elim (λy=>y hi.1) (λy=>y hi.2)),pG had]
  rw [show t.move a d=t from nG (by rw [e];decide),show t.moveV a d=0 from nG (by rw [e];decide),e]
  subst had
  clear hA h hi e hB
  go_in
  go_wp2_with (go_at_call 220;refine hm.r λk=>?_)
  go_ret2
  exact ⟨rfl,H.out _⟩
 have hE0:t.moveE a d=if t.at a=[] then 12 else 0:=by unfold dO.moveE;rw [nG (λx=>x.elim (λy=>y hi.1) (λy=>y hi.2)),nG had]
 obtain ⟨⟨h1,h2⟩,h3,h4⟩:=hi
 obtain ⟨c,rfl⟩:=iN h1
 obtain ⟨d,rfl⟩:=iN h3
 have hc:c<t.n:=by omega
 have hd:d<t.n:=by omega
 have hcd:c≠d:=λe=>had (by rw [e])
 obtain ⟨gb,rfl,kp⟩:=hA.cbPtr hc
 obtain ⟨k0,k1,k2,k3⟩:=hA.cbC
 simp only [rA] at k1 hm
 have kp':=au (.cells #[vi iQ (c:Int),vi iQ (d:Int)] 3 (0,0)) kp
 have k1':=au (.cells #[vi iQ (c:Int),vi iQ (d:Int)] 3 (0,0)) k1
 rw [show t.at (c:Int)=t.q c from rfl] at hE0
 have hne:((c:Int)==(d:Int))=fF:=by simpa using had
 have hP:=λk=>(hB k).cbDo (P:=tp) (fn:=255) hc (λF1 hF=>qk hF)
 by_cases hq:t.q c=[]
 ·rw [pG hq] at hE0
  rw [show t.move c d=t from nG (by rw [hE0];decide),show t.moveV c d=0 from nG (by rw [hE0];decide),hE0]
  have e1:ar t.q c (t.q c).tail=t.q:=by
   funext i
   by_cases e:i=c
   ·subst e;rw [ah,hq];rfl
   ·rw [al _ _ e]
  rw [e1,show cA (t.q c)=0 by rw [hq];rfl,show ea (t.q c)=12 from pG hq] at hP
  clear h hA hB e1 hE0 hq had
  go_in
  go_wp2_with (first
   | (go_at_call 220;refine hm.r λk=>?_)
   | (go_at_call 255;refine (hP _).s λw2 hC=>?_;have HC:=zh hC;clear hC hP))
  go_ret2
  exact ⟨rfl,HC.out.callOk hok rfl rfl hI⟩
 ·rw [nG hq] at hE0
  have eM:t.move c d=⟨t.n,ar (ar t.q c (t.q c).tail) d (t.q d++[ax (t.q c) 0])⟩:=pG hE0
  rw [eM,show t.moveV c d=ax (t.q c) 0 from pG hE0,hE0]
  rw [show cA (t.q c)=ax (t.q c) 0 from rfl,show ea (t.q c)=0 from nG hq] at hP
  have hperm:=ny hq
  obtain ⟨hx,hw2⟩:=zF hok.2.2 hc hperm
  have hmem:ax (t.q c) 0∈t.q c:=hperm.mem_iff.2 List.mem_cons_self
  have hb:=hok.2.2.bd c _ hc hmem
  have hwn:dJ t.n (ar t.q c (t.q c).tail) (ax (t.q c) 0)=none:=by rw [hw2,pG rfl]
  obtain ⟨hx3,hw3,hlen⟩:=tL hx hwn hb.1 hb.2 hd
  have hgd:ar t.q c (t.q c).tail d=t.q d:=al _ _ (Ne.symm hcd)
  rw [hgd] at hx3 hw3 hlen
  have hpe:dq 32 (t.q d) (ax (t.q c) 0)=0:=by
   have:=ep.1 hwn d hd
   rw [hgd] at this
   unfold dq;rw [nG this,nG oM]
  have hps:lR 32 (t.q d) (ax (t.q c) 0)=t.q d++[ax (t.q c) 0]:=pG hpe
  have hI2:lQ ids t.n (ar (ar t.q c (t.q c).tail) d (t.q d++[ax (t.q c) 0])):=yi hI (λj=>by
   rw [hw3,hw2]
   by_cases e:j=ax (t.q c) 0
   ·rw [pG e,e,gX.2 ⟨c,hc,hmem⟩];rfl
   ·rw [nG e,nG e])
  have HM:=zh (And.intro hI2 hx3)
  generalize ax (t.q c) 0=x at *
  clear h hA hB hE0 hq hperm hw2 hmem hb hI2 hx3 had hx hwn hw3 hlen eM
  go_in
  go_wp2_with (first
   | (go_at_call 220;refine hm.r λk=>?_)
   | (
    go_at_call 255
    refine (hP _).s λw2 hC=>?_
    obtain ⟨d0,d1,_,_⟩:=hC.cbC
    obtain ⟨gb2,e2,dp⟩:=hC.cbPtr hd
    cases e2
    simp only [rA] at d1
    have hG:=hC.cbDo (P:=tp) (fn:=134) (L:=t.q d++[x]) (v:=vi iQ 0) hd (λF1 hF=>by rw [hgd] at hF;have:=iX hF x;rwa [hpe,hps] at this)
    clear hC hP kp' k1'
    )
   | (go_at_call 134;refine hG.s λw3 hE=>?_))
  go_ret2
  exact ⟨rfl,hE.callOk (t:=⟨t.n,ar (ar t.q c (t.q c).tail) d (t.q d++[x])⟩) ⟨hok.1,hok.2.1,HM.out.2⟩ rfl rfl HM.out.1⟩
end
theorem JF:(tp.info? 187).map (λi=>(i.zero,i.size,i.bytes))=sS (sS (vp nN),1,8):=by kernel_rfl
theorem Nb (N:Nat):wo N (λ_=>[]):=⟨λ_ _=>List.nodup_nil,(λ_ x _ h=>by cases h),(λ_ _ x _ _ h=>by cases h)⟩
def cb0 (n:Nat):dO:=⟨n,λ_=>[]⟩
theorem Mc (N:Nat):lQ [] N (λ_=>[]):=λm=>by
 rw [gX]
 constructor
 ·intro h;cases h
 ·rintro ⟨_,_,h⟩;cases h
theorem Kn (n:Nat) (h1:1 <= n) (h2:n <= 64) (w:wW):Calls tp 56 #[vi iQ n] w (dd (λd:Nat=>.tuple #[vp (sS ⟨d,0,nN⟩),vi iQ 0]) (λd=>ju d (cb0 n)) [] w):=by
 have hS:=(On.start w).make (oP 32 oM oM w)
 go_in
 go_wp2_with (first
  | (
   go_at_call 91
   refine hS.mono ?_
   rintro e w1 ⟨tb,rfl,hA⟩
   have hB:On [] w (jR w1.heap.size tb [] nN 0 (λ_=>0) 0 (λ_=>[])) (w1.alloc (.cells #[vp (sS ⟨tb,0,nN⟩),.slice nN 0 0] 192 (0,0))):=by
    have x2:=(hA.alloc (.cells #[vp (sS ⟨tb,0,nN⟩),.slice nN 0 0] 192 (0,0))).front
    have x3:=x2.more (P:=ml 187 1 nN 0 0 []) ⟨rfl,nH.nil _ _ _⟩
    exact x3
   have HB:=zh hB
   clear hB hA hS
   )
  )
 generalize hd:w1.heap.size=d at *
 go_loopg [27] n (λgg i wr=>∃ (j:Nat) (g:Option Nat) (cap:Nat) (D:Nat -> Nat),i=vi iQ j /\ j+gg=n /\ On [] w (jR d tb [] g cap D j (λ_=>[])) wr)
 case atStart=>exact ⟨0,nN,0,λ_=>0,rfl,by omega,HB.out⟩
 case round=>
  clear HB
  obtain ⟨j,g,cap,D,rfl,hj,hB⟩:=hrel
  by_cases hlt:j<n
  ·have hltI:(j:Int)<n:=by omega
   have hN:=hB.make (vR 32 oM oM wr)
   go_wp2_with (first
    | (
     go_at_call 94
     refine hN.mono ?_
     rintro e w2 ⟨x,rfl,hC⟩
     have c1:=hC.cell 0 rfl 1
     have hC2:=hC.keep (u':=w2.alloc (.cells #[vp (sS ⟨x,0,nN⟩)] 187 (0,0))) (mR.alloc _)
     unfold jR at hC2
     rw [List.append_nil] at hC2
     obtain ⟨g',cap',w3,hrun,hD⟩:=hC2.famMore (P:=tp) (tt:=184) (bytes:=8) Tryz.underlying184 JF oM oM (b:=w2.heap.size) (d:=x) (ai _ _)
     have c3:=hD.cell 0 rfl 1
     have f3:=hD.free 0 rfl 1
     have z3:=hD.size 0 rfl
     have HD:=zh hD
     clear hC hC2 hN hB hD
     )
    | (
     at_builtin
     refine aX rfl _ _ _ rfl rfl rfl (hrun _) ?_
     )
    )
   have hE:=HD.out.set 0 rfl 1 (.slice (sS ⟨g',0,nN⟩) (j+1) cap')
   go_roundg (gk - 1)
   case measure=>omega
   case rel=>
    refine ⟨j+1,sS g',cap',ar D j x,by go_num,by omega,?_⟩
    have e:ar (λc=>aV (D c) 32 []) j (aV x 32 [])=λi=>aV (ar D j x i) 32 []:=by
     funext i
     by_cases e:i=j
     ·subst e;rw [ah,ah]
     ·rw [al _ _ e,al _ _ e]
    rw [e] at hE
    unfold jR
    rw [List.append_nil]
    exact hE
  ·have hltI:¬ (j:Int)<n:=by omega
   obtain rfl:j=n:=by omega
   have HB:=zh hB
   clear hB
   go_wp2
   go_ret2
   refine ⟨d,rfl,?_⟩
   exact HB.out.callOk (t:=cb0 j) ⟨h1,h2,Nb _⟩ rfl rfl (Mc _)
def zQ (N:Nat) (q:Nat -> List Int) (id:Int):Option Int:=match dJ N q id with|some c=>sS ((c:Int) - 1)|none=>nN
theorem Il {N:Nat} {q:Nat -> List Int} {id:Int}:(zQ N q id).isSome=(dJ N q id).isSome:=by unfold zQ;cases dJ N q id<;>rfl
def cu.ok (t:cu):Prop:=1 <= t.n /\ t.n <= 64 /\ wo (t.n+1) t.q
def fl (b tb wb cnt:Nat) (ids:List Nat) (f:Int -> Option Int) (g:Option Nat) (cap:Nat) (D:Nat -> Nat) (n:Nat) (q:Nat -> List Int):List ao:=
 [ao.blk b (.cells #[vp (sS ⟨tb,0,nN⟩),.slice (rA g) n cap,.map (sS wb)] 186 (0,0)),iB tb 32 ids,dR wb cnt (eY f)]++jW 187 g cap n D (λc=>aV (D c) 32 (q c))++[]
structure WkP where
 tb:Nat
 wb:Nat
 cnt:Nat
 ids:List Nat
 g:Option Nat
 cap:Nat
 D:Nat -> Nat
def fJ (b:Nat) (t:cu):ao:=ao.such t.ok (ao.ex λp:WkP=>ao.such (lQ p.ids (t.n+1) t.q) (ao.star (fl b p.tb p.wb p.cnt p.ids (zQ (t.n+1) t.q) p.g p.cap p.D (t.n+1) t.q)))
section
variable {F:List Nat} {w u:wW} {b tb wb cnt:Nat} {ids:List Nat} {f:Int -> Option Int} {g:Option Nat} {cap:Nat} {D:Nat -> Nat} {n:Nat} {q:Nat -> List Int} {t:cu}
theorem iO (h:(fJ b t).holds F w):t.ok /\ ∃ tb wb cnt ids g cap D,lQ ids (t.n+1) t.q /\ On F w (fl b tb wb cnt ids (zQ (t.n+1) t.q) g cap D (t.n+1) t.q) w:=by
 obtain ⟨h1,p,h2,h3⟩:=h
 exact ⟨h1,p.tb,p.wb,p.cnt,p.ids,p.g,p.cap,p.D,h2,On.of h3⟩
theorem On.workOk (h:On F w (fl b tb wb cnt ids f g cap D n q) u) {t:cu} (hok:t.ok) (hn:t.n+1=n) (hq:t.q=q) (hi:lQ ids n q) (hf:f=zQ n q):dN (fJ b t) F w u:=by
 subst hn hq hf
 exact h.gains.imp λF' h'=>⟨hok,⟨tb,wb,cnt,ids,g,cap,D⟩,hi,h'⟩
theorem On.wkC (h:On F w (fl b tb wb cnt ids f g cap D n q) u):u.cell? ⟨b,0,nN⟩=sS (vp (sS ⟨tb,0,nN⟩)) /\ u.cell? ⟨b,1,nN⟩=sS (.slice (rA g) n cap) /\ u.cell? ⟨b,2,nN⟩=sS (.map (sS wb)) /\ n <= cap /\ cap <= maxLen:=
 ⟨h.cell 0 rfl 0,h.cell 0 rfl 1,h.cell 0 rfl 2,h.famCap (k:=3) rfl⟩
theorem On.wkPtr (h:On F w (fl b tb wb cnt ids f g cap D n q) u) {c:Nat} (hc:c<n):∃ gb,g=sS gb /\ u.cell? ⟨gb,c,nN⟩=sS (vp (sS ⟨D c,0,nN⟩)):=h.famPtr (k:=3) rfl hc
theorem On.wkHas (h:On F w (fl b tb wb cnt ids f g cap D n q) u) {c:Nat} (hc:c<n):∃ F1,(aV (D c) 32 (q c)).holds F1 u:=h.famHas (k:=3) rfl hc
theorem On.wkDo {P:Program} {fn:FuncId} {args:Array Value} {v:Value} {L:List Int} (h:On F w (fl b tb wb cnt ids f g cap D n q) u) {c:Nat} (hc:c<n) (hh:∀ F1,(aV (D c) 32 (q c)).holds F1 u -> Calls P fn args u (aq (aV (D c) 32 L) F1 v u)):
  Calls P fn args u (λe u'=>e=.returned v /\ On F w (fl b tb wb cnt ids f g cap D n (ar q c L)) u'):=by
 have:=h.famDo (k:=3) rfl hc hh
 have e:ar (λc=>aV (D c) 32 (q c)) c (aV (D c) 32 L)=λi=>aV (D i) 32 (ar q c L i):=by
  funext i
  by_cases e:i=c
  ·subst e;rw [ah,ah]
  ·rw [al _ _ e,al _ _ e]
 rw [e] at this
 exact this
theorem On.wkPut (h:On F w (fl b tb wb cnt ids f g cap D n q) u) (id v:Int):∃ w1 cnt',(Instr.mapUpdate 82 (.map (sS wb)) (vi iQ id) (vi iQ v)).run tp u=.ok () w1 /\ On F w (fl b tb wb cnt' ids (cN f id v) g cap D n q) w1:=by
 obtain ⟨w1,h1,h2⟩:=h.fmPut (P:=tp) 2 rfl Tryz.underlying82 Tryz.underlying3 id (vi iQ v)
 rw [pf] at h2
 exact ⟨w1,_,h1,h2⟩
theorem On.wkDel (h:On F w (fl b tb wb cnt ids f g cap D n q) u) (id:Int):∃ w1 cnt',(∀ ty,(Builtin.delete_ #[82,3] ty #[.map (sS wb),vi iQ id]).run tp u=.ok (.tuple #[]) w1) /\ On F w (fl b tb wb cnt' ids (eu f id) g cap D n q) w1:=by
 obtain ⟨w1,h1,h2⟩:=h.fmDel (P:=tp) 2 rfl Tryz.underlying82 Tryz.underlying3 id
 rw [ph] at h2
 exact ⟨w1,_,h1,h2⟩
theorem On.wkLook (h:On F w (fl b tb wb cnt ids f g cap D n q) u) (id:Int):(Instr.lookup 82 (.map (sS wb)) (vi iQ id) tQ).run tp u=.ok (.tuple #[vi iQ ((f id).getD 0),vb (f id).isSome]) u:=by
 have:=lL (P:=tp) (h.fm 2 rfl) Tryz.underlying82 Tryz.underlying3 id (λw=>Tryz.zeroValue3 w)
 rw [this]
 unfold eY
 cases f id<;>rfl
theorem oI (c1:u.cell? ⟨b,1,nN⟩=sS (.slice (rA g) (n+1) cap)) (hn:n <= 64) (cpu from_:Int):Calls tp 131 #[vp (sS ⟨b,0,nN⟩),vi iQ cpu,.int .i64 from_] u (ay (vi iQ (if from_ <= cpu /\ cpu<n then 0 else 3)) u):=by
 have hwn:wrap64 (n:Int)=n:=by unfold wrap64;omega
 by_cases hi:from_ <= cpu /\ cpu<n
 ·rw [pG hi]
  obtain ⟨h1,h2⟩:=hi
  have q1:¬ cpu<from_:=by omega
  have q2:¬ ((n:Int) <= cpu):=by omega
  go_in
  go_wp2
  go_ret
  exact ay.of (rfl) dz
 ·rw [nG hi]
  have h2:cpu<from_ \/ (¬ cpu<from_ /\ (n:Int) <= cpu):=by omega
  clear hi
  rcases h2 with h2|⟨h1,h2⟩
  all_goals
   go_in
   go_wp2
   go_ret
   exact ay.of (rfl) dz
theorem iP {gb d c:Nat} (k1:u.cell? ⟨b,1,nN⟩=sS (.slice (sS ⟨gb,0,nN⟩) n cap)) (kp:u.cell? ⟨gb,c,nN⟩=sS (vp (sS ⟨d,0,nN⟩))) (hc:c<n) (hn:n <= 65) (cpu:Int) (h:cpu=(c:Int) - 1):
  Calls tp 133 #[vp (sS ⟨b,0,nN⟩),vi iQ cpu] u (ay (vp (sS ⟨d,0,nN⟩)) u):=by
 have e:cpu - -1=(c:Int):=by omega
 have e2:cpu+1=(c:Int):=by omega
 have h3:(-1:Int) <= cpu:=by omega
 have h4:cpu <= 64:=by omega
 have hcI:(c:Int)<n:=by omega
 clear h
 go_in
 go_wp2
 go_ret
 exact ay.of (rfl) dz
theorem tU (hA:On F w (fl b tb wb cnt ids f g cap D n q) u) (id:Int):Calls tp 285 #[vp (sS ⟨b,0,nN⟩),vi iQ id] u (ay (.tuple #[vi iQ ((f id).getD 0),vb (f id).isSome]) u):=by
 have hlk:=hA.wkLook id
 obtain ⟨k0,k1,k2,k3⟩:=hA.wkC
 generalize (f id).getD 0=x at *
 generalize (f id).isSome=y at *
 clear hA
 go_in
 go_wp2
 go_ret2
 exact ay.of (rfl) dz
theorem Ik (h:(fJ b t).holds F w) (id:Int):Calls tp 231 #[vp (sS ⟨b,0,nN⟩),vi iQ id] w (ay (vb (t.has id)) w):=by
 obtain ⟨hok,tb,wb,cnt,ids,g,cap,D,hI,hA⟩:=iO h
 have hW:=tU hA id
 rw [Il] at hW
 rw [show t.has id=(dJ (t.n+1) t.q id).isSome from rfl]
 generalize (dJ (t.n+1) t.q id).isSome=y at *
 clear hA h
 go_in
 go_wp2_with (go_at_call 285;refine hW.r λk=>?_)
 go_ret
 exact ay.of (rfl) dz
end
section
variable {F:List Nat} {w u:wW} {b tb wb cnt:Nat} {ids:List Nat} {f:Int -> Option Int} {g:Option Nat} {cap:Nat} {D:Nat -> Nat} {n:Nat} {q:Nat -> List Int} {t:cu}
theorem Ii (hok:t.ok) {ids:List Nat} (hs:fh 32 ids) (hi:lQ ids (t.n+1) t.q):t.low=bS ids /\ (ids.length=32↔32<t.low):=BJ hok.2.2 hs hi
theorem qw {w:wW} {p:Addr} {v:Value} (h:w.cell? p=sS v) (k:Nat):(w.drewN k).cell? p=sS v:=by simpa using h
theorem EV (h:(fJ b t).holds F w) (cpu:Int):Calls tp 157 #[vp (sS ⟨b,0,nN⟩),vi iQ cpu] w (xc (t.list cpu) w):=by
 obtain ⟨hok,tb,wb,cnt,ids,g,cap,D,hI,hA⟩:=iO h
 have hm:=oI hA.wkC.2.1 hok.2.1 cpu (-1)
 unfold cu.list
 by_cases hi:t.is cpu (-1)
 ·rw [pG hi]
  rw [pG (show -1 <= cpu /\ cpu<t.n from hi)] at hm
  obtain ⟨h1,h2⟩:=hi
  obtain ⟨c,hcp⟩:=iN (show 0 <= cpu+1 by omega)
  have hc:c<t.n+1:=by omega
  have hcl:cpu=(c:Int) - 1:=by omega
  obtain ⟨gb,rfl,kp⟩:=hA.wkPtr hc
  obtain ⟨k0,k1,kw,k2,k3⟩:=hA.wkC
  have hat:t.at cpu=t.q c:=by unfold cu.at;rw [hcp];rfl
  have hnn:t.n+1 <= 65:=by have:=hok.2.1;omega
  simp only [rA] at k1 hm
  rw [hat]
  have hL:=λk=>kK ((hA.keep (u':=w.drewN k) (mR.drewN k)).wkHas hc).choose_spec
  have hl:=λk=>iP (qw k1 k) (qw kp k) hc hnn cpu hcl
  clear hcp hcl hat hA h
  generalize t.q c=x at *
  go_in
  go_wp2_with (first
   | (go_at_call 131;refine hm.r λk=>?_)
   | (go_at_call 133;refine (hl _).r λk2=>?_)
   | (go_at_call 239;(try rw [World.drewN_drewN]);refine (hL _).mono ?_;intro e w2 hm2;obtain ⟨a2,c2,rfl,m2,i2,n2⟩:=vS hm2))
  go_ret
  refine ⟨a2,c2,rfl,((af.refl [] w).drewN _).trans m2 sM,i2,λb o e=>?_⟩
  have:=n2 b o e
  simp at this
  omega
 ·rw [nG hi]
  rw [nG (show ¬ (-1 <= cpu /\ cpu<t.n) from hi)] at hm
  clear hA h hi
  go_in
  go_wp2_with (go_at_call 131;refine hm.r λk=>?_)
  go_ret
  exact ⟨nN,0,rfl,mR.drewN _,.inl rfl,λb o e=>by cases e⟩
theorem qH (h:(fJ b t).holds F w) (cpu:Int):Calls tp 87 #[vp (sS ⟨b,0,nN⟩),vi iQ cpu] w (λe w'=>e=.returned (vi iQ (t.list cpu).length) /\ af [] w w'):=by
 have hL:=EV h cpu
 clear h
 go_in
 go_wp2_with (go_at_call 157;refine hL.mono ?_;rintro e w2 ⟨a2,c2,rfl,m2,i2,n2⟩)
 go_ret
 exact ⟨rfl,m2⟩
theorem zP {N:Nat} {q q':Nat -> List Int} {id:Int} {c:Nat} (hw:∀ j,dJ N q' j=if j=id then sS c else dJ N q j):cN (zQ N q) id ((c:Int) - 1)=zQ N q':=by
 funext j
 unfold cN zQ
 rw [hw]
 split<;>rfl
theorem Im {N:Nat} {q q':Nat -> List Int} {id:Int} (hw:∀ j,dJ N q' j=if j=id then nN else dJ N q j):eu (zQ N q) id=zQ N q':=by
 funext j
 unfold eu zQ
 rw [hw]
 split<;>rfl
theorem tW (h:(fJ b t).holds F w) (hT:bK w) (hF:tzL_ren.g 1∉F) (cpu:Int):Calls tp 77 #[vp (sS ⟨b,0,nN⟩),vi iQ cpu] w (aq (fJ b (t.queue cpu)) F (.tuple #[vi iQ (t.queueV cpu),vi iQ (t.queueE cpu)]) w):=by
 obtain ⟨hok,tb,wb,cnt,ids,g,cap,D,hI,hA⟩:=iO h
 have hm:=oI hA.wkC.2.1 hok.2.1 cpu (-1)
 have hB:=λk=>hA.keep (u':=w.drewN k) (mR.drewN k)
 by_cases hi:t.is cpu (-1)
 case neg=>
  have e:t.queueE cpu=3:=pG hi
  rw [show t.queue cpu=t from nG (by rw [e];decide),show t.queueV cpu=0 from nG (by rw [e];decide),e]
  rw [nG (show ¬ (-1 <= cpu /\ cpu<t.n) from hi)] at hm
  have H:=zh (λk=>(hB k).workOk hok rfl rfl hI rfl)
  clear hA h hi e hB
  go_in
  go_wp2_with (go_at_call 131;refine hm.r λk=>?_)
  go_ret2
  exact ⟨rfl,H.out _⟩
 rw [pG (show -1 <= cpu /\ cpu<t.n from hi)] at hm
 have hs:fh 32 ids:=by obtain ⟨F1,h1,_⟩:=hA.get 1 rfl;exact h1
 obtain ⟨hlow,hfull⟩:=Ii hok hs hI
 by_cases hf:32<t.low
 ·have e:t.queueE cpu=5:=by unfold cu.queueE;rw [nG (λx=>x hi),pG hf]
  rw [show t.queue cpu=t from nG (by rw [e];decide),show t.queueV cpu=0 from nG (by rw [e];decide),e]
  have H:=zh (λk=>(hB k).workOk hok rfl rfl hI rfl)
  have hTk:=λk=>fM _ _ _ _ _ ((hB k).get 1 rfl).choose_spec (hfull.2 hf)
  obtain ⟨k0,k1,k2,k3⟩:=hA.wkC
  clear hA h hi e hB
  go_in
  go_wp2_with (first
   | (go_at_call 131;refine hm.r λk=>?_)
   | (go_at_call 132;refine (hTk _).r λk3=>?_))
  go_ret2
  exact ⟨rfl,H.out _⟩
 ·have e:t.queueE cpu=0:=by unfold cu.queueE;rw [nG (λx=>x hi),nG hf]
  have hl:ids.length≠32:=λx=>hf (hfull.1 x)
  have hTk:=λk=>hT.keep ((af.refl [] w).drewN k) sM
  have hwn:=Be ids hI
  obtain ⟨h1,h2⟩:=hi
  obtain ⟨c,hcp⟩:=iN (show 0 <= cpu+1 by omega)
  have hc:c<t.n+1:=by omega
  have hcl:cpu=(c:Int) - 1:=by omega
  obtain ⟨gb,rfl,kp⟩:=hA.wkPtr hc
  obtain ⟨k0,k1,kw,k2,k3⟩:=hA.wkC
  have hat:t.at cpu=t.q c:=by unfold cu.at;rw [hcp];rfl
  have hnn:t.n+1 <= 65:=by have:=hok.2.1;omega
  simp only [rA] at k1 hm
  rw [show t.queue cpu=⟨t.n,ar t.q c (t.q c++[(bS ids:Int)])⟩ by unfold cu.queue;rw [pG e,hat,hlow];unfold cu.putQ;rw [hcp];rfl,show t.queueV cpu=_ from pG e,e,hlow]
  obtain ⟨hx,hw2,hlen⟩:=tL hok.2.2 hwn (by have:=(dB ids).1.1;omega) oM hc
  have hpe:dq 32 (t.q c) (bS ids)=0:=by unfold dq;rw [nG (ep.1 hwn c hc),nG oM]
  have hps:lR 32 (t.q c) (bS ids)=t.q c++[(bS ids:Int)]:=pG hpe
  have hI2:=yj hI hw2
  have hO:=zP hw2
  rw [<- hcl] at hO
  have HC:=zh hcl
  clear h hA e hlow hfull hf hcl hcp hat
  go_in
  go_wp2_with (first
   | (go_at_call 131;refine hm.r λk=>?_)
   | (
    go_at_call 132
    refine ((hB k).call 1 rfl (λF1 h1=>ng _ _ _ _ _ h1 (hTk k) hl)).s λw2 hC=>?_
    have hC:On F w (fl b tb wb cnt (bS ids :: ids) (zQ (t.n+1) t.q) (sS gb) cap D (t.n+1) t.q) w2:=hC
    obtain ⟨d0,d1,d2,_,_⟩:=hC.wkC
    obtain ⟨w3,cnt3,hput,hD⟩:=hC.wkPut (bS ids) cpu
    obtain ⟨f0,f1,f2,_,_⟩:=hD.wkC
    obtain ⟨gb2,e2,dp⟩:=hD.wkPtr hc
    cases e2
    simp only [rA] at f1
    have hli:=iP f1 dp hc hnn cpu HC.out
    have hP:=λk=>(hD.keep (u':=w3.drewN k) (mR.drewN k)).wkDo (P:=tp) (fn:=134) hc (λF1 hF=>iX hF (bS ids))
    rw [hpe,hps] at hP
    clear hC hD hB k0 k1 kw kp
    )
   | (go_at_call 133;refine hli.r λk2=>?_)
   | (go_at_call 134;refine (hP _).s λw4 hE=>?_))
  go_ret2
  exact ⟨rfl,hE.workOk (t:=⟨t.n,ar t.q c (t.q c++[(bS ids:Int)])⟩) ⟨hok.1,hok.2.1,hx⟩ rfl rfl hI2 hO⟩
/-- Drop: one that is in a list. -/
def cu.drop (t:cu) (c:Nat) (id:Int):cu:=⟨t.n,ar t.q c ((t.q c).erase id)⟩
theorem EW (h:(fJ b t).holds F w) (id:Int) {c:Nat} (hc:c<t.n+1) (hmem:id∈t.q c):Calls tp 259 #[vp (sS ⟨b,0,nN⟩),vi iQ id] w (aq (fJ b (t.drop c id)) F (vi iQ 0) w):=by
 obtain ⟨hok,tb,wb,cnt,ids,g,cap,D,hI,hA⟩:=iO h
 have hs:fh 32 ids:=by obtain ⟨F1,h1,_⟩:=hA.get 1 rfl;exact h1
 have hWh:=tU hA id
 have hwr:dJ (t.n+1) t.q id=sS c:=(iR hok.2.2).2 ⟨hc,hmem⟩
 have hf:zQ (t.n+1) t.q id=sS ((c:Int) - 1):=by unfold zQ;rw [hwr]
 rw [hf] at hWh
 simp only [Option.getD_some,Option.isSome_some] at hWh
 have hnn:t.n+1 <= 65:=by have:=hok.2.1;omega
 obtain ⟨hx,hw2⟩:=zF hok.2.2 hc (List.perm_cons_erase hmem)
 have hb:=hok.2.2.bd c _ hc hmem
 obtain ⟨m,rfl⟩:=iN (show 0 <= id by omega)
 have hmi:m∈ids:=(hI m).2 (gX.2 ⟨c,hc,hmem⟩)
 have hI2:=BI hs.nodup hI hw2
 have hO:=Im hw2
 have hde:ux (t.q c) m=0:=pG hmem
 obtain ⟨k0,k1,kw,k2,k3⟩:=hA.wkC
 have hdel:=λk=>(hA.keep (u':=w.drewN k) (mR.drewN k)).wkDel m
 have HM:=zh (And.intro hI2 (And.intro hx hO))
 generalize hcl:(c:Int) - 1=cpu at *
 have HC:=zh hcl.symm
 clear hcl
 clear h hA hs hwr hf hI2 hx hw2 hO
 go_in
 go_wp2_with (first
  | (
   go_at_call 285
   refine hWh.r λk=>?_
   obtain ⟨w1,cnt1,hrun,hB⟩:=hdel k
   obtain ⟨c0,c1,_,_⟩:=hB.wkC
   have hG:=hB.call (P:=tp) (f:=256) 1 rfl (λF1 h1=>nh _ _ _ _ _ h1 m hmi)
   clear hdel hB hWh
   )
  | (at_builtin;rw [hrun])
  | (
   go_at_call 256
   refine hG.s λw2 hC=>?_
   have hC:On F w (fl b tb wb cnt1 (ids.erase m) (eu (zQ (t.n+1) t.q) m) g cap D (t.n+1) t.q) w2:=hC
   obtain ⟨gb,rfl,dp⟩:=hC.wkPtr hc
   obtain ⟨f0,f1,f2,_,_⟩:=hC.wkC
   simp only [rA] at f1
   have hli:=iP f1 dp hc hnn cpu HC.out
   have hP:=λk=>(hC.keep (u':=w2.drewN k) (mR.drewN k)).wkDo (P:=tp) (fn:=305) hc (λF1 hF=>yu hF m)
   rw [hde] at hP
   clear hC hG
   )
  | (go_at_call 133;refine hli.r λk2=>?_)
  | (go_at_call 305;refine (hP _).s λw4 hE=>?_))
 go_ret
 exact ⟨rfl,hE.workOk (t:=t.drop c m) ⟨hok.1,hok.2.1,HM.out.2.1⟩ rfl rfl HM.out.1 HM.out.2.2⟩
end
section
variable {F:List Nat} {w u:wW} {b tb wb cnt:Nat} {ids:List Nat} {f:Int -> Option Int} {g:Option Nat} {cap:Nat} {D:Nat -> Nat} {n:Nat} {q:Nat -> List Int} {t:cu}
theorem EU (h:(fJ b t).holds F w) (cpu:Int):Calls tp 187 #[vp (sS ⟨b,0,nN⟩),vi iQ cpu] w (aq (fJ b (t.take cpu)) F (.tuple #[vi iQ (t.takeV cpu),vi iQ (t.takeE cpu)]) w):=by
 obtain ⟨hok,tb,wb,cnt,ids,g,cap,D,hI,hA⟩:=iO h
 have hW:=On.one h
 have hm:=oI hA.wkC.2.1 hok.2.1 cpu 0
 by_cases hi:t.is cpu 0
 case neg=>
  have e:t.takeE cpu=3:=pG hi
  rw [show t.take cpu=t from nG (by rw [e];decide),show t.takeV cpu=0 from nG (by rw [e];decide),e]
  rw [nG (show ¬ (0 <= cpu /\ cpu<t.n) from hi)] at hm
  have H:=zh (λk=>(hW.keep (u':=w.drewN k) (mR.drewN k)).gain1)
  clear hA h hi e hW
  go_in
  go_wp2_with (go_at_call 131;refine hm.r λk=>?_)
  go_ret2
  exact ⟨rfl,H.out _⟩
 rw [pG (show 0 <= cpu /\ cpu<t.n from hi)] at hm
 have hE0:t.takeE cpu=if t.q (t.from_ cpu)=[] then 12 else 0:=by unfold cu.takeE;rw [nG (λx=>x hi)]
 obtain ⟨h1,h2⟩:=hi
 obtain ⟨c,hcp⟩:=iN (show 0 <= cpu+1 by omega)
 have hc:c<t.n+1:=by omega
 have hnn:t.n+1 <= 65:=by have:=hok.2.1;omega
 have hcl:cpu=(c:Int) - 1:=by omega
 obtain ⟨gb,rfl,kp⟩:=hA.wkPtr hc
 have hat:t.at cpu=t.q c:=by unfold cu.at;rw [hcp];rfl
 have hfr:t.from_ cpu=if t.q c=[] then 0 else c:=by unfold cu.from_;rw [hat,hcp];rfl
 rw [hfr] at hE0
 have key:∀ d,(d=c /\ t.q c≠[] \/ t.q c=[] /\ d=0 /\ t.q 0≠[]) -> t.take cpu=t.drop d (ax (t.q d) 0) /\ t.takeV cpu=ax (t.q d) 0 /\ t.takeE cpu=0:=by
  intro d hd
  have hd2:(if t.q c=[] then 0 else c)=d /\ t.q d≠[]:=by
   rcases hd with ⟨rfl,h5⟩|⟨h5,rfl,h6⟩
   ·rw [nG h5];exact ⟨rfl,h5⟩
   ·rw [pG h5];exact ⟨rfl,h6⟩
  rw [hd2.1,nG hd2.2] at hE0
  refine ⟨?_,?_,hE0⟩
  ·unfold cu.take
   rw [pG hE0,hfr,hd2.1]
   unfold cu.drop cu.putQ
   have:(t.q d).erase (ax (t.q d) 0)=(t.q d).tail:=by
    cases hl:t.q d with
    | nil=>exact absurd hl hd2.2
    | cons a l=>simp [ax]
   rw [this]
  ·unfold cu.takeV;rw [pG hE0,hfr,hd2.1]
 have key0:t.q c=[] -> t.q 0=[] -> t.take cpu=t /\ t.takeV cpu=0 /\ t.takeE cpu=12:=by
  intro h5 h6
  rw [pG h5,pG h6] at hE0
  exact ⟨nG (by rw [hE0];decide),nG (by rw [hE0];decide),hE0⟩
 have HC:=zh hcl
 have hN0:0<t.n+1:=by omega
 generalize hN:t.n+1=N at *
 generalize t.takeE cpu=tE at *
 generalize t.takeV cpu=tV at *
 generalize t.take cpu=tT at *
 have HK:=zh key
 have HK0:=zh key0
 clear hcl hcp hat hfr hE0 key key0 kp
 try simp only [rA] at hm
 go_in
 go_wp2_with (go_at_call 131;refine hm.r λk=>?_)
 have hM:af [] w ((w.drewN k).alloc (.cells #[vi iQ cpu,vi iQ (-1)] 3 (0,0))):=((af.refl [] w).drewN k).alloc _
 have hc0:=ad (ai (w.drewN k) (.cells #[vi iQ cpu,vi iQ (-1)] 3 (0,0))) 0
 have hc1:=ad (ai (w.drewN k) (.cells #[vi iQ cpu,vi iQ (-1)] 3 (0,0))) 1
 rw [World.heap_drewN] at hc0 hc1
 generalize hwA:(w.drewN k).alloc (.cells #[vi iQ cpu,vi iQ (-1)] 3 (0,0))=wA at *
 go_loopg [20] 2 (λgg i wr=>∃ j:Nat,i=vi iQ j /\ j+gg=2 /\ (1 <= j -> t.q c=[]) /\ (2 <= j -> t.q 0=[]) /\ aG wA wr)
 case atStart=>exact ⟨0,rfl,by omega,by omega,by omega,aG.refl _⟩
 case round=>
  obtain ⟨j,rfl,hj,hj1,hj2,hD⟩:=hrel
  have hM2:=hM.trans (hD.mod (S:=[])) sM
  have hA2:=hA.keep hM2
  by_cases hlt:j<2
  ·have hltI:(j:Int)<2:=by omega
   have hx:∃ (x:Int) (d:Nat),d<N /\ x=(d:Int) - 1 /\ wr.cell? ⟨w.heap.size,j,nN⟩=sS (vi iQ x) /\ (t.q d≠[] -> d=c /\ t.q c≠[] \/ t.q c=[] /\ d=0 /\ t.q 0≠[]) /\ (t.q d=[] -> (1 <= j+1 -> t.q c=[]) /\ (2 <= j+1 -> t.q 0=[])):=by
    by_cases e:j=0
    ·subst e
     exact ⟨cpu,c,hc,HC.out,(hD.mod (S:=[])).at hc0 sM,λh=>.inl ⟨rfl,h⟩,λh=>⟨λ_=>h,by omega⟩⟩
    ·obtain rfl:j=1:=by omega
     exact ⟨-1,0,hN0,rfl,(hD.mod (S:=[])).at hc1 sM,λh=>.inr ⟨hj1 oM,rfl,h⟩,λh=>⟨λ_=>hj1 oM,λ_=>h⟩⟩
   obtain ⟨x,d,hd,hxd,cj,hk1,hk2⟩:=hx
   obtain ⟨gb2,e2,dp⟩:=hA2.wkPtr hd
   cases e2
   obtain ⟨f0,f1,f2,_,_⟩:=hA2.wkC
   simp only [rA] at f1
   have hli:=iP f1 dp hd hnn x hxd
   have hF:=λk=>oB ((hA2.keep (u':=wr.drewN k) (mR.drewN k)).wkHas hd).choose_spec
   clear hxd hc0 hc1 hj1 hj2 hA
   by_cases hq:t.q d=[]
   ·rw [hq] at hF
    simp only [show cA []=0 from rfl,show ea []=12 from rfl] at hF
    obtain ⟨k2a,k2b⟩:=hk2 hq
    have K2:=zh (And.intro k2a k2b)
    clear hk1 hk2 hq hA2 k2a k2b
    go_wp2_with (first
     | (go_at_call 133;refine hli.r λk5=>?_)
     | (go_at_call 258;refine (hF _).r λk6=>?_))
    go_roundg (gk - 1)
    case measure=>omega
    case rel=>exact ⟨j+1,by go_num,by omega,K2.out.1,K2.out.2,by repeat (first|exact hD|apply aG.drewN|apply aG.drew)⟩
   ·obtain ⟨e1,e2,e3⟩:=HK.out d (hk1 hq)
    subst e1 e2 e3
    have hperm:=ny hq
    have hmem:ax (t.q d) 0∈t.q d:=hperm.mem_iff.2 List.mem_cons_self
    rw [show cA (t.q d)=ax (t.q d) 0 from rfl,show ea (t.q d)=0 from nG hq] at hF
    have hDr:=λ(u':wW) (m:af [] wr u')=>((hW.keep (hM2.trans m sM)).call (P:=tp) (f:=259) 0 rfl (λF1 h1=>EW h1 (ax (t.q d) 0) (by rw [hN];exact hd) hmem))
    generalize ax (t.q d) 0=id at *
    clear hk1 hk2 hq hA2 HK HK0 hperm hW
    go_wp2_with (first
     | (go_at_call 133;refine hli.r λk5=>?_)
     | (go_at_call 258;refine (hF _).r λk6=>?_)
     | (go_at_call 259;refine (hDr _ (by first|exact (mR.drewN _)|exact (mR.drewN _).drewN _)).s λw' hE=>?_))
    go_ret2
    exact ⟨rfl,hE.gain1⟩
  ·obtain rfl:j=2:=by omega
   obtain ⟨e1,e2,e3⟩:=HK0.out (hj1 oM) (hj2 oM)
   subst e1 e2 e3
   have HG:=zh (hW.keep hM2).gain1
   clear HK HK0 hW hA hA2 hj1 hj2
   go_wp2
   go_ret2
   exact ⟨rfl,HG.out⟩
end
section
variable {F:List Nat} {w u:wW} {b tb wb cnt:Nat} {ids:List Nat} {f:Int -> Option Int} {g:Option Nat} {cap:Nat} {D:Nat -> Nat} {n:Nat} {q:Nat -> List Int} {t:cu}
theorem zO (h:(fJ b t).holds F w) (cpu:Int):Calls tp 299 #[vp (sS ⟨b,0,nN⟩),vi iQ cpu] w (aq (fJ b (t.unbind cpu)) F (.tuple #[vi iQ (t.unbindV cpu),vi iQ (t.unbindE cpu)]) w):=by
 obtain ⟨hok,tb,wb,cnt,ids,g,cap,D,hI,hA⟩:=iO h
 have hm:=oI hA.wkC.2.1 hok.2.1 cpu 0
 have hB:=λk=>hA.keep (u':=w.drewN k) (mR.drewN k)
 have H:=zh (λk=>(hB k).workOk hok rfl rfl hI rfl)
 by_cases hi:t.is cpu 0
 case neg=>
  have e:t.unbindE cpu=3:=pG hi
  rw [show t.unbind cpu=t from nG (by rw [e];decide),show t.unbindV cpu=0 from nG (by rw [e];decide),e]
  rw [nG (show ¬ (0 <= cpu /\ cpu<t.n) from hi)] at hm
  clear hA h hi e hB
  go_in
  go_wp2_with (go_at_call 131;refine hm.r λk=>?_)
  go_ret2
  exact ⟨rfl,H.out _⟩
 rw [pG (show 0 <= cpu /\ cpu<t.n from hi)] at hm
 have hE0:t.unbindE cpu=if t.at cpu=[] then 12 else 0:=by unfold cu.unbindE;rw [nG (λx=>x hi)]
 obtain ⟨h1,h2⟩:=hi
 obtain ⟨c,hcp⟩:=iN (show 0 <= cpu+1 by omega)
 have hc:c<t.n+1:=by omega
 have hc0:c≠0:=by omega
 have h0n:0<t.n+1:=by omega
 have hnn:t.n+1 <= 65:=by have:=hok.2.1;omega
 have hcl:cpu=(c:Int) - 1:=by omega
 obtain ⟨gb,rfl,kp⟩:=hA.wkPtr hc
 obtain ⟨k0,k1,kw,_,_⟩:=hA.wkC
 have hat:t.at cpu=t.q c:=by unfold cu.at;rw [hcp];rfl
 rw [hat] at hE0
 simp only [rA] at hm k1
 have hl:=λk=>iP (qw k1 k) (qw kp k) hc hnn cpu hcl
 have hP:=λk=>(hB k).wkDo (P:=tp) (fn:=255) hc (λF1 hF=>qk hF)
 by_cases hq:t.q c=[]
 ·rw [pG hq] at hE0
  rw [show t.unbind cpu=t from nG (by rw [hE0];decide),show t.unbindV cpu=0 from nG (by rw [hE0];decide),hE0]
  have e1:ar t.q c (t.q c).tail=t.q:=by
   funext i
   by_cases e:i=c
   ·subst e;rw [ah,hq];rfl
   ·rw [al _ _ e]
  rw [e1,show cA (t.q c)=0 by rw [hq];rfl,show ea (t.q c)=12 from pG hq] at hP
  clear h hA hB e1 hE0 hq hat hcp hcl
  go_in
  go_wp2_with (first
   | (go_at_call 131;refine hm.r λk=>?_)
   | (go_at_call 133;refine (hl _).r λk2=>?_)
   | (go_at_call 255;(try rw [World.drewN_drewN]);refine (hP _).s λw2 hC=>?_;have HC:=zh hC;clear hC hP))
  go_ret2
  exact ⟨rfl,HC.out.workOk hok rfl rfl hI rfl⟩
 ·rw [nG hq] at hE0
  have eM:t.unbind cpu=⟨t.n,ar (ar t.q c (t.q c).tail) 0 (t.q 0++[ax (t.q c) 0])⟩:=by unfold cu.unbind;rw [pG hE0,hat,hcp];rfl
  have eV:t.unbindV cpu=ax (t.q c) 0:=by unfold cu.unbindV;rw [pG hE0,hat]
  rw [eM,eV,hE0]
  rw [show cA (t.q c)=ax (t.q c) 0 from rfl,show ea (t.q c)=0 from nG hq] at hP
  have hperm:=ny hq
  obtain ⟨hx,hw2⟩:=zF hok.2.2 hc hperm
  have hmem:ax (t.q c) 0∈t.q c:=hperm.mem_iff.2 List.mem_cons_self
  have hb:=hok.2.2.bd c _ hc hmem
  have hwn:dJ (t.n+1) (ar t.q c (t.q c).tail) (ax (t.q c) 0)=none:=by rw [hw2,pG rfl]
  obtain ⟨hx3,hw3,hlen⟩:=tL hx hwn hb.1 hb.2 h0n
  have hgd:ar t.q c (t.q c).tail 0=t.q 0:=al _ _ (Ne.symm hc0)
  rw [hgd] at hx3 hw3 hlen
  have hpe:dq 32 (t.q 0) (ax (t.q c) 0)=0:=by
   have:=ep.1 hwn 0 h0n
   rw [hgd] at this
   unfold dq;rw [nG this,nG oM]
  have hps:lR 32 (t.q 0) (ax (t.q c) 0)=t.q 0++[ax (t.q c) 0]:=pG hpe
  have hw4:∀ j,dJ (t.n+1) (ar (ar t.q c (t.q c).tail) 0 (t.q 0++[ax (t.q c) 0])) j=if j=ax (t.q c) 0 then sS 0 else dJ (t.n+1) t.q j:=by
   intro j
   rw [hw3,hw2]
   by_cases e:j=ax (t.q c) 0
   ·rw [pG e,pG e]
   ·rw [nG e,nG e,nG e]
  have hI2:lQ ids (t.n+1) (ar (ar t.q c (t.q c).tail) 0 (t.q 0++[ax (t.q c) 0])):=yi hI (λj=>by
   rw [hw4]
   by_cases e:j=ax (t.q c) 0
   ·rw [pG e,e,gX.2 ⟨c,hc,hmem⟩];rfl
   ·rw [nG e])
  have hO:=zP hw4
  have HM:=zh (And.intro hI2 (And.intro hx3 hO))
  generalize ax (t.q c) 0=x at *
  clear h hA hE0 hq hperm hw2 hmem hb hI2 hx3 hx hwn hw3 hlen eM eV hcp hcl hat hw4 hO hB
  go_in
  go_wp2_with (first
   | (go_at_call 131;refine hm.r λk=>?_)
   | (go_at_call 133;refine (hl _).r λk2=>?_;clear hl)
   | (
    go_at_call 255
    (try rw [World.drewN_drewN])
    refine (hP _).s λw2 hC=>?_
    obtain ⟨d0,d1,d2,_,_⟩:=hC.wkC
    obtain ⟨w3,cnt3,hput,hD⟩:=hC.wkPut x (-1)
    obtain ⟨f0,f1,f2,_,_⟩:=hD.wkC
    obtain ⟨gb2,e2,dp⟩:=hD.wkPtr h0n
    cases e2
    simp only [rA] at f1
    have hli:=iP f1 dp h0n hnn (-1) rfl
    have hG:=λk=>(hD.keep (u':=w3.drewN k) (mR.drewN k)).wkDo (P:=tp) (fn:=134) (L:=t.q 0++[x]) (v:=vi iQ 0) h0n (λF1 hF=>by rw [hgd] at hF;have:=iX hF x;rwa [hpe,hps] at this)
    clear hC hP hD kp k1 k0 kw
    )
   | (go_at_call 133;refine hli.r λk3=>?_)
   | (go_at_call 134;refine (hG _).s λw4 hE=>?_))
  go_ret2
  exact ⟨rfl,hE.workOk (t:=⟨t.n,ar (ar t.q c (t.q c).tail) 0 (t.q 0++[x])⟩) ⟨hok.1,hok.2.1,HM.out.2.1⟩ rfl rfl HM.out.1 HM.out.2.2⟩
end
def wk0 (n:Nat):cu:=⟨n,λ_=>[]⟩
theorem wkI0 (N:Nat):zQ N (λ_=>[])=λ_=>none:=by
 funext id
 unfold zQ
 have:dJ N (λ_=>[]) id=none:=ep.2 (λc _ h=>by cases h)
 rw [this]
theorem Ij (n:Nat) (h1:1 <= n) (h2:n <= 64) (w:wW):Calls tp 54 #[vi iQ n] w (dd (λd:Nat=>.tuple #[vp (sS ⟨d,0,nN⟩),vi iQ 0]) (λd=>fJ d (wk0 n)) [] w):=by
 have hS:=(On.start w).make (oP 32 oM oM w)
 have hmk:=λw=>run_makeMap (P:=tp) 82 w
 go_in
 go_wp2_with (first
  | (
   go_at_call 91
   refine hS.mono ?_
   rintro e w1 ⟨tb,rfl,hA⟩
   have hB:On [] w (fl (w1.heap.size+1) tb w1.heap.size 0 [] (λ_=>nN) nN 0 (λ_=>0) 0 (λ_=>[])) ((w1.alloc (.map #[] 0)).alloc (.cells #[vp (sS ⟨tb,0,nN⟩),.slice nN 0 0,.map (sS w1.heap.size)] 186 (0,0))):=by
    have x2:=(hA.fmNew.alloc (.cells #[vp (sS ⟨tb,0,nN⟩),.slice nN 0 0,.map (sS w1.heap.size)] 186 (0,0))).front
    rw [cH] at x2
    have x3:=x2.more (P:=ml 187 1 nN 0 0 []) ⟨rfl,nH.nil _ _ _⟩
    exact x3
   have HB:=zh hB
   clear hB hA hS
   )
  )
 generalize hd:w1.heap.size+1=d at *
 generalize hmb:w1.heap.size=mb at *
 go_loopg [28] (n+1) (λgg i wr=>∃ (j:Nat) (g:Option Nat) (cap:Nat) (D:Nat -> Nat),i=vi iQ j /\ j+gg=n+1 /\ On [] w (fl d tb mb 0 [] (λ_=>nN) g cap D j (λ_=>[])) wr)
 case atStart=>exact ⟨0,nN,0,λ_=>0,rfl,by omega,HB.out⟩
 case round=>
  clear HB
  obtain ⟨j,g,cap,D,rfl,hj,hB⟩:=hrel
  by_cases hlt:j<n+1
  ·have hltI:(j:Int)<n+1:=by omega
   have hN:=hB.make (vR 32 oM oM wr)
   go_wp2_with (first
    | (
     go_at_call 94
     refine hN.mono ?_
     rintro e w2 ⟨x,rfl,hC⟩
     have c1:=hC.cell 0 rfl 1
     have hC2:=hC.keep (u':=w2.alloc (.cells #[vp (sS ⟨x,0,nN⟩)] 187 (0,0))) (mR.alloc _)
     unfold fl at hC2
     rw [List.append_nil] at hC2
     obtain ⟨g',cap',w3,hrun,hD⟩:=hC2.famMore (P:=tp) (tt:=184) (bytes:=8) Tryz.underlying184 JF oM oM (b:=w2.heap.size) (d:=x) (ai _ _)
     have c3:=hD.cell 0 rfl 1
     have f3:=hD.free 0 rfl 1
     have z3:=hD.size 0 rfl
     have HD:=zh hD
     clear hC hC2 hN hB hD
     )
    | (
     at_builtin
     refine aX rfl _ _ _ rfl rfl rfl (hrun _) ?_
     )
    )
   have hE:=HD.out.set 0 rfl 1 (.slice (sS ⟨g',0,nN⟩) (j+1) cap')
   go_roundg (gk - 1)
   case measure=>omega
   case rel=>
    refine ⟨j+1,sS g',cap',ar D j x,by go_num,by omega,?_⟩
    have e:ar (λc=>aV (D c) 32 []) j (aV x 32 [])=λi=>aV (ar D j x i) 32 []:=by
     funext i
     by_cases e:i=j
     ·subst e;rw [ah,ah]
     ·rw [al _ _ e,al _ _ e]
    rw [e] at hE
    unfold fl
    rw [List.append_nil]
    exact hE
  ·have hltI:¬ (j:Int)<n+1:=by omega
   obtain rfl:j=n+1:=by omega
   have HB:=zh hB
   clear hB
   go_wp2
   go_ret2
   refine ⟨d,rfl,?_⟩
   exact HB.out.workOk (t:=wk0 n) ⟨h1,h2,Nb _⟩ rfl rfl (Mc _) (wkI0 _).symm
structure KP where
 ow:Nat
 th:Nat
 rq:Nat
 tm:Nat
 iq:Nat
 rt:Nat
 wk:Nat
 cb:Nat
 ob:Nat
 ct:Nat
 gt:Nat
 co:Nat
 mt:Nat
 sp:Nat
 dk:Nat
 cnt:Nat
 g:Option Nat
 cap:Nat
 D:Nat -> Nat
def qG (b:Nat):Value:=vp (sS ⟨b,0,nN⟩)
def rM (p:KP) (k:KT):Array Value:=#[qG p.th,qG p.rq,qG p.tm,qG p.iq,qG p.rt,qG p.wk,qG p.cb,qG p.ob,qG p.ct,qG p.gt,qG p.sp,qG p.dk,qG p.co,qG p.mt,.slice (rA p.g) k.n p.cap,vi iQ k.n,vi uQ (k.online:Nat),vi uQ (k.active:Nat),vi iQ k.now,vi iQ k.limit,.map (sS p.ow)]
def ag (b:Nat) (p:KP) (k:KT):List ao:=
 [ao.blk b (.cells (rM p k) 87 (0,0)),dR p.ow p.cnt (eY k.own),bU p.th k.th,dX p.rq k.rq,bl p.tm k.tm,gi p.iq k.iq,gy p.rt k.rt,fJ p.wk k.wk,ju p.cb k.cb,fK p.ob k.ob,lf p.ct k.ct,jM p.gt k.gt,eh p.co k.co,Ky p.mt k.mt,fu p.sp k.sp,ey p.dk k.dk]
  ++ jW 55 p.g p.cap k.n p.D (λc=>fW (p.D c) (k.gv c))++[]
structure KT.ok (k:KT):Prop where
 n1:1 <= k.n
 n2:k.n <= 64
 th:k.th.n=k.n
 rq:k.rq.n=k.n
 tm:k.tm.n=k.n
 wk:k.wk.n=k.n
 cb:k.cb.n=k.n
 ob:k.ob.n=k.n
 ct:k.ct.length=k.n
 gt:k.gt.l.length=k.n
 co:k.co.n=k.n
 mt:k.mt.n=k.n
 rt:k.rt.n=k.n
 iq:k.iq.cpus=bs k.n
 on:k.online<2 ^ 64
 ac:k.active<2 ^ 64
 now:0 <= k.now /\ k.now <= 1152921504606846976
 lim:0 <= k.limit /\ k.limit <= 1073741824
def aa (b:Nat) (k:KT):ao:=ao.such k.ok (ao.ex λp:KP=>ao.star (ag b p k))
section
variable {F:List Nat} {w u:wW} {b:Nat} {p:KP} {k:KT}
theorem ab (h:(aa b k).holds F w):k.ok /\ ∃ p,On F w (ag b p k) w:=by
 obtain ⟨h1,p,h2⟩:=h
 exact ⟨h1,p,On.of h2⟩
theorem On.kernel (h:On F w (ag b p k) u) (hok:k.ok):dN (aa b k) F w u:=h.gains.imp λF' h'=>⟨hok,p,h'⟩
theorem On.kC (h:On F w (ag b p k) u) (o:Nat):u.cell? ⟨b,o,nN⟩=(rM p k)[o]?:=h.cell 0 rfl o
theorem On.kF (h:On F w (ag b p k) u) (o:Nat):u.frozen? ⟨b,o,nN⟩=fF:=h.free 0 rfl o
end
theorem Lc (v:Value) (e:Value) (w:wW):Calls tp 43 #[v,e] w (λe w'=>e=.returned v /\ w'=w):=by
 go_in
 go_wp2
 go_ret
 exact ⟨rfl,rfl⟩
theorem Le (v:Value) (e:Value) (w:wW):Calls tp 45 #[v,e] w (λe w'=>e=.returned v /\ w'=w):=by
 go_in
 go_wp2
 go_ret
 exact ⟨rfl,rfl⟩
theorem Lb (v:Value) (e:Value) (w:wW):Calls tp 47 #[v,e] w (λe w'=>e=.returned v /\ w'=w):=by
 go_in
 go_wp2
 go_ret
 exact ⟨rfl,rfl⟩
theorem Lh (v:Value) (e:Value) (w:wW):Calls tp 49 #[v,e] w (λe w'=>e=.returned v /\ w'=w):=by
 go_in
 go_wp2
 go_ret
 exact ⟨rfl,rfl⟩
theorem Ld (v:Value) (e:Value) (w:wW):Calls tp 51 #[v,e] w (λe w'=>e=.returned v /\ w'=w):=by
 go_in
 go_wp2
 go_ret
 exact ⟨rfl,rfl⟩
theorem La (v:Value) (e:Value) (w:wW):Calls tp 53 #[v,e] w (λe w'=>e=.returned v /\ w'=w):=by
 go_in
 go_wp2
 go_ret
 exact ⟨rfl,rfl⟩
theorem Lm (v:Value) (e:Value) (w:wW):Calls tp 55 #[v,e] w (λe w'=>e=.returned v /\ w'=w):=by
 go_in
 go_wp2
 go_ret
 exact ⟨rfl,rfl⟩
theorem Lf (v:Value) (e:Value) (w:wW):Calls tp 57 #[v,e] w (λe w'=>e=.returned v /\ w'=w):=by
 go_in
 go_wp2
 go_ret
 exact ⟨rfl,rfl⟩
theorem Lk (v:Value) (e:Value) (w:wW):Calls tp 59 #[v,e] w (λe w'=>e=.returned v /\ w'=w):=by
 go_in
 go_wp2
 go_ret
 exact ⟨rfl,rfl⟩
theorem Lj (v:Value) (e:Value) (w:wW):Calls tp 61 #[v,e] w (λe w'=>e=.returned v /\ w'=w):=by
 go_in
 go_wp2
 go_ret
 exact ⟨rfl,rfl⟩
theorem Ll (v:Value) (e:Value) (w:wW):Calls tp 63 #[v,e] w (λe w'=>e=.returned v /\ w'=w):=by
 go_in
 go_wp2
 go_ret
 exact ⟨rfl,rfl⟩
theorem Lg (v:Value) (e:Value) (w:wW):Calls tp 65 #[v,e] w (λe w'=>e=.returned v /\ w'=w):=by
 go_in
 go_wp2
 go_ret
 exact ⟨rfl,rfl⟩
theorem Li (v:Value) (e:Value) (w:wW):Calls tp 67 #[v,e] w (λe w'=>e=.returned v /\ w'=w):=by
 go_in
 go_wp2
 go_ret
 exact ⟨rfl,rfl⟩
/-- 21 cells, in the making. -/
def kw (f:Nat -> Value):Array Value:=#[f 0,f 1,f 2,f 3,f 4,f 5,f 6,f 7,f 8,f 9,f 10,f 11,f 12,f 13,f 14,f 15,f 16,f 17,f 18,f 19,f 20]
theorem Mt (f:Nat -> Value) (i:Nat) (hi:i<21) (v:Value):(kw f).setIfInBounds i v=kw (ar f i v):=by
 have:i=0 \/ i=1 \/ i=2 \/ i=3 \/ i=4 \/ i=5 \/ i=6 \/ i=7 \/ i=8 \/ i=9 \/ i=10 \/ i=11 \/ i=12 \/ i=13 \/ i=14 \/ i=15 \/ i=16 \/ i=17 \/ i=18 \/ i=19 \/ i=20:=by omega
 rcases this with rfl|rfl|rfl|rfl|rfl|rfl|rfl|rfl|rfl|rfl|rfl|rfl|rfl|rfl|rfl|rfl|rfl|rfl|rfl|rfl|rfl<;>rfl
theorem Mu (f:Nat -> Value) (i:Nat) (hi:i<21):(kw f)[i]?=sS (f i):=by
 have:i=0 \/ i=1 \/ i=2 \/ i=3 \/ i=4 \/ i=5 \/ i=6 \/ i=7 \/ i=8 \/ i=9 \/ i=10 \/ i=11 \/ i=12 \/ i=13 \/ i=14 \/ i=15 \/ i=16 \/ i=17 \/ i=18 \/ i=19 \/ i=20:=by omega
 rcases this with rfl|rfl|rfl|rfl|rfl|rfl|rfl|rfl|rfl|rfl|rfl|rfl|rfl|rfl|rfl|rfl|rfl|rfl|rfl|rfl|rfl<;>rfl
section
variable {F:List Nat} {w u:wW} {b:Nat} {f:Nat -> Value} {l:List ao}
theorem On.wSet (h:On F w (ao.blk b (.cells (kw f) 87 (0,0)) :: l) u) (i:Nat) (hi:i<21) (v:Value):On F w (ao.blk b (.cells (kw (ar f i v)) 87 (0,0)) :: l) (u.setCell ⟨b,i,nN⟩ v):=by
 have:=h.set 0 rfl i v
 rwa [Mt f i hi] at this
theorem On.wCell (h:On F w (ao.blk b (.cells (kw f) 87 (0,0)) :: l) u) (i:Nat) (hi:i<21):u.cell? ⟨b,i,nN⟩=sS (f i):=by rw [h.cell 0 rfl i,Mu f i hi]
theorem On.wFree (h:On F w (ao.blk b (.cells (kw f) 87 (0,0)) :: l) u) (i:Nat):u.frozen? ⟨b,i,nN⟩=fF:=h.free 0 rfl i
end
def GX:dM:=LI 100 1000
theorem MB:(tp.info? 55).map (λi=>(i.zero,i.size,i.bytes))=sS (sS (vp nN),1,8):=by kernel_rfl
def k0 (n:Nat):KT:=⟨n,Mh n,MQ n,Nw n,it0 n,rt0 n,wk0 n,cb0 n,st0 n,List.replicate n 0,⟨List.replicate n 0,0⟩,⟨0,0⟩,sh0,MU n,Nd n,λ_=>GX,bs n,bs n,0,1073741824,λ_=>nN⟩
theorem Ni {n:Nat} (h1:1 <= n) (h2:n <= 64):(k0 n).ok:=by
 refine ⟨h1,h2,rfl,rfl,rfl,rfl,rfl,rfl,?_,?_,rfl,rfl,rfl,?_,iZ _,iZ _,?_,?_⟩
 ·simp [k0]
 ·simp [k0]
 ·rfl
 ·simp [k0]
 ·simp [k0]
def Na (r:dS):List Value:=[vi iQ r.kind,vi iQ r.cpu,vi iQ r.id,vi iQ r.n,vi iQ r.why]
/-- A new slice of records. -/
def gW (l:List dS) (w:wW) (e:Ending) (w':wW):Prop:=∃ a c,e=.returned (.slice a l.length c) /\ af [] w w' /\ (l=[] /\ a=nN /\ c=0 \/ c=l.length /\ ∃ g,a=sS ⟨g,0,nN⟩ /\ w.heap.size <= g /\ w'.heap[g]?=sS (.cells (db [] l.length (λi=>Na (l.getD i ⟨0,0,0,0,0⟩)) []) 37 (0,0)))
theorem bB (id why:Int) (w:wW):Calls tp 73 #[vi iQ id,vi iQ why] w (gW (aW id why) w):=by
 unfold aW
 by_cases h:why=0
 ·subst h
  rw [pG rfl]
  go_in
  go_wp2
  go_ret
  exact ⟨_,1,rfl,mR.alloc _,.inr ⟨rfl,_,rfl,Nat.le_refl _,ai _ _⟩⟩
 ·rw [nG h]
  have hI:(why==0)=fF:=by simpa using h
  have hI2:(why != 0)=tQ:=by simpa using h
  go_in
  go_wp2
  go_ret
  exact ⟨_,1,rfl,mR.alloc _,.inr ⟨rfl,_,rfl,Nat.le_refl _,ai _ _⟩⟩
theorem aJ (why:Int) (w:wW):Calls tp 70 #[vi iQ why] w (gW (aW 0 why) w):=by
 have hA:=λw=>bB 0 why w
 go_in
 go_wp2_with (go_at_call 73;refine (hA _).mono ?_;rintro e w' ⟨a,c,rfl,h⟩)
 go_ret
 exact ⟨a,c,rfl,h⟩
section
variable {F:List Nat} {w u:wW} {b:Nat} {p:KP} {k:KT} {l:List ao}
/-- A call that only reads what lies at k. -/
theorem On.tells {P:Program} {f:FuncId} {args:Array Value} {v:Value} {F0:List Nat} {w0 u:wW} {l:List ao} {R:ao} (h:On F0 w0 l u) (k:Nat) (hk:l[k]?=sS R) (hc:∀ F,R.holds F u -> Calls P f args u (λe u'=>e=.returned v /\ af [] u u')):
  Calls P f args u (λe u'=>e=.returned v /\ On F0 w0 l u' /\ af [] u u'):=by
 obtain ⟨F,h1⟩:=h.get k hk
 refine (hc F h1).s λu' m=>?_
 exact ⟨rfl,h.keep m,m⟩
theorem On.tab (h:On F w l u) (hT:bK w) (hF:tzL_ren.g 1∉F):bK u:=hT.keep h.mod hF
theorem On.callU {P:Program} {f:FuncId} {args:Array Value} {v:Value} {R R':ao} (h:On F w l u) (hT:bK w) (hF:tzL_ren.g 1∉F) (j:Nat) (hj:l[j]?=sS R) (hc:∀ F1,R.holds F1 u -> bK u -> tzL_ren.g 1∉F1 -> Calls P f args u (aq R' F1 v u)):
  Calls P f args u (λe u'=>e=.returned v /\ On F w (l.set j R') u'):=by
 obtain ⟨F1,h1,h2,h3⟩:=h.gain (P':=R') j hj
 have ht:=hT.lt
 refine (hc F1 h1 (hT.keep h.mod hF) (λhb=>?_)).mono ?_
 ·rcases h2 _ hb with h|h
  ·exact hF h
  ·omega
 ·rintro e u' ⟨rfl,g⟩
  exact ⟨rfl,h3 g⟩
theorem dN.on {P:ao} (h:dN P F w u):On F w [P] u:=by
 obtain ⟨F',h1,h2,h3⟩:=h
 exact ⟨F',⟨F',[],by simp,h1,rfl,by simp⟩,h2,h3⟩
theorem uh {t:bT} (h:t.ok) (id:Int):(t.get id).mask<2 ^ 64:=by
 unfold bT.get
 cases hx:t.t id with
 | none=>decide
 | some x=>exact h.msk _ _ hx
theorem nw (h:On F w (ag b p k) u):k.th.ok:=by
 obtain ⟨F1,h1,_⟩:=h.get 2 rfl
 exact h1
theorem KT.ok.putT (h:k.ok) (id near:Int):(k.putT id near).ok:=by
 refine ⟨h.n1,h.n2,?_,?_,h.tm,h.wk,h.cb,h.ob,h.ct,h.gt,h.co,h.mt,h.rt,h.iq,h.on,h.ac,h.now,h.lim⟩
 ·show (k.th.place _ _ _).n=k.n
  unfold bT.place;split<;>exact h.th
 ·show (k.rq.put _ _ _).n=k.n
  unfold RQ.put;split<;>exact h.rq
theorem lH (h:(aa b k).holds F w) (hT:bK w) (hF:tzL_ren.g 1∉F) (id near:Int):Calls tp 109 #[vp (sS ⟨b,0,nN⟩),vi iQ id,vi iQ near] w (aq (aa b (k.putT id near)) F (.tuple #[]) w):=by
 obtain ⟨hok,p,hA⟩:=ab h
 have hok2:=hok.putT id near
 have c0:w.cell? ⟨b,0,nN⟩=sS (vp (sS ⟨p.th,0,nN⟩)):=hA.kC 0
 have hG:=hA.tells 2 rfl (λF1 h1=>ja h1 id)
 have hmk:=uh (nw hA) id
 have hch:=λw hT=>qz (k.th.get id).mask k.active hmk hok.ac near w hT
 have eT:k.putT id near={ k with th:=k.th.place id (cK (k.th.get id).mask k.active near) (jN (k.th.get id).mask k.active),rq:=k.rq.put (cK (k.th.get id).mask k.active near) (k.th.get id).prio id }:=rfl
 rw [eT] at hok2 ⊢
 clear eT h hA
 generalize k.th.get id=x at *
 obtain ⟨pr,mk,cp,fo,sl,ti⟩:=x
 simp only [mj] at *
 generalize cK mk k.active near=cv at *
 generalize qu mk k.active near=ce at *
 generalize jN mk k.active=cf at *
 have HO:=zh hok2
 clear hok2
 go_in
 go_wp2_with (
  go_at_call 110
  refine hG.mono ?_
  rintro e w1 ⟨rfl,hB,m1⟩
  have HX:=zh (hB.alloc (.cells #[vi iQ pr,vi uQ (mk:Nat),vi iQ cp,vb fo,vb sl,vi iQ ti] 226 (0,0))).front
  clear hB hG)
 generalize w1.alloc (.cells #[vi iQ pr,vi uQ (mk:Nat),vi iQ cp,vb fo,vb sl,vi iQ ti] 226 (0,0))=W at *
 generalize w1.heap.size=xb at *
 have x1:W.cell? ⟨xb,1,nN⟩=sS (vi uQ (mk:Nat)):=HX.out.cell 0 rfl 1
 have c17:W.cell? ⟨b,17,nN⟩=sS (vi uQ (k.active:Nat)):=HX.out.cell 1 rfl 17
 have hC:=λj=>hch (W.drewN j) ((HX.out.tab hT hF).drewN j)
 clear hch m1 c0
 go_region_held3 (λu=>u.cell? ⟨xb,1,nN⟩=sS (vi uQ (mk:Nat)) /\ u.cell? ⟨b,17,nN⟩=sS (vi uQ (k.active:Nat))) (exact ⟨by assumption,by assumption⟩) (first
  | (go_at_call 197;refine (hC _).r λk3=>?_))
 clear hC
 generalize hj:1+k3=j at *
 have hY:=HX.out.keep (u':=W.drewN j) (mR.drewN _)
 have c0:(W.drewN j).cell? ⟨b,0,nN⟩=sS (vp (sS ⟨p.th,0,nN⟩)):=hY.cell 1 rfl 0
 have hP:=hY.call (P:=tp) (f:=198) 3 rfl (λF1 h1=>oL h1 id cv cf)
 clear x1 c17 hY hj
 go_wp2_with (
  go_at_call 198
  refine hP.s λw3 hZ=>?_
  have hZ:On F w (ao.blk xb (.cells #[vi iQ pr,vi uQ (mk:Nat),vi iQ cp,vb fo,vb sl,vi iQ ti] 226 (0,0)) :: ag b p { k with th:=k.th.place id cv cf }) w3:=hZ
  have HZ:=zh hZ
  clear hZ hP)
 have x0:w3.cell? ⟨xb,0,nN⟩=sS (vi iQ pr):=HZ.out.cell 0 rfl 0
 have d1:w3.cell? ⟨b,1,nN⟩=sS (vp (sS ⟨p.rq,0,nN⟩)):=HZ.out.cell 1 rfl 1
 have hQ:=λj=>(HZ.out.keep (u':=w3.drewN j) (mR.drewN _)).call (P:=tp) (f:=199) 4 rfl (λF1 h1=>Ax h1 cv pr id)
 go_region_held3 (λu=>u.cell? ⟨xb,0,nN⟩=sS (vi iQ pr) /\ u.cell? ⟨b,1,nN⟩=sS (vp (sS ⟨p.rq,0,nN⟩))) (exact ⟨by assumption,by assumption⟩) (first
  | (
   go_at_call 199
   refine (hQ _).s λw4 hK=>?_
   have hK:On F w (ao.blk xb (.cells #[vi iQ pr,vi uQ (mk:Nat),vi iQ cp,vb fo,vb sl,vi iQ ti] 226 (0,0)) :: ag b p { k with th:=k.th.place id cv cf,rq:=k.rq.put cv pr id }) w4:=hK
   have x0:w4.cell? ⟨xb,0,nN⟩=sS (vi iQ pr):=hK.cell 0 rfl 0
   have d1:w4.cell? ⟨b,1,nN⟩=sS (vp (sS ⟨p.rq,0,nN⟩)):=hK.cell 1 rfl 1
   have HQ:=zh hK
   clear hK))
 go_wp2
 refine bodyPost_ret (results_none rfl _ _ _) rfl ?_
 exact ⟨rfl,(HQ.out.drop 0).kernel HO.out⟩
theorem KT.ok.spawned (h:k.ok) (q:Int) (m:Nat):KT.ok { k with th:=k.th.spawn q m }:=by
 refine ⟨h.n1,h.n2,?_,h.rq,h.tm,h.wk,h.cb,h.ob,h.ct,h.gt,h.co,h.mt,h.rt,h.iq,h.on,h.ac,h.now,h.lim⟩
 show (k.th.spawn _ _).n=k.n
 unfold bT.spawn;split<;>exact h.th
theorem pN (h:(aa b k).holds F w) (hT:bK w) (hF:tzL_ren.g 1∉F) (q:Int) (m:Nat) (hm:m<2 ^ 64):Calls tp 74 #[vp (sS ⟨b,0,nN⟩),vi iQ q,vi uQ (m:Nat)] w (aq (aa b (k.spawn q m)) F (.tuple #[vi iQ (k.th.spawnV q m),vi iQ (k.th.spawnE q m)]) w):=by
 obtain ⟨hok,p,hA⟩:=ab h
 have hok2:=hok.spawned q m
 have c0:w.cell? ⟨b,0,nN⟩=sS (vp (sS ⟨p.th,0,nN⟩)):=hA.kC 0
 have hS:=hA.callU (P:=tp) (f:=108) hT hF 2 rfl (λF1 h1 hT1 hF1=>yN h1 hT1 hF1 q m hm)
 by_cases hE:k.th.spawnE q m=0
 ·have eK:k.spawn q m=({ k with th:=k.th.spawn q m }:KT).putT (k.th.spawnV q m) (k.th.spawnV q m % k.n):=pG hE
  rw [eK,hE]
  rw [hE] at hS
  have hV:k.th.spawnV q m=k.th.low:=pG hE
  have hlo:=uO 32 (λi=>(k.th.t i).isSome)
  have hv:1 <= k.th.spawnV q m /\ k.th.spawnV q m <= 33:=by
   rw [hV];unfold bT.low;omega
  generalize k.th.spawnV q m=v at *
  have hn1:=hok.n1
  have hn2:=hok.n2
  have hnI:(0:Int)<k.n:=by omega
  have hmod:Int.tmod v k.n=v % k.n:=Int.tmod_eq_emod_of_nonneg oM
  have HK:=zh hok2
  have HM:=zh hmod
  have hk0:((k.n:Int)==0)=fF:=by simp;omega
  clear hA h eK hE hV hlo hok2 hmod
  go_in
  go_wp2_with (first
   | (
    go_at_call 108
    refine hS.s λw1 hB=>?_
    have hB:On F w (ag b p { k with th:=k.th.spawn q m }) w1:=hB
    have c15:w1.cell? ⟨b,15,nN⟩=sS (vi iQ k.n):=hB.kC 15
    have hP:=(hB.kernel HK.out).on.callU (P:=tp) (f:=109) hT hF 0 rfl (λF1 h1 hT1 hF1=>lH h1 hT1 hF1 v (v % k.n))
    clear hB hS
    )
   | (
    go_at_call 109
    first|rw [HM.out]|skip
    refine hP.s λw2 hC=>?_
    have HC:=zh hC
    clear hC hP
    ))
  go_ret2
  exact ⟨rfl,HC.out.gain1⟩
 ·have eK:k.spawn q m=k:=nG hE
  have hSp:k.th.spawn q m=k.th:=nG hE
  rw [eK]
  rw [hSp] at hS
  have hEb:(k.th.spawnE q m==0)=fF:=by simpa using hE
  generalize k.th.spawnE q m=ee at *
  generalize k.th.spawnV q m=v at *
  have HK:=zh hok
  clear hA h eK hE hok2 hSp
  go_in
  go_wp2_with (
    go_at_call 108
    refine hS.s λw1 hB=>?_
    have HB:=zh (show On F w (ag b p k) w1 from hB)
    clear hB hS)
  go_ret2
  exact ⟨rfl,HB.out.kernel HK.out⟩
end
theorem vP {l:List Int} {f:Int -> Bool} (h:∀ i,i<l.length -> f (ax l i)=fF):l.find? f=none:=by
 rw [List.find?_eq_none]
 intro x hx
 obtain ⟨i,hi,rfl⟩:=List.getElem_of_mem hx
 have:=h i hi
 simp only [ax,List.getD,hi,List.getElem?_eq_getElem,Option.getD_some] at this
 simp [this]
theorem zy {l:List Int} {f:Int -> Bool} {j:Nat} (hj:j<l.length) (h:∀ i,i<j -> f (ax l i)=fF) (hy:f (ax l j)=tQ):l.find? f=sS (ax l j):=by
 rw [List.find?_eq_some_iff_getElem]
 refine ⟨hy,j,hj,by simp [ax,List.getD,hj],λi hi=>?_⟩
 have:=h i hi
 simp only [ax,List.getD,Nat.lt_trans hi hj,List.getElem?_eq_getElem,Option.getD_some] at this
 simp [this]
/-- The place of the first one that is so; -1: there is none. -/
def ER (f:Int -> Bool) (l:List Int) (kk:Int):Prop:=kk=-1 /\ l.find? f=nN \/ ∃ j:Nat,j<l.length /\ kk=j /\ l.find? f=sS (ax l j)
theorem BG {F:List Nat} {w:wW} {q:Nat} {t:IT} (h:(gi q t).holds F w) (a:Option Addr) (cap:Nat) (l:List Int) (hI:bR w a l) (hlen:l.length<1000):Calls tp 240 #[.slice a l.length cap,.func (.func 241) #[vp (sS ⟨q,0,nN⟩)] #[]] w
  (λe w'=>∃ kk,e=.returned (vi iQ kk) /\ aG w w' /\ ER t.ready l kk):=by
 obtain ⟨n,hn⟩:∃ n,l.length=n:=⟨_,rfl⟩
 rw [hn] at hlen ⊢
 have hN:=zh hn
 clear hn
 go_in
 go_wp2
 go_loopg [8] n (λgg i wr=>∃ (j:Nat),i=vi iQ j /\ j+gg=n /\ aG w wr /\ ∀ i,i<j -> t.ready (ax l i)=fF)
 case atStart=>exact ⟨0,rfl,by omega,aG.refl _,λi hi=>by omega⟩
 case round=>
  obtain ⟨j,rfl,hj,hD,hlo⟩:=hrel
  by_cases hlt:j<n
  ·have hltI:(j:Int)<n:=by omega
   have hIr:=hI.same hD.heap
   obtain ⟨b,rfl,_,hc⟩:=hIr.resolve_left (λe=>by rw [e] at hN;have:=hN.out;simp at this;omega)
   have cj:=hc j (by rw [hN.out];exact hlt)
   have hR:=GN ((gi q t).keep h (hD.mod (S:=[])) sM) (ax l j)
   have hlo':=zh hlo
   clear hc hIr hI hlo
   cases hr:t.ready (ax l j)
   ·rw [hr] at hR
    have hr':=zh hr
    clear hr
    generalize hx:ax l j=x at *
    have hx':=zh hx
    clear hx h
    go_wp2_with (go_at_call 241;refine hR.r λk=>?_)
    go_roundg (gk - 1)
    case measure=>omega
    case rel=>
     refine ⟨j+1,by go_num,by omega,hD.drewN _,λi hi=>?_⟩
     by_cases e:i=j
     ·subst e;rw [hx'.out];exact hr'.out
     ·exact hlo'.out i oM
   ·rw [hr] at hR
    have hf:=zh (show ER t.ready l (j:Int) from .inr ⟨j,by rw [hN.out];exact hlt,rfl,zy (by rw [hN.out];exact hlt) hlo'.out hr⟩)
    clear hr
    generalize ax l j=x at *
    clear h
    go_wp2_with (go_at_call 241;refine hR.r λk=>?_)
    go_ret
    exact ⟨j,rfl,hD.drewN _,hf.out⟩
  ·have hltI:¬ (j:Int)<n:=by omega
   have hf:=zh (show ER t.ready l (-1) from .inl ⟨rfl,vP (l:=l) (f:=t.ready) (λi hi=>hlo i (by have:=hN.out;omega))⟩)
   clear hlo hI h
   go_wp2
   go_ret
   exact ⟨-1,rfl,hD,hf.out⟩
section
variable {F:List Nat} {w u:wW} {b:Nat} {p:KP} {k:KT}
theorem pH (hA:On F w (ag b p k) u) (cpu:Int):Calls tp 164 #[vp (sS ⟨b,0,nN⟩),vi iQ cpu] u (λe u'=>e=.returned (.tuple #[vi iQ ((k.waits cpu).getD 0),vb (k.waits cpu).isSome]) /\ af [] u u'):=by
 have c4:u.cell? ⟨b,4,nN⟩=sS (vp (sS ⟨p.rt,0,nN⟩)):=hA.kC 4
 have c3:u.cell? ⟨b,3,nN⟩=sS (vp (sS ⟨p.iq,0,nN⟩)):=hA.kC 3
 obtain ⟨F4,h4⟩:=hA.get 6 rfl
 obtain ⟨F3,h3⟩:=hA.get 5 rfl
 have hOn:=ur h4 cpu
 have hlen:=tG k.rt cpu 16
 have hw:k.waits cpu=(k.rt.onL cpu 16).find? k.iq.ready:=rfl
 rw [hw]
 generalize k.rt.onL cpu 16=l at *
 have hIx:=λu' (m:af [] u u') a cap (hI:bR u' a l)=>BG ((gi p.iq k.iq).keep h3 m sM) a cap l hI oM
 obtain ⟨n,hn⟩:∃ n,l.length=n:=⟨_,rfl⟩
 have hN:=zh hn
 rw [hn] at hIx
 clear hA h4 h3 hw hn hlen
 have key:∀ kk,ER k.iq.ready l kk -> (kk=-1 /\ l.find? k.iq.ready=nN) \/ ∃ j:Nat,j<n /\ kk=j /\ l.find? k.iq.ready=sS (ax l j):=λkk h=>by rw [<- hN.out];exact h
 cases hfi:l.find? k.iq.ready with
 | none=>
  rw [hfi] at key
  clear hfi
  go_in
  go_wp2_with (first
   | (
    go_at_call 90
    refine hOn.mono ?_
    intro e w2 hm2
    obtain ⟨a2,c2,e2,m2,i2,n2⟩:=hm2.newL
    rw [hN.out] at e2
    subst e2
    have d3:=m2.at c3 sM
    have hIx2:=hIx w2 m2 a2 c2 i2
    clear hIx hOn hm2)
   | (
    go_at_call 240
    refine hIx2.mono ?_
    rintro e w3 ⟨kk,rfl,hD,hk⟩
    have hk:=key kk hk
    clear key hIx2
    obtain rfl:kk=-1:=by
     rcases hk with ⟨h,_⟩|⟨j,_,_,h⟩
     ·exact h
     ·cases h
    clear hk i2
    ))
  go_ret2
  exact ⟨rfl,m2.trans (hD.mod (S:=[])) sM⟩
 | some v=>
  rw [hfi] at key
  clear hfi
  go_in
  go_wp2_with (first
   | (
    go_at_call 90
    refine hOn.mono ?_
    intro e w2 hm2
    obtain ⟨a2,c2,e2,m2,i2,n2⟩:=hm2.newL
    rw [hN.out] at e2
    subst e2
    have d3:=m2.at c3 sM
    have hIx2:=hIx w2 m2 a2 c2 i2
    clear hIx hOn hm2)
   | (
    go_at_call 240
    refine hIx2.mono ?_
    rintro e w3 ⟨kk,rfl,hD,hk⟩
    have hk:=key kk hk
    clear key hIx2
    obtain ⟨j,hj,rfl,hv⟩:∃ j:Nat,j<n /\ kk=j /\ v=ax l j:=by
     rcases hk with ⟨_,h⟩|⟨j,h1,h2,h⟩
     ·cases h
     ·exact ⟨j,h1,h2,Option.some.inj h⟩
    clear hk
    obtain ⟨gb,rfl,_,i3⟩:=i2.resolve_left (λe=>by rw [e] at hN;have:=hN.out;simp at this;omega)
    have cj:=(hD.mod (S:=[])).at (i3 j (by rw [hN.out];exact hj)) sM
    rw [<- hv] at cj
    have hjI:(j:Int)<n:=by omega
    clear i3 i2 hv
    ))
  go_ret2
  exact ⟨rfl,m2.trans (hD.mod (S:=[])) sM⟩
end
end Go.Proofs.YtaakgpnmfkmdoaaGreatDoor