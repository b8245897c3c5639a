/- Walks and plain laws of the kernel. No condition. -/
import Derived.Test.YtmiapbgkphpgoaaGreatDoorKEM
import Derived.Test.YtmiapbgkphpgoaaGreatDoorKDM
import Derived.Test.YtmiapbgkphpgoaaGreatDoorTimerM
import Derived.Test.YtmiapbgkphpgoaaGreatDoorKBM
import Derived.Test.YtmiapbgkphpgoaaGreatDoorKCM
namespace Go.Proofs.YtmiapbgkphpgoaaGreatDoor
set_option linter.unusedVariables false
set_option linter.unusedSimpArgs false
set_option maxRecDepth 100000
set_option maxHeartbeats 20000000
open Go.RowKit
open Go.Proofs.Tryz renaming prog → tp
open List renaming setIfInBounds_toArray → sA, set_cons_zero → sB, set_cons_succ → sC
open Go renaming World → wW
open Go.Value renaming pointer → vp, bool → vb, int → vi
open Go.IntKind renaming i64 → iQ, u64 → uQ
open Option renaming none → nN, some → sS
open Bool renaming true → tQ, false → fF
open Int renaming eq_ofNat_of_zero_le → iN
section
variable {F:List Nat} {w u:wW} {b tb mb cnt:Nat} {ids:List Nat} {D:Nat -> Nat} {n:Nat} {T:Int -> Option jQ} {t:bP}
theorem xm (h:(bQ b t).holds F w) (id tm:Int):Calls tp 219 #[vp (sS ⟨b,0,nN⟩),vi iQ id,vi iQ tm] w (al (bQ b (t.sleep id tm)) F (vi iQ (t.sleepE id)) w):=by
 obtain ⟨hok,tb,mb,cnt,ids,D,hI,hA⟩:=cZ h
 have hF:=eL hA id
 have e0:t.getE id=if (t.t id).isSome then 0 else 4:=rfl
 cases hx:t.t id with
 | none=>
  rw [hx] at e0
  have e4:t.getE id≠0:=by rw [e0];decide
  have e0':t.getE id=4:=e0
  rw [gG hx,e0'] at hF
  have H:=zh (λk=>(hA.keep (u':=w.drewN k) (mR.drewN k)).threadOk hok rfl rfl hI)
  have eE:t.sleepE id=4:=pG e4
  rw [show t.sleep id tm=t from nG (by rw [eE];decide),eE]
  clear hA h e0 e4 e0' eE hx hok
  go_in
  go_wp2_with (go_at_call 214;refine hF.r λk=>?_)
  go_ret
  exact ⟨rfl,H.out _⟩
 | some x=>
  rw [hx] at e0
  obtain ⟨h1,h2⟩:=hok.bd id x hx
  obtain ⟨k,rfl⟩:∃ k:Nat,id=(k:Int)+1:=⟨(id - 1).toNat,by omega⟩
  have hk:k<32:=by omega
  have ek:((k:Int)+1 - 1).toNat=k:=by omega
  have e0':t.getE ((k:Int)+1)=0:=e0
  have eg:t.get ((k:Int)+1)=x:=by unfold bP.get;rw [hx];rfl
  rw [gF hx,e0',ek] at hF
  have c4:=hA.thCell hk hx 4
  simp only [kZ,List.getElem?_cons_zero,List.getElem?_cons_succ] at c4
  by_cases hi:x.sleeps=tQ
  ·have eE:t.sleepE ((k:Int)+1)=6:=by unfold bP.sleepE;rw [nG (by rw [e0'];decide),eg,pG hi]
   rw [show t.sleep ((k:Int)+1) tm=t from nG (by rw [eE];decide),eE]
   have H:=zh (λk=>(hA.keep (u':=w.drewN k) (mR.drewN k)).threadOk hok rfl rfl hI)
   rw [hi] at c4
   clear hA h e0 e0' eE hx hok hi eg
   generalize (k:Int)+1=id at *
   go_in
   go_wp2_with (go_at_call 214;refine hF.r λk=>?_)
   go_ret
   exact ⟨rfl,H.out _⟩
  ·have hi2:x.sleeps=fF:=by simpa using hi
   have eE:t.sleepE ((k:Int)+1)=0:=by unfold bP.sleepE;rw [nG (by rw [e0'];decide),eg,nG hi]
   rw [show t.sleep ((k:Int)+1) tm=t.put ((k:Int)+1) { x with sleeps:=true,timer:=tm } by unfold bP.sleep;rw [pG eE,eg],eE]
   have hok2:=hok.put (x:={ x with sleeps:=true,timer:=tm }) hx (show x.mask<2 ^ 64 from hok.msk _ _ hx) rfl
   have hI2:=oO (x:={ x with sleeps:=true,timer:=tm }) hI hx
   have H:=zh (λk0=>((hA.keep (u':=w.drewN k0) (mR.drewN k0)).thSet hk hx 4 (vb tQ) { x with sleeps:=true } rfl).thSet hk (x:={ x with sleeps:=true }) (by unfold cA;rw [pG rfl]) 5 (vi iQ tm) { x with sleeps:=true,timer:=tm } rfl)
   have c5:=hA.thCell hk hx 5
   have f4:=hA.thFree hk hx 4
   have f5:=hA.thFree hk hx 5
   simp only [kZ,List.getElem?_cons_zero,List.getElem?_cons_succ] at c5
   rw [hi2] at c4
   have ho:cA (cA t.t ((k:Int)+1) { x with sleeps:=true }) ((k:Int)+1) { x with sleeps:=true,timer:=tm }=(t.put ((k:Int)+1) { x with sleeps:=true,timer:=tm }).t:=by
    funext j;unfold bP.put cA;simp only [];split<;>rfl
   have HO:=zh ho
   clear hA h e0 e0' eE eg ho
   generalize D k=d at *
   have HI:=zh (And.intro hok2 hI2)
   clear hok2 hI2 hx hi hi2
   go_in
   go_wp2_with (go_at_call 214;refine hF.r λk=>?_)
   go_ret
   have hE:=H.out k
   rw [HO.out] at hE
   exact ⟨rfl,hE.threadOk HI.out.1 rfl rfl HI.out.2⟩
theorem yF (h:(bQ b t).holds F w) (id:Int):Calls tp 223 #[vp (sS ⟨b,0,nN⟩),vi iQ id] w (al (bQ b (t.wake id)) F (.tuple #[vi iQ (t.wakeV id),vi iQ (t.wakeE id)]) w):=by
 obtain ⟨hok,tb,mb,cnt,ids,D,hI,hA⟩:=cZ h
 have hF:=eL hA id
 have e0:t.getE id=if (t.t id).isSome then 0 else 4:=rfl
 cases hx:t.t id with
 | none=>
  rw [hx] at e0
  have e4:t.getE id≠0:=by rw [e0];decide
  have e0':t.getE id=4:=e0
  rw [gG hx,e0'] at hF
  have H:=zh (λk=>(hA.keep (u':=w.drewN k) (mR.drewN k)).threadOk hok rfl rfl hI)
  have eE:t.wakeE id=4:=pG e4
  rw [show t.wake id=t from nG (by rw [eE];decide),show t.wakeV id=0 from nG (by rw [eE];decide),eE]
  clear hA h e0 e4 e0' eE hx hok
  go_in
  go_wp2_with (go_at_call 214;refine hF.r λk=>?_)
  go_ret2
  exact ⟨rfl,H.out _⟩
 | some x=>
  rw [hx] at e0
  obtain ⟨h1,h2⟩:=hok.bd id x hx
  obtain ⟨k,rfl⟩:∃ k:Nat,id=(k:Int)+1:=⟨(id - 1).toNat,by omega⟩
  have hk:k<32:=by omega
  have ek:((k:Int)+1 - 1).toNat=k:=by omega
  have e0':t.getE ((k:Int)+1)=0:=e0
  have eg:t.get ((k:Int)+1)=x:=by unfold bP.get;rw [hx];rfl
  rw [gF hx,e0',ek] at hF
  have c4:=hA.thCell hk hx 4
  simp only [kZ,List.getElem?_cons_zero,List.getElem?_cons_succ] at c4
  by_cases hi:x.sleeps=tQ
  ·have eE:t.wakeE ((k:Int)+1)=0:=by unfold bP.wakeE;rw [nG (by rw [e0'];decide),eg,pG hi]
   rw [show t.wake ((k:Int)+1)=t.put ((k:Int)+1) { x with sleeps:=false,timer:=0 } by unfold bP.wake;rw [pG eE,eg],show t.wakeV ((k:Int)+1)=x.timer by unfold bP.wakeV;rw [pG eE,eg],eE]
   have hok2:=hok.put (x:={ x with sleeps:=false,timer:=0 }) hx (show x.mask<2 ^ 64 from hok.msk _ _ hx) rfl
   have hI2:=oO (x:={ x with sleeps:=false,timer:=0 }) hI hx
   have H:=zh (λk0=>((hA.keep (u':=w.drewN k0) (mR.drewN k0)).thSet hk hx 4 (vb fF) { x with sleeps:=false } rfl).thSet hk (x:={ x with sleeps:=false }) (by unfold cA;rw [pG rfl]) 5 (vi iQ 0) { x with sleeps:=false,timer:=0 } rfl)
   have c5:=hA.thCell hk hx 5
   have f4:=hA.thFree hk hx 4
   have f5:=hA.thFree hk hx 5
   simp only [kZ,List.getElem?_cons_zero,List.getElem?_cons_succ] at c5
   rw [hi] at c4
   have ho:cA (cA t.t ((k:Int)+1) { x with sleeps:=false }) ((k:Int)+1) { x with sleeps:=false,timer:=0 }=(t.put ((k:Int)+1) { x with sleeps:=false,timer:=0 }).t:=by
    funext j;unfold bP.put cA;simp only [];split<;>rfl
   have HO:=zh ho
   clear hA h e0 e0' eE eg ho
   generalize D k=d at *
   have HI:=zh (And.intro hok2 hI2)
   clear hok2 hI2 hx hi
   go_in
   go_wp2_with (go_at_call 214;refine hF.r λk=>?_)
   go_ret2
   have hE:=H.out k
   rw [HO.out] at hE
   exact ⟨rfl,hE.threadOk HI.out.1 rfl rfl HI.out.2⟩
  ·have hi2:x.sleeps=fF:=by simpa using hi
   have eE:t.wakeE ((k:Int)+1)=6:=by unfold bP.wakeE;rw [nG (by rw [e0'];decide),eg,nG hi]
   rw [show t.wake ((k:Int)+1)=t from nG (by rw [eE];decide),show t.wakeV ((k:Int)+1)=0 from nG (by rw [eE];decide),eE]
   have H:=zh (λk=>(hA.keep (u':=w.drewN k) (mR.drewN k)).threadOk hok rfl rfl hI)
   rw [hi2] at c4
   clear hA h e0 e0' eE hx hok hi hi2 eg
   generalize (k:Int)+1=id at *
   go_in
   go_wp2_with (go_at_call 214;refine hF.r λk=>?_)
   go_ret2
   exact ⟨rfl,H.out _⟩
theorem su (h:(bQ b t).holds F w) (id:Int) (m:Nat) (hm:m<2 ^ 64):Calls tp 121 #[vp (sS ⟨b,0,nN⟩),vi iQ id,vi uQ (m:Nat)] w (al (bQ b (t.aim id m)) F (vi iQ (t.aimE id m)) w):=by
 obtain ⟨hok,tb,mb,cnt,ids,D,hI,hA⟩:=cZ h
 have hF:=eL hA id
 have e0:t.getE id=if (t.t id).isSome then 0 else 4:=rfl
 cases hx:t.t id with
 | none=>
  rw [hx] at e0
  have e4:t.getE id≠0:=by rw [e0];decide
  have e0':t.getE id=4:=e0
  rw [gG hx,e0'] at hF
  have H:=zh (λk=>(hA.keep (u':=w.drewN k) (mR.drewN k)).threadOk hok rfl rfl hI)
  have eE:t.aimE id m=4:=pG e4
  rw [show t.aim id m=t from nG (by rw [eE];decide),eE]
  clear hA h e0 e4 e0' eE hx hok
  go_in
  go_wp2_with (go_at_call 214;refine hF.r λk=>?_)
  go_ret
  exact ⟨rfl,H.out _⟩
 | some x=>
  rw [hx] at e0
  obtain ⟨h1,h2⟩:=hok.bd id x hx
  obtain ⟨k,rfl⟩:∃ k:Nat,id=(k:Int)+1:=⟨(id - 1).toNat,by omega⟩
  have hk:k<32:=by omega
  have ek:((k:Int)+1 - 1).toNat=k:=by omega
  have e0':t.getE ((k:Int)+1)=0:=e0
  have eg:t.get ((k:Int)+1)=x:=by unfold bP.get;rw [hx];rfl
  rw [gF hx,e0',ek] at hF
  have hR:=λk=>jX (w:=w.drewN k) (by simpa using hA.thC.2.1) hok.n2 m hm
  by_cases hi:t.right m=tQ
  ·have eE:t.aimE ((k:Int)+1) m=0:=by unfold bP.aimE;rw [nG (by rw [e0'];decide),pG hi]
   rw [show t.aim ((k:Int)+1) m=t.put ((k:Int)+1) { x with mask:=m } by unfold bP.aim;rw [pG eE,eg],eE]
   have hok2:=hok.put (x:={ x with mask:=m }) hx hm rfl
   have hI2:=oO (x:={ x with mask:=m }) hI hx
   have H:=zh (λk0=>((hA.keep (u':=w.drewN k0) (mR.drewN k0)).thSet hk hx 1 (vi uQ (m:Nat)) { x with mask:=m } rfl))
   have c1:=hA.thCell hk hx 1
   have f1:=hA.thFree hk hx 1
   simp only [kZ,List.getElem?_cons_zero,List.getElem?_cons_succ] at c1
   rw [hi] at hR
   clear hA h e0 e0' eE eg
   generalize D k=d at *
   have HI:=zh (And.intro hok2 hI2)
   clear hok2 hI2 hx hi
   go_in
   go_wp2_with (first
    | (go_at_call 214;refine hF.r λk=>?_)
    | (go_at_call 210;refine (hR _).r λk2=>?_))
   go_ret
   exact ⟨rfl,(H.out _).threadOk HI.out.1 rfl rfl HI.out.2⟩
  ·have hi2:t.right m=fF:=by simpa using hi
   have eE:t.aimE ((k:Int)+1) m=2:=by unfold bP.aimE;rw [nG (by rw [e0'];decide),nG hi]
   rw [show t.aim ((k:Int)+1) m=t from nG (by rw [eE];decide),eE]
   have H:=zh (λk=>(hA.keep (u':=w.drewN k) (mR.drewN k)).threadOk hok rfl rfl hI)
   rw [hi2] at hR
   clear hA h e0 e0' eE hx hok hi hi2 eg
   generalize (k:Int)+1=id at *
   go_in
   go_wp2_with (first
    | (go_at_call 214;refine hF.r λk=>?_)
    | (go_at_call 210;refine (hR _).r λk2=>?_))
   go_ret
   exact ⟨rfl,H.out _⟩
end
section
variable {F:List Nat} {w u:wW} {b tb mb cnt:Nat} {ids:List Nat} {D:Nat -> Nat} {n:Nat} {T:Int -> Option jQ} {t:bP}
theorem On.thDel (h:On F w (bC b tb mb cnt ids D n T) u) {k:Nat} (hk:k<32):∃ w1 cnt',(∀ ty,(Builtin.delete_ #[172,3] ty #[.map (sS mb),vi iQ ((k:Int)+1)]).run tp u=.ok (.tuple #[]) w1) /\ On F w (bC b tb mb cnt' ids D n (dZ T ((k:Int)+1))) w1:=by
 have h1:=h.lose (3+k) (by rw [Co];omega)
 rw [xn] at h1
 have e:aq (λk=>Fw (D k) (T ((k:Int)+1))) k zm=λi=>Fw (D i) (dZ T ((k:Int)+1) ((i:Int)+1)):=by
  funext i
  by_cases e:i=k
  ·subst e;rw [ah];unfold dZ;rw [pG rfl];rfl
  ·rw [ao _ _ e];unfold dZ;rw [nG oM]
 rw [e] at h1
 obtain ⟨w1,h2,h3⟩:=h1.fmDel (P:=tp) 2 rfl Tryz.underlying172 Tryz.underlying3 ((k:Int)+1)
 rw [Ge,IA] at h3
 exact ⟨w1,_,h2,h3⟩
theorem On.thNew {d:Nat} {x:jQ} (h:On F w (bC b tb mb cnt ids D n T++[ak.blk d (.cells (kZ x).toArray 237 (0,0))]) u) {k:Nat} (hk:k<32) (hb:∀ id x,T id=sS x -> 1 <= id /\ id <= 32):
  ∃ w1 cnt',(Instr.mapUpdate 172 (.map (sS mb)) (vi iQ ((k:Int)+1)) (vp (sS ⟨d,0,nN⟩))).run tp u=.ok () w1 /\ On F w (bC b tb mb cnt' ids (aq D k d) n (cA T ((k:Int)+1) x)) w1:=by
 have h1:=h.move (3+k) (by rw [Co];omega)
 rw [xn,show ak.blk d (.cells (kZ x).toArray 237 (0,0))=Fw d (sS x) from rfl,Cn] at h1
 obtain ⟨w1,h2,h3⟩:=h1.fmPut (P:=tp) 2 rfl Tryz.underlying172 Tryz.underlying3 ((k:Int)+1) (vp (sS ⟨d,0,nN⟩))
 rw [Gd,Iz hb] at h3
 exact ⟨w1,_,h2,h3⟩
theorem GU {ids:List Nat} (hn:ids.Nodup) (hi:uH ids T) (m:Nat):uH (ids.erase m) (dZ T (m:Int)):=by
 intro j
 rw [hn.mem_erase_iff,hi j]
 unfold dZ
 by_cases e:j=m
 ·subst e;simp
 ·rw [nG oM];simp [e]
theorem GS {ids:List Nat} (hi:uH ids T) (m:Nat) (x:jQ):uH (m :: ids) (cA T (m:Int) x):=by
 intro j
 rw [List.mem_cons,hi j]
 unfold cA
 by_cases e:j=m
 ·subst e;simp
 ·rw [nG oM];simp [e]
theorem bP.ok.del {t:bP} (h:t.ok) (id:Int):(t.exit id).ok:=by
 refine ⟨h.n1,h.n2,?_,?_,?_⟩
 all_goals
  intro j z hz
  have hz:(if j=id then nN else t.t j)=sS z:=hz
  split at hz
  ·cases hz
 ·exact h.bd _ _ hz
 ·exact h.msk _ _ hz
 ·exact h.pr _ _ hz
theorem qA (h:(bQ b t).holds F w) (id:Int):Calls tp 216 #[vp (sS ⟨b,0,nN⟩),vi iQ id] w (al (bQ b (t.exit id)) F (vi iQ (t.getE id)) w):=by
 obtain ⟨hok,tb,mb,cnt,ids,D,hI,hA⟩:=cZ h
 have hF:=eL hA id
 have e0:t.getE id=if (t.t id).isSome then 0 else 4:=rfl
 cases hx:t.t id with
 | none=>
  rw [hx] at e0
  have e0':t.getE id=4:=e0
  rw [gG hx,e0'] at hF
  have H:=zh (λk=>(hA.keep (u':=w.drewN k) (mR.drewN k)).threadOk hok rfl rfl hI)
  have ee:t.exit id=t:=by
   unfold bP.exit
   have:dZ t.t id=t.t:=by
    funext j;unfold dZ;split
    ·rename_i e;rw [e,hx]
    ·rfl
   rw [this]
  rw [ee,e0']
  clear hA h e0 e0' hx hok
  go_in
  go_wp2_with (go_at_call 214;refine hF.r λk=>?_)
  go_ret
  exact ⟨rfl,H.out _⟩
 | some x=>
  rw [hx] at e0
  obtain ⟨h1,h2⟩:=hok.bd id x hx
  obtain ⟨k,rfl⟩:∃ k:Nat,id=(k:Int)+1:=⟨(id - 1).toNat,by omega⟩
  have hk:k<32:=by omega
  have ek:((k:Int)+1 - 1).toNat=k:=by omega
  have e0':t.getE ((k:Int)+1)=0:=e0
  rw [gF hx,e0',ek] at hF
  rw [e0']
  have hs:eG 32 ids:=by obtain ⟨F1,h1,_⟩:=hA.get 1 rfl;exact h1
  have hmi:k+1∈ids:=(hI (k+1)).2 (by rw [show ((k+1:Nat):Int)=(k:Int)+1 by omega,hx];rfl)
  have hI2:=GU hs.nodup hI (k+1)
  have hdel:=λk0=>(hA.keep (u':=w.drewN k0) (mR.drewN k0)).thDel hk
  have hok2:=hok.del ((k:Int)+1)
  rw [show ((k+1:Nat):Int)=(k:Int)+1 by omega] at hI2
  obtain ⟨k0,k1,k2⟩:=hA.thC
  have HI:=zh (And.intro hI2 hok2)
  have HM:=zh hmi
  generalize D k=d at *
  clear hA h e0 e0' hx hok hI2 hok2 hmi
  go_in
  go_wp2_with (first
   | (
    go_at_call 214
    refine hF.r λk9=>?_
    obtain ⟨w1,cnt1,hrun,hB⟩:=hdel k9
    obtain ⟨d0,d1,d2⟩:=hB.thC
    have hG:=hB.call (P:=tp) (f:=270) 1 rfl (λF1 h1=>lK _ _ _ _ _ h1 (k+1) HM.out)
    rw [show ((k+1:Nat):Int)=(k:Int)+1 by omega] at hG
    clear hdel hB hF
    )
   | (at_builtin;rw [hrun])
   | (go_at_call 270;refine hG.s λw2 hE=>?_))
  go_ret
  have hE:On F w (bC b tb mb cnt1 (ids.erase (k+1)) D t.n (dZ t.t ((k:Int)+1))) w2:=hE
  exact ⟨rfl,hE.threadOk HI.out.2 rfl rfl HI.out.1⟩
theorem bP.ok.new {t:bP} (h:t.ok) {id:Int} {x:jQ} (h1:1 <= id) (h2:id <= 32) (hm:x.mask<2 ^ 64) (hp:0 <= x.prio /\ x.prio<8):(t.put id x).ok:=by
 refine ⟨h.n1,h.n2,?_,?_,?_⟩
 all_goals
  intro j z hz
  have hz:(if j=id then sS x else t.t j)=sS z:=hz
  split at hz
 ·rename_i e;subst e;exact ⟨h1,h2⟩
 ·exact h.bd _ _ hz
 ·cases hz;exact hm
 ·exact h.msk _ _ hz
 ·cases hz;exact hp
 ·exact h.pr _ _ hz
theorem AM (hok:t.ok) {ids:List Nat} (hs:eG 32 ids) (hi:uH ids t.t):t.low=bO ids /\ (ids.length=32↔32<t.low):=wD hs (λm h1 h2=>(hi m).symm)
theorem xl (h:(bQ b t).holds F w) (hTb:bA w) (hF:tzL_ren.g 1∉F) (p:Int) (m:Nat) (hm:m<2 ^ 64):Calls tp 117 #[vp (sS ⟨b,0,nN⟩),vi iQ p,vi uQ (m:Nat)] w (al (bQ b (t.spawn p m)) F (.tuple #[vi iQ (t.spawnV p m),vi iQ (t.spawnE p m)]) w):=by
 obtain ⟨hok,tb,mb,cnt,ids,D,hI,hA⟩:=cZ h
 have hR:=λk=>jX (w:=w.drewN k) (by simpa using hA.thC.2.1) hok.n2 m hm
 have hR0:=jX (w:=w) hA.thC.2.1 hok.n2 m hm
 have hB:=λk=>hA.keep (u':=w.drewN k) (mR.drewN k)
 have H:=zh (λk=>(hB k).threadOk hok rfl rfl hI)
 have H0:=zh (hA.threadOk hok rfl rfl hI)
 by_cases hi:p<0 \/ 8 <= p \/ t.right m=fF
 ·have eE:t.spawnE p m=2:=pG hi
  rw [show t.spawn p m=t from nG (by rw [eE];decide),show t.spawnV p m=0 from nG (by rw [eE];decide),eE]
  have hi2:p<0 \/ (¬ p<0 /\ 8 <= p) \/ (¬ p<0 /\ ¬ 8 <= p /\ t.right m=fF):=by
   by_cases h1:p<0
   ·exact .inl h1
   ·by_cases h2:8 <= p
    ·exact .inr (.inl ⟨h1,h2⟩)
    ·exact .inr (.inr ⟨h1,h2,hi.resolve_left h1 |>.resolve_left h2⟩)
  clear hA hB h eE hi
  rcases hi2 with h1|⟨h1,h2⟩|⟨h1,h2,h3⟩
  ·clear hR hR0
   go_in
   go_wp2
   go_ret2
   exact ⟨rfl,by first|exact H0.out|exact H.out _⟩
  ·clear hR hR0
   go_in
   go_wp2
   go_ret2
   exact ⟨rfl,by first|exact H0.out|exact H.out _⟩
  ·rw [h3] at hR hR0
   clear h3
   go_in
   go_wp2_with (first
    | (go_at_call 210;refine hR0.r λk=>?_)
    | (go_at_call 210;refine (hR _).r λk=>?_))
   go_ret2
   exact ⟨rfl,by first|exact H0.out|exact H.out _⟩
 ·have h1:¬ p<0:=λx=>hi (.inl x)
  have h2:¬ 8 <= p:=λx=>hi (.inr (.inl x))
  have h3:t.right m=tQ:=by
   cases hr:t.right m with
   | true=>rfl
   | false=>exact absurd (.inr (.inr hr)) hi
  have hs:eG 32 ids:=by obtain ⟨F1,h1,_⟩:=hA.get 1 rfl;exact h1
  obtain ⟨hlow,hfull⟩:=AM hok hs hI
  rw [h3] at hR hR0
  obtain ⟨k0,k1,k2⟩:=hA.thC
  by_cases hf:32<t.low
  ·have eE:t.spawnE p m=5:=by unfold bP.spawnE;rw [nG hi,pG hf]
   rw [show t.spawn p m=t from nG (by rw [eE];decide),show t.spawnV p m=0 from nG (by rw [eE];decide),eE]
   have hTk:=λk=>fp _ _ _ _ _ ((hB k).get 1 rfl).choose_spec (hfull.2 hf)
   clear hA hB h eE hi h3 hf hlow hfull
   go_in
   go_wp2_with (first
    | (go_at_call 210;refine hR0.r λk=>?_)
    | (go_at_call 210;refine (hR _).r λk=>?_)
    | (go_at_call 141;refine (hTk _).r λk3=>?_))
   go_ret2
   exact ⟨rfl,by first|exact H0.out|exact H.out _⟩
  ·have eE:t.spawnE p m=0:=by unfold bP.spawnE;rw [nG hi,nG hf]
   have hl:ids.length≠32:=λx=>hf (hfull.1 x)
   have hTk:=λk=>hTb.keep ((af.refl [] w).drewN k) sM
   have h1l:=(cW ids).1.1
   obtain ⟨k,hk⟩:∃ k:Nat,bO ids=k+1:=⟨bO ids - 1,by omega⟩
   have hk32:k<32:=by omega
   rw [show t.spawn p m=t.put ((k:Int)+1) ⟨p,m,0,fF,fF,0⟩ by unfold bP.spawn;rw [pG eE,hlow,hk];rfl,show t.spawnV p m=(k:Int)+1 by unfold bP.spawnV;rw [pG eE,hlow,hk];rfl,eE]
   have hok2:=hok.new (id:=(k:Int)+1) (x:=⟨p,m,0,fF,fF,0⟩) oM oM hm ⟨by simp only [];omega,by simp only [];omega⟩
   have hI2:=GS hI (k+1) ⟨p,m,0,fF,fF,0⟩
   rw [show ((k+1:Nat):Int)=(k:Int)+1 by omega] at hI2
   have hbd:=hok.bd
   have HI:=zh (And.intro hI2 hok2)
   have HB:=zh hbd
   have HTk:=zh (λk=>((hB k).call (P:=tp) (f:=141) 1 rfl (λF1 h1=>lJ _ _ _ _ _ h1 (hTk k) hl)))
   have hk2:(bO ids:Int)=(k:Int)+1:=by omega
   rw [hk2] at HTk
   have HL:=zh hk
   clear hA h eE hi h3 hf hlow hfull h1l hI2 hok2 hok hbd hB hTk hk hk2
   go_in
   go_wp2_with (first
    | (go_at_call 210;refine hR0.r λk9=>?_)
    | (go_at_call 210;refine (hR _).r λk9=>?_)
    | (
     go_at_call 141
     refine (HTk.out _).s λw2 hC=>?_
     have hC:On F w (bC b tb mb cnt (bO ids :: ids) D t.n t.t) w2:=hC
     rw [HL.out] at hC
     obtain ⟨d0,d1,d2⟩:=hC.thC
     obtain ⟨w4,cnt4,hput,hE⟩:=(hC.alloc (.cells (kZ ⟨p,m,0,fF,fF,0⟩).toArray 237 (0,0))).thNew hk32 HB.out
     have HE:=zh hE
     replace hput:(Instr.mapUpdate 172 (.map (sS mb)) (vi iQ ((k:Int)+1)) (vp (sS ⟨w2.heap.size,0,nN⟩))).run tp (w2.alloc (.cells #[vi iQ p,vi uQ (m:Nat),vi iQ 0,vb fF,vb fF,vi iQ 0] 237 (0,0)))=.ok () w4:=hput
     clear hE hC
     ))
   go_ret2
   exact ⟨rfl,HE.out.threadOk HI.out.2 rfl rfl HI.out.1⟩
end
def JX (n:Nat):bP:=⟨n,λ_=>nN⟩
theorem AN (n:Nat) (h1:1 <= n) (h2:n <= 64) (w:wW):Calls tp 41 #[vi iQ n] w (cN (λd:Nat=>.tuple #[vp (sS ⟨d,0,nN⟩),vi iQ 0]) (λd=>bQ d (JX n)) [] w):=by
 have hS:=(On.start w).make (nH 32 oM oM w)
 have hmk:=λw=>run_makeMap (P:=tp) 172 w
 go_in
 go_wp2_with (first
  | (
   go_at_call 99
   refine hS.mono ?_
   rintro e w1 ⟨tb,rfl,hA⟩
   have hB:On [] w (bC (w1.heap.size+1) tb w1.heap.size 0 [] (λ_=>0) n (λ_=>nN)) ((w1.alloc (.map #[] 0)).alloc (.cells #[vp (sS ⟨tb,0,nN⟩),vi iQ n,.map (sS w1.heap.size)] 174 (0,0))):=by
    have x2:=(hA.fmNew.alloc (.cells #[vp (sS ⟨tb,0,nN⟩),vi iQ n,.map (sS w1.heap.size)] 174 (0,0))).front
    rw [cm] at x2
    have hx:∀ j:Nat,∀ l:List ak,∀ u,On [] w l u -> On [] w (l++aN j (λk=>Fw 0 nN)) u:=by
     intro j
     induction j with
     | zero=>intro l u h;unfold aN;rw [List.range_zero,List.map_nil,List.append_nil];exact h
     | succ j ih=>
      intro l u h
      have:=(ih l u h).more (P:=zm) rfl
      unfold aN at *
      rw [List.range_succ,List.map_append,<- List.append_assoc]
      exact this
    exact hx 32 _ _ x2
   have HB:=zh hB
   clear hB hA hS
   )
  )
 go_ret2
 refine ⟨_,rfl,?_⟩
 exact HB.out.threadOk (t:=JX n) ⟨h1,h2,(λ_ _ h=>by cases h),(λ_ _ h=>by cases h),(λ_ _ h=>by cases h)⟩ rfl rfl (λm=>by simp)
def dm (N:Nat) (q:Nat -> List Int) (id:Int):Option Nat:=(List.range N).find? λi=>decide (id∈q i)
structure uJ (N:Nat) (q:Nat -> List Int):Prop where
 nodup:∀ c,c<N -> (q c).Nodup
 bd:∀ c x,c<N -> x∈q c -> 1 <= x /\ x <= 32
 uniq:∀ c d x,c<N -> d<N -> x∈q c -> x∈q d -> c=d
section
variable {N:Nat} {q:Nat -> List Int}
theorem im (h:uJ N q) {id:Int} {c:Nat}:dm N q id=sS c↔c<N /\ id∈q c:=by
 unfold dm
 constructor
 ·intro hh
  have h2:=List.find?_some hh
  exact ⟨List.mem_range.1 (List.mem_of_find?_eq_some hh),by simpa using h2⟩
 ·rintro ⟨h1,h2⟩
  cases hf:(List.range N).find? λi=>decide (id∈q i) with
  | none=>
   have:=List.find?_eq_none.1 hf c (List.mem_range.2 h1)
   simp [h2] at this
  | some d=>
   have h3:=List.find?_some hf
   have h4:=List.mem_range.1 (List.mem_of_find?_eq_some hf)
   rw [h.uniq c d id h1 h4 h2 (by simpa using h3)]
theorem dS {id:Int}:dm N q id=nN↔∀ c,c<N -> id∉q c:=by
 unfold dm
 rw [List.find?_eq_none]
 constructor
 ·intro h c hc
  simpa using h c (List.mem_range.2 hc)
 ·intro h c hc
  simpa using h c (List.mem_range.1 hc)
theorem gD {id:Int}:(dm N q id).isSome=tQ↔∃ c,c<N /\ id∈q c:=by
 constructor
 ·intro h
  apply Classical.byContradiction
  intro hn
  have:dm N q id=none:=dS.2 (λc hc hm=>hn ⟨c,hc,hm⟩)
  rw [this] at h;cases h
 ·rintro ⟨c,hc,hm⟩
  cases hw:dm N q id with
  | none=>exact absurd hm (dS.1 hw c hc)
  | some d=>rfl
theorem Cg {l:List Int} (hn:l.Nodup) (hb:∀ x,x∈l -> 1 <= x /\ x <= 32):l.length <= 32:=by
 have:=gY l ((List.range 32).map λk=>((k+1:Nat):Int)) hn (λx hx=>by
  have h:=hb x hx
  exact List.mem_map.2 ⟨x.toNat - 1,List.mem_range.2 oM,by omega⟩)
 simpa using this
theorem rR (h:uJ N q) {id:Int} (hw:dm N q id=nN) (h1:1 <= id) (h2:id <= 32) {c:Nat} (hc:c<N):
  uJ N (aq q c (q c++[id])) /\ (∀ j,dm N (aq q c (q c++[id])) j=if j=id then sS c else dm N q j) /\ (q c).length<32:=by
 have hn:=dS.1 hw
 have hmem:∀ d x,x∈aq q c (q c++[id]) d↔x∈q d \/ (d=c /\ x=id):=by
  intro d x
  by_cases e:d=c
  ·subst e;rw [ah];simp
  ·rw [ao _ _ e];simp [e]
 have hnd:(q c++[id]).Nodup:=List.nodup_append.2 ⟨h.nodup c hc,by simp,by rintro x hx y hy rfl;simp at hy;exact hn c hc (hy ▸ hx)⟩
 have hlen:(q c++[id]).length <= 32:=Cg hnd (by
  intro x hx
  rcases List.mem_append.1 hx with hx|hx
  ·exact h.bd c x hc hx
  ·simp at hx;omega)
 have hok:uJ N (aq q c (q c++[id])):=by
  refine ⟨λd hd=>?_,λd x hd hx=>?_,λd e x hd he hx hy=>?_⟩
  ·by_cases e:d=c
   ·subst e;rw [ah];exact hnd
   ·rw [ao _ _ e];exact h.nodup d hd
  ·rcases (hmem d x).1 hx with hx|⟨_,rfl⟩
   ·exact h.bd d x hd hx
   ·exact ⟨h1,h2⟩
  ·rcases (hmem d x).1 hx with hx'|⟨hd2,hx2⟩
   ·rcases (hmem e x).1 hy with hy'|⟨he2,hy2⟩
    ·exact h.uniq d e x hd he hx' hy'
    ·exact absurd (hy2 ▸ hx') (hn d hd)
   ·rcases (hmem e x).1 hy with hy'|⟨he2,hy2⟩
    ·exact absurd (hx2 ▸ hy') (hn e he)
    ·exact hd2.trans he2.symm
 refine ⟨hok,λj=>?_,by simp at hlen;omega⟩
 by_cases e:j=id
 ·subst e
  rw [pG rfl]
  exact (im hok).2 ⟨hc,(hmem c j).2 (.inr ⟨rfl,rfl⟩)⟩
 ·rw [nG e]
  apply Option.ext
  intro d
  rw [im hok,im h,hmem]
  simp [e]
theorem xY (h:uJ N q) {c:Nat} (hc:c<N) {x:Int} {l:List Int} (hq:(q c).Perm (x :: l)):uJ N (aq q c l) /\ ∀ j,dm N (aq q c l) j=if j=x then nN else dm N q j:=by
 have hnd:=(hq.nodup_iff).1 (h.nodup c hc)
 rw [List.nodup_cons] at hnd
 have hmem:∀ d y,d<N -> (y∈aq q c l d↔y∈q d /\ y≠x):=by
  intro d y hd
  by_cases e:d=c
  ·subst e
   rw [ah,hq.mem_iff,List.mem_cons]
   constructor
   ·intro hy
    exact ⟨.inr hy,λe=>hnd.1 (e ▸ hy)⟩
   ·rintro ⟨rfl|hy,hne⟩
    ·exact absurd rfl hne
    ·exact hy
  ·rw [ao _ _ e]
   constructor
   ·intro hy
    refine ⟨hy,λe2=>e (h.uniq d c y hd hc hy ?_)⟩
    rw [hq.mem_iff,e2];exact List.mem_cons_self
   ·exact λhy=>hy.1
 have hok:uJ N (aq q c l):=by
  refine ⟨λd hd=>?_,λd y hd hy=>h.bd d y hd ((hmem d y hd).1 hy).1,λd e y hd he hy hz=>h.uniq d e y hd he ((hmem d y hd).1 hy).1 ((hmem e y he).1 hz).1⟩
  by_cases e:d=c
  ·subst e;rw [ah];exact hnd.2
  ·rw [ao _ _ e];exact h.nodup d hd
 refine ⟨hok,λj=>?_⟩
 by_cases e:j=x
 ·subst e
  rw [pG rfl]
  exact dS.2 (λd hd hm=>((hmem d j hd).1 hm).2 rfl)
 ·rw [nG e]
  apply Option.ext
  intro d
  rw [im hok,im h]
  constructor
  ·rintro ⟨h1,h2⟩;exact ⟨h1,((hmem d j h1).1 h2).1⟩
  ·rintro ⟨h1,h2⟩;exact ⟨h1,(hmem d j h1).2 ⟨h2,e⟩⟩
/-- The numbers that are given out are those that are in a list. -/
def kL (ids:List Nat) (N:Nat) (q:Nat -> List Int):Prop:=∀ m:Nat,m∈ids↔(dm N q (m:Int)).isSome=tQ
theorem Aa (h:uJ N q) {ids:List Nat} (hs:eG 32 ids) (hi:kL ids N q):jg 32 (λi=>(dm N q (i:Int)).isSome)=bO ids /\ (ids.length=32↔32<jg 32 (λi=>(dm N q (i:Int)).isSome)):=
 wD hs (λm _ _=>(hi m).symm)
theorem zx (ids:List Nat) (hi:kL ids N q):dm N q (bO ids:Int)=none:=by
 have h:=(cW ids).1.2.1
 cases hw:dm N q (bO ids:Int) with
 | none=>rfl
 | some c=>exact absurd ((hi _).2 (by rw [hw];rfl)) h
theorem wL {ids:List Nat} (hi:kL ids N q) {q':Nat -> List Int} {n c:Nat} (hw:∀ j,dm N q' j=if j=(n:Int) then sS c else dm N q j):kL (n :: ids) N q':=by
 intro m
 rw [List.mem_cons,hw,hi m]
 by_cases e:m=n
 ·subst e;simp
 ·have:¬ ((m:Int)=n):=by omega
  simp [e,this]
theorem zZ {ids:List Nat} (hn:ids.Nodup) (hi:kL ids N q) {q':Nat -> List Int} {n:Nat} (hw:∀ j,dm N q' j=if j=(n:Int) then nN else dm N q j):kL (ids.erase n) N q':=by
 intro m
 rw [hn.mem_erase_iff,hw,hi m]
 by_cases e:m=n
 ·subst e;simp
 ·have:¬ ((m:Int)=n):=by omega
  simp [e,this]
theorem wK {ids:List Nat} (hi:kL ids N q) {q':Nat -> List Int} (hw:∀ j,(dm N q' j).isSome=(dm N q j).isSome):kL ids N q':=λm=>by rw [hw];exact hi m
end
theorem uw {l:List Int} {w:wW} {e:Ending} {w':wW} (h:∃ a c,e=.returned (.slice a l.length c) /\ af [] w w' /\ (l=[] /\ a=nN /\ c=0 \/ c=l.length /\ a=sS ⟨w.heap.size,0,nN⟩ /\ w'.heap[w.heap.size]?=sS (cq l))):vu l w e w':=by
 obtain ⟨a,c,rfl,m,hs⟩:=h
 refine ⟨a,c,rfl,m,?_,?_⟩
 ·rcases hs with ⟨h1,_⟩|⟨_,h2,h3⟩
  ·exact .inl h1
  ·exact .inr ⟨_,h2,bY h3,λj hj=>by rw [ab h3 j];exact bZ hj⟩
 ·intro b o e
  rcases hs with ⟨_,h2,_⟩|⟨_,h2,_⟩
  ·rw [h2] at e;cases e
  ·rw [h2] at e;cases e;exact Nat.le_refl _
def fI.ok (t:fI):Prop:=1 <= t.n /\ t.n <= 64 /\ uJ t.n t.q
def jm (b tb:Nat) (ids:List Nat) (g:Option Nat) (cap:Nat) (D:Nat -> Nat) (n:Nat) (q:Nat -> List Int):List ak:=
 [ak.blk b (.cells #[vp (sS ⟨tb,0,nN⟩),.slice (rA g) n cap] 199 (0,0)),gV tb 32 ids]++js 194 g cap n D (λc=>aQ (D c) 32 (q c))++[]
structure CbP where
 tb:Nat
 ids:List Nat
 g:Option Nat
 cap:Nat
 D:Nat -> Nat
def iR (b:Nat) (t:fI):ak:=ak.such t.ok (ak.ex λp:CbP=>ak.such (kL p.ids t.n t.q) (ak.star (jm b p.tb p.ids p.g p.cap p.D t.n t.q)))
section
variable {F:List Nat} {w u:wW} {b tb:Nat} {ids:List Nat} {g:Option Nat} {cap:Nat} {D:Nat -> Nat} {n:Nat} {q:Nat -> List Int} {t:fI}
theorem lV (h:(iR b t).holds F w):t.ok /\ ∃ tb ids g cap D,kL ids t.n t.q /\ On F w (jm b tb ids g cap D t.n t.q) w:=by
 obtain ⟨h1,p,h2,h3⟩:=h
 exact ⟨h1,p.tb,p.ids,p.g,p.cap,p.D,h2,On.of h3⟩
theorem On.callOk (h:On F w (jm b tb ids g cap D n q) u) {t:fI} (hok:t.ok) (hn:t.n=n) (hq:t.q=q) (hi:kL ids n q):dt (iR b t) F w u:=by
 subst hn hq
 exact h.gains.imp λF' h'=>⟨hok,⟨tb,ids,g,cap,D⟩,hi,h'⟩
theorem On.cbC (h:On F w (jm b tb ids g cap D n q) u):u.cell? ⟨b,0,nN⟩=sS (vp (sS ⟨tb,0,nN⟩)) /\ u.cell? ⟨b,1,nN⟩=sS (.slice (rA g) n cap) /\ n <= cap /\ cap <= maxLen:=
 ⟨h.cell 0 rfl 0,h.cell 0 rfl 1,h.famCap (k:=2) rfl⟩
theorem On.cbPtr (h:On F w (jm b tb ids g cap D n q) u) {c:Nat} (hc:c<n):∃ gb,g=sS gb /\ u.cell? ⟨gb,c,nN⟩=sS (vp (sS ⟨D c,0,nN⟩)):=h.famPtr (k:=2) rfl hc
theorem On.cbHas (h:On F w (jm b tb ids g cap D n q) u) {c:Nat} (hc:c<n):∃ F1,(aQ (D c) 32 (q c)).holds F1 u:=h.famHas (k:=2) rfl hc
theorem On.cbDo {P:Program} {fn:FuncId} {args:Array Value} {v:Value} {L:List Int} (h:On F w (jm b tb ids g cap D n q) u) {c:Nat} (hc:c<n) (hh:∀ F1,(aQ (D c) 32 (q c)).holds F1 u -> Calls P fn args u (al (aQ (D c) 32 L) F1 v u)):
  Calls P fn args u (λe u'=>e=.returned v /\ On F w (jm b tb ids g cap D n (aq q c L)) u'):=by
 have:=h.famDo (k:=2) rfl hc hh
 have e:aq (λc=>aQ (D c) 32 (q c)) c (aQ (D c) 32 L)=λi=>aQ (D i) 32 (aq q c L i):=by
  funext i
  by_cases e:i=c
  ·subst e;rw [ah,ah]
  ·rw [ao _ _ e,ao _ _ e]
 rw [e] at this
 exact this
theorem Ao (c1:w.cell? ⟨b,1,nN⟩=sS (.slice (rA g) n cap)) (a:Option Addr) (cp:Nat) (l:List Int) (hl:l.length <= 1000) (hI:bN w a l):
  Calls tp 234 #[vp (sS ⟨b,0,nN⟩),.slice a l.length cp] w (au (vi iQ (Cm n l)) w):=by
 have hM:∀ j,j<l.length -> ¬ (0 <= ar l j /\ ar l j<n) -> Cm n l=3:=by
  intro j hj hn
  exact nG (λh=>hn (h _ (by simp [ar,List.getD,hj])))
 have hM0:(∀ j,j<l.length -> 0 <= ar l j /\ ar l j<n) -> Cm n l=0:=by
  intro h
  refine pG (λc hc=>?_)
  obtain ⟨j,hj,rfl⟩:=List.getElem_of_mem hc
  have:=h j hj
  simpa [ar,List.getD,hj] using this
 generalize Cm n l=v at *
 go_in
 go_wp2
 go_loopg [11] l.length (λgg i wr=>∃ j:Nat,i=vi iQ j /\ j+gg=l.length /\ (∀ k,k<j -> 0 <= ar l k /\ ar l k<n) /\ aA w wr)
 case atStart=>exact ⟨0,rfl,by omega,by omega,aA.refl _⟩
 case round=>
  obtain ⟨j,rfl,hj,he,hD⟩:=hrel
  have c1r:=(hD.mod (S:=[])).at c1 sM
  by_cases hlt:j<l.length
  ·have hIr:=hI.same hD.heap
   obtain ⟨b,rfl,_,hc⟩:=hIr.resolve_left (λe=>by rw [e] at hlt;simp at hlt)
   have cj:=hc j hlt
   have hltI:(j:Int)<l.length:=by omega
   clear hc hI hIr
   by_cases ok:0 <= ar l j /\ ar l j<n
   ·have hstep:∀ k,k<j+1 -> 0 <= ar l k /\ ar l k<n:=by
     intro k hk
     by_cases e:k=j
     ·subst e;exact ok
     ·exact he k oM
    obtain ⟨ok1,ok2⟩:=ok
    clear he hM
    generalize ar l j=x at *
    have q1:¬ (x<0):=by omega
    have q2:¬ ((n:Int) <= x):=by omega
    go_wp2
    go_roundg (gk - 1)
    case measure=>omega
    case rel=>exact ⟨j+1,by go_num,by omega,hstep,by first|exact hD|exact hD.drewN _⟩
   ·have hv:=hM j hlt ok
    subst hv
    clear hM hM0 he
    generalize ar l j=x at *
    by_cases q1:x<0
    ·go_wp2
     go_ret
     refine ⟨rfl,by repeat (first|exact hD|apply aA.drewN|apply aA.drew)⟩
    ·have q2:(n:Int) <= x:=by omega
     go_wp2
     go_ret
     refine ⟨rfl,by repeat (first|exact hD|apply aA.drewN|apply aA.drew)⟩
  ·have hv:=hM0 (λk hk=>he k oM)
   subst hv
   have hltI:¬ (j:Int)<l.length:=by omega
   clear hM hM0 he hI
   go_wp2
   go_ret
   refine ⟨rfl,by repeat (first|exact hD|apply aA.drewN|apply aA.drew)⟩
end
section
variable {F:List Nat} {w u:wW} {b tb:Nat} {ids:List Nat} {g:Option Nat} {cap:Nat} {D:Nat -> Nat} {n:Nat} {q:Nat -> List Int} {t:fI}
theorem qp (c1:w.cell? ⟨b,1,nN⟩=sS (.slice (rA g) n cap)) (c:Int):
  Calls tp 234 #[vp (sS ⟨b,0,nN⟩),.slice (sS ⟨w.heap.size,0,nN⟩) 1 1] (w.alloc (.cells #[vi iQ c] 3 (0,0))) (au (vi iQ (if 0 <= c /\ c<n then 0 else 3)) (w.alloc (.cells #[vi iQ c] 3 (0,0)))):=by
 have:=Ao (w:=w.alloc (.cells #[vi iQ c] 3 (0,0))) (ay _ c1) (sS ⟨w.heap.size,0,nN⟩) 1 [c] sM (wH w c _)
 rwa [KR] at this
theorem Fi (c1:w.cell? ⟨b,1,nN⟩=sS (.slice (rA g) n cap)) (c d:Int):
  Calls tp 234 #[vp (sS ⟨b,0,nN⟩),.slice (sS ⟨w.heap.size,0,nN⟩) 2 2] (w.alloc (.cells #[vi iQ c,vi iQ d] 3 (0,0))) (au (vi iQ (if (0 <= c /\ c<n) /\ (0 <= d /\ d<n) then 0 else 3)) (w.alloc (.cells #[vi iQ c,vi iQ d] 3 (0,0)))):=by
 have:=Ao (w:=w.alloc (.cells #[vi iQ c,vi iQ d] 3 (0,0))) (ay _ c1) (sS ⟨w.heap.size,0,nN⟩) 2 [c,d] sM (wG w c d _)
 rwa [KQ] at this
theorem Hy (hok:t.ok) {ids:List Nat} (hs:eG 32 ids) (hi:kL ids t.n t.q):t.low=bO ids /\ (ids.length=32↔32<t.low):=Aa hok.2.2 hs hi
theorem Fo (h:(iR b t).holds F w) (cpu:Int):Calls tp 252 #[vp (sS ⟨b,0,nN⟩),vi iQ cpu] w (vu (t.list cpu) w):=by
 obtain ⟨hok,tb,ids,g,cap,D,hI,hA⟩:=lV h
 have hm:=qp hA.cbC.2.1 cpu
 unfold fI.list
 by_cases hi:t.is cpu
 ·rw [pG hi]
  rw [pG (show 0 <= cpu /\ cpu<t.n from hi)] at hm
  obtain ⟨h1,h2⟩:=hi
  obtain ⟨c,rfl⟩:=iN h1
  have hc:c<t.n:=by omega
  obtain ⟨gb,rfl,kp⟩:=hA.cbPtr hc
  obtain ⟨k0,k1,k2,k3⟩:=hA.cbC
  simp only [rA] at k1 hm
  have kp':=ay (.cells #[vi iQ (c:Int)] 3 (0,0)) kp
  have k0':=ay (.cells #[vi iQ (c:Int)] 3 (0,0)) k0
  have k1':=ay (.cells #[vi iQ (c:Int)] 3 (0,0)) k1
  have hL:=λk=>jL ((hA.keep (u':=(w.alloc (.cells #[vi iQ (c:Int)] 3 (0,0))).drewN k) ((mR.alloc _).drewN k)).cbHas hc).choose_spec
  rw [show t.at (c:Int)=t.q c from rfl]
  generalize t.q c=x at *
  clear hA h h1
  go_in
  go_wp2_with (first
   | (go_at_call 234;refine hm.r λk=>?_)
   | (go_at_call 172;refine (hL _).mono ?_;intro e w2 hm2;obtain ⟨a2,c2,rfl,m2,i2,n2⟩:=uw hm2))
  go_ret
  refine ⟨a2,c2,rfl,(((af.refl [] w).alloc _).drewN k).trans m2 sM,i2,λb o e=>?_⟩
  have:=n2 b o e
  simp at this
  omega
 ·rw [nG hi]
  rw [nG (show ¬ (0 <= cpu /\ cpu<t.n) from hi)] at hm
  clear hA h hi
  go_in
  go_wp2_with (go_at_call 234;refine hm.r λk=>?_)
  go_ret
  exact ⟨nN,0,rfl,(mR.alloc _).drewN _,.inl rfl,λb o e=>by cases e⟩
theorem Fm (h:(iR b t).holds F w) (cpu:Int):Calls tp 166 #[vp (sS ⟨b,0,nN⟩),vi iQ cpu] w (λe w'=>e=.returned (vi iQ (t.list cpu).length) /\ af [] w w'):=by
 have hL:=Fo h cpu
 clear h
 go_in
 go_wp2_with (go_at_call 252;refine hL.mono ?_;rintro e w2 ⟨a2,c2,rfl,m2,i2,n2⟩)
 go_ret
 exact ⟨rfl,m2⟩
theorem Fk (h:(iR b t).holds F w) (hT:bA w) (hF:tzL_ren.g 1∉F) (cpu:Int):Calls tp 146 #[vp (sS ⟨b,0,nN⟩),vi iQ cpu] w (al (iR b (t.send cpu)) F (.tuple #[vi iQ (t.sendV cpu),vi iQ (t.sendE cpu)]) w):=by
 obtain ⟨hok,tb,ids,g,cap,D,hI,hA⟩:=lV h
 have hm:=qp hA.cbC.2.1 cpu
 have hB:=λk=>hA.keep (u':=(w.alloc (.cells #[vi iQ cpu] 3 (0,0))).drewN k) ((mR.alloc _).drewN k)
 by_cases hi:t.is cpu
 case neg=>
  have e:t.sendE cpu=3:=pG hi
  rw [show t.send cpu=t from nG (by rw [e];decide),show t.sendV cpu=0 from nG (by rw [e];decide),e]
  rw [nG (show ¬ (0 <= cpu /\ cpu<t.n) from hi)] at hm
  have H:=zh (λk=>(hB k).callOk hok rfl rfl hI)
  clear hA h hi e hB
  go_in
  go_wp2_with (go_at_call 234;refine hm.r λk=>?_)
  go_ret2
  exact ⟨rfl,H.out _⟩
 rw [pG (show 0 <= cpu /\ cpu<t.n from hi)] at hm
 have hs:eG 32 ids:=by obtain ⟨F1,h1,_⟩:=hA.get 1 rfl;exact h1
 obtain ⟨hlow,hfull⟩:=Hy hok hs hI
 by_cases hf:32<t.low
 ·have e:t.sendE cpu=5:=by unfold fI.sendE;rw [nG (λx=>x hi),pG hf]
  rw [show t.send cpu=t from nG (by rw [e];decide),show t.sendV cpu=0 from nG (by rw [e];decide),e]
  have H:=zh (λk=>(hB k).callOk hok rfl rfl hI)
  have hTk:=λk=>fp _ _ _ _ _ ((hB k).get 1 rfl).choose_spec (hfull.2 hf)
  obtain ⟨k0,k1,k2,k3⟩:=hA.cbC
  have k0':=ay (.cells #[vi iQ cpu] 3 (0,0)) k0
  clear hA h hi e hB
  go_in
  go_wp2_with (first
   | (go_at_call 234;refine hm.r λk=>?_)
   | (go_at_call 141;refine (hTk _).r λk3=>?_))
  go_ret2
  exact ⟨rfl,H.out _⟩
 ·have e:t.sendE cpu=0:=by unfold fI.sendE;rw [nG (λx=>x hi),nG hf]
  rw [show t.send cpu=_ from pG e,show t.sendV cpu=_ from pG e,e]
  have hl:ids.length≠32:=λx=>hf (hfull.1 x)
  have hTk:=λk=>hT.keep (((af.refl [] w).alloc (.cells #[vi iQ cpu] 3 (0,0))).drewN k) sM
  have hwn:=zx ids hI
  rw [hlow]
  obtain ⟨h1,h2⟩:=hi
  obtain ⟨c,rfl⟩:=iN h1
  have hc:c<t.n:=by omega
  obtain ⟨gb,rfl,kp⟩:=hA.cbPtr hc
  obtain ⟨k0,k1,k2,k3⟩:=hA.cbC
  simp only [rA] at k1 hm
  have kp':=ay (.cells #[vi iQ (c:Int)] 3 (0,0)) kp
  have k0':=ay (.cells #[vi iQ (c:Int)] 3 (0,0)) k0
  have k1':=ay (.cells #[vi iQ (c:Int)] 3 (0,0)) k1
  obtain ⟨hx,hw2,hlen⟩:=rR hok.2.2 hwn (by have:=(cW ids).1.1;omega) oM hc
  have hpe:cT 32 (t.q c) (bO ids)=0:=by unfold cT;rw [nG (dS.1 hwn c hc),nG oM]
  have hps:kM 32 (t.q c) (bO ids)=t.q c++[(bO ids:Int)]:=pG hpe
  have hI2:=wL hI hw2
  clear h hA e hlow hfull hf
  go_in
  go_wp2_with (first
   | (go_at_call 234;refine hm.r λk=>?_)
   | (
    go_at_call 141
    refine ((hB k).call 1 rfl (λF1 h1=>lJ _ _ _ _ _ h1 (hTk k) hl)).s λw2 hC=>?_
    have hC:On F w (jm b tb (bO ids :: ids) (sS gb) cap D t.n t.q) w2:=hC
    obtain ⟨d0,d1,_,_⟩:=hC.cbC
    obtain ⟨gb2,e2,dp⟩:=hC.cbPtr hc
    cases e2
    simp only [rA] at d1
    have hP:=hC.cbDo (P:=tp) (fn:=143) hc (λF1 hF=>iy hF (bO ids))
    rw [hpe,hps] at hP
    clear hC hB kp' k0' k1'
    )
   | (go_at_call 143;refine hP.s λw3 hE=>?_))
  go_ret2
  exact ⟨rfl,hE.callOk (t:=⟨t.n,aq t.q c (t.q c++[(bO ids:Int)])⟩) ⟨hok.1,hok.2.1,hx⟩ rfl rfl hI2⟩
theorem lU {l:List Int} (h:l≠[]):l.Perm (ar l 0 :: l.tail):=by
 cases l with
 | nil=>exact absurd rfl h
 | cons a l=>simp [ar]
theorem Fj (h:(iR b t).holds F w) (cpu:Int):Calls tp 196 #[vp (sS ⟨b,0,nN⟩),vi iQ cpu] w (al (iR b (t.take cpu)) F (.tuple #[vi iQ (t.takeV cpu),vi iQ (t.takeE cpu)]) w):=by
 obtain ⟨hok,tb,ids,g,cap,D,hI,hA⟩:=lV h
 have hm:=qp hA.cbC.2.1 cpu
 have hB:=λk=>hA.keep (u':=(w.alloc (.cells #[vi iQ cpu] 3 (0,0))).drewN k) ((mR.alloc _).drewN k)
 by_cases hi:t.is cpu
 case neg=>
  have e:t.takeE cpu=3:=pG hi
  rw [show t.take cpu=t from nG (by rw [e];decide),show t.takeV cpu=0 from nG (by rw [e];decide),e]
  rw [nG (show ¬ (0 <= cpu /\ cpu<t.n) from hi)] at hm
  have H:=zh (λk=>(hB k).callOk hok rfl rfl hI)
  clear hA h hi e hB
  go_in
  go_wp2_with (go_at_call 234;refine hm.r λk=>?_)
  go_ret2
  exact ⟨rfl,H.out _⟩
 rw [pG (show 0 <= cpu /\ cpu<t.n from hi)] at hm
 have hE0:t.takeE cpu=if t.at cpu=[] then 12 else 0:=by unfold fI.takeE;rw [nG (λx=>x hi)]
 have hs:eG 32 ids:=by obtain ⟨F1,h1,_⟩:=hA.get 1 rfl;exact h1
 obtain ⟨h1,h2⟩:=hi
 obtain ⟨c,rfl⟩:=iN h1
 have hc:c<t.n:=by omega
 obtain ⟨gb,rfl,kp⟩:=hA.cbPtr hc
 obtain ⟨k0,k1,k2,k3⟩:=hA.cbC
 simp only [rA] at k1 hm
 have kp':=ay (.cells #[vi iQ (c:Int)] 3 (0,0)) kp
 have k0':=ay (.cells #[vi iQ (c:Int)] 3 (0,0)) k0
 have k1':=ay (.cells #[vi iQ (c:Int)] 3 (0,0)) k1
 rw [show t.at (c:Int)=t.q c from rfl] at hE0
 have hP:=λk=>(hB k).cbDo (P:=tp) (fn:=269) hc (λF1 hF=>oT hF)
 by_cases hq:t.q c=[]
 ·rw [pG hq] at hE0
  rw [show t.take c=t from nG (by rw [hE0];decide),show t.takeV c=0 from nG (by rw [hE0];decide),hE0]
  have e1:aq t.q c (t.q c).tail=t.q:=by
   funext i
   by_cases e:i=c
   ·subst e;rw [ah,hq];rfl
   ·rw [ao _ _ e]
  rw [e1,show cd (t.q c)=0 by rw [hq];rfl,show dN (t.q c)=12 from pG hq] at hP
  clear h hA hB e1 hE0 hq
  go_in
  go_wp2_with (first
   | (go_at_call 234;refine hm.r λk=>?_)
   | (go_at_call 269;refine (hP _).s λw2 hC=>?_;have HC:=zh hC;clear hC hP))
  go_ret2
  exact ⟨rfl,HC.out.callOk hok rfl rfl hI⟩
 ·rw [nG hq] at hE0
  rw [show t.take c=⟨t.n,aq t.q c (t.q c).tail⟩ from pG hE0,show t.takeV c=ar (t.q c) 0 from pG hE0,hE0]
  rw [show cd (t.q c)=ar (t.q c) 0 from rfl,show dN (t.q c)=0 from nG hq] at hP
  have hperm:=lU hq
  obtain ⟨hx,hw2⟩:=xY hok.2.2 hc hperm
  have hmem:ar (t.q c) 0∈t.q c:=hperm.mem_iff.2 List.mem_cons_self
  have hb:=hok.2.2.bd c _ hc hmem
  obtain ⟨m,hm0⟩:=iN (show 0 <= ar (t.q c) 0 by omega)
  rw [hm0] at hP hw2 hmem
  rw [hm0]
  have hmi:m∈ids:=(hI m).2 (gD.2 ⟨c,hc,hmem⟩)
  have hI2:=zZ hs.nodup hI hw2
  have HM:=zh (And.intro hI2 hx)
  clear h hA hB hE0 hq hperm hw2 hmem hb hm0 hI2 hx
  go_in
  go_wp2_with (first
   | (go_at_call 234;refine hm.r λk=>?_)
   | (
    go_at_call 269
    refine (hP _).s λw2 hC=>?_
    obtain ⟨d0,d1,_,_⟩:=hC.cbC
    have hG:=hC.call (P:=tp) (f:=270) 1 rfl (λF1 h1=>lK _ _ _ _ _ h1 m hmi)
    clear hC hP
    )
   | (go_at_call 270;refine hG.s λw3 hE=>?_))
  go_ret2
  have hE:On F w (jm b tb (ids.erase m) (sS gb) cap D t.n (aq t.q c (t.q c).tail)) w3:=hE
  exact ⟨rfl,hE.callOk (t:=⟨t.n,aq t.q c (t.q c).tail⟩) ⟨hok.1,hok.2.1,HM.out.2⟩ rfl rfl HM.out.1⟩
theorem Fl (h:(iR b t).holds F w) (a d:Int):Calls tp 311 #[vp (sS ⟨b,0,nN⟩),vi iQ a,vi iQ d] w (al (iR b (t.move a d)) F (.tuple #[vi iQ (t.moveV a d),vi iQ (t.moveE a d)]) w):=by
 obtain ⟨hok,tb,ids,g,cap,D,hI,hA⟩:=lV h
 have hm:=Fi hA.cbC.2.1 a d
 have hB:=λk=>hA.keep (u':=(w.alloc (.cells #[vi iQ a,vi iQ d] 3 (0,0))).drewN k) ((mR.alloc _).drewN k)
 have H:=zh (λk=>(hB k).callOk hok rfl rfl hI)
 by_cases hi:t.is a /\ t.is d
 case neg=>
  have e:t.moveE a d=3:=pG (by by_cases x:t.is a;exact .inr (λy=>hi ⟨x,y⟩);exact .inl x)
  rw [show t.move a d=t from nG (by rw [e];decide),show t.moveV a d=0 from nG (by rw [e];decide),e]
  rw [nG (show ¬ ((0 <= a /\ a<t.n) /\ (0 <= d /\ d<t.n)) from hi)] at hm
  clear hA h hi e hB
  go_in
  go_wp2_with (go_at_call 234;refine hm.r λk=>?_)
  go_ret2
  exact ⟨rfl,H.out _⟩
 rw [pG (show (0 <= a /\ a<t.n) /\ (0 <= d /\ d<t.n) from hi)] at hm
 by_cases had:a=d
 ·have e:t.moveE a d=2:=by unfold fI.moveE;rw [nG (λx=>x.elim (λy=>y hi.1) (λy=>y hi.2)),pG had]
  rw [show t.move a d=t from nG (by rw [e];decide),show t.moveV a d=0 from nG (by rw [e];decide),e]
  subst had
  clear hA h hi e hB
  go_in
  go_wp2_with (go_at_call 234;refine hm.r λk=>?_)
  go_ret2
  exact ⟨rfl,H.out _⟩
 have hE0:t.moveE a d=if t.at a=[] then 12 else 0:=by unfold fI.moveE;rw [nG (λx=>x.elim (λy=>y hi.1) (λy=>y hi.2)),nG had]
 obtain ⟨⟨h1,h2⟩,h3,h4⟩:=hi
 obtain ⟨c,rfl⟩:=iN h1
 obtain ⟨d,rfl⟩:=iN h3
 have hc:c<t.n:=by omega
 have hd:d<t.n:=by omega
 have hcd:c≠d:=λe=>had (by rw [e])
 obtain ⟨gb,rfl,kp⟩:=hA.cbPtr hc
 obtain ⟨k0,k1,k2,k3⟩:=hA.cbC
 simp only [rA] at k1 hm
 have kp':=ay (.cells #[vi iQ (c:Int),vi iQ (d:Int)] 3 (0,0)) kp
 have k1':=ay (.cells #[vi iQ (c:Int),vi iQ (d:Int)] 3 (0,0)) k1
 rw [show t.at (c:Int)=t.q c from rfl] at hE0
 have hne:((c:Int)==(d:Int))=fF:=by simpa using had
 have hP:=λk=>(hB k).cbDo (P:=tp) (fn:=269) hc (λF1 hF=>oT hF)
 by_cases hq:t.q c=[]
 ·rw [pG hq] at hE0
  rw [show t.move c d=t from nG (by rw [hE0];decide),show t.moveV c d=0 from nG (by rw [hE0];decide),hE0]
  have e1:aq t.q c (t.q c).tail=t.q:=by
   funext i
   by_cases e:i=c
   ·subst e;rw [ah,hq];rfl
   ·rw [ao _ _ e]
  rw [e1,show cd (t.q c)=0 by rw [hq];rfl,show dN (t.q c)=12 from pG hq] at hP
  clear h hA hB e1 hE0 hq had
  go_in
  go_wp2_with (first
   | (go_at_call 234;refine hm.r λk=>?_)
   | (go_at_call 269;refine (hP _).s λw2 hC=>?_;have HC:=zh hC;clear hC hP))
  go_ret2
  exact ⟨rfl,HC.out.callOk hok rfl rfl hI⟩
 ·rw [nG hq] at hE0
  have eM:t.move c d=⟨t.n,aq (aq t.q c (t.q c).tail) d (t.q d++[ar (t.q c) 0])⟩:=pG hE0
  rw [eM,show t.moveV c d=ar (t.q c) 0 from pG hE0,hE0]
  rw [show cd (t.q c)=ar (t.q c) 0 from rfl,show dN (t.q c)=0 from nG hq] at hP
  have hperm:=lU hq
  obtain ⟨hx,hw2⟩:=xY hok.2.2 hc hperm
  have hmem:ar (t.q c) 0∈t.q c:=hperm.mem_iff.2 List.mem_cons_self
  have hb:=hok.2.2.bd c _ hc hmem
  have hwn:dm t.n (aq t.q c (t.q c).tail) (ar (t.q c) 0)=none:=by rw [hw2,pG rfl]
  obtain ⟨hx3,hw3,hlen⟩:=rR hx hwn hb.1 hb.2 hd
  have hgd:aq t.q c (t.q c).tail d=t.q d:=ao _ _ (Ne.symm hcd)
  rw [hgd] at hx3 hw3 hlen
  have hpe:cT 32 (t.q d) (ar (t.q c) 0)=0:=by
   have:=dS.1 hwn d hd
   rw [hgd] at this
   unfold cT;rw [nG this,nG oM]
  have hps:kM 32 (t.q d) (ar (t.q c) 0)=t.q d++[ar (t.q c) 0]:=pG hpe
  have hI2:kL ids t.n (aq (aq t.q c (t.q c).tail) d (t.q d++[ar (t.q c) 0])):=wK hI (λj=>by
   rw [hw3,hw2]
   by_cases e:j=ar (t.q c) 0
   ·rw [pG e,e,gD.2 ⟨c,hc,hmem⟩];rfl
   ·rw [nG e,nG e])
  have HM:=zh (And.intro hI2 hx3)
  generalize ar (t.q c) 0=x at *
  clear h hA hB hE0 hq hperm hw2 hmem hb hI2 hx3 had hx hwn hw3 hlen eM
  go_in
  go_wp2_with (first
   | (go_at_call 234;refine hm.r λk=>?_)
   | (
    go_at_call 269
    refine (hP _).s λw2 hC=>?_
    obtain ⟨d0,d1,_,_⟩:=hC.cbC
    obtain ⟨gb2,e2,dp⟩:=hC.cbPtr hd
    cases e2
    simp only [rA] at d1
    have hG:=hC.cbDo (P:=tp) (fn:=143) (L:=t.q d++[x]) (v:=vi iQ 0) hd (λF1 hF=>by rw [hgd] at hF;have:=iy hF x;rwa [hpe,hps] at this)
    clear hC hP kp' k1'
    )
   | (go_at_call 143;refine hG.s λw3 hE=>?_))
  go_ret2
  exact ⟨rfl,hE.callOk (t:=⟨t.n,aq (aq t.q c (t.q c).tail) d (t.q d++[x])⟩) ⟨hok.1,hok.2.1,HM.out.2⟩ rfl rfl HM.out.1⟩
end
theorem GP:(tp.info? 194).map (λi=>(i.zero,i.size,i.bytes))=sS (sS (vp nN),1,8):=by kernel_rfl
theorem KW (N:Nat):uJ N (λ_=>[]):=⟨λ_ _=>List.nodup_nil,(λ_ x _ h=>by cases h),(λ_ _ x _ _ h=>by cases h)⟩
def cb0 (n:Nat):fI:=⟨n,λ_=>[]⟩
theorem JR (N:Nat):kL [] N (λ_=>[]):=λm=>by
 rw [gD]
 constructor
 ·intro h;cases h
 ·rintro ⟨_,_,h⟩;cases h
theorem Hz (n:Nat) (h1:1 <= n) (h2:n <= 64) (w:wW):Calls tp 53 #[vi iQ n] w (cN (λd:Nat=>.tuple #[vp (sS ⟨d,0,nN⟩),vi iQ 0]) (λd=>iR d (cb0 n)) [] w):=by
 have hS:=(On.start w).make (nH 32 oM oM w)
 go_in
 go_wp2_with (first
  | (
   go_at_call 99
   refine hS.mono ?_
   rintro e w1 ⟨tb,rfl,hA⟩
   have hB:On [] w (jm w1.heap.size tb [] nN 0 (λ_=>0) 0 (λ_=>[])) (w1.alloc (.cells #[vp (sS ⟨tb,0,nN⟩),.slice nN 0 0] 199 (0,0))):=by
    have x2:=(hA.alloc (.cells #[vp (sS ⟨tb,0,nN⟩),.slice nN 0 0] 199 (0,0))).front
    have x3:=x2.more (P:=kS 194 1 nN 0 0 []) ⟨rfl,lY.nil _ _ _⟩
    exact x3
   have HB:=zh hB
   clear hB hA hS
   )
  )
 generalize hd:w1.heap.size=d at *
 go_loopg [27] n (λgg i wr=>∃ (j:Nat) (g:Option Nat) (cap:Nat) (D:Nat -> Nat),i=vi iQ j /\ j+gg=n /\ On [] w (jm d tb [] g cap D j (λ_=>[])) wr)
 case atStart=>exact ⟨0,nN,0,λ_=>0,rfl,by omega,HB.out⟩
 case round=>
  clear HB
  obtain ⟨j,g,cap,D,rfl,hj,hB⟩:=hrel
  by_cases hlt:j<n
  ·have hltI:(j:Int)<n:=by omega
   have hN:=hB.make (uv 32 oM oM wr)
   go_wp2_with (first
    | (
     go_at_call 102
     refine hN.mono ?_
     rintro e w2 ⟨x,rfl,hC⟩
     have c1:=hC.cell 0 rfl 1
     have hC2:=hC.keep (u':=w2.alloc (.cells #[vp (sS ⟨x,0,nN⟩)] 194 (0,0))) (mR.alloc _)
     unfold jm at hC2
     rw [List.append_nil] at hC2
     obtain ⟨g',cap',w3,hrun,hD⟩:=hC2.famMore (P:=tp) (tt:=191) (bytes:=8) Tryz.underlying191 GP oM oM (b:=w2.heap.size) (d:=x) (ai _ _)
     have c3:=hD.cell 0 rfl 1
     have f3:=hD.free 0 rfl 1
     have z3:=hD.size 0 rfl
     have HD:=zh hD
     clear hC hC2 hN hB hD
     )
    | (
     at_builtin
     refine aM rfl _ _ _ rfl rfl rfl (hrun _) ?_
     )
    )
   have hE:=HD.out.set 0 rfl 1 (.slice (sS ⟨g',0,nN⟩) (j+1) cap')
   go_roundg (gk - 1)
   case measure=>omega
   case rel=>
    refine ⟨j+1,sS g',cap',aq D j x,by go_num,by omega,?_⟩
    have e:aq (λc=>aQ (D c) 32 []) j (aQ x 32 [])=λi=>aQ (aq D j x i) 32 []:=by
     funext i
     by_cases e:i=j
     ·subst e;rw [ah,ah]
     ·rw [ao _ _ e,ao _ _ e]
    rw [e] at hE
    unfold jm
    rw [List.append_nil]
    exact hE
  ·have hltI:¬ (j:Int)<n:=by omega
   obtain rfl:j=n:=by omega
   have HB:=zh hB
   clear hB
   go_wp2
   go_ret2
   refine ⟨d,rfl,?_⟩
   exact HB.out.callOk (t:=cb0 j) ⟨h1,h2,KW _⟩ rfl rfl (JR _)
def yj (N:Nat) (q:Nat -> List Int) (id:Int):Option Int:=match dm N q id with|some c=>sS ((c:Int) - 1)|none=>nN
theorem FB {N:Nat} {q:Nat -> List Int} {id:Int}:(yj N q id).isSome=(dm N q id).isSome:=by unfold yj;cases dm N q id<;>rfl
def dj.ok (t:dj):Prop:=1 <= t.n /\ t.n <= 64 /\ uJ (t.n+1) t.q
def eH (b tb wb cnt:Nat) (ids:List Nat) (f:Int -> Option Int) (g:Option Nat) (cap:Nat) (D:Nat -> Nat) (n:Nat) (q:Nat -> List Int):List ak:=
 [ak.blk b (.cells #[vp (sS ⟨tb,0,nN⟩),.slice (rA g) n cap,.map (sS wb)] 193 (0,0)),gV tb 32 ids,dD wb cnt (ew f)]++js 194 g cap n D (λc=>aQ (D c) 32 (q c))++[]
structure WkP where
 tb:Nat
 wb:Nat
 cnt:Nat
 ids:List Nat
 g:Option Nat
 cap:Nat
 D:Nat -> Nat
def fh (b:Nat) (t:dj):ak:=ak.such t.ok (ak.ex λp:WkP=>ak.such (kL p.ids (t.n+1) t.q) (ak.star (eH b p.tb p.wb p.cnt p.ids (yj (t.n+1) t.q) p.g p.cap p.D (t.n+1) t.q)))
section
variable {F:List Nat} {w u:wW} {b tb wb cnt:Nat} {ids:List Nat} {f:Int -> Option Int} {g:Option Nat} {cap:Nat} {D:Nat -> Nat} {n:Nat} {q:Nat -> List Int} {t:dj}
theorem ij (h:(fh b t).holds F w):t.ok /\ ∃ tb wb cnt ids g cap D,kL ids (t.n+1) t.q /\ On F w (eH b tb wb cnt ids (yj (t.n+1) t.q) g cap D (t.n+1) t.q) w:=by
 obtain ⟨h1,p,h2,h3⟩:=h
 exact ⟨h1,p.tb,p.wb,p.cnt,p.ids,p.g,p.cap,p.D,h2,On.of h3⟩
theorem On.workOk (h:On F w (eH b tb wb cnt ids f g cap D n q) u) {t:dj} (hok:t.ok) (hn:t.n+1=n) (hq:t.q=q) (hi:kL ids n q) (hf:f=yj n q):dt (fh b t) F w u:=by
 subst hn hq hf
 exact h.gains.imp λF' h'=>⟨hok,⟨tb,wb,cnt,ids,g,cap,D⟩,hi,h'⟩
theorem On.wkC (h:On F w (eH b tb wb cnt ids f g cap D n q) u):u.cell? ⟨b,0,nN⟩=sS (vp (sS ⟨tb,0,nN⟩)) /\ u.cell? ⟨b,1,nN⟩=sS (.slice (rA g) n cap) /\ u.cell? ⟨b,2,nN⟩=sS (.map (sS wb)) /\ n <= cap /\ cap <= maxLen:=
 ⟨h.cell 0 rfl 0,h.cell 0 rfl 1,h.cell 0 rfl 2,h.famCap (k:=3) rfl⟩
theorem On.wkPtr (h:On F w (eH b tb wb cnt ids f g cap D n q) u) {c:Nat} (hc:c<n):∃ gb,g=sS gb /\ u.cell? ⟨gb,c,nN⟩=sS (vp (sS ⟨D c,0,nN⟩)):=h.famPtr (k:=3) rfl hc
theorem On.wkHas (h:On F w (eH b tb wb cnt ids f g cap D n q) u) {c:Nat} (hc:c<n):∃ F1,(aQ (D c) 32 (q c)).holds F1 u:=h.famHas (k:=3) rfl hc
theorem On.wkDo {P:Program} {fn:FuncId} {args:Array Value} {v:Value} {L:List Int} (h:On F w (eH b tb wb cnt ids f g cap D n q) u) {c:Nat} (hc:c<n) (hh:∀ F1,(aQ (D c) 32 (q c)).holds F1 u -> Calls P fn args u (al (aQ (D c) 32 L) F1 v u)):
  Calls P fn args u (λe u'=>e=.returned v /\ On F w (eH b tb wb cnt ids f g cap D n (aq q c L)) u'):=by
 have:=h.famDo (k:=3) rfl hc hh
 have e:aq (λc=>aQ (D c) 32 (q c)) c (aQ (D c) 32 L)=λi=>aQ (D i) 32 (aq q c L i):=by
  funext i
  by_cases e:i=c
  ·subst e;rw [ah,ah]
  ·rw [ao _ _ e,ao _ _ e]
 rw [e] at this
 exact this
theorem On.wkPut (h:On F w (eH b tb wb cnt ids f g cap D n q) u) (id v:Int):∃ w1 cnt',(Instr.mapUpdate 75 (.map (sS wb)) (vi iQ id) (vi iQ v)).run tp u=.ok () w1 /\ On F w (eH b tb wb cnt' ids (cA f id v) g cap D n q) w1:=by
 obtain ⟨w1,h1,h2⟩:=h.fmPut (P:=tp) 2 rfl Tryz.underlying75 Tryz.underlying3 id (vi iQ v)
 rw [nU] at h2
 exact ⟨w1,_,h1,h2⟩
theorem On.wkDel (h:On F w (eH b tb wb cnt ids f g cap D n q) u) (id:Int):∃ w1 cnt',(∀ ty,(Builtin.delete_ #[75,3] ty #[.map (sS wb),vi iQ id]).run tp u=.ok (.tuple #[]) w1) /\ On F w (eH b tb wb cnt' ids (dZ f id) g cap D n q) w1:=by
 obtain ⟨w1,h1,h2⟩:=h.fmDel (P:=tp) 2 rfl Tryz.underlying75 Tryz.underlying3 id
 rw [nV] at h2
 exact ⟨w1,_,h1,h2⟩
theorem On.wkLook (h:On F w (eH b tb wb cnt ids f g cap D n q) u) (id:Int):(Instr.lookup 75 (.map (sS wb)) (vi iQ id) tQ).run tp u=.ok (.tuple #[vi iQ ((f id).getD 0),vb (f id).isSome]) u:=by
 have:=kG (P:=tp) (h.fm 2 rfl) Tryz.underlying75 Tryz.underlying3 id (λw=>Tryz.zeroValue3 w)
 rw [this]
 unfold ew
 cases f id<;>rfl
theorem nA (c1:u.cell? ⟨b,1,nN⟩=sS (.slice (rA g) (n+1) cap)) (hn:n <= 64) (cpu from_:Int):Calls tp 140 #[vp (sS ⟨b,0,nN⟩),vi iQ cpu,.int .i64 from_] u (au (vi iQ (if from_ <= cpu /\ cpu<n then 0 else 3)) u):=by
 have hwn:wrap64 (n:Int)=n:=by unfold wrap64;omega
 by_cases hi:from_ <= cpu /\ cpu<n
 ·rw [pG hi]
  obtain ⟨h1,h2⟩:=hi
  have q1:¬ cpu<from_:=by omega
  have q2:¬ ((n:Int) <= cpu):=by omega
  go_in
  go_wp2
  go_ret
  exact au.of (rfl) dz
 ·rw [nG hi]
  have h2:cpu<from_ \/ (¬ cpu<from_ /\ (n:Int) <= cpu):=by omega
  clear hi
  rcases h2 with h2|⟨h1,h2⟩
  all_goals
   go_in
   go_wp2
   go_ret
   exact au.of (rfl) dz
theorem ik {gb d c:Nat} (k1:u.cell? ⟨b,1,nN⟩=sS (.slice (sS ⟨gb,0,nN⟩) n cap)) (kp:u.cell? ⟨gb,c,nN⟩=sS (vp (sS ⟨d,0,nN⟩))) (hc:c<n) (hn:n <= 65) (cpu:Int) (h:cpu=(c:Int) - 1):
  Calls tp 142 #[vp (sS ⟨b,0,nN⟩),vi iQ cpu] u (au (vp (sS ⟨d,0,nN⟩)) u):=by
 have e:cpu - -1=(c:Int):=by omega
 have e2:cpu+1=(c:Int):=by omega
 have h3:(-1:Int) <= cpu:=by omega
 have h4:cpu <= 64:=by omega
 have hcI:(c:Int)<n:=by omega
 clear h
 go_in
 go_wp2
 go_ret
 exact au.of (rfl) dz
theorem rY (hA:On F w (eH b tb wb cnt ids f g cap D n q) u) (id:Int):Calls tp 298 #[vp (sS ⟨b,0,nN⟩),vi iQ id] u (au (.tuple #[vi iQ ((f id).getD 0),vb (f id).isSome]) u):=by
 have hlk:=hA.wkLook id
 obtain ⟨k0,k1,k2,k3⟩:=hA.wkC
 generalize (f id).getD 0=x at *
 generalize (f id).isSome=y at *
 clear hA
 go_in
 go_wp2
 go_ret2
 exact au.of (rfl) dz
theorem FA (h:(fh b t).holds F w) (id:Int):Calls tp 245 #[vp (sS ⟨b,0,nN⟩),vi iQ id] w (au (vb (t.has id)) w):=by
 obtain ⟨hok,tb,wb,cnt,ids,g,cap,D,hI,hA⟩:=ij h
 have hW:=rY hA id
 rw [FB] at hW
 rw [show t.has id=(dm (t.n+1) t.q id).isSome from rfl]
 generalize (dm (t.n+1) t.q id).isSome=y at *
 clear hA h
 go_in
 go_wp2_with (go_at_call 298;refine hW.r λk=>?_)
 go_ret
 exact au.of (rfl) dz
end
section
variable {F:List Nat} {w u:wW} {b tb wb cnt:Nat} {ids:List Nat} {f:Int -> Option Int} {g:Option Nat} {cap:Nat} {D:Nat -> Nat} {n:Nat} {q:Nat -> List Int} {t:dj}
theorem Fy (hok:t.ok) {ids:List Nat} (hs:eG 32 ids) (hi:kL ids (t.n+1) t.q):t.low=bO ids /\ (ids.length=32↔32<t.low):=Aa hok.2.2 hs hi
theorem CR {w:wW} {p:Addr} {v:Value} (h:w.cell? p=sS v) (k:Nat):(w.drewN k).cell? p=sS v:=by simpa using h
theorem CZ (h:(fh b t).holds F w) (cpu:Int):Calls tp 164 #[vp (sS ⟨b,0,nN⟩),vi iQ cpu] w (vu (t.list cpu) w):=by
 obtain ⟨hok,tb,wb,cnt,ids,g,cap,D,hI,hA⟩:=ij h
 have hm:=nA hA.wkC.2.1 hok.2.1 cpu (-1)
 unfold dj.list
 by_cases hi:t.is cpu (-1)
 ·rw [pG hi]
  rw [pG (show -1 <= cpu /\ cpu<t.n from hi)] at hm
  obtain ⟨h1,h2⟩:=hi
  obtain ⟨c,hcp⟩:=iN (show 0 <= cpu+1 by omega)
  have hc:c<t.n+1:=by omega
  have hcl:cpu=(c:Int) - 1:=by omega
  obtain ⟨gb,rfl,kp⟩:=hA.wkPtr hc
  obtain ⟨k0,k1,kw,k2,k3⟩:=hA.wkC
  have hat:t.at cpu=t.q c:=by unfold dj.at;rw [hcp];rfl
  have hnn:t.n+1 <= 65:=by have:=hok.2.1;omega
  simp only [rA] at k1 hm
  rw [hat]
  have hL:=λk=>jL ((hA.keep (u':=w.drewN k) (mR.drewN k)).wkHas hc).choose_spec
  have hl:=λk=>ik (CR k1 k) (CR kp k) hc hnn cpu hcl
  clear hcp hcl hat hA h
  generalize t.q c=x at *
  go_in
  go_wp2_with (first
   | (go_at_call 140;refine hm.r λk=>?_)
   | (go_at_call 142;refine (hl _).r λk2=>?_)
   | (go_at_call 172;(try rw [World.drewN_drewN]);refine (hL _).mono ?_;intro e w2 hm2;obtain ⟨a2,c2,rfl,m2,i2,n2⟩:=uw hm2))
  go_ret
  refine ⟨a2,c2,rfl,((af.refl [] w).drewN _).trans m2 sM,i2,λb o e=>?_⟩
  have:=n2 b o e
  simp at this
  omega
 ·rw [nG hi]
  rw [nG (show ¬ (-1 <= cpu /\ cpu<t.n) from hi)] at hm
  clear hA h hi
  go_in
  go_wp2_with (go_at_call 140;refine hm.r λk=>?_)
  go_ret
  exact ⟨nN,0,rfl,mR.drewN _,.inl rfl,λb o e=>by cases e⟩
theorem vx (h:(fh b t).holds F w) (cpu:Int):Calls tp 81 #[vp (sS ⟨b,0,nN⟩),vi iQ cpu] w (λe w'=>e=.returned (vi iQ (t.list cpu).length) /\ af [] w w'):=by
 have hL:=CZ h cpu
 clear h
 go_in
 go_wp2_with (go_at_call 164;refine hL.mono ?_;rintro e w2 ⟨a2,c2,rfl,m2,i2,n2⟩)
 go_ret
 exact ⟨rfl,m2⟩
theorem yi {N:Nat} {q q':Nat -> List Int} {id:Int} {c:Nat} (hw:∀ j,dm N q' j=if j=id then sS c else dm N q j):cA (yj N q) id ((c:Int) - 1)=yj N q':=by
 funext j
 unfold cA yj
 rw [hw]
 split<;>rfl
theorem FC {N:Nat} {q q':Nat -> List Int} {id:Int} (hw:∀ j,dm N q' j=if j=id then nN else dm N q j):dZ (yj N q) id=yj N q':=by
 funext j
 unfold dZ yj
 rw [hw]
 split<;>rfl
theorem rZ (h:(fh b t).holds F w) (hT:bA w) (hF:tzL_ren.g 1∉F) (cpu:Int):Calls tp 73 #[vp (sS ⟨b,0,nN⟩),vi iQ cpu] w (al (fh b (t.queue cpu)) F (.tuple #[vi iQ (t.queueV cpu),vi iQ (t.queueE cpu)]) w):=by
 obtain ⟨hok,tb,wb,cnt,ids,g,cap,D,hI,hA⟩:=ij h
 have hm:=nA hA.wkC.2.1 hok.2.1 cpu (-1)
 have hB:=λk=>hA.keep (u':=w.drewN k) (mR.drewN k)
 by_cases hi:t.is cpu (-1)
 case neg=>
  have e:t.queueE cpu=3:=pG hi
  rw [show t.queue cpu=t from nG (by rw [e];decide),show t.queueV cpu=0 from nG (by rw [e];decide),e]
  rw [nG (show ¬ (-1 <= cpu /\ cpu<t.n) from hi)] at hm
  have H:=zh (λk=>(hB k).workOk hok rfl rfl hI rfl)
  clear hA h hi e hB
  go_in
  go_wp2_with (go_at_call 140;refine hm.r λk=>?_)
  go_ret2
  exact ⟨rfl,H.out _⟩
 rw [pG (show -1 <= cpu /\ cpu<t.n from hi)] at hm
 have hs:eG 32 ids:=by obtain ⟨F1,h1,_⟩:=hA.get 1 rfl;exact h1
 obtain ⟨hlow,hfull⟩:=Fy hok hs hI
 by_cases hf:32<t.low
 ·have e:t.queueE cpu=5:=by unfold dj.queueE;rw [nG (λx=>x hi),pG hf]
  rw [show t.queue cpu=t from nG (by rw [e];decide),show t.queueV cpu=0 from nG (by rw [e];decide),e]
  have H:=zh (λk=>(hB k).workOk hok rfl rfl hI rfl)
  have hTk:=λk=>fp _ _ _ _ _ ((hB k).get 1 rfl).choose_spec (hfull.2 hf)
  obtain ⟨k0,k1,k2,k3⟩:=hA.wkC
  clear hA h hi e hB
  go_in
  go_wp2_with (first
   | (go_at_call 140;refine hm.r λk=>?_)
   | (go_at_call 141;refine (hTk _).r λk3=>?_))
  go_ret2
  exact ⟨rfl,H.out _⟩
 ·have e:t.queueE cpu=0:=by unfold dj.queueE;rw [nG (λx=>x hi),nG hf]
  have hl:ids.length≠32:=λx=>hf (hfull.1 x)
  have hTk:=λk=>hT.keep ((af.refl [] w).drewN k) sM
  have hwn:=zx ids hI
  obtain ⟨h1,h2⟩:=hi
  obtain ⟨c,hcp⟩:=iN (show 0 <= cpu+1 by omega)
  have hc:c<t.n+1:=by omega
  have hcl:cpu=(c:Int) - 1:=by omega
  obtain ⟨gb,rfl,kp⟩:=hA.wkPtr hc
  obtain ⟨k0,k1,kw,k2,k3⟩:=hA.wkC
  have hat:t.at cpu=t.q c:=by unfold dj.at;rw [hcp];rfl
  have hnn:t.n+1 <= 65:=by have:=hok.2.1;omega
  simp only [rA] at k1 hm
  rw [show t.queue cpu=⟨t.n,aq t.q c (t.q c++[(bO ids:Int)])⟩ by unfold dj.queue;rw [pG e,hat,hlow];unfold dj.putQ;rw [hcp];rfl,show t.queueV cpu=_ from pG e,e,hlow]
  obtain ⟨hx,hw2,hlen⟩:=rR hok.2.2 hwn (by have:=(cW ids).1.1;omega) oM hc
  have hpe:cT 32 (t.q c) (bO ids)=0:=by unfold cT;rw [nG (dS.1 hwn c hc),nG oM]
  have hps:kM 32 (t.q c) (bO ids)=t.q c++[(bO ids:Int)]:=pG hpe
  have hI2:=wL hI hw2
  have hO:=yi hw2
  rw [<- hcl] at hO
  have HC:=zh hcl
  clear h hA e hlow hfull hf hcl hcp hat
  go_in
  go_wp2_with (first
   | (go_at_call 140;refine hm.r λk=>?_)
   | (
    go_at_call 141
    refine ((hB k).call 1 rfl (λF1 h1=>lJ _ _ _ _ _ h1 (hTk k) hl)).s λw2 hC=>?_
    have hC:On F w (eH b tb wb cnt (bO ids :: ids) (yj (t.n+1) t.q) (sS gb) cap D (t.n+1) t.q) w2:=hC
    obtain ⟨d0,d1,d2,_,_⟩:=hC.wkC
    obtain ⟨w3,cnt3,hput,hD⟩:=hC.wkPut (bO ids) cpu
    obtain ⟨f0,f1,f2,_,_⟩:=hD.wkC
    obtain ⟨gb2,e2,dp⟩:=hD.wkPtr hc
    cases e2
    simp only [rA] at f1
    have hli:=ik f1 dp hc hnn cpu HC.out
    have hP:=λk=>(hD.keep (u':=w3.drewN k) (mR.drewN k)).wkDo (P:=tp) (fn:=143) hc (λF1 hF=>iy hF (bO ids))
    rw [hpe,hps] at hP
    clear hC hD hB k0 k1 kw kp
    )
   | (go_at_call 142;refine hli.r λk2=>?_)
   | (go_at_call 143;refine (hP _).s λw4 hE=>?_))
  go_ret2
  exact ⟨rfl,hE.workOk (t:=⟨t.n,aq t.q c (t.q c++[(bO ids:Int)])⟩) ⟨hok.1,hok.2.1,hx⟩ rfl rfl hI2 hO⟩
/-- Drop: one that is in a list. -/
def dj.drop (t:dj) (c:Nat) (id:Int):dj:=⟨t.n,aq t.q c ((t.q c).erase id)⟩
theorem Da (h:(fh b t).holds F w) (id:Int) {c:Nat} (hc:c<t.n+1) (hmem:id∈t.q c):Calls tp 273 #[vp (sS ⟨b,0,nN⟩),vi iQ id] w (al (fh b (t.drop c id)) F (vi iQ 0) w):=by
 obtain ⟨hok,tb,wb,cnt,ids,g,cap,D,hI,hA⟩:=ij h
 have hs:eG 32 ids:=by obtain ⟨F1,h1,_⟩:=hA.get 1 rfl;exact h1
 have hWh:=rY hA id
 have hwr:dm (t.n+1) t.q id=sS c:=(im hok.2.2).2 ⟨hc,hmem⟩
 have hf:yj (t.n+1) t.q id=sS ((c:Int) - 1):=by unfold yj;rw [hwr]
 rw [hf] at hWh
 simp only [Option.getD_some,Option.isSome_some] at hWh
 have hnn:t.n+1 <= 65:=by have:=hok.2.1;omega
 obtain ⟨hx,hw2⟩:=xY hok.2.2 hc (List.perm_cons_erase hmem)
 have hb:=hok.2.2.bd c _ hc hmem
 obtain ⟨m,rfl⟩:=iN (show 0 <= id by omega)
 have hmi:m∈ids:=(hI m).2 (gD.2 ⟨c,hc,hmem⟩)
 have hI2:=zZ hs.nodup hI hw2
 have hO:=FC hw2
 have hde:sP (t.q c) m=0:=pG hmem
 obtain ⟨k0,k1,kw,k2,k3⟩:=hA.wkC
 have hdel:=λk=>(hA.keep (u':=w.drewN k) (mR.drewN k)).wkDel m
 have HM:=zh (And.intro hI2 (And.intro hx hO))
 generalize hcl:(c:Int) - 1=cpu at *
 have HC:=zh hcl.symm
 clear hcl
 clear h hA hs hwr hf hI2 hx hw2 hO
 go_in
 go_wp2_with (first
  | (
   go_at_call 298
   refine hWh.r λk=>?_
   obtain ⟨w1,cnt1,hrun,hB⟩:=hdel k
   obtain ⟨c0,c1,_,_⟩:=hB.wkC
   have hG:=hB.call (P:=tp) (f:=270) 1 rfl (λF1 h1=>lK _ _ _ _ _ h1 m hmi)
   clear hdel hB hWh
   )
  | (at_builtin;rw [hrun])
  | (
   go_at_call 270
   refine hG.s λw2 hC=>?_
   have hC:On F w (eH b tb wb cnt1 (ids.erase m) (dZ (yj (t.n+1) t.q) m) g cap D (t.n+1) t.q) w2:=hC
   obtain ⟨gb,rfl,dp⟩:=hC.wkPtr hc
   obtain ⟨f0,f1,f2,_,_⟩:=hC.wkC
   simp only [rA] at f1
   have hli:=ik f1 dp hc hnn cpu HC.out
   have hP:=λk=>(hC.keep (u':=w2.drewN k) (mR.drewN k)).wkDo (P:=tp) (fn:=316) hc (λF1 hF=>wR hF m)
   rw [hde] at hP
   clear hC hG
   )
  | (go_at_call 142;refine hli.r λk2=>?_)
  | (go_at_call 316;refine (hP _).s λw4 hE=>?_))
 go_ret
 exact ⟨rfl,hE.workOk (t:=t.drop c m) ⟨hok.1,hok.2.1,HM.out.2.1⟩ rfl rfl HM.out.1 HM.out.2.2⟩
end
section
variable {F:List Nat} {w u:wW} {b tb wb cnt:Nat} {ids:List Nat} {f:Int -> Option Int} {g:Option Nat} {cap:Nat} {D:Nat -> Nat} {n:Nat} {q:Nat -> List Int} {t:dj}
theorem CY (h:(fh b t).holds F w) (cpu:Int):Calls tp 200 #[vp (sS ⟨b,0,nN⟩),vi iQ cpu] w (al (fh b (t.take cpu)) F (.tuple #[vi iQ (t.takeV cpu),vi iQ (t.takeE cpu)]) w):=by
 obtain ⟨hok,tb,wb,cnt,ids,g,cap,D,hI,hA⟩:=ij h
 have hW:=On.one h
 have hm:=nA hA.wkC.2.1 hok.2.1 cpu 0
 by_cases hi:t.is cpu 0
 case neg=>
  have e:t.takeE cpu=3:=pG hi
  rw [show t.take cpu=t from nG (by rw [e];decide),show t.takeV cpu=0 from nG (by rw [e];decide),e]
  rw [nG (show ¬ (0 <= cpu /\ cpu<t.n) from hi)] at hm
  have H:=zh (λk=>(hW.keep (u':=w.drewN k) (mR.drewN k)).gain1)
  clear hA h hi e hW
  go_in
  go_wp2_with (go_at_call 140;refine hm.r λk=>?_)
  go_ret2
  exact ⟨rfl,H.out _⟩
 rw [pG (show 0 <= cpu /\ cpu<t.n from hi)] at hm
 have hE0:t.takeE cpu=if t.q (t.from_ cpu)=[] then 12 else 0:=by unfold dj.takeE;rw [nG (λx=>x hi)]
 obtain ⟨h1,h2⟩:=hi
 obtain ⟨c,hcp⟩:=iN (show 0 <= cpu+1 by omega)
 have hc:c<t.n+1:=by omega
 have hnn:t.n+1 <= 65:=by have:=hok.2.1;omega
 have hcl:cpu=(c:Int) - 1:=by omega
 obtain ⟨gb,rfl,kp⟩:=hA.wkPtr hc
 have hat:t.at cpu=t.q c:=by unfold dj.at;rw [hcp];rfl
 have hfr:t.from_ cpu=if t.q c=[] then 0 else c:=by unfold dj.from_;rw [hat,hcp];rfl
 rw [hfr] at hE0
 have key:∀ d,(d=c /\ t.q c≠[] \/ t.q c=[] /\ d=0 /\ t.q 0≠[]) -> t.take cpu=t.drop d (ar (t.q d) 0) /\ t.takeV cpu=ar (t.q d) 0 /\ t.takeE cpu=0:=by
  intro d hd
  have hd2:(if t.q c=[] then 0 else c)=d /\ t.q d≠[]:=by
   rcases hd with ⟨rfl,h5⟩|⟨h5,rfl,h6⟩
   ·rw [nG h5];exact ⟨rfl,h5⟩
   ·rw [pG h5];exact ⟨rfl,h6⟩
  rw [hd2.1,nG hd2.2] at hE0
  refine ⟨?_,?_,hE0⟩
  ·unfold dj.take
   rw [pG hE0,hfr,hd2.1]
   unfold dj.drop dj.putQ
   have:(t.q d).erase (ar (t.q d) 0)=(t.q d).tail:=by
    cases hl:t.q d with
    | nil=>exact absurd hl hd2.2
    | cons a l=>simp [ar]
   rw [this]
  ·unfold dj.takeV;rw [pG hE0,hfr,hd2.1]
 have key0:t.q c=[] -> t.q 0=[] -> t.take cpu=t /\ t.takeV cpu=0 /\ t.takeE cpu=12:=by
  intro h5 h6
  rw [pG h5,pG h6] at hE0
  exact ⟨nG (by rw [hE0];decide),nG (by rw [hE0];decide),hE0⟩
 have HC:=zh hcl
 have hN0:0<t.n+1:=by omega
 generalize hN:t.n+1=N at *
 generalize t.takeE cpu=tE at *
 generalize t.takeV cpu=tV at *
 generalize t.take cpu=tT at *
 have HK:=zh key
 have HK0:=zh key0
 clear hcl hcp hat hfr hE0 key key0 kp
 try simp only [rA] at hm
 go_in
 go_wp2_with (go_at_call 140;refine hm.r λk=>?_)
 have hM:af [] w ((w.drewN k).alloc (.cells #[vi iQ cpu,vi iQ (-1)] 3 (0,0))):=((af.refl [] w).drewN k).alloc _
 have hc0:=ab (ai (w.drewN k) (.cells #[vi iQ cpu,vi iQ (-1)] 3 (0,0))) 0
 have hc1:=ab (ai (w.drewN k) (.cells #[vi iQ cpu,vi iQ (-1)] 3 (0,0))) 1
 rw [World.heap_drewN] at hc0 hc1
 generalize hwA:(w.drewN k).alloc (.cells #[vi iQ cpu,vi iQ (-1)] 3 (0,0))=wA at *
 go_loopg [20] 2 (λgg i wr=>∃ j:Nat,i=vi iQ j /\ j+gg=2 /\ (1 <= j -> t.q c=[]) /\ (2 <= j -> t.q 0=[]) /\ aA wA wr)
 case atStart=>exact ⟨0,rfl,by omega,by omega,by omega,aA.refl _⟩
 case round=>
  obtain ⟨j,rfl,hj,hj1,hj2,hD⟩:=hrel
  have hM2:=hM.trans (hD.mod (S:=[])) sM
  have hA2:=hA.keep hM2
  by_cases hlt:j<2
  ·have hltI:(j:Int)<2:=by omega
   have hx:∃ (x:Int) (d:Nat),d<N /\ x=(d:Int) - 1 /\ wr.cell? ⟨w.heap.size,j,nN⟩=sS (vi iQ x) /\ (t.q d≠[] -> d=c /\ t.q c≠[] \/ t.q c=[] /\ d=0 /\ t.q 0≠[]) /\ (t.q d=[] -> (1 <= j+1 -> t.q c=[]) /\ (2 <= j+1 -> t.q 0=[])):=by
    by_cases e:j=0
    ·subst e
     exact ⟨cpu,c,hc,HC.out,(hD.mod (S:=[])).at hc0 sM,λh=>.inl ⟨rfl,h⟩,λh=>⟨λ_=>h,by omega⟩⟩
    ·obtain rfl:j=1:=by omega
     exact ⟨-1,0,hN0,rfl,(hD.mod (S:=[])).at hc1 sM,λh=>.inr ⟨hj1 oM,rfl,h⟩,λh=>⟨λ_=>hj1 oM,λ_=>h⟩⟩
   obtain ⟨x,d,hd,hxd,cj,hk1,hk2⟩:=hx
   obtain ⟨gb2,e2,dp⟩:=hA2.wkPtr hd
   cases e2
   obtain ⟨f0,f1,f2,_,_⟩:=hA2.wkC
   simp only [rA] at f1
   have hli:=ik f1 dp hd hnn x hxd
   have hF:=λk=>nt ((hA2.keep (u':=wr.drewN k) (mR.drewN k)).wkHas hd).choose_spec
   clear hxd hc0 hc1 hj1 hj2 hA
   by_cases hq:t.q d=[]
   ·rw [hq] at hF
    simp only [show cd []=0 from rfl,show dN []=12 from rfl] at hF
    obtain ⟨k2a,k2b⟩:=hk2 hq
    have K2:=zh (And.intro k2a k2b)
    clear hk1 hk2 hq hA2 k2a k2b
    go_wp2_with (first
     | (go_at_call 142;refine hli.r λk5=>?_)
     | (go_at_call 272;refine (hF _).r λk6=>?_))
    go_roundg (gk - 1)
    case measure=>omega
    case rel=>exact ⟨j+1,by go_num,by omega,K2.out.1,K2.out.2,by repeat (first|exact hD|apply aA.drewN|apply aA.drew)⟩
   ·obtain ⟨e1,e2,e3⟩:=HK.out d (hk1 hq)
    subst e1 e2 e3
    have hperm:=lU hq
    have hmem:ar (t.q d) 0∈t.q d:=hperm.mem_iff.2 List.mem_cons_self
    rw [show cd (t.q d)=ar (t.q d) 0 from rfl,show dN (t.q d)=0 from nG hq] at hF
    have hDr:=λ(u':wW) (m:af [] wr u')=>((hW.keep (hM2.trans m sM)).call (P:=tp) (f:=273) 0 rfl (λF1 h1=>Da h1 (ar (t.q d) 0) (by rw [hN];exact hd) hmem))
    generalize ar (t.q d) 0=id at *
    clear hk1 hk2 hq hA2 HK HK0 hperm hW
    go_wp2_with (first
     | (go_at_call 142;refine hli.r λk5=>?_)
     | (go_at_call 272;refine (hF _).r λk6=>?_)
     | (go_at_call 273;refine (hDr _ (by first|exact (mR.drewN _)|exact (mR.drewN _).drewN _)).s λw' hE=>?_))
    go_ret2
    exact ⟨rfl,hE.gain1⟩
  ·obtain rfl:j=2:=by omega
   obtain ⟨e1,e2,e3⟩:=HK0.out (hj1 oM) (hj2 oM)
   subst e1 e2 e3
   have HG:=zh (hW.keep hM2).gain1
   clear HK HK0 hW hA hA2 hj1 hj2
   go_wp2
   go_ret2
   exact ⟨rfl,HG.out⟩
end
section
variable {F:List Nat} {w u:wW} {b tb wb cnt:Nat} {ids:List Nat} {f:Int -> Option Int} {g:Option Nat} {cap:Nat} {D:Nat -> Nat} {n:Nat} {q:Nat -> List Int} {t:dj}
theorem yh (h:(fh b t).holds F w) (cpu:Int):Calls tp 310 #[vp (sS ⟨b,0,nN⟩),vi iQ cpu] w (al (fh b (t.unbind cpu)) F (.tuple #[vi iQ (t.unbindV cpu),vi iQ (t.unbindE cpu)]) w):=by
 obtain ⟨hok,tb,wb,cnt,ids,g,cap,D,hI,hA⟩:=ij h
 have hm:=nA hA.wkC.2.1 hok.2.1 cpu 0
 have hB:=λk=>hA.keep (u':=w.drewN k) (mR.drewN k)
 have H:=zh (λk=>(hB k).workOk hok rfl rfl hI rfl)
 by_cases hi:t.is cpu 0
 case neg=>
  have e:t.unbindE cpu=3:=pG hi
  rw [show t.unbind cpu=t from nG (by rw [e];decide),show t.unbindV cpu=0 from nG (by rw [e];decide),e]
  rw [nG (show ¬ (0 <= cpu /\ cpu<t.n) from hi)] at hm
  clear hA h hi e hB
  go_in
  go_wp2_with (go_at_call 140;refine hm.r λk=>?_)
  go_ret2
  exact ⟨rfl,H.out _⟩
 rw [pG (show 0 <= cpu /\ cpu<t.n from hi)] at hm
 have hE0:t.unbindE cpu=if t.at cpu=[] then 12 else 0:=by unfold dj.unbindE;rw [nG (λx=>x hi)]
 obtain ⟨h1,h2⟩:=hi
 obtain ⟨c,hcp⟩:=iN (show 0 <= cpu+1 by omega)
 have hc:c<t.n+1:=by omega
 have hc0:c≠0:=by omega
 have h0n:0<t.n+1:=by omega
 have hnn:t.n+1 <= 65:=by have:=hok.2.1;omega
 have hcl:cpu=(c:Int) - 1:=by omega
 obtain ⟨gb,rfl,kp⟩:=hA.wkPtr hc
 obtain ⟨k0,k1,kw,_,_⟩:=hA.wkC
 have hat:t.at cpu=t.q c:=by unfold dj.at;rw [hcp];rfl
 rw [hat] at hE0
 simp only [rA] at hm k1
 have hl:=λk=>ik (CR k1 k) (CR kp k) hc hnn cpu hcl
 have hP:=λk=>(hB k).wkDo (P:=tp) (fn:=269) hc (λF1 hF=>oT hF)
 by_cases hq:t.q c=[]
 ·rw [pG hq] at hE0
  rw [show t.unbind cpu=t from nG (by rw [hE0];decide),show t.unbindV cpu=0 from nG (by rw [hE0];decide),hE0]
  have e1:aq t.q c (t.q c).tail=t.q:=by
   funext i
   by_cases e:i=c
   ·subst e;rw [ah,hq];rfl
   ·rw [ao _ _ e]
  rw [e1,show cd (t.q c)=0 by rw [hq];rfl,show dN (t.q c)=12 from pG hq] at hP
  clear h hA hB e1 hE0 hq hat hcp hcl
  go_in
  go_wp2_with (first
   | (go_at_call 140;refine hm.r λk=>?_)
   | (go_at_call 142;refine (hl _).r λk2=>?_)
   | (go_at_call 269;(try rw [World.drewN_drewN]);refine (hP _).s λw2 hC=>?_;have HC:=zh hC;clear hC hP))
  go_ret2
  exact ⟨rfl,HC.out.workOk hok rfl rfl hI rfl⟩
 ·rw [nG hq] at hE0
  have eM:t.unbind cpu=⟨t.n,aq (aq t.q c (t.q c).tail) 0 (t.q 0++[ar (t.q c) 0])⟩:=by unfold dj.unbind;rw [pG hE0,hat,hcp];rfl
  have eV:t.unbindV cpu=ar (t.q c) 0:=by unfold dj.unbindV;rw [pG hE0,hat]
  rw [eM,eV,hE0]
  rw [show cd (t.q c)=ar (t.q c) 0 from rfl,show dN (t.q c)=0 from nG hq] at hP
  have hperm:=lU hq
  obtain ⟨hx,hw2⟩:=xY hok.2.2 hc hperm
  have hmem:ar (t.q c) 0∈t.q c:=hperm.mem_iff.2 List.mem_cons_self
  have hb:=hok.2.2.bd c _ hc hmem
  have hwn:dm (t.n+1) (aq t.q c (t.q c).tail) (ar (t.q c) 0)=none:=by rw [hw2,pG rfl]
  obtain ⟨hx3,hw3,hlen⟩:=rR hx hwn hb.1 hb.2 h0n
  have hgd:aq t.q c (t.q c).tail 0=t.q 0:=ao _ _ (Ne.symm hc0)
  rw [hgd] at hx3 hw3 hlen
  have hpe:cT 32 (t.q 0) (ar (t.q c) 0)=0:=by
   have:=dS.1 hwn 0 h0n
   rw [hgd] at this
   unfold cT;rw [nG this,nG oM]
  have hps:kM 32 (t.q 0) (ar (t.q c) 0)=t.q 0++[ar (t.q c) 0]:=pG hpe
  have hw4:∀ j,dm (t.n+1) (aq (aq t.q c (t.q c).tail) 0 (t.q 0++[ar (t.q c) 0])) j=if j=ar (t.q c) 0 then sS 0 else dm (t.n+1) t.q j:=by
   intro j
   rw [hw3,hw2]
   by_cases e:j=ar (t.q c) 0
   ·rw [pG e,pG e]
   ·rw [nG e,nG e,nG e]
  have hI2:kL ids (t.n+1) (aq (aq t.q c (t.q c).tail) 0 (t.q 0++[ar (t.q c) 0])):=wK hI (λj=>by
   rw [hw4]
   by_cases e:j=ar (t.q c) 0
   ·rw [pG e,e,gD.2 ⟨c,hc,hmem⟩];rfl
   ·rw [nG e])
  have hO:=yi hw4
  have HM:=zh (And.intro hI2 (And.intro hx3 hO))
  generalize ar (t.q c) 0=x at *
  clear h hA hE0 hq hperm hw2 hmem hb hI2 hx3 hx hwn hw3 hlen eM eV hcp hcl hat hw4 hO hB
  go_in
  go_wp2_with (first
   | (go_at_call 140;refine hm.r λk=>?_)
   | (go_at_call 142;refine (hl _).r λk2=>?_;clear hl)
   | (
    go_at_call 269
    (try rw [World.drewN_drewN])
    refine (hP _).s λw2 hC=>?_
    obtain ⟨d0,d1,d2,_,_⟩:=hC.wkC
    obtain ⟨w3,cnt3,hput,hD⟩:=hC.wkPut x (-1)
    obtain ⟨f0,f1,f2,_,_⟩:=hD.wkC
    obtain ⟨gb2,e2,dp⟩:=hD.wkPtr h0n
    cases e2
    simp only [rA] at f1
    have hli:=ik f1 dp h0n hnn (-1) rfl
    have hG:=λk=>(hD.keep (u':=w3.drewN k) (mR.drewN k)).wkDo (P:=tp) (fn:=143) (L:=t.q 0++[x]) (v:=vi iQ 0) h0n (λF1 hF=>by rw [hgd] at hF;have:=iy hF x;rwa [hpe,hps] at this)
    clear hC hP hD kp k1 k0 kw
    )
   | (go_at_call 142;refine hli.r λk3=>?_)
   | (go_at_call 143;refine (hG _).s λw4 hE=>?_))
  go_ret2
  exact ⟨rfl,hE.workOk (t:=⟨t.n,aq (aq t.q c (t.q c).tail) 0 (t.q 0++[x])⟩) ⟨hok.1,hok.2.1,HM.out.2.1⟩ rfl rfl HM.out.1 HM.out.2.2⟩
end
def wk0 (n:Nat):dj:=⟨n,λ_=>[]⟩
theorem wkI0 (N:Nat):yj N (λ_=>[])=λ_=>none:=by
 funext id
 unfold yj
 have:dm N (λ_=>[]) id=none:=dS.2 (λc _ h=>by cases h)
 rw [this]
theorem Fz (n:Nat) (h1:1 <= n) (h2:n <= 64) (w:wW):Calls tp 51 #[vi iQ n] w (cN (λd:Nat=>.tuple #[vp (sS ⟨d,0,nN⟩),vi iQ 0]) (λd=>fh d (wk0 n)) [] w):=by
 have hS:=(On.start w).make (nH 32 oM oM w)
 have hmk:=λw=>run_makeMap (P:=tp) 75 w
 go_in
 go_wp2_with (first
  | (
   go_at_call 99
   refine hS.mono ?_
   rintro e w1 ⟨tb,rfl,hA⟩
   have hB:On [] w (eH (w1.heap.size+1) tb w1.heap.size 0 [] (λ_=>nN) nN 0 (λ_=>0) 0 (λ_=>[])) ((w1.alloc (.map #[] 0)).alloc (.cells #[vp (sS ⟨tb,0,nN⟩),.slice nN 0 0,.map (sS w1.heap.size)] 193 (0,0))):=by
    have x2:=(hA.fmNew.alloc (.cells #[vp (sS ⟨tb,0,nN⟩),.slice nN 0 0,.map (sS w1.heap.size)] 193 (0,0))).front
    rw [cm] at x2
    have x3:=x2.more (P:=kS 194 1 nN 0 0 []) ⟨rfl,lY.nil _ _ _⟩
    exact x3
   have HB:=zh hB
   clear hB hA hS
   )
  )
 generalize hd:w1.heap.size+1=d at *
 generalize hmb:w1.heap.size=mb at *
 go_loopg [28] (n+1) (λgg i wr=>∃ (j:Nat) (g:Option Nat) (cap:Nat) (D:Nat -> Nat),i=vi iQ j /\ j+gg=n+1 /\ On [] w (eH d tb mb 0 [] (λ_=>nN) g cap D j (λ_=>[])) wr)
 case atStart=>exact ⟨0,nN,0,λ_=>0,rfl,by omega,HB.out⟩
 case round=>
  clear HB
  obtain ⟨j,g,cap,D,rfl,hj,hB⟩:=hrel
  by_cases hlt:j<n+1
  ·have hltI:(j:Int)<n+1:=by omega
   have hN:=hB.make (uv 32 oM oM wr)
   go_wp2_with (first
    | (
     go_at_call 102
     refine hN.mono ?_
     rintro e w2 ⟨x,rfl,hC⟩
     have c1:=hC.cell 0 rfl 1
     have hC2:=hC.keep (u':=w2.alloc (.cells #[vp (sS ⟨x,0,nN⟩)] 194 (0,0))) (mR.alloc _)
     unfold eH at hC2
     rw [List.append_nil] at hC2
     obtain ⟨g',cap',w3,hrun,hD⟩:=hC2.famMore (P:=tp) (tt:=191) (bytes:=8) Tryz.underlying191 GP oM oM (b:=w2.heap.size) (d:=x) (ai _ _)
     have c3:=hD.cell 0 rfl 1
     have f3:=hD.free 0 rfl 1
     have z3:=hD.size 0 rfl
     have HD:=zh hD
     clear hC hC2 hN hB hD
     )
    | (
     at_builtin
     refine aM rfl _ _ _ rfl rfl rfl (hrun _) ?_
     )
    )
   have hE:=HD.out.set 0 rfl 1 (.slice (sS ⟨g',0,nN⟩) (j+1) cap')
   go_roundg (gk - 1)
   case measure=>omega
   case rel=>
    refine ⟨j+1,sS g',cap',aq D j x,by go_num,by omega,?_⟩
    have e:aq (λc=>aQ (D c) 32 []) j (aQ x 32 [])=λi=>aQ (aq D j x i) 32 []:=by
     funext i
     by_cases e:i=j
     ·subst e;rw [ah,ah]
     ·rw [ao _ _ e,ao _ _ e]
    rw [e] at hE
    unfold eH
    rw [List.append_nil]
    exact hE
  ·have hltI:¬ (j:Int)<n+1:=by omega
   obtain rfl:j=n+1:=by omega
   have HB:=zh hB
   clear hB
   go_wp2
   go_ret2
   refine ⟨d,rfl,?_⟩
   exact HB.out.workOk (t:=wk0 n) ⟨h1,h2,KW _⟩ rfl rfl (JR _) (wkI0 _).symm
structure KP where
 ow:Nat
 th:Nat
 rq:Nat
 tm:Nat
 iq:Nat
 rt:Nat
 wk:Nat
 cb:Nat
 ob:Nat
 ct:Nat
 gt:Nat
 co:Nat
 mt:Nat
 sp:Nat
 dk:Nat
 cnt:Nat
 g:Option Nat
 cap:Nat
 D:Nat -> Nat
def pq (b:Nat):Value:=vp (sS ⟨b,0,nN⟩)
def ua (p:KP) (k:KT):Array Value:=#[pq p.th,pq p.rq,pq p.tm,pq p.iq,pq p.rt,pq p.wk,pq p.cb,pq p.ob,pq p.ct,pq p.gt,pq p.sp,pq p.dk,pq p.co,pq p.mt,.slice (rA p.g) k.n p.cap,vi iQ k.n,vi uQ (k.online:Nat),vi uQ (k.active:Nat),vi iQ k.now,vi iQ k.limit,.map (sS p.ow)]
def ag (b:Nat) (p:KP) (k:KT):List ak:=
 [ak.blk b (.cells (ua p k) 91 (0,0)),dD p.ow p.cnt (ew k.own),bQ p.th k.th,dK p.rq k.rq,bh p.tm k.tm,fL p.iq k.iq,fV p.rt k.rt,fh p.wk k.wk,iR p.cb k.cb,fR p.ob k.ob,lf p.ct k.ct,ji p.gt k.gt,dP p.co k.co,Im p.mt k.mt,eP p.sp k.sp,dV p.dk k.dk]
  ++ js 134 p.g p.cap k.n p.D (λc=>fC (p.D c) (k.gv c))++[]
structure KT.ok (k:KT):Prop where
 n1:1 <= k.n
 n2:k.n <= 64
 th:k.th.n=k.n
 rq:k.rq.n=k.n
 tm:k.tm.n=k.n
 wk:k.wk.n=k.n
 cb:k.cb.n=k.n
 ob:k.ob.n=k.n
 ct:k.ct.length=k.n
 gt:k.gt.l.length=k.n
 co:k.co.n=k.n
 mt:k.mt.n=k.n
 rt:k.rt.n=k.n
 iq:k.iq.cpus=bw k.n
 on:k.online<2 ^ 64
 ac:k.active<2 ^ 64
 now:0 <= k.now /\ k.now <= 1152921504606846976
 lim:0 <= k.limit /\ k.limit <= 1073741824
def aa (b:Nat) (k:KT):ak:=ak.such k.ok (ak.ex λp:KP=>ak.star (ag b p k))
section
variable {F:List Nat} {w u:wW} {b:Nat} {p:KP} {k:KT}
theorem ad (h:(aa b k).holds F w):k.ok /\ ∃ p,On F w (ag b p k) w:=by
 obtain ⟨h1,p,h2⟩:=h
 exact ⟨h1,p,On.of h2⟩
theorem On.kernel (h:On F w (ag b p k) u) (hok:k.ok):dt (aa b k) F w u:=h.gains.imp λF' h'=>⟨hok,p,h'⟩
theorem On.kC (h:On F w (ag b p k) u) (o:Nat):u.cell? ⟨b,o,nN⟩=(ua p k)[o]?:=h.cell 0 rfl o
theorem On.kF (h:On F w (ag b p k) u) (o:Nat):u.frozen? ⟨b,o,nN⟩=fF:=h.free 0 rfl o
end
theorem IU (v:Value) (e:Value) (w:wW):Calls tp 40 #[v,e] w (λe w'=>e=.returned v /\ w'=w):=by
 go_in
 go_wp2
 go_ret
 exact ⟨rfl,rfl⟩
theorem IW (v:Value) (e:Value) (w:wW):Calls tp 42 #[v,e] w (λe w'=>e=.returned v /\ w'=w):=by
 go_in
 go_wp2
 go_ret
 exact ⟨rfl,rfl⟩
theorem IS (v:Value) (e:Value) (w:wW):Calls tp 44 #[v,e] w (λe w'=>e=.returned v /\ w'=w):=by
 go_in
 go_wp2
 go_ret
 exact ⟨rfl,rfl⟩
theorem IZ (v:Value) (e:Value) (w:wW):Calls tp 46 #[v,e] w (λe w'=>e=.returned v /\ w'=w):=by
 go_in
 go_wp2
 go_ret
 exact ⟨rfl,rfl⟩
theorem IV (v:Value) (e:Value) (w:wW):Calls tp 48 #[v,e] w (λe w'=>e=.returned v /\ w'=w):=by
 go_in
 go_wp2
 go_ret
 exact ⟨rfl,rfl⟩
theorem IQ (v:Value) (e:Value) (w:wW):Calls tp 50 #[v,e] w (λe w'=>e=.returned v /\ w'=w):=by
 go_in
 go_wp2
 go_ret
 exact ⟨rfl,rfl⟩
theorem Je (v:Value) (e:Value) (w:wW):Calls tp 52 #[v,e] w (λe w'=>e=.returned v /\ w'=w):=by
 go_in
 go_wp2
 go_ret
 exact ⟨rfl,rfl⟩
theorem IX (v:Value) (e:Value) (w:wW):Calls tp 54 #[v,e] w (λe w'=>e=.returned v /\ w'=w):=by
 go_in
 go_wp2
 go_ret
 exact ⟨rfl,rfl⟩
theorem Jc (v:Value) (e:Value) (w:wW):Calls tp 56 #[v,e] w (λe w'=>e=.returned v /\ w'=w):=by
 go_in
 go_wp2
 go_ret
 exact ⟨rfl,rfl⟩
theorem Jb (v:Value) (e:Value) (w:wW):Calls tp 58 #[v,e] w (λe w'=>e=.returned v /\ w'=w):=by
 go_in
 go_wp2
 go_ret
 exact ⟨rfl,rfl⟩
theorem Jd (v:Value) (e:Value) (w:wW):Calls tp 60 #[v,e] w (λe w'=>e=.returned v /\ w'=w):=by
 go_in
 go_wp2
 go_ret
 exact ⟨rfl,rfl⟩
theorem IY (v:Value) (e:Value) (w:wW):Calls tp 62 #[v,e] w (λe w'=>e=.returned v /\ w'=w):=by
 go_in
 go_wp2
 go_ret
 exact ⟨rfl,rfl⟩
theorem Ja (v:Value) (e:Value) (w:wW):Calls tp 64 #[v,e] w (λe w'=>e=.returned v /\ w'=w):=by
 go_in
 go_wp2
 go_ret
 exact ⟨rfl,rfl⟩
/-- 21 cells, in the making. -/
def kw (f:Nat -> Value):Array Value:=#[f 0,f 1,f 2,f 3,f 4,f 5,f 6,f 7,f 8,f 9,f 10,f 11,f 12,f 13,f 14,f 15,f 16,f 17,f 18,f 19,f 20]
theorem Kk (f:Nat -> Value) (i:Nat) (hi:i<21) (v:Value):(kw f).setIfInBounds i v=kw (aq f i v):=by
 have:i=0 \/ i=1 \/ i=2 \/ i=3 \/ i=4 \/ i=5 \/ i=6 \/ i=7 \/ i=8 \/ i=9 \/ i=10 \/ i=11 \/ i=12 \/ i=13 \/ i=14 \/ i=15 \/ i=16 \/ i=17 \/ i=18 \/ i=19 \/ i=20:=by omega
 rcases this with rfl|rfl|rfl|rfl|rfl|rfl|rfl|rfl|rfl|rfl|rfl|rfl|rfl|rfl|rfl|rfl|rfl|rfl|rfl|rfl|rfl<;>rfl
theorem Kl (f:Nat -> Value) (i:Nat) (hi:i<21):(kw f)[i]?=sS (f i):=by
 have:i=0 \/ i=1 \/ i=2 \/ i=3 \/ i=4 \/ i=5 \/ i=6 \/ i=7 \/ i=8 \/ i=9 \/ i=10 \/ i=11 \/ i=12 \/ i=13 \/ i=14 \/ i=15 \/ i=16 \/ i=17 \/ i=18 \/ i=19 \/ i=20:=by omega
 rcases this with rfl|rfl|rfl|rfl|rfl|rfl|rfl|rfl|rfl|rfl|rfl|rfl|rfl|rfl|rfl|rfl|rfl|rfl|rfl|rfl|rfl<;>rfl
section
variable {F:List Nat} {w u:wW} {b:Nat} {f:Nat -> Value} {l:List ak}
theorem On.wSet (h:On F w (ak.blk b (.cells (kw f) 91 (0,0)) :: l) u) (i:Nat) (hi:i<21) (v:Value):On F w (ak.blk b (.cells (kw (aq f i v)) 91 (0,0)) :: l) (u.setCell ⟨b,i,nN⟩ v):=by
 have:=h.set 0 rfl i v
 rwa [Kk f i hi] at this
theorem On.wCell (h:On F w (ak.blk b (.cells (kw f) 91 (0,0)) :: l) u) (i:Nat) (hi:i<21):u.cell? ⟨b,i,nN⟩=sS (f i):=by rw [h.cell 0 rfl i,Kl f i hi]
theorem On.wFree (h:On F w (ak.blk b (.cells (kw f) 91 (0,0)) :: l) u) (i:Nat):u.frozen? ⟨b,i,nN⟩=fF:=h.free 0 rfl i
end
def EJ:dq:=Jv 100 1000
theorem Ks:(tp.info? 134).map (λi=>(i.zero,i.size,i.bytes))=sS (sS (vp nN),1,8):=by kernel_rfl
def k0 (n:Nat):KT:=⟨n,JX n,KH n,Ll n,it0 n,rt0 n,wk0 n,cb0 n,st0 n,List.replicate n 0,⟨List.replicate n 0,0⟩,⟨0,0⟩,sh0,KM n,KY n,λ_=>EJ,bw n,bw n,0,1073741824,λ_=>nN⟩
theorem Lb {n:Nat} (h1:1 <= n) (h2:n <= 64):(k0 n).ok:=by
 refine ⟨h1,h2,rfl,rfl,rfl,rfl,rfl,rfl,?_,?_,rfl,rfl,rfl,?_,iB _,iB _,?_,?_⟩
 ·simp [k0]
 ·simp [k0]
 ·rfl
 ·simp [k0]
 ·simp [k0]
def kT (r:cX):List Value:=[vi iQ r.kind,vi iQ r.cpu,vi iQ r.id,vi iQ r.n,vi iQ r.why]
/-- A new slice of records. -/
def gC (l:List cX) (w:wW) (e:Ending) (w':wW):Prop:=∃ a c,e=.returned (.slice a l.length c) /\ af [] w w' /\ (l=[] /\ a=nN /\ c=0 \/ c=l.length /\ ∃ g,a=sS ⟨g,0,nN⟩ /\ w.heap.size <= g /\ w'.heap[g]?=sS (.cells (cC [] l.length (λi=>kT (l.getD i ⟨0,0,0,0,0⟩)) []) 63 (0,0)))
theorem bs (id why:Int) (w:wW):Calls tp 69 #[vi iQ id,vi iQ why] w (gC (aX id why) w):=by
 unfold aX
 by_cases h:why=0
 ·subst h
  rw [pG rfl]
  go_in
  go_wp2
  go_ret
  exact ⟨_,1,rfl,mR.alloc _,.inr ⟨rfl,_,rfl,Nat.le_refl _,ai _ _⟩⟩
 ·rw [nG h]
  have hI:(why==0)=fF:=by simpa using h
  have hI2:(why != 0)=tQ:=by simpa using h
  go_in
  go_wp2
  go_ret
  exact ⟨_,1,rfl,mR.alloc _,.inr ⟨rfl,_,rfl,Nat.le_refl _,ai _ _⟩⟩
theorem aD (why:Int) (w:wW):Calls tp 66 #[vi iQ why] w (gC (aX 0 why) w):=by
 have hA:=λw=>bs 0 why w
 go_in
 go_wp2_with (go_at_call 69;refine (hA _).mono ?_;rintro e w' ⟨a,c,rfl,h⟩)
 go_ret
 exact ⟨a,c,rfl,h⟩
section
variable {F:List Nat} {w u:wW} {b:Nat} {p:KP} {k:KT} {l:List ak}
/-- A call that only reads what lies at k. -/
theorem On.tells {P:Program} {f:FuncId} {args:Array Value} {v:Value} {F0:List Nat} {w0 u:wW} {l:List ak} {R:ak} (h:On F0 w0 l u) (k:Nat) (hk:l[k]?=sS R) (hc:∀ F,R.holds F u -> Calls P f args u (λe u'=>e=.returned v /\ af [] u u')):
  Calls P f args u (λe u'=>e=.returned v /\ On F0 w0 l u' /\ af [] u u'):=by
 obtain ⟨F,h1⟩:=h.get k hk
 refine (hc F h1).s λu' m=>?_
 exact ⟨rfl,h.keep m,m⟩
theorem On.tab (h:On F w l u) (hT:bA w) (hF:tzL_ren.g 1∉F):bA u:=hT.keep h.mod hF
theorem On.callU {P:Program} {f:FuncId} {args:Array Value} {v:Value} {R R':ak} (h:On F w l u) (hT:bA w) (hF:tzL_ren.g 1∉F) (j:Nat) (hj:l[j]?=sS R) (hc:∀ F1,R.holds F1 u -> bA u -> tzL_ren.g 1∉F1 -> Calls P f args u (al R' F1 v u)):
  Calls P f args u (λe u'=>e=.returned v /\ On F w (l.set j R') u'):=by
 obtain ⟨F1,h1,h2,h3⟩:=h.gain (P':=R') j hj
 have ht:=hT.lt
 refine (hc F1 h1 (hT.keep h.mod hF) (λhb=>?_)).mono ?_
 ·rcases h2 _ hb with h|h
  ·exact hF h
  ·omega
 ·rintro e u' ⟨rfl,g⟩
  exact ⟨rfl,h3 g⟩
theorem dt.on {P:ak} (h:dt P F w u):On F w [P] u:=by
 obtain ⟨F',h1,h2,h3⟩:=h
 exact ⟨F',⟨F',[],by simp,h1,rfl,by simp⟩,h2,h3⟩
theorem sw {t:bP} (h:t.ok) (id:Int):(t.get id).mask<2 ^ 64:=by
 unfold bP.get
 cases hx:t.t id with
 | none=>decide
 | some x=>exact h.msk _ _ hx
theorem lS (h:On F w (ag b p k) u):k.th.ok:=by
 obtain ⟨F1,h1,_⟩:=h.get 2 rfl
 exact h1
theorem KT.ok.putT (h:k.ok) (id near:Int):(k.putT id near).ok:=by
 refine ⟨h.n1,h.n2,?_,?_,h.tm,h.wk,h.cb,h.ob,h.ct,h.gt,h.co,h.mt,h.rt,h.iq,h.on,h.ac,h.now,h.lim⟩
 ·show (k.th.place _ _ _).n=k.n
  unfold bP.place;split<;>exact h.th
 ·show (k.rq.put _ _ _).n=k.n
  unfold RQ.put;split<;>exact h.rq
theorem ky (h:(aa b k).holds F w) (hT:bA w) (hF:tzL_ren.g 1∉F) (id near:Int):Calls tp 118 #[vp (sS ⟨b,0,nN⟩),vi iQ id,vi iQ near] w (al (aa b (k.putT id near)) F (.tuple #[]) w):=by
 obtain ⟨hok,p,hA⟩:=ad h
 have hok2:=hok.putT id near
 have c0:w.cell? ⟨b,0,nN⟩=sS (vp (sS ⟨p.th,0,nN⟩)):=hA.kC 0
 have hG:=hA.tells 2 rfl (λF1 h1=>iC h1 id)
 have hmk:=sw (lS hA) id
 have hch:=λw hT=>ph (k.th.get id).mask k.active hmk hok.ac near w hT
 have eT:k.putT id near={ k with th:=k.th.place id (fE (k.th.get id).mask k.active near) (jj (k.th.get id).mask k.active),rq:=k.rq.put (fE (k.th.get id).mask k.active near) (k.th.get id).prio id }:=rfl
 rw [eT] at hok2 ⊢
 clear eT h hA
 generalize k.th.get id=x at *
 obtain ⟨pr,mk,cp,fo,sl,ti⟩:=x
 simp only [kZ] at *
 generalize fE mk k.active near=cv at *
 generalize pa mk k.active near=ce at *
 generalize jj mk k.active=cf at *
 have HO:=zh hok2
 clear hok2
 go_in
 go_wp2_with (
  go_at_call 119
  refine hG.mono ?_
  rintro e w1 ⟨rfl,hB,m1⟩
  have HX:=zh (hB.alloc (.cells #[vi iQ pr,vi uQ (mk:Nat),vi iQ cp,vb fo,vb sl,vi iQ ti] 237 (0,0))).front
  clear hB hG)
 generalize w1.alloc (.cells #[vi iQ pr,vi uQ (mk:Nat),vi iQ cp,vb fo,vb sl,vi iQ ti] 237 (0,0))=W at *
 generalize w1.heap.size=xb at *
 have x1:W.cell? ⟨xb,1,nN⟩=sS (vi uQ (mk:Nat)):=HX.out.cell 0 rfl 1
 have c17:W.cell? ⟨b,17,nN⟩=sS (vi uQ (k.active:Nat)):=HX.out.cell 1 rfl 17
 have hC:=λj=>hch (W.drewN j) ((HX.out.tab hT hF).drewN j)
 clear hch m1 c0
 go_region_held3 (λu=>u.cell? ⟨xb,1,nN⟩=sS (vi uQ (mk:Nat)) /\ u.cell? ⟨b,17,nN⟩=sS (vi uQ (k.active:Nat))) (exact ⟨by assumption,by assumption⟩) (first
  | (go_at_call 211;refine (hC _).r λk3=>?_))
 clear hC
 generalize hj:1+k3=j at *
 have hY:=HX.out.keep (u':=W.drewN j) (mR.drewN _)
 have c0:(W.drewN j).cell? ⟨b,0,nN⟩=sS (vp (sS ⟨p.th,0,nN⟩)):=hY.cell 1 rfl 0
 have hP:=hY.call (P:=tp) (f:=212) 3 rfl (λF1 h1=>nD h1 id cv cf)
 clear x1 c17 hY hj
 go_wp2_with (
  go_at_call 212
  refine hP.s λw3 hZ=>?_
  have hZ:On F w (ak.blk xb (.cells #[vi iQ pr,vi uQ (mk:Nat),vi iQ cp,vb fo,vb sl,vi iQ ti] 237 (0,0)) :: ag b p { k with th:=k.th.place id cv cf }) w3:=hZ
  have HZ:=zh hZ
  clear hZ hP)
 have x0:w3.cell? ⟨xb,0,nN⟩=sS (vi iQ pr):=HZ.out.cell 0 rfl 0
 have d1:w3.cell? ⟨b,1,nN⟩=sS (vp (sS ⟨p.rq,0,nN⟩)):=HZ.out.cell 1 rfl 1
 have hQ:=λj=>(HZ.out.keep (u':=w3.drewN j) (mR.drewN _)).call (P:=tp) (f:=213) 4 rfl (λF1 h1=>yQ h1 cv pr id)
 go_region_held3 (λu=>u.cell? ⟨xb,0,nN⟩=sS (vi iQ pr) /\ u.cell? ⟨b,1,nN⟩=sS (vp (sS ⟨p.rq,0,nN⟩))) (exact ⟨by assumption,by assumption⟩) (first
  | (
   go_at_call 213
   refine (hQ _).s λw4 hK=>?_
   have hK:On F w (ak.blk xb (.cells #[vi iQ pr,vi uQ (mk:Nat),vi iQ cp,vb fo,vb sl,vi iQ ti] 237 (0,0)) :: ag b p { k with th:=k.th.place id cv cf,rq:=k.rq.put cv pr id }) w4:=hK
   have x0:w4.cell? ⟨xb,0,nN⟩=sS (vi iQ pr):=hK.cell 0 rfl 0
   have d1:w4.cell? ⟨b,1,nN⟩=sS (vp (sS ⟨p.rq,0,nN⟩)):=hK.cell 1 rfl 1
   have HQ:=zh hK
   clear hK))
 go_wp2
 refine bodyPost_ret (results_none rfl _ _ _) rfl ?_
 exact ⟨rfl,(HQ.out.drop 0).kernel HO.out⟩
theorem KT.ok.spawned (h:k.ok) (q:Int) (m:Nat):KT.ok { k with th:=k.th.spawn q m }:=by
 refine ⟨h.n1,h.n2,?_,h.rq,h.tm,h.wk,h.cb,h.ob,h.ct,h.gt,h.co,h.mt,h.rt,h.iq,h.on,h.ac,h.now,h.lim⟩
 show (k.th.spawn _ _).n=k.n
 unfold bP.spawn;split<;>exact h.th
theorem oC (h:(aa b k).holds F w) (hT:bA w) (hF:tzL_ren.g 1∉F) (q:Int) (m:Nat) (hm:m<2 ^ 64):Calls tp 70 #[vp (sS ⟨b,0,nN⟩),vi iQ q,vi uQ (m:Nat)] w (al (aa b (k.spawn q m)) F (.tuple #[vi iQ (k.th.spawnV q m),vi iQ (k.th.spawnE q m)]) w):=by
 obtain ⟨hok,p,hA⟩:=ad h
 have hok2:=hok.spawned q m
 have c0:w.cell? ⟨b,0,nN⟩=sS (vp (sS ⟨p.th,0,nN⟩)):=hA.kC 0
 have hS:=hA.callU (P:=tp) (f:=117) hT hF 2 rfl (λF1 h1 hT1 hF1=>xl h1 hT1 hF1 q m hm)
 by_cases hE:k.th.spawnE q m=0
 ·have eK:k.spawn q m=({ k with th:=k.th.spawn q m }:KT).putT (k.th.spawnV q m) (k.th.spawnV q m % k.n):=pG hE
  rw [eK,hE]
  rw [hE] at hS
  have hV:k.th.spawnV q m=k.th.low:=pG hE
  have hlo:=tj 32 (λi=>(k.th.t i).isSome)
  have hv:1 <= k.th.spawnV q m /\ k.th.spawnV q m <= 33:=by
   rw [hV];unfold bP.low;omega
  generalize k.th.spawnV q m=v at *
  have hn1:=hok.n1
  have hn2:=hok.n2
  have hnI:(0:Int)<k.n:=by omega
  have hmod:Int.tmod v k.n=v % k.n:=Int.tmod_eq_emod_of_nonneg oM
  have HK:=zh hok2
  have HM:=zh hmod
  have hk0:((k.n:Int)==0)=fF:=by simp;omega
  clear hA h eK hE hV hlo hok2 hmod
  go_in
  go_wp2_with (first
   | (
    go_at_call 117
    refine hS.s λw1 hB=>?_
    have hB:On F w (ag b p { k with th:=k.th.spawn q m }) w1:=hB
    have c15:w1.cell? ⟨b,15,nN⟩=sS (vi iQ k.n):=hB.kC 15
    have hP:=(hB.kernel HK.out).on.callU (P:=tp) (f:=118) hT hF 0 rfl (λF1 h1 hT1 hF1=>ky h1 hT1 hF1 v (v % k.n))
    clear hB hS
    )
   | (
    go_at_call 118
    first|rw [HM.out]|skip
    refine hP.s λw2 hC=>?_
    have HC:=zh hC
    clear hC hP
    ))
  go_ret2
  exact ⟨rfl,HC.out.gain1⟩
 ·have eK:k.spawn q m=k:=nG hE
  have hSp:k.th.spawn q m=k.th:=nG hE
  rw [eK]
  rw [hSp] at hS
  have hEb:(k.th.spawnE q m==0)=fF:=by simpa using hE
  generalize k.th.spawnE q m=ee at *
  generalize k.th.spawnV q m=v at *
  have HK:=zh hok
  clear hA h eK hE hok2 hSp
  go_in
  go_wp2_with (
    go_at_call 117
    refine hS.s λw1 hB=>?_
    have HB:=zh (show On F w (ag b p k) w1 from hB)
    clear hB hS)
  go_ret2
  exact ⟨rfl,HB.out.kernel HK.out⟩
end
theorem ur {l:List Int} {f:Int -> Bool} (h:∀ i,i<l.length -> f (ar l i)=fF):l.find? f=none:=by
 rw [List.find?_eq_none]
 intro x hx
 obtain ⟨i,hi,rfl⟩:=List.getElem_of_mem hx
 have:=h i hi
 simp only [ar,List.getD,hi,List.getElem?_eq_getElem,Option.getD_some] at this
 simp [this]
theorem xR {l:List Int} {f:Int -> Bool} {j:Nat} (hj:j<l.length) (h:∀ i,i<j -> f (ar l i)=fF) (hy:f (ar l j)=tQ):l.find? f=sS (ar l j):=by
 rw [List.find?_eq_some_iff_getElem]
 refine ⟨hy,j,hj,by simp [ar,List.getD,hj],λi hi=>?_⟩
 have:=h i hi
 simp only [ar,List.getD,Nat.lt_trans hi hj,List.getElem?_eq_getElem,Option.getD_some] at this
 simp [this]
/-- The place of the first one that is so; -1: there is none. -/
def CV (f:Int -> Bool) (l:List Int) (kk:Int):Prop:=kk=-1 /\ l.find? f=nN \/ ∃ j:Nat,j<l.length /\ kk=j /\ l.find? f=sS (ar l j)
theorem zX {F:List Nat} {w:wW} {q:Nat} {t:IT} (h:(fL q t).holds F w) (a:Option Addr) (cap:Nat) (l:List Int) (hI:bN w a l) (hlen:l.length<1000):Calls tp 169 #[.slice a l.length cap,.func (.func 87) #[vp (sS ⟨q,0,nN⟩)] #[]] w
  (λe w'=>∃ kk,e=.returned (vi iQ kk) /\ aA w w' /\ CV t.ready l kk):=by
 obtain ⟨n,hn⟩:∃ n,l.length=n:=⟨_,rfl⟩
 rw [hn] at hlen ⊢
 have hN:=zh hn
 clear hn
 go_in
 go_wp2
 go_loopg [8] n (λgg i wr=>∃ (j:Nat),i=vi iQ j /\ j+gg=n /\ aA w wr /\ ∀ i,i<j -> t.ready (ar l i)=fF)
 case atStart=>exact ⟨0,rfl,by omega,aA.refl _,λi hi=>by omega⟩
 case round=>
  obtain ⟨j,rfl,hj,hD,hlo⟩:=hrel
  by_cases hlt:j<n
  ·have hltI:(j:Int)<n:=by omega
   have hIr:=hI.same hD.heap
   obtain ⟨b,rfl,_,hc⟩:=hIr.resolve_left (λe=>by rw [e] at hN;have:=hN.out;simp at this;omega)
   have cj:=hc j (by rw [hN.out];exact hlt)
   have hR:=Ez ((fL q t).keep h (hD.mod (S:=[])) sM) (ar l j)
   have hlo':=zh hlo
   clear hc hIr hI hlo
   cases hr:t.ready (ar l j)
   ·rw [hr] at hR
    have hr':=zh hr
    clear hr
    generalize hx:ar l j=x at *
    have hx':=zh hx
    clear hx h
    go_wp2_with (go_at_call 87;refine hR.r λk=>?_)
    go_roundg (gk - 1)
    case measure=>omega
    case rel=>
     refine ⟨j+1,by go_num,by omega,hD.drewN _,λi hi=>?_⟩
     by_cases e:i=j
     ·subst e;rw [hx'.out];exact hr'.out
     ·exact hlo'.out i oM
   ·rw [hr] at hR
    have hf:=zh (show CV t.ready l (j:Int) from .inr ⟨j,by rw [hN.out];exact hlt,rfl,xR (by rw [hN.out];exact hlt) hlo'.out hr⟩)
    clear hr
    generalize ar l j=x at *
    clear h
    go_wp2_with (go_at_call 87;refine hR.r λk=>?_)
    go_ret
    exact ⟨j,rfl,hD.drewN _,hf.out⟩
  ·have hltI:¬ (j:Int)<n:=by omega
   have hf:=zh (show CV t.ready l (-1) from .inl ⟨rfl,ur (l:=l) (f:=t.ready) (λi hi=>hlo i (by have:=hN.out;omega))⟩)
   clear hlo hI h
   go_wp2
   go_ret
   exact ⟨-1,rfl,hD,hf.out⟩
section
variable {F:List Nat} {w u:wW} {b:Nat} {p:KP} {k:KT}
theorem ov (hA:On F w (ag b p k) u) (cpu:Int):Calls tp 177 #[vp (sS ⟨b,0,nN⟩),vi iQ cpu] u (λe u'=>e=.returned (.tuple #[vi iQ ((k.waits cpu).getD 0),vb (k.waits cpu).isSome]) /\ af [] u u'):=by
 have c4:u.cell? ⟨b,4,nN⟩=sS (vp (sS ⟨p.rt,0,nN⟩)):=hA.kC 4
 have c3:u.cell? ⟨b,3,nN⟩=sS (vp (sS ⟨p.iq,0,nN⟩)):=hA.kC 3
 obtain ⟨F4,h4⟩:=hA.get 6 rfl
 obtain ⟨F3,h3⟩:=hA.get 5 rfl
 have hOn:=yR h4 cpu
 have hlen:=rL k.rt cpu 16
 have hw:k.waits cpu=(k.rt.onL cpu 16).find? k.iq.ready:=rfl
 rw [hw]
 generalize k.rt.onL cpu 16=l at *
 have hIx:=λu' (m:af [] u u') a cap (hI:bN u' a l)=>zX ((fL p.iq k.iq).keep h3 m sM) a cap l hI oM
 obtain ⟨n,hn⟩:∃ n,l.length=n:=⟨_,rfl⟩
 have hN:=zh hn
 rw [hn] at hIx
 clear hA h4 h3 hw hn hlen
 have key:∀ kk,CV k.iq.ready l kk -> (kk=-1 /\ l.find? k.iq.ready=nN) \/ ∃ j:Nat,j<n /\ kk=j /\ l.find? k.iq.ready=sS (ar l j):=λkk h=>by rw [<- hN.out];exact h
 cases hfi:l.find? k.iq.ready with
 | none=>
  rw [hfi] at key
  clear hfi
  go_in
  go_wp2_with (first
   | (
    go_at_call 255
    refine hOn.mono ?_
    intro e w2 hm2
    obtain ⟨a2,c2,e2,m2,i2,n2⟩:=hm2.newL
    rw [hN.out] at e2
    subst e2
    have d3:=m2.at c3 sM
    have hIx2:=hIx w2 m2 a2 c2 i2
    clear hIx hOn hm2)
   | (
    go_at_call 169
    refine hIx2.mono ?_
    rintro e w3 ⟨kk,rfl,hD,hk⟩
    have hk:=key kk hk
    clear key hIx2
    obtain rfl:kk=-1:=by
     rcases hk with ⟨h,_⟩|⟨j,_,_,h⟩
     ·exact h
     ·cases h
    clear hk i2
    ))
  go_ret2
  exact ⟨rfl,m2.trans (hD.mod (S:=[])) sM⟩
 | some v=>
  rw [hfi] at key
  clear hfi
  go_in
  go_wp2_with (first
   | (
    go_at_call 255
    refine hOn.mono ?_
    intro e w2 hm2
    obtain ⟨a2,c2,e2,m2,i2,n2⟩:=hm2.newL
    rw [hN.out] at e2
    subst e2
    have d3:=m2.at c3 sM
    have hIx2:=hIx w2 m2 a2 c2 i2
    clear hIx hOn hm2)
   | (
    go_at_call 169
    refine hIx2.mono ?_
    rintro e w3 ⟨kk,rfl,hD,hk⟩
    have hk:=key kk hk
    clear key hIx2
    obtain ⟨j,hj,rfl,hv⟩:∃ j:Nat,j<n /\ kk=j /\ v=ar l j:=by
     rcases hk with ⟨_,h⟩|⟨j,h1,h2,h⟩
     ·cases h
     ·exact ⟨j,h1,h2,Option.some.inj h⟩
    clear hk
    obtain ⟨gb,rfl,_,i3⟩:=i2.resolve_left (λe=>by rw [e] at hN;have:=hN.out;simp at this;omega)
    have cj:=(hD.mod (S:=[])).at (i3 j (by rw [hN.out];exact hj)) sM
    rw [<- hv] at cj
    have hjI:(j:Int)<n:=by omega
    clear i3 i2 hv
    ))
  go_ret2
  exact ⟨rfl,m2.trans (hD.mod (S:=[])) sM⟩
end
end Go.Proofs.YtmiapbgkphpgoaaGreatDoor