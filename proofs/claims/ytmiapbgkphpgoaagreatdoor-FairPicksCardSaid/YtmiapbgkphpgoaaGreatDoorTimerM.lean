/- Walks and plain laws of the kernel. No condition. -/
import Derived.Test.YtmiapbgkphpgoaaGreatDoorBaseM
import Derived.Test.YtmiapbgkphpgoaaGreatDoorKAM
import Derived.Shelf.Spec.TrailingZeros
import Derived.Deep.OwnRows
import Derived.Test.YtmiapbgkphpgoaaGreatDoorWheelRefM
import Derived.Test.YtmiapbgkphpgoaaGreatDoorWheelM
namespace Go.Proofs.YtmiapbgkphpgoaaGreatDoor
set_option linter.unusedVariables false
set_option linter.unusedSimpArgs false
set_option maxRecDepth 100000
set_option maxHeartbeats 20000000
open Go.RowKit
open Go.Proofs.Tryz renaming prog → tp
open List renaming setIfInBounds_toArray → sA, set_cons_zero → sB, set_cons_succ → sC
open Go renaming World → wW
open Go.Value renaming pointer → vp, bool → vb, int → vi
open Go.IntKind renaming i64 → iQ, u64 → uQ
open Option renaming none → nN, some → sS
open Bool renaming true → tQ, false → fF
open Int renaming eq_ofNat_of_zero_le → iN
/-- The library's table lies in its variable. -/
def bA (w:wW):Prop:=Go.Proofs.TabAt (tzL_ren.g 1) Lib.deBruijn64tab w
theorem bA.lt {w:wW} (h:bA w):tzL_ren.g 1<w.heap.size:=jG (h 0 dE)
theorem bA.keep {S:List Nat} {w w':wW} (h:bA w) (m:af S w w') (hS:tzL_ren.g 1∉S):bA w':=λj hj=>m.at (h j hj) hS
theorem bA.drewN {w:wW} (h:bA w) (k:Nat):bA (w.drewN k):=h.keep (S:=[]) (mR.drewN k) sM
/-- n is the least number from 1 on that is not in l. -/
def qY (l:List Nat) (n:Nat):Prop:=1 <= n /\ n∉l /\ ∀ m,1 <= m -> m<n -> m∈l
theorem qY.unique {l:List Nat} {n m:Nat} (h:qY l n) (g:qY l m):n=m:=by
 rcases Nat.lt_trichotomy n m with hh|hh|hh
 ·exact absurd (g.2.2 n h.1 hh) h.2.1
 ·exact hh
 ·exact absurd (h.2.2 m g.1 hh) g.2.1
theorem gY {α:Type} [DecidableEq α]:∀ (l m:List α),l.Nodup -> (∀ x,x∈l -> x∈m) -> l.length <= m.length
 | [],m,_,_=>by simp
 | a :: l,m,hn,hs=>by
  have ha:=hs a List.mem_cons_self
  have hn':=List.nodup_cons.1 hn
  have:=gY l (m.erase a) hn'.2 (λx hx=>by
   have hne:x≠a:=λe=>hn'.1 (e ▸ hx)
   exact (List.mem_erase_of_ne hne).2 (hs x (List.mem_cons_of_mem _ hx)))
  rw [List.length_erase_of_mem ha] at this
  have:0<m.length:=List.length_pos_of_mem ha
  simp only [List.length_cons]
  omega
def bO (l:List Nat):Nat:=((List.range (l.length+1)).find? (λk=>!decide (k+1∈l))).getD 0+1
theorem BH (l:List Nat):∃ k,k <= l.length /\ k+1∉l:=by
 apply Classical.byContradiction
 intro h
 have h1:∀ k,k <= l.length -> k+1∈l:=λk hk=>Classical.byContradiction λhn=>h ⟨k,hk,hn⟩
 have:=gY ((List.range (l.length+1)).map (·+1)) l (by
  refine List.Pairwise.map _ (λa b hab h=>hab oM) (List.nodup_range) ) (λx hx=>by
  obtain ⟨k,hk,rfl⟩:=List.mem_map.1 hx
  exact h1 k (by have:=List.mem_range.1 hk;omega))
 simp at this
 omega
theorem cW (l:List Nat):qY l (bO l) /\ bO l <= l.length+1:=by
 unfold bO
 cases hf:(List.range (l.length+1)).find? (λk=>!decide (k+1∈l)) with
 | none=>
  exfalso
  obtain ⟨k,h1,h2⟩:=BH l
  have:=List.find?_eq_none.1 hf k (List.mem_range.2 oM)
  simp at this
  exact h2 this
 | some k=>
  obtain ⟨h1,i,h2,h3,h4⟩:=List.find?_eq_some_iff_getElem.1 hf
  have hi:k=i:=by simpa using h3.symm
  simp only [List.length_range] at h2
  simp only [Option.getD_some]
  refine ⟨⟨by omega,by simpa using h1,λm hm hlt=>?_⟩,by omega⟩
  have:=h4 (m - 1) oM
  simp at this
  rwa [show m - 1+1=m by omega] at this
/-- What the count of trailing zeros of a word's complement tells. -/
theorem JG {x:Nat} (hx:x<2 ^ 64):(Lib.ctz 64 (2 ^ 64 - 1 - x)=64 /\ ∀ j,j<64 -> x.testBit j=tQ) \/ (Lib.ctz 64 (2 ^ 64 - 1 - x)<64 /\ x.testBit (Lib.ctz 64 (2 ^ 64 - 1 - x))=fF /\ ∀ j,j<Lib.ctz 64 (2 ^ 64 - 1 - x) -> x.testBit j=tQ):=by
 have hb:∀ j,j<64 -> (2 ^ 64 - 1 - x).testBit j=!x.testBit j:=by
  intro j hj
  have:=Nat.testBit_two_pow_sub_succ (n:=64) hx j
  rw [show 2 ^ 64 - 1 - x=2 ^ 64 - (x+1) by omega,this]
  simp [hj]
 by_cases h0:2 ^ 64 - 1 - x=0
 ·left
  rw [h0]
  refine ⟨rfl,λj hj=>?_⟩
  have:=hb j hj
  rw [h0] at this
  simpa using this.symm
 ·right
  have hc:Lib.ctz 64 (2 ^ 64 - 1 - x)=Lib.ctzFrom 64 (2 ^ 64 - 1 - x):=by unfold Lib.ctz;rw [nG h0]
  obtain ⟨m,hm,hk⟩:=Lib.ctzFrom_spec 64 (2 ^ 64 - 1 - x) oM oM
  rw [hc]
  generalize Lib.ctzFrom 64 (2 ^ 64 - 1 - x)=k at *
  have ht:∀ j,(2 ^ 64 - 1 - x).testBit j=(decide (k <= j)&&(2 * m+1).testBit (j - k)):=by
   intro j
   rw [hm,Nat.mul_comm,Nat.testBit_mul_two_pow]
  refine ⟨hk,?_,λj hj=>?_⟩
  ·have h1:=ht k
   have h2:=hb k hk
   rw [h1] at h2
   simp [Nat.testBit_zero] at h2
   simpa using h2
  ·have h1:=ht j
   have h2:=hb j oM
   rw [h1] at h2
   have:decide (k <= j)=fF:=decide_eq_false oM
   rw [this] at h2
   simpa using h2
theorem Cs (x:Nat) (hx:x<2 ^ 64) (w:wW) (hT:bA w):Calls tp 231 #[vi uQ x] w (au (vi iQ (Lib.ctz 64 x)) w):=by
 refine Calls.mono (show Calls tp 231 _ _ _ from Any7.bits_TrailingZeros64 tzL x oM w (λ_=>hT)) ?_
 rintro e w' ⟨rfl,rfl⟩
 exact ⟨rfl,aA.refl _⟩
theorem Jn:(tp.info? 32).map (λi=>(i.zero,i.size,i.bytes))=sS (sS (vi uQ 0),1,8):=by kernel_rfl
/-- A table of at most 64 numbers, of which ids are given out: one word of bits. -/
structure eG (most:Nat) (ids:List Nat):Prop where
 most1:1 <= most
 most2:most <= 64
 nodup:ids.Nodup
 bd:∀ n,n∈ids -> 1 <= n /\ n <= most
theorem eG.len {most:Nat} {ids:List Nat} (h:eG most ids):ids.length <= most:=by
 have:=gY ids ((List.range most).map (·+1)) h.nodup (λx hx=>by
  obtain ⟨h1,h2⟩:=h.bd x hx
  exact List.mem_map.2 ⟨x - 1,List.mem_range.2 oM,by omega⟩)
 simpa using this
structure KD (x:Nat) (ids:List Nat):Prop where
 lt:x<2 ^ 64
 bit:∀ j,j<64 -> x.testBit j=decide (j+1∈ids)
def gZ (r most:Nat) (ids:List Nat):Obj:=.cells #[.slice (sS ⟨r,0,nN⟩) 1 1,vi iQ most,vi iQ ids.length] 273 (0,0)
def gX (x:Nat):Obj:=.cells #[vi uQ (x:Nat)] 32 (0,0)
def gV (t most:Nat) (ids:List Nat):ak:=
 ak.such (eG most ids) (ak.ex λr:Nat=>ak.ex λx:Nat=>ak.such (KD x ids) (ak.star [ak.blk t (gZ r most ids),ak.blk r (gX x)]))
theorem BE:madeCells #[vi uQ 0] 1=#[vi uQ 0]:=by kernel_rfl
theorem nH (n:Nat) (h1:1 <= n) (h2:n <= 64) (w:wW):Calls tp 99 #[vi iQ n] w (cN (λt:Nat=>.tuple #[vp (sS ⟨t,0,nN⟩),vi iQ 0]) (λt=>gV t n []) [] w):=by
 obtain ⟨k,hk⟩:∃ k:Nat,k=1:=⟨_,rfl⟩
 have hmk:=λw=>Go.run_make_row' (P:=tp) 271 32 (vi uQ 0) 8 Tryz.underlying271 Jn rfl .i64 .i64 k oM oM w
 rw [show (k:Int)=((n:Int)+64 - 1) / 64 by omega] at hmk
 have hk9:((n:Int)+64 - 1) / 64=1:=by omega
 have HK:=zh (And.intro hk hk9)
 clear hk hk9
 go_in
 go_wp2
 go_ret2
 obtain ⟨hk,hk9⟩:=HK.out
 subst hk
 simp only [BE,hk9]
 refine ⟨w.heap.size+1,rfl,[w.heap.size+1,w.heap.size],⟨⟨h1,h2,by simp,by simp⟩,w.heap.size,0,⟨by omega,by simp⟩,[w.heap.size+1],[w.heap.size],rfl,⟨rfl,?_⟩,⟨[w.heap.size],[],rfl,⟨rfl,?_⟩,rfl,by simp⟩,by simp⟩,af.alloc (af.alloc mR _) _,by simp⟩
 ·have:=ai (w.alloc (Obj.cells (madeCells #[vi uQ 0] 1) 32)) (Obj.cells #[.slice (sS ⟨w.heap.size,0,nN⟩) 1 1,vi iQ n,vi iQ 0] 273)
  rw [BE] at this
  simpa [gZ,hk9] using this
 ·have:=cS (o:=Obj.cells #[.slice (sS ⟨w.heap.size,0,nN⟩) 1 1,vi iQ n,vi iQ 0] 273) (ai w (Obj.cells (madeCells #[vi uQ 0] 1) 32))
  rw [BE] at this
  simpa [gX,hk9] using this
theorem IN (x:Nat) (hx:x<2 ^ 64):bits .xor .u64 IntKind.u64.max (x:Int)=((2 ^ 64 - 1 - x:Nat):Int):=by
 have h1:BitVec.ofInt 64 IntKind.u64.max=BitVec.allOnes 64:=by decide
 have h2:(BitVec.ofInt 64 (x:Int)).toNat=x:=by
  rw [BitVec.ofInt_natCast,BitVec.toNat_ofNat];exact Nat.mod_eq_of_lt oM
 show IntKind.u64.wrap ((BitVec.ofInt 64 IntKind.u64.max ^^^ BitVec.ofInt 64 (x:Int)).toNat:Int)=_
 rw [h1,BitVec.allOnes_xor,BitVec.toNat_not,h2]
 exact nz _ oM
theorem Ki (x z:Nat) (hx:x<2 ^ 64) (hz:z<64):bits .or .u64 (x:Int) (IntKind.u64.wrap (2 ^ z))=((x ||| 2 ^ z:Nat):Int):=by
 have hp:(2:Nat) ^ z<2 ^ 64:=jq hz
 have e:IntKind.u64.wrap (2 ^ z)=((2 ^ z:Nat):Int):=by
  have:=nz (2 ^ z) hp
  rwa [Int.natCast_pow] at this
 rw [e]
 have h1:(BitVec.ofInt 64 (x:Int)).toNat=x:=by
  rw [BitVec.ofInt_natCast,BitVec.toNat_ofNat];exact Nat.mod_eq_of_lt hx
 have h2:(BitVec.ofInt 64 ((2 ^ z:Nat):Int)).toNat=2 ^ z:=by
  rw [BitVec.ofInt_natCast,BitVec.toNat_ofNat];exact Nat.mod_eq_of_lt hp
 show IntKind.u64.wrap ((BitVec.ofInt 64 (x:Int) ||| BitVec.ofInt 64 ((2 ^ z:Nat):Int)).toNat:Int)=_
 rw [BitVec.toNat_or,h1,h2]
 exact nz _ (Nat.or_lt_two_pow hx hp)
theorem fp (t most:Nat) (ids F:List Nat) (w:wW) (h:(gV t most ids).holds F w) (hf:ids.length=most):Calls tp 141 #[vp (sS ⟨t,0,nN⟩)] w (au (.tuple #[vi iQ 0,vi iQ 5]) w):=by
 obtain ⟨hok,r,x,hx,hst⟩:=h
 have hA:On F w [ak.blk t (gZ r most ids),ak.blk r (gX x)] w:=On.of hst
 have c1:w.cell? ⟨t,1,nN⟩=sS (vi iQ most):=hA.cell 0 rfl 1
 have c2:w.cell? ⟨t,2,nN⟩=sS (vi iQ ids.length):=hA.cell 0 rfl 2
 rw [hf] at c2
 clear hok hx hst hA hf
 go_in
 go_wp2
 go_quiet (fail)
 go_wp2
 go_ret2
 exact au.of (rfl) dz
theorem lJ (t most:Nat) (ids F:List Nat) (w:wW) (h:(gV t most ids).holds F w) (hT:bA w) (hf:ids.length≠most):Calls tp 141 #[vp (sS ⟨t,0,nN⟩)] w (al (gV t most (bO ids :: ids)) F (.tuple #[vi iQ (bO ids),vi iQ 0]) w):=by
 obtain ⟨hok,r,x,hx,hst⟩:=h
 have hA:On F w [ak.blk t (gZ r most ids),ak.blk r (gX x)] w:=On.of hst
 have hlen:=hok.len
 have hm2:=hok.most2
 have c0:w.cell? ⟨t,0,nN⟩=sS (.slice (sS ⟨r,0,nN⟩) 1 1):=hA.cell 0 rfl 0
 have c1:w.cell? ⟨t,1,nN⟩=sS (vi iQ most):=hA.cell 0 rfl 1
 have c2:w.cell? ⟨t,2,nN⟩=sS (vi iQ ids.length):=hA.cell 0 rfl 2
 have f2:w.frozen? ⟨t,2,nN⟩=fF:=hA.free 0 rfl 2
 have d0:w.cell? ⟨r,0,nN⟩=sS (vi uQ (x:Nat)):=hA.cell 1 rfl 0
 have e0:w.frozen? ⟨r,0,nN⟩=fF:=hA.free 1 rfl 0
 have htr:=hA.ne 0 1 dE rfl rfl
 have hne:((ids.length:Int)==most)=fF:=by simp;omega
 obtain ⟨hlow,hlow2⟩:=cW ids
 have hltx:=hx.lt
 have hz:=λu hu=>Cs (2 ^ 64 - 1 - x) oM u hu
 have hcz:=JG hltx
 generalize hzz:Lib.ctz 64 (2 ^ 64 - 1 - x)=z at *
 have hzl:z<64 /\ z+1=bO ids:=by
  have hbit:=hx.bit
  rcases hcz with ⟨rfl,hj⟩|⟨hz64,hzf,hj⟩
  ·exfalso
   have h1:=hj (bO ids - 1) oM
   rw [hbit _ oM] at h1
   have h2:=of_decide_eq_true h1
   rw [show bO ids - 1+1=bO ids by have:=hlow.1;omega] at h2
   exact hlow.2.1 h2
  ·refine ⟨hz64,?_⟩
   refine qY.unique (l:=ids) ⟨by omega,?_,λm hm hlt=>?_⟩ hlow
   ·have:=hbit z hz64
    rw [hzf] at this
    exact of_decide_eq_false this.symm
   ·have h1:=hj (m - 1) oM
    rw [hbit _ oM] at h1
    have h2:=of_decide_eq_true h1
    rwa [show m - 1+1=m by omega] at h2
 obtain ⟨hz64,hzlow⟩:=hzl
 have hc:=IN x hltx
 rw [<- hc] at hz
 clear hcz hzz hc
 obtain ⟨len,hL⟩:∃ n,n=ids.length:=⟨_,rfl⟩
 have HL:=zh hL
 rw [<- hL] at c2 hne hlen hlow2 hf
 clear hL
 go_in
 go_wp2
 go_quiet (fail)
 go_wp2
 go_loopg [25] 1 (λgg i wr=>i=vi iQ 0 /\ gg=1 /\ wr=w.drewN nq)
 case atStart=>exact ⟨rfl,rfl,rfl⟩
 case round=>
  obtain ⟨rfl,hg1,rfl⟩:=hrel
  go_wp2_with (go_at_call 231;refine (hz _ (hT.drewN _)).r λk1=>?_)
  go_region
  go_wp2
  go_ret2
  have hv:bits .or .u64 (x:Int) (IntKind.u64.wrap (2 ^ z))=((x ||| 2 ^ z:Nat):Int):=Ki x z hltx hz64
  have hlenv:len=ids.length:=HL.out
  subst hlenv
  rw [hv]
  have hB:=((hA.keep (u':=w.drewN (nq+k1+1)) (mR.drewN _)).set 1 rfl 0 (vi uQ (x ||| 2 ^ z:Nat))).set 0 rfl 2 (vi iQ ((ids.length:Int)+1))
  refine ⟨by rw [<- hzlow];rfl,hB.gains.imp λF' h'=>⟨⟨hok.most1,hok.most2,?_,?_⟩,r,x ||| 2 ^ z,⟨Nat.or_lt_two_pow hltx (jq hz64),?_⟩,?_⟩⟩
  ·exact List.nodup_cons.2 ⟨hlow.2.1,hok.nodup⟩
  ·intro n hn
   rcases List.mem_cons.1 hn with rfl|hn
   ·exact ⟨hlow.1,by omega⟩
   ·exact hok.bd n hn
  ·intro j hj
   rw [Nat.testBit_or,hx.bit j hj,Nat.testBit_two_pow]
   by_cases e:z=j
   ·subst e;simp [hzlow]
   ·have e1:¬ (j+1=bO ids):=by omega
    simp [e,e1]
  ·simpa [gZ,gX] using h'
theorem JI (n most:Nat) (h1:1 <= n) (h2:n <= 64):IntKind.u64.wrap (2 ^ (n - 1))=((2 ^ (n - 1):Nat):Int):=by
 have:=nz (2 ^ (n - 1)) (jq oM)
 rwa [Int.natCast_pow] at this
/-- The bit of a number that can be. -/
theorem nF (t r most:Nat) (n:Nat) (w:wW) (c0:w.cell? ⟨t,0,nN⟩=sS (.slice (sS ⟨r,0,nN⟩) 1 1)) (c1:w.cell? ⟨t,1,nN⟩=sS (vi iQ most)) (h1:1 <= n) (h2:n <= most) (h3:most <= 64):
  Calls tp 315 #[vp (sS ⟨t,0,nN⟩),vi iQ n] w (au (.tuple #[vp (sS ⟨r,0,nN⟩),vi uQ (2 ^ (n - 1):Nat)]) w):=by
 have hw:=JI n most h1 oM
 have hd:((n:Int) - 1).tdiv 64=0:=by rw [Int.tdiv_eq_ediv_of_nonneg oM];omega
 have hm:((n:Int) - 1).tmod 64=((n - 1:Nat):Int):=by rw [Int.tmod_eq_emod_of_nonneg oM];omega
 go_in
 go_wp2
 go_quiet (fail)
 go_wp2
 go_ret2
 refine ⟨?_,(aA.refl _).drewN _⟩
 rw [Int.natCast_pow]
 rfl
theorem yM (t most:Nat) (n:Int) (w:wW) (c1:w.cell? ⟨t,1,nN⟩=sS (vi iQ most)) (h:¬ (1 <= n /\ n <= most)):
  Calls tp 315 #[vp (sS ⟨t,0,nN⟩),vi iQ n] w (au (.tuple #[vp nN,vi uQ 0]) w):=by
 by_cases h1:n<1
 ·clear h
  go_in
  go_wp2
  go_ret2
  exact au.of (rfl) dz
 ·have h2:(most:Int)<n:=by omega
  clear h
  go_in
  go_wp2
  go_ret2
  exact au.of (rfl) dz
theorem CS (x z:Nat):(x &&& 2 ^ z=0)↔x.testBit z=fF:=by
 constructor
 ·intro h
  have:=congrArg (λn=>n.testBit z) h
  simpa [Nat.testBit_and,Nat.testBit_two_pow] using this
 ·intro h
  apply Nat.eq_of_testBit_eq
  intro j
  rw [Nat.testBit_and,Nat.testBit_two_pow]
  by_cases e:z=j
  ·subst e;simp [h]
  ·simp [e]
theorem Ci (x z:Nat) (hx:x<2 ^ 64) (hz:z<64) (hb:x.testBit z=tQ):bits .andNot .u64 (x:Int) ((2 ^ z:Nat):Int)=((x ^^^ 2 ^ z:Nat):Int):=by
 have hp:(2:Nat) ^ z<2 ^ 64:=jq hz
 have hxx:x ^^^ 2 ^ z<2 ^ 64:=Nat.xor_lt_two_pow hx hp
 have key:(BitVec.ofInt 64 (x:Int) &&& ~~~ (BitVec.ofInt 64 ((2 ^ z:Nat):Int)))=BitVec.ofNat 64 (x ^^^ 2 ^ z):=by
  rw [BitVec.ofInt_natCast,BitVec.ofInt_natCast]
  apply BitVec.eq_of_getLsbD_eq
  intro i hi
  simp only [BitVec.getLsbD_and,BitVec.getLsbD_not,BitVec.getLsbD_ofNat,hi,decide_true,Bool.true_and,Nat.testBit_xor,Nat.testBit_two_pow]
  by_cases e:z=i
  ·subst e;simp [hb]
  ·simp [e]
 show IntKind.u64.wrap ((BitVec.ofInt 64 (x:Int) &&& ~~~ (BitVec.ofInt 64 ((2 ^ z:Nat):Int))).toNat:Int)=_
 rw [key,BitVec.toNat_ofNat,Nat.mod_eq_of_lt hxx]
 exact nz _ hxx
theorem lK (t most:Nat) (ids F:List Nat) (w:wW) (h:(gV t most ids).holds F w) (m:Nat) (hmem:m∈ids):Calls tp 270 #[vp (sS ⟨t,0,nN⟩),vi iQ m] w (al (gV t most (ids.erase m)) F (vi iQ 0) w):=by
 obtain ⟨hok,r,x,hx,hst⟩:=h
 have hA:On F w [ak.blk t (gZ r most ids),ak.blk r (gX x)] w:=On.of hst
 have hm2:=hok.most2
 obtain ⟨hb1,hb2⟩:=hok.bd m hmem
 have c0:w.cell? ⟨t,0,nN⟩=sS (.slice (sS ⟨r,0,nN⟩) 1 1):=hA.cell 0 rfl 0
 have c1:w.cell? ⟨t,1,nN⟩=sS (vi iQ most):=hA.cell 0 rfl 1
 have c2:w.cell? ⟨t,2,nN⟩=sS (vi iQ ids.length):=hA.cell 0 rfl 2
 have f2:w.frozen? ⟨t,2,nN⟩=fF:=hA.free 0 rfl 2
 have d0:w.cell? ⟨r,0,nN⟩=sS (vi uQ (x:Nat)):=hA.cell 1 rfl 0
 have e0:w.frozen? ⟨r,0,nN⟩=fF:=hA.free 1 rfl 0
 have htr:=hA.ne 0 1 dE rfl rfl
 have hc:=nF t r most m w c0 c1 hb1 hb2 hm2
 have hbt:x.testBit (m - 1)=tQ:=by rw [hx.bit (m - 1) oM,show m - 1+1=m by omega];simpa using hmem
 have hand:∃ q:Int,bits .and .u64 (x:Int) ((2 ^ (m - 1):Nat):Int)=q /\ (q==0)=fF:=by
  refine ⟨_,bits_and_u64_nat x _ hx.lt (jq oM),?_⟩
  have:¬ (x &&& 2 ^ (m - 1)=0):=λh=>by rw [(CS _ _).1 h] at hbt;cases hbt
  simp;omega
 obtain ⟨q,hq,hq0⟩:=hand
 have hno:=Ci x (m - 1) hx.lt oM hbt
 have hpos:0<ids.length:=List.length_pos_of_mem hmem
 have hle:(ids.erase m).length=ids.length - 1:=List.length_erase_of_mem hmem
 generalize hbb:((2 ^ (m - 1):Nat):Int)=bb at *
 obtain ⟨y,hy⟩:∃ y,y=x ^^^ 2 ^ (m - 1):=⟨_,rfl⟩
 rw [<- hy] at hno
 have HY:=zh hy
 have HL:=zh hle
 have hlen:=hok.len
 clear hy hbt hle hbb
 go_in
 go_wp2_with (go_at_call 315;refine hc.r λk1=>?_)
 go_ret
 have hB:=((hA.keep (u':=w.drewN k1) (mR.drewN _)).set 1 rfl 0 (vi uQ (y:Nat))).set 0 rfl 2 (vi iQ ((ids.length:Int) - 1))
 refine ⟨rfl,hB.gains.imp λF' h'=>⟨⟨hok.most1,hok.most2,hok.nodup.erase m,λn hn=>hok.bd n (List.mem_of_mem_erase hn)⟩,r,y,⟨?_,?_⟩,?_⟩⟩
 ·rw [HY.out];exact Nat.xor_lt_two_pow hx.lt (jq oM)
 ·intro j hj
  rw [HY.out,Nat.testBit_xor,hx.bit j hj,Nat.testBit_two_pow]
  have hme:=hok.nodup.mem_erase_iff (a:=j+1) (b:=m)
  by_cases e:m - 1=j
  ·have e2:j+1=m:=by omega
   rw [e2] at hme ⊢
   simp [hme,hmem,e]
  ·have e1:¬ (j+1=m):=by omega
   simp [hme,e,e1]
 ·have e1:((ids.length:Int) - 1)=(((ids.erase m).length:Nat):Int):=by rw [HL.out];omega
  simp only [gZ]
  rw [<- e1]
  simpa [gX] using h'
structure TA where
 n:Nat
 now:Nat
 L:Nat -> List (Int × Nat)
def TA.is (A:TA) (cpu:Int):Prop:=0 <= cpu /\ cpu<A.n
instance instTimerA1 (A:TA) (cpu:Int):Decidable (A.is cpu):=by unfold TA.is;infer_instance
def TA.whr (A:TA) (id:Int):Option Nat:=(List.range A.n).find? λc=>(aC (A.L c) id).isSome
def TA.keys (A:TA):List Nat:=(List.range A.n).flatMap λc=>(A.L c).map λp=>p.1.toNat
def TA.low (A:TA):Nat:=bO A.keys
def TA.armE (A:TA) (cpu due:Int):Int:=if ¬ A.is cpu then 3 else if ¬ aV due then 2 else if 48<A.low then 5 else 0
def TA.armV (A:TA) (cpu due:Int):Int:=if A.armE cpu due=0 then A.low else 0
def TA.put (A:TA) (c:Nat) (l:List (Int × Nat)):TA:={ A with L:=iY A.L c l }
def TA.arm (A:TA) (cpu due:Int):TA:=if A.armE cpu due=0 then A.put cpu.toNat (rC (A.L cpu.toNat) A.low due.toNat) else A
def TA.cancelE (A:TA) (id:Int):Int:=if (A.whr id).isSome then 0 else 4
def TA.cancel (A:TA) (id:Int):TA:=match A.whr id with|some c=>A.put c (iW (A.L c) id)|none=>A
def TA.goE (A:TA) (t:Int):Int:=Bf A.now t
def TA.go (A:TA) (t:Int):TA:={ A with now:=Lm A.now t }
def TA.due (A:TA) (cpu:Int):List (Int × Nat):=gS A.now (A.L cpu.toNat)
def TA.fireE (A:TA) (cpu:Int):Int:=if ¬ A.is cpu then 3 else if A.due cpu=[] then 12 else 0
def TA.fireV (A:TA) (cpu:Int):Int:=if A.fireE cpu=0 then (fb (A.due cpu) 0).1 else 0
def TA.fire (A:TA) (cpu:Int):TA:=if A.fireE cpu=0 then A.put cpu.toNat (iW (A.L cpu.toNat) (A.fireV cpu)) else A
def TA.ready (A:TA) (cpu:Int):Bool:=decide (A.is cpu)&&!(A.due cpu).isEmpty
def TA.nextE (A:TA) (cpu:Int):Int:=if ¬ A.is cpu then 3 else sL (A.L cpu.toNat)
def TA.nextV (A:TA) (cpu:Int):Int:=if ¬ A.is cpu then 0 else (pC (A.L cpu.toNat):Nat)
def TA.whereV (A:TA) (id:Int):Int:=((A.whr id).getD 0:Nat)
def TA.whenV (A:TA) (id:Int):Int:=match A.whr id with|some c=>((aC (A.L c) id).getD 0:Nat)|none=>0
def TA.list (A:TA) (cpu:Int):List Int:=if A.is cpu then dC (A.L cpu.toNat) else []
def TA.moveE (A:TA) (c d:Int):Int:=if ¬ A.is c \/ ¬ A.is d then 3 else if c=d then 2 else if A.L c.toNat=[] then 12 else 0
def TA.moveV (A:TA) (c d:Int):Int:=if A.moveE c d=0 then (fb (A.L c.toNat) 0).1 else 0
def TA.move (A:TA) (c d:Int):TA:=
 if A.moveE c d=0 then (A.put c.toNat (iW (A.L c.toNat) (A.moveV c d))).put d.toNat (rC (A.L d.toNat) (A.moveV c d) (fb (A.L c.toNat) 0).2) else A
/-- What the program's timers hold. -/
structure TS where
 n:Nat
 ids:List Nat
 whr:List (Int × Nat)
 s:Nat -> SW
structure cu (t:TS) (A:TA):Prop where
 n:t.n=A.n
 n1:1 <= A.n
 n2:A.n <= 64
 slot:eG 48 t.ids
 nodup:(t.whr.map (·.1)).Nodup
 sim:∀ c,c<A.n -> iA (t.s c) (A.L c)
 now:∀ c,c<A.n -> (t.s c).now=A.now
 whr:∀ id c,aC t.whr id=sS c↔c<A.n /\ (aC (A.L c) id).isSome=tQ
 ids:∀ id:Int,(aC t.whr id).isSome=tQ↔1 <= id /\ id.toNat∈t.ids
section
variable {t:TS} {A:TA}
theorem cu.whrE (h:cu t A) (id:Int):A.whr id=aC t.whr id:=by
 unfold TA.whr
 cases hw:aC t.whr id with
 | none=>
  rw [List.find?_eq_none]
  intro c hc hs
  have:=(h.whr id c).2 ⟨List.mem_range.1 hc,by simpa using hs⟩
  rw [hw] at this
  cases this
 | some c=>
  obtain ⟨h1,h2⟩:=(h.whr id c).1 hw
  cases hf:(List.range A.n).find? λc=>(aC (A.L c) id).isSome with
  | none=>
   have:=List.find?_eq_none.1 hf c (List.mem_range.2 h1)
   rw [h2] at this
   exact absurd rfl this
  | some c'=>
   have h3:=List.find?_some hf
   have h4:=List.mem_range.1 (List.mem_of_find?_eq_some hf)
   have:=(h.whr id c').2 ⟨h4,by simpa using h3⟩
   rw [hw] at this
   exact this.symm
theorem cu.keys (h:cu t A) (m:Nat) (hm:1 <= m):m∈A.keys↔m∈t.ids:=by
 unfold TA.keys
 simp only [List.mem_flatMap,List.mem_range,List.mem_map]
 constructor
 ·rintro ⟨c,hc,p,hp,rfl⟩
  have h1:(aC (A.L c) p.1).isSome=tQ:=by rw [cI (h.sim c hc).nodup (i:=p.1) (v:=p.2) hp];rfl
  have h2:=(h.whr p.1 c).2 ⟨hc,h1⟩
  exact ((h.ids p.1).1 (by rw [h2];rfl)).2
 ·intro hm2
  have h1:=(h.ids (m:Int)).2 ⟨by omega,by simpa using hm2⟩
  obtain ⟨c,hc⟩:=Option.isSome_iff_exists.1 h1
  obtain ⟨h2,h3⟩:=(h.whr _ c).1 hc
  obtain ⟨v,hv⟩:=Option.isSome_iff_exists.1 h3
  exact ⟨c,h2,_,oV hv,by simp⟩
theorem zS {l m:List Nat} (h:∀ k,1 <= k -> (k∈l↔k∈m)) {n:Nat} (hl:qY l n):qY m n:=
 ⟨hl.1,λhn=>hl.2.1 ((h n hl.1).2 hn),λk hk hlt=>(h k hk).1 (hl.2.2 k hk hlt)⟩
theorem cu.low (h:cu t A):A.low=bO t.ids:=
 (zS (λk hk=>h.keys k hk) (cW A.keys).1).unique (cW t.ids).1
theorem cu.full (h:cu t A):t.ids.length=48↔48<A.low:=by
 rw [h.low]
 obtain ⟨h1,h2⟩:=cW t.ids
 have hlen:=h.slot.len
 constructor
 ·intro hl
  have h3:∀ m,1 <= m -> m <= 48 -> m∈t.ids:=by
   intro m hm hm2
   apply Classical.byContradiction
   intro hn
   have:=gY (m :: t.ids) ((List.range 48).map (·+1)) (List.nodup_cons.2 ⟨hn,h.slot.nodup⟩) (λx hx=>by
    have hb:1 <= x /\ x <= 48:=by
     rcases List.mem_cons.1 hx with rfl|hx
     ·exact ⟨hm,hm2⟩
     ·exact h.slot.bd x hx
    exact List.mem_map.2 ⟨x - 1,List.mem_range.2 oM,by omega⟩)
   simp at this
   omega
  apply Classical.byContradiction
  intro hle
  exact h1.2.1 (h3 _ h1.1 oM)
 ·intro hl
  have:=gY ((List.range 48).map (·+1)) t.ids (by
   refine List.Pairwise.map _ (λa b hab h=>hab oM) (List.nodup_range)) (λx hx=>by
   obtain ⟨k,hk,rfl⟩:=List.mem_map.1 hx
   exact h1.2.2 (k+1) oM (by have:=List.mem_range.1 hk;omega))
  simp at this
  omega
theorem cu.lt (h:cu t A) {id:Int} {c:Nat} (hw:aC t.whr id=sS c):c<A.n:=((h.whr id c).1 hw).1
/-- A core has no more than there are numbers. -/
theorem cu.len (h:cu t A) {c:Nat} (hc:c<A.n):(A.L c).length <= 48:=by
 have:=gY ((A.L c).map λp=>p.1.toNat) t.ids (by
  have hn:=(h.sim c hc).nodup
  rw [List.Nodup,List.pairwise_map] at hn ⊢
  have hall:∀ p,p∈A.L c -> 1 <= p.1:=by
   intro p hp
   have h1:(aC (A.L c) p.1).isSome=tQ:=by rw [cI (h.sim c hc).nodup (i:=p.1) (v:=p.2) hp];rfl
   exact ((h.ids p.1).1 (by rw [(h.whr p.1 c).2 ⟨hc,h1⟩];rfl)).1
  refine List.Pairwise.imp_of_mem (λ{a b} ha hb hab=>?_) hn
  have:=hall a ha
  have:=hall b hb
  omega) (λx hx=>by
  obtain ⟨p,hp,rfl⟩:=List.mem_map.1 hx
  have h1:(aC (A.L c) p.1).isSome=tQ:=by rw [cI (h.sim c hc).nodup (i:=p.1) (v:=p.2) hp];rfl
  exact ((h.ids p.1).1 (by rw [(h.whr p.1 c).2 ⟨hc,h1⟩];rfl)).2)
 have:=h.slot.len
 simp at *
 omega
theorem cu.dues (h:cu t A) {c:Nat} (hc:c<A.n):(t.s c).dues.length <= 48:=by
 have:=h.len hc
 rwa [(h.sim c hc).len] at this
end
/-- Entries of maps of numbers. -/
theorem jO (p:Int × Nat) (m:List (Int × Nat)) (i:Int):aC (p :: m) i=if i=p.1 then sS p.2 else aC m i:=by
 have hsh:∀ (m:List (Int × Nat)) (j k:Nat),(cQ m i j).map (·.2)=(cQ m i k).map (·.2):=by
  intro m
  induction m with
  | nil=>intro j k;rfl
  | cons q m ih=>
   intro j k
   unfold cQ
   split
   ·rfl
   ·exact ih _ _
 unfold aC
 rw [cQ]
 split
 ·rfl
 ·exact hsh m _ _
theorem jN (i:Int):aC [] i=none:=rfl
theorem qT (l m:List (Int × Nat)) (i:Int):aC (l++m) i=(aC l i).or (aC m i):=by
 induction l with
 | nil=>simp [jN]
 | cons p l ih=>
  rw [List.cons_append,jO,jO,ih]
  split<;>simp
theorem qS {m:List (Int × Nat)} {i:Int}:(aC m i).isSome=tQ↔i∈m.map (·.1):=by
 induction m with
 | nil=>simp [jN]
 | cons p m ih=>
  rw [jO,List.map_cons,List.mem_cons]
  by_cases e:i=p.1
  ·simp [e]
  ·rw [nG e,ih];simp [e]
theorem Aj {m:List (Int × Nat)} (hn:(m.map (·.1)).Nodup) (i:Int) (v:Nat):((gT m i v).map (·.1)).Nodup /\ ∀ j,aC (gT m i v) j=if j=i then sS v else aC m j:=by
 unfold gT
 cases hd:cQ m i 0 with
 | none=>
  have hni:=kH hd
  refine ⟨?_,λj=>?_⟩
  ·simp only [List.map_append,List.map_cons,List.map_nil]
   exact List.nodup_append.2 ⟨hn,by simp,by rintro x hx y hy rfl;simp at hy;exact hni (hy ▸ hx)⟩
  ·simp only
   rw [qT,jO,jN]
   by_cases e:j=i
   ·subst e
    have:aC m j=none:=by unfold aC;rw [hd];rfl
    simp [this]
   ·simp [e]
 | some q=>
  obtain ⟨k,u⟩:=q
  have hk:=Hr hd
  have hm:m[k]?=sS (i,u):=by
   have h2:bM (cz m) i 0=sS (k,vi iQ (u:Nat)):=by rw [iH,hd];rfl
   have h3:=ko h2
   unfold cz at h3
   rw [List.getElem?_map] at h3
   cases hmk:m[k]? with
   | none=>rw [hmk] at h3;simp at h3
   | some p=>
    rw [hmk] at h3
    simp only [Option.map_some,Option.some.injEq,Prod.mk.injEq,Value.int.injEq,true_and] at h3
    obtain ⟨a,b⟩:=p
    simp only at h3
    obtain ⟨rfl,h3⟩:=h3
    have:b=u:=by omega
    rw [this]
  have hkeys:(m.set k (i,v)).map (·.1)=m.map (·.1):=by
   apply List.ext_getElem?
   intro j
   simp only [List.getElem?_map,List.getElem?_set]
   by_cases e:k=j
   ·subst e;simp [hk,(List.getElem?_eq_some_iff.1 hm).2]
   ·simp [e]
  refine ⟨by simp only;rw [hkeys];exact hn,λj=>?_⟩
  simp only
  have hn2:((m.set k (i,v)).map (·.1)).Nodup:=by rw [hkeys];exact hn
  by_cases e:j=i
  ·subst e
   rw [pG rfl]
   exact cI hn2 (List.mem_iff_getElem?.2 ⟨k,by rw [List.getElem?_set];simp [hk]⟩)
  ·rw [nG e]
   apply Option.ext
   intro x
   rw [iP hn2,iP hn,List.mem_iff_getElem?,List.mem_iff_getElem?]
   constructor
   ·rintro ⟨q,hq⟩
    rw [List.getElem?_set] at hq
    by_cases e2:k=q
    ·subst e2
     simp [hk] at hq
     exact absurd hq.1.symm e
    ·rw [nG e2] at hq
     exact ⟨q,hq⟩
   ·rintro ⟨q,hq⟩
    refine ⟨q,?_⟩
    rw [List.getElem?_set]
    by_cases e2:k=q
    ·subst e2
     rw [hm] at hq
     simp at hq
     exact absurd hq.1.symm e
    ·rw [nG e2]
     exact hq
theorem uz {m:List (Int × Nat)} (hn:(m.map (·.1)).Nodup) (i:Int):((iW m i).map (·.1)).Nodup /\ ∀ j,aC (iW m i) j=if j=i then nN else aC m j:=by
 rw [rQ i hn]
 have hn2:((m.filter (λp=>!decide (p.1=i))).map (·.1)).Nodup:=(List.filter_sublist.map _).nodup hn
 refine ⟨hn2,λj=>?_⟩
 by_cases e:j=i
 ·subst e
  rw [pG rfl]
  cases hd:aC (m.filter (λp=>!decide (p.1=j))) j with
  | none=>rfl
  | some v=>
   have:=(iP hn2 j v).1 hd
   simp at this
 ·rw [nG e]
  apply Option.ext
  intro x
  rw [iP hn2,iP hn,List.mem_filter]
  simp [e]
theorem zW {L:List (Int × Nat)} (hn:(L.map (·.1)).Nodup) {id:Int} (hid:id∉L.map (·.1)) (due:Nat):∀ j,aC (rC L id due) j=if j=id then sS due else aC L j:=by
 intro j
 have hp:=wI L id due
 have hn2:((L++[(id,due)]).map (·.1)).Nodup:=by
  simp only [List.map_append,List.map_cons,List.map_nil]
  exact List.nodup_append.2 ⟨hn,by simp,by rintro x hx y hy rfl;simp at hy;exact hid (hy ▸ hx)⟩
 rw [wV hp hn2,qT,jO,jN]
 by_cases e:j=id
 ·subst e
  have:aC L j=none:=by
   cases hd:aC L j with
   | none=>rfl
   | some v=>exact absurd (qS.1 (by rw [hd];rfl)) hid
  simp [this]
 ·simp [e]
theorem FR {n:Nat} (h:n <= 100):(Lit.int .i64 (n:Int)).wf=tQ:=by
 have h1:(-9223372036854775808:Int) <= (n:Int):=by omega
 have h2:(n:Int) <= 9223372036854775807:=by omega
 simp [Lit.wf,IntKind.min,IntKind.max,IntKind.bits,IntKind.signed]
 omega
theorem yO (s:SW) (id due:Int):(s.add id due).now=s.now:=by
 unfold SW.add
 split<;>rfl
theorem vF (s:SW) (id:Int):(s.drop id).now=s.now:=by
 unfold SW.drop
 split<;>rfl
def JV (n:Nat):TS:={ n:=n,ids:=[],whr:=[],s:=λ_=>Av 0 }
def Ll (n:Nat):TA:={ n:=n,now:=0,L:=λ_=>[] }
theorem KO {n:Nat} (h1:1 <= n) (h2:n <= 64):cu (JV n) (Ll n) where
 n:=rfl
 n1:=h1
 n2:=h2
 slot:=⟨by omega,by omega,by simp [JV],by simp [JV]⟩
 nodup:=by simp [JV]
 sim c hc:=sim0 ⟨by omega,by omega⟩
 now c hc:=rfl
 whr id c:=by simp [JV,Ll,jN]
 ids id:=by simp [JV,jN]
section
variable {t:TS} {A:TA}
theorem cu.none_of (h:cu t A) {id:Int} (hn:aC t.whr id=nN) {c:Nat} (hc:c<A.n):aC (A.L c) id=none:=by
 cases hd:aC (A.L c) id with
 | none=>rfl
 | some v=>
  have:=(h.whr id c).2 ⟨hc,by rw [hd];rfl⟩
  rw [hn] at this
  cases this
theorem cu.lowNone (h:cu t A):aC t.whr (bO t.ids:Int)=none:=by
 cases hd:aC t.whr (bO t.ids:Int) with
 | none=>rfl
 | some c=>
  have:=((h.ids _).1 (by rw [hd];rfl)).2
  exact absurd (by simpa using this) (cW t.ids).1.2.1
theorem CA {m:List (Int × Nat)} {i:Int} (h:aC m i=nN):i∉m.map (·.1):=λhm=>by
 have:=qS.2 hm
 rw [h] at this
 cases this
theorem cu.addE (h:cu t A) {c:Nat} (hc:c<A.n) {id:Int} (hid:aC t.whr id=nN) {due:Int} (hd:aV due):(t.s c).addE id due=0:=by
 have h1:aC (t.s c).dues id=none:=by rw [<- (h.sim c hc).get];exact h.none_of hid hc
 unfold SW.addE
 rw [nG (by simpa using hd),h1]
 rfl
theorem cu.radd (h:cu t A) {c:Nat} (hc:c<A.n) {id:Int} (hid:aC t.whr id=nN) {due:Int} (hd:aV due):radd (A.L c) id due=rC (A.L c) id due.toNat:=by
 unfold Go.Proofs.YtmiapbgkphpgoaaGreatDoor.radd
 rw [pG]
 rw [<- (h.sim c hc).addE]
 exact h.addE hc hid hd
def TS.arm (t:TS) (c:Nat) (due:Int):TS:={ t with ids:=bO t.ids :: t.ids,whr:=gT t.whr (bO t.ids) c,s:=iY t.s c ((t.s c).add (bO t.ids) due) }
theorem cu.arm (h:cu t A) {c:Nat} (hc:c<A.n) {due:Int} (hd:aV due) (hf:bO t.ids <= 48):cu (t.arm c due) (A.put c (rC (A.L c) (bO t.ids) due.toNat)):=by
 have hlow:=(cW t.ids).1
 have hno:=h.lowNone
 have hp:=Aj h.nodup (bO t.ids:Int) c
 have hr:=h.radd hc hno hd
 have hi:=zW (h.sim c hc).nodup (CA (h.none_of hno hc)) due.toNat
 refine ⟨h.n,h.n1,h.n2,⟨by omega,by omega,List.nodup_cons.2 ⟨hlow.2.1,h.slot.nodup⟩,λn hn=>?_⟩,hp.1,λc' hc'=>?_,λc' hc'=>?_,λid c'=>?_,λid=>?_⟩
 ·rcases List.mem_cons.1 hn with rfl|hn
  ·exact ⟨hlow.1,hf⟩
  ·exact h.slot.bd n hn
 ·show iA (iY t.s c _ c') (iY A.L c _ c')
  by_cases e:c'=c
  ·subst e
   rw [aJ,aJ,<- hr]
   exact (h.sim c' hc).add (FR oM) due
  ·rw [bc _ _ e,bc _ _ e];exact h.sim c' hc'
 ·show (iY t.s c _ c').now=A.now
  by_cases e:c'=c
  ·subst e;rw [aJ,yO];exact h.now c' hc
  ·rw [bc _ _ e];exact h.now c' hc'
 ·show aC (gT t.whr _ c) id=sS c'↔c'<A.n /\ (aC (iY A.L c _ c') id).isSome=tQ
  rw [hp.2 id]
  by_cases ei:id=(bO t.ids:Int)
  ·subst ei
   rw [pG rfl]
   by_cases e:c'=c
   ·subst e;rw [aJ,hi];simp [hc]
   ·rw [bc _ _ e]
    constructor
    ·intro h1;simp at h1;exact absurd h1.symm e
    ·rintro ⟨h1,h2⟩;rw [h.none_of hno h1] at h2;cases h2
  ·rw [nG ei,h.whr]
   by_cases e:c'=c
   ·subst e;rw [aJ,hi,nG ei]
   ·rw [bc _ _ e]
 ·show (aC (gT t.whr _ c) id).isSome=tQ↔1 <= id /\ id.toNat∈bO t.ids :: t.ids
  rw [hp.2 id,List.mem_cons]
  by_cases ei:id=(bO t.ids:Int)
  ·subst ei
   have:=hlow.1
   simp;omega
  ·rw [nG ei,h.ids]
   constructor
   ·rintro ⟨h1,h2⟩;exact ⟨h1,.inr h2⟩
   ·rintro ⟨h1,h2|h2⟩
    ·exact absurd oM ei
    ·exact ⟨h1,h2⟩
def TS.cancel (t:TS) (c:Nat) (id:Int):TS:={ t with ids:=t.ids.erase id.toNat,whr:=iW t.whr id,s:=iY t.s c ((t.s c).drop id) }
theorem cu.dropE (h:cu t A) {c:Nat} {id:Int} (hid:aC t.whr id=sS c):(t.s c).dropE id=0 /\ (aC (t.s c).dues id).isSome=tQ:=by
 obtain ⟨hc,h1⟩:=(h.whr id c).1 hid
 have h2:(aC (t.s c).dues id).isSome=tQ:=by rw [<- (h.sim c hc).get];exact h1
 exact ⟨pG h2,h2⟩
theorem cu.mem (h:cu t A) {c:Nat} {id:Int} (hid:aC t.whr id=sS c):1 <= id /\ id.toNat∈t.ids:=(h.ids id).1 (by rw [hid];rfl)
theorem cu.cancel (h:cu t A) {c:Nat} {id:Int} (hid:aC t.whr id=sS c):cu (t.cancel c id) (A.put c (iW (A.L c) id)):=by
 obtain ⟨hc,h1⟩:=(h.whr id c).1 hid
 obtain ⟨hi1,hi2⟩:=h.mem hid
 have hp:=uz h.nodup id
 have hl:=uz (h.sim c hc).nodup id
 refine ⟨h.n,h.n1,h.n2,⟨by omega,by omega,h.slot.nodup.erase _,λn hn=>h.slot.bd n (List.mem_of_mem_erase hn)⟩,hp.1,λc' hc'=>?_,λc' hc'=>?_,λj c'=>?_,λj=>?_⟩
 ·show iA (iY t.s c _ c') (iY A.L c _ c')
  by_cases e:c'=c
  ·subst e
   rw [aJ,aJ]
   exact (h.sim c' hc).drop id
  ·rw [bc _ _ e,bc _ _ e];exact h.sim c' hc'
 ·show (iY t.s c _ c').now=A.now
  by_cases e:c'=c
  ·subst e;rw [aJ,vF];exact h.now c' hc
  ·rw [bc _ _ e];exact h.now c' hc'
 ·show aC (iW t.whr id) j=sS c'↔c'<A.n /\ (aC (iY A.L c _ c') j).isSome=tQ
  rw [hp.2 j]
  by_cases ei:j=id
  ·subst ei
   rw [pG rfl]
   by_cases e:c'=c
   ·subst e;rw [aJ,hl.2];simp
   ·rw [bc _ _ e]
    constructor
    ·intro h1;cases h1
    ·rintro ⟨h2,h3⟩
     have:=(h.whr j c').2 ⟨h2,h3⟩
     rw [hid] at this
     simp at this
     exact absurd this.symm e
  ·rw [nG ei,h.whr]
   by_cases e:c'=c
   ·subst e;rw [aJ,hl.2,nG ei]
   ·rw [bc _ _ e]
 ·show (aC (iW t.whr id) j).isSome=tQ↔1 <= j /\ j.toNat∈t.ids.erase id.toNat
  rw [hp.2 j,h.slot.nodup.mem_erase_iff]
  by_cases ei:j=id
  ·subst ei;simp
  ·rw [nG ei,h.ids]
   constructor
   ·rintro ⟨h1,h2⟩;exact ⟨h1,by omega,h2⟩
   ·rintro ⟨h1,h2,h3⟩;exact ⟨h1,h3⟩
def TS.go (t:TS) (T:Int):TS:={ t with s:=λc=>if c<t.n then (t.s c).go T else t.s c }
theorem cu.go (h:cu t A) (T:Int):cu (t.go T) (A.go T):=by
 refine ⟨h.n,h.n1,h.n2,h.slot,h.nodup,λc hc=>?_,λc hc=>?_,h.whr,h.ids⟩
 ·show iA (if c<t.n then (t.s c).go T else t.s c) (A.L c)
  rw [pG (by rw [h.n];exact hc)]
  exact (h.sim c hc).go T
 ·show (if c<t.n then (t.s c).go T else t.s c).now=Lm A.now T
  rw [pG (by rw [h.n];exact hc),(h.sim c hc).goNow,h.now c hc]
def TS.move (t:TS) (c d:Nat) (id:Int) (due:Nat):TS:={ t with whr:=gT t.whr id d,s:=iY (iY t.s c ((t.s c).drop id)) d ((t.s d).add id due) }
theorem cu.move (h:cu t A) {c d:Nat} (hd:d<A.n) (hcd:c≠d) {id:Int} (hid:aC t.whr id=sS c) {due:Nat} (hdue:aV due):cu (t.move c d id due) ((A.put c (iW (A.L c) id)).put d (rC (A.L d) id due)):=by
 obtain ⟨hc,h1⟩:=(h.whr id c).1 hid
 obtain ⟨hi1,hi2⟩:=h.mem hid
 have hp:=Aj h.nodup id d
 have hl:=uz (h.sim c hc).nodup id
 have hnd:aC (A.L d) id=none:=by
  cases hx:aC (A.L d) id with
  | none=>rfl
  | some v=>
   have:=(h.whr id d).2 ⟨hd,by rw [hx];rfl⟩
   rw [hid] at this
   simp at this
   exact absurd this hcd
 have hi:=zW (h.sim d hd).nodup (CA hnd) due
 have hr:Go.Proofs.YtmiapbgkphpgoaaGreatDoor.radd (A.L d) id due=rC (A.L d) id due:=by
  unfold Go.Proofs.YtmiapbgkphpgoaaGreatDoor.radd vI
  rw [pG (by rw [nG (by simpa using hdue),hnd];rfl)]
  rfl
 refine ⟨h.n,h.n1,h.n2,h.slot,hp.1,λc' hc'=>?_,λc' hc'=>?_,λj c'=>?_,λj=>?_⟩
 ·show iA (iY (iY t.s c _) d _ c') (iY (iY A.L c _) d _ c')
  by_cases e:c'=d
  ·subst e
   rw [aJ,aJ,<- hr]
   exact (h.sim c' hd).add (by have:=h.slot.bd _ hi2;have:=FR (n:=id.toNat) oM;rwa [show ((id.toNat:Nat):Int)=id by omega] at this) due
  ·rw [bc _ _ e,bc _ _ e]
   by_cases e2:c'=c
   ·subst e2
    rw [aJ,aJ]
    exact (h.sim c' hc).drop id
   ·rw [bc _ _ e2,bc _ _ e2];exact h.sim c' hc'
 ·show (iY (iY t.s c _) d _ c').now=A.now
  by_cases e:c'=d
  ·subst e;rw [aJ,yO];exact h.now c' hd
  ·rw [bc _ _ e]
   by_cases e2:c'=c
   ·subst e2;rw [aJ,vF];exact h.now c' hc
   ·rw [bc _ _ e2];exact h.now c' hc'
 ·show aC (gT t.whr id d) j=sS c'↔c'<A.n /\ (aC (iY (iY A.L c _) d _ c') j).isSome=tQ
  rw [hp.2 j]
  by_cases ei:j=id
  ·subst ei
   rw [pG rfl]
   by_cases e:c'=d
   ·subst e;rw [aJ,hi];simp [hd]
   ·rw [bc _ _ e]
    constructor
    ·intro h1;simp at h1;exact absurd h1.symm e
    ·rintro ⟨h2,h3⟩
     by_cases e2:c'=c
     ·subst e2;rw [aJ,hl.2] at h3;simp at h3
     ·rw [bc _ _ e2] at h3
      have:=(h.whr j c').2 ⟨h2,h3⟩
      rw [hid] at this
      simp at this
      exact absurd this.symm e2
  ·rw [nG ei,h.whr]
   by_cases e:c'=d
   ·subst e;rw [aJ,hi,nG ei]
   ·rw [bc _ _ e]
    by_cases e2:c'=c
    ·subst e2;rw [aJ,hl.2,nG ei]
    ·rw [bc _ _ e2]
 ·show (aC (gT t.whr id d) j).isSome=tQ↔1 <= j /\ j.toNat∈t.ids
  rw [hp.2 j]
  by_cases ei:j=id
  ·subst ei;simp [hi1,hi2]
  ·rw [nG ei,h.ids]
end
def bW (d:Nat) (s:SW):ak where
 holds F w:=∃ mb G,F=az d mb G /\ aw w d mb G s
 keep:=by
  rintro F S w w' ⟨mb,G,rfl,h⟩ m hS
  exact ⟨mb,G,rfl,h.keep m hS⟩
 lt:=by
  rintro F w ⟨mb,G,rfl,h⟩
  exact h.lt
section
variable {d:Nat} {s:SW} {L:List (Int × Nat)} {F:List Nat} {w:wW}
theorem xi {mb:Nat} {G:Nat -> Option Nat × Nat} {v:Value} {e:Ending} {w':wW}:pk d mb G v s w e w' -> al (bW d s) (az d mb G) v w e w':=by
 rintro ⟨rfl,G',m,x,hn⟩
 exact ⟨rfl,_,⟨mb,G',rfl,x⟩,m,hn⟩
theorem sh (h:(bW d s).holds F w) (hs:iA s L) (hl:L.length <= 100) (id due:Int):Calls tp 286 #[vp (sS ⟨d,0,nN⟩),vi iQ id,vi iQ due] w (al (bW d (s.add id due)) F (vi iQ (s.addE id due)) w):=by
 obtain ⟨mb,G,rfl,h⟩:=h
 exact (Df d mb G s w h hs.inv.ok (λk _=>by have:=hs.inv.len k;have:=hs.len;omega) id due).mono λe w'=>xi
theorem qy (h:(bW d s).holds F w) (hs:iA s L) (id:Int):Calls tp 287 #[vp (sS ⟨d,0,nN⟩),vi iQ id] w (al (bW d (s.drop id)) F (vi iQ (s.dropE id)) w):=by
 obtain ⟨mb,G,rfl,h⟩:=h
 exact (AA d mb G s w h hs.inv.ok id (λhx=>by
  have:=(hs.inv.has hx).2
  intro e
  rw [e] at this
  cases this)).mono λe w'=>xi
theorem Dg (h:(bW d s).holds F w) (hs:iA s L) (hl:L.length <= 100) (t:Int):Calls tp 209 #[vp (sS ⟨d,0,nN⟩),vi iQ t] w (al (bW d (s.go t)) F (vi iQ (Bf s.now t)) w):=by
 obtain ⟨mb,G,rfl,h⟩:=h
 rw [<- hs.goE]
 exact (FD d mb G s w h hs.inv.ok (λk=>by have:=hs.inv.len k;have:=hs.len;omega) t).mono λe w'=>xi
/-- A new slice of ints. -/
def yb (l:List Int) (w:wW) (e:Ending) (w':wW):Prop:=∃ a c,e=.returned (.slice a l.length c) /\ af [] w w' /\ bN w' a l /\ uF w a
theorem sg (h:(bW d s).holds F w) (hs:iA s L) (hl:L.length <= 100):Calls tp 253 #[vp (sS ⟨d,0,nN⟩)] w (yb (dC (gS s.now L)) w):=by
 obtain ⟨mb,G,rfl,h⟩:=h
 refine (De d mb G s w h (by have:=hs.inv.len 168;have:=hs.len;omega)).mono ?_
 rintro e w' ⟨a,c,rfl,m,i,n⟩
 have hd:=hs.due
 rw [hd] at i
 refine ⟨a,c,?_,m,i,n⟩
 rw [<- hd,jy]
theorem yu (h:(bW d s).holds F w) (hs:iA s L) (hl:L.length <= 100):Calls tp 357 #[vp (sS ⟨d,0,nN⟩)] w (yb (dC L) w):=by
 obtain ⟨mb,G,rfl,h⟩:=h
 have hll:=hs.len
 refine (Az d mb G s w h hs.inv.wf oM).mono ?_
 rintro e w' ⟨a,c,rfl,m,i,n⟩
 rw [hs.list] at i
 refine ⟨a,c,?_,m,i,n⟩
 unfold dC
 rw [List.length_map,hll]
theorem yr (h:(bW d s).holds F w) (hs:iA s L) (hl:L.length <= 100):Calls tp 268 #[vp (sS ⟨d,0,nN⟩)] w (λe w'=>e=.returned (.tuple #[vi iQ (pC L),vi iQ (sL L)]) /\ af [] w w'):=by
 obtain ⟨mb,G,rfl,h⟩:=h
 have:=Ay d mb G s w h (λk=>by have:=hs.inv.len k;have:=hs.len;omega) (λhd=>(uq hs.inv hd).1)
 rw [hs.next,hs.nextE] at this
 refine this.mono ?_
 rintro e u' ⟨rfl,m,_⟩
 exact ⟨rfl,m⟩
theorem yp (h:(bW d s).holds F w) (hs:iA s L) (id:Int):Calls tp 358 #[vp (sS ⟨d,0,nN⟩),vi iQ id] w (au (.tuple #[vi iQ ((aC L id).getD 0:Nat),vb (aC L id).isSome]) w):=by
 obtain ⟨mb,G,rfl,h⟩:=h
 have:=Ax d mb G s w h id
 rwa [hs.when,<- hs.get] at this
theorem AB (w:wW):Calls tp 101 #[vi iQ 0] w (cN (λd:Nat=>.tuple #[vp (sS ⟨d,0,nN⟩),vi iQ 0]) (λd=>bW d (Av 0)) [] w):=by
 refine (show Calls _ _ #[vi iQ ((0:Nat):Int)] w _ from Dd 0 ⟨by omega,by omega⟩ w).mono ?_
 rintro e w' ⟨d,mb,rfl,m,x,h1,h2⟩
 refine ⟨d,rfl,_,⟨mb,_,rfl,x⟩,m,λb hb=>?_⟩
 rcases aB.1 hb with rfl|rfl|⟨k,_,hb⟩
 ·exact .inr h1
 ·exact .inr h2
 ·simp [lF] at hb
end
structure TP where
 tb:Nat
 gb:Nat
 cap:Nat
 mw:Nat
 D:Nat -> Nat
def qG (n:Nat) (D:Nat -> Nat):List Value:=(List.range n).map λi=>vp (sS ⟨D i,0,nN⟩)
def bJ (d:Nat) (p:TP) (t:TS):List ak:=
 [ak.blk d (.cells #[vp (sS ⟨p.tb,0,nN⟩),.slice (sS ⟨p.gb,0,nN⟩) t.n p.cap,.map (sS p.mw)] 179 (0,0)),
  gV p.tb 48 t.ids,Gy .i64 p.mw (cz t.whr),kS 180 1 (sS p.gb) p.cap t.n (qG t.n p.D)]++(List.range t.n).map λi=>bW (p.D i) (t.s i)
def Iw (d:Nat) (t:TS):ak:=ak.ex λp=>ak.star (bJ d p t)
/-- Timers that hold A. -/
def bh (d:Nat) (A:TA):ak:=ak.ex λt:TS=>ak.such (cu t A) (Iw d t)
section
variable {F0 F:List Nat} {w0 w u:wW} {d:Nat} {p:TP} {t:TS} {A:TA}
theorem bE (h:(bh d A).holds F w):∃ t p,cu t A /\ On F w (bJ d p t) w:=by
 obtain ⟨t,hs,p,h⟩:=h
 exact ⟨t,p,hs,On.of h⟩
theorem On.timers (h:On F w (bJ d p t) u) (hs:cu t A):dt (bh d A) F w u:=h.gains.imp λF' h'=>⟨t,hs,p,h'⟩
theorem yz {c:Nat} (hc:c<t.n):(bJ d p t)[4+c]?=sS (bW (p.D c) (t.s c)):=by
 unfold bJ
 rw [List.getElem?_append_right sM]
 simp [hc]
theorem JW (c:Nat) (s':SW):(bJ d p t).set (4+c) (bW (p.D c) s')=bJ d p { t with s:=iY t.s c s' }:=by
 unfold bJ
 rw [List.set_append_right _ _ sM]
 congr 1
 apply List.ext_getElem?
 intro j
 simp only [List.length_cons,List.length_nil,Nat.reduceAdd,Nat.add_sub_cancel_left,List.getElem?_set,List.getElem?_map,List.length_map,List.length_range]
 by_cases e:c=j
 ·subst e
  by_cases hc:c<t.n
  ·simp [hc,aJ]
  ·simp [hc,List.getElem?_range,Nat.not_lt.1 hc]
 ·have e2:j≠c:=λx=>e x.symm
  by_cases hj:j<t.n
  ·simp [e,hj,bc _ _ e2]
  ·simp [e,hj]
theorem On.tcells (h:On F w (bJ d p t) u):u.cell? ⟨d,0,nN⟩=sS (vp (sS ⟨p.tb,0,nN⟩)) /\ u.cell? ⟨d,1,nN⟩=sS (.slice (sS ⟨p.gb,0,nN⟩) t.n p.cap) /\ u.cell? ⟨d,2,nN⟩=sS (.map (sS p.mw)):=
 ⟨h.cell 0 rfl 0,h.cell 0 rfl 1,h.cell 0 rfl 2⟩
theorem On.tptr (h:On F w (bJ d p t) u) {c:Nat} (hc:c<t.n):u.cell? ⟨p.gb,c,nN⟩=sS (vp (sS ⟨p.D c,0,nN⟩)):=by
 obtain ⟨F1,_,hr⟩:=h.get 3 rfl
 obtain ⟨b,e,hcell⟩:=hr.cell (j:=c) (v:=vp (sS ⟨p.D c,0,nN⟩)) (by simp [qG,hc])
 cases e
 exact hcell
theorem On.tcap (h:On F w (bJ d p t) u):t.n <= p.cap /\ p.cap <= maxLen:=by
 obtain ⟨F1,_,hr⟩:=h.get 3 rfl
 exact hr.cap
theorem On.tmap (h:On F w (bJ d p t) u):bR .i64 u p.mw (cz t.whr):=by
 obtain ⟨F1,_,hr⟩:=h.get 2 rfl
 exact hr
theorem On.twheel (h:On F w (bJ d p t) u) {c:Nat} (hc:c<t.n):∃ F1,(bW (p.D c) (t.s c)).holds F1 u:=h.get _ (yz hc)
theorem On.twheelDo {P:Program} {f:FuncId} {args:Array Value} {v:Value} {s':SW} (h:On F w (bJ d p t) u) {c:Nat} (hc:c<t.n) (hh:∀ F1,(bW (p.D c) (t.s c)).holds F1 u -> Calls P f args u (al (bW (p.D c) s') F1 v u)):
  Calls P f args u (λe u'=>e=.returned v /\ On F w (bJ d p { t with s:=iY t.s c s' }) u'):=by
 have:=h.call _ (yz hc) hh
 rw [JW] at this
 exact this
theorem On.tput (h:On F w (bJ d p t) u) (i:Int) (c:Nat):∃ w1,(Instr.mapUpdate 75 (.map (sS p.mw)) (vi iQ i) (vi iQ c)).run tp u=.ok () w1 /\ On F w (bJ d p { t with whr:=gT t.whr i c }) w1:=by
 obtain ⟨F1,⟨rfl,hm⟩,h2,h3⟩:=h.gain (P':=Gy .i64 p.mw (cz (gT t.whr i c))) 2 rfl
 obtain ⟨w1,hrun,m1,x1⟩:=iI (P:=tp) hm Tryz.underlying75 Tryz.underlying3 i (vi iQ (c:Nat))
 rw [vY] at x1
 exact ⟨w1,hrun,h3 ⟨_,⟨rfl,x1⟩,m1,λb hb=>.inl hb⟩⟩
theorem On.tdel (h:On F w (bJ d p t) u) (i:Int):∃ w1,(∀ ty,(Builtin.delete_ #[75,3] ty #[.map (sS p.mw),vi iQ i]).run tp u=.ok (.tuple #[]) w1) /\ On F w (bJ d p { t with whr:=iW t.whr i }) w1:=by
 obtain ⟨F1,⟨rfl,hm⟩,h2,h3⟩:=h.gain (P':=Gy .i64 p.mw (cz (iW t.whr i))) 2 rfl
 obtain ⟨w1,hrun,m1,x1⟩:=ku (P:=tp) hm Tryz.underlying75 Tryz.underlying3 i
 rw [wj] at x1
 exact ⟨w1,hrun,h3 ⟨_,⟨rfl,x1⟩,m1,λb hb=>.inl hb⟩⟩
theorem ym {mw:Nat} {m:List (Int × Nat)} (h:bR .i64 u mw (cz m)) (id:Int):
  (Instr.lookup 75 (.map (sS mw)) (vi iQ id) tQ).run tp u=.ok (.tuple #[vi iQ ((aC m id).getD 0:Nat),vb (aC m id).isSome]) u:=by
 have:=ll (P:=tp) h Tryz.underlying75 Tryz.underlying3 id (λw=>Tryz.zeroValue3 w)
 rw [lP] at this
 rw [this]
 cases aC m id<;>rfl
end
def Cm (n:Nat) (l:List Int):Int:=if ∀ c,c∈l -> 0 <= c /\ c<n then 0 else 3
theorem mO (d n cap:Nat) (g:Option Addr) (w:wW) (c1:w.cell? ⟨d,1,nN⟩=sS (.slice g n cap)) (a:Option Addr) (cp:Nat) (l:List Int) (hl:l.length <= 1000) (hI:bN w a l):
  Calls tp 208 #[vp (sS ⟨d,0,nN⟩),.slice a l.length cp] w (au (vi iQ (Cm n l)) w):=by
 have hM:∀ j,j<l.length -> ¬ (0 <= ar l j /\ ar l j<n) -> Cm n l=3:=by
  intro j hj hn
  exact nG (λh=>hn (h _ (by simp [ar,List.getD,hj])))
 have hM0:(∀ j,j<l.length -> 0 <= ar l j /\ ar l j<n) -> Cm n l=0:=by
  intro h
  refine pG (λc hc=>?_)
  obtain ⟨j,hj,rfl⟩:=List.getElem_of_mem hc
  have:=h j hj
  simpa [ar,List.getD,hj] using this
 generalize Cm n l=v at *
 go_in
 go_wp2
 go_loopg [11] l.length (λgg i wr=>∃ j:Nat,i=vi iQ j /\ j+gg=l.length /\ (∀ k,k<j -> 0 <= ar l k /\ ar l k<n) /\ aA w wr)
 case atStart=>exact ⟨0,rfl,by omega,by omega,aA.refl _⟩
 case round=>
  obtain ⟨j,rfl,hj,he,hD⟩:=hrel
  have c1r:=(hD.mod (S:=[])).at c1 sM
  by_cases hlt:j<l.length
  ·have hIr:=hI.same hD.heap
   obtain ⟨b,rfl,_,hc⟩:=hIr.resolve_left (λe=>by rw [e] at hlt;simp at hlt)
   have cj:=hc j hlt
   have hltI:(j:Int)<l.length:=by omega
   clear hc hI hIr
   by_cases ok:0 <= ar l j /\ ar l j<n
   ·have hstep:∀ k,k<j+1 -> 0 <= ar l k /\ ar l k<n:=by
     intro k hk
     by_cases e:k=j
     ·subst e;exact ok
     ·exact he k oM
    obtain ⟨ok1,ok2⟩:=ok
    clear he hM
    generalize ar l j=x at *
    have q1:¬ (x<0):=by omega
    have q2:¬ ((n:Int) <= x):=by omega
    go_wp2
    go_roundg (gk - 1)
    case measure=>omega
    case rel=>exact ⟨j+1,by go_num,by omega,hstep,by repeat (first|exact hD|apply aA.drewN|apply aA.drew)⟩
   ·have hv:=hM j hlt ok
    subst hv
    clear hM hM0 he
    generalize ar l j=x at *
    by_cases q1:x<0
    ·go_wp2
     go_ret
     refine ⟨rfl,by repeat (first|exact hD|apply aA.drewN|apply aA.drew)⟩
    ·have q2:(n:Int) <= x:=by omega
     go_wp2
     go_ret
     refine ⟨rfl,by repeat (first|exact hD|apply aA.drewN|apply aA.drew)⟩
  ·have hv:=hM0 (λk hk=>he k oM)
   subst hv
   have hltI:¬ (j:Int)<l.length:=by omega
   clear hM hM0 he hI
   go_wp2
   go_ret
   refine ⟨rfl,by repeat (first|exact hD|apply aA.drewN|apply aA.drew)⟩
theorem KR (n:Nat) (c:Int):Cm n [c]=if 0 <= c /\ c<n then 0 else 3:=by simp [Cm]
theorem KQ (n:Nat) (c d:Int):Cm n [c,d]=if (0 <= c /\ c<n) /\ (0 <= d /\ d<n) then 0 else 3:=by simp [Cm]
theorem wH (w:wW) (c:Int) (T:TypeId):bN (w.alloc (.cells #[vi iQ c] T (0,0))) (sS ⟨w.heap.size,0,nN⟩) [c]:=
 .inr ⟨_,rfl,by simp,λj hj=>by
  obtain rfl:j=0:=by simpa using hj
  exact ab (ai _ _) 0⟩
theorem wG (w:wW) (c d:Int) (T:TypeId):bN (w.alloc (.cells #[vi iQ c,vi iQ d] T (0,0))) (sS ⟨w.heap.size,0,nN⟩) [c,d]:=
 .inr ⟨_,rfl,by simp,λj hj=>by
  have hj2:j=0 \/ j=1:=by simp at hj;omega
  rcases hj2 with rfl|rfl
  ·exact ab (ai _ _) 0
  ·exact ab (ai _ _) 1⟩
section
variable {F:List Nat} {w:wW} {d:Nat} {A:TA}
/-- The call asks of one core. -/
theorem gE (n cap:Nat) (g:Option Addr) (c1:w.cell? ⟨d,1,nN⟩=sS (.slice g n cap)) (c:Int):
  Calls tp 208 #[vp (sS ⟨d,0,nN⟩),.slice (sS ⟨w.heap.size,0,nN⟩) 1 1] (w.alloc (.cells #[vi iQ c] 3 (0,0))) (au (vi iQ (if 0 <= c /\ c<n then 0 else 3)) (w.alloc (.cells #[vi iQ c] 3 (0,0)))):=by
 have:=mO d n cap g (w.alloc (.cells #[vi iQ c] 3 (0,0))) (ay _ c1) (sS ⟨w.heap.size,0,nN⟩) 1 [c] sM (wH w c _)
 rwa [KR] at this
theorem gP {mw:Nat} {m:List (Int × Nat)} (c2:w.cell? ⟨d,2,nN⟩=sS (.map (sS mw))) (hm:bR .i64 w mw (cz m)) (id:Int):
  Calls tp 244 #[vp (sS ⟨d,0,nN⟩),vi iQ id] w (au (.tuple #[vi iQ ((aC m id).getD 0:Nat),vb (aC m id).isSome]) w):=by
 have hlk:=ym hm id
 generalize (((aC m id).getD 0:Nat):Int)=x at *
 generalize (aC m id).isSome=b at *
 go_in
 go_wp2
 go_ret2
 exact au.of (rfl) dz
theorem xj (h:(bh d A).holds F w) (id:Int):Calls tp 244 #[vp (sS ⟨d,0,nN⟩),vi iQ id] w (au (.tuple #[vi iQ (A.whereV id),vb (A.whr id).isSome]) w):=by
 obtain ⟨t,p,hs,hA⟩:=bE h
 have:=gP hA.tcells.2.2 hA.tmap id
 unfold TA.whereV
 rwa [hs.whrE id]
theorem yA (h:(bh d A).holds F w) (id:Int):Calls tp 342 #[vp (sS ⟨d,0,nN⟩),vi iQ id] w (au (.tuple #[vi iQ (A.whenV id),vb (A.whr id).isSome]) w):=by
 obtain ⟨t,p,hs,hA⟩:=bE h
 obtain ⟨k0,k1,k2⟩:=hA.tcells
 have hW:=gP k2 hA.tmap id
 unfold TA.whenV
 rw [hs.whrE id]
 cases hd:aC t.whr id with
 | none=>
  rw [hd] at hW
  clear hd hA
  go_in
  go_wp2_with (go_at_call 244;refine hW.r λk=>?_)
  go_ret2
  exact au.of (rfl) dz
 | some c=>
  rw [hd] at hW
  have hc:=hs.lt hd
  have hcn:c<t.n:=by rw [hs.n];exact hc
  obtain ⟨hcap1,hcap2⟩:=hA.tcap
  have kp:=hA.tptr hcn
  obtain ⟨F1,hw1⟩:=hA.twheel hcn
  have hwhen:=λk=>yp (w:=w.drewN k) ((bW _ _).keep (S:=[]) hw1 (mR.drewN k) sM) (hs.sim c hc) id
  obtain ⟨v,hv⟩:=Option.isSome_iff_exists.1 ((hs.whr id c).1 hd).2
  rw [hv] at hwhen
  have hcz:(c:Int)<(t.n:Int):=by omega
  simp only [Option.getD_some,Option.isSome_some] at hwhen hW ⊢
  rw [hv]
  clear hd hA hw1 hv
  go_in
  go_wp2_with (first
   | (go_at_call 244;refine hW.r λk=>?_)
   | (go_at_call 358;refine (hwhen _).r λk2=>?_))
  go_ret2
  exact au.of (rfl) dz
end
section
variable {F:List Nat} {w:wW} {d:Nat} {A:TA}
theorem yB (h:(bh d A).holds F w) (cpu:Int):Calls tp 191 #[vp (sS ⟨d,0,nN⟩),vi iQ cpu] w (λe w'=>e=.returned (.tuple #[vi iQ (A.nextV cpu),vi iQ (A.nextE cpu)]) /\ af [] w w'):=by
 obtain ⟨t,p,hs,hA⟩:=bE h
 obtain ⟨k0,k1,k2⟩:=hA.tcells
 have hmay:=gE (w:=w) _ _ _ k1 cpu
 rw [hs.n] at hmay k1
 unfold TA.nextV TA.nextE
 by_cases hi:A.is cpu
 ·rw [nG (λx=>x hi),nG (λx=>x hi)]
  obtain ⟨hi1,hi2⟩:=hi
  rw [pG ⟨hi1,hi2⟩] at hmay
  obtain ⟨c,rfl⟩:=iN hi1
  have hc:c<A.n:=by omega
  have hcn:c<t.n:=by rw [hs.n];exact hc
  obtain ⟨hcap1,hcap2⟩:=hA.tcap
  rw [hs.n] at hcap1
  have mA:∀ k,af [] w ((w.alloc (.cells #[vi iQ (c:Int)] 3 (0,0))).drewN k):=λk=>(mR.alloc _).drewN k
  have hB:=λk=>hA.keep (mA k)
  have kp:=ay (.cells #[vi iQ (c:Int)] 3 (0,0)) (hA.tptr hcn)
  have k1':=ay (.cells #[vi iQ (c:Int)] 3 (0,0)) k1
  have hsim:=hs.sim c hc
  have hlen:=hs.len hc
  have hq:=λk=>(hB k).twheel hcn
  have hN:=λk=>yr (hq k).choose_spec hsim oM
  simp only [Int.toNat_natCast]
  clear hA hB hq hi1
  generalize (pC (A.L c):Int)=v at *
  generalize sL (A.L c)=ee at *
  go_in
  go_wp2_with (first
   | (go_at_call 208;refine hmay.r λk=>?_)
   | (go_at_call 268;refine (hN _).s λw2 m2=>?_))
  go_ret2
  exact ⟨rfl,(mA k).trans m2 sM⟩
 ·rw [pG hi,pG hi]
  rw [nG (show ¬ (0 <= cpu /\ cpu<(A.n:Int)) from hi)] at hmay
  clear hA hi
  go_in
  go_wp2_with (go_at_call 208;refine hmay.r λk=>?_)
  go_ret2
  exact ⟨rfl,(mR.alloc _).drewN _⟩
theorem yD (h:(bh d A).holds F w) (cpu:Int):Calls tp 341 #[vp (sS ⟨d,0,nN⟩),vi iQ cpu] w (yb (A.list cpu) w):=by
 obtain ⟨t,p,hs,hA⟩:=bE h
 obtain ⟨k0,k1,k2⟩:=hA.tcells
 have hmay:=gE (w:=w) _ _ _ k1 cpu
 rw [hs.n] at hmay k1
 unfold TA.list
 by_cases hi:A.is cpu
 ·rw [pG hi]
  obtain ⟨hi1,hi2⟩:=hi
  rw [pG ⟨hi1,hi2⟩] at hmay
  obtain ⟨c,rfl⟩:=iN hi1
  have hc:c<A.n:=by omega
  have hcn:c<t.n:=by rw [hs.n];exact hc
  obtain ⟨hcap1,hcap2⟩:=hA.tcap
  rw [hs.n] at hcap1
  have mA:∀ k,af [] w ((w.alloc (.cells #[vi iQ (c:Int)] 3 (0,0))).drewN k):=λk=>(mR.alloc _).drewN k
  have hB:=λk=>hA.keep (mA k)
  have kp:=ay (.cells #[vi iQ (c:Int)] 3 (0,0)) (hA.tptr hcn)
  have k1':=ay (.cells #[vi iQ (c:Int)] 3 (0,0)) k1
  have hsim:=hs.sim c hc
  have hlen:=hs.len hc
  have hq:=λk=>(hB k).twheel hcn
  have hN:=λk=>yu (hq k).choose_spec hsim oM
  simp only [Int.toNat_natCast]
  clear hA hB hq hi1
  generalize dC (A.L c)=v at *
  go_in
  go_wp2_with (first
   | (go_at_call 208;refine hmay.r λk=>?_)
   | (go_at_call 357;refine (hN _).mono ?_;rintro e w2 ⟨a2,c2,rfl,m2,i2,n2⟩))
  go_ret
  exact ⟨a2,c2,rfl,(mA k).trans m2 sM,i2,λb o e=>by have:=n2 b o e;simp at this;omega⟩
 ·rw [nG hi]
  rw [nG (show ¬ (0 <= cpu /\ cpu<(A.n:Int)) from hi)] at hmay
  clear hA hi
  go_in
  go_wp2_with (go_at_call 208;refine hmay.r λk=>?_)
  go_ret
  exact ⟨nN,0,rfl,(mR.alloc _).drewN _,.inl rfl,λb o e=>by cases e⟩
theorem xk (h:(bh d A).holds F w) (cpu:Int):Calls tp 168 #[vp (sS ⟨d,0,nN⟩),vi iQ cpu] w (λe w'=>e=.returned (vb (A.ready cpu)) /\ af [] w w'):=by
 obtain ⟨t,p,hs,hA⟩:=bE h
 obtain ⟨k0,k1,k2⟩:=hA.tcells
 have hmay:=gE (w:=w) _ _ _ k1 cpu
 rw [hs.n] at hmay k1
 unfold TA.ready TA.due
 by_cases hi:A.is cpu
 ·rw [decide_eq_true hi]
  obtain ⟨hi1,hi2⟩:=hi
  rw [pG ⟨hi1,hi2⟩] at hmay
  obtain ⟨c,rfl⟩:=iN hi1
  have hc:c<A.n:=by omega
  have hcn:c<t.n:=by rw [hs.n];exact hc
  obtain ⟨hcap1,hcap2⟩:=hA.tcap
  rw [hs.n] at hcap1
  have mA:∀ k,af [] w ((w.alloc (.cells #[vi iQ (c:Int)] 3 (0,0))).drewN k):=λk=>(mR.alloc _).drewN k
  have hB:=λk=>hA.keep (mA k)
  have kp:=ay (.cells #[vi iQ (c:Int)] 3 (0,0)) (hA.tptr hcn)
  have k1':=ay (.cells #[vi iQ (c:Int)] 3 (0,0)) k1
  have hsim:=hs.sim c hc
  have hlen:=hs.len hc
  have hq:=λk=>(hB k).twheel hcn
  have hN:=λk=>sg (hq k).choose_spec hsim oM
  rw [hs.now c hc] at hN
  simp only [Int.toNat_natCast]
  have hle:(tQ&&!(gS A.now (A.L c)).isEmpty)=decide ((0:Int)<(dC (gS A.now (A.L c))).length):=by
   cases gS A.now (A.L c)<;>simp [dC]
  rw [hle]
  clear hA hB hq hi1 hle
  generalize dC (gS A.now (A.L c))=v at *
  go_in
  go_wp2_with (first
   | (go_at_call 208;refine hmay.r λk=>?_)
   | (go_at_call 253;refine (hN _).mono ?_;rintro e w2 ⟨a2,c2,rfl,m2,i2,n2⟩))
  go_ret
  exact ⟨by simp,(mA k).trans m2 sM⟩
 ·rw [decide_eq_false hi]
  rw [nG (show ¬ (0 <= cpu /\ cpu<(A.n:Int)) from hi)] at hmay
  clear hA hi
  go_in
  go_wp2_with (go_at_call 208;refine hmay.r λk=>?_)
  go_ret
  exact ⟨by simp,(mR.alloc _).drewN _⟩
end
section
variable {F:List Nat} {w:wW} {d:Nat} {A:TA}
theorem jn (h:(bh d A).holds F w) (id:Int):Calls tp 222 #[vp (sS ⟨d,0,nN⟩),vi iQ id] w (al (bh d (A.cancel id)) F (vi iQ (A.cancelE id)) w):=by
 obtain ⟨t,p,hs,hA⟩:=bE h
 obtain ⟨k0,k1,k2⟩:=hA.tcells
 have hW:=gP k2 hA.tmap id
 unfold TA.cancelE TA.cancel
 rw [hs.whrE id]
 cases hd:aC t.whr id with
 | none=>
  rw [hd] at hW
  have hg:=λk=>(hA.keep (u':=w.drewN k) (mR.drewN k)).timers hs
  clear hd hA
  go_in
  go_wp2_with (go_at_call 244;refine hW.r λk=>?_)
  go_ret
  exact ⟨rfl,hg _⟩
 | some c=>
  rw [hd] at hW
  have hc:=hs.lt hd
  have hcn:c<t.n:=by rw [hs.n];exact hc
  have hcz:(c:Int)<(t.n:Int):=by omega
  obtain ⟨hm1,hm2⟩:=hs.mem hd
  have hdr:=hs.dropE hd
  have hsim:=hs.sim c hc
  have hfin:=hs.cancel hd
  obtain ⟨m,rfl⟩:=iN (show 0 <= id by omega)
  simp only [Int.toNat_natCast] at hm2
  clear hm1 hd
  go_in
  go_wp2_with (go_at_call 244;refine hW.r λk=>?_)
  obtain ⟨w1,hrun,hB⟩:=(hA.keep (u':=w.drewN k) (mR.drewN k)).tdel m
  clear hA k0 k1 k2 hW
  obtain ⟨k0,k1,k2⟩:=hB.tcells
  rw [hrun]
  go_wp2_with (first
   | (
    go_at_call 270
    refine (hB.call 1 rfl (λF1 h1=>lK _ _ _ _ _ h1 m hm2)).s λw2 hC=>?_
    clear hB k0 k1 k2
    have hC:On F w (bJ d p { t with whr:=iW t.whr m,ids:=t.ids.erase m }) w2:=hC
    obtain ⟨k0,k1,k2⟩:=hC.tcells
    obtain ⟨hcap1,hcap2⟩:=hC.tcap
    have kp:=hC.tptr hcn
    )
   | (
    go_at_call 287
    refine (hC.twheelDo hcn (λF1 h1=>qy h1 hsim m)).s λw3 hD=>?_
    )
   )
  go_ret
  exact ⟨rfl,On.timers (t:=t.cancel c m) hD hfin⟩
theorem mQ (h:(bh d A).holds F w) (hT:bA w) (hF:tzL_ren.g 1∉F) (cpu due:Int):Calls tp 218 #[vp (sS ⟨d,0,nN⟩),vi iQ cpu,vi iQ due] w (al (bh d (A.arm cpu due)) F (.tuple #[vi iQ (A.armV cpu due),vi iQ (A.armE cpu due)]) w):=by
 obtain ⟨t,p,hs,hA⟩:=bE h
 obtain ⟨k0,k1,k2⟩:=hA.tcells
 have hmay:=gE (w:=w) _ _ _ k1 cpu
 rw [hs.n] at hmay
 have mA:∀ k,af [] w ((w.alloc (.cells #[vi iQ cpu] 3 (0,0))).drewN k):=λk=>(mR.alloc _).drewN k
 unfold TA.arm TA.armV
 have hB:=λk=>hA.keep (mA k)
 by_cases hi:A.is cpu
 case neg=>
  have hE:A.armE cpu due=3:=by unfold TA.armE;rw [pG hi]
  rw [hE]
  rw [nG (show ¬ (0 <= cpu /\ cpu<(A.n:Int)) from hi)] at hmay
  have hg:=λk=>(hB k).timers hs
  clear hA hi hE hB
  go_in
  go_wp2_with (go_at_call 208;refine hmay.r λk=>?_)
  go_ret2
  exact ⟨rfl,hg _⟩
 obtain ⟨hi1,hi2⟩:=hi
 rw [pG ⟨hi1,hi2⟩] at hmay
 by_cases hd:aV due
 case neg=>
  have hE:A.armE cpu due=2:=by unfold TA.armE;rw [nG (λx=>x ⟨hi1,hi2⟩),pG hd]
  rw [hE]
  have hg:=λk=>(hB k).timers hs
  have hd2:due<0 \/ (0 <= due /\ 1152921504606846976<due):=by unfold aV at hd;omega
  clear hA hE hB hd
  rcases hd2 with hd2|⟨hd1,hd2⟩
  all_goals
   go_in
   go_wp2_with (go_at_call 208;refine hmay.r λk=>?_)
   go_ret2
   exact ⟨rfl,hg _⟩
 have hd1:=hd.1
 have hd2:=hd.2
 have hfull:=hs.full
 have hlow:=hs.low
 have k0':=ay (.cells #[vi iQ cpu] 3 (0,0)) k0
 by_cases hf:48<A.low
 ·have hE:A.armE cpu due=5:=by unfold TA.armE;rw [nG (λx=>x ⟨hi1,hi2⟩),nG (λx=>x hd),pG hf]
  rw [hE]
  have hg:=λk=>(hB k).timers hs
  have hl:=hfull.2 hf
  have hq:=λk=>((hB k).get 1 rfl)
  have hTk:=λk=>fp _ _ _ _ _ (hq k).choose_spec hl
  clear hA hE hB hfull hq hd
  go_in
  go_wp2_with (first
   | (go_at_call 208;refine hmay.r λk=>?_)
   | (go_at_call 141;refine (hTk _).r λk3=>?_))
  go_ret2
  exact ⟨rfl,hg _⟩
 ·have hE:A.armE cpu due=0:=by unfold TA.armE;rw [nG (λx=>x ⟨hi1,hi2⟩),nG (λx=>x hd),nG hf]
  rw [hE]
  obtain ⟨c,rfl⟩:=iN hi1
  have hc:c<A.n:=by omega
  have hcn:c<t.n:=by rw [hs.n];exact hc
  have hcz:(c:Int)<(t.n:Int):=by omega
  have hl:t.ids.length≠48:=λx=>hf (hfull.1 x)
  have hle:bO t.ids <= 48:=by rw [<- hlow];omega
  have hfin:=hs.arm hc hd hle
  have hadd:=hs.addE hc hs.lowNone hd
  have hsim:=hs.sim c hc
  have hlen:=hs.len hc
  rw [pG rfl,pG rfl,hlow]
  have hTk:=λk=>hT.keep (mA k) sM
  have hFl:∀ b,b∈F -> b<w.heap.size:=λb hb=>(bh d A).lt h b hb
  have htl:=hT.lt
  simp only [Int.toNat_natCast]
  clear hA hE hfull hlow hf hi1 k1 k2 hd
  go_in
  go_wp2_with (first
   | (go_at_call 208;refine hmay.r λk=>?_)
   | (
    go_at_call 141
    refine ((hB k).call 1 rfl (λF1 h1=>lJ _ _ _ _ _ h1 (hTk k) hl)).s λw2 hC=>?_
    clear hB k0 k0' hTk
    have hC:On F w (bJ d p { t with ids:=bO t.ids :: t.ids }) w2:=hC
    obtain ⟨k0,k1,k2⟩:=hC.tcells
    obtain ⟨w3,hrun,hD⟩:=hC.tput (bO t.ids) c
    obtain ⟨j0,j1,j2⟩:=hD.tcells
    obtain ⟨hcap1,hcap2⟩:=hD.tcap
    have kp:=hD.tptr hcn
    clear hC
    )
   | (
    go_at_call 286
    refine (hD.twheelDo hcn (λF1 h1=>sh h1 hsim oM (bO t.ids) due)).s λw4 hG=>?_
    )
   )
  go_ret2
  exact ⟨rfl,On.timers (t:=t.arm c due) hG hfin⟩
end
theorem GN (w:wW) (a:Option Addr):bN w a []:=.inl rfl
theorem tmE0 (n:Nat):Cm n []=0:=by simp [Cm]
def TS.goN (t:TS) (T:Int) (j:Nat):TS:={ t with s:=λc=>if c<j then (t.s c).go T else t.s c }
theorem Hd (t:TS) (T:Int) (j:Nat):{ t.goN T j with s:=iY (t.goN T j).s j ((t.s j).go T) }=t.goN T (j+1):=by
 unfold TS.goN
 simp only [TS.mk.injEq,true_and]
 funext c
 by_cases e:c=j
 ·subst e;rw [aJ,pG oM]
 ·rw [bc _ _ e]
  by_cases h:c<j
  ·simp [h,show c<j+1 by omega]
  ·simp [h,show ¬ c<j+1 by omega]
theorem Hc (t:TS) (T:Int):t.goN T 0=t:=by simp [TS.goN]
section
variable {F:List Nat} {w:wW} {d:Nat} {A:TA}
theorem Dj (h:(bh d A).holds F w) (T:Int):Calls tp 116 #[vp (sS ⟨d,0,nN⟩),vi iQ T] w (al (bh d (A.go T)) F (vi iQ (A.goE T)) w):=by
 obtain ⟨t,p,hs,hA⟩:=bE h
 obtain ⟨k0,k1,k2⟩:=hA.tcells
 have hmay:=mO d t.n p.cap _ w k1 nN 0 [] sM (GN _ _)
 rw [tmE0] at hmay
 obtain ⟨hcap1,hcap2⟩:=hA.tcap
 have hn1:=hs.n1
 rw [<- hs.n] at hn1
 have hn2:=hs.n2
 rw [<- hs.n] at hn2
 go_in
 go_wp2_with (go_at_call 208;refine hmay.r λk=>?_)
 go_loopg [6,19] t.n (λgg why i wr=>∃ j:Nat,i=vi iQ j /\ why=vi iQ (if j=0 then 0 else Bf A.now T) /\ j+gg=t.n /\ On F w (bJ d p (t.goN T j)) wr)
 case atStart=>exact ⟨0,rfl,rfl,by omega,by rw [Hc];exact hA.keep (mR.drewN k)⟩
 case round=>
  clear hA k0 k1 k2
  obtain ⟨j,rfl,rfl,hj,hB⟩:=hrel
  by_cases hlt:j<t.n
  ·have hltI:(j:Int)<t.n:=by omega
   have kp:=hB.tptr (c:=j) hlt
   have kp2:wr.cell? ⟨p.gb,j,nN⟩=sS (vp (sS ⟨p.D j,0,nN⟩)):=kp
   have hjn:j<A.n:=by rw [<- hs.n];exact hlt
   have hsim:=hs.sim j hjn
   have hlen:=hs.len hjn
   have hnow:=hs.now j hjn
   have hsj:(t.goN T j).s j=t.s j:=by simp [TS.goN]
   generalize hwv:(if j=0 then (0:Int) else Bf A.now T)=wv at *
   have hst:=Hd t T j
   go_wp2_with (
    go_at_call 209
    refine (hB.twheelDo (c:=j) hlt (λF1 h1=>by rw [hsj] at h1;exact Dg h1 hsim oM T)).s λw2 hC=>?_
    rw [hst] at hC
    )
   go_roundg (gk - 1)
   case measure=>omega
   case rel=>exact ⟨j+1,by go_num,by rw [nG oM],by omega,hC⟩
  ·have hltI:¬ ((j:Int)<t.n):=by omega
   obtain rfl:j=t.n:=by omega
   have hv:(if t.n=0 then (0:Int) else Bf A.now T)=A.goE T:=by rw [nG oM];rfl
   rw [hv]
   go_wp2
   go_ret
   exact ⟨rfl,On.timers (t:=t.go T) (p:=p) hB (hs.go T)⟩
theorem JC {t:TS} (hs:cu t A) {c:Nat} (hc:c<A.n) (he:gS A.now (A.L c)≠[]):A.whr (fb (gS A.now (A.L c)) 0).1=sS c:=by
 have hm:fb (gS A.now (A.L c)) 0∈gS A.now (A.L c):=zl (List.length_pos_iff.2 he)
 have hm2:fb (gS A.now (A.L c)) 0∈A.L c:=(List.mem_filter.1 hm).1
 rw [hs.whrE]
 refine (hs.whr _ c).2 ⟨hc,?_⟩
 have h1:aC (A.L c) (fb (gS A.now (A.L c)) 0).1=sS (fb (gS A.now (A.L c)) 0).2:=cI (hs.sim c hc).nodup hm2
 rw [h1]
 rfl
theorem wJ (L:List (Int × Nat)) {j:Nat} (hj:j<L.length):ar (dC L) j=(fb L j).1:=by
 simp [ar,dC,fb,List.getD,hj]
theorem yE (h:(bh d A).holds F w) (cpu:Int):Calls tp 271 #[vp (sS ⟨d,0,nN⟩),vi iQ cpu] w (al (bh d (A.fire cpu)) F (.tuple #[vi iQ (A.fireV cpu),vi iQ (A.fireE cpu)]) w):=by
 obtain ⟨t,p,hs,hA⟩:=bE h
 obtain ⟨k0,k1,k2⟩:=hA.tcells
 have hmay:=gE (w:=w) _ _ _ k1 cpu
 rw [hs.n] at hmay k1
 have mA:∀ k,af [] w ((w.alloc (.cells #[vi iQ cpu] 3 (0,0))).drewN k):=λk=>(mR.alloc _).drewN k
 unfold TA.fire TA.fireV
 by_cases hi:A.is cpu
 case neg=>
  have hE:A.fireE cpu=3:=by unfold TA.fireE;rw [pG hi]
  rw [hE]
  rw [nG (show ¬ (0 <= cpu /\ cpu<(A.n:Int)) from hi)] at hmay
  have hg:=λk=>(hA.keep (mA k)).timers hs
  clear hA hi hE
  go_in
  go_wp2_with (go_at_call 208;refine hmay.r λk=>?_)
  go_ret2
  exact ⟨rfl,hg _⟩
 obtain ⟨hi1,hi2⟩:=hi
 rw [pG ⟨hi1,hi2⟩] at hmay
 obtain ⟨c,rfl⟩:=iN hi1
 have hc:c<A.n:=by omega
 have hcn:c<t.n:=by rw [hs.n];exact hc
 have hcz:(c:Int)<(A.n:Int):=by omega
 obtain ⟨hcap1,hcap2⟩:=hA.tcap
 rw [hs.n] at hcap1
 have kp:=ay (.cells #[vi iQ (c:Int)] 3 (0,0)) (hA.tptr hcn)
 have k1':=ay (.cells #[vi iQ (c:Int)] 3 (0,0)) k1
 have hq:=λk=>(hA.keep (mA k)).twheel hcn
 have hN:=λk=>sg (hq k).choose_spec (hs.sim c hc) (by have:=hs.len hc;omega)
 rw [hs.now c hc] at hN
 have hEq:A.fireE c=if gS A.now (A.L c)=[] then 12 else 0:=by unfold TA.fireE TA.due;rw [nG (λx=>x ⟨hi1,hi2⟩)];rfl
 by_cases he:gS A.now (A.L c)=[]
 ·rw [pG he] at hEq
  rw [hEq]
  rw [he] at hN
  have hg:=λu (m:af [] w u)=>(hA.keep m).timers hs
  clear hA hq hEq he hi1
  go_in
  go_wp2_with (first
   | (go_at_call 208;refine hmay.r λk=>?_)
   | (go_at_call 253;refine (hN _).mono ?_;rintro e w2 ⟨a2,c2,rfl,m2,i2,n2⟩))
  go_ret2
  exact ⟨rfl,hg _ ((mA k).trans m2 sM)⟩
 ·rw [nG he] at hEq
  rw [hEq,pG rfl,pG rfl]
  have hdue:A.due c=gS A.now (A.L c):=rfl
  rw [hdue]
  have hw:=JC hs hc he
  have hcan:A.cancel (fb (gS A.now (A.L c)) 0).1=A.put c (iW (A.L c) (fb (gS A.now (A.L c)) 0).1):=by unfold TA.cancel;rw [hw]
  have hcanE:A.cancelE (fb (gS A.now (A.L c)) 0).1=0:=by unfold TA.cancelE;rw [hw];rfl
  have hne:dC (gS A.now (A.L c))≠[]:=by simpa [dC] using he
  have hpos:0<(gS A.now (A.L c)).length:=List.length_pos_iff.2 he
  have hlp:0<(dC (gS A.now (A.L c))).length:=List.length_pos_iff.2 hne
  have hn0:=wJ _ hpos
  simp only [Int.toNat_natCast]
  rw [<- hcan]
  generalize dC (gS A.now (A.L c))=v at *
  generalize (fb (gS A.now (A.L c)) 0).1=id at *
  have hlt:=(bh d A).lt h
  clear hA hq hEq he hi1 hw hcan hdue hpos
  go_in
  go_wp2_with (first
   | (go_at_call 208;refine hmay.r λk=>?_)
   | (
    go_at_call 253
    refine (hN _).mono ?_
    rintro e w2 ⟨a2,c2,rfl,m2,i2,n2⟩
    obtain ⟨b,rfl,hb,hcell⟩:=i2.resolve_left hne
    have q0:=hcell 0 hlp
    rw [hn0] at q0
    have n3:=n2 b 0 rfl
    have m3:=(mA k).trans m2 sM
    ))
  have hbF:b∉F:=λhb'=>by have:=hlt b hb';simp at n3;omega
  clear hN hcell
  go_region_held3 (λu=>u.cell? ⟨b,0,nN⟩=sS (vi iQ id)) (assumption) (first
   | (
    go_at_call 222
    refine (jn (A:=A) (F:=F) ((bh d A).keep h (S:=[]) ?_ sM) id).mono ?_
    ·exact m3.drewN _
    rintro e w4 ⟨rfl,F4,g1,g2,g3⟩
    have q4:=g2.at (p:=⟨b,0,nN⟩) (by exact q0) hbF
    ))
  go_wp2
  go_ret2
  have m4:af [] w w2.drew:=m3.drew
  refine ⟨rfl,F4,g1,(m4.mono sM).trans g2 (λb hb=>.inl hb),λb hb=>?_⟩
  have h6:=m4.size
  rcases g3 b hb with hb|hb
  ·exact .inl hb
  ·exact .inr oM
theorem ET {t:TS} (hs:cu t A) {c:Nat} (hc:c<A.n) (he:A.L c≠[]):aC t.whr (fb (A.L c) 0).1=sS c /\ A.whenV (fb (A.L c) 0).1=((fb (A.L c) 0).2:Nat) /\ aV ((fb (A.L c) 0).2:Nat):=by
 have hm:fb (A.L c) 0∈A.L c:=zl (List.length_pos_iff.2 he)
 have h1:=cI (hs.sim c hc).nodup (i:=(fb (A.L c) 0).1) (v:=(fb (A.L c) 0).2) hm
 have h2:aC t.whr (fb (A.L c) 0).1=sS c:=(hs.whr _ c).2 ⟨hc,by rw [h1];rfl⟩
 refine ⟨h2,?_,?_⟩
 ·unfold TA.whenV
  rw [hs.whrE,h2]
  simp only
  rw [h1]
  rfl
 ·have:=(hs.sim c hc).inv.ok.due _ ((hs.sim c hc).perm.mem_iff.1 hm)
  exact ⟨by omega,by omega⟩
theorem cu.addE2 {t:TS} (h:cu t A) {c e:Nat} (he:e<A.n) {id:Int} (hid:aC t.whr id=sS c) (hce:c≠e) {due:Int} (hd:aV due):(t.s e).addE id due=0:=by
 have h0:aC (A.L e) id=none:=by
  cases hx:aC (A.L e) id with
  | none=>rfl
  | some v=>
   have:=(h.whr id e).2 ⟨he,by rw [hx];rfl⟩
   rw [hid] at this
   simp at this
   exact absurd this hce
 have h1:aC (t.s e).dues id=none:=by rw [<- (h.sim e he).get];exact h0
 unfold SW.addE
 rw [nG (by simpa using hd),h1]
 rfl
theorem yC (h:(bh d A).holds F w) (fr to:Int):Calls tp 309 #[vp (sS ⟨d,0,nN⟩),vi iQ fr,vi iQ to] w (al (bh d (A.move fr to)) F (.tuple #[vi iQ (A.moveV fr to),vi iQ (A.moveE fr to)]) w):=by
 obtain ⟨t,p,hs,hA⟩:=bE h
 obtain ⟨k0,k1,k2⟩:=hA.tcells
 have hmay:=mO d t.n p.cap _ (w.alloc (.cells #[vi iQ fr,vi iQ to] 3 (0,0))) (ay _ k1) (sS ⟨w.heap.size,0,nN⟩) 2 [fr,to] sM (wG w fr to _)
 rw [KQ,hs.n] at hmay
 have mA:∀ k,af [] w ((w.alloc (.cells #[vi iQ fr,vi iQ to] 3 (0,0))).drewN k):=λk=>(mR.alloc _).drewN k
 have hg:=λu (m:af [] w u)=>(hA.keep m).timers hs
 unfold TA.move TA.moveV
 by_cases hi:A.is fr /\ A.is to
 case neg=>
  have hE:A.moveE fr to=3:=by
   unfold TA.moveE
   rw [pG]
   by_cases x:A.is fr
   ·exact .inr (λy=>hi ⟨x,y⟩)
   ·exact .inl x
  rw [hE]
  rw [nG (show ¬ ((0 <= fr /\ fr<(A.n:Int)) /\ (0 <= to /\ to<(A.n:Int))) from hi)] at hmay
  clear hA hi hE
  go_in
  go_wp2_with (go_at_call 208;refine hmay.r λk=>?_)
  go_ret2
  exact ⟨rfl,hg _ (mA k)⟩
 obtain ⟨⟨hi1,hi2⟩,hj1,hj2⟩:=hi
 rw [pG ⟨⟨hi1,hi2⟩,hj1,hj2⟩] at hmay
 have hL:=λk=>yD ((bh d A).keep h (mA k) sM) fr
 have hlist:A.list fr=dC (A.L fr.toNat):=by unfold TA.list;rw [pG ⟨hi1,hi2⟩]
 rw [hlist] at hL
 have hE0:A.moveE fr to=if fr=to then 2 else if A.L fr.toNat=[] then 12 else 0:=by
  unfold TA.moveE
  rw [nG]
  rintro (x|x)
  ·exact x ⟨hi1,hi2⟩
  ·exact x ⟨hj1,hj2⟩
 by_cases hft:fr=to
 ·rw [pG hft] at hE0
  rw [hE0]
  subst hft
  clear hA hE0 k0 k1 k2 hlist
  generalize dC (A.L fr.toNat)=v at *
  go_in
  go_wp2_with (first
   | (go_at_call 208;refine hmay.r λk=>?_)
   | (go_at_call 341;refine (hL _).mono ?_;rintro e w2 ⟨a2,c2,rfl,m2,i2,n2⟩))
  go_ret2
  exact ⟨rfl,hg _ ((mA k).trans m2 sM)⟩
 rw [nG hft] at hE0
 by_cases hem:A.L fr.toNat=[]
 ·rw [pG hem] at hE0
  rw [hE0]
  rw [hem] at hL
  clear hA hE0 k0 k1 k2 hlist hem
  go_in
  go_wp2_with (first
   | (go_at_call 208;refine hmay.r λk=>?_)
   | (go_at_call 341;refine (hL _).mono ?_;rintro e w2 ⟨a2,c2,rfl,m2,i2,n2⟩))
  go_ret2
  exact ⟨rfl,hg _ ((mA k).trans m2 sM)⟩
 rw [nG hem] at hE0
 rw [hE0,pG rfl,pG rfl]
 obtain ⟨c,rfl⟩:=iN hi1
 obtain ⟨e,rfl⟩:=iN hj1
 simp only [Int.toNat_natCast] at hem hL ⊢
 have hce:c≠e:=λx=>hft (by rw [x])
 have hc:c<A.n:=by omega
 have he:e<A.n:=by omega
 have hcn:c<t.n:=by rw [hs.n];exact hc
 have hen:e<t.n:=by rw [hs.n];exact he
 have hcz:(c:Int)<(t.n:Int):=by omega
 have hez:(e:Int)<(t.n:Int):=by omega
 obtain ⟨f1,f2,f3⟩:=ET hs hc hem
 have hWh:=λu (m:af [] w u)=>yA ((bh d A).keep h m sM) (fb (A.L c) 0).1
 rw [f2] at hWh
 have hpos:0<(A.L c).length:=List.length_pos_iff.2 hem
 have hn0:=wJ (A.L c) hpos
 have hne:dC (A.L c)≠[]:=by simpa [dC] using hem
 have hlp:0<(dC (A.L c)).length:=List.length_pos_iff.2 hne
 have hsc:=hs.sim c hc
 have hse:=hs.sim e he
 have hle:=hs.len he
 have hadd:=hs.addE2 he f1 hce f3
 have hfin:=hs.move he hce f1 f3
 obtain ⟨hcap1,hcap2⟩:=hA.tcap
 generalize dC (A.L c)=v at *
 generalize (fb (A.L c) 0).1=id at *
 generalize (fb (A.L c) 0).2=due at *
 clear hE0 hft hem hlist hi1 hj1 hpos f1 f2 f3 k0 k2
 go_in
 go_wp2_with (first
  | (go_at_call 208;refine hmay.r λk=>?_)
  | (
   go_at_call 341
   refine (hL _).mono ?_
   rintro e w2 ⟨a2,c2,rfl,m2,i2,n2⟩
   obtain ⟨b,rfl,hb,hcell⟩:=i2.resolve_left hne
   have q0:=hcell 0 hlp
   rw [hn0] at q0
   have m3:=(mA k).trans m2 sM
   have hB:=hA.keep m3
   obtain ⟨k0,k1,k2⟩:=hB.tcells
   have kp:=hB.tptr hcn
   clear hcell
   )
  | (
   go_at_call 342
   refine (hWh _ m3).r λk4=>?_
   )
  | (
   go_at_call 287
   refine ((hB.keep (u':=w2.drewN k4) (mR.drewN _)).twheelDo hcn (λF1 h1=>qy h1 hsc id)).s λw5 hC=>?_
   obtain ⟨w6,hrun,hD⟩:=hC.tput id e
   obtain ⟨i0,i1,i2⟩:=hC.tcells
   obtain ⟨j0,j1,j2⟩:=hD.tcells
   have kp:=hD.tptr hen
   clear hC
   )
  | (
   go_at_call 286
   refine (hD.twheelDo hen (λF1 h1=>by
    have h1:=h1
    simp only [bc _ _ (Ne.symm hce)] at h1
    exact sh h1 hse oM id due)).mono ?_
   rintro e w7 ⟨rfl,hG⟩
   )
  )
 go_ret2
 exact ⟨rfl,On.timers (t:=t.move c e id due) hG hfin⟩
end
theorem Kq:(tp.info? 180).map (λi=>(i.zero,i.size,i.bytes))=sS (sS (vp nN),1,8):=by kernel_rfl
/-- The timers while they are made. -/
def wB (d tb mw:Nat) (g:Option Nat) (cap j:Nat) (D:Nat -> Nat):List ak:=
 [ak.blk d (.cells #[vp (sS ⟨tb,0,nN⟩),.slice (rA g) j cap,.map (sS mw)] 179 (0,0)),
  gV tb 48 [],Gy .i64 mw (cz []),kS 180 1 g cap j (qG j D)]++(List.range j).map λi=>bW (D i) (Av 0)
theorem Bh (j:Nat) (D:Nat -> Nat) (x:Nat):qG (j+1) (iY D j x)=qG j D++[vp (sS ⟨x,0,nN⟩)]:=by
 unfold qG
 rw [List.range_succ,List.map_append]
 congr 1
 ·refine List.map_congr_left λi hi=>?_
  rw [bc _ _ (by have:=List.mem_range.1 hi;omega)]
 ·simp [aJ]
theorem yn (j:Nat) (D:Nat -> Nat) (x:Nat):((List.range (j+1)).map λi=>bW (iY D j x i) (Av 0))=((List.range j).map λi=>bW (D i) (Av 0))++[bW x (Av 0)]:=by
 rw [List.range_succ,List.map_append]
 congr 1
 ·refine List.map_congr_left λi hi=>?_
  rw [bc _ _ (by have:=List.mem_range.1 hi;omega)]
 ·simp [aJ]
theorem Ik (n:Int) (hn:¬ (1 <= n /\ n <= 64)) (w:wW):Calls tp 45 #[vi iQ n] w (au (.tuple #[vp nN,vi iQ 2]) w):=by
 by_cases h1:n<1
 ·clear hn
  go_in
  go_wp2
  go_ret2
  exact au.of (rfl) dz
 ·have h2:64<n:=by omega
  clear hn
  go_in
  go_wp2
  go_ret2
  exact au.of (rfl) dz
theorem AL (n:Nat) (h1:1 <= n) (h2:n <= 64) (w:wW):Calls tp 45 #[vi iQ n] w (cN (λd:Nat=>.tuple #[vp (sS ⟨d,0,nN⟩),vi iQ 0]) (λd=>bh d (Ll n)) [] w):=by
 have hS:=(On.start w).make (nH 48 oM oM w)
 have hmk:=λw=>run_makeMap (P:=tp) 75 w
 go_in
 go_wp2_with (
  go_at_call 99
  refine hS.mono ?_
  rintro e w1 ⟨tb,rfl,hA⟩
  )
 have hB:On [] w (wB (w1.heap.size+1) tb w1.heap.size nN 0 0 (λ_=>0)) ((w1.alloc (.map #[] 0)).alloc (.cells #[vp (sS ⟨tb,0,nN⟩),.slice nN 0 0,.map (sS w1.heap.size)] 179 (0,0))):=by
  have x1:=(hA.alloc (.map #[] 0)).as (P':=Gy .i64 w1.heap.size (cz [])) 1 rfl (λF hF=>by
   obtain ⟨rfl,hF⟩:=hF
   exact ⟨rfl,#[],0,hF,by simp [cz],by simp [cz],by simp,by simp⟩)
  have x2:=x1.alloc (.cells #[vp (sS ⟨tb,0,nN⟩),.slice nN 0 0,.map (sS w1.heap.size)] 179 (0,0))
  have x3:=x2.front.more (P:=kS 180 1 nN 0 0 []) ⟨rfl,lY.nil _ _ _⟩
  simpa [wB,qG,rA] using x3
 generalize hd:w1.heap.size+1=d at *
 have hdz:(w1.alloc (.map #[] 0)).heap.size=d:=by simp [hd]
 go_loopg [27] n (λgg i wr=>∃ (j:Nat) (g:Option Nat) (cap:Nat) (D:Nat -> Nat),i=vi iQ j /\ j+gg=n /\ On [] w (wB d tb w1.heap.size g cap j D) wr)
 case atStart=>exact ⟨0,nN,0,_,rfl,by omega,hB⟩
 case round=>
  clear hB
  obtain ⟨j,g,cap,D,rfl,hj,hB⟩:=hrel
  by_cases hlt:j<n
  ·have hltI:(j:Int)<n:=by omega
   have hN:=hB.make (AB wr)
   go_wp2_with (first
    | (
     go_at_call 101
     refine hN.mono ?_
     rintro e w2 ⟨dw,rfl,hC⟩
     have c1:=hC.cell 0 rfl 1
     have hC2:=hC.keep (u':=w2.alloc (.cells #[vp (sS ⟨dw,0,nN⟩)] 180 (0,0))) (mR.alloc _)
     have c2:=hC2.cell 0 rfl 1
     obtain ⟨g',cap',w3,hrun,hD⟩:=hC2.rowAppend (P:=tp) (tt:=177) (bytes:=8) 3 rfl Tryz.underlying177 Kq rfl oM oM oM (b:=w2.heap.size) (news:=[vp (sS ⟨dw,0,nN⟩)]) rfl (by simp [Value.oneCell']) (ai _ _)
     have c3:=hD.cell 0 rfl 1
     have f3:=hD.free 0 rfl 1
     have z3:=hD.size 0 rfl
     )
    | (
     at_builtin
     refine aM rfl _ _ _ rfl rfl rfl (hrun _) ?_
     )
    )
   have hE:=hD.set 0 rfl 1 (.slice (sS ⟨g',0,nN⟩) (j+1) cap')
   go_roundg (gk - 1)
   case measure=>omega
   case rel=>
    refine ⟨j+1,sS g',cap',iY D j dw,by go_num,by omega,?_⟩
    have e:wB d tb w1.heap.size (sS g') cap' (j+1) (iY D j dw)=(((wB d tb w1.heap.size g cap j D++[bW dw (Av 0)]).set 3 (kS 180 1 (sS g') cap' (j+1) (qG j D++[Value.pointer (sS ⟨dw,0,nN⟩)]))).set 0 (ak.blk d (Obj.cells ((#[Value.pointer (sS ⟨tb,0,nN⟩),Value.slice (rA g) j cap,Value.map (sS w1.heap.size)]:Array Value).setIfInBounds 1 (Value.slice (sS ⟨g',0,nN⟩) (j+1) cap')) 179 (0,0)))):=by
     simp [wB,Bh,yn,rA]
    rw [e]
    exact hE
  ·have hltI:¬ (j:Int)<n:=by omega
   obtain rfl:j=n:=by omega
   obtain ⟨F1,_,hr⟩:=hB.get 3 rfl
   cases g with
   | none=>obtain ⟨_,h0,_⟩:=hr;omega
   | some gb=>
    clear hr
    go_wp2
    go_ret2
    exact ⟨d,rfl,hB.gains.imp λF' h'=>⟨JV j,KO h1 h2,⟨tb,gb,cap,w1.heap.size,D⟩,h'⟩⟩
end Go.Proofs.YtmiapbgkphpgoaaGreatDoor