/- Walks and plain laws of the kernel. No condition. -/
import Derived.Test.YtmiapbgkphpgoaaGreatDoorBaseM
import Derived.Deep.LoopGhost
import Derived.Test.YtmiapbgkphpgoaaGreatDoorTimerM
import Derived.Deep.OwnRows
import Derived.Deep.MidRow
import Derived.Test.YtmiapbgkphpgoaaGreatDoorKAM
namespace Go.Proofs.YtmiapbgkphpgoaaGreatDoor
set_option linter.unusedVariables false
set_option linter.unusedSimpArgs false
set_option maxRecDepth 100000
set_option maxHeartbeats 20000000
open Go.RowKit
open Go.Proofs.Tryz renaming prog → tp
open List renaming setIfInBounds_toArray → sA, set_cons_zero → sB, set_cons_succ → sC
open Go renaming World → wW
open Go.Value renaming pointer → vp, bool → vb, int → vi
open Go.IntKind renaming i64 → iQ, u64 → uQ
open Option renaming none → nN, some → sS
open Bool renaming true → tQ, false → fF
open Int renaming eq_ofNat_of_zero_le → iN
def aq {α:Type} (f:Nat -> α) (k:Nat) (v:α):Nat -> α:=λj=>if j=k then v else f j
theorem ah {α:Type} (f:Nat -> α) (k:Nat) (v:α):aq f k v k=v:=pG rfl
theorem ao {α:Type} (f:Nat -> α) {k j:Nat} (v:α) (h:j≠k):aq f k v j=f j:=nG h
/-- n things of k cells each. -/
def ea (n:Nat) (f:Nat -> List Value):List Value:=(List.range n).flatMap f
theorem gh (n:Nat) (f:Nat -> List Value):ea (n+1) f=ea n f++f n:=by simp [ea,List.range_succ]
theorem bm {k:Nat} {f:Nat -> List Value} (hk:∀ i,(f i).length=k):∀ n,(ea n f).length=n * k
 | 0=>by simp [ea]
 | n+1=>by rw [gh,List.length_append,bm hk n,hk,Nat.add_mul,Nat.one_mul]
theorem jJ {k:Nat} {f:Nat -> List Value} (hk:∀ i,(f i).length=k) {i j:Nat} (hj:j<k):∀ n,i<n -> (ea n f)[i * k+j]?=(f i)[j]?
 | 0,h=>by omega
 | n+1,h=>by
  rw [gh]
  by_cases e:i=n
  ·subst e
   rw [List.getElem?_append_right (by rw [bm hk];omega),bm hk]
   congr 1;omega
  ·have hlt:i<n:=by omega
   have hle:(i+1) * k <= n * k:=Nat.mul_le_mul_right k hlt
   rw [Nat.add_mul,Nat.one_mul] at hle
   rw [List.getElem?_append_left (by rw [bm hk];omega)]
   exact jJ hk hj n hlt
theorem lD {f g:Nat -> List Value}:∀ n,(∀ i,i<n -> f i=g i) -> ea n f=ea n g
 | 0,_=>rfl
 | n+1,h=>by rw [gh,gh,lD n (λi hi=>h i oM),h n oM]
theorem wN {k:Nat} {f:Nat -> List Value} (hk:∀ i,(f i).length=k) {i j:Nat} (hj:j<k) (v:Value):∀ n,i<n -> (ea n f).set (i * k+j) v=ea n (aq f i ((f i).set j v))
 | 0,h=>by omega
 | n+1,h=>by
  rw [gh,gh]
  by_cases e:i=n
  ·subst e
   rw [List.set_append_right _ _ (by rw [bm hk];omega),bm hk,ah,lD (f:=aq f i ((f i).set j v)) (g:=f) i (λx hx=>ao f _ oM)]
   have e:i * k+j - i * k=j:=by omega
   rw [e]
  ·have hlt:i<n:=by omega
   have hle:(i+1) * k <= n * k:=Nat.mul_le_mul_right k hlt
   rw [Nat.add_mul,Nat.one_mul] at hle
   rw [List.set_append_left _ _ (by rw [bm hk];omega),wN hk hj v n hlt,ao _ _ oM]
/-- The cells of a block: what stands ahead, the things, what stands behind. -/
def cC (pre:List Value) (n:Nat) (f:Nat -> List Value) (post:List Value):Array Value:=(pre++ea n f++post).toArray
section
variable {pre post:List Value} {k n:Nat} {f:Nat -> List Value}
theorem gN (hk:∀ i,(f i).length=k) {i j:Nat} (hi:i<n) (hj:j<k) {o:Nat} (ho:o=pre.length+(i * k+j)):(cC pre n f post)[o]?=(f i)[j]?:=by
 have hle:(i+1) * k <= n * k:=Nat.mul_le_mul_right k hi
 rw [Nat.add_mul,Nat.one_mul] at hle
 subst ho
 unfold cC
 rw [List.getElem?_toArray,List.append_assoc,List.getElem?_append_right oM,List.getElem?_append_left (by rw [bm hk];omega),Nat.add_sub_cancel_left]
 exact jJ hk hj n hi
theorem gM (hk:∀ i,(f i).length=k) {i j:Nat} (hi:i<n) (hj:j<k) (v:Value) {o:Nat} (ho:o=pre.length+(i * k+j)):(cC pre n f post).setIfInBounds o v=cC pre n (aq f i ((f i).set j v)) post:=by
 have hle:(i+1) * k <= n * k:=Nat.mul_le_mul_right k hi
 rw [Nat.add_mul,Nat.one_mul] at hle
 subst ho
 unfold cC
 rw [sA,List.append_assoc,List.set_append_right _ _ oM,Nat.add_sub_cancel_left,List.set_append_left _ _ (by rw [bm hk];omega),wN hk hj v n hi,List.append_assoc]
theorem lW (hk:∀ i,(f i).length=k) {j o:Nat} (ho:o=pre.length+n * k+j):(cC pre n f post)[o]?=post[j]?:=by
 subst ho
 unfold cC
 rw [List.getElem?_toArray,List.getElem?_append_right (by rw [List.length_append,bm hk];omega),List.length_append,bm hk]
 congr 1;omega
theorem Ap {j:Nat} (hj:j<pre.length):(cC pre n f post)[j]?=pre[j]?:=by
 unfold cC
 rw [List.getElem?_toArray,List.append_assoc,List.getElem?_append_left hj]
theorem qW {j:Nat} (hj:j<pre.length) (v:Value):(cC pre n f post).setIfInBounds j v=cC (pre.set j v) n f post:=by
 unfold cC
 rw [sA,List.append_assoc,List.set_append_left _ _ hj,List.append_assoc]
theorem pd (hk:∀ i,(f i).length=k) {j o:Nat} (v:Value) (ho:o=pre.length+n * k+j):(cC pre n f post).setIfInBounds o v=cC pre n f (post.set j v):=by
 subst ho
 unfold cC
 rw [sA,List.set_append_right _ _ (by rw [List.length_append,bm hk];omega),List.length_append,bm hk]
 have e:pre.length+n * k+j - (pre.length+n * k)=j:=by omega
 rw [e]
end
def bw (n:Int):Nat:=2 ^ (min n.toNat 64) - 1
theorem zb (i:Nat):1 <= 2 ^ i:=Nat.pow_pos oM
theorem iB (n:Int):bw n<2 ^ 64:=by
 unfold bw
 have h:2 ^ (min n.toNat 64) <= 2 ^ 64:=Nat.pow_le_pow_right oM oM
 have:=zb (min n.toNat 64)
 omega
theorem ix (n:Int) (w:wW):Calls tp 22 #[vi iQ n] w (au (vi uQ (bw n)) w):=by
 by_cases h0:n <= 0
 ·have hU:bw n=0:=by
   have:min n.toNat 64=0:=by omega
   simp [bw,this]
  have HU:=zh hU
  clear hU
  go_in
  go_wp2
  go_ret
  exact au.of (by rw [HU.out];rfl) dz
 ·by_cases h1:64 <= n
  ·have hU:bw n=18446744073709551615:=by
    have:min n.toNat 64=64:=by omega
    simp [bw,this]
   have HU:=zh hU
   clear hU
   go_in
   go_wp2
   go_ret
   exact au.of (by rw [HU.out];rfl) dz
  ·obtain ⟨m,rfl⟩:=iN (show 0 <= n by omega)
   have hm:m<64:=by omega
   have hU:IntKind.u64.wrap (((2 ^ m:Nat):Int) - 1)=((bw m:Nat):Int):=by
    have e:bw m=2 ^ m - 1:=by
     have:min (m:Int).toNat 64=m:=by omega
     unfold bw;rw [this]
    have h2:=zb m
    have h3:=jq hm
    rw [e,show ((2 ^ m:Nat):Int) - 1=((2 ^ m - 1:Nat):Int) by rw [Int.natCast_sub h2];rfl]
    exact nz _ oM
   have HU:=zh hU
   clear hU
   have hO:=zw m
   go_in
   go_wp2_with (go_at_call 79;refine (hO _ hm).r λk=>?_)
   go_ret
   exact au.of (by rw [<- HU.out];rfl) dz
def fK (c:Int):Nat:=if 0 <= c /\ c<64 then 2 ^ c.toNat else 0
theorem rK (c:Int):fK c<2 ^ 64:=by
 unfold fK
 split
 ·exact jq oM
 ·omega
theorem nT (c:Int) (j:Nat):(fK c).testBit j=decide (c=(j:Int) /\ j<64):=by
 unfold fK
 by_cases h:0 <= c /\ c<64
 ·rw [pG h,Nat.testBit_two_pow]
  by_cases e:c.toNat=j
  ·have:c=(j:Int) /\ j<64:=by omega
   simp [e,this]
  ·have:¬ (c=(j:Int) /\ j<64):=by omega
   simp [e,this]
 ·rw [nG h]
  have:¬ (c=(j:Int) /\ j<64):=by omega
  simp [this]
theorem pL (c:Int) (w:wW):Calls tp 79 #[vi iQ c] w (au (vi uQ (fK c:Nat)) w):=by
 by_cases h:0 <= c /\ c<64
 ·obtain ⟨h1,h2⟩:=h
  obtain ⟨m,rfl⟩:=iN h1
  have e:fK m=2 ^ m:=by unfold fK;rw [pG ⟨h1,h2⟩];simp
  rw [e]
  exact zw m w oM
 ·have e:fK c=0:=by unfold fK;rw [nG h]
  rw [e]
  have h2:c<0 \/ (0 <= c /\ 64 <= c):=by omega
  clear h e
  rcases h2 with h2|⟨h1,h2⟩
  all_goals
   go_in
   go_wp2
   go_ret
   exact au.of (rfl) dz
/-- a without b. -/
def dF (a b:Nat):Nat:=a ^^^ (a &&& b)
theorem lX (a b j:Nat):(dF a b).testBit j=(a.testBit j&&!b.testBit j):=by
 unfold dF
 rw [Nat.testBit_xor,Nat.testBit_and]
 cases a.testBit j<;>cases b.testBit j<;>rfl
theorem dQ {a:Nat} (b:Nat) (h:a<2 ^ 64):dF a b<2 ^ 64:=by
 unfold dF
 exact Nat.xor_lt_two_pow h (Nat.lt_of_le_of_lt Nat.and_le_left h)
theorem kJ (a b:Nat) (ha:a<2 ^ 64) (hb:b<2 ^ 64):bits .andNot .u64 (a:Int) (b:Int)=((dF a b:Nat):Int):=by
 have key:(BitVec.ofInt 64 (a:Int) &&& ~~~ (BitVec.ofInt 64 (b:Int)))=BitVec.ofNat 64 (dF a b):=by
  rw [BitVec.ofInt_natCast,BitVec.ofInt_natCast]
  apply BitVec.eq_of_getLsbD_eq
  intro i hi
  simp only [BitVec.getLsbD_and,BitVec.getLsbD_not,BitVec.getLsbD_ofNat,hi,decide_true,Bool.true_and,lX]
 show IntKind.u64.wrap ((BitVec.ofInt 64 (a:Int) &&& ~~~ (BitVec.ofInt 64 (b:Int))).toNat:Int)=_
 rw [key,BitVec.toNat_ofNat,Nat.mod_eq_of_lt (dQ b ha)]
 exact nz _ (dQ b ha)
theorem jP {m:Nat}:m=0↔∀ j,m.testBit j=fF:=by
 constructor
 ·rintro rfl j;simp
 ·intro h
  apply Nat.eq_of_testBit_eq
  intro j
  simp [h j]
def aW (m:Nat) (c:Int):Bool:=decide (0 <= c /\ c<64)&&m.testBit c.toNat
theorem Hb (m:Nat) (c:Int):aW m c=!((((m &&& fK c:Nat):Int))==0):=by
 have h:((m &&& fK c)=0)↔aW m c=fF:=by
  rw [jP]
  unfold aW
  constructor
  ·intro h
   by_cases hc:0 <= c /\ c<64
   ·have:=h c.toNat
    rw [Nat.testBit_and,nT] at this
    have e:c=(c.toNat:Int) /\ c.toNat<64:=by omega
    simp only [decide_eq_true e,Bool.and_true] at this
    simp [this]
   ·simp [hc]
  ·intro h j
   rw [Nat.testBit_and,nT]
   by_cases e:c=(j:Int) /\ j<64
   ·obtain ⟨e1,e2⟩:=e
    subst e1
    have:(0:Int) <= (j:Int) /\ (j:Int)<64:=by omega
    rw [decide_eq_true this] at h
    simp at h
    simp [h]
   ·simp [e]
 by_cases h0:(m &&& fK c)=0
 ·rw [h.1 h0,h0];rfl
 ·have h1:aW m c=tQ:=by
   cases hx:aW m c with
   | true=>rfl
   | false=>exact absurd (h.2 hx) h0
  have h2:((((m &&& fK c:Nat):Int))==0)=fF:=by simp;omega
  rw [h1,h2];rfl
theorem bK (m:Nat) (hm:m<2 ^ 64) (c:Int) (w:wW):Calls tp 150 #[vi uQ m,vi iQ c] w (au (vb (aW m c)) w):=by
 have hO:=λw=>pL c w
 have hB:=zh (bits_and_u64_nat m (fK c) hm (rK c))
 have hH:=zh (Hb m c)
 generalize fK c=o at *
 generalize aW m c=b at *
 go_in
 go_wp2_with (go_at_call 79;refine (hO _).r λk=>?_)
 go_ret
 refine ⟨?_,by repeat (first|exact aA.refl _|apply aA.drewN|apply aA.drew)⟩
 rw [hH.out,<- hB.out]
 simp [bne]
def aK (m:Nat) (c:Int):Nat:=dF m (fK c)
theorem jF (m:Nat) (hm:m<2 ^ 64) (c:Int) (w:wW):Calls tp 152 #[vi uQ m,vi iQ c] w (au (vi uQ (aK m c:Nat)) w):=by
 have hO:=λw=>pL c w
 have hB:=zh (kJ m (fK c) hm (rK c))
 unfold aK
 generalize fK c=o at *
 go_in
 go_wp2_with (go_at_call 79;refine (hO _).r λk=>?_)
 go_ret
 refine ⟨?_,by repeat (first|exact aA.refl _|apply aA.drewN|apply aA.drew)⟩
 rw [<- hB.out];rfl
theorem Gx (m o:Nat) (hm:m<2 ^ 64) (ho:o<2 ^ 64) (w:wW):Calls tp 304 #[vi uQ m,vi uQ o] w (au (vi uQ (dF m o:Nat)) w):=by
 have hB:=zh (kJ m o hm ho)
 go_in
 go_wp2
 go_ret
 exact au.of (by rw [<- hB.out];rfl) dz
theorem qK (m o:Nat) (hm:m<2 ^ 64) (ho:o<2 ^ 64) (w:wW):Calls tp 36 #[vi uQ m,vi uQ o] w (au (vb (decide (dF m o=0))) w):=by
 have hB:=zh (kJ m o hm ho)
 go_in
 go_wp2
 go_ret
 refine ⟨?_,by repeat (first|exact aA.refl _|apply aA.drewN|apply aA.drew)⟩
 have e:(bits .andNot .u64 (m:Int) (o:Int)==0)=decide (dF m o=0):=by
  rw [hB.out]
  by_cases h:dF m o=0
  ·simp [h]
  ·simp [h]
 simp [e]
def bF (m:Nat):Int:=if m=0 then 0 else Lib.ctz 64 m
def iM (m:Nat):Int:=if m=0 then 12 else 0
theorem ey (m:Nat) (hm:m<2 ^ 64) (w:wW) (hT:bA w):Calls tp 153 #[vi uQ m] w (au (.tuple #[vi iQ (bF m),vi iQ (iM m)]) w):=by
 by_cases h0:m=0
 ·subst h0
  go_in
  go_wp2
  go_ret2
  exact au.of (rfl) dz
 ·have e1:bF m=Lib.ctz 64 m:=nG h0
  have e2:iM m=0:=nG h0
  rw [e1,e2]
  have hne:((m:Int)==0)=fF:=by simp;omega
  have hz:=λu hu=>Any7.bits_TrailingZeros64 tzL m oM u (λ_=>hu)
  have hz2:∀ u,bA u -> Calls tp 231 #[vi uQ m] u (λe u'=>e=.returned (vi iQ (Lib.ctz 64 m)) /\ u'=u):=λu hu=>hz u hu
  generalize Lib.ctz 64 m=z at *
  clear hz e1 e2
  go_in
  go_wp2_with (go_at_call 231;refine (hz2 _ (by first|exact hT|exact hT.drewN _)).mono ?_;rintro e w' ⟨rfl,rfl⟩)
  go_ret2
  exact au.of (rfl) dz
def uE (m:Nat) (c:Int):Nat:=dF m (bw (c+1))
def mG (m:Nat) (c:Int):Nat:=if c<0 \/ 63 <= c then m else if uE m c≠0 then uE m c else m
theorem Eo (m:Nat) (hm:m<2 ^ 64) (c:Int) (w:wW) (hT:bA w):Calls tp 283 #[vi uQ m,vi iQ c] w (au (.tuple #[vi iQ (bF (mG m c)),vi iQ (iM (mG m c))]) w):=by
 by_cases h:c<0 \/ 63 <= c
 ·have e:mG m c=m:=pG h
  rw [e]
  have hF:=λu hu=>ey m hm u hu
  have h2:c<0 \/ (¬ c<0 /\ 63 <= c):=by omega
  clear h e
  generalize bF m=a at *
  generalize iM m=b at *
  rcases h2 with h2|⟨h1,h2⟩
  all_goals
   go_in
   go_wp2_with (go_at_call 153;refine (hF _ (by first|exact hT|exact hT.drewN _)).r λk=>?_)
   go_ret2
   exact au.of (rfl) dz
 ·have hn1:¬ c<0:=by omega
  have hn2:¬ 63 <= c:=by omega
  have hU:=λw=>ix (c+1) w
  have hB:=zh (kJ m (bw (c+1)) hm (iB _))
  have hA:=dQ (bw (c+1)) hm
  have e:mG m c=if uE m c≠0 then uE m c else m:=nG h
  unfold uE at e
  generalize bw (c+1)=up at *
  by_cases ha:dF m up=0
  ·rw [nG (by simp [ha])] at e
   rw [e]
   have hF:=λu hu=>ey m hm u hu
   have hz:(bits .andNot .u64 (m:Int) (up:Int)==0)=tQ:=by rw [hB.out,ha];rfl
   clear h e
   generalize bF m=a at *
   generalize iM m=b at *
   go_in
   go_wp2_with (first
    | (go_at_call 22;refine (hU _).r λk=>?_)
    | (go_at_call 153;refine (hF _ (by first|exact hT|exact hT.drewN _)).r λk2=>?_))
   go_ret2
   exact au.of (rfl) dz
  ·rw [pG ha] at e
   rw [e]
   have hF:=λu hu=>ey (dF m up) hA u hu
   rw [<- hB.out] at hF
   have hz:(bits .andNot .u64 (m:Int) (up:Int)==0)=fF:=by rw [hB.out];simp;omega
   clear h e
   generalize bF (dF m up)=a at *
   generalize iM (dF m up)=b at *
   go_in
   go_wp2_with (first
    | (go_at_call 22;refine (hU _).r λk=>?_)
    | (go_at_call 153;refine (hF _ (by first|exact hT|exact hT.drewN _)).r λk2=>?_))
   go_ret2
   exact au.of (rfl) dz
structure ST where
 who:Nat
 held:Nat
def ST.ok (s:ST):Prop:=s.who<2 ^ 64 /\ s.held<2 ^ 64
def ST.on (s:ST):Bool:=decide (s.who≠0)
def ST.left (s:ST):Nat:=dF s.who s.held
def ST.must (s:ST) (c:Int):Bool:=aW s.left c
def ST.ready (s:ST):Bool:=s.on&&decide (s.left=0)
def bn (m:Nat) (c:Int):Nat:=m ||| fK c
theorem fk {m:Nat} (h:m<2 ^ 64) (c:Int):bn m c<2 ^ 64:=Nat.or_lt_two_pow h (rK c)
def ST.ackE (s:ST) (c:Int):Int:=if s.must c then 0 else 6
def ST.ack (s:ST) (c:Int):ST:=if s.must c then ⟨s.who,bn s.held c⟩ else s
def ST.freeE (s:ST):Int:=if s.who=0 then 6 else 0
def ST.free (s:ST):ST:=if s.who=0 then s else ⟨0,0⟩
def lH (s:ST):Obj:=.cells #[vi uQ (s.who:Nat),vi uQ (s.held:Nat)] 129 (0,0)
def eP (b:Nat) (s:ST):ak:=ak.such s.ok (ak.blk b (lH s))
section
variable {F:List Nat} {w:wW} {b:Nat} {s:ST}
theorem fQ (h:(eP b s).holds F w):s.ok /\ w.cell? ⟨b,0,nN⟩=sS (vi uQ (s.who:Nat)) /\ w.cell? ⟨b,1,nN⟩=sS (vi uQ (s.held:Nat)) /\ On F w [ak.blk b (lH s)] w:=by
 obtain ⟨h1,h2⟩:=h
 have hA:=On.one h2
 exact ⟨h1,hA.cell 0 rfl 0,hA.cell 0 rfl 1,hA⟩
theorem jY (h:(eP b s).holds F w):Calls tp 343 #[vp (sS ⟨b,0,nN⟩)] w (au (vb s.on) w):=by
 obtain ⟨hok,c0,c1,hA⟩:=fQ h
 unfold ST.on
 clear hA h hok
 generalize s.who=x at *
 go_in
 go_wp2
 go_ret
 refine ⟨?_,by repeat (first|exact aA.refl _|apply aA.drewN|apply aA.drew)⟩
 by_cases e:x=0<;>simp [e]
theorem vD (h:(eP b s).holds F w):Calls tp 256 #[vp (sS ⟨b,0,nN⟩)] w (au (vi uQ (s.left:Nat)) w):=by
 obtain ⟨⟨ho1,ho2⟩,c0,c1,hA⟩:=fQ h
 have hN:=λw=>Gx s.who s.held ho1 ho2 w
 unfold ST.left
 clear hA h
 generalize s.who=x at *
 generalize s.held=y at *
 go_in
 go_wp2
 go_quiet (first|(go_at_call 304;exact Calls.quiet_of (hN _)))
 go_wp2
 go_ret
 exact au.of (rfl) dz
theorem Dm (h:(eP b s).holds F w) (c:Int):Calls tp 179 #[vp (sS ⟨b,0,nN⟩),vi iQ c] w (au (vb (aW s.held c)) w):=by
 obtain ⟨⟨ho1,ho2⟩,c0,c1,hA⟩:=fQ h
 have hN:=λw=>bK s.held ho2 c w
 clear hA h
 generalize s.held=y at *
 generalize aW y c=z at *
 go_in
 go_wp2_with (go_at_call 150;refine (hN _).r λk=>?_)
 go_ret
 exact au.of (rfl) dz
theorem vC (h:(eP b s).holds F w) (c:Int):Calls tp 178 #[vp (sS ⟨b,0,nN⟩),vi iQ c] w (λe w'=>e=.returned (vb (s.must c)) /\ af [] w w'):=by
 have hL:=vD h
 have hlt:s.left<2 ^ 64:=dQ _ h.1.1
 have hN:=λw=>bK s.left hlt c w
 unfold ST.must
 generalize s.left=x at *
 generalize aW x c=z at *
 go_in
 go_wp2_with (first
  | (go_at_call 256;refine hL.r λk=>?_)
  | (go_at_call 150;refine (hN _).r λk2=>?_))
 go_ret
 refine ⟨rfl,?_⟩
 exact ms
theorem sx (h:(eP b s).holds F w):Calls tp 345 #[vp (sS ⟨b,0,nN⟩)] w (au (vb s.ready) w):=by
 have hO:=jY h
 have hL:=λk=>vD ((eP b s).keep h (S:=[]) (mR.drewN k) sM)
 unfold ST.ready
 generalize s.left=x at *
 cases hx:s.on
 ·rw [hx] at hO
  clear hL hx
  go_in
  go_wp2_with (go_at_call 343;refine hO.r λk=>?_)
  go_ret
  exact au.of sM dz
 ·rw [hx] at hO
  clear hx
  go_in
  go_wp2_with (first
   | (go_at_call 343;refine hO.r λk=>?_)
   | (go_at_call 256;refine (hL _).r λk2=>?_))
  go_ret
  refine ⟨?_,by repeat (first|exact aA.refl _|apply aA.drewN|apply aA.drew)⟩
  by_cases e:x=0<;>simp [e]
end
theorem Er (z:List Value) (hz:z≠[]) (n:Nat):madeCells z.toArray (n * z.length)=cC [] n (λ_=>z) []:=by
 have hk:0<z.length:=List.length_pos_iff.2 hz
 apply Array.ext_getElem?
 intro m
 by_cases hm:m<n * z.length
 ·have h1:m / z.length<n:=Nat.div_lt_of_lt_mul (by rw [Nat.mul_comm];exact hm)
  have h2:m % z.length<z.length:=Nat.mod_lt _ hk
  have h3:m=m / z.length * z.length+m % z.length:=by rw [Nat.mul_comm];exact (Nat.div_add_mod _ _).symm
  rw [gN (k:=z.length) (λ_=>rfl) h1 h2 (by simpa using h3)]
  simp [madeCells,hm,h2]
 ·have h4:(madeCells z.toArray (n * z.length)).size=n * z.length:=size_madeCells _ _
  have h5:(cC [] n (λ_=>z) []).size=n * z.length:=by
   unfold cC
   simp [bm (k:=z.length) (λ_=>rfl)]
  rw [Array.getElem?_eq_none oM,Array.getElem?_eq_none oM]
theorem ni (z:List Value) (k:Nat) (hk:z.length=k) (h0:0<k) (n:Nat):madeCells z.toArray (n * k)=cC [] n (λ_=>z) []:=by
 subst hk
 exact Er z (by rintro rfl;simp at h0) n
structure dG where
 power:Bool
 idle:Bool
 way:Int
 since:Int
 steps:Int
 busy:Int
def bD (c:dG):List Value:=[vb c.power,vb c.idle,vi iQ c.way,vi iQ c.since,vi iQ c.steps,vi iQ c.busy]
/-- The cores: how many, and each. -/
structure CT where
 n:Nat
 c:Nat -> dG
def CT.is (t:CT) (cpu:Int):Prop:=0 <= cpu /\ cpu<t.n
instance instCore1 (t:CT) (cpu:Int):Decidable (t.is cpu):=by unfold CT.is;infer_instance
def dG.ok (c:dG):Prop:=(0 <= c.way /\ c.way<8) /\ (0 <= c.since /\ c.since <= 1152921504606846976) /\ bz c.steps /\ bz c.busy
def CT.ok (t:CT):Prop:=1 <= t.n /\ t.n <= 64 /\ ∀ i,(t.c i).ok
def CT.put (t:CT) (i:Nat) (c:dG):CT:={ t with c:=aq t.c i c }
def dP (b:Nat) (t:CT):ak:=ak.such t.ok (ak.ex λr:Nat=>ak.star [ak.blk b (.cells #[.slice (sS ⟨r,0,nN⟩) t.n t.n] 211 (0,0)),ak.blk r (.cells (cC [] t.n (λi=>bD (t.c i)) []) 213 (0,0))])
def cg (b r:Nat) (t:CT):List ak:=[ak.blk b (.cells #[.slice (sS ⟨r,0,nN⟩) t.n t.n] 211 (0,0)),ak.blk r (.cells (cC [] t.n (λi=>bD (t.c i)) []) 213 (0,0))]
section
variable {F:List Nat} {w u:wW} {b r:Nat} {t:CT}
theorem gn (h:(dP b t).holds F w):∃ r,t.ok /\ On F w (cg b r t) w:=by
 obtain ⟨hok,r,h⟩:=h
 exact ⟨r,hok,On.of h⟩
theorem On.cores (h:On F w (cg b r t) u) (hok:t.ok):dt (dP b t) F w u:=h.gains.imp λF' h'=>⟨hok,r,h'⟩
theorem On.core (h:On F w (cg b r t) u) {i j:Nat} (hi:i<t.n) (hj:j<6):u.cell? ⟨r,i * 6+j,nN⟩=(bD (t.c i))[j]?:=by
 have:=h.cell 1 rfl (i * 6+j)
 rw [this]
 exact gN (k:=6) (λi=>rfl) hi hj sM
theorem On.coreSet (h:On F w (cg b r t) u) {i j:Nat} (hi:i<t.n) (hj:j<6) (v:Value) {c':dG} (hc:(bD (t.c i)).set j v=bD c'):On F w (cg b r (t.put i c')) (u.setCell ⟨r,i * 6+j,nN⟩ v):=by
 have:=h.set 1 rfl (i * 6+j) v
 rw [gM (k:=6) (λi=>rfl) hi hj v sM] at this
 have e:aq (λi=>bD (t.c i)) i ((bD (t.c i)).set j v)=λx=>bD ((t.put i c').c x):=by
  funext x
  by_cases e:x=i
  ·subst e;rw [ah,hc];show bD c'=bD (aq t.c x c' x);rw [ah]
  ·rw [ao _ _ e];show _=bD (aq t.c i c' x);rw [ao _ _ e]
 rw [e] at this
 exact this
theorem put_self (t:CT) (i:Nat):t.put i (t.c i)=t:=by
 cases t with
 | mk n c=>
  show CT.mk n (aq c i (c i))=_
  congr 1
  funext x
  by_cases e:x=i
  ·subst e;exact ah _ _ _
  ·exact ao _ _ e
theorem IE (t:CT) (i:Nat) (x y:dG):(t.put i x).put i y=t.put i y:=by
 show CT.mk t.n _=CT.mk t.n _
 congr 1
 funext z
 by_cases e:z=i
 ·subst e;rw [ah,ah]
 ·rw [ao _ _ e,ao _ _ e];exact ao _ _ e
theorem put_ok (h:t.ok) (i:Nat) {x:dG} (hx:x.ok):(t.put i x).ok:=by
 refine ⟨h.1,h.2.1,λj=>?_⟩
 show (aq t.c i x j).ok
 by_cases e:j=i
 ·subst e;rw [ah];exact hx
 ·rw [ao _ _ e];exact h.2.2 j
theorem On.core0 (h:On F w (cg b r t) u) (i:Nat):On F w (cg b r (t.put i (t.c i))) u:=by rw [put_self];exact h
theorem On.corePut {x:dG} {i:Nat} (h:On F w (cg b r (t.put i x)) u) (hi:i<t.n) (j:Nat) (hj:j<6) (v:Value) {x':dG} (hc:(bD x).set j v=bD x'):On F w (cg b r (t.put i x')) (u.setCell ⟨r,i * 6+j,nN⟩ v):=by
 have e:(t.put i x).c i=x:=ah _ _ _
 have:=h.coreSet (i:=i) (j:=j) hi hj v (c':=x') (by rw [e];exact hc)
 rwa [IE] at this
def CT.findE (t:CT) (cpu:Int):Int:=if t.is cpu then 0 else 3
theorem gq (h:On F w (cg b r t) u) (cpu:Int):Calls tp 175 #[vp (sS ⟨b,0,nN⟩),vi iQ cpu] u (au (.tuple #[vp (if t.is cpu then sS ⟨r,cpu.toNat * 6,nN⟩ else nN),vi iQ (t.findE cpu)]) u):=by
 have c0:u.cell? ⟨b,0,nN⟩=sS (.slice (sS ⟨r,0,nN⟩) t.n t.n):=h.cell 0 rfl 0
 unfold CT.findE
 by_cases hi:t.is cpu
 ·rw [pG hi,pG hi]
  obtain ⟨h1,h2⟩:=hi
  obtain ⟨c,rfl⟩:=iN h1
  simp only [Int.toNat_natCast]
  clear h
  go_in
  go_wp2
  go_ret2
  exact au.of sM dz
 ·rw [nG hi,nG hi]
  have h2:cpu<0 \/ (¬ cpu<0 /\ (t.n:Int) <= cpu):=by unfold CT.is at hi;omega
  clear h hi
  rcases h2 with h2|⟨h1,h2⟩
  all_goals
   go_in
   go_wp2
   go_ret2
   exact au.of (rfl) dz
end
def wr (n:Int):Int:=IntKind.i64.wrap n
theorem uf:bz 0:=by unfold bz;decide
theorem Ck (n:Int):bz (wr n):=by unfold wr bz;rw [IntKind.wrap_i64];omega
def dG.up (c:dG):dG:={ c with idle:=false,way:=0,since:=0 }
def CT.at (t:CT) (cpu:Int):dG:=t.c cpu.toNat
def iG (now:Int):Bool:=decide (0 <= now /\ now <= 1152921504606846976)
def CT.powE (t:CT) (cpu:Int) (on:Bool):Int:=if ¬ t.is cpu then 3 else if (t.at cpu).power=on then 6 else 0
def CT.pow (t:CT) (cpu:Int) (on:Bool):CT:=if t.powE cpu on=0 then t.put cpu.toNat { (t.at cpu).up with power:=on } else t
def CT.restE (t:CT) (cpu way now:Int):Int:=if ¬ t.is cpu then 3 else if way<0 \/ 8 <= way \/ iG now=fF then 2 else if (t.at cpu).power=fF \/ (t.at cpu).idle=tQ then 6 else 0
def CT.rest (t:CT) (cpu way now:Int):CT:=if t.restE cpu way now=0 then t.put cpu.toNat { t.at cpu with idle:=true,way:=way,since:=now } else t
def CT.wakeE (t:CT) (cpu now:Int):Int:=if ¬ t.is cpu then 3 else if iG now=fF then 2 else if (t.at cpu).idle=fF then 6 else 0
def CT.wakeN (t:CT) (cpu now:Int):Int:=if t.wakeE cpu now=0 then max 0 (now - (t.at cpu).since) else 0
def CT.wake (t:CT) (cpu now:Int):CT:=if t.wakeE cpu now=0 then t.put cpu.toNat (t.at cpu).up else t
def CT.count (t:CT) (cpu:Int) (busy:Bool):CT:=if t.is cpu then t.put cpu.toNat { t.at cpu with steps:=wr ((t.at cpu).steps+1),busy:=if busy then wr ((t.at cpu).busy+1) else (t.at cpu).busy } else t
def CT.take (t:CT) (cpu:Int):CT:=if t.is cpu then t.put cpu.toNat { t.at cpu with steps:=0,busy:=0 } else t
def CT.takeB (t:CT) (cpu:Int):Int:=if t.is cpu then (t.at cpu).busy else 0
def CT.takeS (t:CT) (cpu:Int):Int:=if t.is cpu then (t.at cpu).steps else 0
section
variable {F:List Nat} {w u:wW} {b r:Nat} {t:CT}
theorem CQ {x:dG} {i:Nat} (hi:i<t.n) (hA:On F w (cg b r (t.put i x)) u):Calls tp 183 #[vp (sS ⟨r,i * 6,nN⟩)] u (λe u'=>e=.returned (.tuple #[]) /\ On F w (cg b r (t.put i x.up)) u'):=by
 have f1:u.frozen? ⟨r,i * 6+1,nN⟩=fF:=hA.free 1 rfl _
 have f2:u.frozen? ⟨r,i * 6+2,nN⟩=fF:=hA.free 1 rfl _
 have f3:u.frozen? ⟨r,i * 6+3,nN⟩=fF:=hA.free 1 rfl _
 have e:(t.put i x).c i=x:=ah _ _ _
 have c1:u.cell? ⟨r,i * 6+1,nN⟩=sS (vb x.idle):=by have:=hA.core (i:=i) hi (j:=1) dE;rw [e] at this;exact this
 have c2:u.cell? ⟨r,i * 6+2,nN⟩=sS (vi iQ x.way):=by have:=hA.core (i:=i) hi (j:=2) dE;rw [e] at this;exact this
 have c3:u.cell? ⟨r,i * 6+3,nN⟩=sS (vi iQ x.since):=by have:=hA.core (i:=i) hi (j:=3) dE;rw [e] at this;exact this
 obtain ⟨pw,il,wy,si,st,bu⟩:=x
 dsimp only at *
 have hB:=zh hA
 clear hA e
 go_in
 go_wp2
 go_end0
 refine ⟨rfl,?_⟩
 exact ((((hB.out.keep mR).corePut hi 1 dE (vb fF) (x':=⟨pw,fF,wy,si,st,bu⟩) rfl).corePut hi 2 dE (vi iQ 0) (x':=⟨pw,fF,0,si,st,bu⟩) rfl).corePut hi 3 dE (vi iQ 0) (x':=⟨pw,fF,0,0,st,bu⟩) rfl)
theorem JN {x:dG} (h:x.ok) (p:Bool):dG.ok { x.up with power:=p }:=⟨⟨Int.le_refl _,by show (0:Int)<8;decide⟩,⟨Int.le_refl _,by show (0:Int) <= _;decide⟩,h.2.2⟩
theorem uA (n:Int) (w:wW):Calls tp 182 #[vi iQ n] w (au (vb (iG n)) w):=by
 unfold iG
 by_cases h:0 <= n
 ·skip
  go_in
  go_wp2
  go_ret
  exact au.of (by simp [h]) dz
 ·have h':n<0:=by omega
  have e:decide (0 <= n /\ n <= 1152921504606846976)=fF:=by simp;omega
  rw [e]
  go_in
  go_wp2
  go_ret
  exact au.of sM dz
theorem gw (h:(dP b t).holds F w) (cpu:Int) (busy:Bool):Calls tp 108 #[vp (sS ⟨b,0,nN⟩),vi iQ cpu,vb busy] w (al (dP b (t.count cpu busy)) F (vi iQ (t.findE cpu)) w):=by
 obtain ⟨r,hok,hA⟩:=gn h
 have hF:=gq hA cpu
 unfold CT.count
 by_cases hi:t.is cpu
 ·have e1:t.findE cpu=0:=pG hi
  rw [pG hi,e1] at hF
  rw [e1,pG hi]
  obtain ⟨h1,h2⟩:=hi
  obtain ⟨c,rfl⟩:=iN h1
  simp only [CT.at,Int.toNat_natCast] at *
  clear e1 h
  have ho:(t.c c).ok:=hok.2.2 c
  have hB:=zh (hA.core0 c)
  have hO:=zh hA
  have hlt:c<t.n:=by omega
  have c0:w.cell? ⟨r,c * 6,nN⟩=sS (vb (t.c c).power):=hA.core hlt (j:=0) dE
  have c1:w.cell? ⟨r,c * 6+1,nN⟩=sS (vb (t.c c).idle):=hA.core hlt (j:=1) dE
  have c2:w.cell? ⟨r,c * 6+2,nN⟩=sS (vi iQ (t.c c).way):=hA.core hlt (j:=2) dE
  have c3:w.cell? ⟨r,c * 6+3,nN⟩=sS (vi iQ (t.c c).since):=hA.core hlt (j:=3) dE
  have c4:w.cell? ⟨r,c * 6+4,nN⟩=sS (vi iQ (t.c c).steps):=hA.core hlt (j:=4) dE
  have c5:w.cell? ⟨r,c * 6+5,nN⟩=sS (vi iQ (t.c c).busy):=hA.core hlt (j:=5) dE
  have f0:w.frozen? ⟨r,c * 6,nN⟩=fF:=hA.free 1 rfl _
  have f1:w.frozen? ⟨r,c * 6+1,nN⟩=fF:=hA.free 1 rfl _
  have f2:w.frozen? ⟨r,c * 6+2,nN⟩=fF:=hA.free 1 rfl _
  have f3:w.frozen? ⟨r,c * 6+3,nN⟩=fF:=hA.free 1 rfl _
  have f4:w.frozen? ⟨r,c * 6+4,nN⟩=fF:=hA.free 1 rfl _
  have f5:w.frozen? ⟨r,c * 6+5,nN⟩=fF:=hA.free 1 rfl _
  generalize t.c c=x at *
  clear hA
  obtain ⟨pw,il,wy,si,st,bu⟩:=x
  dsimp only at *
  have g4:=Ck (st+1)
  have g5:=Ck (bu+1)
  have e4:IntKind.i64.wrap (st+1)=wr (st+1):=rfl
  have e5:IntKind.i64.wrap (bu+1)=wr (bu+1):=rfl
  generalize wr (st+1)=st2 at *
  generalize wr (bu+1)=bu2 at *
  cases busy
  ·simp only [Bool.false_eq_true,if_false]
   go_in
   go_wp2_with (go_at_call 175;refine hF.r λk=>?_)
   go_ret
   refine ⟨rfl,?_⟩
   refine On.cores (r:=r) ?_ (put_ok hok c ⟨ho.1,ho.2.1,g4,ho.2.2.2⟩)
   have:=((hB.out.keep (mR.drewN k)).corePut hlt 4 dE (vi iQ st2) (x':=⟨pw,il,wy,si,st2,bu⟩) rfl)
   simpa [e4] using this
  ·simp only [if_true]
   go_in
   go_wp2_with (go_at_call 175;refine hF.r λk=>?_)
   go_ret
   refine ⟨rfl,?_⟩
   refine On.cores (r:=r) ?_ (put_ok hok c ⟨ho.1,ho.2.1,g4,g5⟩)
   have:=(((hB.out.keep (mR.drewN k)).corePut hlt 4 dE (vi iQ st2) (x':=⟨pw,il,wy,si,st2,bu⟩) rfl).corePut hlt 5 dE (vi iQ bu2) (x':=⟨pw,il,wy,si,st2,bu2⟩) rfl)
   simpa [e4,e5] using this
 ·have e1:t.findE cpu=3:=nG hi
  rw [nG hi,e1] at hF
  rw [e1,nG hi]
  clear h e1
  go_in
  go_wp2_with (go_at_call 175;refine hF.r λk=>?_)
  go_ret
  exact ⟨rfl,(hA.keep (mR.drewN k)).cores hok⟩
theorem nw (h:(dP b t).holds F w) (cpu:Int) (on:Bool):Calls tp 305 #[vp (sS ⟨b,0,nN⟩),vi iQ cpu,vb on] w (al (dP b (t.pow cpu on)) F (vi iQ (t.powE cpu on)) w):=by
 obtain ⟨r,hok,hA⟩:=gn h
 have hF:=gq hA cpu
 by_cases hi:t.is cpu
 ·by_cases hp:(t.at cpu).power=on
  ·have e1:t.powE cpu on=6:=by unfold CT.powE;rw [nG (by simpa using hi),pG hp]
   have e2:t.pow cpu on=t:=nG (by rw [e1];decide)
   rw [e1,e2]
   clear e1 e2
   have e0:t.findE cpu=0:=pG hi
   rw [pG hi,e0] at hF
   have hi2:=hi
   obtain ⟨h1,h2⟩:=hi2
   obtain ⟨c,rfl⟩:=iN h1
   simp only [CT.at,Int.toNat_natCast] at *
   clear e0 h
   have ho:(t.c c).ok:=hok.2.2 c
   have hB:=zh (hA.core0 c)
   have hO:=zh hA
   have hlt:c<t.n:=by omega
   have c0:w.cell? ⟨r,c * 6,nN⟩=sS (vb (t.c c).power):=hA.core hlt (j:=0) dE
   have c1:w.cell? ⟨r,c * 6+1,nN⟩=sS (vb (t.c c).idle):=hA.core hlt (j:=1) dE
   have c2:w.cell? ⟨r,c * 6+2,nN⟩=sS (vi iQ (t.c c).way):=hA.core hlt (j:=2) dE
   have c3:w.cell? ⟨r,c * 6+3,nN⟩=sS (vi iQ (t.c c).since):=hA.core hlt (j:=3) dE
   have c4:w.cell? ⟨r,c * 6+4,nN⟩=sS (vi iQ (t.c c).steps):=hA.core hlt (j:=4) dE
   have c5:w.cell? ⟨r,c * 6+5,nN⟩=sS (vi iQ (t.c c).busy):=hA.core hlt (j:=5) dE
   have f0:w.frozen? ⟨r,c * 6,nN⟩=fF:=hA.free 1 rfl _
   have f1:w.frozen? ⟨r,c * 6+1,nN⟩=fF:=hA.free 1 rfl _
   have f2:w.frozen? ⟨r,c * 6+2,nN⟩=fF:=hA.free 1 rfl _
   have f3:w.frozen? ⟨r,c * 6+3,nN⟩=fF:=hA.free 1 rfl _
   have f4:w.frozen? ⟨r,c * 6+4,nN⟩=fF:=hA.free 1 rfl _
   have f5:w.frozen? ⟨r,c * 6+5,nN⟩=fF:=hA.free 1 rfl _
   generalize t.c c=x at *
   clear hA
   obtain ⟨pw,il,wy,si,st,bu⟩:=x
   dsimp only at *
   subst hp
   go_in
   go_wp2_with (go_at_call 175;refine hF.r λk=>?_)
   go_ret
   refine ⟨rfl,?_⟩
   exact (hO.out.keep (mR.drewN k)).cores hok
  ·have e1:t.powE cpu on=0:=by unfold CT.powE;rw [nG (by simpa using hi),nG hp]
   have e2:t.pow cpu on=t.put cpu.toNat { (t.at cpu).up with power:=on }:=pG e1
   rw [e1,e2]
   clear e1 e2
   have e0:t.findE cpu=0:=pG hi
   rw [pG hi,e0] at hF
   have hi2:=hi
   obtain ⟨h1,h2⟩:=hi2
   obtain ⟨c,rfl⟩:=iN h1
   simp only [CT.at,Int.toNat_natCast] at *
   clear e0 h
   have ho:(t.c c).ok:=hok.2.2 c
   have hB:=zh (hA.core0 c)
   have hO:=zh hA
   have hlt:c<t.n:=by omega
   have c0:w.cell? ⟨r,c * 6,nN⟩=sS (vb (t.c c).power):=hA.core hlt (j:=0) dE
   have c1:w.cell? ⟨r,c * 6+1,nN⟩=sS (vb (t.c c).idle):=hA.core hlt (j:=1) dE
   have c2:w.cell? ⟨r,c * 6+2,nN⟩=sS (vi iQ (t.c c).way):=hA.core hlt (j:=2) dE
   have c3:w.cell? ⟨r,c * 6+3,nN⟩=sS (vi iQ (t.c c).since):=hA.core hlt (j:=3) dE
   have c4:w.cell? ⟨r,c * 6+4,nN⟩=sS (vi iQ (t.c c).steps):=hA.core hlt (j:=4) dE
   have c5:w.cell? ⟨r,c * 6+5,nN⟩=sS (vi iQ (t.c c).busy):=hA.core hlt (j:=5) dE
   have f0:w.frozen? ⟨r,c * 6,nN⟩=fF:=hA.free 1 rfl _
   have f1:w.frozen? ⟨r,c * 6+1,nN⟩=fF:=hA.free 1 rfl _
   have f2:w.frozen? ⟨r,c * 6+2,nN⟩=fF:=hA.free 1 rfl _
   have f3:w.frozen? ⟨r,c * 6+3,nN⟩=fF:=hA.free 1 rfl _
   have f4:w.frozen? ⟨r,c * 6+4,nN⟩=fF:=hA.free 1 rfl _
   have f5:w.frozen? ⟨r,c * 6+5,nN⟩=fF:=hA.free 1 rfl _
   generalize t.c c=x at *
   clear hA
   obtain ⟨pw,il,wy,si,st,bu⟩:=x
   dsimp only at *
   have hq:(pw==on)=fF:=by simp [hp]
   go_in
   go_wp2_with (first
    | (go_at_call 175;refine hF.r λk=>?_)
    | (go_at_call 183;refine (CQ hlt ((hB.out.keep (mR.drewN k)).corePut hlt 0 dE (vb on) (x':=⟨on,il,wy,si,st,bu⟩) rfl)).s λw2 hD=>?_))
   go_ret
   refine ⟨rfl,?_⟩
   refine On.cores (r:=r) (hD.keep ?_) (put_ok hok c (JN ho on))
   exact ms
 ·have e0:t.findE cpu=3:=nG hi
  have e1:t.powE cpu on=3:=pG hi
  have e2:t.pow cpu on=t:=nG (by rw [e1];decide)
  rw [nG hi,e0] at hF
  rw [e1,e2]
  clear h e1 e2 e0
  have hB:=zh hA
  clear hA
  go_in
  go_wp2_with (go_at_call 175;refine hF.r λk=>?_)
  go_ret
  exact ⟨rfl,(hB.out.keep (mR.drewN k)).cores hok⟩
theorem wZ (h:(dP b t).holds F w) (cpu:Int):Calls tp 204 #[vp (sS ⟨b,0,nN⟩),vi iQ cpu] w (al (dP b (t.take cpu)) F (.tuple #[vi iQ (t.takeB cpu),vi iQ (t.takeS cpu),vi iQ (t.findE cpu)]) w):=by
 obtain ⟨r,hok,hA⟩:=gn h
 have hF:=gq hA cpu
 unfold CT.take CT.takeB CT.takeS
 by_cases hi:t.is cpu
 ·rw [pG hi,pG hi,pG hi]
  have e1:t.findE cpu=0:=pG hi
  rw [e1]
  clear e1
  have e0:t.findE cpu=0:=pG hi
  rw [pG hi,e0] at hF
  have hi2:=hi
  obtain ⟨h1,h2⟩:=hi2
  obtain ⟨c,rfl⟩:=iN h1
  simp only [CT.at,Int.toNat_natCast] at *
  clear e0 h
  have ho:(t.c c).ok:=hok.2.2 c
  have hB:=zh (hA.core0 c)
  have hO:=zh hA
  have hlt:c<t.n:=by omega
  have c0:w.cell? ⟨r,c * 6,nN⟩=sS (vb (t.c c).power):=hA.core hlt (j:=0) dE
  have c1:w.cell? ⟨r,c * 6+1,nN⟩=sS (vb (t.c c).idle):=hA.core hlt (j:=1) dE
  have c2:w.cell? ⟨r,c * 6+2,nN⟩=sS (vi iQ (t.c c).way):=hA.core hlt (j:=2) dE
  have c3:w.cell? ⟨r,c * 6+3,nN⟩=sS (vi iQ (t.c c).since):=hA.core hlt (j:=3) dE
  have c4:w.cell? ⟨r,c * 6+4,nN⟩=sS (vi iQ (t.c c).steps):=hA.core hlt (j:=4) dE
  have c5:w.cell? ⟨r,c * 6+5,nN⟩=sS (vi iQ (t.c c).busy):=hA.core hlt (j:=5) dE
  have f0:w.frozen? ⟨r,c * 6,nN⟩=fF:=hA.free 1 rfl _
  have f1:w.frozen? ⟨r,c * 6+1,nN⟩=fF:=hA.free 1 rfl _
  have f2:w.frozen? ⟨r,c * 6+2,nN⟩=fF:=hA.free 1 rfl _
  have f3:w.frozen? ⟨r,c * 6+3,nN⟩=fF:=hA.free 1 rfl _
  have f4:w.frozen? ⟨r,c * 6+4,nN⟩=fF:=hA.free 1 rfl _
  have f5:w.frozen? ⟨r,c * 6+5,nN⟩=fF:=hA.free 1 rfl _
  generalize t.c c=x at *
  clear hA
  obtain ⟨pw,il,wy,si,st,bu⟩:=x
  dsimp only at *
  go_in
  go_wp2_with (go_at_call 175;refine hF.r λk=>?_)
  go_quiet (fail)
  go_wp2
  go_ret3
  refine ⟨rfl,?_⟩
  refine On.cores (r:=r) ?_ (put_ok hok c (x:=⟨pw,il,wy,si,0,0⟩) ⟨ho.1,ho.2.1,uf,uf⟩)
  have hk:=hB.out.keep (u':=w.drewN k) (mR.drewN k)
  refine ((?_:On F w _ _).corePut hlt 5 dE (vi iQ 0) (x:=⟨pw,il,wy,si,st,bu⟩) (x':=⟨pw,il,wy,si,st,0⟩) rfl).corePut hlt 4 dE (vi iQ 0) (x':=⟨pw,il,wy,si,0,0⟩) rfl
  exact hB.out.keep mz
 ·have e0:t.findE cpu=3:=nG hi
  rw [nG hi,e0] at hF
  rw [nG hi,nG hi,nG hi,e0]
  clear h e0
  have hB:=zh hA
  clear hA
  go_in
  go_wp2_with (go_at_call 175;refine hF.r λk=>?_)
  go_ret3
  exact ⟨rfl,(hB.out.keep (mR.drewN k)).cores hok⟩
theorem Ff (h:(dP b t).holds F w) (cpu way now:Int):Calls tp 193 #[vp (sS ⟨b,0,nN⟩),vi iQ cpu,vi iQ way,vi iQ now] w (al (dP b (t.rest cpu way now)) F (vi iQ (t.restE cpu way now)) w):=by
 obtain ⟨r,hok,hA⟩:=gn h
 have hF:=gq hA cpu
 have hR:=λw=>uA now w
 by_cases hi:t.is cpu
 ·by_cases hp:way<0 \/ 8 <= way \/ iG now=fF
  ·have e1:t.restE cpu way now=2:=by unfold CT.restE;rw [nG (by simpa using hi),pG hp]
   have e2:t.rest cpu way now=t:=nG (by rw [e1];decide)
   rw [e1,e2]
   clear e1 e2
   have hO:=zh hA
   have e0:t.findE cpu=0:=pG hi
   rw [pG hi,e0] at hF
   have hi2:=hi
   obtain ⟨h1,h2⟩:=hi2
   obtain ⟨c,rfl⟩:=iN h1
   simp only [CT.at,Int.toNat_natCast] at *
   clear e0 h
   have hq:way<0 \/ (0 <= way /\ 8 <= way) \/ (0 <= way /\ way<8 /\ iG now=fF):=by
    rcases hp with hp|hp|hp
    ·exact .inl hp
    ·exact .inr (.inl ⟨by omega,hp⟩)
    ·by_cases g1:way<0
     ·exact .inl g1
     ·by_cases g2:8 <= way
      ·exact .inr (.inl ⟨by omega,g2⟩)
      ·exact .inr (.inr ⟨by omega,by omega,hp⟩)
   clear hp hA
   generalize iG now=rt at *
   rcases hq with hq|⟨hq1,hq2⟩|⟨hq1,hq2,rfl⟩
   all_goals
    go_in
    go_wp2_with (first
     | (go_at_call 175;refine hF.r λk=>?_)
     | (go_at_call 182;refine (hR _).r λk2=>?_))
    go_ret
    refine ⟨rfl,(hO.out.keep ?_).cores hok⟩
    exact ms
  ·have hw1:0 <= way:=by omega
   have hw2:way<8:=by omega
   have hr:iG now=tQ:=by
    cases hx:iG now
    ·exact absurd (.inr (.inr hx)) hp
    ·rfl
   have hr2:0 <= now /\ now <= 1152921504606846976:=of_decide_eq_true hr
   rw [hr] at hR
   by_cases hs:(t.at cpu).power=fF \/ (t.at cpu).idle=tQ
   ·have e1:t.restE cpu way now=6:=by unfold CT.restE;rw [nG (by simpa using hi),nG hp,pG hs]
    have e2:t.rest cpu way now=t:=nG (by rw [e1];decide)
    rw [e1,e2]
    clear e1 e2 hp
    have e0:t.findE cpu=0:=pG hi
    rw [pG hi,e0] at hF
    have hi2:=hi
    obtain ⟨h1,h2⟩:=hi2
    obtain ⟨c,rfl⟩:=iN h1
    simp only [CT.at,Int.toNat_natCast] at *
    clear e0 h
    have ho:(t.c c).ok:=hok.2.2 c
    have hB:=zh (hA.core0 c)
    have hO:=zh hA
    have hlt:c<t.n:=by omega
    have c0:w.cell? ⟨r,c * 6,nN⟩=sS (vb (t.c c).power):=hA.core hlt (j:=0) dE
    have c1:w.cell? ⟨r,c * 6+1,nN⟩=sS (vb (t.c c).idle):=hA.core hlt (j:=1) dE
    have c2:w.cell? ⟨r,c * 6+2,nN⟩=sS (vi iQ (t.c c).way):=hA.core hlt (j:=2) dE
    have c3:w.cell? ⟨r,c * 6+3,nN⟩=sS (vi iQ (t.c c).since):=hA.core hlt (j:=3) dE
    have c4:w.cell? ⟨r,c * 6+4,nN⟩=sS (vi iQ (t.c c).steps):=hA.core hlt (j:=4) dE
    have c5:w.cell? ⟨r,c * 6+5,nN⟩=sS (vi iQ (t.c c).busy):=hA.core hlt (j:=5) dE
    have f0:w.frozen? ⟨r,c * 6,nN⟩=fF:=hA.free 1 rfl _
    have f1:w.frozen? ⟨r,c * 6+1,nN⟩=fF:=hA.free 1 rfl _
    have f2:w.frozen? ⟨r,c * 6+2,nN⟩=fF:=hA.free 1 rfl _
    have f3:w.frozen? ⟨r,c * 6+3,nN⟩=fF:=hA.free 1 rfl _
    have f4:w.frozen? ⟨r,c * 6+4,nN⟩=fF:=hA.free 1 rfl _
    have f5:w.frozen? ⟨r,c * 6+5,nN⟩=fF:=hA.free 1 rfl _
    generalize t.c c=x at *
    clear hA
    obtain ⟨pw,il,wy,si,st,bu⟩:=x
    dsimp only at *
    have hs2:pw=fF \/ (pw=tQ /\ il=tQ):=by
     cases pw<;>simp_all
    clear hs
    rcases hs2 with rfl|⟨rfl,rfl⟩
    all_goals
     go_in
     go_wp2_with (first
      | (go_at_call 175;refine hF.r λk=>?_)
      | (go_at_call 182;refine (hR _).r λk2=>?_))
     go_ret
     refine ⟨rfl,(hO.out.keep ?_).cores hok⟩
     exact ms
   ·have e1:t.restE cpu way now=0:=by unfold CT.restE;rw [nG (by simpa using hi),nG hp,nG hs]
    have e2:t.rest cpu way now=t.put cpu.toNat { t.at cpu with idle:=true,way:=way,since:=now }:=pG e1
    rw [e1,e2]
    clear e1 e2 hp
    have e0:t.findE cpu=0:=pG hi
    rw [pG hi,e0] at hF
    have hi2:=hi
    obtain ⟨h1,h2⟩:=hi2
    obtain ⟨c,rfl⟩:=iN h1
    simp only [CT.at,Int.toNat_natCast] at *
    clear e0 h
    have ho:(t.c c).ok:=hok.2.2 c
    have hB:=zh (hA.core0 c)
    have hO:=zh hA
    have hlt:c<t.n:=by omega
    have c0:w.cell? ⟨r,c * 6,nN⟩=sS (vb (t.c c).power):=hA.core hlt (j:=0) dE
    have c1:w.cell? ⟨r,c * 6+1,nN⟩=sS (vb (t.c c).idle):=hA.core hlt (j:=1) dE
    have c2:w.cell? ⟨r,c * 6+2,nN⟩=sS (vi iQ (t.c c).way):=hA.core hlt (j:=2) dE
    have c3:w.cell? ⟨r,c * 6+3,nN⟩=sS (vi iQ (t.c c).since):=hA.core hlt (j:=3) dE
    have c4:w.cell? ⟨r,c * 6+4,nN⟩=sS (vi iQ (t.c c).steps):=hA.core hlt (j:=4) dE
    have c5:w.cell? ⟨r,c * 6+5,nN⟩=sS (vi iQ (t.c c).busy):=hA.core hlt (j:=5) dE
    have f0:w.frozen? ⟨r,c * 6,nN⟩=fF:=hA.free 1 rfl _
    have f1:w.frozen? ⟨r,c * 6+1,nN⟩=fF:=hA.free 1 rfl _
    have f2:w.frozen? ⟨r,c * 6+2,nN⟩=fF:=hA.free 1 rfl _
    have f3:w.frozen? ⟨r,c * 6+3,nN⟩=fF:=hA.free 1 rfl _
    have f4:w.frozen? ⟨r,c * 6+4,nN⟩=fF:=hA.free 1 rfl _
    have f5:w.frozen? ⟨r,c * 6+5,nN⟩=fF:=hA.free 1 rfl _
    generalize t.c c=x at *
    clear hA
    obtain ⟨pw,il,wy,si,st,bu⟩:=x
    dsimp only at *
    have hs2:pw=tQ /\ il=fF:=by cases pw<;>cases il<;>simp_all
    clear hs
    obtain ⟨rfl,rfl⟩:=hs2
    go_in
    go_wp2_with (first
     | (go_at_call 175;refine hF.r λk=>?_)
     | (go_at_call 182;refine (hR _).r λk2=>?_))
    go_ret
    refine ⟨rfl,?_⟩
    refine On.cores (r:=r) ?_ (put_ok hok c (x:=⟨tQ,tQ,way,now,st,bu⟩) ⟨⟨hw1,hw2⟩,hr2,ho.2.2⟩)
    refine (((?_:On F w _ _).corePut hlt 1 dE (vb tQ) (x:=⟨tQ,fF,wy,si,st,bu⟩) (x':=⟨tQ,tQ,wy,si,st,bu⟩) rfl).corePut hlt 2 dE (vi iQ way) (x':=⟨tQ,tQ,way,si,st,bu⟩) rfl).corePut hlt 3 dE (vi iQ now) (x':=⟨tQ,tQ,way,now,st,bu⟩) rfl
    exact hB.out.keep mz
 ·have e0:t.findE cpu=3:=nG hi
  have e1:t.restE cpu way now=3:=pG hi
  have e2:t.rest cpu way now=t:=nG (by rw [e1];decide)
  rw [nG hi,e0] at hF
  rw [e1,e2]
  clear h e1 e2 e0
  have hB:=zh hA
  clear hA
  go_in
  go_wp2_with (go_at_call 175;refine hF.r λk=>?_)
  go_ret
  exact ⟨rfl,(hB.out.keep (mR.drewN k)).cores hok⟩
theorem Fe (h:(dP b t).holds F w) (cpu now:Int):Calls tp 109 #[vp (sS ⟨b,0,nN⟩),vi iQ cpu,vi iQ now] w (al (dP b (t.wake cpu now)) F (.tuple #[vi iQ (t.wakeN cpu now),vi iQ (t.wakeE cpu now)]) w):=by
 obtain ⟨r,hok,hA⟩:=gn h
 have hF:=gq hA cpu
 have hR:=λw=>uA now w
 by_cases hi:t.is cpu
 ·cases hr:iG now
  ·have e1:t.wakeE cpu now=2:=by unfold CT.wakeE;rw [nG (by simpa using hi),pG hr]
   have e2:t.wake cpu now=t:=nG (by rw [e1];decide)
   have e3:t.wakeN cpu now=0:=nG (by rw [e1];decide)
   rw [e1,e2,e3]
   rw [hr] at hR
   clear e1 e2 e3
   have hO:=zh hA
   have e0:t.findE cpu=0:=pG hi
   rw [pG hi,e0] at hF
   have hi2:=hi
   obtain ⟨h1,h2⟩:=hi2
   obtain ⟨c,rfl⟩:=iN h1
   simp only [CT.at,Int.toNat_natCast] at *
   clear e0 h
   clear hA
   go_in
   go_wp2_with (first
    | (go_at_call 175;refine hF.r λk=>?_)
    | (go_at_call 182;refine (hR _).r λk2=>?_))
   go_ret2
   refine ⟨rfl,(hO.out.keep ?_).cores hok⟩
   exact ms
  ·have hr2:0 <= now /\ now <= 1152921504606846976:=of_decide_eq_true hr
   have hrn:¬ iG now=fF:=by rw [hr];decide
   rw [hr] at hR
   cases hs:(t.at cpu).idle
   ·have e1:t.wakeE cpu now=6:=by unfold CT.wakeE;rw [nG (by simpa using hi),nG hrn,pG hs]
    have e2:t.wake cpu now=t:=nG (by rw [e1];decide)
    have e3:t.wakeN cpu now=0:=nG (by rw [e1];decide)
    rw [e1,e2,e3]
    clear e1 e2 e3 hr hrn
    have e0:t.findE cpu=0:=pG hi
    rw [pG hi,e0] at hF
    have hi2:=hi
    obtain ⟨h1,h2⟩:=hi2
    obtain ⟨c,rfl⟩:=iN h1
    simp only [CT.at,Int.toNat_natCast] at *
    clear e0 h
    have ho:(t.c c).ok:=hok.2.2 c
    have hB:=zh (hA.core0 c)
    have hO:=zh hA
    have hlt:c<t.n:=by omega
    have c0:w.cell? ⟨r,c * 6,nN⟩=sS (vb (t.c c).power):=hA.core hlt (j:=0) dE
    have c1:w.cell? ⟨r,c * 6+1,nN⟩=sS (vb (t.c c).idle):=hA.core hlt (j:=1) dE
    have c2:w.cell? ⟨r,c * 6+2,nN⟩=sS (vi iQ (t.c c).way):=hA.core hlt (j:=2) dE
    have c3:w.cell? ⟨r,c * 6+3,nN⟩=sS (vi iQ (t.c c).since):=hA.core hlt (j:=3) dE
    have c4:w.cell? ⟨r,c * 6+4,nN⟩=sS (vi iQ (t.c c).steps):=hA.core hlt (j:=4) dE
    have c5:w.cell? ⟨r,c * 6+5,nN⟩=sS (vi iQ (t.c c).busy):=hA.core hlt (j:=5) dE
    have f0:w.frozen? ⟨r,c * 6,nN⟩=fF:=hA.free 1 rfl _
    have f1:w.frozen? ⟨r,c * 6+1,nN⟩=fF:=hA.free 1 rfl _
    have f2:w.frozen? ⟨r,c * 6+2,nN⟩=fF:=hA.free 1 rfl _
    have f3:w.frozen? ⟨r,c * 6+3,nN⟩=fF:=hA.free 1 rfl _
    have f4:w.frozen? ⟨r,c * 6+4,nN⟩=fF:=hA.free 1 rfl _
    have f5:w.frozen? ⟨r,c * 6+5,nN⟩=fF:=hA.free 1 rfl _
    generalize t.c c=x at *
    clear hA
    obtain ⟨pw,il,wy,si,st,bu⟩:=x
    dsimp only at *
    subst hs
    go_in
    go_wp2_with (first
     | (go_at_call 175;refine hF.r λk=>?_)
     | (go_at_call 182;refine (hR _).r λk2=>?_))
    go_ret2
    refine ⟨rfl,(hO.out.keep ?_).cores hok⟩
    exact ms
   ·have e1:t.wakeE cpu now=0:=by unfold CT.wakeE;rw [nG (by simpa using hi),nG hrn,nG (by rw [hs];decide)]
    have e2:t.wake cpu now=t.put cpu.toNat (t.at cpu).up:=pG e1
    have e3:t.wakeN cpu now=max 0 (now - (t.at cpu).since):=pG e1
    rw [e1,e2,e3]
    clear e1 e2 e3 hr hrn
    have e0:t.findE cpu=0:=pG hi
    rw [pG hi,e0] at hF
    have hi2:=hi
    obtain ⟨h1,h2⟩:=hi2
    obtain ⟨c,rfl⟩:=iN h1
    simp only [CT.at,Int.toNat_natCast] at *
    clear e0 h
    have ho:(t.c c).ok:=hok.2.2 c
    have hB:=zh (hA.core0 c)
    have hO:=zh hA
    have hlt:c<t.n:=by omega
    have c0:w.cell? ⟨r,c * 6,nN⟩=sS (vb (t.c c).power):=hA.core hlt (j:=0) dE
    have c1:w.cell? ⟨r,c * 6+1,nN⟩=sS (vb (t.c c).idle):=hA.core hlt (j:=1) dE
    have c2:w.cell? ⟨r,c * 6+2,nN⟩=sS (vi iQ (t.c c).way):=hA.core hlt (j:=2) dE
    have c3:w.cell? ⟨r,c * 6+3,nN⟩=sS (vi iQ (t.c c).since):=hA.core hlt (j:=3) dE
    have c4:w.cell? ⟨r,c * 6+4,nN⟩=sS (vi iQ (t.c c).steps):=hA.core hlt (j:=4) dE
    have c5:w.cell? ⟨r,c * 6+5,nN⟩=sS (vi iQ (t.c c).busy):=hA.core hlt (j:=5) dE
    have f0:w.frozen? ⟨r,c * 6,nN⟩=fF:=hA.free 1 rfl _
    have f1:w.frozen? ⟨r,c * 6+1,nN⟩=fF:=hA.free 1 rfl _
    have f2:w.frozen? ⟨r,c * 6+2,nN⟩=fF:=hA.free 1 rfl _
    have f3:w.frozen? ⟨r,c * 6+3,nN⟩=fF:=hA.free 1 rfl _
    have f4:w.frozen? ⟨r,c * 6+4,nN⟩=fF:=hA.free 1 rfl _
    have f5:w.frozen? ⟨r,c * 6+5,nN⟩=fF:=hA.free 1 rfl _
    generalize t.c c=x at *
    clear hA
    obtain ⟨pw,il,wy,si,st,bu⟩:=x
    dsimp only at *
    subst hs
    have hsi:=ho.2.1
    dsimp only at hsi
    obtain ⟨hs1,hs2⟩:=hsi
    obtain ⟨hr3,hr4⟩:=hr2
    go_in
    go_wp2_with (first
     | (go_at_call 175;refine hF.r λk=>?_)
     | (go_at_call 182;refine (hR _).r λk2=>?_)
     | (go_at_call 183;refine (CQ hlt (hB.out.keep mz)).s λw2 hD=>?_))
    all_goals
     go_ret2
     refine ⟨?_,On.cores (r:=r) hD (put_ok hok c (JN ho tQ))⟩
     first|(simp;done)|(simp;omega)
 ·have e0:t.findE cpu=3:=nG hi
  have e1:t.wakeE cpu now=3:=pG hi
  have e2:t.wake cpu now=t:=nG (by rw [e1];decide)
  have e3:t.wakeN cpu now=0:=nG (by rw [e1];decide)
  rw [nG hi,e0] at hF
  rw [e1,e2,e3]
  clear h e1 e2 e0 e3
  have hB:=zh hA
  clear hA
  go_in
  go_wp2_with (go_at_call 175;refine hF.r λk=>?_)
  go_ret2
  exact ⟨rfl,(hB.out.keep (mR.drewN k)).cores hok⟩
end
def core0:dG:=⟨fF,fF,0,0,0,0⟩
def qV:dG:=⟨tQ,fF,0,0,0,0⟩
def KM (n:Nat):CT:=⟨n,λ_=>qV⟩
theorem GQ:(tp.info? 213).map (λi=>(i.zero,i.size))=sS (sS (.agg (bD core0).toArray),6):=by kernel_rfl
theorem ED:((tp.info? 213).map (λi=>decide (i.bytes <= 1000)))=sS tQ:=by kernel_rfl
theorem JS (n:Int) (hn:¬ (1 <= n /\ n <= 64)) (w:wW):Calls tp 61 #[vi iQ n] w (au (.tuple #[vp nN,vi iQ 2]) w):=by
 by_cases h1:n<1
 ·clear hn
  go_in
  go_wp2
  go_ret2
  exact au.of (rfl) dz
 ·have h2:64<n:=by omega
  clear hn
  go_in
  go_wp2
  go_ret2
  exact au.of (rfl) dz
theorem BD (n:Nat) (h2:n <= 64) (w:wW):(Instr.makeSlice 209 (vi iQ n) (vi iQ n)).run tp w=.ok (.slice (sS ⟨w.heap.size,0,nN⟩) n n) (w.alloc (.cells (cC [] n (λ_=>bD core0) []) 213 (0,0))):=by
 obtain ⟨i,hi,hzz⟩:=Option.map_eq_some_iff.1 GQ
 obtain ⟨i2,hi2,hb⟩:=Option.map_eq_some_iff.1 ED
 have:i2=i:=by rw [hi] at hi2;exact (Option.some.inj hi2).symm
 subst this
 simp only [Prod.mk.injEq] at hzz
 obtain ⟨hz,hs⟩:=hzz
 have hb2:=of_decide_eq_true hb
 have:=Go.run_make (P:=tp) w 209 213 i2 _ Tryz.underlying209 hi hz .i64 .i64 n n oM oM (by have:(i2.bytes:Int) * n <= 1000 * 64:=Int.mul_le_mul oM oM oM oM;omega) oM
 rw [this,Int.toNat_natCast,hs]
 show Result.ok _ (w.alloc (.cells (madeCells (bD core0).toArray (n * 6)) 213))=_
 rw [ni (bD core0) 6 rfl dE n]
section
variable {F:List Nat} {w u:wW} {b r:Nat} {t:CT}
theorem Hv:qV.ok:=⟨⟨by decide,by decide⟩,⟨by decide,by decide⟩,uf,uf⟩
def CP (n j:Nat):CT:=⟨n,λi=>if i<j then qV else core0⟩
theorem Hu (n:Nat) (h1:1 <= n) (h2:n <= 64) (w:wW):Calls tp 61 #[vi iQ n] w (cN (λd:Nat=>.tuple #[vp (sS ⟨d,0,nN⟩),vi iQ 0]) (λd=>dP d (KM n)) [] w):=by
 have hmk:=λw=>BD n h2 w
 have hB:On [] w (cg (w.heap.size+1) w.heap.size (CP n 0)) ((w.alloc (.cells (cC [] n (λ_=>bD core0) []) 213 (0,0))).alloc (.cells #[.slice (sS ⟨w.heap.size,0,nN⟩) n n] 211 (0,0))):=by
  have x1:=(On.start w).alloc (.cells (cC [] n (λ_=>bD core0) []) 213 (0,0))
  have x2:=(x1.alloc (.cells #[.slice (sS ⟨w.heap.size,0,nN⟩) n n] 211 (0,0))).front
  simpa [cg,CP] using x2
 have hlen:(w.alloc (.cells (cC [] n (λ_=>bD core0) []) 213 (0,0))).heap.size=w.heap.size+1:=cm _ _
 go_in
 go_wp2
 clear hlen hmk
 generalize hd:w.heap.size+1=d at *
 generalize hr:w.heap.size=r at *
 clear hd hr
 go_loopg [21] n (λgg i wr=>∃ (j:Nat),i=vi iQ j /\ j+gg=n /\ On [] w (cg d r (CP n j)) wr)
 case atStart=>exact ⟨0,rfl,by omega,hB⟩
 case round=>
  clear hB
  obtain ⟨j,rfl,hj,hB⟩:=hrel
  by_cases hlt:j<n
  ·have hltI:(j:Int)<n:=by omega
   have c0:wr.cell? ⟨d,0,nN⟩=sS (.slice (sS ⟨r,0,nN⟩) n n):=hB.cell 0 rfl 0
   have c1:wr.cell? ⟨r,j * 6,nN⟩=sS (vb fF):=by
    have:=hB.core (i:=j) (j:=0) hlt dE
    rw [show (CP n j).c j=core0 from nG oM] at this
    exact this
   have f1:wr.frozen? ⟨r,j * 6,nN⟩=fF:=hB.free 1 rfl _
   have hN:On [] w (cg d r (CP n (j+1))) (wr.setCell ⟨r,j * 6,nN⟩ (vb tQ)):=by
    have:=hB.coreSet (i:=j) (j:=0) hlt dE (vb tQ) (c':=qV) (by rw [show (CP n j).c j=core0 from nG oM];rfl)
    have e:(CP n j).put j qV=CP n (j+1):=by
     show CT.mk n _=CT.mk n _
     congr 1
     funext x
     show aq _ j qV x=_
     unfold aq
     by_cases ex:x=j
     ·rw [pG ex,pG oM]
     ·rw [nG ex]
      show (if x<j then qV else core0)=_
      by_cases el:x<j
      ·rw [pG el,pG oM]
      ·rw [nG el,nG oM]
    rw [e] at this
    exact this
   have HN:=zh hN
   clear hN
   go_wp2
   go_roundg (gk - 1)
   case measure=>omega
   case rel=>exact ⟨j+1,by go_num,by omega,HN.out.keep mR⟩
  ·have hltI:¬ (j:Int)<n:=by omega
   obtain rfl:j=n:=by omega
   go_wp2
   go_ret2
   refine ⟨d,rfl,?_⟩
   have:cg d r (CP j j)=cg d r (CP j j):=rfl
   have hk:cC [] j (λi=>bD ((CP j j).c i)) []=cC [] j (λi=>bD ((KM j).c i)) []:=by
    unfold cC
    rw [lD (f:=λi=>bD ((CP j j).c i)) (g:=λi=>bD ((KM j).c i)) j (λi hi=>by
     show bD (if i<j then qV else core0)=_
     rw [pG hi];rfl)]
   have hB2:On [] w (cg d r (KM j)) wr:=by
    have h3:cg d r (CP j j)=cg d r (KM j):=by
     show [_,ak.blk r (.cells (cC [] j (λi=>bD ((CP j j).c i)) []) _ _)]=_
     rw [hk];rfl
    rw [<- h3];exact hB
   exact (hB2.keep mz).cores ⟨h1,h2,λi=>Hv⟩
theorem gL (h:(dP b t).holds F w) (cpu:Int):Calls tp 105 #[vp (sS ⟨b,0,nN⟩),vi iQ cpu] w (bp (.tuple #[.agg (bD (if t.is cpu then t.at cpu else core0)).toArray,vi iQ (t.findE cpu)]) w):=by
 obtain ⟨r,hok,hA⟩:=gn h
 by_cases hi:t.is cpu
 ·rw [pG hi]
  have hF:=λu (hu:On F w (cg b r t) u)=>gq hu cpu
  have e0:t.findE cpu=0:=pG hi
  simp only [pG hi,e0] at hF
  rw [e0]
  have hi2:=hi
  obtain ⟨h1,h2⟩:=hi2
  obtain ⟨c,rfl⟩:=iN h1
  simp only [CT.at,Int.toNat_natCast] at *
  clear e0 h
  have hlt:c<t.n:=by omega
  have hO:=zh hA
  have hC:=hA.keep ((af.refl [] w).alloc (.cells #[vb fF,vb fF,vi iQ 0,vi iQ 0,vi iQ 0,vi iQ 0] 213 (0,0)))
  have c0:(w.alloc (.cells #[vb fF,vb fF,vi iQ 0,vi iQ 0,vi iQ 0,vi iQ 0] 213 (0,0))).cell? ⟨r,c * 6,nN⟩=sS (vb (t.c c).power):=hC.core hlt (j:=0) dE
  have c1:(w.alloc (.cells #[vb fF,vb fF,vi iQ 0,vi iQ 0,vi iQ 0,vi iQ 0] 213 (0,0))).cell? ⟨r,c * 6+1,nN⟩=sS (vb (t.c c).idle):=hC.core hlt (j:=1) dE
  have c2:(w.alloc (.cells #[vb fF,vb fF,vi iQ 0,vi iQ 0,vi iQ 0,vi iQ 0] 213 (0,0))).cell? ⟨r,c * 6+2,nN⟩=sS (vi iQ (t.c c).way):=hC.core hlt (j:=2) dE
  have c3:(w.alloc (.cells #[vb fF,vb fF,vi iQ 0,vi iQ 0,vi iQ 0,vi iQ 0] 213 (0,0))).cell? ⟨r,c * 6+3,nN⟩=sS (vi iQ (t.c c).since):=hC.core hlt (j:=3) dE
  have c4:(w.alloc (.cells #[vb fF,vb fF,vi iQ 0,vi iQ 0,vi iQ 0,vi iQ 0] 213 (0,0))).cell? ⟨r,c * 6+4,nN⟩=sS (vi iQ (t.c c).steps):=hC.core hlt (j:=4) dE
  have c5:(w.alloc (.cells #[vb fF,vb fF,vi iQ 0,vi iQ 0,vi iQ 0,vi iQ 0] 213 (0,0))).cell? ⟨r,c * 6+5,nN⟩=sS (vi iQ (t.c c).busy):=hC.core hlt (j:=5) dE
  clear hC
  generalize t.c c=x at *
  obtain ⟨pw,il,wy,si,st,bu⟩:=x
  clear hA
  have hF2:=hF _ (hO.out.keep ((af.refl [] w).alloc (.cells #[vb fF,vb fF,vi iQ 0,vi iQ 0,vi iQ 0,vi iQ 0] 213 (0,0))))
  clear hF
  simp only [bD] at *
  go_in
  go_wp2_with (go_at_call 175;refine hF2.r λk=>?_)
  refine bodyPost_ret_by (v:=.tuple #[.agg #[vb pw,vb il,vi iQ wy,vi iQ si,vi iQ st,vi iQ bu],vi iQ 0]) ?_ rfl ?_
  ·rw [results_cell_tmp rfl];go_simp
  ·refine ⟨rfl,?_⟩
   exact ms
 ·rw [nG hi]
  have hF:=λu (hu:On F w (cg b r t) u)=>gq hu cpu
  have e0:t.findE cpu=3:=nG hi
  simp only [nG hi,e0] at hF
  rw [e0]
  clear e0 h hi
  have hF2:=hF _ (hA.keep ((af.refl [] w).alloc (.cells #[vb fF,vb fF,vi iQ 0,vi iQ 0,vi iQ 0,vi iQ 0] 213 (0,0))))
  clear hF
  go_in
  go_wp2_with (go_at_call 175;refine hF2.r λk=>?_)
  refine bodyPost_ret_by (v:=.tuple #[.agg #[vb fF,vb fF,vi iQ 0,vi iQ 0,vi iQ 0,vi iQ 0],vi iQ 3]) ?_ rfl ?_
  ·rw [results_cell_tmp rfl];go_simp
  ·refine ⟨rfl,?_⟩
   exact ms
end
def nB (m:Nat) (l:List Int):Nat:=l.foldl bn m
theorem yl:∀ (l:List Int) {m:Nat},m<2 ^ 64 -> nB m l<2 ^ 64
 | [],_,h=>h
 | x :: l,_,h=>yl l (fk h x)
theorem Aw (m:Nat) {l:List Int} {j:Nat} (h:j<l.length):nB m (l.take (j+1))=bn (nB m (l.take j)) (ar l j):=by
 unfold nB
 rw [List.take_succ_eq_append_getElem h,List.foldl_append]
 simp [ar,List.getD,h]
theorem wq (m:Nat) (hm:m<2 ^ 64) (l:List Int) (a:Option Addr) (cap:Nat) (w:wW) (hs:Fv w a l) (hlen:l.length<1000000):Calls tp 96 #[vi uQ m,.slice a l.length cap] w (au (vi uQ (nB m l:Nat)) w):=by
 obtain ⟨n,hn⟩:∃ n,l.length=n:=⟨_,rfl⟩
 rw [hn] at hlen ⊢
 replace hn:=zh hn
 go_in
 go_wp2
 go_loopg [0,9] n (λgg v i wr=>∃ j:Nat,v=vi uQ (nB m (l.take j):Nat) /\ i=vi iQ j /\ j+gg=n /\ aA w wr)
 case atStart=>exact ⟨0,rfl,rfl,by omega,aA.refl _⟩
 case round=>
  obtain ⟨j,rfl,rfl,hj,hD⟩:=hrel
  by_cases hlt:j<n
  ·have hltI:(j:Int)<n:=by omega
   have hjl:j<l.length:=by rw [hn.out];exact hlt
   obtain ⟨g,rfl,hc⟩:=hs.resolve_left (λh=>by rw [h] at hjl;simp at hjl)
   have c0:wr.cell? ⟨g,j,nN⟩=sS (vi iQ (ar l j)):=by rw [<- hc j hjl];obtain ⟨k,rfl⟩:=hD;rfl
   have hO:=λw=>pL (ar l j) w
   have hB:=zh (bits_or_u64_nat (nB m (l.take j)) (fK (ar l j)) (yl _ hm) (rK _))
   have hS:=zh (Aw m hjl)
   have hDD:=zh hD
   clear hD hc hs hjl
   unfold bn at hS
   generalize nB m (l.take j)=x at *
   generalize fK (ar l j)=o at *
   generalize ar l j=y at *
   go_wp2_with (go_at_call 79;refine (hO _).r λk=>?_)
   go_roundg (gk - 1)
   case measure=>omega
   case rel=>exact ⟨j+1,by rw [hS.out,<- hB.out],by go_num,by omega,hDD.out.drewN _⟩
  ·have hltI:¬ (j:Int)<n:=by omega
   have e:l.take j=l:=List.take_of_length_le (by rw [hn.out];omega)
   rw [e]
   clear hs
   go_wp2
   go_ret
   exact ⟨rfl,hD⟩
def ST.beginE' (s:ST) (m:Nat):Int:=if s.on then 7 else if m=0 then 2 else 0
def ST.begin' (s:ST) (m:Nat):ST:=if s.beginE' m=0 then ⟨m,0⟩ else s
section
variable {F:List Nat} {w:wW} {b:Nat} {s:ST}
theorem On.stop {u:wW} (h:On F w [ak.blk b (lH s)] u) (hok:s.ok):dt (eP b s) F w u:=h.gain1.imp λF' h'=>⟨hok,h'⟩
theorem AS (h:(eP b s).holds F w) (m:Nat) (hm:m<2 ^ 64):Calls tp 344 #[vp (sS ⟨b,0,nN⟩),vi uQ (m:Nat)] w (al (eP b (s.begin' m)) F (vi iQ (s.beginE' m)) w):=by
 have hO:=jY h
 obtain ⟨hok,c0,c1,hA⟩:=fQ h
 have f0:w.frozen? ⟨b,0,nN⟩=fF:=hA.free 0 rfl 0
 have f1:w.frozen? ⟨b,1,nN⟩=fF:=hA.free 0 rfl 1
 have HA:=zh hA
 clear hA
 cases ho:s.on
 ·rw [ho] at hO
  by_cases h0:m=0
  ·have e1:s.beginE' m=2:=by unfold ST.beginE';rw [ho,h0];rfl
   rw [show s.begin' m=s from nG (by rw [e1];decide),e1]
   subst h0
   clear e1 ho h
   go_in
   go_wp2_with (go_at_call 343;refine hO.r λk=>?_)
   go_ret
   exact ⟨rfl,(HA.out.keep (mR.drewN _)).stop hok⟩
  ·have e1:s.beginE' m=0:=by unfold ST.beginE';rw [ho,nG dE,nG h0]
   rw [show s.begin' m=⟨m,0⟩ from pG e1,e1]
   have hne:((m:Int)==0)=fF:=by simp;omega
   clear e1 ho h
   go_in
   go_wp2_with (go_at_call 343;refine hO.r λk=>?_)
   go_ret
   refine ⟨rfl,On.stop ?_ ⟨hm,by show (0:Nat)<2 ^ 64;decide⟩⟩
   have x:=((HA.out.keep (u':=w.drewN k) (mR.drewN _)).set 0 rfl 0 (vi uQ (m:Nat))).set 0 rfl 1 (vi uQ 0)
   simpa [lH] using x
 ·rw [ho] at hO
  have e1:s.beginE' m=7:=by unfold ST.beginE';rw [ho];rfl
  rw [show s.begin' m=s from nG (by rw [e1];decide),e1]
  clear e1 ho h
  go_in
  go_wp2_with (go_at_call 343;refine hO.r λk=>?_)
  go_ret
  exact ⟨rfl,(HA.out.keep (mR.drewN _)).stop hok⟩
theorem Dn (h:(eP b s).holds F w):Calls tp 346 #[vp (sS ⟨b,0,nN⟩)] w (al (eP b s.free) F (vi iQ s.freeE) w):=by
 have hO:=jY h
 obtain ⟨hok,c0,c1,hA⟩:=fQ h
 have f0:w.frozen? ⟨b,0,nN⟩=fF:=hA.free 0 rfl 0
 have f1:w.frozen? ⟨b,1,nN⟩=fF:=hA.free 0 rfl 1
 have HA:=zh hA
 clear hA
 unfold ST.free ST.freeE
 unfold ST.on at hO
 by_cases hw:s.who=0
 ·rw [pG hw,pG hw]
  have e:decide (s.who≠0)=fF:=by simp [hw]
  rw [e] at hO
  clear h hw e
  go_in
  go_wp2_with (go_at_call 343;refine hO.r λk=>?_)
  go_ret
  exact ⟨rfl,(HA.out.keep (mR.drewN _)).stop hok⟩
 ·rw [nG hw,nG hw]
  have e:decide (s.who≠0)=tQ:=by simp [hw]
  rw [e] at hO
  clear h hw e
  go_in
  go_wp2_with (go_at_call 343;refine hO.r λk=>?_)
  go_ret
  refine ⟨rfl,On.stop ?_ ⟨by decide,by decide⟩⟩
  have x:=((HA.out.keep (u':=w.drewN k) (mR.drewN _)).set 0 rfl 0 (vi uQ 0)).set 0 rfl 1 (vi uQ 0)
  simpa [lH] using x
theorem FN (h:(eP b s).holds F w) (c:Int):Calls tp 110 #[vp (sS ⟨b,0,nN⟩),vi iQ c] w (al (eP b (s.ack c)) F (vi iQ (s.ackE c)) w):=by
 have hM:=vC h c
 have hO:=jY h
 obtain ⟨hok,c0,c1,hA⟩:=fQ h
 have f0:w.frozen? ⟨b,0,nN⟩=fF:=hA.free 0 rfl 0
 have f1:w.frozen? ⟨b,1,nN⟩=fF:=hA.free 0 rfl 1
 have HA:=zh hA
 clear hA
 clear hO
 unfold ST.ack ST.ackE
 cases hm:s.must c
 ·rw [hm] at hM
  simp only [Bool.false_eq_true,if_false]
  clear h hm
  go_in
  go_wp2_with (go_at_call 178;refine hM.s λw' m=>?_)
  go_ret
  exact ⟨rfl,(HA.out.keep m).stop hok⟩
 ·rw [hm] at hM
  simp only [if_true]
  have hW:=λu g (hg:u.cell? ⟨g,0,nN⟩=sS (vi iQ c))=>wq s.held hok.2 [c] (sS ⟨g,0,nN⟩) 1 u (.inr ⟨g,rfl,λj hj=>by
   simp at hj;subst hj;exact hg⟩) sM
  have hv:nB s.held [c]=bn s.held c:=rfl
  rw [hv] at hW
  have hlt:=fk hok.2 c
  generalize bn s.held c=x at *
  clear h hm hv
  go_in
  go_wp2_with (first
   | (
    go_at_call 178
    refine hM.s λw1 m=>?_
    have q1:=m.at c1 sM
    have hB:=HA.out.keep m
    have g1:w1.frozen? ⟨b,1,nN⟩=fF:=hB.free 0 rfl 1
    have HB:=zh hB
    have hbl:=jG q1
    dsimp only at hbl
    clear hB hM m
    )
   | (
    go_at_call 96
    refine (hW _ _ (ab (ai _ _) 0)).r λk=>?_
    ))
  go_ret
  refine ⟨rfl,On.stop ?_ ⟨hok.1,hlt⟩⟩
  have y:=(HB.out.keep (u':=(w1.alloc (Obj.cells #[Value.int IntKind.i64 c] 3 (0,0))).drewN k) ((mR.alloc _).drewN _)).set 0 rfl 1 (vi uQ (x:Nat))
  simpa [lH] using y
end
def lf (b:Nat) (l:List Int):ak where
 holds F w:=∃ r,F=[b,r] /\ bG 208 w b r l
 keep:=by
  rintro F S w w' ⟨r,rfl,h⟩ m hS
  exact ⟨r,rfl,h.keep m (hS _ sM) (hS _ sM)⟩
 lt:=by
  rintro F w ⟨r,rfl,h⟩ x hx
  simp at hx
  rcases hx with rfl|rfl
  ·exact bY h.hb
  ·exact bY h.hr
def ji (g:Nat) (s:SG):ak where
 holds F w:=∃ b r,F=[g,b,r] /\ cP w g b r s
 keep:=by
  rintro F S w w' ⟨b,r,rfl,h⟩ m hS
  exact ⟨b,r,rfl,h.keep m (hS _ sM) (hS _ sM) (hS _ sM)⟩
 lt:=by
  rintro F w ⟨b,r,rfl,h⟩ x hx
  simp at hx
  rcases hx with rfl|rfl|rfl
  ·exact bY h.hg
  ·exact bY h.sp.hb
  ·exact bY h.sp.hr
def dV (d:Nat) (s:SH):ak where
 holds F w:=∃ q pm,F=d :: (qF q++pF pm) /\ cl w d q pm s
 keep:=by
  rintro F S w w' ⟨q,pm,rfl,h⟩ m hS
  exact ⟨q,pm,rfl,h.keep m hS⟩
 lt:=by
  rintro F w ⟨q,pm,rfl,h⟩ x hx
  exact h.lt x hx
section
variable {F:List Nat} {w:wW} {b:Nat} {l:List Int} {s:SG} {t:SH}
theorem AX (h:(lf b l).holds F w) (c n:Int) (hn:bz n):Calls tp 240 #[vp (sS ⟨b,0,nN⟩),vi iQ c,vi iQ n] w (al (lf b (iF l c n)) F (vi iQ (gW l c n)) w):=by
 obtain ⟨r,rfl,h⟩:=h
 refine (lI b r l c n hn w h).mono ?_
 rintro e w' ⟨rfl,m,x⟩
 exact ⟨rfl,[b,r],⟨r,rfl,x⟩,m.mono sM,λk hk=>.inl hk⟩
theorem yL (h:(lf b l).holds F w) (f t:Int):Calls tp 313 #[vp (sS ⟨b,0,nN⟩),vi iQ f,vi iQ t] w (al (lf b (fq l f t)) F (vi iQ (fU l f t)) w):=by
 obtain ⟨r,rfl,h⟩:=h
 refine (AY b r l f t w h).mono ?_
 rintro e w' ⟨rfl,m,x⟩
 exact ⟨rfl,[b,r],⟨r,rfl,x⟩,m.mono sM,λk hk=>.inl hk⟩
theorem AW (n:Nat) (h1:1 <= n) (h2:n <= 64) (w:wW):Calls tp 57 #[vi iQ n] w (cN (λd:Nat=>.tuple #[vp (sS ⟨d,0,nN⟩),vi iQ 0]) (λd=>lf d (List.replicate n 0)) [] w):=by
 refine (nE n w h1 h2).mono ?_
 rintro e w' ⟨rfl,m,hs,x⟩
 exact ⟨w.heap.size+1,rfl,[w.heap.size+1,w.heap.size],⟨w.heap.size,rfl,x⟩,m,λk hk=>.inr (by simp at hk;omega)⟩
theorem EL (n:Nat) (h1:1 <= n) (h2:n <= 64) (w:wW):Calls tp 59 #[vi iQ n] w (cN (λd:Nat=>.tuple #[vp (sS ⟨d,0,nN⟩),vi iQ 0]) (λd=>ji d ⟨List.replicate n 0,0⟩) [] w):=by
 refine (Af n w h1 h2).mono ?_
 rintro e w' ⟨g,b,r,rfl,m,⟨q1,q2,q3⟩,x⟩
 exact ⟨g,rfl,[g,b,r],⟨b,r,rfl,x⟩,m,λk hk=>.inr (by simp at hk;omega)⟩
theorem um (h:(ji b s).holds F w) :Calls tp 154 #[vp (sS ⟨b,0,nN⟩)] w (al (ji b (s.want)) F (vi iQ (s.wantE)) w):=by
 obtain ⟨b2,r,rfl,h⟩:=h
 refine (EM b b2 r s _ h).mono ?_
 rintro e w' ⟨rfl,m,x⟩
 exact ⟨rfl,[b,b2,r],⟨b2,r,rfl,x⟩,m.mono sM,λk hk=>.inl hk⟩
theorem gj (h:(ji b s).holds F w) :Calls tp 190 #[vp (sS ⟨b,0,nN⟩)] w (al (ji b (s.free)) F (vi iQ (s.freeE)) w):=by
 obtain ⟨b2,r,rfl,h⟩:=h
 refine (EO b b2 r s _ h).mono ?_
 rintro e w' ⟨rfl,m,x⟩
 exact ⟨rfl,[b,b2,r],⟨b2,r,rfl,x⟩,m.mono sM,λk hk=>.inl hk⟩
theorem BU (h:(ji b s).holds F w) :Calls tp 263 #[vp (sS ⟨b,0,nN⟩)] w (al (ji b (s.take)) F (vi iQ (s.takeE)) w):=by
 obtain ⟨b2,r,rfl,h⟩:=h
 refine (EN b b2 r s _ h).mono ?_
 rintro e w' ⟨rfl,m,x⟩
 exact ⟨rfl,[b,b2,r],⟨b2,r,rfl,x⟩,m.mono sM,λk hk=>.inl hk⟩
theorem Ae (h:(ji b s).holds F w) (c:Int):Calls tp 149 #[vp (sS ⟨b,0,nN⟩),vi iQ c] w (al (ji b (s.enter c)) F (vi iQ (s.enterE c)) w):=by
 obtain ⟨b2,r,rfl,h⟩:=h
 refine (BW b b2 r s c _ h).mono ?_
 rintro e w' ⟨rfl,m,x⟩
 exact ⟨rfl,[b,b2,r],⟨b2,r,rfl,x⟩,m.mono sM,λk hk=>.inl hk⟩
theorem Ad (h:(ji b s).holds F w) (c:Int):Calls tp 159 #[vp (sS ⟨b,0,nN⟩),vi iQ c] w (al (ji b (s.leave c)) F (vi iQ (s.leaveE c)) w):=by
 obtain ⟨b2,r,rfl,h⟩:=h
 refine (BV b b2 r s c _ h).mono ?_
 rintro e w' ⟨rfl,m,x⟩
 exact ⟨rfl,[b,b2,r],⟨b2,r,rfl,x⟩,m.mono sM,λk hk=>.inl hk⟩
theorem ny.turns {q:Option (Nat × Nat)} {pm:Option Nat} {v:Value} {s':SH} {e:Ending} {w':wW} (h:ny b q pm v s' w e w'):al (dV b s') (b :: (qF q++pF pm)) v w e w':=by
 obtain ⟨q',pm',rfl,m,x,hk⟩:=h
 refine ⟨rfl,_,⟨q',pm',rfl,x⟩,m,λk h=>?_⟩
 rcases List.mem_cons.1 h with rfl|h
 ·exact .inl List.mem_cons_self
 ·rcases hk k h with h|h
  ·exact .inl (List.mem_cons_of_mem _ h)
  ·exact .inr h
theorem Cb (h:(dV b t).holds F w) (k:Int):Calls tp 246 #[vp (sS ⟨b,0,nN⟩),vi iQ k] w (al (dV b (t.doPlan k)) F (vi iQ (planE k)) w):=by
 obtain ⟨q,pm,rfl,h⟩:=h
 exact (GV b q pm t k w h).mono (λe w' h=>h.turns)
theorem qU (h:(dV b t).holds F w) (up:Bool) (cpu by_:Int):Calls tp 155 #[vp (sS ⟨b,0,nN⟩),vb up,vi iQ cpu,vi iQ by_] w (al (dV b (t.begin_ up cpu by_)) F (vi iQ (t.beginE cpu by_)) w):=by
 obtain ⟨q,pm,rfl,h⟩:=h
 exact (EF b q pm t up cpu by_ w h).mono (λe w' h=>h.turns)
theorem uy (h:(dV b t).holds F w):Calls tp 187 #[vp (sS ⟨b,0,nN⟩)] w (al (dV b t.done) F (vi iQ t.mayE) w):=by
 obtain ⟨q,pm,rfl,h⟩:=h
 exact (GX b q pm t w h).mono (λe w' h=>h.turns)
theorem iz (h:(dV b t).holds F w):Calls tp 189 #[vp (sS ⟨b,0,nN⟩)] w (al (dV b t.end_) F (.tuple #[vi iQ t.endV,vi iQ t.endE]) w):=by
 obtain ⟨q,pm,rfl,h⟩:=h
 exact (Js b q pm t w h).mono (λe w' h=>h.turns)
theorem nu (h:(dV b t).holds F w):Calls tp 185 #[vp (sS ⟨b,0,nN⟩)] w (al (dV b t.next) F (eQ t) w):=by
 obtain ⟨q,pm,rfl,h⟩:=h
 exact (GW b q pm t w h).mono (λe w' h=>h.turns)
theorem dO (h:(dV b t).holds F w):Calls tp 26 #[vp (sS ⟨b,0,nN⟩)] w (au (vb t.run.isSome) w):=by
 obtain ⟨q,pm,rfl,h⟩:=h
 exact lC b q pm t w h
theorem cL (h:(dV b t).holds F w):Calls tp 188 #[vp (sS ⟨b,0,nN⟩)] w (au (vb t.over) w):=by
 obtain ⟨q,pm,rfl,h⟩:=h
 exact uh b q pm t w h
theorem oX (h:(dV b t).holds F w):Calls tp 261 #[vp (sS ⟨b,0,nN⟩)] w (au (vb t.up) w):=by
 obtain ⟨q,pm,rfl,h⟩:=h
 exact Ku b q pm t w h
theorem qo (h:(dV b t).holds F w):Calls tp 184 #[vp (sS ⟨b,0,nN⟩)] w (au (vi iQ t.cpu) w):=by
 obtain ⟨q,pm,rfl,h⟩:=h
 exact Jt b q pm t w h
theorem Hs (h:(dV b t).holds F w):Calls tp 180 #[vp (sS ⟨b,0,nN⟩)] w (au (vi iQ t.by_) w):=by
 obtain ⟨q,pm,rfl,h⟩:=h
 exact Kv b q pm t w h
end
def sh0:SH:=⟨nN,fF,0,0,fF,[]⟩
end Go.Proofs.YtmiapbgkphpgoaaGreatDoor