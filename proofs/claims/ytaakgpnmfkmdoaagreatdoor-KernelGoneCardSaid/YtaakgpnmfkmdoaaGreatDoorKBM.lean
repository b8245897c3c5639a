/- Walks and plain laws of the kernel. No condition. -/
import Derived.Test.YtaakgpnmfkmdoaaGreatDoorBaseM
import Derived.Deep.LoopGhost
import Derived.Test.YtaakgpnmfkmdoaaGreatDoorTimerM
import Derived.Deep.OwnRows
import Derived.Deep.MidRow
import Derived.Test.YtaakgpnmfkmdoaaGreatDoorKAM
namespace Go.Proofs.YtaakgpnmfkmdoaaGreatDoor
set_option linter.unusedVariables false
set_option linter.unusedSimpArgs false
set_option maxRecDepth 100000
set_option maxHeartbeats 20000000
open Go.RowKit
open Go.Proofs.Tryz renaming prog → tp
open List renaming setIfInBounds_toArray → sA, set_cons_zero → sB, set_cons_succ → sC
open Go renaming World → wW
open Go.Value renaming pointer → vp, bool → vb, int → vi
open Go.IntKind renaming i64 → iQ, u64 → uQ
open Option renaming none → nN, some → sS
open Bool renaming true → tQ, false → fF
open Int renaming eq_ofNat_of_zero_le → iN
def ar {α:Type} (f:Nat -> α) (k:Nat) (v:α):Nat -> α:=λj=>if j=k then v else f j
theorem ah {α:Type} (f:Nat -> α) (k:Nat) (v:α):ar f k v k=v:=pG rfl
theorem al {α:Type} (f:Nat -> α) {k j:Nat} (v:α) (h:j≠k):ar f k v j=f j:=nG h
/-- n things of k cells each. -/
def fD (n:Nat) (f:Nat -> List Value):List Value:=(List.range n).flatMap f
theorem gJ (n:Nat) (f:Nat -> List Value):fD (n+1) f=fD n f++f n:=by simp [fD,List.range_succ]
theorem br {k:Nat} {f:Nat -> List Value} (hk:∀ i,(f i).length=k):∀ n,(fD n f).length=n * k
 | 0=>by simp [fD]
 | n+1=>by rw [gJ,List.length_append,br hk n,hk,Nat.add_mul,Nat.one_mul]
theorem kH {k:Nat} {f:Nat -> List Value} (hk:∀ i,(f i).length=k) {i j:Nat} (hj:j<k):∀ n,i<n -> (fD n f)[i * k+j]?=(f i)[j]?
 | 0,h=>by omega
 | n+1,h=>by
  rw [gJ]
  by_cases e:i=n
  ·subst e
   rw [List.getElem?_append_right (by rw [br hk];omega),br hk]
   congr 1;omega
  ·have hlt:i<n:=by omega
   have hle:(i+1) * k <= n * k:=Nat.mul_le_mul_right k hlt
   rw [Nat.add_mul,Nat.one_mul] at hle
   rw [List.getElem?_append_left (by rw [br hk];omega)]
   exact kH hk hj n hlt
theorem mV {f g:Nat -> List Value}:∀ n,(∀ i,i<n -> f i=g i) -> fD n f=fD n g
 | 0,_=>rfl
 | n+1,h=>by rw [gJ,gJ,mV n (λi hi=>h i oM),h n oM]
theorem ym {k:Nat} {f:Nat -> List Value} (hk:∀ i,(f i).length=k) {i j:Nat} (hj:j<k) (v:Value):∀ n,i<n -> (fD n f).set (i * k+j) v=fD n (ar f i ((f i).set j v))
 | 0,h=>by omega
 | n+1,h=>by
  rw [gJ,gJ]
  by_cases e:i=n
  ·subst e
   rw [List.set_append_right _ _ (by rw [br hk];omega),br hk,ah,mV (f:=ar f i ((f i).set j v)) (g:=f) i (λx hx=>al f _ oM)]
   have e:i * k+j - i * k=j:=by omega
   rw [e]
  ·have hlt:i<n:=by omega
   have hle:(i+1) * k <= n * k:=Nat.mul_le_mul_right k hlt
   rw [Nat.add_mul,Nat.one_mul] at hle
   rw [List.set_append_left _ _ (by rw [br hk];omega),ym hk hj v n hlt,al _ _ oM]
/-- The cells of a block: what stands ahead, the things, what stands behind. -/
def db (pre:List Value) (n:Nat) (f:Nat -> List Value) (post:List Value):Array Value:=(pre++fD n f++post).toArray
section
variable {pre post:List Value} {k n:Nat} {f:Nat -> List Value}
theorem ij (hk:∀ i,(f i).length=k) {i j:Nat} (hi:i<n) (hj:j<k) {o:Nat} (ho:o=pre.length+(i * k+j)):(db pre n f post)[o]?=(f i)[j]?:=by
 have hle:(i+1) * k <= n * k:=Nat.mul_le_mul_right k hi
 rw [Nat.add_mul,Nat.one_mul] at hle
 subst ho
 unfold db
 rw [List.getElem?_toArray,List.append_assoc,List.getElem?_append_right oM,List.getElem?_append_left (by rw [br hk];omega),Nat.add_sub_cancel_left]
 exact kH hk hj n hi
theorem ig (hk:∀ i,(f i).length=k) {i j:Nat} (hi:i<n) (hj:j<k) (v:Value) {o:Nat} (ho:o=pre.length+(i * k+j)):(db pre n f post).setIfInBounds o v=db pre n (ar f i ((f i).set j v)) post:=by
 have hle:(i+1) * k <= n * k:=Nat.mul_le_mul_right k hi
 rw [Nat.add_mul,Nat.one_mul] at hle
 subst ho
 unfold db
 rw [sA,List.append_assoc,List.set_append_right _ _ oM,Nat.add_sub_cancel_left,List.set_append_left _ _ (by rw [br hk];omega),ym hk hj v n hi,List.append_assoc]
theorem nA (hk:∀ i,(f i).length=k) {j o:Nat} (ho:o=pre.length+n * k+j):(db pre n f post)[o]?=post[j]?:=by
 subst ho
 unfold db
 rw [List.getElem?_toArray,List.getElem?_append_right (by rw [List.length_append,br hk];omega),List.length_append,br hk]
 congr 1;omega
theorem Ca {j:Nat} (hj:j<pre.length):(db pre n f post)[j]?=pre[j]?:=by
 unfold db
 rw [List.getElem?_toArray,List.append_assoc,List.getElem?_append_left hj]
theorem sQ {j:Nat} (hj:j<pre.length) (v:Value):(db pre n f post).setIfInBounds j v=db (pre.set j v) n f post:=by
 unfold db
 rw [sA,List.append_assoc,List.set_append_left _ _ hj,List.append_assoc]
theorem qx (hk:∀ i,(f i).length=k) {j o:Nat} (v:Value) (ho:o=pre.length+n * k+j):(db pre n f post).setIfInBounds o v=db pre n f (post.set j v):=by
 subst ho
 unfold db
 rw [sA,List.set_append_right _ _ (by rw [List.length_append,br hk];omega),List.length_append,br hk]
 have e:pre.length+n * k+j - (pre.length+n * k)=j:=by omega
 rw [e]
end
def bs (n:Int):Nat:=2 ^ (min n.toNat 64) - 1
theorem AH (i:Nat):1 <= 2 ^ i:=Nat.pow_pos oM
theorem iZ (n:Int):bs n<2 ^ 64:=by
 unfold bs
 have h:2 ^ (min n.toNat 64) <= 2 ^ 64:=Nat.pow_le_pow_right oM oM
 have:=AH (min n.toNat 64)
 omega
theorem iV (n:Int) (w:wW):Calls tp 42 #[vi iQ n] w (ay (vi uQ (bs n)) w):=by
 by_cases h0:n <= 0
 ·have hU:bs n=0:=by
   have:min n.toNat 64=0:=by omega
   simp [bs,this]
  have HU:=zh hU
  clear hU
  go_in
  go_wp2
  go_ret
  exact ay.of (by rw [HU.out];rfl) dz
 ·by_cases h1:64 <= n
  ·have hU:bs n=18446744073709551615:=by
    have:min n.toNat 64=64:=by omega
    simp [bs,this]
   have HU:=zh hU
   clear hU
   go_in
   go_wp2
   go_ret
   exact ay.of (by rw [HU.out];rfl) dz
  ·obtain ⟨m,rfl⟩:=iN (show 0 <= n by omega)
   have hm:m<64:=by omega
   have hU:IntKind.u64.wrap (((2 ^ m:Nat):Int) - 1)=((bs m:Nat):Int):=by
    have e:bs m=2 ^ m - 1:=by
     have:min (m:Int).toNat 64=m:=by omega
     unfold bs;rw [this]
    have h2:=AH m
    have h3:=gB hm
    rw [e,show ((2 ^ m:Nat):Int) - 1=((2 ^ m - 1:Nat):Int) by rw [Int.natCast_sub h2];rfl]
    exact ke _ oM
   have HU:=zh hU
   clear hU
   have hO:=Bd m
   go_in
   go_wp2_with (go_at_call 81;refine (hO _ hm).r λk=>?_)
   go_ret
   exact ay.of (by rw [<- HU.out];rfl) dz
def gh (c:Int):Nat:=if 0 <= c /\ c<64 then 2 ^ c.toNat else 0
theorem tF (c:Int):gh c<2 ^ 64:=by
 unfold gh
 split
 ·exact gB oM
 ·omega
theorem pa (c:Int) (j:Nat):(gh c).testBit j=decide (c=(j:Int) /\ j<64):=by
 unfold gh
 by_cases h:0 <= c /\ c<64
 ·rw [pG h,Nat.testBit_two_pow]
  by_cases e:c.toNat=j
  ·have:c=(j:Int) /\ j<64:=by omega
   simp [e,this]
  ·have:¬ (c=(j:Int) /\ j<64):=by omega
   simp [e,this]
 ·rw [nG h]
  have:¬ (c=(j:Int) /\ j<64):=by omega
  simp [this]
theorem qX (c:Int) (w:wW):Calls tp 81 #[vi iQ c] w (ay (vi uQ (gh c:Nat)) w):=by
 by_cases h:0 <= c /\ c<64
 ·obtain ⟨h1,h2⟩:=h
  obtain ⟨m,rfl⟩:=iN h1
  have e:gh m=2 ^ m:=by unfold gh;rw [pG ⟨h1,h2⟩];simp
  rw [e]
  exact Bd m w oM
 ·have e:gh c=0:=by unfold gh;rw [nG h]
  rw [e]
  have h2:c<0 \/ (0 <= c /\ 64 <= c):=by omega
  clear h e
  rcases h2 with h2|⟨h1,h2⟩
  all_goals
   go_in
   go_wp2
   go_ret
   exact ay.of (rfl) dz
/-- a without b. -/
def dI (a b:Nat):Nat:=a ^^^ (a &&& b)
theorem kO (a b j:Nat):(dI a b).testBit j=(a.testBit j&&!b.testBit j):=by
 unfold dI
 rw [Nat.testBit_xor,Nat.testBit_and]
 cases a.testBit j<;>cases b.testBit j<;>rfl
theorem dC {a:Nat} (b:Nat) (h:a<2 ^ 64):dI a b<2 ^ 64:=by
 unfold dI
 exact Nat.xor_lt_two_pow h (Nat.lt_of_le_of_lt Nat.and_le_left h)
theorem lO (a b:Nat) (ha:a<2 ^ 64) (hb:b<2 ^ 64):bits .andNot .u64 (a:Int) (b:Int)=((dI a b:Nat):Int):=by
 have key:(BitVec.ofInt 64 (a:Int) &&& ~~~ (BitVec.ofInt 64 (b:Int)))=BitVec.ofNat 64 (dI a b):=by
  rw [BitVec.ofInt_natCast,BitVec.ofInt_natCast]
  apply BitVec.eq_of_getLsbD_eq
  intro i hi
  simp only [BitVec.getLsbD_and,BitVec.getLsbD_not,BitVec.getLsbD_ofNat,hi,decide_true,Bool.true_and,kO]
 show IntKind.u64.wrap ((BitVec.ofInt 64 (a:Int) &&& ~~~ (BitVec.ofInt 64 (b:Int))).toNat:Int)=_
 rw [key,BitVec.toNat_ofNat,Nat.mod_eq_of_lt (dC b ha)]
 exact ke _ (dC b ha)
theorem jx {m:Nat}:m=0↔∀ j,m.testBit j=fF:=by
 constructor
 ·rintro rfl j;simp
 ·intro h
  apply Nat.eq_of_testBit_eq
  intro j
  simp [h j]
def aw (m:Nat) (c:Int):Bool:=decide (0 <= c /\ c<64)&&m.testBit c.toNat
theorem JR (m:Nat) (c:Int):aw m c=!((((m &&& gh c:Nat):Int))==0):=by
 have h:((m &&& gh c)=0)↔aw m c=fF:=by
  rw [jx]
  unfold aw
  constructor
  ·intro h
   by_cases hc:0 <= c /\ c<64
   ·have:=h c.toNat
    rw [Nat.testBit_and,pa] at this
    have e:c=(c.toNat:Int) /\ c.toNat<64:=by omega
    simp only [decide_eq_true e,Bool.and_true] at this
    simp [this]
   ·simp [hc]
  ·intro h j
   rw [Nat.testBit_and,pa]
   by_cases e:c=(j:Int) /\ j<64
   ·obtain ⟨e1,e2⟩:=e
    subst e1
    have:(0:Int) <= (j:Int) /\ (j:Int)<64:=by omega
    rw [decide_eq_true this] at h
    simp at h
    simp [h]
   ·simp [e]
 by_cases h0:(m &&& gh c)=0
 ·rw [h.1 h0,h0];rfl
 ·have h1:aw m c=tQ:=by
   cases hx:aw m c with
   | true=>rfl
   | false=>exact absurd (h.2 hx) h0
  have h2:((((m &&& gh c:Nat):Int))==0)=fF:=by simp;omega
  rw [h1,h2];rfl
theorem bA (m:Nat) (hm:m<2 ^ 64) (c:Int) (w:wW):Calls tp 13 #[vi uQ m,vi iQ c] w (ay (vb (aw m c)) w):=by
 have hO:=λw=>qX c w
 have hB:=zh (bits_and_u64_nat m (gh c) hm (tF c))
 have hH:=zh (JR m c)
 generalize gh c=o at *
 generalize aw m c=b at *
 go_in
 go_wp2_with (go_at_call 81;refine (hO _).r λk=>?_)
 go_ret
 refine ⟨?_,by repeat (first|exact aG.refl _|apply aG.drewN|apply aG.drew)⟩
 rw [hH.out,<- hB.out]
 simp [bne]
def aE (m:Nat) (c:Int):Nat:=dI m (gh c)
theorem uS {m:Nat} (h:m<2 ^ 64) (c:Int):aE m c<2 ^ 64:=dC _ h
theorem iW (m:Nat) (hm:m<2 ^ 64) (c:Int) (w:wW):Calls tp 16 #[vi uQ m,vi iQ c] w (ay (vi uQ (aE m c:Nat)) w):=by
 have hO:=λw=>qX c w
 have hB:=zh (lO m (gh c) hm (tF c))
 unfold aE
 generalize gh c=o at *
 go_in
 go_wp2_with (go_at_call 81;refine (hO _).r λk=>?_)
 go_ret
 refine ⟨?_,by repeat (first|exact aG.refl _|apply aG.drewN|apply aG.drew)⟩
 rw [<- hB.out];rfl
theorem Jo (m o:Nat) (hm:m<2 ^ 64) (ho:o<2 ^ 64) (w:wW):Calls tp 291 #[vi uQ m,vi uQ o] w (ay (vi uQ (dI m o:Nat)) w):=by
 have hB:=zh (lO m o hm ho)
 go_in
 go_wp2
 go_ret
 exact ay.of (by rw [<- hB.out];rfl) dz
theorem jJ (m o:Nat) (hm:m<2 ^ 64) (ho:o<2 ^ 64) (w:wW):Calls tp 14 #[vi uQ m,vi uQ o] w (ay (vb (decide (dI m o=0))) w):=by
 have hB:=zh (lO m o hm ho)
 go_in
 go_wp2
 go_ret
 refine ⟨?_,by repeat (first|exact aG.refl _|apply aG.drewN|apply aG.drew)⟩
 have e:(bits .andNot .u64 (m:Int) (o:Int)==0)=decide (dI m o=0):=by
  rw [hB.out]
  by_cases h:dI m o=0
  ·simp [h]
  ·simp [h]
 simp [e]
def bc (m:Nat):Int:=if m=0 then 0 else Lib.ctz 64 m
def jr (m:Nat):Int:=if m=0 then 12 else 0
theorem eZ (m:Nat) (hm:m<2 ^ 64) (w:wW) (hT:bK w):Calls tp 142 #[vi uQ m] w (ay (.tuple #[vi iQ (bc m),vi iQ (jr m)]) w):=by
 by_cases h0:m=0
 ·subst h0
  go_in
  go_wp2
  go_ret2
  exact ay.of (rfl) dz
 ·have e1:bc m=Lib.ctz 64 m:=nG h0
  have e2:jr m=0:=nG h0
  rw [e1,e2]
  have hne:((m:Int)==0)=fF:=by simp;omega
  have hz:=λu hu=>Any7.bits_TrailingZeros64 tzL m oM u (λ_=>hu)
  have hz2:∀ u,bK u -> Calls tp 217 #[vi uQ m] u (λe u'=>e=.returned (vi iQ (Lib.ctz 64 m)) /\ u'=u):=λu hu=>hz u hu
  generalize Lib.ctz 64 m=z at *
  clear hz e1 e2
  go_in
  go_wp2_with (go_at_call 217;refine (hz2 _ (by first|exact hT|exact hT.drewN _)).mono ?_;rintro e w' ⟨rfl,rfl⟩)
  go_ret2
  exact ay.of (rfl) dz
def oF (m:Nat) (c:Int):Nat:=dI m (bs (c+1))
def mD (m:Nat) (c:Int):Nat:=if c<0 \/ 63 <= c then m else if oF m c≠0 then oF m c else m
theorem GB (m:Nat) (hm:m<2 ^ 64) (c:Int) (w:wW) (hT:bK w):Calls tp 270 #[vi uQ m,vi iQ c] w (ay (.tuple #[vi iQ (bc (mD m c)),vi iQ (jr (mD m c))]) w):=by
 by_cases h:c<0 \/ 63 <= c
 ·have e:mD m c=m:=pG h
  rw [e]
  have hF:=λu hu=>eZ m hm u hu
  have h2:c<0 \/ (¬ c<0 /\ 63 <= c):=by omega
  clear h e
  generalize bc m=a at *
  generalize jr m=b at *
  rcases h2 with h2|⟨h1,h2⟩
  all_goals
   go_in
   go_wp2_with (go_at_call 142;refine (hF _ (by first|exact hT|exact hT.drewN _)).r λk=>?_)
   go_ret2
   exact ay.of (rfl) dz
 ·have hn1:¬ c<0:=by omega
  have hn2:¬ 63 <= c:=by omega
  have hU:=λw=>iV (c+1) w
  have hB:=zh (lO m (bs (c+1)) hm (iZ _))
  have hA:=dC (bs (c+1)) hm
  have e:mD m c=if oF m c≠0 then oF m c else m:=nG h
  unfold oF at e
  generalize bs (c+1)=up at *
  by_cases ha:dI m up=0
  ·rw [nG (by simp [ha])] at e
   rw [e]
   have hF:=λu hu=>eZ m hm u hu
   have hz:(bits .andNot .u64 (m:Int) (up:Int)==0)=tQ:=by rw [hB.out,ha];rfl
   clear h e
   generalize bc m=a at *
   generalize jr m=b at *
   go_in
   go_wp2_with (first
    | (go_at_call 42;refine (hU _).r λk=>?_)
    | (go_at_call 142;refine (hF _ (by first|exact hT|exact hT.drewN _)).r λk2=>?_))
   go_ret2
   exact ay.of (rfl) dz
  ·rw [pG ha] at e
   rw [e]
   have hF:=λu hu=>eZ (dI m up) hA u hu
   rw [<- hB.out] at hF
   have hz:(bits .andNot .u64 (m:Int) (up:Int)==0)=fF:=by rw [hB.out];simp;omega
   clear h e
   generalize bc (dI m up)=a at *
   generalize jr (dI m up)=b at *
   go_in
   go_wp2_with (first
    | (go_at_call 42;refine (hU _).r λk=>?_)
    | (go_at_call 142;refine (hF _ (by first|exact hT|exact hT.drewN _)).r λk2=>?_))
   go_ret2
   exact ay.of (rfl) dz
structure ST where
 who:Nat
 held:Nat
def ST.ok (s:ST):Prop:=s.who<2 ^ 64 /\ s.held<2 ^ 64
def ST.on (s:ST):Bool:=decide (s.who≠0)
def ST.left (s:ST):Nat:=dI s.who s.held
def ST.must (s:ST) (c:Int):Bool:=aw s.left c
def ST.ready (s:ST):Bool:=s.on&&decide (s.left=0)
def aP (m:Nat) (c:Int):Nat:=m ||| gh c
theorem dT {m:Nat} (h:m<2 ^ 64) (c:Int):aP m c<2 ^ 64:=Nat.or_lt_two_pow h (tF c)
def ST.ackE (s:ST) (c:Int):Int:=if s.must c then 0 else 6
def ST.ack (s:ST) (c:Int):ST:=if s.must c then ⟨s.who,aP s.held c⟩ else s
def ST.freeE (s:ST):Int:=if s.who=0 then 6 else 0
def ST.free (s:ST):ST:=if s.who=0 then s else ⟨0,0⟩
def mY (s:ST):Obj:=.cells #[vi uQ (s.who:Nat),vi uQ (s.held:Nat)] 125 (0,0)
def fu (b:Nat) (s:ST):ao:=ao.such s.ok (ao.blk b (mY s))
section
variable {F:List Nat} {w:wW} {b:Nat} {s:ST}
theorem gn (h:(fu b s).holds F w):s.ok /\ w.cell? ⟨b,0,nN⟩=sS (vi uQ (s.who:Nat)) /\ w.cell? ⟨b,1,nN⟩=sS (vi uQ (s.held:Nat)) /\ On F w [ao.blk b (mY s)] w:=by
 obtain ⟨h1,h2⟩:=h
 have hA:=On.one h2
 exact ⟨h1,hA.cell 0 rfl 0,hA.cell 0 rfl 1,hA⟩
theorem kX (h:(fu b s).holds F w):Calls tp 333 #[vp (sS ⟨b,0,nN⟩)] w (ay (vb s.on) w):=by
 obtain ⟨hok,c0,c1,hA⟩:=gn h
 unfold ST.on
 clear hA h hok
 generalize s.who=x at *
 go_in
 go_wp2
 go_ret
 refine ⟨?_,by repeat (first|exact aG.refl _|apply aG.drewN|apply aG.drew)⟩
 by_cases e:x=0<;>simp [e]
theorem xk (h:(fu b s).holds F w):Calls tp 242 #[vp (sS ⟨b,0,nN⟩)] w (ay (vi uQ (s.left:Nat)) w):=by
 obtain ⟨⟨ho1,ho2⟩,c0,c1,hA⟩:=gn h
 have hN:=λw=>Jo s.who s.held ho1 ho2 w
 unfold ST.left
 clear hA h
 generalize s.who=x at *
 generalize s.held=y at *
 go_in
 go_wp2
 go_quiet (first|(go_at_call 291;exact Calls.quiet_of (hN _)))
 go_wp2
 go_ret
 exact ay.of (rfl) dz
theorem Fp (h:(fu b s).holds F w) (c:Int):Calls tp 166 #[vp (sS ⟨b,0,nN⟩),vi iQ c] w (ay (vb (aw s.held c)) w):=by
 obtain ⟨⟨ho1,ho2⟩,c0,c1,hA⟩:=gn h
 have hN:=λw=>bA s.held ho2 c w
 clear hA h
 generalize s.held=y at *
 generalize aw y c=z at *
 go_in
 go_wp2_with (go_at_call 13;refine (hN _).r λk=>?_)
 go_ret
 exact ay.of (rfl) dz
theorem xj (h:(fu b s).holds F w) (c:Int):Calls tp 165 #[vp (sS ⟨b,0,nN⟩),vi iQ c] w (λe w'=>e=.returned (vb (s.must c)) /\ af [] w w'):=by
 have hL:=xk h
 have hlt:s.left<2 ^ 64:=dC _ h.1.1
 have hN:=λw=>bA s.left hlt c w
 unfold ST.must
 generalize s.left=x at *
 generalize aw x c=z at *
 go_in
 go_wp2_with (first
  | (go_at_call 242;refine hL.r λk=>?_)
  | (go_at_call 13;refine (hN _).r λk2=>?_))
 go_ret
 refine ⟨rfl,?_⟩
 exact ms
theorem ui (h:(fu b s).holds F w):Calls tp 335 #[vp (sS ⟨b,0,nN⟩)] w (ay (vb s.ready) w):=by
 have hO:=kX h
 have hL:=λk=>xk ((fu b s).keep h (S:=[]) (mR.drewN k) sM)
 unfold ST.ready
 generalize s.left=x at *
 cases hx:s.on
 ·rw [hx] at hO
  clear hL hx
  go_in
  go_wp2_with (go_at_call 333;refine hO.r λk=>?_)
  go_ret
  exact ay.of sM dz
 ·rw [hx] at hO
  clear hx
  go_in
  go_wp2_with (first
   | (go_at_call 333;refine hO.r λk=>?_)
   | (go_at_call 242;refine (hL _).r λk2=>?_))
  go_ret
  refine ⟨?_,by repeat (first|exact aG.refl _|apply aG.drewN|apply aG.drew)⟩
  by_cases e:x=0<;>simp [e]
end
theorem GD (z:List Value) (hz:z≠[]) (n:Nat):madeCells z.toArray (n * z.length)=db [] n (λ_=>z) []:=by
 have hk:0<z.length:=List.length_pos_iff.2 hz
 apply Array.ext_getElem?
 intro m
 by_cases hm:m<n * z.length
 ·have h1:m / z.length<n:=Nat.div_lt_of_lt_mul (by rw [Nat.mul_comm];exact hm)
  have h2:m % z.length<z.length:=Nat.mod_lt _ hk
  have h3:m=m / z.length * z.length+m % z.length:=by rw [Nat.mul_comm];exact (Nat.div_add_mod _ _).symm
  rw [ij (k:=z.length) (λ_=>rfl) h1 h2 (by simpa using h3)]
  simp [madeCells,hm,h2]
 ·have h4:(madeCells z.toArray (n * z.length)).size=n * z.length:=size_madeCells _ _
  have h5:(db [] n (λ_=>z) []).size=n * z.length:=by
   unfold db
   simp [br (k:=z.length) (λ_=>rfl)]
  rw [Array.getElem?_eq_none oM,Array.getElem?_eq_none oM]
theorem ou (z:List Value) (k:Nat) (hk:z.length=k) (h0:0<k) (n:Nat):madeCells z.toArray (n * k)=db [] n (λ_=>z) []:=by
 subst hk
 exact GD z (by rintro rfl;simp at h0) n
structure cW where
 power:Bool
 idle:Bool
 way:Int
 since:Int
 steps:Int
 busy:Int
def bF (c:cW):List Value:=[vb c.power,vb c.idle,vi iQ c.way,vi iQ c.since,vi iQ c.steps,vi iQ c.busy]
/-- The cores: how many, and each. -/
structure CT where
 n:Nat
 c:Nat -> cW
def CT.is (t:CT) (cpu:Int):Prop:=0 <= cpu /\ cpu<t.n
instance instCore1 (t:CT) (cpu:Int):Decidable (t.is cpu):=by unfold CT.is;infer_instance
def cW.ok (c:cW):Prop:=(0 <= c.way /\ c.way<8) /\ (0 <= c.since /\ c.since <= 1152921504606846976) /\ bD c.steps /\ bD c.busy
def CT.ok (t:CT):Prop:=1 <= t.n /\ t.n <= 64 /\ ∀ i,(t.c i).ok
def CT.put (t:CT) (i:Nat) (c:cW):CT:={ t with c:=ar t.c i c }
def eh (b:Nat) (t:CT):ao:=ao.such t.ok (ao.ex λr:Nat=>ao.star [ao.blk b (.cells #[.slice (sS ⟨r,0,nN⟩) t.n t.n] 203 (0,0)),ao.blk r (.cells (db [] t.n (λi=>bF (t.c i)) []) 152 (0,0))])
def cF (b r:Nat) (t:CT):List ao:=[ao.blk b (.cells #[.slice (sS ⟨r,0,nN⟩) t.n t.n] 203 (0,0)),ao.blk r (.cells (db [] t.n (λi=>bF (t.c i)) []) 152 (0,0))]
section
variable {F:List Nat} {w u:wW} {b r:Nat} {t:CT}
theorem gQ (h:(eh b t).holds F w):∃ r,t.ok /\ On F w (cF b r t) w:=by
 obtain ⟨hok,r,h⟩:=h
 exact ⟨r,hok,On.of h⟩
theorem On.cores (h:On F w (cF b r t) u) (hok:t.ok):dN (eh b t) F w u:=h.gains.imp λF' h'=>⟨hok,r,h'⟩
theorem On.core (h:On F w (cF b r t) u) {i j:Nat} (hi:i<t.n) (hj:j<6):u.cell? ⟨r,i * 6+j,nN⟩=(bF (t.c i))[j]?:=by
 have:=h.cell 1 rfl (i * 6+j)
 rw [this]
 exact ij (k:=6) (λi=>rfl) hi hj sM
theorem On.coreSet (h:On F w (cF b r t) u) {i j:Nat} (hi:i<t.n) (hj:j<6) (v:Value) {c':cW} (hc:(bF (t.c i)).set j v=bF c'):On F w (cF b r (t.put i c')) (u.setCell ⟨r,i * 6+j,nN⟩ v):=by
 have:=h.set 1 rfl (i * 6+j) v
 rw [ig (k:=6) (λi=>rfl) hi hj v sM] at this
 have e:ar (λi=>bF (t.c i)) i ((bF (t.c i)).set j v)=λx=>bF ((t.put i c').c x):=by
  funext x
  by_cases e:x=i
  ·subst e;rw [ah,hc];show bF c'=bF (ar t.c x c' x);rw [ah]
  ·rw [al _ _ e];show _=bF (ar t.c i c' x);rw [al _ _ e]
 rw [e] at this
 exact this
theorem put_self (t:CT) (i:Nat):t.put i (t.c i)=t:=by
 cases t with
 | mk n c=>
  show CT.mk n (ar c i (c i))=_
  congr 1
  funext x
  by_cases e:x=i
  ·subst e;exact ah _ _ _
  ·exact al _ _ e
theorem KM (t:CT) (i:Nat) (x y:cW):(t.put i x).put i y=t.put i y:=by
 show CT.mk t.n _=CT.mk t.n _
 congr 1
 funext z
 by_cases e:z=i
 ·subst e;rw [ah,ah]
 ·rw [al _ _ e,al _ _ e];exact al _ _ e
theorem put_ok (h:t.ok) (i:Nat) {x:cW} (hx:x.ok):(t.put i x).ok:=by
 refine ⟨h.1,h.2.1,λj=>?_⟩
 show (ar t.c i x j).ok
 by_cases e:j=i
 ·subst e;rw [ah];exact hx
 ·rw [al _ _ e];exact h.2.2 j
theorem On.core0 (h:On F w (cF b r t) u) (i:Nat):On F w (cF b r (t.put i (t.c i))) u:=by rw [put_self];exact h
theorem On.corePut {x:cW} {i:Nat} (h:On F w (cF b r (t.put i x)) u) (hi:i<t.n) (j:Nat) (hj:j<6) (v:Value) {x':cW} (hc:(bF x).set j v=bF x'):On F w (cF b r (t.put i x')) (u.setCell ⟨r,i * 6+j,nN⟩ v):=by
 have e:(t.put i x).c i=x:=ah _ _ _
 have:=h.coreSet (i:=i) (j:=j) hi hj v (c':=x') (by rw [e];exact hc)
 rwa [KM] at this
def CT.findE (t:CT) (cpu:Int):Int:=if t.is cpu then 0 else 3
theorem gR (h:On F w (cF b r t) u) (cpu:Int):Calls tp 152 #[vp (sS ⟨b,0,nN⟩),vi iQ cpu] u (ay (.tuple #[vp (if t.is cpu then sS ⟨r,cpu.toNat * 6,nN⟩ else nN),vi iQ (t.findE cpu)]) u):=by
 have c0:u.cell? ⟨b,0,nN⟩=sS (.slice (sS ⟨r,0,nN⟩) t.n t.n):=h.cell 0 rfl 0
 unfold CT.findE
 by_cases hi:t.is cpu
 ·rw [pG hi,pG hi]
  obtain ⟨h1,h2⟩:=hi
  obtain ⟨c,rfl⟩:=iN h1
  simp only [Int.toNat_natCast]
  clear h
  go_in
  go_wp2
  go_ret2
  exact ay.of sM dz
 ·rw [nG hi,nG hi]
  have h2:cpu<0 \/ (¬ cpu<0 /\ (t.n:Int) <= cpu):=by unfold CT.is at hi;omega
  clear h hi
  rcases h2 with h2|⟨h1,h2⟩
  all_goals
   go_in
   go_wp2
   go_ret2
   exact ay.of (rfl) dz
end
def wr (n:Int):Int:=IntKind.i64.wrap n
theorem vE:bD 0:=by unfold bD;decide
theorem Eb (n:Int):bD (wr n):=by unfold wr bD;rw [IntKind.wrap_i64];omega
def cW.up (c:cW):cW:={ c with idle:=false,way:=0,since:=0 }
def CT.at (t:CT) (cpu:Int):cW:=t.c cpu.toNat
def je (now:Int):Bool:=decide (0 <= now /\ now <= 1152921504606846976)
def CT.powE (t:CT) (cpu:Int) (on:Bool):Int:=if ¬ t.is cpu then 3 else if (t.at cpu).power=on then 6 else 0
def CT.pow (t:CT) (cpu:Int) (on:Bool):CT:=if t.powE cpu on=0 then t.put cpu.toNat { (t.at cpu).up with power:=on } else t
def CT.restE (t:CT) (cpu way now:Int):Int:=if ¬ t.is cpu then 3 else if way<0 \/ 8 <= way \/ je now=fF then 2 else if (t.at cpu).power=fF \/ (t.at cpu).idle=tQ then 6 else 0
def CT.rest (t:CT) (cpu way now:Int):CT:=if t.restE cpu way now=0 then t.put cpu.toNat { t.at cpu with idle:=true,way:=way,since:=now } else t
def CT.wakeE (t:CT) (cpu now:Int):Int:=if ¬ t.is cpu then 3 else if je now=fF then 2 else if (t.at cpu).idle=fF then 6 else 0
def CT.wakeN (t:CT) (cpu now:Int):Int:=if t.wakeE cpu now=0 then max 0 (now - (t.at cpu).since) else 0
def CT.wake (t:CT) (cpu now:Int):CT:=if t.wakeE cpu now=0 then t.put cpu.toNat (t.at cpu).up else t
def CT.count (t:CT) (cpu:Int) (busy:Bool):CT:=if t.is cpu then t.put cpu.toNat { t.at cpu with steps:=wr ((t.at cpu).steps+1),busy:=if busy then wr ((t.at cpu).busy+1) else (t.at cpu).busy } else t
def CT.take (t:CT) (cpu:Int):CT:=if t.is cpu then t.put cpu.toNat { t.at cpu with steps:=0,busy:=0 } else t
def CT.takeB (t:CT) (cpu:Int):Int:=if t.is cpu then (t.at cpu).busy else 0
def CT.takeS (t:CT) (cpu:Int):Int:=if t.is cpu then (t.at cpu).steps else 0
section
variable {F:List Nat} {w u:wW} {b r:Nat} {t:CT}
theorem EN {x:cW} {i:Nat} (hi:i<t.n) (hA:On F w (cF b r (t.put i x)) u):Calls tp 170 #[vp (sS ⟨r,i * 6,nN⟩)] u (λe u'=>e=.returned (.tuple #[]) /\ On F w (cF b r (t.put i x.up)) u'):=by
 have f1:u.frozen? ⟨r,i * 6+1,nN⟩=fF:=hA.free 1 rfl _
 have f2:u.frozen? ⟨r,i * 6+2,nN⟩=fF:=hA.free 1 rfl _
 have f3:u.frozen? ⟨r,i * 6+3,nN⟩=fF:=hA.free 1 rfl _
 have e:(t.put i x).c i=x:=ah _ _ _
 have c1:u.cell? ⟨r,i * 6+1,nN⟩=sS (vb x.idle):=by have:=hA.core (i:=i) hi (j:=1) dE;rw [e] at this;exact this
 have c2:u.cell? ⟨r,i * 6+2,nN⟩=sS (vi iQ x.way):=by have:=hA.core (i:=i) hi (j:=2) dE;rw [e] at this;exact this
 have c3:u.cell? ⟨r,i * 6+3,nN⟩=sS (vi iQ x.since):=by have:=hA.core (i:=i) hi (j:=3) dE;rw [e] at this;exact this
 obtain ⟨pw,il,wy,si,st,bu⟩:=x
 dsimp only at *
 have hB:=zh hA
 clear hA e
 go_in
 go_wp2
 go_end0
 refine ⟨rfl,?_⟩
 exact ((((hB.out.keep mR).corePut hi 1 dE (vb fF) (x':=⟨pw,fF,wy,si,st,bu⟩) rfl).corePut hi 2 dE (vi iQ 0) (x':=⟨pw,fF,0,si,st,bu⟩) rfl).corePut hi 3 dE (vi iQ 0) (x':=⟨pw,fF,0,0,st,bu⟩) rfl)
theorem LY {x:cW} (h:x.ok) (p:Bool):cW.ok { x.up with power:=p }:=⟨⟨Int.le_refl _,by show (0:Int)<8;decide⟩,⟨Int.le_refl _,by show (0:Int) <= _;decide⟩,h.2.2⟩
theorem vW (n:Int) (w:wW):Calls tp 169 #[vi iQ n] w (ay (vb (je n)) w):=by
 unfold je
 by_cases h:0 <= n
 ·skip
  go_in
  go_wp2
  go_ret
  exact ay.of (by simp [h]) dz
 ·have h':n<0:=by omega
  have e:decide (0 <= n /\ n <= 1152921504606846976)=fF:=by simp;omega
  rw [e]
  go_in
  go_wp2
  go_ret
  exact ay.of sM dz
theorem fb (h:(eh b t).holds F w) (cpu:Int) (busy:Bool):Calls tp 99 #[vp (sS ⟨b,0,nN⟩),vi iQ cpu,vb busy] w (aq (eh b (t.count cpu busy)) F (vi iQ (t.findE cpu)) w):=by
 obtain ⟨r,hok,hA⟩:=gQ h
 have hF:=gR hA cpu
 unfold CT.count
 by_cases hi:t.is cpu
 ·have e1:t.findE cpu=0:=pG hi
  rw [pG hi,e1] at hF
  rw [e1,pG hi]
  obtain ⟨h1,h2⟩:=hi
  obtain ⟨c,rfl⟩:=iN h1
  simp only [CT.at,Int.toNat_natCast] at *
  clear e1 h
  have ho:(t.c c).ok:=hok.2.2 c
  have hB:=zh (hA.core0 c)
  have hO:=zh hA
  have hlt:c<t.n:=by omega
  have c0:w.cell? ⟨r,c * 6,nN⟩=sS (vb (t.c c).power):=hA.core hlt (j:=0) dE
  have c1:w.cell? ⟨r,c * 6+1,nN⟩=sS (vb (t.c c).idle):=hA.core hlt (j:=1) dE
  have c2:w.cell? ⟨r,c * 6+2,nN⟩=sS (vi iQ (t.c c).way):=hA.core hlt (j:=2) dE
  have c3:w.cell? ⟨r,c * 6+3,nN⟩=sS (vi iQ (t.c c).since):=hA.core hlt (j:=3) dE
  have c4:w.cell? ⟨r,c * 6+4,nN⟩=sS (vi iQ (t.c c).steps):=hA.core hlt (j:=4) dE
  have c5:w.cell? ⟨r,c * 6+5,nN⟩=sS (vi iQ (t.c c).busy):=hA.core hlt (j:=5) dE
  have f0:w.frozen? ⟨r,c * 6,nN⟩=fF:=hA.free 1 rfl _
  have f1:w.frozen? ⟨r,c * 6+1,nN⟩=fF:=hA.free 1 rfl _
  have f2:w.frozen? ⟨r,c * 6+2,nN⟩=fF:=hA.free 1 rfl _
  have f3:w.frozen? ⟨r,c * 6+3,nN⟩=fF:=hA.free 1 rfl _
  have f4:w.frozen? ⟨r,c * 6+4,nN⟩=fF:=hA.free 1 rfl _
  have f5:w.frozen? ⟨r,c * 6+5,nN⟩=fF:=hA.free 1 rfl _
  generalize t.c c=x at *
  clear hA
  obtain ⟨pw,il,wy,si,st,bu⟩:=x
  dsimp only at *
  have g4:=Eb (st+1)
  have g5:=Eb (bu+1)
  have e4:IntKind.i64.wrap (st+1)=wr (st+1):=rfl
  have e5:IntKind.i64.wrap (bu+1)=wr (bu+1):=rfl
  generalize wr (st+1)=st2 at *
  generalize wr (bu+1)=bu2 at *
  cases busy
  ·simp only [Bool.false_eq_true,if_false]
   go_in
   go_wp2_with (go_at_call 152;refine hF.r λk=>?_)
   go_ret
   refine ⟨rfl,?_⟩
   refine On.cores (r:=r) ?_ (put_ok hok c ⟨ho.1,ho.2.1,g4,ho.2.2.2⟩)
   have:=((hB.out.keep (mR.drewN k)).corePut hlt 4 dE (vi iQ st2) (x':=⟨pw,il,wy,si,st2,bu⟩) rfl)
   simpa [e4] using this
  ·simp only [if_true]
   go_in
   go_wp2_with (go_at_call 152;refine hF.r λk=>?_)
   go_ret
   refine ⟨rfl,?_⟩
   refine On.cores (r:=r) ?_ (put_ok hok c ⟨ho.1,ho.2.1,g4,g5⟩)
   have:=(((hB.out.keep (mR.drewN k)).corePut hlt 4 dE (vi iQ st2) (x':=⟨pw,il,wy,si,st2,bu⟩) rfl).corePut hlt 5 dE (vi iQ bu2) (x':=⟨pw,il,wy,si,st2,bu2⟩) rfl)
   simpa [e4,e5] using this
 ·have e1:t.findE cpu=3:=nG hi
  rw [nG hi,e1] at hF
  rw [e1,nG hi]
  clear h e1
  go_in
  go_wp2_with (go_at_call 152;refine hF.r λk=>?_)
  go_ret
  exact ⟨rfl,(hA.keep (mR.drewN k)).cores hok⟩
theorem oD (h:(eh b t).holds F w) (cpu:Int) (on:Bool):Calls tp 293 #[vp (sS ⟨b,0,nN⟩),vi iQ cpu,vb on] w (aq (eh b (t.pow cpu on)) F (vi iQ (t.powE cpu on)) w):=by
 obtain ⟨r,hok,hA⟩:=gQ h
 have hF:=gR hA cpu
 by_cases hi:t.is cpu
 ·by_cases hp:(t.at cpu).power=on
  ·have e1:t.powE cpu on=6:=by unfold CT.powE;rw [nG (by simpa using hi),pG hp]
   have e2:t.pow cpu on=t:=nG (by rw [e1];decide)
   rw [e1,e2]
   clear e1 e2
   have e0:t.findE cpu=0:=pG hi
   rw [pG hi,e0] at hF
   have hi2:=hi
   obtain ⟨h1,h2⟩:=hi2
   obtain ⟨c,rfl⟩:=iN h1
   simp only [CT.at,Int.toNat_natCast] at *
   clear e0 h
   have ho:(t.c c).ok:=hok.2.2 c
   have hB:=zh (hA.core0 c)
   have hO:=zh hA
   have hlt:c<t.n:=by omega
   have c0:w.cell? ⟨r,c * 6,nN⟩=sS (vb (t.c c).power):=hA.core hlt (j:=0) dE
   have c1:w.cell? ⟨r,c * 6+1,nN⟩=sS (vb (t.c c).idle):=hA.core hlt (j:=1) dE
   have c2:w.cell? ⟨r,c * 6+2,nN⟩=sS (vi iQ (t.c c).way):=hA.core hlt (j:=2) dE
   have c3:w.cell? ⟨r,c * 6+3,nN⟩=sS (vi iQ (t.c c).since):=hA.core hlt (j:=3) dE
   have c4:w.cell? ⟨r,c * 6+4,nN⟩=sS (vi iQ (t.c c).steps):=hA.core hlt (j:=4) dE
   have c5:w.cell? ⟨r,c * 6+5,nN⟩=sS (vi iQ (t.c c).busy):=hA.core hlt (j:=5) dE
   have f0:w.frozen? ⟨r,c * 6,nN⟩=fF:=hA.free 1 rfl _
   have f1:w.frozen? ⟨r,c * 6+1,nN⟩=fF:=hA.free 1 rfl _
   have f2:w.frozen? ⟨r,c * 6+2,nN⟩=fF:=hA.free 1 rfl _
   have f3:w.frozen? ⟨r,c * 6+3,nN⟩=fF:=hA.free 1 rfl _
   have f4:w.frozen? ⟨r,c * 6+4,nN⟩=fF:=hA.free 1 rfl _
   have f5:w.frozen? ⟨r,c * 6+5,nN⟩=fF:=hA.free 1 rfl _
   generalize t.c c=x at *
   clear hA
   obtain ⟨pw,il,wy,si,st,bu⟩:=x
   dsimp only at *
   subst hp
   go_in
   go_wp2_with (go_at_call 152;refine hF.r λk=>?_)
   go_ret
   refine ⟨rfl,?_⟩
   exact (hO.out.keep (mR.drewN k)).cores hok
  ·have e1:t.powE cpu on=0:=by unfold CT.powE;rw [nG (by simpa using hi),nG hp]
   have e2:t.pow cpu on=t.put cpu.toNat { (t.at cpu).up with power:=on }:=pG e1
   rw [e1,e2]
   clear e1 e2
   have e0:t.findE cpu=0:=pG hi
   rw [pG hi,e0] at hF
   have hi2:=hi
   obtain ⟨h1,h2⟩:=hi2
   obtain ⟨c,rfl⟩:=iN h1
   simp only [CT.at,Int.toNat_natCast] at *
   clear e0 h
   have ho:(t.c c).ok:=hok.2.2 c
   have hB:=zh (hA.core0 c)
   have hO:=zh hA
   have hlt:c<t.n:=by omega
   have c0:w.cell? ⟨r,c * 6,nN⟩=sS (vb (t.c c).power):=hA.core hlt (j:=0) dE
   have c1:w.cell? ⟨r,c * 6+1,nN⟩=sS (vb (t.c c).idle):=hA.core hlt (j:=1) dE
   have c2:w.cell? ⟨r,c * 6+2,nN⟩=sS (vi iQ (t.c c).way):=hA.core hlt (j:=2) dE
   have c3:w.cell? ⟨r,c * 6+3,nN⟩=sS (vi iQ (t.c c).since):=hA.core hlt (j:=3) dE
   have c4:w.cell? ⟨r,c * 6+4,nN⟩=sS (vi iQ (t.c c).steps):=hA.core hlt (j:=4) dE
   have c5:w.cell? ⟨r,c * 6+5,nN⟩=sS (vi iQ (t.c c).busy):=hA.core hlt (j:=5) dE
   have f0:w.frozen? ⟨r,c * 6,nN⟩=fF:=hA.free 1 rfl _
   have f1:w.frozen? ⟨r,c * 6+1,nN⟩=fF:=hA.free 1 rfl _
   have f2:w.frozen? ⟨r,c * 6+2,nN⟩=fF:=hA.free 1 rfl _
   have f3:w.frozen? ⟨r,c * 6+3,nN⟩=fF:=hA.free 1 rfl _
   have f4:w.frozen? ⟨r,c * 6+4,nN⟩=fF:=hA.free 1 rfl _
   have f5:w.frozen? ⟨r,c * 6+5,nN⟩=fF:=hA.free 1 rfl _
   generalize t.c c=x at *
   clear hA
   obtain ⟨pw,il,wy,si,st,bu⟩:=x
   dsimp only at *
   have hq:(pw==on)=fF:=by simp [hp]
   go_in
   go_wp2_with (first
    | (go_at_call 152;refine hF.r λk=>?_)
    | (go_at_call 170;refine (EN hlt ((hB.out.keep (mR.drewN k)).corePut hlt 0 dE (vb on) (x':=⟨on,il,wy,si,st,bu⟩) rfl)).s λw2 hD=>?_))
   go_ret
   refine ⟨rfl,?_⟩
   refine On.cores (r:=r) (hD.keep ?_) (put_ok hok c (LY ho on))
   exact ms
 ·have e0:t.findE cpu=3:=nG hi
  have e1:t.powE cpu on=3:=pG hi
  have e2:t.pow cpu on=t:=nG (by rw [e1];decide)
  rw [nG hi,e0] at hF
  rw [e1,e2]
  clear h e1 e2 e0
  have hB:=zh hA
  clear hA
  go_in
  go_wp2_with (go_at_call 152;refine hF.r λk=>?_)
  go_ret
  exact ⟨rfl,(hB.out.keep (mR.drewN k)).cores hok⟩
theorem yC (h:(eh b t).holds F w) (cpu:Int):Calls tp 191 #[vp (sS ⟨b,0,nN⟩),vi iQ cpu] w (aq (eh b (t.take cpu)) F (.tuple #[vi iQ (t.takeB cpu),vi iQ (t.takeS cpu),vi iQ (t.findE cpu)]) w):=by
 obtain ⟨r,hok,hA⟩:=gQ h
 have hF:=gR hA cpu
 unfold CT.take CT.takeB CT.takeS
 by_cases hi:t.is cpu
 ·rw [pG hi,pG hi,pG hi]
  have e1:t.findE cpu=0:=pG hi
  rw [e1]
  clear e1
  have e0:t.findE cpu=0:=pG hi
  rw [pG hi,e0] at hF
  have hi2:=hi
  obtain ⟨h1,h2⟩:=hi2
  obtain ⟨c,rfl⟩:=iN h1
  simp only [CT.at,Int.toNat_natCast] at *
  clear e0 h
  have ho:(t.c c).ok:=hok.2.2 c
  have hB:=zh (hA.core0 c)
  have hO:=zh hA
  have hlt:c<t.n:=by omega
  have c0:w.cell? ⟨r,c * 6,nN⟩=sS (vb (t.c c).power):=hA.core hlt (j:=0) dE
  have c1:w.cell? ⟨r,c * 6+1,nN⟩=sS (vb (t.c c).idle):=hA.core hlt (j:=1) dE
  have c2:w.cell? ⟨r,c * 6+2,nN⟩=sS (vi iQ (t.c c).way):=hA.core hlt (j:=2) dE
  have c3:w.cell? ⟨r,c * 6+3,nN⟩=sS (vi iQ (t.c c).since):=hA.core hlt (j:=3) dE
  have c4:w.cell? ⟨r,c * 6+4,nN⟩=sS (vi iQ (t.c c).steps):=hA.core hlt (j:=4) dE
  have c5:w.cell? ⟨r,c * 6+5,nN⟩=sS (vi iQ (t.c c).busy):=hA.core hlt (j:=5) dE
  have f0:w.frozen? ⟨r,c * 6,nN⟩=fF:=hA.free 1 rfl _
  have f1:w.frozen? ⟨r,c * 6+1,nN⟩=fF:=hA.free 1 rfl _
  have f2:w.frozen? ⟨r,c * 6+2,nN⟩=fF:=hA.free 1 rfl _
  have f3:w.frozen? ⟨r,c * 6+3,nN⟩=fF:=hA.free 1 rfl _
  have f4:w.frozen? ⟨r,c * 6+4,nN⟩=fF:=hA.free 1 rfl _
  have f5:w.frozen? ⟨r,c * 6+5,nN⟩=fF:=hA.free 1 rfl _
  generalize t.c c=x at *
  clear hA
  obtain ⟨pw,il,wy,si,st,bu⟩:=x
  dsimp only at *
  go_in
  go_wp2_with (go_at_call 152;refine hF.r λk=>?_)
  go_quiet (fail)
  go_wp2
  go_ret3
  refine ⟨rfl,?_⟩
  refine On.cores (r:=r) ?_ (put_ok hok c (x:=⟨pw,il,wy,si,0,0⟩) ⟨ho.1,ho.2.1,vE,vE⟩)
  have hk:=hB.out.keep (u':=w.drewN k) (mR.drewN k)
  refine ((?_:On F w _ _).corePut hlt 5 dE (vi iQ 0) (x:=⟨pw,il,wy,si,st,bu⟩) (x':=⟨pw,il,wy,si,st,0⟩) rfl).corePut hlt 4 dE (vi iQ 0) (x':=⟨pw,il,wy,si,0,0⟩) rfl
  exact hB.out.keep mz
 ·have e0:t.findE cpu=3:=nG hi
  rw [nG hi,e0] at hF
  rw [nG hi,nG hi,nG hi,e0]
  clear h e0
  have hB:=zh hA
  clear hA
  go_in
  go_wp2_with (go_at_call 152;refine hF.r λk=>?_)
  go_ret3
  exact ⟨rfl,(hB.out.keep (mR.drewN k)).cores hok⟩
theorem Hp (h:(eh b t).holds F w) (cpu way now:Int):Calls tp 180 #[vp (sS ⟨b,0,nN⟩),vi iQ cpu,vi iQ way,vi iQ now] w (aq (eh b (t.rest cpu way now)) F (vi iQ (t.restE cpu way now)) w):=by
 obtain ⟨r,hok,hA⟩:=gQ h
 have hF:=gR hA cpu
 have hR:=λw=>vW now w
 by_cases hi:t.is cpu
 ·by_cases hp:way<0 \/ 8 <= way \/ je now=fF
  ·have e1:t.restE cpu way now=2:=by unfold CT.restE;rw [nG (by simpa using hi),pG hp]
   have e2:t.rest cpu way now=t:=nG (by rw [e1];decide)
   rw [e1,e2]
   clear e1 e2
   have hO:=zh hA
   have e0:t.findE cpu=0:=pG hi
   rw [pG hi,e0] at hF
   have hi2:=hi
   obtain ⟨h1,h2⟩:=hi2
   obtain ⟨c,rfl⟩:=iN h1
   simp only [CT.at,Int.toNat_natCast] at *
   clear e0 h
   have hq:way<0 \/ (0 <= way /\ 8 <= way) \/ (0 <= way /\ way<8 /\ je now=fF):=by
    rcases hp with hp|hp|hp
    ·exact .inl hp
    ·exact .inr (.inl ⟨by omega,hp⟩)
    ·by_cases g1:way<0
     ·exact .inl g1
     ·by_cases g2:8 <= way
      ·exact .inr (.inl ⟨by omega,g2⟩)
      ·exact .inr (.inr ⟨by omega,by omega,hp⟩)
   clear hp hA
   generalize je now=rt at *
   rcases hq with hq|⟨hq1,hq2⟩|⟨hq1,hq2,rfl⟩
   all_goals
    go_in
    go_wp2_with (first
     | (go_at_call 152;refine hF.r λk=>?_)
     | (go_at_call 169;refine (hR _).r λk2=>?_))
    go_ret
    refine ⟨rfl,(hO.out.keep ?_).cores hok⟩
    exact ms
  ·have hw1:0 <= way:=by omega
   have hw2:way<8:=by omega
   have hr:je now=tQ:=by
    cases hx:je now
    ·exact absurd (.inr (.inr hx)) hp
    ·rfl
   have hr2:0 <= now /\ now <= 1152921504606846976:=of_decide_eq_true hr
   rw [hr] at hR
   by_cases hs:(t.at cpu).power=fF \/ (t.at cpu).idle=tQ
   ·have e1:t.restE cpu way now=6:=by unfold CT.restE;rw [nG (by simpa using hi),nG hp,pG hs]
    have e2:t.rest cpu way now=t:=nG (by rw [e1];decide)
    rw [e1,e2]
    clear e1 e2 hp
    have e0:t.findE cpu=0:=pG hi
    rw [pG hi,e0] at hF
    have hi2:=hi
    obtain ⟨h1,h2⟩:=hi2
    obtain ⟨c,rfl⟩:=iN h1
    simp only [CT.at,Int.toNat_natCast] at *
    clear e0 h
    have ho:(t.c c).ok:=hok.2.2 c
    have hB:=zh (hA.core0 c)
    have hO:=zh hA
    have hlt:c<t.n:=by omega
    have c0:w.cell? ⟨r,c * 6,nN⟩=sS (vb (t.c c).power):=hA.core hlt (j:=0) dE
    have c1:w.cell? ⟨r,c * 6+1,nN⟩=sS (vb (t.c c).idle):=hA.core hlt (j:=1) dE
    have c2:w.cell? ⟨r,c * 6+2,nN⟩=sS (vi iQ (t.c c).way):=hA.core hlt (j:=2) dE
    have c3:w.cell? ⟨r,c * 6+3,nN⟩=sS (vi iQ (t.c c).since):=hA.core hlt (j:=3) dE
    have c4:w.cell? ⟨r,c * 6+4,nN⟩=sS (vi iQ (t.c c).steps):=hA.core hlt (j:=4) dE
    have c5:w.cell? ⟨r,c * 6+5,nN⟩=sS (vi iQ (t.c c).busy):=hA.core hlt (j:=5) dE
    have f0:w.frozen? ⟨r,c * 6,nN⟩=fF:=hA.free 1 rfl _
    have f1:w.frozen? ⟨r,c * 6+1,nN⟩=fF:=hA.free 1 rfl _
    have f2:w.frozen? ⟨r,c * 6+2,nN⟩=fF:=hA.free 1 rfl _
    have f3:w.frozen? ⟨r,c * 6+3,nN⟩=fF:=hA.free 1 rfl _
    have f4:w.frozen? ⟨r,c * 6+4,nN⟩=fF:=hA.free 1 rfl _
    have f5:w.frozen? ⟨r,c * 6+5,nN⟩=fF:=hA.free 1 rfl _
    generalize t.c c=x at *
    clear hA
    obtain ⟨pw,il,wy,si,st,bu⟩:=x
    dsimp only at *
    have hs2:pw=fF \/ (pw=tQ /\ il=tQ):=by
     cases pw<;>simp_all
    clear hs
    rcases hs2 with rfl|⟨rfl,rfl⟩
    all_goals
     go_in
     go_wp2_with (first
      | (go_at_call 152;refine hF.r λk=>?_)
      | (go_at_call 169;refine (hR _).r λk2=>?_))
     go_ret
     refine ⟨rfl,(hO.out.keep ?_).cores hok⟩
     exact ms
   ·have e1:t.restE cpu way now=0:=by unfold CT.restE;rw [nG (by simpa using hi),nG hp,nG hs]
    have e2:t.rest cpu way now=t.put cpu.toNat { t.at cpu with idle:=true,way:=way,since:=now }:=pG e1
    rw [e1,e2]
    clear e1 e2 hp
    have e0:t.findE cpu=0:=pG hi
    rw [pG hi,e0] at hF
    have hi2:=hi
    obtain ⟨h1,h2⟩:=hi2
    obtain ⟨c,rfl⟩:=iN h1
    simp only [CT.at,Int.toNat_natCast] at *
    clear e0 h
    have ho:(t.c c).ok:=hok.2.2 c
    have hB:=zh (hA.core0 c)
    have hO:=zh hA
    have hlt:c<t.n:=by omega
    have c0:w.cell? ⟨r,c * 6,nN⟩=sS (vb (t.c c).power):=hA.core hlt (j:=0) dE
    have c1:w.cell? ⟨r,c * 6+1,nN⟩=sS (vb (t.c c).idle):=hA.core hlt (j:=1) dE
    have c2:w.cell? ⟨r,c * 6+2,nN⟩=sS (vi iQ (t.c c).way):=hA.core hlt (j:=2) dE
    have c3:w.cell? ⟨r,c * 6+3,nN⟩=sS (vi iQ (t.c c).since):=hA.core hlt (j:=3) dE
    have c4:w.cell? ⟨r,c * 6+4,nN⟩=sS (vi iQ (t.c c).steps):=hA.core hlt (j:=4) dE
    have c5:w.cell? ⟨r,c * 6+5,nN⟩=sS (vi iQ (t.c c).busy):=hA.core hlt (j:=5) dE
    have f0:w.frozen? ⟨r,c * 6,nN⟩=fF:=hA.free 1 rfl _
    have f1:w.frozen? ⟨r,c * 6+1,nN⟩=fF:=hA.free 1 rfl _
    have f2:w.frozen? ⟨r,c * 6+2,nN⟩=fF:=hA.free 1 rfl _
    have f3:w.frozen? ⟨r,c * 6+3,nN⟩=fF:=hA.free 1 rfl _
    have f4:w.frozen? ⟨r,c * 6+4,nN⟩=fF:=hA.free 1 rfl _
    have f5:w.frozen? ⟨r,c * 6+5,nN⟩=fF:=hA.free 1 rfl _
    generalize t.c c=x at *
    clear hA
    obtain ⟨pw,il,wy,si,st,bu⟩:=x
    dsimp only at *
    have hs2:pw=tQ /\ il=fF:=by cases pw<;>cases il<;>simp_all
    clear hs
    obtain ⟨rfl,rfl⟩:=hs2
    go_in
    go_wp2_with (first
     | (go_at_call 152;refine hF.r λk=>?_)
     | (go_at_call 169;refine (hR _).r λk2=>?_))
    go_ret
    refine ⟨rfl,?_⟩
    refine On.cores (r:=r) ?_ (put_ok hok c (x:=⟨tQ,tQ,way,now,st,bu⟩) ⟨⟨hw1,hw2⟩,hr2,ho.2.2⟩)
    refine (((?_:On F w _ _).corePut hlt 1 dE (vb tQ) (x:=⟨tQ,fF,wy,si,st,bu⟩) (x':=⟨tQ,tQ,wy,si,st,bu⟩) rfl).corePut hlt 2 dE (vi iQ way) (x':=⟨tQ,tQ,way,si,st,bu⟩) rfl).corePut hlt 3 dE (vi iQ now) (x':=⟨tQ,tQ,way,now,st,bu⟩) rfl
    exact hB.out.keep mz
 ·have e0:t.findE cpu=3:=nG hi
  have e1:t.restE cpu way now=3:=pG hi
  have e2:t.rest cpu way now=t:=nG (by rw [e1];decide)
  rw [nG hi,e0] at hF
  rw [e1,e2]
  clear h e1 e2 e0
  have hB:=zh hA
  clear hA
  go_in
  go_wp2_with (go_at_call 152;refine hF.r λk=>?_)
  go_ret
  exact ⟨rfl,(hB.out.keep (mR.drewN k)).cores hok⟩
theorem Ho (h:(eh b t).holds F w) (cpu now:Int):Calls tp 100 #[vp (sS ⟨b,0,nN⟩),vi iQ cpu,vi iQ now] w (aq (eh b (t.wake cpu now)) F (.tuple #[vi iQ (t.wakeN cpu now),vi iQ (t.wakeE cpu now)]) w):=by
 obtain ⟨r,hok,hA⟩:=gQ h
 have hF:=gR hA cpu
 have hR:=λw=>vW now w
 by_cases hi:t.is cpu
 ·cases hr:je now
  ·have e1:t.wakeE cpu now=2:=by unfold CT.wakeE;rw [nG (by simpa using hi),pG hr]
   have e2:t.wake cpu now=t:=nG (by rw [e1];decide)
   have e3:t.wakeN cpu now=0:=nG (by rw [e1];decide)
   rw [e1,e2,e3]
   rw [hr] at hR
   clear e1 e2 e3
   have hO:=zh hA
   have e0:t.findE cpu=0:=pG hi
   rw [pG hi,e0] at hF
   have hi2:=hi
   obtain ⟨h1,h2⟩:=hi2
   obtain ⟨c,rfl⟩:=iN h1
   simp only [CT.at,Int.toNat_natCast] at *
   clear e0 h
   clear hA
   go_in
   go_wp2_with (first
    | (go_at_call 152;refine hF.r λk=>?_)
    | (go_at_call 169;refine (hR _).r λk2=>?_))
   go_ret2
   refine ⟨rfl,(hO.out.keep ?_).cores hok⟩
   exact ms
  ·have hr2:0 <= now /\ now <= 1152921504606846976:=of_decide_eq_true hr
   have hrn:¬ je now=fF:=by rw [hr];decide
   rw [hr] at hR
   cases hs:(t.at cpu).idle
   ·have e1:t.wakeE cpu now=6:=by unfold CT.wakeE;rw [nG (by simpa using hi),nG hrn,pG hs]
    have e2:t.wake cpu now=t:=nG (by rw [e1];decide)
    have e3:t.wakeN cpu now=0:=nG (by rw [e1];decide)
    rw [e1,e2,e3]
    clear e1 e2 e3 hr hrn
    have e0:t.findE cpu=0:=pG hi
    rw [pG hi,e0] at hF
    have hi2:=hi
    obtain ⟨h1,h2⟩:=hi2
    obtain ⟨c,rfl⟩:=iN h1
    simp only [CT.at,Int.toNat_natCast] at *
    clear e0 h
    have ho:(t.c c).ok:=hok.2.2 c
    have hB:=zh (hA.core0 c)
    have hO:=zh hA
    have hlt:c<t.n:=by omega
    have c0:w.cell? ⟨r,c * 6,nN⟩=sS (vb (t.c c).power):=hA.core hlt (j:=0) dE
    have c1:w.cell? ⟨r,c * 6+1,nN⟩=sS (vb (t.c c).idle):=hA.core hlt (j:=1) dE
    have c2:w.cell? ⟨r,c * 6+2,nN⟩=sS (vi iQ (t.c c).way):=hA.core hlt (j:=2) dE
    have c3:w.cell? ⟨r,c * 6+3,nN⟩=sS (vi iQ (t.c c).since):=hA.core hlt (j:=3) dE
    have c4:w.cell? ⟨r,c * 6+4,nN⟩=sS (vi iQ (t.c c).steps):=hA.core hlt (j:=4) dE
    have c5:w.cell? ⟨r,c * 6+5,nN⟩=sS (vi iQ (t.c c).busy):=hA.core hlt (j:=5) dE
    have f0:w.frozen? ⟨r,c * 6,nN⟩=fF:=hA.free 1 rfl _
    have f1:w.frozen? ⟨r,c * 6+1,nN⟩=fF:=hA.free 1 rfl _
    have f2:w.frozen? ⟨r,c * 6+2,nN⟩=fF:=hA.free 1 rfl _
    have f3:w.frozen? ⟨r,c * 6+3,nN⟩=fF:=hA.free 1 rfl _
    have f4:w.frozen? ⟨r,c * 6+4,nN⟩=fF:=hA.free 1 rfl _
    have f5:w.frozen? ⟨r,c * 6+5,nN⟩=fF:=hA.free 1 rfl _
    generalize t.c c=x at *
    clear hA
    obtain ⟨pw,il,wy,si,st,bu⟩:=x
    dsimp only at *
    subst hs
    go_in
    go_wp2_with (first
     | (go_at_call 152;refine hF.r λk=>?_)
     | (go_at_call 169;refine (hR _).r λk2=>?_))
    go_ret2
    refine ⟨rfl,(hO.out.keep ?_).cores hok⟩
    exact ms
   ·have e1:t.wakeE cpu now=0:=by unfold CT.wakeE;rw [nG (by simpa using hi),nG hrn,nG (by rw [hs];decide)]
    have e2:t.wake cpu now=t.put cpu.toNat (t.at cpu).up:=pG e1
    have e3:t.wakeN cpu now=max 0 (now - (t.at cpu).since):=pG e1
    rw [e1,e2,e3]
    clear e1 e2 e3 hr hrn
    have e0:t.findE cpu=0:=pG hi
    rw [pG hi,e0] at hF
    have hi2:=hi
    obtain ⟨h1,h2⟩:=hi2
    obtain ⟨c,rfl⟩:=iN h1
    simp only [CT.at,Int.toNat_natCast] at *
    clear e0 h
    have ho:(t.c c).ok:=hok.2.2 c
    have hB:=zh (hA.core0 c)
    have hO:=zh hA
    have hlt:c<t.n:=by omega
    have c0:w.cell? ⟨r,c * 6,nN⟩=sS (vb (t.c c).power):=hA.core hlt (j:=0) dE
    have c1:w.cell? ⟨r,c * 6+1,nN⟩=sS (vb (t.c c).idle):=hA.core hlt (j:=1) dE
    have c2:w.cell? ⟨r,c * 6+2,nN⟩=sS (vi iQ (t.c c).way):=hA.core hlt (j:=2) dE
    have c3:w.cell? ⟨r,c * 6+3,nN⟩=sS (vi iQ (t.c c).since):=hA.core hlt (j:=3) dE
    have c4:w.cell? ⟨r,c * 6+4,nN⟩=sS (vi iQ (t.c c).steps):=hA.core hlt (j:=4) dE
    have c5:w.cell? ⟨r,c * 6+5,nN⟩=sS (vi iQ (t.c c).busy):=hA.core hlt (j:=5) dE
    have f0:w.frozen? ⟨r,c * 6,nN⟩=fF:=hA.free 1 rfl _
    have f1:w.frozen? ⟨r,c * 6+1,nN⟩=fF:=hA.free 1 rfl _
    have f2:w.frozen? ⟨r,c * 6+2,nN⟩=fF:=hA.free 1 rfl _
    have f3:w.frozen? ⟨r,c * 6+3,nN⟩=fF:=hA.free 1 rfl _
    have f4:w.frozen? ⟨r,c * 6+4,nN⟩=fF:=hA.free 1 rfl _
    have f5:w.frozen? ⟨r,c * 6+5,nN⟩=fF:=hA.free 1 rfl _
    generalize t.c c=x at *
    clear hA
    obtain ⟨pw,il,wy,si,st,bu⟩:=x
    dsimp only at *
    subst hs
    have hsi:=ho.2.1
    dsimp only at hsi
    obtain ⟨hs1,hs2⟩:=hsi
    obtain ⟨hr3,hr4⟩:=hr2
    go_in
    go_wp2_with (first
     | (go_at_call 152;refine hF.r λk=>?_)
     | (go_at_call 169;refine (hR _).r λk2=>?_)
     | (go_at_call 170;refine (EN hlt (hB.out.keep mz)).s λw2 hD=>?_))
    all_goals
     go_ret2
     refine ⟨?_,On.cores (r:=r) hD (put_ok hok c (LY ho tQ))⟩
     first|(simp;done)|(simp;omega)
 ·have e0:t.findE cpu=3:=nG hi
  have e1:t.wakeE cpu now=3:=pG hi
  have e2:t.wake cpu now=t:=nG (by rw [e1];decide)
  have e3:t.wakeN cpu now=0:=nG (by rw [e1];decide)
  rw [nG hi,e0] at hF
  rw [e1,e2,e3]
  clear h e1 e2 e0 e3
  have hB:=zh hA
  clear hA
  go_in
  go_wp2_with (go_at_call 152;refine hF.r λk=>?_)
  go_ret2
  exact ⟨rfl,(hB.out.keep (mR.drewN k)).cores hok⟩
end
def core0:cW:=⟨fF,fF,0,0,0,0⟩
def sO:cW:=⟨tQ,fF,0,0,0,0⟩
def MU (n:Nat):CT:=⟨n,λ_=>sO⟩
theorem JG:(tp.info? 152).map (λi=>(i.zero,i.size))=sS (sS (.agg (bF core0).toArray),6):=by kernel_rfl
theorem GR:((tp.info? 152).map (λi=>decide (i.bytes <= 1000)))=sS tQ:=by kernel_rfl
theorem Md (n:Int) (hn:¬ (1 <= n /\ n <= 64)) (w:wW):Calls tp 64 #[vi iQ n] w (ay (.tuple #[vp nN,vi iQ 2]) w):=by
 by_cases h1:n<1
 ·clear hn
  go_in
  go_wp2
  go_ret2
  exact ay.of (rfl) dz
 ·have h2:64<n:=by omega
  clear hn
  go_in
  go_wp2
  go_ret2
  exact ay.of (rfl) dz
theorem Dt (n:Nat) (h2:n <= 64) (w:wW):(Instr.makeSlice 201 (vi iQ n) (vi iQ n)).run tp w=.ok (.slice (sS ⟨w.heap.size,0,nN⟩) n n) (w.alloc (.cells (db [] n (λ_=>bF core0) []) 152 (0,0))):=by
 obtain ⟨i,hi,hzz⟩:=Option.map_eq_some_iff.1 JG
 obtain ⟨i2,hi2,hb⟩:=Option.map_eq_some_iff.1 GR
 have:i2=i:=by rw [hi] at hi2;exact (Option.some.inj hi2).symm
 subst this
 simp only [Prod.mk.injEq] at hzz
 obtain ⟨hz,hs⟩:=hzz
 have hb2:=of_decide_eq_true hb
 have:=Go.run_make (P:=tp) w 201 152 i2 _ Tryz.underlying201 hi hz .i64 .i64 n n oM oM (by have:(i2.bytes:Int) * n <= 1000 * 64:=Int.mul_le_mul oM oM oM oM;omega) oM
 rw [this,Int.toNat_natCast,hs]
 show Result.ok _ (w.alloc (.cells (madeCells (bF core0).toArray (n * 6)) 152))=_
 rw [ou (bF core0) 6 rfl dE n]
section
variable {F:List Nat} {w u:wW} {b r:Nat} {t:CT}
theorem Ki:sO.ok:=⟨⟨by decide,by decide⟩,⟨by decide,by decide⟩,vE,vE⟩
def EM (n j:Nat):CT:=⟨n,λi=>if i<j then sO else core0⟩
theorem Kh (n:Nat) (h1:1 <= n) (h2:n <= 64) (w:wW):Calls tp 64 #[vi iQ n] w (dd (λd:Nat=>.tuple #[vp (sS ⟨d,0,nN⟩),vi iQ 0]) (λd=>eh d (MU n)) [] w):=by
 have hmk:=λw=>Dt n h2 w
 have hB:On [] w (cF (w.heap.size+1) w.heap.size (EM n 0)) ((w.alloc (.cells (db [] n (λ_=>bF core0) []) 152 (0,0))).alloc (.cells #[.slice (sS ⟨w.heap.size,0,nN⟩) n n] 203 (0,0))):=by
  have x1:=(On.start w).alloc (.cells (db [] n (λ_=>bF core0) []) 152 (0,0))
  have x2:=(x1.alloc (.cells #[.slice (sS ⟨w.heap.size,0,nN⟩) n n] 203 (0,0))).front
  simpa [cF,EM] using x2
 have hlen:(w.alloc (.cells (db [] n (λ_=>bF core0) []) 152 (0,0))).heap.size=w.heap.size+1:=cH _ _
 go_in
 go_wp2
 clear hlen hmk
 generalize hd:w.heap.size+1=d at *
 generalize hr:w.heap.size=r at *
 clear hd hr
 go_loopg [21] n (λgg i wr=>∃ (j:Nat),i=vi iQ j /\ j+gg=n /\ On [] w (cF d r (EM n j)) wr)
 case atStart=>exact ⟨0,rfl,by omega,hB⟩
 case round=>
  clear hB
  obtain ⟨j,rfl,hj,hB⟩:=hrel
  by_cases hlt:j<n
  ·have hltI:(j:Int)<n:=by omega
   have c0:wr.cell? ⟨d,0,nN⟩=sS (.slice (sS ⟨r,0,nN⟩) n n):=hB.cell 0 rfl 0
   have c1:wr.cell? ⟨r,j * 6,nN⟩=sS (vb fF):=by
    have:=hB.core (i:=j) (j:=0) hlt dE
    rw [show (EM n j).c j=core0 from nG oM] at this
    exact this
   have f1:wr.frozen? ⟨r,j * 6,nN⟩=fF:=hB.free 1 rfl _
   have hN:On [] w (cF d r (EM n (j+1))) (wr.setCell ⟨r,j * 6,nN⟩ (vb tQ)):=by
    have:=hB.coreSet (i:=j) (j:=0) hlt dE (vb tQ) (c':=sO) (by rw [show (EM n j).c j=core0 from nG oM];rfl)
    have e:(EM n j).put j sO=EM n (j+1):=by
     show CT.mk n _=CT.mk n _
     congr 1
     funext x
     show ar _ j sO x=_
     unfold ar
     by_cases ex:x=j
     ·rw [pG ex,pG oM]
     ·rw [nG ex]
      show (if x<j then sO else core0)=_
      by_cases el:x<j
      ·rw [pG el,pG oM]
      ·rw [nG el,nG oM]
    rw [e] at this
    exact this
   have HN:=zh hN
   clear hN
   go_wp2
   go_roundg (gk - 1)
   case measure=>omega
   case rel=>exact ⟨j+1,by go_num,by omega,HN.out.keep mR⟩
  ·have hltI:¬ (j:Int)<n:=by omega
   obtain rfl:j=n:=by omega
   go_wp2
   go_ret2
   refine ⟨d,rfl,?_⟩
   have:cF d r (EM j j)=cF d r (EM j j):=rfl
   have hk:db [] j (λi=>bF ((EM j j).c i)) []=db [] j (λi=>bF ((MU j).c i)) []:=by
    unfold db
    rw [mV (f:=λi=>bF ((EM j j).c i)) (g:=λi=>bF ((MU j).c i)) j (λi hi=>by
     show bF (if i<j then sO else core0)=_
     rw [pG hi];rfl)]
   have hB2:On [] w (cF d r (MU j)) wr:=by
    have h3:cF d r (EM j j)=cF d r (MU j):=by
     show [_,ao.blk r (.cells (db [] j (λi=>bF ((EM j j).c i)) []) _ _)]=_
     rw [hk];rfl
    rw [<- h3];exact hB
   exact (hB2.keep mz).cores ⟨h1,h2,λi=>Ki⟩
theorem eN (h:(eh b t).holds F w) (cpu:Int):Calls tp 84 #[vp (sS ⟨b,0,nN⟩),vi iQ cpu] w (aK (.tuple #[.agg (bF (if t.is cpu then t.at cpu else core0)).toArray,vi iQ (t.findE cpu)]) w):=by
 obtain ⟨r,hok,hA⟩:=gQ h
 by_cases hi:t.is cpu
 ·rw [pG hi]
  have hF:=λu (hu:On F w (cF b r t) u)=>gR hu cpu
  have e0:t.findE cpu=0:=pG hi
  simp only [pG hi,e0] at hF
  rw [e0]
  have hi2:=hi
  obtain ⟨h1,h2⟩:=hi2
  obtain ⟨c,rfl⟩:=iN h1
  simp only [CT.at,Int.toNat_natCast] at *
  clear e0 h
  have hlt:c<t.n:=by omega
  have hO:=zh hA
  have hC:=hA.keep ((af.refl [] w).alloc (.cells #[vb fF,vb fF,vi iQ 0,vi iQ 0,vi iQ 0,vi iQ 0] 152 (0,0)))
  have c0:(w.alloc (.cells #[vb fF,vb fF,vi iQ 0,vi iQ 0,vi iQ 0,vi iQ 0] 152 (0,0))).cell? ⟨r,c * 6,nN⟩=sS (vb (t.c c).power):=hC.core hlt (j:=0) dE
  have c1:(w.alloc (.cells #[vb fF,vb fF,vi iQ 0,vi iQ 0,vi iQ 0,vi iQ 0] 152 (0,0))).cell? ⟨r,c * 6+1,nN⟩=sS (vb (t.c c).idle):=hC.core hlt (j:=1) dE
  have c2:(w.alloc (.cells #[vb fF,vb fF,vi iQ 0,vi iQ 0,vi iQ 0,vi iQ 0] 152 (0,0))).cell? ⟨r,c * 6+2,nN⟩=sS (vi iQ (t.c c).way):=hC.core hlt (j:=2) dE
  have c3:(w.alloc (.cells #[vb fF,vb fF,vi iQ 0,vi iQ 0,vi iQ 0,vi iQ 0] 152 (0,0))).cell? ⟨r,c * 6+3,nN⟩=sS (vi iQ (t.c c).since):=hC.core hlt (j:=3) dE
  have c4:(w.alloc (.cells #[vb fF,vb fF,vi iQ 0,vi iQ 0,vi iQ 0,vi iQ 0] 152 (0,0))).cell? ⟨r,c * 6+4,nN⟩=sS (vi iQ (t.c c).steps):=hC.core hlt (j:=4) dE
  have c5:(w.alloc (.cells #[vb fF,vb fF,vi iQ 0,vi iQ 0,vi iQ 0,vi iQ 0] 152 (0,0))).cell? ⟨r,c * 6+5,nN⟩=sS (vi iQ (t.c c).busy):=hC.core hlt (j:=5) dE
  clear hC
  generalize t.c c=x at *
  obtain ⟨pw,il,wy,si,st,bu⟩:=x
  clear hA
  have hF2:=hF _ (hO.out.keep ((af.refl [] w).alloc (.cells #[vb fF,vb fF,vi iQ 0,vi iQ 0,vi iQ 0,vi iQ 0] 152 (0,0))))
  clear hF
  simp only [bF] at *
  go_in
  go_wp2_with (go_at_call 152;refine hF2.r λk=>?_)
  refine bodyPost_ret_by (v:=.tuple #[.agg #[vb pw,vb il,vi iQ wy,vi iQ si,vi iQ st,vi iQ bu],vi iQ 0]) ?_ rfl ?_
  ·rw [results_cell_tmp rfl];go_simp
  ·refine ⟨rfl,?_⟩
   exact ms
 ·rw [nG hi]
  have hF:=λu (hu:On F w (cF b r t) u)=>gR hu cpu
  have e0:t.findE cpu=3:=nG hi
  simp only [nG hi,e0] at hF
  rw [e0]
  clear e0 h hi
  have hF2:=hF _ (hA.keep ((af.refl [] w).alloc (.cells #[vb fF,vb fF,vi iQ 0,vi iQ 0,vi iQ 0,vi iQ 0] 152 (0,0))))
  clear hF
  go_in
  go_wp2_with (go_at_call 152;refine hF2.r λk=>?_)
  refine bodyPost_ret_by (v:=.tuple #[.agg #[vb fF,vb fF,vi iQ 0,vi iQ 0,vi iQ 0,vi iQ 0],vi iQ 3]) ?_ rfl ?_
  ·rw [results_cell_tmp rfl];go_simp
  ·refine ⟨rfl,?_⟩
   exact ms
end
def oJ (m:Nat) (l:List Int):Nat:=l.foldl aP m
theorem zR:∀ (l:List Int) {m:Nat},m<2 ^ 64 -> oJ m l<2 ^ 64
 | [],_,h=>h
 | x :: l,_,h=>zR l (dT h x)
theorem Ck (m:Nat) {l:List Int} {j:Nat} (h:j<l.length):oJ m (l.take (j+1))=aP (oJ m (l.take j)) (ax l j):=by
 unfold oJ
 rw [List.take_succ_eq_append_getElem h,List.foldl_append]
 simp [ax,List.getD,h]
theorem xR (m:Nat) (hm:m<2 ^ 64) (l:List Int) (a:Option Addr) (cap:Nat) (w:wW) (hs:Ic w a l) (hlen:l.length<1000000):Calls tp 17 #[vi uQ m,.slice a l.length cap] w (ay (vi uQ (oJ m l:Nat)) w):=by
 obtain ⟨n,hn⟩:∃ n,l.length=n:=⟨_,rfl⟩
 rw [hn] at hlen ⊢
 replace hn:=zh hn
 go_in
 go_wp2
 go_loopg [0,9] n (λgg v i wr=>∃ j:Nat,v=vi uQ (oJ m (l.take j):Nat) /\ i=vi iQ j /\ j+gg=n /\ aG w wr)
 case atStart=>exact ⟨0,rfl,rfl,by omega,aG.refl _⟩
 case round=>
  obtain ⟨j,rfl,rfl,hj,hD⟩:=hrel
  by_cases hlt:j<n
  ·have hltI:(j:Int)<n:=by omega
   have hjl:j<l.length:=by rw [hn.out];exact hlt
   obtain ⟨g,rfl,hc⟩:=hs.resolve_left (λh=>by rw [h] at hjl;simp at hjl)
   have c0:wr.cell? ⟨g,j,nN⟩=sS (vi iQ (ax l j)):=by rw [<- hc j hjl];obtain ⟨k,rfl⟩:=hD;rfl
   have hO:=λw=>qX (ax l j) w
   have hB:=zh (bits_or_u64_nat (oJ m (l.take j)) (gh (ax l j)) (zR _ hm) (tF _))
   have hS:=zh (Ck m hjl)
   have hDD:=zh hD
   clear hD hc hs hjl
   unfold aP at hS
   generalize oJ m (l.take j)=x at *
   generalize gh (ax l j)=o at *
   generalize ax l j=y at *
   go_wp2_with (go_at_call 81;refine (hO _).r λk=>?_)
   go_roundg (gk - 1)
   case measure=>omega
   case rel=>exact ⟨j+1,by rw [hS.out,<- hB.out],by go_num,by omega,hDD.out.drewN _⟩
  ·have hltI:¬ (j:Int)<n:=by omega
   have e:l.take j=l:=List.take_of_length_le (by rw [hn.out];omega)
   rw [e]
   clear hs
   go_wp2
   go_ret
   exact ⟨rfl,hD⟩
def ST.beginE' (s:ST) (m:Nat):Int:=if s.on then 7 else if m=0 then 2 else 0
def ST.begin' (s:ST) (m:Nat):ST:=if s.beginE' m=0 then ⟨m,0⟩ else s
section
variable {F:List Nat} {w:wW} {b:Nat} {s:ST}
theorem On.stop {u:wW} (h:On F w [ao.blk b (mY s)] u) (hok:s.ok):dN (fu b s) F w u:=h.gain1.imp λF' h'=>⟨hok,h'⟩
theorem CD (h:(fu b s).holds F w) (m:Nat) (hm:m<2 ^ 64):Calls tp 334 #[vp (sS ⟨b,0,nN⟩),vi uQ (m:Nat)] w (aq (fu b (s.begin' m)) F (vi iQ (s.beginE' m)) w):=by
 have hO:=kX h
 obtain ⟨hok,c0,c1,hA⟩:=gn h
 have f0:w.frozen? ⟨b,0,nN⟩=fF:=hA.free 0 rfl 0
 have f1:w.frozen? ⟨b,1,nN⟩=fF:=hA.free 0 rfl 1
 have HA:=zh hA
 clear hA
 cases ho:s.on
 ·rw [ho] at hO
  by_cases h0:m=0
  ·have e1:s.beginE' m=2:=by unfold ST.beginE';rw [ho,h0];rfl
   rw [show s.begin' m=s from nG (by rw [e1];decide),e1]
   subst h0
   clear e1 ho h
   go_in
   go_wp2_with (go_at_call 333;refine hO.r λk=>?_)
   go_ret
   exact ⟨rfl,(HA.out.keep (mR.drewN _)).stop hok⟩
  ·have e1:s.beginE' m=0:=by unfold ST.beginE';rw [ho,nG dE,nG h0]
   rw [show s.begin' m=⟨m,0⟩ from pG e1,e1]
   have hne:((m:Int)==0)=fF:=by simp;omega
   clear e1 ho h
   go_in
   go_wp2_with (go_at_call 333;refine hO.r λk=>?_)
   go_ret
   refine ⟨rfl,On.stop ?_ ⟨hm,by show (0:Nat)<2 ^ 64;decide⟩⟩
   have x:=((HA.out.keep (u':=w.drewN k) (mR.drewN _)).set 0 rfl 0 (vi uQ (m:Nat))).set 0 rfl 1 (vi uQ 0)
   simpa [mY] using x
 ·rw [ho] at hO
  have e1:s.beginE' m=7:=by unfold ST.beginE';rw [ho];rfl
  rw [show s.begin' m=s from nG (by rw [e1];decide),e1]
  clear e1 ho h
  go_in
  go_wp2_with (go_at_call 333;refine hO.r λk=>?_)
  go_ret
  exact ⟨rfl,(HA.out.keep (mR.drewN _)).stop hok⟩
theorem Fq (h:(fu b s).holds F w):Calls tp 336 #[vp (sS ⟨b,0,nN⟩)] w (aq (fu b s.free) F (vi iQ s.freeE) w):=by
 have hO:=kX h
 obtain ⟨hok,c0,c1,hA⟩:=gn h
 have f0:w.frozen? ⟨b,0,nN⟩=fF:=hA.free 0 rfl 0
 have f1:w.frozen? ⟨b,1,nN⟩=fF:=hA.free 0 rfl 1
 have HA:=zh hA
 clear hA
 unfold ST.free ST.freeE
 unfold ST.on at hO
 by_cases hw:s.who=0
 ·rw [pG hw,pG hw]
  have e:decide (s.who≠0)=fF:=by simp [hw]
  rw [e] at hO
  clear h hw e
  go_in
  go_wp2_with (go_at_call 333;refine hO.r λk=>?_)
  go_ret
  exact ⟨rfl,(HA.out.keep (mR.drewN _)).stop hok⟩
 ·rw [nG hw,nG hw]
  have e:decide (s.who≠0)=tQ:=by simp [hw]
  rw [e] at hO
  clear h hw e
  go_in
  go_wp2_with (go_at_call 333;refine hO.r λk=>?_)
  go_ret
  refine ⟨rfl,On.stop ?_ ⟨by decide,by decide⟩⟩
  have x:=((HA.out.keep (u':=w.drewN k) (mR.drewN _)).set 0 rfl 0 (vi uQ 0)).set 0 rfl 1 (vi uQ 0)
  simpa [mY] using x
theorem Iz (h:(fu b s).holds F w) (c:Int):Calls tp 101 #[vp (sS ⟨b,0,nN⟩),vi iQ c] w (aq (fu b (s.ack c)) F (vi iQ (s.ackE c)) w):=by
 have hM:=xj h c
 have hO:=kX h
 obtain ⟨hok,c0,c1,hA⟩:=gn h
 have f0:w.frozen? ⟨b,0,nN⟩=fF:=hA.free 0 rfl 0
 have f1:w.frozen? ⟨b,1,nN⟩=fF:=hA.free 0 rfl 1
 have HA:=zh hA
 clear hA
 clear hO
 unfold ST.ack ST.ackE
 cases hm:s.must c
 ·rw [hm] at hM
  simp only [Bool.false_eq_true,if_false]
  clear h hm
  go_in
  go_wp2_with (go_at_call 165;refine hM.s λw' m=>?_)
  go_ret
  exact ⟨rfl,(HA.out.keep m).stop hok⟩
 ·rw [hm] at hM
  simp only [if_true]
  have hW:=λu g (hg:u.cell? ⟨g,0,nN⟩=sS (vi iQ c))=>xR s.held hok.2 [c] (sS ⟨g,0,nN⟩) 1 u (.inr ⟨g,rfl,λj hj=>by
   simp at hj;subst hj;exact hg⟩) sM
  have hv:oJ s.held [c]=aP s.held c:=rfl
  rw [hv] at hW
  have hlt:=dT hok.2 c
  generalize aP s.held c=x at *
  clear h hm hv
  go_in
  go_wp2_with (first
   | (
    go_at_call 165
    refine hM.s λw1 m=>?_
    have q1:=m.at c1 sM
    have hB:=HA.out.keep m
    have g1:w1.frozen? ⟨b,1,nN⟩=fF:=hB.free 0 rfl 1
    have HB:=zh hB
    have hbl:=kD q1
    dsimp only at hbl
    clear hB hM m
    )
   | (
    go_at_call 17
    refine (hW _ _ (ad (ai _ _) 0)).r λk=>?_
    ))
  go_ret
  refine ⟨rfl,On.stop ?_ ⟨hok.1,hlt⟩⟩
  have y:=(HB.out.keep (u':=(w1.alloc (Obj.cells #[Value.int IntKind.i64 c] 3 (0,0))).drewN k) ((mR.alloc _).drewN _)).set 0 rfl 1 (vi uQ (x:Nat))
  simpa [mY] using y
end
def lf (b:Nat) (l:List Int):ao where
 holds F w:=∃ r,F=[b,r] /\ bM 147 w b r l
 keep:=by
  rintro F S w w' ⟨r,rfl,h⟩ m hS
  exact ⟨r,rfl,h.keep m (hS _ sM) (hS _ sM)⟩
 lt:=by
  rintro F w ⟨r,rfl,h⟩ x hx
  simp at hx
  rcases hx with rfl|rfl
  ·exact cq h.hb
  ·exact cq h.hr
def jM (g:Nat) (s:SG):ao where
 holds F w:=∃ b r,F=[g,b,r] /\ di w g b r s
 keep:=by
  rintro F S w w' ⟨b,r,rfl,h⟩ m hS
  exact ⟨b,r,rfl,h.keep m (hS _ sM) (hS _ sM) (hS _ sM)⟩
 lt:=by
  rintro F w ⟨b,r,rfl,h⟩ x hx
  simp at hx
  rcases hx with rfl|rfl|rfl
  ·exact cq h.hg
  ·exact cq h.sp.hb
  ·exact cq h.sp.hr
def ey (d:Nat) (s:SH):ao where
 holds F w:=∃ q pm,F=d :: (qF q++pF pm) /\ cG w d q pm s
 keep:=by
  rintro F S w w' ⟨q,pm,rfl,h⟩ m hS
  exact ⟨q,pm,rfl,h.keep m hS⟩
 lt:=by
  rintro F w ⟨q,pm,rfl,h⟩ x hx
  exact h.lt x hx
section
variable {F:List Nat} {w:wW} {b:Nat} {l:List Int} {s:SG} {t:SH}
theorem CJ (h:(lf b l).holds F w) (c n:Int) (hn:bD n):Calls tp 226 #[vp (sS ⟨b,0,nN⟩),vi iQ c,vi iQ n] w (aq (lf b (jd l c n)) F (vi iQ (iC l c n)) w):=by
 obtain ⟨r,rfl,h⟩:=h
 refine (mZ b r l c n hn w h).mono ?_
 rintro e w' ⟨rfl,m,x⟩
 exact ⟨rfl,[b,r],⟨r,rfl,x⟩,m.mono sM,λk hk=>.inl hk⟩
theorem Ar (h:(lf b l).holds F w) (f t:Int):Calls tp 302 #[vp (sS ⟨b,0,nN⟩),vi iQ f,vi iQ t] w (aq (lf b (fN l f t)) F (vi iQ (gx l f t)) w):=by
 obtain ⟨r,rfl,h⟩:=h
 refine (CK b r l f t w h).mono ?_
 rintro e w' ⟨rfl,m,x⟩
 exact ⟨rfl,[b,r],⟨r,rfl,x⟩,m.mono sM,λk hk=>.inl hk⟩
theorem CI (n:Nat) (h1:1 <= n) (h2:n <= 64) (w:wW):Calls tp 60 #[vi iQ n] w (dd (λd:Nat=>.tuple #[vp (sS ⟨d,0,nN⟩),vi iQ 0]) (λd=>lf d (List.replicate n 0)) [] w):=by
 refine (oN n w h1 h2).mono ?_
 rintro e w' ⟨rfl,m,hs,x⟩
 exact ⟨w.heap.size+1,rfl,[w.heap.size+1,w.heap.size],⟨w.heap.size,rfl,x⟩,m,λk hk=>.inr (by simp at hk;omega)⟩
theorem Ha (n:Nat) (h1:1 <= n) (h2:n <= 64) (w:wW):Calls tp 62 #[vi iQ n] w (dd (λd:Nat=>.tuple #[vp (sS ⟨d,0,nN⟩),vi iQ 0]) (λd=>jM d ⟨List.replicate n 0,0⟩) [] w):=by
 refine (BP n w h1 h2).mono ?_
 rintro e w' ⟨g,b,r,rfl,m,⟨q1,q2,q3⟩,x⟩
 exact ⟨g,rfl,[g,b,r],⟨b,r,rfl,x⟩,m,λk hk=>.inr (by simp at hk;omega)⟩
theorem vL (h:(jM b s).holds F w) :Calls tp 143 #[vp (sS ⟨b,0,nN⟩)] w (aq (jM b (s.want)) F (vi iQ (s.wantE)) w):=by
 obtain ⟨b2,r,rfl,h⟩:=h
 refine (Hb b b2 r s _ h).mono ?_
 rintro e w' ⟨rfl,m,x⟩
 exact ⟨rfl,[b,b2,r],⟨b2,r,rfl,x⟩,m.mono sM,λk hk=>.inl hk⟩
theorem gL (h:(jM b s).holds F w) :Calls tp 177 #[vp (sS ⟨b,0,nN⟩)] w (aq (jM b (s.free)) F (vi iQ (s.freeE)) w):=by
 obtain ⟨b2,r,rfl,h⟩:=h
 refine (Hd b b2 r s _ h).mono ?_
 rintro e w' ⟨rfl,m,x⟩
 exact ⟨rfl,[b,b2,r],⟨b2,r,rfl,x⟩,m.mono sM,λk hk=>.inl hk⟩
theorem DK (h:(jM b s).holds F w) :Calls tp 249 #[vp (sS ⟨b,0,nN⟩)] w (aq (jM b (s.take)) F (vi iQ (s.takeE)) w):=by
 obtain ⟨b2,r,rfl,h⟩:=h
 refine (Hc b b2 r s _ h).mono ?_
 rintro e w' ⟨rfl,m,x⟩
 exact ⟨rfl,[b,b2,r],⟨b2,r,rfl,x⟩,m.mono sM,λk hk=>.inl hk⟩
theorem BO (h:(jM b s).holds F w) (c:Int):Calls tp 140 #[vp (sS ⟨b,0,nN⟩),vi iQ c] w (aq (jM b (s.enter c)) F (vi iQ (s.enterE c)) w):=by
 obtain ⟨b2,r,rfl,h⟩:=h
 refine (DM b b2 r s c _ h).mono ?_
 rintro e w' ⟨rfl,m,x⟩
 exact ⟨rfl,[b,b2,r],⟨b2,r,rfl,x⟩,m.mono sM,λk hk=>.inl hk⟩
theorem BN (h:(jM b s).holds F w) (c:Int):Calls tp 148 #[vp (sS ⟨b,0,nN⟩),vi iQ c] w (aq (jM b (s.leave c)) F (vi iQ (s.leaveE c)) w):=by
 obtain ⟨b2,r,rfl,h⟩:=h
 refine (DL b b2 r s c _ h).mono ?_
 rintro e w' ⟨rfl,m,x⟩
 exact ⟨rfl,[b,b2,r],⟨b2,r,rfl,x⟩,m.mono sM,λk hk=>.inl hk⟩
theorem oG.turns {q:Option (Nat × Nat)} {pm:Option Nat} {v:Value} {s':SH} {e:Ending} {w':wW} (h:oG b q pm v s' w e w'):aq (ey b s') (b :: (qF q++pF pm)) v w e w':=by
 obtain ⟨q',pm',rfl,m,x,hk⟩:=h
 refine ⟨rfl,_,⟨q',pm',rfl,x⟩,m,λk h=>?_⟩
 rcases List.mem_cons.1 h with rfl|h
 ·exact .inl List.mem_cons_self
 ·rcases hk k h with h|h
  ·exact .inl (List.mem_cons_of_mem _ h)
  ·exact .inr h
theorem DR (h:(ey b t).holds F w) (k:Int):Calls tp 232 #[vp (sS ⟨b,0,nN⟩),vi iQ k] w (aq (ey b (t.doPlan k)) F (vi iQ (planE k)) w):=by
 obtain ⟨q,pm,rfl,h⟩:=h
 exact (JL b q pm t k w h).mono (λe w' h=>h.turns)
theorem sN (h:(ey b t).holds F w) (up:Bool) (cpu by_:Int):Calls tp 144 #[vp (sS ⟨b,0,nN⟩),vb up,vi iQ cpu,vi iQ by_] w (aq (ey b (t.begin_ up cpu by_)) F (vi iQ (t.beginE cpu by_)) w):=by
 obtain ⟨q,pm,rfl,h⟩:=h
 exact (GU b q pm t up cpu by_ w h).mono (λe w' h=>h.turns)
theorem vU (h:(ey b t).holds F w):Calls tp 174 #[vp (sS ⟨b,0,nN⟩)] w (aq (ey b t.done) F (vi iQ t.mayE) w):=by
 obtain ⟨q,pm,rfl,h⟩:=h
 exact (JN b q pm t w h).mono (λe w' h=>h.turns)
theorem iY (h:(ey b t).holds F w):Calls tp 176 #[vp (sS ⟨b,0,nN⟩)] w (aq (ey b t.end_) F (.tuple #[vi iQ t.endV,vi iQ t.endE]) w):=by
 obtain ⟨q,pm,rfl,h⟩:=h
 exact (LF b q pm t w h).mono (λe w' h=>h.turns)
theorem oC (h:(ey b t).holds F w):Calls tp 172 #[vp (sS ⟨b,0,nN⟩)] w (aq (ey b t.next) F (fx t) w):=by
 obtain ⟨q,pm,rfl,h⟩:=h
 exact (JM b q pm t w h).mono (λe w' h=>h.turns)
theorem cE (h:(ey b t).holds F w):Calls tp 19 #[vp (sS ⟨b,0,nN⟩)] w (ay (vb t.run.isSome) w):=by
 obtain ⟨q,pm,rfl,h⟩:=h
 exact mU b q pm t w h
theorem cZ (h:(ey b t).holds F w):Calls tp 175 #[vp (sS ⟨b,0,nN⟩)] w (ay (vb t.over) w):=by
 obtain ⟨q,pm,rfl,h⟩:=h
 exact vG b q pm t w h
theorem qq (h:(ey b t).holds F w):Calls tp 247 #[vp (sS ⟨b,0,nN⟩)] w (ay (vb t.up) w):=by
 obtain ⟨q,pm,rfl,h⟩:=h
 exact MD b q pm t w h
theorem rT (h:(ey b t).holds F w):Calls tp 171 #[vp (sS ⟨b,0,nN⟩)] w (ay (vi iQ t.cpu) w):=by
 obtain ⟨q,pm,rfl,h⟩:=h
 exact LG b q pm t w h
theorem Kf (h:(ey b t).holds F w):Calls tp 167 #[vp (sS ⟨b,0,nN⟩)] w (ay (vi iQ t.by_) w):=by
 obtain ⟨q,pm,rfl,h⟩:=h
 exact ME b q pm t w h
end
def sh0:SH:=⟨nN,fF,0,0,fF,[]⟩
end Go.Proofs.YtaakgpnmfkmdoaaGreatDoor