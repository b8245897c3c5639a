/- Walks and plain laws of the kernel. No condition. -/
import Derived.Test.YtmiapbgkphpgoaaGreatDoorKDM
import Derived.Test.YtmiapbgkphpgoaaGreatDoorTimerM
import Derived.Test.YtmiapbgkphpgoaaGreatDoorKEM
import Derived.Shelf.Lays
import Derived.Shelf.Small.Bits
import Derived.Test.YtmiapbgkphpgoaaGreatDoorProg
import Derived.Deep.AppendSrc
import Derived.Test.YtmiapbgkphpgoaaGreatDoorKAM
import Derived.Test.YtmiapbgkphpgoaaGreatDoorBaseM
import Derived.OrdersHeld
import Derived.Deep.RegionHeld
namespace Go.Proofs.YtmiapbgkphpgoaaGreatDoor
set_option linter.unusedVariables false
set_option linter.unusedSimpArgs false
set_option maxRecDepth 100000
set_option maxHeartbeats 20000000
open Go.RowKit
open Go.Proofs.Tryz renaming prog → tp
open List renaming setIfInBounds_toArray → sA, set_cons_zero → sB, set_cons_succ → sC
open Go renaming World → wW
open Go.Value renaming pointer → vp, bool → vb, int → vi
open Go.IntKind renaming i64 → iQ, u64 → uQ
open Option renaming none → nN, some → sS
open Bool renaming true → tQ, false → fF
open Int renaming eq_ofNat_of_zero_le → iN
def mY (r:Nat):Nat -> Nat
 | 0=>0
 | n+1=>256 * mY r n+r
theorem pE (r n:Nat):mY r (n+1)=256 * mY r n+r:=rfl
theorem pf (a d M m:Nat) (hd:d<256) (hm:m<256):(256 * a+d) &&& (256 * M+m)=256 * (a &&& M)+(d &&& m):=by
 have hlt:d &&& m<256:=Nat.lt_of_le_of_lt Nat.and_le_left hd
 apply Nat.eq_of_testBit_eq
 intro i
 rw [Nat.testBit_and,show 256=2 ^ 8 from rfl,Nat.testBit_two_pow_mul_add _ hd,Nat.testBit_two_pow_mul_add _ hm,Nat.testBit_two_pow_mul_add _ hlt]
 split<;>simp
def DV (n x:Nat):Nat:=(x / 2 &&& mY 85 n)+(x &&& mY 85 n)
def Il (n x:Nat):Nat:=(x / 4 &&& mY 51 n)+(x &&& mY 51 n)
def Kf (n x:Nat):Nat:=(x / 16+x) &&& mY 15 n
def Kg (d:Nat):Nat:=(d / 2 &&& 85)+(d &&& 85)
def KJ (d:Nat):Nat:=(d / 4 &&& 51)+(d &&& 51)
def pD3 (d:Nat):Nat:=d / 16+d % 16
def Bj (d:Nat):Nat:=pD3 (KJ (Kg d))
theorem low1:∀ e:Fin 2,∀ d:Fin 256,(128 * e.val+d.val / 2) &&& 85=(d.val / 2) &&& 85:=by decide +kernel
theorem low2:∀ e:Fin 4,∀ d:Fin 256,(64 * e.val+d.val / 4) &&& 51=(d.val / 4) &&& 51:=by decide +kernel
theorem low3:∀ s:Fin 256,s.val &&& 15=s.val % 16:=by decide +kernel
theorem Fb:∀ d:Fin 256,Kg d.val<256 /\ KJ (Kg d.val)<256 /\ KJ (Kg d.val) % 16 <= 4 /\ KJ (Kg d.val) / 16 <= 4 /\ Bj d.val <= 8 /\ Bj d.val=((List.range 8).filter λi=>d.val.testBit i).length:=by decide +kernel
theorem rI (n a d:Nat) (hd:d<256):DV (n+1) (256 * a+d)=256 * DV n a+Kg d:=by
 unfold DV Kg
 rw [pE]
 rw [show (256 * a+d) / 2=256 * (a / 2)+(128 * (a % 2)+d / 2) by omega,pf _ _ _ _ oM oM,pf _ _ _ _ hd oM]
 have:=low1 ⟨a % 2,by omega⟩ ⟨d,hd⟩
 simp only at this
 rw [this];omega
theorem xy (n a d:Nat) (hd:d<256):Il (n+1) (256 * a+d)=256 * Il n a+KJ d:=by
 unfold Il KJ
 rw [pE]
 rw [show (256 * a+d) / 4=256 * (a / 4)+(64 * (a % 4)+d / 4) by omega,pf _ _ _ _ oM oM,pf _ _ _ _ hd oM]
 have:=low2 ⟨a % 4,by omega⟩ ⟨d,hd⟩
 simp only at this
 rw [this];omega
theorem IK (n a d:Nat) (ha:a % 16 <= 4) (h1:d % 16 <= 4) (h2:d / 16 <= 4):Kf (n+1) (256 * a+d)=256 * Kf n a+pD3 d:=by
 unfold Kf pD3
 rw [pE]
 have hlt:16 * (a % 16)+d / 16+d<256:=by omega
 rw [show (256 * a+d) / 16+(256 * a+d)=256 * (a / 16+a)+(16 * (a % 16)+d / 16+d) by omega,pf _ _ _ _ hlt oM]
 have:=low3 ⟨16 * (a % 16)+d / 16+d,hlt⟩
 simp only at this
 rw [this];omega
/-- Of n bytes: each one's count at its place. -/
def pT (n x:Nat):Nat:=Kf n (Il n (DV n x))
theorem IL:∀ n x:Nat,Il n (DV n x) % 16 <= 4
 | 0,x=>by simp [DV,Il,mY]
 | n+1,x=>by
  have hd:x % 256<256:=Nat.mod_lt _ oM
  have h:=Fb ⟨x % 256,hd⟩
  simp only at h
  rw [show x=256 * (x / 256)+x % 256 by omega,rI _ _ _ hd,xy _ _ _ h.1]
  omega
theorem Gj (n a d:Nat) (hd:d<256):pT (n+1) (256 * a+d)=256 * pT n a+Bj d:=by
 have h:=Fb ⟨d,hd⟩
 simp only at h
 unfold pT Bj
 rw [rI _ _ _ hd,xy _ _ _ h.1,IK _ _ _ (IL n a) h.2.2.1 h.2.2.2.1]
def xX (n x:Nat):Nat:=((List.range (8 * n)).filter λi=>x.testBit i).length
theorem Hw (n a d:Nat) (hd:d<256):xX (n+1) (256 * a+d)=xX n a+Bj d:=by
 have h:=Fb ⟨d,hd⟩
 simp only at h
 unfold xX
 rw [h.2.2.2.2.2,show 8 * (n+1)=8+8 * n by omega,List.range_add,List.filter_append,List.length_append,List.filter_map,List.length_map,Nat.add_comm]
 congr 1
 ·congr 1
  apply List.filter_congr
  intro i _
  simp only [Function.comp]
  rw [show 256=2 ^ 8 from rfl,Nat.testBit_two_pow_mul_add _ hd,nG oM,Nat.add_sub_cancel_left]
 ·congr 1
  apply List.filter_congr
  intro i hi
  rw [show 256=2 ^ 8 from rfl,Nat.testBit_two_pow_mul_add _ hd,pG (List.mem_range.1 hi)]
def Bi (t:Nat):Nat:=
 let a:=t+t / 256
 let b:=a+a / 65536
 (b+b / 4294967296) % 128
def II (x:Nat):Nat:=Bi (pT 8 x)
theorem Li (x:Nat):xX 0 x=0:=rfl
theorem pT0 (x:Nat):pT 0 x=0:=by simp [pT,Kf,mY]
theorem Cw (d:Nat) (hd:d<256):Bj d <= 8:=(Fb ⟨d,hd⟩).2.2.2.2.1
theorem KA (x:Nat) (hx:x<2 ^ 64):∃ d0 d1 d2 d3 d4 d5 d6 d7:Nat,d0 <= 8 /\ d1 <= 8 /\ d2 <= 8 /\ d3 <= 8 /\ d4 <= 8 /\ d5 <= 8 /\ d6 <= 8 /\ d7 <= 8 /\ pT 8 x=256 * (256 * (256 * (256 * (256 * (256 * (256 * d7+d6)+d5)+d4)+d3)+d2)+d1)+d0 /\ xX 8 x=d7+d6+d5+d4+d3+d2+d1+d0:=by
 have step:∀ n y:Nat,∃ a d:Nat,d <= 8 /\ a=y / 256 /\ pT (n+1) y=256 * pT n a+d /\ xX (n+1) y=xX n a+d:=by
  intro n y
  have hd:y % 256<256:=Nat.mod_lt _ oM
  refine ⟨y / 256,Bj (y % 256),Cw _ hd,rfl,?_,?_⟩
  ·conv=>lhs;rw [show y=256 * (y / 256)+y % 256 by omega]
   exact Gj _ _ _ hd
  ·conv=>lhs;rw [show y=256 * (y / 256)+y % 256 by omega]
   exact Hw _ _ _ hd
 obtain ⟨a0,d0,l0,e0,t0,c0⟩:=step 7 x
 obtain ⟨a1,d1,l1,e1,t1,c1⟩:=step 6 a0
 obtain ⟨a2,d2,l2,e2,t2,c2⟩:=step 5 a1
 obtain ⟨a3,d3,l3,e3,t3,c3⟩:=step 4 a2
 obtain ⟨a4,d4,l4,e4,t4,c4⟩:=step 3 a3
 obtain ⟨a5,d5,l5,e5,t5,c5⟩:=step 2 a4
 obtain ⟨a6,d6,l6,e6,t6,c6⟩:=step 1 a5
 obtain ⟨a7,d7,l7,e7,t7,c7⟩:=step 0 a6
 rw [pT0] at t7
 rw [Li] at c7
 refine ⟨d0,d1,d2,d3,d4,d5,d6,d7,l0,l1,l2,l3,l4,l5,l6,l7,?_,?_⟩
 ·rw [t0,t1,t2,t3,t4,t5,t6,t7];omega
 ·rw [c0,c1,c2,c3,c4,c5,c6,c7];omega
theorem IG (d0 d1 d2 d3 d4 d5 d6 d7 t t1 a a1 b b1:Nat) (l0:d0 <= 8) (l1:d1 <= 8) (l2:d2 <= 8) (l3:d3 <= 8) (l4:d4 <= 8) (l5:d5 <= 8) (l6:d6 <= 8) (l7:d7 <= 8)
  (ht:t=256 * (256 * (256 * (256 * (256 * (256 * (256 * d7+d6)+d5)+d4)+d3)+d2)+d1)+d0) (h1:t1=t / 256) (h2:a=t+t1) (h3:a1=a / 65536) (h4:b=a+a1) (h5:b1=b / 4294967296):(b+b1) % 128=d7+d6+d5+d4+d3+d2+d1+d0:=by
 have e1:t1=256 * (256 * (256 * (256 * (256 * (256 * d7+d6)+d5)+d4)+d3)+d2)+d1:=by omega
 have e2:a=256 * (256 * (256 * (256 * (256 * (256 * (256 * d7+(d7+d6))+(d6+d5))+(d5+d4))+(d4+d3))+(d3+d2))+(d2+d1))+(d1+d0):=by omega
 clear h2 h1 ht e1
 have e3:a1=256 * (256 * (256 * (256 * (256 * d7+(d7+d6))+(d6+d5))+(d5+d4))+(d4+d3))+(d3+d2):=by omega
 have e4:b=256 * (256 * (256 * (256 * (256 * (256 * (256 * d7+(d7+d6))+(d7+d6+d5))+(d7+d6+d5+d4))+(d6+d5+d4+d3))+(d5+d4+d3+d2))+(d4+d3+d2+d1))+(d3+d2+d1+d0):=by omega
 clear h3 h4 e2 e3
 have e5:b1=256 * (256 * (256 * d7+(d7+d6))+(d7+d6+d5))+(d7+d6+d5+d4):=by omega
 omega
theorem IH (x:Nat) (hx:x<2 ^ 64):II x=(cw x).length:=by
 obtain ⟨d0,d1,d2,d3,d4,d5,d6,d7,l0,l1,l2,l3,l4,l5,l6,l7,ht,hc⟩:=KA x hx
 have e:(cw x).length=xX 8 x:=by unfold cw xX;rw [List.length_map]
 rw [e,hc]
 exact IG d0 d1 d2 d3 d4 d5 d6 d7 (pT 8 x) _ _ _ _ _ l0 l1 l2 l3 l4 l5 l6 l7 ht rfl rfl rfl rfl rfl
theorem Bs:∀ n x:Nat,DV n x+1 <= 256 ^ n
 | 0,x=>by simp [DV,mY]
 | n+1,x=>by
  have hd:x % 256<256:=Nat.mod_lt _ oM
  have h:=Fb ⟨x % 256,hd⟩
  have ih:=Bs n (x / 256)
  simp only at h
  rw [show x=256 * (x / 256)+x % 256 by omega,rI _ _ _ hd,Nat.pow_succ]
  omega
theorem Br:∀ n x:Nat,255 * Il n (DV n x)+68 <= 68 * 256 ^ n
 | 0,x=>by simp [DV,Il,mY]
 | n+1,x=>by
  have hd:x % 256<256:=Nat.mod_lt _ oM
  have h:=Fb ⟨x % 256,hd⟩
  have ih:=Br n (x / 256)
  simp only at h
  rw [show x=256 * (x / 256)+x % 256 by omega,rI _ _ _ hd,xy _ _ _ h.1,Nat.pow_succ]
  omega
theorem JO:∀ n x:Nat,255 * pT n x+8 <= 8 * 256 ^ n
 | 0,x=>by simp [pT0]
 | n+1,x=>by
  have hd:x % 256<256:=Nat.mod_lt _ oM
  have h:=Cw _ hd
  have ih:=JO n (x / 256)
  rw [show x=256 * (x / 256)+x % 256 by omega,Gj _ _ _ hd,Nat.pow_succ]
  omega
def kA:Nat:=6148914691236517205
def kB:Nat:=3689348814741910323
def kC:Nat:=1085102592571150095
theorem Km:mY 85 8=kA /\ mY 51 8=kB /\ mY 15 8=kC:=by decide +kernel
theorem kLt:kA<18446744073709551616 /\ kB<18446744073709551616 /\ kC<18446744073709551616:=by decide +kernel
def j1 (x:Int):Int:=IntKind.u64.wrap (bits .and .u64 (x / 2) 6148914691236517205+bits .and .u64 x 6148914691236517205)
def j2 (x:Int):Int:=IntKind.u64.wrap (bits .and .u64 (x / 4) 3689348814741910323+bits .and .u64 x 3689348814741910323)
def j3 (x:Int):Int:=bits .and .u64 (IntKind.u64.wrap (x / 16+x)) 1085102592571150095
def j4 (x:Int):Int:=IntKind.u64.wrap (x+x / 256)
def j5 (x:Int):Int:=IntKind.u64.wrap (x+x / 65536)
def j6 (x:Int):Int:=IntKind.u64.wrap (x+x / 4294967296)
def j7 (x:Int):Int:=bits .and .i64 (wrap64 x) 127
theorem vw (n:Nat) (h:n<18446744073709551616):IntKind.u64.wrap (n:Int)=n:=by rw [IntKind.wrap_u64];omega
theorem Lk (x:Nat) (h:x<18446744073709551616):bits .and .u64 (x:Int) 6148914691236517205=((x &&& kA:Nat):Int):=bits_and_u64_nat x kA h kLt.1
theorem Lj (x:Nat) (h:x<18446744073709551616):bits .and .u64 (x:Int) 3689348814741910323=((x &&& kB:Nat):Int):=bits_and_u64_nat x kB h kLt.2.1
theorem andC (x:Nat) (h:x<18446744073709551616):bits .and .u64 (x:Int) 1085102592571150095=((x &&& kC:Nat):Int):=bits_and_u64_nat x kC h kLt.2.2
theorem Lg (x:Nat) (h:x<18446744073709551616):j1 x=(DV 8 x:Nat):=by
 have hl:=Bs 8 x
 unfold j1
 rw [show ((x:Int) / 2)=((x / 2:Nat):Int) from rfl,Lk _ oM,Lk _ h]
 unfold DV at hl ⊢
 rw [Km.1] at hl ⊢
 rw [<- Int.natCast_add]
 exact vw _ oM
theorem Lf (y x:Nat) (h:x=DV 8 y):j2 x=(Il 8 x:Nat):=by
 have hl:=Br 8 y
 have hl1:=Bs 8 y
 rw [<- h] at hl hl1
 unfold j2
 rw [show ((x:Int) / 4)=((x / 4:Nat):Int) from rfl,Lj _ oM,Lj _ oM]
 unfold Il at hl ⊢
 rw [Km.2.1] at hl ⊢
 rw [<- Int.natCast_add]
 exact vw _ oM
theorem Le (x:Nat) (h:255 * x+68 <= 68 * 256 ^ 8):j3 x=(Kf 8 x:Nat):=by
 unfold j3
 rw [show ((x:Int) / 16)=((x / 16:Nat):Int) from rfl,<- Int.natCast_add,vw _ oM,andC _ oM]
 unfold Kf
 rw [Km.2.2]
theorem j456 (t:Nat) (h:255 * t+8 <= 8 * 256 ^ 8):∃ v:Nat,j6 (j5 (j4 t))=v /\ v<9223372036854775808 /\ v % 128=Bi t:=by
 have e4:j4 t=((t+t / 256:Nat):Int):=by
  unfold j4
  rw [show ((t:Int) / 256)=((t / 256:Nat):Int) from rfl,<- Int.natCast_add,vw _ oM]
 unfold Bi
 simp only []
 generalize ha:t+t / 256=a at *
 have hal:65025 * a+2056 <= 2056 * 256 ^ 8:=by omega
 have e5:j5 (a:Int)=((a+a / 65536:Nat):Int):=by
  unfold j5
  rw [show ((a:Int) / 65536)=((a / 65536:Nat):Int) from rfl,<- Int.natCast_add,vw _ oM]
 generalize hb:a+a / 65536=b at *
 have hbl:b<600000000000000000:=by omega
 have e6:j6 (b:Int)=((b+b / 4294967296:Nat):Int):=by
  unfold j6
  rw [show ((b:Int) / 4294967296)=((b / 4294967296:Nat):Int) from rfl,<- Int.natCast_add,vw _ oM]
 rw [e4,e5,e6]
 exact ⟨_,rfl,by omega,rfl⟩
theorem Ld (v:Nat) (h:v<9223372036854775808):j7 v=((v % 128:Nat):Int):=by
 unfold j7
 have hw:wrap64 (v:Int)=v:=by unfold wrap64;omega
 rw [hw]
 have h1:(BitVec.ofInt 64 (v:Int)).toNat=v:=by
  rw [BitVec.ofInt_natCast,BitVec.toNat_ofNat];exact Nat.mod_eq_of_lt oM
 have h2:(BitVec.ofInt 64 (127:Int)).toNat=127:=by decide
 show IntKind.i64.wrap ((BitVec.ofInt 64 (v:Int) &&& BitVec.ofInt 64 127).toNat:Int)=_
 rw [BitVec.toNat_and,h1,h2,show (127:Nat)=2 ^ 7 - 1 from rfl,Nat.and_two_pow_sub_one_eq_mod,IntKind.wrap_i64]
 omega
theorem Lc (x:Nat) (h:x<2 ^ 64):j7 (j6 (j5 (j4 (j3 (j2 (j1 x))))))=(II x:Nat):=by
 rw [Lg x oM,Lf x _ rfl,Le _ (Br 8 x)]
 obtain ⟨v,e,hv,hm⟩:=j456 (pT 8 x) (JO 8 x)
 show j7 (j6 (j5 (j4 ((pT 8 x:Nat):Int))))=_
 rw [e,Ld v hv,hm]
 rfl
theorem Gl (x:Nat) (hx:x<2 ^ 64) (w:wW):Calls tp 241 #[vi uQ x] w (au (vi iQ (II x)) w):=by
 have H:=zh (Lc x hx)
 go_in
 go_wp2
 go_ret
 refine ⟨?_,by repeat (first|exact aA.refl _|apply aA.drewN|apply aA.drew)⟩
 rw [<- H.out]
 rfl
theorem wu (m:Nat) (hm:m<2 ^ 64) (w:wW):Calls tp 151 #[vi uQ m] w (au (vi iQ (cw m).length) w):=by
 rw [<- IH m hm]
 have h:=λw=>Gl m hm w
 generalize II m=n at *
 go_in
 go_wp2_with (go_at_call 241;refine (h _).r λk=>?_)
 go_ret
 exact au.of (rfl) dz
theorem DO (pg:Nat -> Nat) {i:Nat} (hi:i<12):(kN pg)[i]?=sS (.int .u8 (pg i:Nat)):=
 gN (k:=1) (j:=0) (λ_=>rfl) hi oM sM
theorem Bn (pg:Nat -> Nat):(kN pg)[12]?=sS (vi iQ 12):=lW (k:=1) (j:=0) (λ_=>rfl) sM
theorem DN (pg:Nat -> Nat) {i:Nat} (hi:i<12) (x:Nat):(kN pg).setIfInBounds i (.int .u8 (x:Nat))=kN (aq pg i x):=by
 have:=gM (pre:=[]) (post:=[vi iQ 12]) (f:=λi=>[Value.int .u8 (pg i:Nat)]) (k:=1) (n:=12) (i:=i) (j:=0) (λ_=>rfl) hi oM (.int .u8 (x:Nat)) (o:=i) sM
 unfold kN
 rw [this]
 congr 1
 funext j
 by_cases e:j=i
 ·subst e;rw [ah,ah];rfl
 ·rw [ao _ _ e,ao _ _ e]
/-- The first page that is so; -1: there is none. -/
def dn (f:Nat -> Bool) (pg:Nat -> Nat):Int:=match (List.range 12).find? λi=>f (pg i) with|some i=>(i:Nat)|none=>-1
def eS (x:Nat):Bool:=decide (x≠0)&&decide (x≠255)
def fz (x:Nat):Bool:=decide (x=0)
theorem zj {f:Nat -> Bool} {pg:Nat -> Nat} {j:Nat} (hj:j<12) (hlo:∀ i,i<j -> f (pg i)=fF) (h:f (pg j)=tQ):dn f pg=j:=by
 unfold dn
 have:(List.range 12).find? (λi=>f (pg i))=sS j:=by
  rw [List.find?_eq_some_iff_getElem]
  exact ⟨h,j,by simpa using hj,by simp,λi hi=>by simp [hlo i hi]⟩
 rw [this]
theorem zi {f:Nat -> Bool} {pg:Nat -> Nat} (h:∀ i,i<12 -> f (pg i)=fF):dn f pg=-1:=by
 unfold dn
 have:(List.range 12).find? (λi=>f (pg i))=none:=by
  rw [List.find?_eq_none]
  intro x hx
  simp [h x (List.mem_range.1 hx)]
 rw [this]
theorem vP {pg:Nat -> Nat}:uV pg=if 0 <= dn eS pg then sS (dn eS pg).toNat else if 0 <= dn fz pg then sS (dn fz pg).toNat else none:=by
 have e1:(List.range 12).find? (λi=>decide (pg i≠0)&&decide (pg i≠255))=(List.range 12).find? (λi=>eS (pg i)):=rfl
 have e2:(List.range 12).find? (λi=>decide (pg i=0))=(List.range 12).find? (λi=>fz (pg i)):=rfl
 unfold uV dn
 rw [e1,e2]
 cases (List.range 12).find? (λi=>eS (pg i)) with
 | some i=>simp
 | none=>
  cases (List.range 12).find? (λi=>fz (pg i)) with
  | some i=>simp
  | none=>simp
theorem nR (f:Nat -> Bool) (pg:Nat -> Nat):-1 <= dn f pg /\ dn f pg<12 /\ (0 <= dn f pg -> f (pg (dn f pg).toNat)=tQ):=by
 unfold dn
 cases h:(List.range 12).find? (λi=>f (pg i)) with
 | some i=>
  have h1:=List.mem_range.1 (List.mem_of_find?_eq_some h)
  have h2:=List.find?_some h
  simp only []
  refine ⟨by omega,by omega,λ_=>?_⟩
  simpa using h2
 | none=>exact ⟨by simp,by simp,by simp⟩
theorem rH {pg:Nat -> Nat} (hpg:∀ i,pg i<256) {i:Nat} (h:uV pg=sS i):i<12 /\ pg i≠255:=by
 rw [vP] at h
 have h1:=nR eS pg
 have h2:=nR fz pg
 split at h
 ·rename_i h0
  cases h
  refine ⟨by omega,?_⟩
  have:=h1.2.2 h0
  generalize pg (dn eS pg).toNat=x at *
  unfold eS at this
  simp at this
  exact this.2
 ·split at h
  ·rename_i h0
   cases h
   refine ⟨by omega,?_⟩
   have:=h2.2.2 h0
   generalize pg (dn fz pg).toNat=x at *
   unfold fz at this
   simp at this
   omega
  ·cases h
theorem yy:∀ x:Fin 256,Lib.trailingZeros8 (255 - x.val)=fx x.val /\ (x.val≠255 -> fx x.val<8 /\ x.val ||| 2 ^ fx x.val<256):=by decide +kernel
theorem nS {x:Nat} (h:x<256) (h2:x≠255):fx x<8 /\ x ||| 2 ^ fx x<256:=(yy ⟨x,h⟩).2 h2
theorem JU {x:Nat} (h:x<256):Lib.trailingZeros8 (255 - x)=fx x:=(yy ⟨x,h⟩).1
theorem KX:∀ k:Fin 8,∀ x:Fin 256,(x.val &&& 2 ^ k.val=0↔x.val.testBit k.val=fF) /\ x.val ^^^ (x.val &&& 2 ^ k.val)<256 /\ (x.val.testBit k.val=tQ -> x.val ^^^ (x.val &&& 2 ^ k.val)=x.val ^^^ 2 ^ k.val):=by decide +kernel
end Go.Proofs.YtmiapbgkphpgoaaGreatDoor
namespace Go.Proofs
open Go.Shelf
def YtmiapbgkphpgoaaGreatDoor.tz8L_ren:Go.Shelf.Ren:=⟨fun|136=>331|n=>n,fun|5=>5|3=>3|9=>9|n=>n,fun|n=>n⟩
theorem YtmiapbgkphpgoaaGreatDoor.tz8L:Go.Proofs.Lays.n136 Tryz.prog YtmiapbgkphpgoaaGreatDoor.tz8L_ren:={
 mixed:=by kernel_rfl
 f136:=Tryz.func331.trans (congrArg some (by kernel_rfl))
 t3:=Tryz.underlying3
 a3:=Tryz.isAgg3
 z3:=Tryz.sizeOf3
 v3:=Tryz.zeroValue3
 t5:=Tryz.underlying5
 a5:=Tryz.isAgg5
 z5:=Tryz.sizeOf5
 v5:=Tryz.zeroValue5
 t9:=Tryz.underlying9
 a9:=Tryz.isAgg9
 z9:=Tryz.sizeOf9
 v9:=Tryz.zeroValue9 }
end Go.Proofs
namespace Go.Proofs.YtmiapbgkphpgoaaGreatDoor
set_option linter.unusedVariables false
set_option linter.unusedSimpArgs false
set_option maxRecDepth 100000
set_option maxHeartbeats 20000000
open Go.RowKit
open Go.Proofs.Tryz renaming prog → tp
open List renaming setIfInBounds_toArray → sA, set_cons_zero → sB, set_cons_succ → sC
open Go renaming World → wW
open Go.Value renaming pointer → vp, bool → vb, int → vi
open Go.IntKind renaming i64 → iQ, u64 → uQ
open Option renaming none → nN, some → sS
open Bool renaming true → tQ, false → fF
open Int renaming eq_ofNat_of_zero_le → iN
section
variable {w u:wW} {p:Nat} {pg:Nat -> Nat}
def cY (w:wW) (p:Nat) (pg:Nat -> Nat):Prop:=w.heap[p]?=sS (.cells (kN pg) 284 (0,0))
theorem cY.cell (h:cY w p pg) {i:Nat} (hi:i<12):w.cell? ⟨p,i,nN⟩=sS (.int .u8 (pg i:Nat)):=by rw [ab h i];exact DO pg hi
theorem cY.many (h:cY w p pg):w.cell? ⟨p,12,nN⟩=sS (vi iQ 12):=by rw [ab h 12];exact Bn pg
theorem cY.keep {S:List Nat} (h:cY w p pg) (m:af S w u) (hS:p∉S):cY u p pg:=m.keep h hS
theorem Bl (x:Nat) (w:wW):Calls tp 329 #[.int .u8 (x:Nat)] w (au (vb (eS x)) w):=by
 have hv:eS x=(!((x:Int)==0)&&!((x:Int)==255)):=by
  unfold eS
  rw [Bool.eq_iff_iff];simp;omega
 rw [hv]
 cases h0:((x:Int)==0)
 ·have h1:((x:Int) != 0)=tQ:=by simp [bne,h0]
  go_in
  go_wp2
  go_ret
  refine ⟨?_,by repeat (first|exact aA.refl _|apply aA.drewN|apply aA.drew)⟩
  first|rfl|simp [bne]
 ·have h1:((x:Int) != 0)=fF:=by simp [bne,h0]
  go_in
  go_wp2
  go_ret
  refine ⟨?_,by repeat (first|exact aA.refl _|apply aA.drewN|apply aA.drew)⟩
  first|rfl|simp [bne]
theorem Bk (x:Nat) (w:wW):Calls tp 330 #[.int .u8 (x:Nat)] w (au (vb (fz x)) w):=by
 have hv:fz x=((x:Int)==0):=by
  unfold fz
  rw [Bool.eq_iff_iff];simp
 rw [hv]
 go_in
 go_wp2
 go_ret
 exact au.of (rfl) dz
theorem mZ (h:cY w p pg):Calls tp 328 #[vp (sS ⟨p,0,nN⟩),.func (.func 329) #[] #[]] w (au (vi iQ (dn eS pg)) w):=by
 have c12:=h.many
 go_in
 go_wp2
 go_loopg [10] 12 (λgg i wr=>∃ (j:Nat),i=vi iQ j /\ j+gg=12 /\ aA w wr /\ ∀ i,i<j -> eS (pg i)=fF)
 case atStart=>exact ⟨0,rfl,by omega,aA.refl _,λi hi=>by omega⟩
 case round=>
  obtain ⟨j,rfl,hj,hD,hlo⟩:=hrel
  by_cases hlt:j<12
  ·have hltI:(j:Int)<12:=by omega
   have cj:=(h.keep (hD.mod (S:=[])) sM).cell hlt
   have hR:=λw=>Bl (pg j) w
   have hlo':=zh hlo
   clear hlo c12
   cases hr:eS (pg j)
   ·rw [hr] at hR
    have hr':=zh hr
    clear hr
    generalize hxx:pg j=x at *
    have HX:=zh hxx
    clear h hxx
    go_wp2_with (go_at_call 329;refine (hR _).r λk=>?_)
    go_roundg (gk - 1)
    case measure=>omega
    case rel=>
     refine ⟨j+1,by go_num,by omega,hD.drewN _,λi hi=>?_⟩
     by_cases e:i=j
     ·subst e;rw [HX.out];exact hr'.out
     ·exact hlo'.out i oM
   ·rw [hr] at hR
    have hf:=zh (zj (f:=eS) hlt hlo'.out hr)
    clear hr
    generalize pg j=x at *
    clear h
    go_wp2_with (go_at_call 329;refine (hR _).r λk=>?_)
    go_ret
    rw [hf.out]
    exact ⟨rfl,hD.drewN _⟩
  ·have hltI:¬ (j:Int)<12:=by omega
   have hf:=zh (zi (f:=eS) (pg:=pg) (λi hi=>hlo i oM))
   clear hlo h c12
   go_wp2
   go_ret
   rw [hf.out]
   exact ⟨rfl,hD⟩
theorem sU (h:cY w p pg):Calls tp 328 #[vp (sS ⟨p,0,nN⟩),.func (.func 330) #[] #[]] w (au (vi iQ (dn fz pg)) w):=by
 have c12:=h.many
 go_in
 go_wp2
 go_loopg [10] 12 (λgg i wr=>∃ (j:Nat),i=vi iQ j /\ j+gg=12 /\ aA w wr /\ ∀ i,i<j -> fz (pg i)=fF)
 case atStart=>exact ⟨0,rfl,by omega,aA.refl _,λi hi=>by omega⟩
 case round=>
  obtain ⟨j,rfl,hj,hD,hlo⟩:=hrel
  by_cases hlt:j<12
  ·have hltI:(j:Int)<12:=by omega
   have cj:=(h.keep (hD.mod (S:=[])) sM).cell hlt
   have hR:=λw=>Bk (pg j) w
   have hlo':=zh hlo
   clear hlo c12
   cases hr:fz (pg j)
   ·rw [hr] at hR
    have hr':=zh hr
    clear hr
    generalize hxx:pg j=x at *
    have HX:=zh hxx
    clear h hxx
    go_wp2_with (go_at_call 330;refine (hR _).r λk=>?_)
    go_roundg (gk - 1)
    case measure=>omega
    case rel=>
     refine ⟨j+1,by go_num,by omega,hD.drewN _,λi hi=>?_⟩
     by_cases e:i=j
     ·subst e;rw [HX.out];exact hr'.out
     ·exact hlo'.out i oM
   ·rw [hr] at hR
    have hf:=zh (zj (f:=fz) hlt hlo'.out hr)
    clear hr
    generalize pg j=x at *
    clear h
    go_wp2_with (go_at_call 330;refine (hR _).r λk=>?_)
    go_ret
    rw [hf.out]
    exact ⟨rfl,hD.drewN _⟩
  ·have hltI:¬ (j:Int)<12:=by omega
   have hf:=zh (zi (f:=fz) (pg:=pg) (λi hi=>hlo i oM))
   clear hlo h c12
   go_wp2
   go_ret
   rw [hf.out]
   exact ⟨rfl,hD⟩
end
theorem Kh:∀ x:Fin 256,∀ k:Fin 8,bits .or .u8 (x.val:Int) (((2:Int) ^ k.val % 256))=((x.val ||| 2 ^ k.val:Nat):Int) /\ bits .and .u8 (x.val:Int) (((2:Int) ^ k.val % 256))=((x.val &&& 2 ^ k.val:Nat):Int) /\ bits .andNot .u8 (x.val:Int) (((2:Int) ^ k.val % 256))=((x.val ^^^ (x.val &&& 2 ^ k.val):Nat):Int) /\ ((2:Int) ^ k.val % 256)=((2 ^ k.val:Nat):Int):=by decide +kernel
theorem Cz:∀ x:Fin 256,bits .xor .u8 IntKind.u8.max (x.val:Int)=((255 - x.val:Nat):Int):=by decide +kernel
theorem rS {x k:Nat} (hx:x<256) (hk:k<8):bits .or .u8 (x:Int) (((2:Int) ^ k % 256))=((x ||| 2 ^ k:Nat):Int) /\ bits .and .u8 (x:Int) (((2:Int) ^ k % 256))=((x &&& 2 ^ k:Nat):Int) /\ bits .andNot .u8 (x:Int) (((2:Int) ^ k % 256))=((x ^^^ (x &&& 2 ^ k):Nat):Int) /\ ((2:Int) ^ k % 256)=((2 ^ k:Nat):Int):=Kh ⟨x,hx⟩ ⟨k,hk⟩
section
variable {F:List Nat} {w u:wW} {p:Nat} {pg:Nat -> Nat}
def eU (p:Nat) (pg:Nat -> Nat):ak:=ak.blk p (.cells (kN pg) 284 (0,0))
theorem eU.turn (h:(eU p pg).holds F w) (d:aA w u) {i:Nat} (hi:i<12) (x:Nat):dt (eU p (aq pg i x)) F w (u.setCell ⟨p,i,nN⟩ (.int .u8 (x:Nat))):=by
 obtain ⟨rfl,h2⟩:=h
 refine ⟨[p],⟨rfl,?_⟩,(d.mod (S:=[p])).setCell sM _,λb hb=>.inl hb⟩
 rw [ba (c:=kN pg) (by rw [d.heap];exact h2),DN pg hi]
theorem eU.same (h:(eU p pg).holds F w) (d:aA w u):dt (eU p pg) F w u:=⟨F,(eU p pg).keep h (d.mod (S:=[])) sM,d.mod,λb hb=>.inl hb⟩
theorem Cx (x:Nat) (hx:x<256) (w:wW):Calls tp 331 #[.int .u8 ((255 - x:Nat):Int)] w (au (vi iQ (fx x)) w):=by
 refine Calls.mono (show Calls tp 331 _ _ _ from Any.bits_TrailingZeros8 tz8L ((255 - x:Nat):Int) w oM oM) ?_
 rintro e w' ⟨rfl,rfl⟩
 rw [Int.toNat_natCast,JU hx]
 exact ⟨rfl,aA.refl _⟩
def lZ (p:Nat) (pg:Nat -> Nat) (i:Nat) (F:List Nat) (w:wW) (e:Ending) (w':wW):Prop:=al (eU p (aq pg i (pg i ||| 2 ^ fx (pg i)))) F (.tuple #[vi iQ (i * 8+fx (pg i)+1:Nat),vi iQ 0]) w e w'
theorem ze (h:(eU p pg).holds F w) (hpg:∀ i,pg i<256) (i:Nat) (hi:i<12) (h255:pg i≠255) (h1:dn eS pg=i):Calls tp 289 #[vp (sS ⟨p,0,nN⟩)] w (lZ p pg i F w):=by
 have hf1:=mZ (show cY w p pg from h.2)
 rw [h1] at hf1
 clear h1
 have hx:pg i<256:=hpg i
 obtain ⟨hb8,_⟩:=nS hx h255
 have hnot:=Cz ⟨pg i,hx⟩
 simp only at hnot
 have htz:=λw=>Cx (pg i) hx w
 rw [<- hnot] at htz
 have hor:=(rS hx hb8).1
 have hP:cY w p pg:=h.2
 have ci:=λk=>(hP.keep (u:=w.drewN k) (S:=[]) (mR.drewN k) sM).cell hi
 have hfin:=zh (λu d=>eU.turn (u:=u) h d hi (pg i ||| 2 ^ fx (pg i)))
 have hF:=λk=>(show (w.drewN k).frozen? ⟨p,i,nN⟩=fF from ax hP i)
 have hlt:=λk=>(show p<(w.drewN k).heap.size from bY hP)
 have hiI:(i:Int)<12:=by omega
 have hv:((i:Int) * 8+(fx (pg i):Nat)+1)=((i * 8+fx (pg i)+1:Nat):Int):=by omega
 have HV:=zh hv
 have HO:=zh hor
 clear hnot hor hv
 unfold lZ
 generalize fx (pg i)=z at *
 generalize hxx:pg i=x at *
 clear hxx hP
 go_in
 go_wp2_with (first|(go_at_call 328;refine hf1.r λk1=>?_;have ci:=ci k1;have hF:=hF k1;have hlt:=hlt k1)|fail|(go_at_call 331;refine (htz _).r λk3=>?_))
 go_region
 go_wp2
 go_ret2
 rw [HO.out]
 refine ⟨by rw [HV.out];rfl,?_⟩
 exact hfin.out _ dz
theorem zd (h:(eU p pg).holds F w) (hpg:∀ i,pg i<256) (i:Nat) (hi:i<12) (h255:pg i≠255) (h1:dn eS pg=-1) (h2:dn fz pg=i):Calls tp 289 #[vp (sS ⟨p,0,nN⟩)] w (lZ p pg i F w):=by
 have hf1:=mZ (show cY w p pg from h.2)
 have hf2:=λk=>sU ((show cY w p pg from h.2).keep (u:=w.drewN k) (S:=[]) (mR.drewN k) sM)
 rw [h1] at hf1
 rw [h2] at hf2
 clear h1 h2
 have hx:pg i<256:=hpg i
 obtain ⟨hb8,_⟩:=nS hx h255
 have hnot:=Cz ⟨pg i,hx⟩
 simp only at hnot
 have htz:=λw=>Cx (pg i) hx w
 rw [<- hnot] at htz
 have hor:=(rS hx hb8).1
 have hP:cY w p pg:=h.2
 have ci:=λk=>(hP.keep (u:=w.drewN k) (S:=[]) (mR.drewN k) sM).cell hi
 have hfin:=zh (λu d=>eU.turn (u:=u) h d hi (pg i ||| 2 ^ fx (pg i)))
 have hF:=λk=>(show (w.drewN k).frozen? ⟨p,i,nN⟩=fF from ax hP i)
 have hlt:=λk=>(show p<(w.drewN k).heap.size from bY hP)
 have hiI:(i:Int)<12:=by omega
 have hv:((i:Int) * 8+(fx (pg i):Nat)+1)=((i * 8+fx (pg i)+1:Nat):Int):=by omega
 have HV:=zh hv
 have HO:=zh hor
 clear hnot hor hv
 unfold lZ
 generalize fx (pg i)=z at *
 generalize hxx:pg i=x at *
 clear hxx hP
 go_in
 go_wp2_with (first|(go_at_call 328;refine hf1.r λk1=>?_;have hf2:=hf2 k1;clear hf1)|(go_at_call 328;refine hf2.r λk2=>?_;have ci:=ci (k1+k2);have hF:=hF (k1+k2);have hlt:=hlt (k1+k2);clear hf2)|(go_at_call 331;refine (htz _).r λk3=>?_))
 go_region
 go_wp2
 go_ret2
 rw [HO.out]
 refine ⟨by rw [HV.out];rfl,?_⟩
 exact hfin.out _ dz
theorem DL (h:(eU p pg).holds F w) (hpg:∀ i,pg i<256):Calls tp 289 #[vp (sS ⟨p,0,nN⟩)] w (al (eU p (gQ pg)) F (.tuple #[vi iQ (eh pg),vi iQ (cG pg)]) w):=by
 have l1:=nR eS pg
 have l2:=nR fz pg
 have hat:=vP (pg:=pg)
 have got:∀ i,uV pg=sS i -> lZ p pg i F w=al (eU p (gQ pg)) F (.tuple #[vi iQ (eh pg),vi iQ (cG pg)]) w:=by
  intro i hi
  unfold gQ eh cG lZ
  rw [hi]
  rfl
 by_cases h1:0 <= dn eS pg
 ·rw [pG h1] at hat
  obtain ⟨hi,h255⟩:=rH hpg hat
  rw [<- got _ hat]
  exact ze h hpg _ hi h255 oM
 rw [nG h1] at hat
 by_cases h2:0 <= dn fz pg
 ·rw [pG h2] at hat
  obtain ⟨hi,h255⟩:=rH hpg hat
  rw [<- got _ hat]
  exact zd h hpg _ hi h255 oM oM
 rw [nG h2] at hat
 have e1:gQ pg=pg:=by unfold gQ;rw [hat]
 have e2:eh pg=0:=by unfold eh;rw [hat]
 have e3:cG pg=5:=by unfold cG;rw [hat];rfl
 rw [e1,e2,e3]
 have hf1:=mZ (show cY w p pg from h.2)
 have hf2:=λk=>sU ((show cY w p pg from h.2).keep (u:=w.drewN k) (S:=[]) (mR.drewN k) sM)
 rw [show dn eS pg=-1 by omega] at hf1
 rw [show dn fz pg=-1 by omega] at hf2
 have H:=zh (λu (d:aA w u)=>eU.same h d)
 clear l1 l2 hat got h1 h2 e1 e2 e3
 go_in
 go_wp2_with (first|(go_at_call 328;refine hf1.r λk1=>?_;have hf2:=hf2 k1;clear hf1)|(go_at_call 328;refine hf2.r λk2=>?_;clear hf2))
 go_ret2
 exact ⟨rfl,H.out _ dz⟩
/-- An object's page, and its bit there. -/
def bT (id:Int):Nat:=if 1 <= id /\ id <= 96 then (id - 1).toNat / 8 else 0
def cU (id:Int):Nat:=if 1 <= id /\ id <= 96 then 2 ^ ((id - 1).toNat % 8) else 0
theorem zc (hP:cY w p pg) (id:Int):Calls tp 332 #[vp (sS ⟨p,0,nN⟩),vi iQ id] w (au (.tuple #[vi iQ (bT id:Nat),.int .u8 (cU id:Nat)]) w):=by
 have c12:=hP.many
 unfold bT cU
 by_cases h:1 <= id /\ id <= 96
 ·rw [pG h,pG h]
  obtain ⟨h1,h2⟩:=h
  obtain ⟨n,rfl⟩:∃ n:Nat,id=(n:Int)+1:=⟨(id - 1).toNat,by omega⟩
  have e1:((n:Int)+1 - 1).toNat=n:=by omega
  rw [e1]
  have hd:((n:Int)+1 - 1).tdiv 8=((n / 8:Nat):Int):=by rw [Int.tdiv_eq_ediv_of_nonneg oM];omega
  have hm:((n:Int)+1 - 1).tmod 8=((n % 8:Nat):Int):=by rw [Int.tmod_eq_emod_of_nonneg oM];omega
  have hw:=zh (rS (x:=0) (k:=n % 8) oM oM).2.2.2
  clear hP e1
  go_in
  go_wp2
  go_quiet (fail)
  go_wp2
  go_ret2
  refine ⟨?_,by repeat (first|exact aA.refl _|apply aA.drewN|apply aA.drew)⟩
  first|rfl|(rw [<- hw.out];rfl)
 ·rw [nG h,nG h]
  have h2:id<1 \/ (¬ id<1 /\ 96<id):=by omega
  clear h hP
  rcases h2 with h2|⟨h1,h2⟩
  all_goals
   go_in
   go_wp2
   go_ret2
   exact au.of (rfl) dz
theorem Bq (pg:Nat -> Nat) (hpg:∀ i,pg i<256) (id:Int):jc pg id=(decide (1 <= id /\ id <= 96)&&!decide (pg (bT id) &&& cU id=0)):=by
 unfold jc bT cU
 by_cases h:1 <= id /\ id <= 96
 ·rw [pG h,pG h]
  have:=(KX ⟨(id - 1).toNat % 8,by omega⟩ ⟨pg ((id - 1).toNat / 8),hpg _⟩).1
  simp only at this
  simp only [h,this]
  cases (pg ((id - 1).toNat / 8)).testBit ((id - 1).toNat % 8)<;>simp
 ·simp [h]
theorem vN (id:Int):bT id<12:=by unfold bT;split<;>omega
theorem vO (x:Nat) (hx:x<256) (id:Int) (h:1 <= id /\ id <= 96):cU id≠0 /\ cU id<256 /\ bits .and .u8 (x:Int) (cU id:Nat)=((x &&& cU id:Nat):Int) /\ bits .andNot .u8 (x:Int) (cU id:Nat)=((x ^^^ (x &&& cU id):Nat):Int):=by
 unfold cU
 rw [pG h]
 have hk:(id - 1).toNat % 8<8:=by omega
 generalize (id - 1).toNat % 8=k at *
 obtain ⟨_,h2,h3,h4⟩:=rS hx hk
 rw [h4] at h2 h3
 refine ⟨?_,?_,h2,h3⟩
 ·have:=Nat.two_pow_pos k;omega
 ·have:=Nat.pow_lt_pow_right (a:=2) oM hk;omega
theorem zf (hP:cY w p pg) (hpg:∀ i,pg i<256) (id:Int):Calls tp 290 #[vp (sS ⟨p,0,nN⟩),vi iQ id] w (au (vb (jc pg id)) w):=by
 rw [Bq pg hpg]
 have hB:=zc hP id
 have hl:=vN id
 have ci:=λk=>(hP.keep (u:=w.drewN k) (S:=[]) (mR.drewN k) sM).cell hl
 by_cases h:1 <= id /\ id <= 96
 ·obtain ⟨h0,_,h1,_⟩:=vO (pg (bT id)) (hpg _) id h
  rw [decide_eq_true h,Bool.true_and]
  have h0b:(((cU id:Nat):Int) != 0)=tQ:=by rw [bne_iff_ne];omega
  have hll:((bT id:Nat):Int)<12:=by omega
  have H:=zh h1
  clear h1 h0 h hP
  generalize pg (bT id)=x at *
  generalize cU id=m at *
  generalize bT id=q at *
  go_in
  go_wp2_with (go_at_call 332;refine hB.r λk=>?_;have ci:=ci k)
  go_ret
  refine ⟨?_,by repeat (first|exact aA.refl _|apply aA.drewN|apply aA.drew)⟩
  rw [H.out]
  rw [show (((x &&& m:Nat):Int) != 0)=!decide (x &&& m=0) by rw [Bool.eq_iff_iff];simp]
  rfl
 ·have hm0:cU id=0:=by unfold cU;rw [nG h]
  rw [decide_eq_false h,Bool.false_and]
  rw [hm0] at hB
  clear hm0 h hP
  generalize bT id=q at *
  go_in
  go_wp2_with (go_at_call 332;refine hB.r λk=>?_;have ci:=ci k)
  go_ret
  exact au.of (rfl) dz
theorem qH {pg:Nat -> Nat} (hpg:∀ i,pg i<256) {id:Int} (h:jc pg id=tQ):eu pg id=aq pg (bT id) (pg (bT id) ^^^ (pg (bT id) &&& cU id)) /\ 1 <= id /\ id <= 96 /\ pg (bT id) ^^^ (pg (bT id) &&& cU id)<256:=by
 unfold eu
 rw [pG h]
 unfold jc at h
 simp only [Bool.and_eq_true,decide_eq_true_eq] at h
 obtain ⟨h1,h2⟩:=h
 unfold bT cU
 rw [pG h1,pG h1]
 have:=KX ⟨(id - 1).toNat % 8,by omega⟩ ⟨pg ((id - 1).toNat / 8),hpg _⟩
 simp only at this
 refine ⟨by rw [this.2.2 h2],h1.1,h1.2,this.2.1⟩
theorem DM (h:(eU p pg).holds F w) (hpg:∀ i,pg i<256) (id:Int):Calls tp 293 #[vp (sS ⟨p,0,nN⟩),vi iQ id] w (al (eU p (eu pg id)) F (vi iQ (if jc pg id then 0 else 4)) w):=by
 have hP:cY w p pg:=h.2
 have hO:=zf hP hpg id
 cases ho:jc pg id
 ·rw [ho] at hO
  have e:eu pg id=pg:=by unfold eu;rw [ho];rfl
  rw [e]
  have H:=zh (λu (d:aA w u)=>eU.same h d)
  clear h hP ho e
  simp only [Bool.false_eq_true,if_false]
  go_in
  go_wp2_with (go_at_call 290;refine hO.r λk=>?_)
  go_ret
  exact ⟨rfl,H.out _ dz⟩
 ·obtain ⟨e,h1,h2,h3⟩:=qH hpg ho
  have hB:=λk=>zc (hP.keep (u:=w.drewN k) (S:=[]) (mR.drewN k) sM) id
  have hl:=vN id
  have ci:=λk=>(hP.keep (u:=w.drewN k) (S:=[]) (mR.drewN k) sM).cell hl
  have hF:=λk=>(show (w.drewN k).frozen? ⟨p,bT id,nN⟩=fF from ax hP _)
  have hlt:=λk=>(show p<(w.drewN k).heap.size from bY hP)
  rw [ho] at hO
  rw [e]
  obtain ⟨h0,_,_,h5⟩:=vO (pg (bT id)) (hpg _) id ⟨h1,h2⟩
  have hll:((bT id:Nat):Int)<12:=by omega
  have hfin:=zh (λu d=>eU.turn (u:=u) h d hl (pg (bT id) ^^^ (pg (bT id) &&& cU id)))
  have H:=zh h5
  clear h5 h0 h hP ho e h3 h1 h2
  simp only [if_true]
  generalize hxx:pg (bT id)=x at *
  generalize cU id=m at *
  generalize bT id=q at *
  clear hxx
  go_in
  go_wp2_with (first|(go_at_call 290;refine hO.r λk=>?_;have hB:=hB k)|(go_at_call 332;refine hB.r λk2=>?_;have ci:=ci (k+k2);have hF:=hF (k+k2);have hlt:=hlt (k+k2)))
  go_region
  go_wp2
  go_ret
  rw [H.out]
  exact ⟨rfl,hfin.out _ dz⟩
end
theorem iD {P:Program} {w w':wW} {ops:Array Oper} {o:Oper} {a:Act} {K:Act -> wW -> Prop} {Q:Exit -> Act -> wW -> Prop} {E:Prop} (hgd:o.guard=nN) (s x:Operand) (t:TypeId)
  (ho:o.op=.call { callee:=.builtin .append,args:=#[s,x],argTypes:=#[t,t] }) {v u r:Value} (hs:a.eval s=v) (hx:a.eval x=u)
  (hr:(Builtin.append_ #[t,t] o.type #[v,u]).run P w=.ok r w') (h:K (a.put o.dst r) w'):if Region.wanted o (yielded ops a.tmps)=tQ then Oper.wp P o a w K Q else E:=by
 have hw:Region.wanted o (yielded ops a.tmps)=tQ:=by simp [Region.wanted,hgd]
 rw [pG hw]
 unfold Oper.wp execOp
 simp only [ho,resolve,invoke,builtin,Sem.run_bind,Sem.run_pure,Result.andThen_ok,List.map_toArray,List.map_cons,List.map_nil,hs,hx,hr]
 exact h
theorem Ag {w:wW} {a:Option Addr} {l:List Int} (hc:l=[] \/ ∃ b,a=sS ⟨b,0,nN⟩ /\ ∀ j,j<l.length -> w.cell? ⟨b,j,nN⟩=sS (vi iQ (ar l j))) (hl:l.length<1000) {B:Nat} {k:Int} (hb:w.heap[B]?=sS (.cells #[vi iQ k] 3 (0,0))):
  ∃ cap' w',(∀ ty,(Builtin.append_ #[30,30] ty #[.slice a l.length l.length,.slice (sS ⟨B,0,nN⟩) 1 1]).run tp w=.ok (.slice (sS ⟨w.heap.size,0,nN⟩) (l.length+1) cap') w') /\ fG w' (sS w.heap.size) cap' (l++[k]) /\ af [] w w':=by
 obtain ⟨i,hi,hi2⟩:=Option.map_eq_some_iff.1 oN
 simp only [Prod.mk.injEq] at hi2
 obtain ⟨i1,i2,i3⟩:=hi2
 have hsrc:Src tp i.size 30 (.slice (sS ⟨B,0,nN⟩) 1 1) 1 [vi iQ k] w:=
  Src.ofSlice w Tryz.underlying30 ⟨B,0,nN⟩ 1 1 [vi iQ k] (by rw [i2];rfl) (World.news_of_block hb) (by simp [Value.oneCell'])
 have hold:(Builtin.firstCells i.size l.length (.slice a l.length l.length)).run tp w.drew=.ok (l.map (vi iQ)).toArray w.drew:=by
  cases a with
  | none=>
   have:l=[]:=by
    rcases hc with h|⟨b,h,_⟩
    ·exact h
    ·cases h
   subst this
   exact run_firstCells_none w.drew _ _ _ _
  | some a=>
   refine run_firstCells_some w.drew _ _ a _ _ _ (by rw [i2];simp) ?_
   intro j v hv
   have hj:j<l.length:=by
    have:=(List.getElem?_eq_some_iff.1 hv).1
    simpa using this
   rcases hc with h|⟨b,h,h2⟩
   ·subst h;simp at hj
   ·cases h
    have:=h2 j hj
    rw [List.getElem?_map,List.getElem?_eq_getElem hj] at hv
    simp only [Option.map_some,Option.some.injEq] at hv
    rw [<- hv]
    show w.cell? _=_
    have e:ar l j=l[j]:=by simp [ar,List.getD,hj]
    rw [e] at this
    by_cases hj0:j=0
    ·subst hj0;simpa [Addr.add] using this
    ·simpa [Addr.add,hj0] using this
 have hfit:Builtin.nextslicecap (l.length+1) l.length * i.bytes <= 281474976710656:=growslice_fits oM (by rw [i3];omega)
 have hrun:=λty=>run_append_grow_src (P:=tp) w 30 30 ty 3 i (vi iQ 0) Tryz.underlying30 hi i1 a l.length l.length (l.map (vi iQ)) hold _ 1 _ hsrc oM oM hfit
 have hge:=grownCap_ge w (l.length+1) l.length 3
 have hle:=grownCap_le_maxLen w (l.length+1) l.length 3 (by unfold maxLen;omega)
 refine ⟨_,_,λty=>hrun ty,?_,(mR.drew).alloc _⟩
 refine ⟨_,ai _ _,by simpa using hge,hle,?_,?_⟩
 ·simp [Builtin.zeroCells,Value.cells];omega
 ·have:(l++[k]).length=(l.map (vi iQ)++[vi iQ k]).length:=by simp
  rw [this,Array.toList_append,List.toList_toArray,List.take_left]
  simp
theorem kR.append {w:wW} {a:Option Addr} {cap:Nat} {l:List Int} {F:List Nat} (h:(kR a cap l).holds F w) (hl:l.length<1000) {B:Nat} {k:Int} (hb:w.heap[B]?=sS (.cells #[vi iQ k] 3 (0,0))):
  ∃ g' cap' w',(∀ ty,(Builtin.append_ #[30,30] ty #[.slice a l.length cap,.slice (sS ⟨B,0,nN⟩) 1 1]).run tp w=.ok (.slice (sS ⟨g',0,nN⟩) (l.length+1) cap') w') /\ dt (kR (sS ⟨g',0,nN⟩) cap' (l++[k])) F w w':=by
 rcases h with ⟨g,rfl,rfl,h3⟩|⟨rfl,h2⟩
 ·obtain ⟨g',cap',w',h1,h2,h4,h5⟩:=h3.append oM hb
  refine ⟨g',cap',w',h1,[g'],.inl ⟨sS g',rfl,rfl,h2⟩,h4,λx hx=>?_⟩
  rw [List.mem_singleton] at hx
  subst hx
  rcases h5 with h5|h5
  ·exact .inl h5
  ·exact .inr oM
 ·obtain ⟨cap',w',h1,h3,h4⟩:=Ag (a:=a) (l:=l) (by
   rcases h2 with ⟨h,_⟩|⟨b,h,_,_,h4⟩
   ·exact .inl h
   ·exact .inr ⟨b,h,h4⟩) hl hb
  exact ⟨_,cap',w',h1,[w.heap.size],.inl ⟨sS w.heap.size,rfl,rfl,h3⟩,h4.mono sM,λx hx=>.inr (by simp at hx;omega)⟩
theorem jI {n:Nat} {a:Nat -> Option Addr} {cap:Nat -> Nat} {q:Nat -> List Int} {c:Nat} (hc:c<n):(mH n a cap q)[c]?=sS (.slice (a c) (q c).length (cap c)):=
 gN (k:=1) (j:=0) (λ_=>rfl) hc oM sM
theorem EH {n:Nat} {a:Nat -> Option Addr} {cap:Nat -> Nat} {q:Nat -> List Int} {c:Nat} (hc:c<n) (a':Option Addr) (cap':Nat) (l:List Int):(mH n a cap q).setIfInBounds c (.slice a' l.length cap')=mH n (aq a c a') (aq cap c cap') (aq q c l):=by
 have:=gM (pre:=[]) (post:=[]) (f:=λc=>[Value.slice (a c) (q c).length (cap c)]) (k:=1) (n:=n) (i:=c) (j:=0) (λ_=>rfl) hc oM (.slice a' l.length cap') (o:=c) sM
 unfold mH
 rw [this]
 congr 1
 funext j
 by_cases e:j=c
 ·subst e;simp only [ah];rfl
 ·simp only [ao _ _ e]
section
variable {F:List Nat} {w u:wW} {b p g n:Nat} {pg:Nat -> Nat} {a:Nat -> Option Addr} {cap:Nat -> Nat} {q:Nat -> List Int} {t:cO} {c:Nat} {a':Option Addr} {cap':Nat} {l:List Int} {pg':Nat -> Nat}
theorem rE (hc:c<n):(bf b p g n pg a cap q)[c+3]?=sS (kR (a c) (cap c) (q c)):=by
 unfold bf
 rw [List.getElem?_append_right sM,show c+3 - _=c from by simp]
 exact eN hc
/-- The list that a core keeps is another one; the head tells so. -/
theorem On.stPut (h:On F w ((bf b p g n pg a cap q).set (c+3) (kR a' cap' l)) u) (hc:c<n):On F w (bf b p g n pg (aq a c a') (aq cap c cap') (aq q c l)) (u.setCell ⟨g,c,nN⟩ (.slice a' l.length cap')):=by
 have e:(bf b p g n pg a cap q).set (c+3) (kR a' cap' l)=[ak.blk b (.cells #[vp (sS ⟨p,0,nN⟩),vi iQ 12,.slice (sS ⟨g,0,nN⟩) n n] 205 (0,0)),ak.blk p (.cells (kN pg) 284 (0,0)),ak.blk g (.cells (mH n a cap q) 30 (0,0))]++aN n (aq (λc=>kR (a c) (cap c) (q c)) c (kR a' cap' l)):=by
  unfold bf
  rw [List.set_append_right _ _ sM,show c+3 - _=c from by simp,iZ]
 rw [e] at h
 have h2:=h.set 2 rfl c (.slice a' l.length cap')
 rw [EH hc] at h2
 have e2:aq (λc=>kR (a c) (cap c) (q c)) c (kR a' cap' l)=λi=>kR (aq a c a' i) (aq cap c cap' i) (aq q c l i):=by
  funext i
  by_cases e:i=c
  ·subst e;simp only [ah]
  ·simp only [ao _ _ e]
 rw [e2] at h2
 exact h2
theorem On.stHead (h:On F w (bf b p g n pg a cap q) u) (hc:c<n):u.cell? ⟨g,c,nN⟩=sS (.slice (a c) (q c).length (cap c)) /\ u.frozen? ⟨g,c,nN⟩=fF /\ g<u.heap.size:=
 ⟨by rw [h.cell 2 rfl c];exact jI hc,h.free 2 rfl c,h.size 2 rfl⟩
theorem Cr:(bf b p g n pg a cap q).length=3+n:=by simp [bf,aN];omega
/-- append of one number to what core c keeps. -/
theorem On.stAppend (h:On F w (bf b p g n pg a cap q) u) (hc:c<n) (hl:(q c).length<1000) (v:Int):
  ∃ g' cap' w3,(∀ ty,(Builtin.append_ #[30,30] ty #[.slice (a c) (q c).length (cap c),.slice (sS ⟨u.heap.size,0,nN⟩) 1 1]).run tp (u.alloc (.cells #[vi iQ v] 3 (0,0)))=.ok (.slice (sS ⟨g',0,nN⟩) ((q c).length+1) cap') w3) /\
   On F w ((bf b p g n pg a cap q).set (c+3) (kR (sS ⟨g',0,nN⟩) cap' (q c++[v]))) w3:=by
 have h1:=h.alloc (.cells #[vi iQ v] 3 (0,0))
 have hg:(bf b p g n pg a cap q++[ak.blk u.heap.size (.cells #[vi iQ v] 3 (0,0))])[c+3]?=sS (kR (a c) (cap c) (q c)):=by
  rw [List.getElem?_append_left (by rw [Cr];omega)];exact rE hc
 obtain ⟨F1,p1,_,p3⟩:=h1.gain (P':=kR (a c) (cap c) (q c)) (c+3) hg
 obtain ⟨g',cap',w3,hrun,hG⟩:=kR.append p1 hl (ai u (.cells #[vi iQ v] 3 (0,0)))
 refine ⟨g',cap',w3,hrun,?_⟩
 have:=p3 hG
 rw [List.set_append_left _ _ (by rw [Cr];omega)] at this
 exact this.take
/-- After j tries to take one for core c. -/
def cO.ones (t:cO) (c:Nat):Nat -> cO
 | 0=>t
 | j+1=>(t.ones c j).one c
theorem DT {pg:Nat -> Nat} (h:∀ i,pg i<256):∀ i,gQ pg i<256:=by
 intro i
 unfold gQ
 cases hat:uV pg with
 | none=>exact h i
 | some j=>
  simp only []
  obtain ⟨h1,h2⟩:=rH h hat
  by_cases e:i=j
  ·subst e;rw [ah];exact (nS (h i) h2).2
  ·rw [ao _ _ e];exact h i
theorem Bo {pg:Nat -> Nat} (h:∀ i,pg i<256) (h0:cG pg=0):1 <= eh pg /\ eh pg <= 96:=by
 unfold cG at h0
 unfold eh
 cases hat:uV pg with
 | none=>rw [hat] at h0;simp at h0
 | some j=>
  simp only []
  obtain ⟨h1,h2⟩:=rH h hat
  have:=(nS (h j) h2).1
  omega
theorem cO.one_at (t:cO) (c:Nat):(cG t.pg=0 -> t.one c={ t with pg:=gQ t.pg,kept:=aq t.kept c (t.kept c++[eh t.pg]) }) /\ (cG t.pg≠0 -> t.one c=t):=by
 unfold cO.one
 exact ⟨λh=>pG h,λh=>nG h⟩
theorem cO.ones_len (t:cO) (c:Nat):∀ j,((t.ones c j).kept c).length <= (t.kept c).length+j /\ (t.ones c j).n=t.n /\ ((∀ i,t.pg i<256) -> ∀ i,(t.ones c j).pg i<256)
 | 0=>⟨by simp [cO.ones],rfl,λh=>h⟩
 | j+1=>by
  obtain ⟨h1,h2,h3⟩:=t.ones_len c j
  unfold cO.ones
  by_cases e:cG (t.ones c j).pg=0
  ·rw [((t.ones c j).one_at c).1 e]
   refine ⟨?_,h2,λh=>DT (h3 h)⟩
   simp only [ah,List.length_append,List.length_singleton];omega
  ·rw [((t.ones c j).one_at c).2 e]
   exact ⟨by omega,h2,h3⟩
/-- The stash lies there, somehow. -/
def eD (F:List Nat) (w:wW) (b p g:Nat) (t:cO) (u:wW):Prop:=∃ a cap,On F w (bf b p g t.n t.pg a cap t.kept) u
theorem Bp {pg:Nat -> Nat} (h:cG pg≠0):cG pg=5 /\ gQ pg=pg:=by
 unfold cG at h ⊢
 unfold gQ
 cases hat:uV pg with
 | none=>exact ⟨by simp,rfl⟩
 | some j=>rw [hat] at h;simp at h
theorem AU (hpg:∀ i,t.pg i<256) (hA:On F w (bf b p g t.n t.pg a cap t.kept) u) (hc:c<t.n) (hn:t.n <= 64):Calls tp 236 #[vp (sS ⟨b,0,nN⟩),vi iQ c] u (λe u'=>e=.returned (.tuple #[]) /\ eD F w b p g (t.fill c) u'):=by
 obtain ⟨k0,k2⟩:=hA.stC
 have kh:=(hA.stHead hc).1
 have hcI:(c:Int)<t.n:=by omega
 by_cases h0:t.kept c=[]
 ·have e:t.fill c=t.ones c 2:=pG h0
  rw [e]
  have hl0:(t.kept c).length=0:=by rw [h0];rfl
  rw [hl0] at kh
  have hI:=zh (show eD F w b p g (t.ones c 0) u from ⟨a,cap,hA⟩)
  have HL:=zh h0
  obtain ⟨n,hnn⟩:∃ n,n=t.n:=⟨_,rfl⟩
  have HN:=zh hnn
  rw [<- hnn] at k2 hcI hn
  clear hA e h0 hl0 hnn
  go_in
  go_wp2
  go_loopg [15] 2 (λgg i wr=>∃ (j:Nat),i=vi iQ j /\ j+gg=2 /\ eD F w b p g (t.ones c j) wr)
  case atStart=>exact ⟨0,rfl,rfl,hI.out⟩
  case round=>
   clear hI k0 k2 kh
   obtain ⟨j,rfl,hj,ha⟩:=hrel
   by_cases hlt:j<2
   ·have hltI:(j:Int)<2:=by omega
    obtain ⟨a,cap,hB⟩:=ha
    obtain ⟨l1,l2,l3⟩:=t.ones_len c j
    have l3:=l3 hpg
    rw [HL.out] at l1
    have HT:=zh (show t.ones c (j+1)=(t.ones c j).one c from rfl)
    have hco:c<(t.ones c j).n:=by rw [l2,<- HN.out];omega
    rw [<- HN.out] at l2
    generalize t.ones c j=s at *
    obtain ⟨m,pg,q⟩:=s
    simp only at hB l1 l2 l3 hco
    subst l2
    obtain ⟨k0,k2⟩:=hB.stC
    have hTk:=hB.call (P:=tp) (f:=289) 1 rfl (λF1 h1=>DL (pg:=pg) h1 l3)
    have hone:=cO.one_at ⟨m,pg,q⟩ c
    simp only at hone
    by_cases hE:cG pg=0
    ·rw [hE] at hTk
     rw [hone.1 hE] at HT
     generalize eh pg=v at *
     generalize gQ pg=pg2 at *
     have hl2:(q c).length<1000:=by simp at l1;omega
     have HB:=zh hl2
     clear hB hone hE l1 l3 hl2 hpg HL HN
     go_wp2_with (
      go_at_call 289
      refine hTk.s λw2 hC=>?_
      have hC:On F w (bf b p g m pg2 a cap q) w2:=hC
      have HC:=zh hC
      obtain ⟨d0,d2⟩:=hC.stC
      obtain ⟨dh,df,dl⟩:=hC.stHead hco
      clear hC hTk)
     obtain ⟨g',cap',w3,hrun,hD⟩:=(HC.out.keep (u':=w2.drew) (mR.drew)).stAppend hco HB.out v
     have da:=ay (.cells #[vi iQ v] 3 (0,0)) d2
     have dha:=ay (.cells #[vi iQ v] 3 (0,0)) dh
     have e2:w3.cell? ⟨b,2,nN⟩=sS (.slice (sS ⟨g,0,nN⟩) m m):=hD.cell 0 rfl 2
     have e3:w3.cell? ⟨g,c,nN⟩=sS (.slice (a c) (q c).length (cap c)):=by rw [hD.cell 2 rfl c];exact jI hco
     have f3:=hD.free 2 rfl c
     have l3:=hD.size 2 rfl
     have HD:=zh hD
     clear hD
     generalize hz:(q c).length=z at *
     have HZ:=zh hz
     clear hz
     go_region_law (first
      | (refine iD rfl _ _ _ rfl (by first|rfl|(go_simp;rfl)) (by first|rfl|(go_simp;rfl)) (hrun _) ?_))
     all_goals
      have hE:=HD.out.stPut hco
      rw [show (q c++[v]).length=z+1 by rw [List.length_append,HZ.out];rfl] at hE
      have HE:=zh hE
      clear hE
      go_wp2
      go_roundg (gk - 1)
      case measure=>omega
      case rel=>
       refine ⟨j+1,by go_num,by omega,?_⟩
       rw [HT.out]
       exact ⟨_,_,HE.out⟩
    ·obtain ⟨h5,h6⟩:=Bp hE
     rw [h5,h6] at hTk
     rw [hone.2 hE] at HT
     generalize eh pg=v at *
     clear hB hone hE l1 l3 hpg HL HN h5 h6
     go_wp2_with (
      go_at_call 289
      refine hTk.s λw2 hC=>?_
      have hC:On F w (bf b p g m pg a cap q) w2:=hC
      have HC:=zh hC
      clear hC hTk)
     go_roundg (gk - 1)
     case measure=>omega
     case rel=>exact ⟨j+1,by go_num,by omega,by rw [HT.out];exact ⟨_,_,HC.out⟩⟩
   ·have hltI:¬ (j:Int)<2:=by omega
    obtain rfl:j=2:=by omega
    have HA:=zh ha
    clear ha
    go_wp2
    refine bodyPost_end (v:=.tuple #[]) (results_none rfl _ _ _) rfl ?_
    exact ⟨rfl,HA.out⟩
 ·have e:t.fill c=t:=nG h0
  rw [e]
  have hl0:0<(t.kept c).length:=List.length_pos_iff.2 h0
  have hl1:0<((t.kept c).length:Int):=by omega
  have H:=zh (λk=>(⟨a,cap,hA.keep (mR.drewN k)⟩:eD F w b p g t (u.drewN k)))
  have H0:=zh (⟨a,cap,hA⟩:eD F w b p g t u)
  generalize (t.kept c).length=z at *
  clear hA e h0
  go_in
  go_wp2
  refine bodyPost_ret (results_none rfl _ _ _) rfl ?_
  exact ⟨rfl,by first|exact H0.out|exact H.out _⟩
end
/-- A cut of a row reads as l. -/
def lE (w:wW) (x:Option Addr) (l:List Int):Prop:=l=[] \/ ∃ b o,x=sS ⟨b,o,nN⟩ /\ ∀ j,j<l.length -> w.cell? ⟨b,o+j,nN⟩=sS (vi iQ (ar l j))
theorem lE.keep {w w':wW} {S:List Nat} {x:Option Addr} {l:List Int} (h:lE w x l) (m:af S w w') (hS:∀ b o,x=sS ⟨b,o,nN⟩ -> l≠[] -> b∉S):lE w' x l:=by
 by_cases hl:l=[]
 ·exact .inl hl
 rcases h with h|⟨b,o,h1,h2⟩
 ·exact .inl h
 ·exact .inr ⟨b,o,h1,λj hj=>m.at (h2 j hj) (hS b o h1 hl)⟩
theorem Ch {w:wW} {x:Addr} {cap:Nat} {l:List Int} (h:lE w (sS x) l) (hl:l.length<1000000) {g:Nat} (hE:fG w (sS g) 0 []):
  ∃ g' cap' w',(∀ ty,(Builtin.append_ #[30,30] ty #[.slice (sS ⟨g,0,nN⟩) 0 0,.slice (sS x) l.length cap]).run tp w=.ok (.slice (sS ⟨g',0,nN⟩) l.length cap') w') /\ fG w' (sS g') cap' l /\ af [g] w w' /\ (g'=g \/ g'=w.heap.size):=by
 obtain ⟨i,hi,hi2⟩:=Option.map_eq_some_iff.1 oN
 simp only [Prod.mk.injEq] at hi2
 obtain ⟨i1,i2,i3⟩:=hi2
 by_cases hl0:l=[]
 ·subst hl0
  have hsrc:Src tp i.size 30 (.slice (sS x) 0 cap) 0 [] w:=Src.ofSlice w Tryz.underlying30 x 0 cap [] sM sM sM
  exact ⟨g,0,w,λty=>run_append_room_src (P:=tp) w 30 30 ty 3 i Tryz.underlying30 hi g 0 0 0 _ 0 [] hsrc oM sM sM,hE,af.refl _ _,.inl rfl⟩
 obtain ⟨v',w',hr,x2,x3,x4,x5⟩:=run_append_own_at (P:=tp) (w:=w) 0 30 0 3 i (vi iQ 0) 1 8 Tryz.underlying30 hi i1 i2 i3 rfl oM _ _ _ hE.owns x l.length cap (l.map (vi iQ)) sM (by
   intro j u hj
   have hjl:j<l.length:=by have:=(List.getElem?_eq_some_iff.1 hj).1;simpa using this
   rcases h with h|⟨b,o,e,hc⟩
   ·subst h;simp at hjl
   ·cases e
    rw [show Addr.add ⟨b,o,nN⟩ j=⟨b,o+j,nN⟩ by unfold Addr.add;split<;>simp_all,hc j hjl]
    rw [List.getElem?_map,List.getElem?_eq_getElem hjl] at hj
    simp at hj
    rw [<- hj]
    simp [ar,List.getD,hjl]) (by
   intro u hu
   obtain ⟨z,_,rfl⟩:=List.mem_map.1 hu
   rfl) (by unfold maxLen;simp;omega) (by simp;omega) oM
 have hm:af [g] w w':=⟨x3.os,x3.tape,x3.output,x3.size,λk hk hS=>x3.block k hk (by rintro e;cases e;exact hS sM)⟩
 have hrun:∀ ty,(Builtin.append_ #[30,30] ty #[.slice (sS ⟨g,0,nN⟩) 0 0,.slice (sS x) l.length cap]).run tp w=.ok v' w':=by
  intro ty
  have:(Builtin.append_ #[30,30] ty #[.slice (sS ⟨g,0,nN⟩) 0 0,.slice (sS x) l.length cap])=(Builtin.append_ #[30,30] 0 #[.slice (sS ⟨g,0,nN⟩) 0 0,.slice (sS x) l.length cap]):=rfl
  rw [this];exact hr
 rcases x2.2 with ⟨hv,h0⟩|⟨g3,cap3,cur,hv,_,q1,q2,q3,q4,q5⟩
 ·exact absurd (List.eq_nil_of_length_eq_zero oM) hl0
 ·subst hv
  simp only [List.length_nil,Nat.zero_add,List.map_nil,List.nil_append] at hrun q2 q5
  refine ⟨g3,cap3,w',hrun,⟨cur,q1,by simpa using q2,q3,by omega,by rw [Nat.mul_one] at q5;simpa using q5⟩,hm,?_⟩
  rcases x5 with x5|x5
  ·left
   have:sS g3=sS g:=x5
   simpa using this
  ·right
   have:sS g3=sS w.heap.size:=x5
   simpa using this
theorem Fg (x:Option Addr) (cap:Nat) (l:List Int) (w:wW) (h:lE w x l) (hl:l.length<1000000) (hnil:x=nN -> cap=0 /\ l=[]):Calls tp 294 #[.slice x l.length cap] w (iU l w):=by
 cases x with
 | none=>
  obtain ⟨rfl,rfl⟩:=hnil rfl
  have hq:∀ w,(binOp .eql 30 (.slice nN 0 0) (.slice nN 0 0)).run tp w=.ok (vb tQ) w:=λw=>Lib.run_eql_slice_nil w _ _ nN 0 0 0 0 Tryz.underlying30
  simp only [List.length_nil]
  go_in
  go_wp2
  go_ret
  exact ⟨nN,0,rfl,⟨rfl,rfl⟩,af.refl _ _,by simp [lF]⟩
 | some x=>
  have hq:∀ w n,(binOp .eql 30 (.slice (sS x) n cap) (.slice nN 0 0)).run tp w=.ok (vb fF) w:=λw n=>Lib.run_eql_slice_nil w _ _ (sS x) n cap 0 0 Tryz.underlying30
  have hE:fG (w.alloc (.cells #[] 3)) (sS w.heap.size) 0 []:=⟨#[],ai _ _,by simp,by simp,rfl,rfl⟩
  obtain ⟨g',cap',w2,hrun,x1,x2,x3⟩:=Ch (h.keep (S:=[]) ((af.refl [] w).alloc (.cells #[] 3)) sM) hl hE
  go_in
  go_wp2_with (at_builtin;refine aM rfl _ _ _ rfl rfl rfl (hrun _) ?_)
  go_ret
  refine ⟨sS g',cap',rfl,x1,af.trans (S:=[]) (T:=[w.heap.size]) (mR.alloc _) x2 sM,λb hb=>?_⟩
  simp [lF] at hb
  subst hb
  rcases x3 with x3|x3
  ·omega
  ·simp at x3;omega
/-- The first j of a list that is kept, cut there. -/
theorem kR.cut {w:wW} {a:Option Addr} {cap:Nat} {l:List Int} {F:List Nat} (h:(kR a cap l).holds F w) (j:Nat) (hj:j <= l.length):dt (kR a j (l.take j)) F w w:=by
 have hlen:(l.take j).length=j:=List.length_take_of_le hj
 have hnth:∀ i,i<j -> ar (l.take j) i=ar l i:=by
  intro i hi
  simp [ar,List.getD,List.getElem?_take,hi]
 by_cases h0:j=0
 ·subst h0
  exact ⟨[],.inr ⟨by simp,.inl ⟨by simp,rfl⟩⟩,af.refl _ _,by simp⟩
 rcases h with ⟨g,rfl,rfl,h3⟩|⟨rfl,h2|⟨b,h2,h3,h4,h5⟩⟩
 ·obtain ⟨b,rfl,_⟩:=h3.cell (i:=0) oM
  refine ⟨lF (sS b),.inr ⟨hlen.symm,.inr ⟨b,rfl,rfl,h3.lt b (by simp [lF]),λi hi=>?_⟩⟩,af.refl _ _,λx hx=>.inl hx⟩
  rw [hlen] at hi
  obtain ⟨b',e,hc⟩:=h3.cell (i:=i) oM
  cases e
  rw [hnth i hi];exact hc
 ·rw [h2.1] at hj;simp at hj;omega
 ·refine ⟨F,.inr ⟨hlen.symm,.inr ⟨b,h2,h3,h4,λi hi=>?_⟩⟩,af.refl _ _,λx hx=>.inl hx⟩
  rw [hlen] at hi
  rw [hnth i hi];exact h5 i oM
theorem kR.nilCap {w:wW} {a:Option Addr} {cap:Nat} {l:List Int} {F:List Nat} (h:(kR a cap l).holds F w) (ha:a=nN):cap=0 /\ l=[]:=by
 rcases h with ⟨g,h1,rfl,h3⟩|⟨rfl,h2|⟨b,h2,h3,h4,h5⟩⟩
 ·subst ha
  cases g with
  | none=>exact ⟨h3.2,h3.1⟩
  | some g=>simp [lA] at h1
 ·rw [h2.1];exact ⟨rfl,rfl⟩
 ·rw [ha] at h2;cases h2
section
variable {F:List Nat} {w u:wW} {b p g n:Nat} {pg:Nat -> Nat} {a:Nat -> Option Addr} {cap:Nat -> Nat} {q:Nat -> List Int} {t:cO} {c:Nat} {a':Option Addr} {cap':Nat} {l:List Int} {pg':Nat -> Nat}
theorem On.stCut (h:On F w (bf b p g n pg a cap q) u) (hc:c<n) (j:Nat) (hj:j <= (q c).length):On F w ((bf b p g n pg a cap q).set (c+3) (kR (a c) j ((q c).take j))) u:=by
 obtain ⟨F1,p1,_,p3⟩:=h.gain (P':=kR (a c) (cap c) (q c)) (c+3) (rE hc)
 exact p3 (kR.cut p1 j hj)
theorem On.stKept (h:On F w (bf b p g n pg a cap q) u) (hc:c<n):∃ F1,(kR (a c) (cap c) (q c)).holds F1 u:=h.get _ (rE hc)
theorem eD.same {u':wW} (h:eD F w b p g t u) (d:aA u u'):eD F w b p g t u':=by
 obtain ⟨a,cap,h⟩:=h
 exact ⟨a,cap,h.keep d.mod⟩
theorem eD.gain (h:eD F w b p g t u) (hok:t.ok):dt (fR b t) F w u:=by
 obtain ⟨a,cap,h⟩:=h
 exact h.stOk hok rfl rfl rfl
theorem mU (hA:On F w (bf b p g t.n t.pg a cap t.kept) u) (cpu:Int):Calls tp 235 #[vp (sS ⟨b,0,nN⟩),vi iQ cpu] u (au (vi iQ (if 0 <= cpu /\ cpu<t.n then 0 else 3)) u):=Dq hA.stC.2 cpu
theorem cO.ones_bd (t:cO) (c:Nat) (hpg:∀ i,t.pg i<256) (hb:∀ c id,id∈t.kept c -> 1 <= id /\ id <= 96):∀ j d id,id∈(t.ones c j).kept d -> 1 <= id /\ id <= 96
 | 0,d,id,h=>hb d id h
 | j+1,d,id,h=>by
  have ih:=t.ones_bd c hpg hb j
  have h3:=(t.ones_len c j).2.2 hpg
  unfold cO.ones at h
  by_cases e:cG (t.ones c j).pg=0
  ·rw [((t.ones c j).one_at c).1 e] at h
   simp only at h
   by_cases ed:d=c
   ·subst ed
    rw [ah] at h
    rcases List.mem_append.1 h with h|h
    ·exact ih d id h
    ·rw [List.mem_singleton] at h;subst h;exact Bo h3 e
   ·rw [ao _ _ ed] at h;exact ih d id h
  ·rw [((t.ones c j).one_at c).2 e] at h;exact ih d id h
theorem cO.fill_ones (t:cO) (c:Nat):t.fill c=if t.kept c=[] then t.ones c 2 else t:=rfl
theorem cO.ones_ne (t:cO) (c:Nat):∀ j d,d≠c -> (t.ones c j).kept d=t.kept d
 | 0,d,h=>rfl
 | j+1,d,h=>by
  unfold cO.ones
  by_cases e:cG (t.ones c j).pg=0
  ·rw [((t.ones c j).one_at c).1 e];simp only [ao _ _ h];exact t.ones_ne c j d h
  ·rw [((t.ones c j).one_at c).2 e];exact t.ones_ne c j d h
theorem cO.ok.fill (h:t.ok) (c:Nat):(t.fill c).ok:=by
 rw [cO.fill_ones]
 split
 ·rename_i h0
  obtain ⟨l1,l2,l3⟩:=t.ones_len c 2
  refine ⟨by rw [l2];exact h.n1,by rw [l2];exact h.n2,l3 h.pg,λd=>?_,t.ones_bd c h.pg h.bd 2⟩
  by_cases e:d=c
  ·subst e;rw [h0] at l1;simp at l1;omega
  ·rw [t.ones_ne c 2 d e];exact h.len d
 ·exact h
theorem cO.ok.sub (h:t.ok) (c:Nat) {l:List Int} (hl:l.Sublist (t.kept c)):cO.ok { t with kept:=aq t.kept c l }:=by
 refine ⟨h.n1,h.n2,h.pg,λd=>?_,λd id hd=>?_⟩
 ·simp only
  by_cases e:d=c
  ·subst e;rw [ah];have:=hl.length_le;have:=h.len d;omega
  ·rw [ao _ _ e];exact h.len d
 ·simp only at hd
  by_cases e:d=c
  ·subst e;rw [ah] at hd;exact h.bd d id (hl.subset hd)
  ·rw [ao _ _ e] at hd;exact h.bd d id hd
theorem cO.fill_n (t:cO) (c:Nat):(t.fill c).n=t.n:=by rw [cO.fill_ones];split;exact (t.ones_len c 2).2.1;rfl
theorem yK (h:(fR b t).holds F w) (cpu:Int):Calls tp 147 #[vp (sS ⟨b,0,nN⟩),vi iQ cpu] w (al (fR b (t.alloc cpu)) F (.tuple #[vi iQ (t.allocV cpu),vi iQ (t.allocE cpu)]) w):=by
 obtain ⟨hok,p,g,a,cap,hA⟩:=mT h
 have hm:=mU hA cpu
 by_cases hi:t.is cpu
 ·rw [pG (show 0 <= cpu /\ cpu<t.n from hi)] at hm
  obtain ⟨h1,h2⟩:=hi
  obtain ⟨c,rfl⟩:=iN h1
  have hc:c<t.n:=by omega
  have hi:t.is c:=⟨h1,h2⟩
  have eA:t.alloc c={ t.fill c with kept:=aq (t.fill c).kept c ((t.fill c).kept c).dropLast }:=pG hi
  have eE:t.allocE c=if (t.fill c).kept c=[] then 5 else 0:=nG (λx=>x hi)
  have eV:t.allocV c=if t.allocE c=0 then ar ((t.fill c).kept c) (((t.fill c).kept c).length - 1) else 0:=rfl
  have hF:=λk=>AU hok.pg (hA.keep (u':=w.drewN k) (mR.drewN k)) hc hok.n2
  have hok2:=hok.fill c
  have hn2:=t.fill_n c
  rw [eV,eA,eE]
  have hcs:c<(t.fill c).n:=by omega
  clear eA eE eV h hA hi
  generalize t.fill c=s at *
  obtain ⟨m,pg,q⟩:=s
  simp only at hn2 hcs ⊢
  subst hn2
  have hcI:(c:Int)<t.n:=by omega
  have h64:=hok.n2
  generalize t.n=m at *
  have HO:=zh hok2
  clear hok hok2
  by_cases hq:q c=[]
  ·rw [pG hq,hq]
   have eK:aq q c ([]:List Int).dropLast=q:=by
    funext i
    by_cases e:i=c
    ·subst e;rw [ah,hq];rfl
    ·rw [ao _ _ e]
   rw [eK]
   have HQ:=zh hq
   clear hq eK
   go_in
   go_wp2_with (first
    | (go_at_call 235;refine hm.r λk=>?_)
    | (
     go_at_call 236
     refine (hF _).mono ?_
     rintro e w2 ⟨rfl,a2,cap2,hB⟩
     obtain ⟨d0,d2⟩:=hB.stC
     obtain ⟨dh,df,dl⟩:=hB.stHead hcs
     simp only at d2 dh
     rw [HQ.out] at dh
     have HB:=zh hB
     clear hB hF))
   go_ret2
   exact ⟨rfl,eD.gain (t:=⟨m,pg,q⟩) ⟨a2,cap2,HB.out⟩ HO.out⟩
  ·rw [nG hq,pG rfl]
   obtain ⟨n0,hn0⟩:∃ n0,(q c).length=n0+1:=⟨(q c).length - 1,by have:=List.length_pos_iff.2 hq;omega⟩
   rw [hn0,Nat.add_sub_cancel,List.dropLast_eq_take,hn0,Nat.add_sub_cancel]
   have hl4:n0+1 <= 4:=by rw [<- hn0];exact HO.out.len c
   have HN:=zh hn0
   have HQ:=zh hq
   have htk:((q c).take n0).length=n0:=List.length_take_of_le oM
   have HT:=zh htk
   clear hn0 hq htk
   go_in
   go_wp2_with (first
    | (go_at_call 235;refine hm.r λk=>?_)
    | (
     go_at_call 236
     refine (hF _).mono ?_
     rintro e w2 ⟨rfl,a2,cap2,hB⟩
     obtain ⟨d0,d2⟩:=hB.stC
     obtain ⟨dh,df,dl⟩:=hB.stHead hcs
     simp only at d2 dh hB
     rw [HN.out] at dh
     obtain ⟨F1,hk⟩:=hB.stKept hcs
     obtain ⟨bb,eb,hbl,hcl⟩:=(kR.ints hk).resolve_left HQ.out
     have hcap:=kR.cap hk (by have:=HO.out.len c;simp only at this;omega)
     rw [HN.out] at hcap
     have cn:=hcl n0 (by have:=HN.out;omega)
     have hD:=λk=>((hB.stCut hcs n0 (by have:=HN.out;omega)).keep (u':=w2.drewN k) (mR.drewN k)).stPut hcs
     rw [eb,HT.out] at hD
     rw [eb] at dh
     have HD:=zh hD
     have HE:=zh eb
     clear hB hF hk hcl hD eb))
   go_region
   go_wp2
   go_ret2
   exact ⟨rfl,eD.gain (t:=⟨m,pg,aq q c ((q c).take n0)⟩) ⟨_,_,HD.out 1⟩ (HO.out.sub c (l:=(q c).take n0) (List.take_sublist _ _))⟩
 ·have e:t.allocE cpu=3:=pG hi
  rw [show t.alloc cpu=t from nG hi,show t.allocV cpu=0 from nG (by rw [e];decide),e]
  rw [nG (show ¬ (0 <= cpu /\ cpu<t.n) from hi)] at hm
  have H:=zh (λk=>(hA.keep (u':=w.drewN k) (mR.drewN k)).stOk hok rfl rfl rfl)
  clear hA h hi e
  go_in
  go_wp2_with (go_at_call 235;refine hm.r λk=>?_)
  go_ret2
  exact ⟨rfl,H.out _⟩
theorem On.stNew {u':wW} {g2:Option Nat} {cap2:Nat} {D:List Int} (h:On F w (bf b p g n pg a cap q) u) (hc:c<n) (hL:fG u' g2 cap2 D) (m:af [] u u') (hn:∀ b,b∈lF g2 -> u.heap.size <= b):On F w ((bf b p g n pg a cap q).set (c+3) (kR (lA g2) cap2 D)) u':=by
 obtain ⟨F1,p1,_,p3⟩:=h.gain (P':=kR (a c) (cap c) (q c)) (c+3) (rE hc)
 exact p3 ⟨lF g2,.inl ⟨g2,rfl,rfl,hL⟩,m.mono sM,λb hb=>.inr (hn b hb)⟩
theorem DU {pg:Nat -> Nat} (h:∀ i,pg i<256) (id:Int):∀ i,eu pg id i<256:=by
 intro i
 cases ho:jc pg id
 ·unfold eu;rw [ho];exact h i
 ·obtain ⟨e,_,_,h3⟩:=qH h ho
  rw [e]
  by_cases ei:i=bT id
  ·subst ei;rw [ah];exact h3
  ·rw [ao _ _ ei];exact h i
theorem na:∀ (l:List Int) {pg:Nat -> Nat},(∀ i,pg i<256) -> ∀ i,l.foldl eu pg i<256
 | [],_,h=>h
 | x :: l,_,h=>na l (DU h x)
theorem cO.ok.back (h:t.ok) (c many:Nat):(t.back c many).ok:=by
 have h1:=h.sub c (l:=(t.kept c).drop many) (List.drop_sublist _ _)
 exact ⟨h1.n1,h1.n2,na _ h.pg,h1.len,h1.bd⟩
theorem Ht {u:wW} {x:Option Addr} {cp:Nat} {l:List Int} {F1:List Nat} (h:(kR x cp l).holds F1 u) (many:Nat) (hm:many <= l.length):lE u (if cp=many then x else Option.map (λx=>x.add many) x) (l.drop many):=by
 by_cases hl:many=l.length
 ·subst hl;exact .inl sM
 obtain ⟨bb,eb,_,hcl⟩:=(kR.ints h).resolve_left (λe=>by rw [e] at hl hm;simp at hl hm;omega)
 have hcap:l.length <= cp:=by
  rcases h with ⟨g,_,_,h3⟩|⟨h1,_⟩
  ·exact h3.cap.1
  ·omega
 rw [nG oM]
 subst eb
 refine .inr ⟨bb,many,?_,λj hj=>?_⟩
 ·show sS (Addr.add _ _)=_
  unfold Addr.add
  by_cases h0:many=0
  ·subst h0;rfl
  ·simp [h0]
 ·rw [List.length_drop] at hj
  rw [hcl _ oM]
  simp [ar,List.getD,List.getElem?_drop]
theorem ml {l:List Int} {j:Nat} (h:j<l.length):l.take (j+1)=l.take j++[ar l j]:=by
 rw [List.take_succ_eq_append_getElem h]
 simp [ar,List.getD,h]
theorem lE.drop {l:List Int} {bb:Nat} {u:wW} (many:Nat) (hm:many<l.length) (h:∀ j,j<l.length -> u.cell? ⟨bb,j,nN⟩=sS (vi iQ (ar l j))):lE u (sS ⟨bb,many,nN⟩) (l.drop many):=by
 refine .inr ⟨bb,many,rfl,λj hj=>?_⟩
 rw [List.length_drop] at hj
 rw [h _ oM]
 simp [ar,List.getD,List.getElem?_drop]
theorem sD (hok:t.ok) (hA:On F w (bf b p g t.n t.pg a cap t.kept) u) (hc:c<t.n) (many:Nat) (hm:many <= (t.kept c).length):Calls tp 238 #[vp (sS ⟨b,0,nN⟩),vi iQ c,vi iQ many] u (λe u'=>e=.returned (.tuple #[]) /\ eD F w b p g (t.back c many) u'):=by
 have hl4:=hok.len c
 have hn2:=hok.n2
 have hpg:=hok.pg
 have hcI:(c:Int)<t.n:=by omega
 obtain ⟨k0,k2⟩:=hA.stC
 obtain ⟨kh,kf,kl⟩:=hA.stHead hc
 obtain ⟨F1,hk⟩:=hA.stKept hc
 have hcap:=kR.cap hk oM
 have hnil:=kR.nilCap hk
 have hback:t.back c many=⟨t.n,((t.kept c).take many).foldl eu t.pg,aq t.kept c ((t.kept c).drop many)⟩:=rfl
 rw [hback]
 have hints:=kR.ints hk
 have hcut:∀ v,af [] u v -> lE v (if cap c=many then a c else Option.map (λx=>x.add many) (a c)) ((t.kept c).drop many):=λv m=>(lE.keep (S:=[]) (Ht hk many hm) m sM)
 have hcnil:(if cap c=many then a c else Option.map (λx=>x.add many) (a c))=nN -> cap c - many=0 /\ (t.kept c).drop many=[]:=by
  intro h
  have ha:a c=none:=by
   split at h
   ·exact h
   ·simpa using h
  have:=kR.nilCap hk ha
  rw [this.1,this.2];simp
 have hkeep:∀ v pg2,On F w (bf b p g t.n pg2 a cap t.kept) v -> lE v (if cap c=many then a c else Option.map (λx=>x.add many) (a c)) ((t.kept c).drop many):=λv pg2 hv=>by
  obtain ⟨F2,hk2⟩:=hv.stKept hc
  exact Ht hk2 many hm
 clear hback hk hcut
 obtain ⟨x,hx⟩:∃ x,a c=x:=⟨_,rfl⟩
 rw [hx] at kh hnil hints hcnil hkeep
 have HX:=zh hx
 clear hx
 have hI:=zh (show ∃ pg,pg=((t.kept c).take 0).foldl eu t.pg /\ On F w (bf b p g t.n pg a cap t.kept) u from ⟨_,rfl,hA⟩)
 obtain ⟨n,hn⟩:∃ n,(t.kept c).length=n:=⟨_,rfl⟩
 rw [hn] at kh hl4 hcap hm
 have HN:=zh hn
 obtain ⟨mm,hmm⟩:∃ m,m=t.n:=⟨_,rfl⟩
 rw [<- hmm] at k2 hcI hn2 hc
 have HM:=zh hmm
 have hmI:(many:Int) <= cap c:=by omega
 obtain ⟨hcap1,hcap2⟩:=hcap
 clear hok hA hn hmm
 go_in
 go_wp2
 go_loopg [18] many (λgg i wr=>∃ (j:Nat) (pg:Nat -> Nat),i=vi iQ j /\ j+gg=many /\ pg=((t.kept c).take j).foldl eu t.pg /\ On F w (bf b p g t.n pg a cap t.kept) wr)
 case atStart=>
  obtain ⟨pg,e,h⟩:=hI.out
  exact ⟨0,t.pg,rfl,by omega,rfl,by rw [e] at h;exact h⟩
 case round=>
  clear hI k0 k2 kh kf kl
  obtain ⟨j,pg,rfl,hj,hpj,hB⟩:=hrel
  obtain ⟨k0,k2⟩:=hB.stC
  obtain ⟨kh,kf,kl⟩:=hB.stHead (by rw [<- HM.out];exact hc)
  rw [HN.out,HX.out] at kh
  rw [<- HM.out] at k2
  have hpg2:∀ i,pg i<256:=by rw [hpj];exact na _ hpg
  by_cases hlt:j<many
  ·have hltI:(j:Int)<many:=by omega
   have hjn:j<(t.kept c).length:=by rw [HN.out];omega
   obtain ⟨F1,hk⟩:=hB.stKept (by rw [<- HM.out];exact hc)
   obtain ⟨bb,eb,hbl,hcl⟩:=(kR.ints hk).resolve_left (λe=>by rw [e] at hjn;simp at hjn)
   rw [HX.out] at eb
   subst eb
   have cj:=hcl j hjn
   have hG:=hB.call (P:=tp) (f:=293) 1 rfl (λF1 h1=>DM (pg:=pg) h1 hpg2 (ar (t.kept c) j))
   have HP:=zh (show eu pg (ar (t.kept c) j)=((t.kept c).take (j+1)).foldl eu t.pg by rw [ml hjn,List.foldl_append,hpj];rfl)
   clear hB hk hcl hpj hpg2 hints hkeep hcnil hnil
   generalize ar (t.kept c) j=id at *
   generalize (if jc pg id=tQ then (0:Int) else 4)=e0 at *
   go_wp2_with (
    go_at_call 293
    refine hG.s λw2 hC=>?_
    have HC:=zh (show On F w (bf b p g t.n (eu pg id) a cap t.kept) w2 from hC)
    clear hC hG)
   go_roundg (gk - 1)
   case measure=>omega
   case rel=>exact ⟨j+1,_,by go_num,by omega,HP.out,HC.out⟩
  ·have hltI:¬ (j:Int)<many:=by omega
   obtain rfl:j=many:=by omega
   have HP:=zh hpj
   have hCt:=hkeep wr pg hB
   have hdl:((t.kept c).drop j).length=n - j:=by rw [List.length_drop,HN.out]
   have hCl:=λk=>Fg _ (cap c - j) _ (wr.drewN k) (hCt.keep (S:=[]) (mR.drewN k) sM) (by rw [hdl];omega) hcnil
   rw [hdl] at hCl
   have HL:=zh hdl
   have HB:=zh hB
   clear hpj hB hCt hcnil hkeep hints hnil hdl
   go_wp2
   go_region_law (first
    | (
     go_simp
     go_at_call 294
     refine (hCl 1).mono ?_
     rintro e w2 ⟨g2,cap2,e2,hL2,m2,hn2⟩
     rw [HL.out] at e2
     subst e2
     have hD:=(HB.out.keep (u':=wr.drewN 1) (mR.drewN 1)).stNew (by rw [<- HM.out];exact hc) hL2 m2 hn2
     have z2:w2.cell? ⟨b,2,nN⟩=sS (.slice (sS ⟨g,0,nN⟩) mm mm):=by rw [HM.out];exact hD.cell 0 rfl 2
     have z3:w2.cell? ⟨g,c,nN⟩=sS (.slice x n (cap c)):=by rw [hD.cell 2 rfl c,<- HN.out,<- HX.out];exact jI (by rw [<- HM.out];exact hc)
     have z4:w2.frozen? ⟨g,c,nN⟩=fF:=hD.free 2 rfl c
     have z5:g<w2.heap.size:=hD.size 2 rfl
     have HD:=zh hD
     clear hD hL2 m2 hn2 hCl))
   all_goals
    have hE:=HD.out.stPut (by rw [<- HM.out];exact hc)
    rw [HL.out,HP.out] at hE
    have HE:=zh hE
    clear hE
    go_wp2
    all_goals
     refine bodyPost_end (v:=.tuple #[]) (results_none rfl _ _ _) rfl ?_
     exact ⟨rfl,_,_,HE.out⟩
theorem qB (h:(fR b t).holds F w) (cpu:Int):Calls tp 306 #[vp (sS ⟨b,0,nN⟩),vi iQ cpu] w (al (fR b (t.drain cpu)) F (.tuple #[vi iQ (t.keptL cpu).length,vi iQ (if t.is cpu then 0 else 3)]) w):=by
 obtain ⟨hok,p,g,a,cap,hA⟩:=mT h
 have hm:=mU hA cpu
 by_cases hi:t.is cpu
 ·rw [pG (show 0 <= cpu /\ cpu<t.n from hi)] at hm
  rw [pG hi]
  obtain ⟨h1,h2⟩:=hi
  obtain ⟨c,rfl⟩:=iN h1
  have hc:c<t.n:=by omega
  have hi:t.is c:=⟨h1,h2⟩
  rw [show t.drain c=t.back c (t.kept c).length from pG hi,show t.keptL c=t.kept c from pG hi]
  have hok2:=zh (hok.back c (t.kept c).length)
  have hB:=λk=>sD hok (hA.keep (u':=w.drewN k) (mR.drewN k)) hc (t.kept c).length (Nat.le_refl _)
  obtain ⟨k0,k2⟩:=hA.stC
  obtain ⟨kh,kf,kl⟩:=hA.stHead hc
  have hl4:=hok.len c
  have hn2:=hok.n2
  generalize t.back c (t.kept c).length=t2 at *
  generalize (t.kept c).length=n at *
  generalize t.n=m at *
  clear hA h hok hi
  go_in
  go_wp2_with (first
   | (go_at_call 235;refine hm.r λk=>?_)
   | (go_at_call 238;refine (hB _).s λw2 hL=>?_;have HL:=zh hL;clear hL))
  go_ret2
  exact ⟨rfl,HL.out.gain hok2.out⟩
 ·rw [nG hi,show t.drain cpu=t from nG hi,show t.keptL cpu=[] from nG hi]
  rw [nG (show ¬ (0 <= cpu /\ cpu<t.n) from hi)] at hm
  have H:=zh (λk=>(hA.keep (u':=w.drewN k) (mR.drewN k)).stOk hok rfl rfl rfl)
  clear hA h hi
  go_in
  go_wp2_with (go_at_call 235;refine hm.r λk=>?_)
  go_ret2
  exact ⟨rfl,H.out _⟩
end
theorem bN.slAt {w:wW} {a:Option Addr} {l:List Int} (h:bN w a l):Fv w a l:=by
 rcases h with h|⟨b,h1,_,h3⟩
 ·exact .inl h
 ·exact .inr ⟨b,h1,h3⟩
theorem Ha (B:Nat) (id:Int) (a:Option Addr) (cap:Nat) (l:List Int) (W:wW) (hc:W.cell? ⟨B,0,nN⟩=sS (vi iQ id)) (h:Fv W a l) (hl:l.length<1000):Calls tp 292 #[.slice a l.length cap,vp (sS ⟨B,0,nN⟩)] W (au (vb (decide (id∈l))) W):=by
 have hC:=oZ a cap l id W h oM
 generalize l.length=n at *
 generalize decide (id∈l)=d at *
 clear h
 go_in
 go_wp2_with (go_at_call 288;refine hC.r λk=>?_)
 go_ret
 exact au.of (rfl) dz
def po (n:Nat) (q:Nat -> List Int) (id:Int):Bool:=(List.range n).any λc=>decide (id∈q c)
theorem Fs {n:Nat} {q:Nat -> List Int} {id:Int} {j:Nat} (h:j<n) (hm:decide (id∈q j)=tQ):po n q id=tQ:=by
 unfold po
 rw [List.any_eq_true]
 exact ⟨j,List.mem_range.2 h,hm⟩
theorem Ie {n:Nat} {q:Nat -> List Int} {id:Int} (h:∀ i,i<n -> decide (id∈q i)=fF):po n q id=fF:=by
 unfold po
 rw [List.any_eq_false]
 intro x hx
 rw [h x (List.mem_range.1 hx)];simp
section
variable {F:List Nat} {w u:wW} {b p g n:Nat} {pg:Nat -> Nat} {a:Nat -> Option Addr} {cap:Nat -> Nat} {q:Nat -> List Int} {t:cO} {c:Nat}
def KG (v:Bool) (w:wW) (e:Ending) (w':wW):Prop:=∃ kk:Int,e=.returned (vi iQ kk) /\ aA w w' /\ decide (0 <= kk)=v
theorem BQ (hA:On F w (bf b p g n pg a cap q) u) (hq:∀ c,(q c).length <= 4) (hn:n <= 64) (B:Nat) (id:Int) (hB:u.cell? ⟨B,0,nN⟩=sS (vi iQ id)):Calls tp 333 #[.slice (sS ⟨g,0,nN⟩) n n,.func (.func 292) #[] #[vp (sS ⟨B,0,nN⟩)]] u (KG (po n q id) u):=by
 go_in
 go_wp2
 go_loopg [8] n (λgg i wr=>∃ (j:Nat),i=vi iQ j /\ j+gg=n /\ aA u wr /\ ∀ i,i<j -> decide (id∈q i)=fF)
 case atStart=>exact ⟨0,rfl,by omega,aA.refl _,λi hi=>by omega⟩
 case round=>
  obtain ⟨j,rfl,hj,hD,hlo⟩:=hrel
  by_cases hlt:j<n
  ·have hltI:(j:Int)<n:=by omega
   have hR:=hA.keep (hD.mod (S:=[]))
   have hBr:wr.cell? ⟨B,0,nN⟩=sS (vi iQ id):=(hD.mod (S:=[])).at hB sM
   obtain ⟨kh,_,_⟩:=hR.stHead hlt
   obtain ⟨F1,hk⟩:=hR.stKept hlt
   have hP:=Ha B id (a j) (cap j) (q j) wr hBr (kR.ints hk).slAt (by have:=hq j;omega)
   have hlo':=zh hlo
   clear hlo hR hk hBr
   cases hr:decide (id∈q j)
   ·rw [hr] at hP
    have hr':=zh hr
    clear hr
    generalize (q j).length=z at *
    generalize a j=aj at *
    generalize cap j=cj at *
    clear hA hB hq
    go_wp2_with (go_at_call 292;refine hP.r λk=>?_)
    go_roundg (gk - 1)
    case measure=>omega
    case rel=>
     refine ⟨j+1,by go_num,by omega,hD.drewN _,λi hi=>?_⟩
     by_cases e:i=j
     ·subst e;exact hr'.out
     ·exact hlo'.out i oM
   ·rw [hr] at hP
    have hf:=zh (Fs hlt hr)
    clear hr
    generalize (q j).length=z at *
    generalize a j=aj at *
    generalize cap j=cj at *
    clear hA hB hq
    go_wp2_with (go_at_call 292;refine hP.r λk=>?_)
    go_ret
    exact ⟨j,rfl,hD.drewN _,by rw [hf.out];simp⟩
  ·have hltI:¬ (j:Int)<n:=by omega
   have hf:=zh (Ie (n:=n) (q:=q) (id:=id) (λi hi=>hlo i oM))
   clear hlo hA hB hq
   go_wp2
   go_ret
   exact ⟨-1,rfl,hD,by rw [hf.out];decide⟩
theorem vs (hA:On F w (bf b p g n pg a cap q) u) (hq:∀ c,(q c).length <= 4) (hn:n <= 64) (B:Nat) (id:Int) (hB:u.cell? ⟨B,0,nN⟩=sS (vi iQ id)):Calls tp 291 #[.slice (sS ⟨g,0,nN⟩) n n,.func (.func 292) #[] #[vp (sS ⟨B,0,nN⟩)]] u (au (vb (po n q id)) u):=by
 have hI:=BQ hA hq hn B id hB
 generalize po n q id=v at *
 clear hA hq hB
 go_in
 go_wp2_with (go_at_call 333;refine hI.mono ?_;rintro e w' ⟨kk,rfl,hD,hv⟩;have HV:=zh hv;clear hv hI)
 go_ret
 refine ⟨?_,hD⟩
 rw [<- HV.out]
 rfl
theorem Ds (hok:t.ok) (hA:On F w (bf b p g t.n t.pg a cap t.kept) u) (id:Int):Calls tp 237 #[vp (sS ⟨b,0,nN⟩),vi iQ id] u (bp (vb (t.has id)) u):=by
 have hv:t.has id=(jc t.pg id&&!po t.n t.kept id):=rfl
 rw [hv]
 have hA2:=hA.keep (u':=u.alloc (.cells #[vi iQ id] 3 (0,0))) (mR.alloc _)
 obtain ⟨k0,k2⟩:=hA2.stC
 obtain ⟨F1,hp⟩:=hA2.get 1 rfl
 have hO:=λk=>zf ((show cY _ p t.pg from hp.2).keep (u:=(u.alloc (.cells #[vi iQ id] 3 (0,0))).drewN k) (S:=[]) (mR.drewN k) sM) hok.pg id
 have hC:=λk=>vs (hA2.keep (u':=(u.alloc (.cells #[vi iQ id] 3 (0,0))).drewN k) (mR.drewN k)) hok.len hok.n2 u.heap.size id sM
 generalize po t.n t.kept id=v at *
 cases ho:jc t.pg id
 ·rw [ho] at hO
  clear hA hA2 hp hv ho hok hC
  generalize t.n=m at *
  go_in
  go_wp2
  go_quiet ((go_at_call 290;exact Calls.quiet_of (hO _)))
  go_wp2
  go_ret
  exact ⟨rfl,(mR.alloc _).drewN _⟩
 ·rw [ho] at hO
  clear hA hA2 hp hv ho hok
  generalize t.n=m at *
  go_in
  go_wp2
  go_quiet (first|(go_at_call 290;exact Calls.quiet_of (hO _))|(go_at_call 291;exact Calls.quiet_of (hC _)))
  go_wp2
  go_ret
  exact ⟨rfl,(mR.alloc _).drewN _⟩
/-- One more that a core keeps: the facts ahead of the region. -/
theorem cO.ok.add (h:t.ok) (c:Nat) {id:Int} (hl:(t.kept c).length<4) (h1:1 <= id) (h2:id <= 96):cO.ok { t with kept:=aq t.kept c (t.kept c++[id]) }:=by
 refine ⟨h.n1,h.n2,h.pg,λd=>?_,λd x hd=>?_⟩
 ·simp only
  by_cases e:d=c
  ·subst e;rw [ah,List.length_append,List.length_singleton];omega
  ·rw [ao _ _ e];exact h.len d
 ·simp only at hd
  by_cases e:d=c
  ·subst e
   rw [ah] at hd
   rcases List.mem_append.1 hd with hd|hd
   ·exact h.bd d x hd
   ·rw [List.mem_singleton] at hd;subst hd;exact ⟨h1,h2⟩
  ·rw [ao _ _ e] at hd;exact h.bd d x hd
theorem cO.has_bd {t:cO} {id:Int} (h:t.has id=tQ):1 <= id /\ id <= 96:=by
 unfold cO.has jc at h
 simp only [Bool.and_eq_true,decide_eq_true_eq] at h
 exact h.1.1
theorem AV (h:(fR b t).holds F w) (cpu id:Int):Calls tp 148 #[vp (sS ⟨b,0,nN⟩),vi iQ cpu,vi iQ id] w (al (fR b (t.give cpu id)) F (vi iQ (t.giveE cpu id)) w):=by
 obtain ⟨hok,p,g,a,cap,hA⟩:=mT h
 have hm:=mU hA cpu
 by_cases hi:t.is cpu
 ·rw [pG (show 0 <= cpu /\ cpu<t.n from hi)] at hm
  have hH:=λk=>Ds hok (hA.keep (u':=w.drewN k) (mR.drewN k)) id
  have eE:t.giveE cpu id=if t.has id then 0 else 4:=nG (λx=>x hi)
  cases hh:t.has id
  ·rw [hh] at eE hH
   rw [show t.give cpu id=t from nG (by rw [eE];decide),eE]
   have H:=zh (λu' (m:af [] w u')=>(hA.keep m).stOk hok rfl rfl rfl)
   clear hA h hi hh eE hok
   simp only [Bool.false_eq_true,if_false]
   go_in
   go_wp2_with (first
    | (go_at_call 235;refine hm.r λk=>?_)
    | (go_at_call 237;refine (hH _).s λw2 m=>?_;have HM:=zh (((af.refl [] w).drewN k).trans m sM);clear m))
   go_ret
   exact ⟨rfl,H.out _ HM.out⟩
  ·have hb:=cO.has_bd hh
   rw [hh] at eE hH
   rw [show t.give cpu id={ t.room cpu.toNat with kept:=aq (t.room cpu.toNat).kept cpu.toNat ((t.room cpu.toNat).kept cpu.toNat++[id]) } from pG eE,eE]
   simp only [if_true]
   obtain ⟨h1,h2⟩:=hi
   obtain ⟨c,rfl⟩:=iN h1
   have hco:c<t.n:=by omega
   rw [Int.toNat_natCast]
   have hl4:=hok.len c
   have hn2:=hok.n2
   by_cases hf:4 <= (t.kept c).length
   ·rw [show t.room c=t.back c 2 from pG hf]
    have hfe:(t.kept c).length=4:=by omega
    have hok2:=hok.back c 2
    have hBk:=λu' (m:af [] w u')=>sD hok (hA.keep m) hco 2 oM
    have hlb:((t.back c 2).kept c).length=2:=by
     show (aq t.kept c _ c).length=2
     rw [ah,List.length_drop];omega
    have hokA:=hok2.add c (id:=id) oM hb.1 hb.2
    have hcell:=λu' (m:af [] w u')=>(hA.keep m).stC
    have hhead:=λu' (m:af [] w u')=>(hA.keep m).stHead hco
    rw [hfe] at hhead
    have HB:=zh (show ((t.back c 2).kept c).length<1000 by omega)
    have HO:=zh hokA
    have hbn:(t.back c 2).n=t.n:=rfl
    clear hA h eE hh hok hok2 hlb hokA hb hf hfe hl4
    generalize t.back c 2=s at *
    obtain ⟨m,pg,q⟩:=s
    simp only at hbn HB HO hBk ⊢
    subst hbn
    generalize t.n=m at *
    obtain ⟨k0,k2⟩:=hcell w mR
    go_in
    go_wp2_with (first
     | (go_at_call 235;refine hm.r λk=>?_)
     | (
      go_at_call 237
      refine (hH _).s λw1 mx=>?_
      have HM:=zh (((af.refl [] w).drewN k).trans mx sM)
      obtain ⟨k0,k2⟩:=hcell w1 HM.out
      obtain ⟨kh,kf,kl⟩:=hhead w1 HM.out
      clear mx)
     | (
      go_at_call 238
      refine (hBk _ HM.out).mono ?_
      rintro e w2 ⟨rfl,a2,cap2,hC⟩
      have hC:On F w (bf b p g m pg a2 cap2 q) w2:=hC
      obtain ⟨d0,d2⟩:=hC.stC
      obtain ⟨dh,df,dl⟩:=hC.stHead hco
      have HC:=zh hC
      clear hC hBk))
    clear k0 k2 kh kf kl hcell hhead hH hm
    obtain ⟨g',cap',w3,hrun,hD⟩:=(HC.out.keep (u':=w2.drew) (mR.drew)).stAppend hco HB.out id
    have da:=ay (.cells #[vi iQ id] 3 (0,0)) d2
    have dha:=ay (.cells #[vi iQ id] 3 (0,0)) dh
    have e2:w3.cell? ⟨b,2,nN⟩=sS (.slice (sS ⟨g,0,nN⟩) m m):=hD.cell 0 rfl 2
    have e3:w3.cell? ⟨g,c,nN⟩=sS (.slice (a2 c) (q c).length (cap2 c)):=by rw [hD.cell 2 rfl c];exact jI hco
    have f3:=hD.free 2 rfl c
    have l3:=hD.size 2 rfl
    have HD:=zh hD
    clear hD
    generalize hz:(q c).length=z at *
    have HZ:=zh hz
    clear hz
    go_region_law (first
     | (refine iD rfl _ _ _ rfl (by first|rfl|(go_simp;rfl)) (by first|rfl|(go_simp;rfl)) (hrun _) ?_))
    all_goals
     have hE:=HD.out.stPut hco
     rw [show (q c++[id]).length=z+1 by rw [List.length_append,HZ.out];rfl] at hE
     have HE:=zh hE
     clear hE
     go_wp2
     go_ret
     exact ⟨rfl,eD.gain (t:=⟨m,pg,aq q c (q c++[id])⟩) ⟨_,_,HE.out⟩ HO.out⟩
   ·rw [show t.room c=t from nG hf]
    have hf1:(t.kept c).length<4:=by omega
    have hf2:((t.kept c).length:Int)<4:=by omega
    have hokA:=hok.add c (id:=id) hf1 hb.1 hb.2
    have hcell:=λu' (m:af [] w u')=>(hA.keep m).stC
    have hhead:=λu' (m:af [] w u')=>(hA.keep m).stHead hco
    have hkeep:=zh (λu' (m:af [] w u')=>hA.keep m)
    have HB:=zh (show (t.kept c).length<1000 by omega)
    have HO:=zh hokA
    clear hA h eE hh hok hokA hb hf hl4
    obtain ⟨m,pg,q⟩:=t
    simp only at hco hn2 hf2 hm hH hcell hhead hkeep HB HO ⊢
    obtain ⟨k0,k2⟩:=hcell w mR
    have hf3:=zh hf2
    obtain ⟨a2,rfl⟩:∃ a2,a2=a:=⟨_,rfl⟩
    obtain ⟨cap2,rfl⟩:∃ cap2,cap2=cap:=⟨_,rfl⟩
    go_in
    go_wp2_with (first
     | (go_at_call 235;refine hm.r λk=>?_)
     | (
      go_at_call 237
      refine (hH _).s λw2 mx=>?_
      have HM:=zh (((af.refl [] w).drewN k).trans mx sM)
      obtain ⟨d0,d2⟩:=hcell w2 HM.out
      obtain ⟨dh,df,dl⟩:=hhead w2 HM.out
      have HC:=zh (hkeep.out w2 HM.out)
      clear mx))
    clear k0 k2 hcell hhead hH hm
    obtain ⟨g',cap',w3,hrun,hD⟩:=(HC.out.keep (u':=w2.drew) (mR.drew)).stAppend hco HB.out id
    have da:=ay (.cells #[vi iQ id] 3 (0,0)) d2
    have dha:=ay (.cells #[vi iQ id] 3 (0,0)) dh
    have e2:w3.cell? ⟨b,2,nN⟩=sS (.slice (sS ⟨g,0,nN⟩) m m):=hD.cell 0 rfl 2
    have e3:w3.cell? ⟨g,c,nN⟩=sS (.slice (a2 c) (q c).length (cap2 c)):=by rw [hD.cell 2 rfl c];exact jI hco
    have f3:=hD.free 2 rfl c
    have l3:=hD.size 2 rfl
    have HD:=zh hD
    clear hD
    generalize hz:(q c).length=z at *
    have HZ:=zh hz
    clear hz
    go_region_law (first
     | (refine iD rfl _ _ _ rfl (by first|rfl|(go_simp;rfl)) (by first|rfl|(go_simp;rfl)) (hrun _) ?_))
    all_goals
     have hE:=HD.out.stPut hco
     rw [show (q c++[id]).length=z+1 by rw [List.length_append,HZ.out];rfl] at hE
     have HE:=zh hE
     clear hE
     go_wp2
     go_ret
     exact ⟨rfl,eD.gain (t:=⟨m,pg,aq q c (q c++[id])⟩) ⟨_,_,HE.out⟩ HO.out⟩
 ·rw [show t.give cpu id=t from nG (by rw [show t.giveE cpu id=3 from pG hi];decide),show t.giveE cpu id=3 from pG hi]
  rw [nG (show ¬ (0 <= cpu /\ cpu<t.n) from hi)] at hm
  have H:=zh (λk=>(hA.keep (u':=w.drewN k) (mR.drewN k)).stOk hok rfl rfl rfl)
  clear hA h hi
  go_in
  go_wp2_with (go_at_call 235;refine hm.r λk=>?_)
  go_ret
  exact ⟨rfl,H.out _⟩
end
section
variable {P:Program} {ops:Array Oper} {Q:Exit -> Act -> wW -> Prop} {md:Region.Mode} {D:List Nat} {S:wW -> Prop}
/-- None of D has come up. -/
def dX (D:List Nat) (s:Array Bool):Bool:=D.all λd=>!s.getD d tQ
/-- Whatever order is picked, and S holds as long as nN of D has come up. -/
def bV (P:Program) (md:Region.Mode) (ops:Array Oper) (Q:Exit -> Act -> wW -> Prop) (D:List Nat) (S:wW -> Prop):Nat -> Array Bool -> Act -> wW -> Prop
 | 0,listed,a,w=>Region.ready md ops listed=[] /\ Q .normal a w
 | fuel+1,listed,a,w=>
  (Region.ready md ops listed=[] -> Q .normal a w) /\
  ∀ i∈Region.ready md ops listed,wpOp P ops Q i (λa' w'=>(dX D (listed.setIfInBounds i tQ)=tQ -> S w') /\ bV P md ops Q D S fuel (listed.setIfInBounds i tQ) a' w') a w
theorem mI:∀ (fuel:Nat) (listed:Array Bool) (a:Act) (w:wW),bV P md ops Q D S fuel listed a w -> wpAny P md ops Q fuel listed a w
 | 0,_,_,_,h=>h
 | fuel+1,_,_,_,h=>⟨h.1,λi hi=>wpOp_mono (λa' w' h'=>mI fuel _ a' w' h'.2) (h.2 i hi)⟩
theorem fY {D:List Nat} {s:Array Bool} {i:Nat} (hi:i∉D):dX D (s.setIfInBounds i tQ)=dX D s:=by
 unfold dX
 rw [Bool.eq_iff_iff,List.all_eq_true,List.all_eq_true]
 constructor
 ·intro h d hd
  have:=h d hd
  rwa [getD_set_ne tQ (λe=>hi (by rw [e];exact hd))] at this
 ·intro h d hd
  rw [getD_set_ne tQ (λe=>hi (by rw [e];exact hd))]
  exact h d hd
theorem xf {i:Nat} {oi:Oper} {v:Value} (hi:ops[i]?=sS oi) (hsel:∀ (j:Nat) (o:Oper) cs b,ops[j]?=sS o -> o.op≠.select cs b)
  (hQ:∀ c a w,Q (.panic c) (a.put oi.dst v) w -> Q (.panic c) a w) (hiD:i∉D) (hdep:∀ d∈D,∀ od,ops[d]?=sS od -> ∃ e∈od.after,Region.binds md e=tQ /\ e.on=i):
  ∀ (fuel:Nat) (listed:Array Bool) (a:Act) (w:wW),
   (∀ j oj,ops[j]?=sS oj -> j≠i -> listed.getD j tQ=fF -> (∀ e∈oj.after,Region.binds md e=tQ -> e.on≠i) -> oi.apart ops oj=tQ) ->
   i∈Region.ready md ops listed -> YieldsIf P ops S oi v a -> dX D listed=tQ -> S w ->
   bV P md ops Q D S fuel (listed.setIfInBounds i tQ) (a.put oi.dst v) w -> bV P md ops Q D S (fuel+1) listed a w:=by
 intro fuel
 induction fuel with
 | zero=>
  intro listed a w _ hr hy hU hS H
  refine ⟨λh=>(by rw [h] at hr;cases hr),λj hj=>?_⟩
  by_cases hji:j=i
  ·subst hji;exact hy.wpOp hi hS ⟨λ_=>hS,H⟩
  ·have:=ready_mono hj hji
   rw [H.1] at this
   cases this
 | succ fuel ih=>
  intro listed a w hfree hr hy hU hS H
  refine ⟨λh=>(by rw [h] at hr;cases hr),λj hj=>?_⟩
  by_cases hji:j=i
  ·subst hji;exact hy.wpOp hi hS ⟨λ_=>hS,H⟩
  ·have h1:=H.2 j (ready_mono hj hji)
   obtain ⟨hjun,oj,hoj,hall⟩:=mem_ready.1 hj
   have hnot:∀ e∈oj.after,Region.binds md e=tQ -> e.on≠i:=λe he hb heq=>by
    have h1:=hall e he hb
    have h0:=(mem_ready.1 hr).1
    rw [heq] at h1
    rcases Nat.lt_or_ge i listed.size with h'|h'
    ·simp [h'] at h0 h1;rw [h0] at h1;cases h1
    ·simp [Array.getElem?_eq_none h'] at h1
   have hjD:j∉D:=λhd=>by
    obtain ⟨e,he,hb,heq⟩:=hdep j hd oj hoj
    exact hnot e he hb heq
   have hU2:dX D (listed.setIfInBounds j tQ)=tQ:=by rw [fY hjD];exact hU
   have hU3:dX D ((listed.setIfInBounds i tQ).setIfInBounds j tQ)=tQ:=by rw [fY hjD,fY hiD];exact hU
   have h2:=wpOp_putIf hoj (hfree j oj hoj hji hjun hnot) (λcs b=>hsel i oi cs b hi) (λcs b=>hsel j oj cs b hoj) hQ hy h1
   have hfree':∀ k ok,ops[k]?=sS ok -> k≠i -> (listed.setIfInBounds j tQ).getD k tQ=fF ->
     (∀ e∈ok.after,Region.binds md e=tQ -> e.on≠i) -> oi.apart ops ok=tQ:=λk ok hk hki hun hno=>by
    refine hfree k ok hk hki ?_ hno
    by_cases hjk:j=k
    ·subst hjk;exact hjun
    ·rw [getD_set_ne tQ hjk] at hun;exact hun
   refine wpOp_mono (λa' w' h3=>⟨λ_=>h3.2.1 hU3,ih (listed.setIfInBounds j tQ) a' w' hfree' (ready_mono hr (Ne.symm hji)) h3.1 hU2 (h3.2.1 hU3) ?_⟩) h2
   rw [Array.setIfInBounds_comm _ _ hji]
   exact h3.2.2
theorem uK {i:Nat} {oi:Oper} {v:Value} (hi:ops[i]?=sS oi) (hsel:∀ (j:Nat) (o:Oper) cs b,ops[j]?=sS o -> o.op≠.select cs b)
  (hQ:∀ c a w,Q (.panic c) (a.put oi.dst v) w -> Q (.panic c) a w) (hiD:i∉D):
  ∀ (fuel:Nat) (listed:Array Bool) (a:Act) (w:wW),
   (∀ j oj,ops[j]?=sS oj -> j≠i -> listed.getD j tQ=fF -> (∀ e∈oj.after,Region.binds md e=tQ -> e.on≠i) -> oi.apart ops oj=tQ) ->
   i∈Region.ready md ops listed -> YieldsIf P ops (λ_=>True) oi v a -> (dX D listed=tQ -> S w) ->
   bV P md ops Q D S fuel (listed.setIfInBounds i tQ) (a.put oi.dst v) w -> bV P md ops Q D S (fuel+1) listed a w:=by
 intro fuel
 induction fuel with
 | zero=>
  intro listed a w _ hr hy hS H
  refine ⟨λh=>(by rw [h] at hr;cases hr),λj hj=>?_⟩
  by_cases hji:j=i
  ·subst hji;exact hy.wpOp hi trivial ⟨λh=>hS (by rw [fY hiD] at h;exact h),H⟩
  ·have:=ready_mono hj hji
   rw [H.1] at this
   cases this
 | succ fuel ih=>
  intro listed a w hfree hr hy hS H
  refine ⟨λh=>(by rw [h] at hr;cases hr),λj hj=>?_⟩
  by_cases hji:j=i
  ·subst hji;exact hy.wpOp hi trivial ⟨λh=>hS (by rw [fY hiD] at h;exact h),H⟩
  ·have h1:=H.2 j (ready_mono hj hji)
   obtain ⟨hjun,oj,hoj,hall⟩:=mem_ready.1 hj
   have hnot:∀ e∈oj.after,Region.binds md e=tQ -> e.on≠i:=λe he hb heq=>by
    have h1:=hall e he hb
    have h0:=(mem_ready.1 hr).1
    rw [heq] at h1
    rcases Nat.lt_or_ge i listed.size with h'|h'
    ·simp [h'] at h0 h1;rw [h0] at h1;cases h1
    ·simp [Array.getElem?_eq_none h'] at h1
   have h2:=wpOp_putIf hoj (hfree j oj hoj hji hjun hnot) (λcs b=>hsel i oi cs b hi) (λcs b=>hsel j oj cs b hoj) hQ hy h1
   have hfree':∀ k ok,ops[k]?=sS ok -> k≠i -> (listed.setIfInBounds j tQ).getD k tQ=fF ->
     (∀ e∈ok.after,Region.binds md e=tQ -> e.on≠i) -> oi.apart ops ok=tQ:=λk ok hk hki hun hno=>by
    refine hfree k ok hk hki ?_ hno
    by_cases hjk:j=k
    ·subst hjk;exact hjun
    ·rw [getD_set_ne tQ hjk] at hun;exact hun
   refine wpOp_mono (λa' w' h3=>?_) h2
   have hS2:dX D (listed.setIfInBounds j tQ)=tQ -> S w':=λhU=>h3.2.1 (by rw [Array.setIfInBounds_comm _ _ (Ne.symm hji),fY hiD];exact hU)
   refine ⟨hS2,ih (listed.setIfInBounds j tQ) a' w' hfree' (ready_mono hr (Ne.symm hji)) h3.1 hS2 ?_⟩
   rw [Array.setIfInBounds_comm _ _ hji]
   exact h3.2.2
theorem bB {i:Nat} {oi:Oper} {v:Value} {fuel:Nat} {listed:Array Bool} {a:Act} {w:wW} (hi:ops[i]?=sS oi)
  (hs:Region.noSelect ops=tQ) (hf:Region.free md ops listed i=tQ) (hr:(Region.ready md ops listed).contains i=tQ) (hD:(!D.contains i)=tQ)
  (hQ:∀ c a w,Q (.panic c) (a.put oi.dst v) w -> Q (.panic c) a w) (hy:YieldsIf P ops (λ_=>True) oi v a) (hS:dX D listed=tQ -> S w)
  (h:bV P md ops Q D S fuel (listed.setIfInBounds i tQ) (a.put oi.dst v) w):bV P md ops Q D S (fuel+1) listed a w:=
 uK hi (Region.noSelect_spec hs) hQ (by simpa using hD) fuel listed a w (Region.free_spec hi hf) (by simpa using hr) hy hS h
/-- The stores of D wait for operation i. -/
def AF (md:Region.Mode) (ops:Array Oper) (D:List Nat) (i:Nat):Bool:=!D.contains i&&D.all λd=>match ops[d]? with|none=>tQ|some od=>od.after.any λe=>Region.binds md e&&e.on==i
theorem yg {i:Nat} {oi:Oper} {v:Value} {fuel:Nat} {listed:Array Bool} {a:Act} {w:wW} (hi:ops[i]?=sS oi)
  (hs:Region.noSelect ops=tQ) (hf:Region.free md ops listed i=tQ) (hr:(Region.ready md ops listed).contains i=tQ) (hD:AF md ops D i=tQ) (hU:dX D listed=tQ)
  (hQ:∀ c a w,Q (.panic c) (a.put oi.dst v) w -> Q (.panic c) a w) (hy:YieldsIf P ops S oi v a) (hS:S w)
  (h:bV P md ops Q D S fuel (listed.setIfInBounds i tQ) (a.put oi.dst v) w):bV P md ops Q D S (fuel+1) listed a w:=by
 unfold AF at hD
 simp only [Bool.and_eq_true,Bool.not_eq_true',List.contains_eq_mem,decide_eq_false_iff_not,List.all_eq_true] at hD
 refine xf hi (Region.noSelect_spec hs) hQ hD.1 (λd hd od hod=>?_) fuel listed a w (Region.free_spec hi hf) (by simpa using hr) hy hU hS h
 have:=hD.2 d hd
 rw [hod] at this
 simp only [Array.any_eq_true,Bool.and_eq_true,beq_iff_eq] at this
 obtain ⟨x,hx,h1,h2⟩:=this
 exact ⟨od.after[x],Array.getElem_mem hx,h1,h2⟩
theorem aZ {listed:Array Bool} {a:Act} {w:wW} (hr:Region.ready md ops listed=[]) (h:Q .normal a w):∀ fuel,bV P md ops Q D S fuel listed a w
 | 0=>⟨hr,h⟩
 | _+1=>⟨λ_=>h,by rw [hr];simp⟩
def bg (P:Program) (md:Region.Mode) (ops:Array Oper) (Q:Exit -> Act -> wW -> Prop) (D:List Nat) (S:wW -> Prop) (fuel:Nat) (listed:Array Bool) (a:Act) (w:wW) (rs:List Nat):Prop:=
 ∀ i∈rs,wpOp P ops Q i (λa' w'=>(dX D (listed.setIfInBounds i tQ)=tQ -> S w') /\ bV P md ops Q D S fuel (listed.setIfInBounds i tQ) a' w') a w
theorem bg.nil {fuel:Nat} {listed:Array Bool} {a:Act} {w:wW}:bg P md ops Q D S fuel listed a w []:=λ_ h=>by cases h
theorem bg.cons {fuel:Nat} {listed:Array Bool} {a:Act} {w:wW} {i:Nat} {o:Oper} {rs:List Nat} (ho:ops[i]?=sS o)
  (h:∀ K':Act -> wW -> Prop,Shut (∀ a w,(dX D (listed.setIfInBounds i tQ)=tQ -> S w) -> bV P md ops Q D S fuel (listed.setIfInBounds i tQ) a w -> K' a w) -> if Region.wanted o (yielded ops a.tmps)=tQ then Oper.wp P o a w K' Q else K' (a.put o.dst undef) w)
  (hs:bg P md ops Q D S fuel listed a w rs):bg P md ops Q D S fuel listed a w (i :: rs):=λj hj=>by
 rcases List.mem_cons.1 hj with rfl|hj
 ·exact wpOp_step ho (λK' hK=>h K' (λa w hS hW=>hK a w ⟨hS,hW⟩))
 ·exact hs j hj
theorem fg {rs:List Nat} {fuel:Nat} {listed:Array Bool} {a:Act} {w:wW} (hr:Region.ready md ops listed=rs) (hne:rs≠[])
  (h:bg P md ops Q D S fuel listed a w rs):bV P md ops Q D S (fuel+1) listed a w:=⟨λh0=>absurd (hr ▸ h0) hne,hr ▸ h⟩
theorem bX (D:List Nat) (S:wW -> Prop) {id:Nat} {a:Act} {w:wW} (hm:P.follows .mixedOrders=tQ) (hS:S w.drew)
  (h:S w.drew -> bV P .any ops Q D S ops.size (Array.replicate ops.size fF) a w.drew):(Code.region id ops tQ).wp P Q a w:=
 wp_region_any hm (mI _ _ _ _ (h hS))
/-- An operation that yields in whatever world, taken first; what is to be checked is checked by itself. -/
theorem lp (i:Nat) {oi:Oper} {v:Value} {a':Act} {fuel:Nat} {listed:Array Bool} {a:Act} {w:wW} (hi:ops[i]?=sS oi:=by rfl)
  (hs:Region.noSelect ops=tQ:=by kernel_rfl) (hf:Region.free md ops listed i=tQ:=by kernel_rfl) (hr:(Region.ready md ops listed).contains i=tQ:=by kernel_rfl) (hD:(!D.contains i)=tQ:=by kernel_rfl)
  (hQ:∀ c a w,Q (.panic c) (a.put oi.dst v) w -> Q (.panic c) a w:=by exact λ_ _ _ h=>h) (hy:Region.wanted oi (yielded ops a.tmps)=tQ /\ ∀ w,True -> (execOp a.eval oi).run P w=.ok (.value v) w:=by exact ⟨by rfl,λw _=>by (go_simp<;>with_reducible rfl)⟩)
  (hS:S w:=by assumption) (ha:a.put oi.dst v=a':=by first|(simp only [Act.put,sA,sB,sC];done)|rfl)
  (h:bV P md ops Q D S fuel (listed.setIfInBounds i tQ) a' w):bV P md ops Q D S (fuel+1) listed a w:=by
 subst ha
 exact bB hi hs hf hr hD hQ (Or.inl hy) (λ_=>hS) h
/-- .. of a load that S tells. -/
theorem kU (i:Nat) {oi:Oper} {v:Value} {a':Act} {fuel:Nat} {listed:Array Bool} {a:Act} {w:wW} (hi:ops[i]?=sS oi:=by rfl)
  (hs:Region.noSelect ops=tQ:=by kernel_rfl) (hf:Region.free md ops listed i=tQ:=by kernel_rfl) (hr:(Region.ready md ops listed).contains i=tQ:=by kernel_rfl) (hD:AF md ops D i=tQ:=by kernel_rfl) (hU:dX D listed=tQ:=by kernel_rfl)
  (hQ:∀ c a w,Q (.panic c) (a.put oi.dst v) w -> Q (.panic c) a w:=by exact λ_ _ _ h=>h) (hy:Region.wanted oi (yielded ops a.tmps)=tQ /\ ∀ w,S w -> (execOp a.eval oi).run P w=.ok (.value v) w:=by exact ⟨by rfl,λw hSw=>by ((try dsimp only at hSw);(go_simp<;>with_reducible rfl))⟩)
  (hS:S w:=by assumption) (ha:a.put oi.dst v=a':=by first|(simp only [Act.put,sA,sB,sC];done)|rfl)
  (h:bV P md ops Q D S fuel (listed.setIfInBounds i tQ) a' w):bV P md ops Q D S (fuel+1) listed a w:=by
 subst ha
 exact yg hi hs hf hr hD hU hQ (Or.inl hy) hS h
/-- One operation alone may come up. -/
theorem lo (i:Nat) {fuel:Nat} {listed:Array Bool} {a:Act} {w:wW} {o:Oper} (hr:Region.ready md ops listed=[i]:=by kernel_rfl) (ho:ops[i]?=sS o:=by rfl)
  (h:∀ K':Act -> wW -> Prop,Shut (∀ a w,(dX D (listed.setIfInBounds i tQ)=tQ -> S w) -> bV P md ops Q D S fuel (listed.setIfInBounds i tQ) a w -> K' a w) -> if Region.wanted o (yielded ops a.tmps)=tQ then Oper.wp P o a w K' Q else K' (a.put o.dst undef) w):
  bV P md ops Q D S (fuel+1) listed a w:=
 fg hr sM (bg.cons ho h bg.nil)
/-- .. and is over. -/
theorem lk {i fuel:Nat} {listed:Array Bool} {K:Act -> wW -> Prop} (hK:Shut (∀ a w,(dX D (listed.setIfInBounds i tQ)=tQ -> S w) -> bV P md ops Q D S fuel (listed.setIfInBounds i tQ) a w -> K a w)) {a a':Act} {w:wW} (hS:S w)
  (ha:a=a':=by first|(simp only [Act.put,sA,sB,sC];done)|rfl) (h:bV P md ops Q D S fuel (listed.setIfInBounds i tQ) a' w):K a w:=by
 subst ha
 exact hK.out _ _ (λ_=>hS) h
end
end Go.Proofs.YtmiapbgkphpgoaaGreatDoor