/- Walks and plain laws of the kernel. No condition. -/
import Derived.Test.YtaakgpnmfkmdoaaGreatDoorKDM
import Derived.Test.YtaakgpnmfkmdoaaGreatDoorTimerM
import Derived.Test.YtaakgpnmfkmdoaaGreatDoorKEM
import Derived.Shelf.Lays
import Derived.Shelf.Small.Bits
import Derived.Test.YtaakgpnmfkmdoaaGreatDoorProg
import Derived.Deep.AppendSrc
import Derived.Test.YtaakgpnmfkmdoaaGreatDoorKAM
import Derived.Test.YtaakgpnmfkmdoaaGreatDoorBaseM
import Derived.OrdersHeld
import Derived.Deep.RegionHeld
namespace Go.Proofs.YtaakgpnmfkmdoaaGreatDoor
set_option linter.unusedVariables false
set_option linter.unusedSimpArgs false
set_option maxRecDepth 100000
set_option maxHeartbeats 20000000
open Go.RowKit
open Go.Proofs.Tryz renaming prog → tp
open List renaming setIfInBounds_toArray → sA, set_cons_zero → sB, set_cons_succ → sC
open Go renaming World → wW
open Go.Value renaming pointer → vp, bool → vb, int → vi
open Go.IntKind renaming i64 → iQ, u64 → uQ
open Option renaming none → nN, some → sS
open Bool renaming true → tQ, false → fF
open Int renaming eq_ofNat_of_zero_le → iN
def og (r:Nat):Nat -> Nat
 | 0=>0
 | n+1=>256 * og r n+r
theorem qQ (r n:Nat):og r (n+1)=256 * og r n+r:=rfl
theorem qy (a d M m:Nat) (hd:d<256) (hm:m<256):(256 * a+d) &&& (256 * M+m)=256 * (a &&& M)+(d &&& m):=by
 have hlt:d &&& m<256:=Nat.lt_of_le_of_lt Nat.and_le_left hd
 apply Nat.eq_of_testBit_eq
 intro i
 rw [Nat.testBit_and,show 256=2 ^ 8 from rfl,Nat.testBit_two_pow_mul_add _ hd,Nat.testBit_two_pow_mul_add _ hm,Nat.testBit_two_pow_mul_add _ hlt]
 split<;>simp
def Gb (n x:Nat):Nat:=(x / 2 &&& og 85 n)+(x &&& og 85 n)
def Kx (n x:Nat):Nat:=(x / 4 &&& og 51 n)+(x &&& og 51 n)
def Mn (n x:Nat):Nat:=(x / 16+x) &&& og 15 n
def Mo (d:Nat):Nat:=(d / 2 &&& 85)+(d &&& 85)
def MR (d:Nat):Nat:=(d / 4 &&& 51)+(d &&& 51)
def pD3 (d:Nat):Nat:=d / 16+d % 16
def CW (d:Nat):Nat:=pD3 (MR (Mo d))
theorem low1:∀ e:Fin 2,∀ d:Fin 256,(128 * e.val+d.val / 2) &&& 85=(d.val / 2) &&& 85:=by decide +kernel
theorem low2:∀ e:Fin 4,∀ d:Fin 256,(64 * e.val+d.val / 4) &&& 51=(d.val / 4) &&& 51:=by decide +kernel
theorem low3:∀ s:Fin 256,s.val &&& 15=s.val % 16:=by decide +kernel
theorem Hn:∀ d:Fin 256,Mo d.val<256 /\ MR (Mo d.val)<256 /\ MR (Mo d.val) % 16 <= 4 /\ MR (Mo d.val) / 16 <= 4 /\ CW d.val <= 8 /\ CW d.val=((List.range 8).filter λi=>d.val.testBit i).length:=by decide +kernel
theorem tC (n a d:Nat) (hd:d<256):Gb (n+1) (256 * a+d)=256 * Gb n a+Mo d:=by
 unfold Gb Mo
 rw [qQ]
 rw [show (256 * a+d) / 2=256 * (a / 2)+(128 * (a % 2)+d / 2) by omega,qy _ _ _ _ oM oM,qy _ _ _ _ hd oM]
 have:=low1 ⟨a % 2,by omega⟩ ⟨d,hd⟩
 simp only at this
 rw [this];omega
theorem yW (n a d:Nat) (hd:d<256):Kx (n+1) (256 * a+d)=256 * Kx n a+MR d:=by
 unfold Kx MR
 rw [qQ]
 rw [show (256 * a+d) / 4=256 * (a / 4)+(64 * (a % 4)+d / 4) by omega,qy _ _ _ _ oM oM,qy _ _ _ _ hd oM]
 have:=low2 ⟨a % 4,by omega⟩ ⟨d,hd⟩
 simp only at this
 rw [this];omega
theorem KU (n a d:Nat) (ha:a % 16 <= 4) (h1:d % 16 <= 4) (h2:d / 16 <= 4):Mn (n+1) (256 * a+d)=256 * Mn n a+pD3 d:=by
 unfold Mn pD3
 rw [qQ]
 have hlt:16 * (a % 16)+d / 16+d<256:=by omega
 rw [show (256 * a+d) / 16+(256 * a+d)=256 * (a / 16+a)+(16 * (a % 16)+d / 16+d) by omega,qy _ _ _ _ hlt oM]
 have:=low3 ⟨16 * (a % 16)+d / 16+d,hlt⟩
 simp only at this
 rw [this];omega
/-- Of n bytes: each one's count at its place. -/
def pT (n x:Nat):Nat:=Mn n (Kx n (Gb n x))
theorem KV:∀ n x:Nat,Kx n (Gb n x) % 16 <= 4
 | 0,x=>by simp [Gb,Kx,og]
 | n+1,x=>by
  have hd:x % 256<256:=Nat.mod_lt _ oM
  have h:=Hn ⟨x % 256,hd⟩
  simp only at h
  rw [show x=256 * (x / 256)+x % 256 by omega,tC _ _ _ hd,yW _ _ _ h.1]
  omega
theorem IW (n a d:Nat) (hd:d<256):pT (n+1) (256 * a+d)=256 * pT n a+CW d:=by
 have h:=Hn ⟨d,hd⟩
 simp only at h
 unfold pT CW
 rw [tC _ _ _ hd,yW _ _ _ h.1,KU _ _ _ (KV n a) h.2.2.1 h.2.2.2.1]
def zE (n x:Nat):Nat:=((List.range (8 * n)).filter λi=>x.testBit i).length
theorem Kk (n a d:Nat) (hd:d<256):zE (n+1) (256 * a+d)=zE n a+CW d:=by
 have h:=Hn ⟨d,hd⟩
 simp only at h
 unfold zE
 rw [h.2.2.2.2.2,show 8 * (n+1)=8+8 * n by omega,List.range_add,List.filter_append,List.length_append,List.filter_map,List.length_map,Nat.add_comm]
 congr 1
 ·congr 1
  apply List.filter_congr
  intro i _
  simp only [Function.comp]
  rw [show 256=2 ^ 8 from rfl,Nat.testBit_two_pow_mul_add _ hd,nG oM,Nat.add_sub_cancel_left]
 ·congr 1
  apply List.filter_congr
  intro i hi
  rw [show 256=2 ^ 8 from rfl,Nat.testBit_two_pow_mul_add _ hd,pG (List.mem_range.1 hi)]
def CV (t:Nat):Nat:=
 let a:=t+t / 256
 let b:=a+a / 65536
 (b+b / 4294967296) % 128
def KR (x:Nat):Nat:=CV (pT 8 x)
theorem Nt (x:Nat):zE 0 x=0:=rfl
theorem pT0 (x:Nat):pT 0 x=0:=by simp [pT,Mn,og]
theorem Eo (d:Nat) (hd:d<256):CW d <= 8:=(Hn ⟨d,hd⟩).2.2.2.2.1
theorem MJ (x:Nat) (hx:x<2 ^ 64):∃ d0 d1 d2 d3 d4 d5 d6 d7:Nat,d0 <= 8 /\ d1 <= 8 /\ d2 <= 8 /\ d3 <= 8 /\ d4 <= 8 /\ d5 <= 8 /\ d6 <= 8 /\ d7 <= 8 /\ pT 8 x=256 * (256 * (256 * (256 * (256 * (256 * (256 * d7+d6)+d5)+d4)+d3)+d2)+d1)+d0 /\ zE 8 x=d7+d6+d5+d4+d3+d2+d1+d0:=by
 have step:∀ n y:Nat,∃ a d:Nat,d <= 8 /\ a=y / 256 /\ pT (n+1) y=256 * pT n a+d /\ zE (n+1) y=zE n a+d:=by
  intro n y
  have hd:y % 256<256:=Nat.mod_lt _ oM
  refine ⟨y / 256,CW (y % 256),Eo _ hd,rfl,?_,?_⟩
  ·conv=>lhs;rw [show y=256 * (y / 256)+y % 256 by omega]
   exact IW _ _ _ hd
  ·conv=>lhs;rw [show y=256 * (y / 256)+y % 256 by omega]
   exact Kk _ _ _ hd
 obtain ⟨a0,d0,l0,e0,t0,c0⟩:=step 7 x
 obtain ⟨a1,d1,l1,e1,t1,c1⟩:=step 6 a0
 obtain ⟨a2,d2,l2,e2,t2,c2⟩:=step 5 a1
 obtain ⟨a3,d3,l3,e3,t3,c3⟩:=step 4 a2
 obtain ⟨a4,d4,l4,e4,t4,c4⟩:=step 3 a3
 obtain ⟨a5,d5,l5,e5,t5,c5⟩:=step 2 a4
 obtain ⟨a6,d6,l6,e6,t6,c6⟩:=step 1 a5
 obtain ⟨a7,d7,l7,e7,t7,c7⟩:=step 0 a6
 rw [pT0] at t7
 rw [Nt] at c7
 refine ⟨d0,d1,d2,d3,d4,d5,d6,d7,l0,l1,l2,l3,l4,l5,l6,l7,?_,?_⟩
 ·rw [t0,t1,t2,t3,t4,t5,t6,t7];omega
 ·rw [c0,c1,c2,c3,c4,c5,c6,c7];omega
theorem KO (d0 d1 d2 d3 d4 d5 d6 d7 t t1 a a1 b b1:Nat) (l0:d0 <= 8) (l1:d1 <= 8) (l2:d2 <= 8) (l3:d3 <= 8) (l4:d4 <= 8) (l5:d5 <= 8) (l6:d6 <= 8) (l7:d7 <= 8)
  (ht:t=256 * (256 * (256 * (256 * (256 * (256 * (256 * d7+d6)+d5)+d4)+d3)+d2)+d1)+d0) (h1:t1=t / 256) (h2:a=t+t1) (h3:a1=a / 65536) (h4:b=a+a1) (h5:b1=b / 4294967296):(b+b1) % 128=d7+d6+d5+d4+d3+d2+d1+d0:=by
 have e1:t1=256 * (256 * (256 * (256 * (256 * (256 * d7+d6)+d5)+d4)+d3)+d2)+d1:=by omega
 have e2:a=256 * (256 * (256 * (256 * (256 * (256 * (256 * d7+(d7+d6))+(d6+d5))+(d5+d4))+(d4+d3))+(d3+d2))+(d2+d1))+(d1+d0):=by omega
 clear h2 h1 ht e1
 have e3:a1=256 * (256 * (256 * (256 * (256 * d7+(d7+d6))+(d6+d5))+(d5+d4))+(d4+d3))+(d3+d2):=by omega
 have e4:b=256 * (256 * (256 * (256 * (256 * (256 * (256 * d7+(d7+d6))+(d7+d6+d5))+(d7+d6+d5+d4))+(d6+d5+d4+d3))+(d5+d4+d3+d2))+(d4+d3+d2+d1))+(d3+d2+d1+d0):=by omega
 clear h3 h4 e2 e3
 have e5:b1=256 * (256 * (256 * d7+(d7+d6))+(d7+d6+d5))+(d7+d6+d5+d4):=by omega
 omega
theorem KQ (x:Nat) (hx:x<2 ^ 64):KR x=(cd x).length:=by
 obtain ⟨d0,d1,d2,d3,d4,d5,d6,d7,l0,l1,l2,l3,l4,l5,l6,l7,ht,hc⟩:=MJ x hx
 have e:(cd x).length=zE 8 x:=by unfold cd zE;rw [List.length_map]
 rw [e,hc]
 exact KO d0 d1 d2 d3 d4 d5 d6 d7 (pT 8 x) _ _ _ _ _ l0 l1 l2 l3 l4 l5 l6 l7 ht rfl rfl rfl rfl rfl
theorem De:∀ n x:Nat,Gb n x+1 <= 256 ^ n
 | 0,x=>by simp [Gb,og]
 | n+1,x=>by
  have hd:x % 256<256:=Nat.mod_lt _ oM
  have h:=Hn ⟨x % 256,hd⟩
  have ih:=De n (x / 256)
  simp only at h
  rw [show x=256 * (x / 256)+x % 256 by omega,tC _ _ _ hd,Nat.pow_succ]
  omega
theorem Dd:∀ n x:Nat,255 * Kx n (Gb n x)+68 <= 68 * 256 ^ n
 | 0,x=>by simp [Gb,Kx,og]
 | n+1,x=>by
  have hd:x % 256<256:=Nat.mod_lt _ oM
  have h:=Hn ⟨x % 256,hd⟩
  have ih:=Dd n (x / 256)
  simp only at h
  rw [show x=256 * (x / 256)+x % 256 by omega,tC _ _ _ hd,yW _ _ _ h.1,Nat.pow_succ]
  omega
theorem LZ:∀ n x:Nat,255 * pT n x+8 <= 8 * 256 ^ n
 | 0,x=>by simp [pT0]
 | n+1,x=>by
  have hd:x % 256<256:=Nat.mod_lt _ oM
  have h:=Eo _ hd
  have ih:=LZ n (x / 256)
  rw [show x=256 * (x / 256)+x % 256 by omega,IW _ _ _ hd,Nat.pow_succ]
  omega
def kA:Nat:=6148914691236517205
def kB:Nat:=3689348814741910323
def kC:Nat:=1085102592571150095
theorem Mv:og 85 8=kA /\ og 51 8=kB /\ og 15 8=kC:=by decide +kernel
theorem kLt:kA<18446744073709551616 /\ kB<18446744073709551616 /\ kC<18446744073709551616:=by decide +kernel
def j1 (x:Int):Int:=IntKind.u64.wrap (bits .and .u64 (x / 2) 6148914691236517205+bits .and .u64 x 6148914691236517205)
def j2 (x:Int):Int:=IntKind.u64.wrap (bits .and .u64 (x / 4) 3689348814741910323+bits .and .u64 x 3689348814741910323)
def j3 (x:Int):Int:=bits .and .u64 (IntKind.u64.wrap (x / 16+x)) 1085102592571150095
def j4 (x:Int):Int:=IntKind.u64.wrap (x+x / 256)
def j5 (x:Int):Int:=IntKind.u64.wrap (x+x / 65536)
def j6 (x:Int):Int:=IntKind.u64.wrap (x+x / 4294967296)
def j7 (x:Int):Int:=bits .and .i64 (wrap64 x) 127
theorem xe (n:Nat) (h:n<18446744073709551616):IntKind.u64.wrap (n:Int)=n:=by rw [IntKind.wrap_u64];omega
theorem Nv (x:Nat) (h:x<18446744073709551616):bits .and .u64 (x:Int) 6148914691236517205=((x &&& kA:Nat):Int):=bits_and_u64_nat x kA h kLt.1
theorem Nu (x:Nat) (h:x<18446744073709551616):bits .and .u64 (x:Int) 3689348814741910323=((x &&& kB:Nat):Int):=bits_and_u64_nat x kB h kLt.2.1
theorem andC (x:Nat) (h:x<18446744073709551616):bits .and .u64 (x:Int) 1085102592571150095=((x &&& kC:Nat):Int):=bits_and_u64_nat x kC h kLt.2.2
theorem Np (x:Nat) (h:x<18446744073709551616):j1 x=(Gb 8 x:Nat):=by
 have hl:=De 8 x
 unfold j1
 rw [show ((x:Int) / 2)=((x / 2:Nat):Int) from rfl,Nv _ oM,Nv _ h]
 unfold Gb at hl ⊢
 rw [Mv.1] at hl ⊢
 rw [<- Int.natCast_add]
 exact xe _ oM
theorem Nn (y x:Nat) (h:x=Gb 8 y):j2 x=(Kx 8 x:Nat):=by
 have hl:=Dd 8 y
 have hl1:=De 8 y
 rw [<- h] at hl hl1
 unfold j2
 rw [show ((x:Int) / 4)=((x / 4:Nat):Int) from rfl,Nu _ oM,Nu _ oM]
 unfold Kx at hl ⊢
 rw [Mv.2.1] at hl ⊢
 rw [<- Int.natCast_add]
 exact xe _ oM
theorem Nl (x:Nat) (h:255 * x+68 <= 68 * 256 ^ 8):j3 x=(Mn 8 x:Nat):=by
 unfold j3
 rw [show ((x:Int) / 16)=((x / 16:Nat):Int) from rfl,<- Int.natCast_add,xe _ oM,andC _ oM]
 unfold Mn
 rw [Mv.2.2]
theorem j456 (t:Nat) (h:255 * t+8 <= 8 * 256 ^ 8):∃ v:Nat,j6 (j5 (j4 t))=v /\ v<9223372036854775808 /\ v % 128=CV t:=by
 have e4:j4 t=((t+t / 256:Nat):Int):=by
  unfold j4
  rw [show ((t:Int) / 256)=((t / 256:Nat):Int) from rfl,<- Int.natCast_add,xe _ oM]
 unfold CV
 simp only []
 generalize ha:t+t / 256=a at *
 have hal:65025 * a+2056 <= 2056 * 256 ^ 8:=by omega
 have e5:j5 (a:Int)=((a+a / 65536:Nat):Int):=by
  unfold j5
  rw [show ((a:Int) / 65536)=((a / 65536:Nat):Int) from rfl,<- Int.natCast_add,xe _ oM]
 generalize hb:a+a / 65536=b at *
 have hbl:b<600000000000000000:=by omega
 have e6:j6 (b:Int)=((b+b / 4294967296:Nat):Int):=by
  unfold j6
  rw [show ((b:Int) / 4294967296)=((b / 4294967296:Nat):Int) from rfl,<- Int.natCast_add,xe _ oM]
 rw [e4,e5,e6]
 exact ⟨_,rfl,by omega,rfl⟩
theorem Nk (v:Nat) (h:v<9223372036854775808):j7 v=((v % 128:Nat):Int):=by
 unfold j7
 have hw:wrap64 (v:Int)=v:=by unfold wrap64;omega
 rw [hw]
 have h1:(BitVec.ofInt 64 (v:Int)).toNat=v:=by
  rw [BitVec.ofInt_natCast,BitVec.toNat_ofNat];exact Nat.mod_eq_of_lt oM
 have h2:(BitVec.ofInt 64 (127:Int)).toNat=127:=by decide
 show IntKind.i64.wrap ((BitVec.ofInt 64 (v:Int) &&& BitVec.ofInt 64 127).toNat:Int)=_
 rw [BitVec.toNat_and,h1,h2,show (127:Nat)=2 ^ 7 - 1 from rfl,Nat.and_two_pow_sub_one_eq_mod,IntKind.wrap_i64]
 omega
theorem Nj (x:Nat) (h:x<2 ^ 64):j7 (j6 (j5 (j4 (j3 (j2 (j1 x))))))=(KR x:Nat):=by
 rw [Np x oM,Nn x _ rfl,Nl _ (Dd 8 x)]
 obtain ⟨v,e,hv,hm⟩:=j456 (pT 8 x) (LZ 8 x)
 show j7 (j6 (j5 (j4 ((pT 8 x:Nat):Int))))=_
 rw [e,Nk v hv,hm]
 rfl
theorem IZ (x:Nat) (hx:x<2 ^ 64) (w:wW):Calls tp 227 #[vi uQ x] w (ay (vi iQ (KR x)) w):=by
 have H:=zh (Nj x hx)
 go_in
 go_wp2
 go_ret
 refine ⟨?_,by repeat (first|exact aG.refl _|apply aG.drewN|apply aG.drew)⟩
 rw [<- H.out]
 rfl
theorem xS (m:Nat) (hm:m<2 ^ 64) (w:wW):Calls tp 141 #[vi uQ m] w (ay (vi iQ (cd m).length) w):=by
 rw [<- KQ m hm]
 have h:=λw=>IZ m hm w
 generalize KR m=n at *
 go_in
 go_wp2_with (go_at_call 227;refine (h _).r λk=>?_)
 go_ret
 exact ay.of (rfl) dz
theorem FU (pg:Nat -> Nat) {i:Nat} (hi:i<12):(lS pg)[i]?=sS (.int .u8 (pg i:Nat)):=
 ij (k:=1) (j:=0) (λ_=>rfl) hi oM sM
theorem CZ (pg:Nat -> Nat):(lS pg)[12]?=sS (vi iQ 12):=nA (k:=1) (j:=0) (λ_=>rfl) sM
theorem FT (pg:Nat -> Nat) {i:Nat} (hi:i<12) (x:Nat):(lS pg).setIfInBounds i (.int .u8 (x:Nat))=lS (ar pg i x):=by
 have:=ig (pre:=[]) (post:=[vi iQ 12]) (f:=λi=>[Value.int .u8 (pg i:Nat)]) (k:=1) (n:=12) (i:=i) (j:=0) (λ_=>rfl) hi oM (.int .u8 (x:Nat)) (o:=i) sM
 unfold lS
 rw [this]
 congr 1
 funext j
 by_cases e:j=i
 ·subst e;rw [ah,ah];rfl
 ·rw [al _ _ e,al _ _ e]
/-- The first page that is so; -1: there is none. -/
def dK (f:Nat -> Bool) (pg:Nat -> Nat):Int:=match (List.range 12).find? λi=>f (pg i) with|some i=>(i:Nat)|none=>-1
def fy (x:Nat):Bool:=decide (x≠0)&&decide (x≠255)
def fS (x:Nat):Bool:=decide (x=0)
theorem AO {f:Nat -> Bool} {pg:Nat -> Nat} {j:Nat} (hj:j<12) (hlo:∀ i,i<j -> f (pg i)=fF) (h:f (pg j)=tQ):dK f pg=j:=by
 unfold dK
 have:(List.range 12).find? (λi=>f (pg i))=sS j:=by
  rw [List.find?_eq_some_iff_getElem]
  exact ⟨h,j,by simpa using hj,by simp,λi hi=>by simp [hlo i hi]⟩
 rw [this]
theorem AN {f:Nat -> Bool} {pg:Nat -> Nat} (h:∀ i,i<12 -> f (pg i)=fF):dK f pg=-1:=by
 unfold dK
 have:(List.range 12).find? (λi=>f (pg i))=none:=by
  rw [List.find?_eq_none]
  intro x hx
  simp [h x (List.mem_range.1 hx)]
 rw [this]
theorem xz {pg:Nat -> Nat}:wH pg=if 0 <= dK fy pg then sS (dK fy pg).toNat else if 0 <= dK fS pg then sS (dK fS pg).toNat else none:=by
 have e1:(List.range 12).find? (λi=>decide (pg i≠0)&&decide (pg i≠255))=(List.range 12).find? (λi=>fy (pg i)):=rfl
 have e2:(List.range 12).find? (λi=>decide (pg i=0))=(List.range 12).find? (λi=>fS (pg i)):=rfl
 unfold wH dK
 rw [e1,e2]
 cases (List.range 12).find? (λi=>fy (pg i)) with
 | some i=>simp
 | none=>
  cases (List.range 12).find? (λi=>fS (pg i)) with
  | some i=>simp
  | none=>simp
theorem oY (f:Nat -> Bool) (pg:Nat -> Nat):-1 <= dK f pg /\ dK f pg<12 /\ (0 <= dK f pg -> f (pg (dK f pg).toNat)=tQ):=by
 unfold dK
 cases h:(List.range 12).find? (λi=>f (pg i)) with
 | some i=>
  have h1:=List.mem_range.1 (List.mem_of_find?_eq_some h)
  have h2:=List.find?_some h
  simp only []
  refine ⟨by omega,by omega,λ_=>?_⟩
  simpa using h2
 | none=>exact ⟨by simp,by simp,by simp⟩
theorem tB {pg:Nat -> Nat} (hpg:∀ i,pg i<256) {i:Nat} (h:wH pg=sS i):i<12 /\ pg i≠255:=by
 rw [xz] at h
 have h1:=oY fy pg
 have h2:=oY fS pg
 split at h
 ·rename_i h0
  cases h
  refine ⟨by omega,?_⟩
  have:=h1.2.2 h0
  generalize pg (dK fy pg).toNat=x at *
  unfold fy at this
  simp at this
  exact this.2
 ·split at h
  ·rename_i h0
   cases h
   refine ⟨by omega,?_⟩
   have:=h2.2.2 h0
   generalize pg (dK fS pg).toNat=x at *
   unfold fS at this
   simp at this
   omega
  ·cases h
theorem Ab:∀ x:Fin 256,Lib.trailingZeros8 (255 - x.val)=fQ x.val /\ (x.val≠255 -> fQ x.val<8 /\ x.val ||| 2 ^ fQ x.val<256):=by decide +kernel
theorem oZ {x:Nat} (h:x<256) (h2:x≠255):fQ x<8 /\ x ||| 2 ^ fQ x<256:=(Ab ⟨x,h⟩).2 h2
theorem Me {x:Nat} (h:x<256):Lib.trailingZeros8 (255 - x)=fQ x:=(Ab ⟨x,h⟩).1
theorem Nc:∀ k:Fin 8,∀ x:Fin 256,(x.val &&& 2 ^ k.val=0↔x.val.testBit k.val=fF) /\ x.val ^^^ (x.val &&& 2 ^ k.val)<256 /\ (x.val.testBit k.val=tQ -> x.val ^^^ (x.val &&& 2 ^ k.val)=x.val ^^^ 2 ^ k.val):=by decide +kernel
end Go.Proofs.YtaakgpnmfkmdoaaGreatDoor
namespace Go.Proofs
open Go.Shelf
def YtaakgpnmfkmdoaaGreatDoor.tz8L_ren:Go.Shelf.Ren:=⟨fun|136=>320|n=>n,fun|5=>5|3=>3|9=>9|n=>n,fun|n=>n⟩
theorem YtaakgpnmfkmdoaaGreatDoor.tz8L:Go.Proofs.Lays.n136 Tryz.prog YtaakgpnmfkmdoaaGreatDoor.tz8L_ren:={
 mixed:=by kernel_rfl
 f136:=Tryz.func320.trans (congrArg some (by kernel_rfl))
 t3:=Tryz.underlying3
 a3:=Tryz.isAgg3
 z3:=Tryz.sizeOf3
 v3:=Tryz.zeroValue3
 t5:=Tryz.underlying5
 a5:=Tryz.isAgg5
 z5:=Tryz.sizeOf5
 v5:=Tryz.zeroValue5
 t9:=Tryz.underlying9
 a9:=Tryz.isAgg9
 z9:=Tryz.sizeOf9
 v9:=Tryz.zeroValue9 }
end Go.Proofs
namespace Go.Proofs.YtaakgpnmfkmdoaaGreatDoor
set_option linter.unusedVariables false
set_option linter.unusedSimpArgs false
set_option maxRecDepth 100000
set_option maxHeartbeats 20000000
open Go.RowKit
open Go.Proofs.Tryz renaming prog → tp
open List renaming setIfInBounds_toArray → sA, set_cons_zero → sB, set_cons_succ → sC
open Go renaming World → wW
open Go.Value renaming pointer → vp, bool → vb, int → vi
open Go.IntKind renaming i64 → iQ, u64 → uQ
open Option renaming none → nN, some → sS
open Bool renaming true → tQ, false → fF
open Int renaming eq_ofNat_of_zero_le → iN
section
variable {w u:wW} {p:Nat} {pg:Nat -> Nat}
def dD (w:wW) (p:Nat) (pg:Nat -> Nat):Prop:=w.heap[p]?=sS (.cells (lS pg) 263 (0,0))
theorem dD.cell (h:dD w p pg) {i:Nat} (hi:i<12):w.cell? ⟨p,i,nN⟩=sS (.int .u8 (pg i:Nat)):=by rw [ad h i];exact FU pg hi
theorem dD.many (h:dD w p pg):w.cell? ⟨p,12,nN⟩=sS (vi iQ 12):=by rw [ad h 12];exact CZ pg
theorem dD.keep {S:List Nat} (h:dD w p pg) (m:af S w u) (hS:p∉S):dD u p pg:=m.keep h hS
theorem CY (x:Nat) (w:wW):Calls tp 318 #[.int .u8 (x:Nat)] w (ay (vb (fy x)) w):=by
 have hv:fy x=(!((x:Int)==0)&&!((x:Int)==255)):=by
  unfold fy
  rw [Bool.eq_iff_iff];simp;omega
 rw [hv]
 cases h0:((x:Int)==0)
 ·have h1:((x:Int) != 0)=tQ:=by simp [bne,h0]
  go_in
  go_wp2
  go_ret
  refine ⟨?_,by repeat (first|exact aG.refl _|apply aG.drewN|apply aG.drew)⟩
  first|rfl|simp [bne]
 ·have h1:((x:Int) != 0)=fF:=by simp [bne,h0]
  go_in
  go_wp2
  go_ret
  refine ⟨?_,by repeat (first|exact aG.refl _|apply aG.drewN|apply aG.drew)⟩
  first|rfl|simp [bne]
theorem CX (x:Nat) (w:wW):Calls tp 319 #[.int .u8 (x:Nat)] w (ay (vb (fS x)) w):=by
 have hv:fS x=((x:Int)==0):=by
  unfold fS
  rw [Bool.eq_iff_iff];simp
 rw [hv]
 go_in
 go_wp2
 go_ret
 exact ay.of (rfl) dz
theorem oh (h:dD w p pg):Calls tp 317 #[vp (sS ⟨p,0,nN⟩),.func (.func 318) #[] #[]] w (ay (vi iQ (dK fy pg)) w):=by
 have c12:=h.many
 go_in
 go_wp2
 go_loopg [10] 12 (λgg i wr=>∃ (j:Nat),i=vi iQ j /\ j+gg=12 /\ aG w wr /\ ∀ i,i<j -> fy (pg i)=fF)
 case atStart=>exact ⟨0,rfl,by omega,aG.refl _,λi hi=>by omega⟩
 case round=>
  obtain ⟨j,rfl,hj,hD,hlo⟩:=hrel
  by_cases hlt:j<12
  ·have hltI:(j:Int)<12:=by omega
   have cj:=(h.keep (hD.mod (S:=[])) sM).cell hlt
   have hR:=λw=>CY (pg j) w
   have hlo':=zh hlo
   clear hlo c12
   cases hr:fy (pg j)
   ·rw [hr] at hR
    have hr':=zh hr
    clear hr
    generalize hxx:pg j=x at *
    have HX:=zh hxx
    clear h hxx
    go_wp2_with (go_at_call 318;refine (hR _).r λk=>?_)
    go_roundg (gk - 1)
    case measure=>omega
    case rel=>
     refine ⟨j+1,by go_num,by omega,hD.drewN _,λi hi=>?_⟩
     by_cases e:i=j
     ·subst e;rw [HX.out];exact hr'.out
     ·exact hlo'.out i oM
   ·rw [hr] at hR
    have hf:=zh (AO (f:=fy) hlt hlo'.out hr)
    clear hr
    generalize pg j=x at *
    clear h
    go_wp2_with (go_at_call 318;refine (hR _).r λk=>?_)
    go_ret
    rw [hf.out]
    exact ⟨rfl,hD.drewN _⟩
  ·have hltI:¬ (j:Int)<12:=by omega
   have hf:=zh (AN (f:=fy) (pg:=pg) (λi hi=>hlo i oM))
   clear hlo h c12
   go_wp2
   go_ret
   rw [hf.out]
   exact ⟨rfl,hD⟩
theorem uB (h:dD w p pg):Calls tp 317 #[vp (sS ⟨p,0,nN⟩),.func (.func 319) #[] #[]] w (ay (vi iQ (dK fS pg)) w):=by
 have c12:=h.many
 go_in
 go_wp2
 go_loopg [10] 12 (λgg i wr=>∃ (j:Nat),i=vi iQ j /\ j+gg=12 /\ aG w wr /\ ∀ i,i<j -> fS (pg i)=fF)
 case atStart=>exact ⟨0,rfl,by omega,aG.refl _,λi hi=>by omega⟩
 case round=>
  obtain ⟨j,rfl,hj,hD,hlo⟩:=hrel
  by_cases hlt:j<12
  ·have hltI:(j:Int)<12:=by omega
   have cj:=(h.keep (hD.mod (S:=[])) sM).cell hlt
   have hR:=λw=>CX (pg j) w
   have hlo':=zh hlo
   clear hlo c12
   cases hr:fS (pg j)
   ·rw [hr] at hR
    have hr':=zh hr
    clear hr
    generalize hxx:pg j=x at *
    have HX:=zh hxx
    clear h hxx
    go_wp2_with (go_at_call 319;refine (hR _).r λk=>?_)
    go_roundg (gk - 1)
    case measure=>omega
    case rel=>
     refine ⟨j+1,by go_num,by omega,hD.drewN _,λi hi=>?_⟩
     by_cases e:i=j
     ·subst e;rw [HX.out];exact hr'.out
     ·exact hlo'.out i oM
   ·rw [hr] at hR
    have hf:=zh (AO (f:=fS) hlt hlo'.out hr)
    clear hr
    generalize pg j=x at *
    clear h
    go_wp2_with (go_at_call 319;refine (hR _).r λk=>?_)
    go_ret
    rw [hf.out]
    exact ⟨rfl,hD.drewN _⟩
  ·have hltI:¬ (j:Int)<12:=by omega
   have hf:=zh (AN (f:=fS) (pg:=pg) (λi hi=>hlo i oM))
   clear hlo h c12
   go_wp2
   go_ret
   rw [hf.out]
   exact ⟨rfl,hD⟩
end
theorem Mp:∀ x:Fin 256,∀ k:Fin 8,bits .or .u8 (x.val:Int) (((2:Int) ^ k.val % 256))=((x.val ||| 2 ^ k.val:Nat):Int) /\ bits .and .u8 (x.val:Int) (((2:Int) ^ k.val % 256))=((x.val &&& 2 ^ k.val:Nat):Int) /\ bits .andNot .u8 (x.val:Int) (((2:Int) ^ k.val % 256))=((x.val ^^^ (x.val &&& 2 ^ k.val):Nat):Int) /\ ((2:Int) ^ k.val % 256)=((2 ^ k.val:Nat):Int):=by decide +kernel
theorem Ew:∀ x:Fin 256,bits .xor .u8 IntKind.u8.max (x.val:Int)=((255 - x.val:Nat):Int):=by decide +kernel
theorem tM {x k:Nat} (hx:x<256) (hk:k<8):bits .or .u8 (x:Int) (((2:Int) ^ k % 256))=((x ||| 2 ^ k:Nat):Int) /\ bits .and .u8 (x:Int) (((2:Int) ^ k % 256))=((x &&& 2 ^ k:Nat):Int) /\ bits .andNot .u8 (x:Int) (((2:Int) ^ k % 256))=((x ^^^ (x &&& 2 ^ k):Nat):Int) /\ ((2:Int) ^ k % 256)=((2 ^ k:Nat):Int):=Mp ⟨x,hx⟩ ⟨k,hk⟩
section
variable {F:List Nat} {w u:wW} {p:Nat} {pg:Nat -> Nat}
def fz (p:Nat) (pg:Nat -> Nat):ao:=ao.blk p (.cells (lS pg) 263 (0,0))
theorem fz.turn (h:(fz p pg).holds F w) (d:aG w u) {i:Nat} (hi:i<12) (x:Nat):dN (fz p (ar pg i x)) F w (u.setCell ⟨p,i,nN⟩ (.int .u8 (x:Nat))):=by
 obtain ⟨rfl,h2⟩:=h
 refine ⟨[p],⟨rfl,?_⟩,(d.mod (S:=[p])).setCell sM _,λb hb=>.inl hb⟩
 rw [bm (c:=lS pg) (by rw [d.heap];exact h2),FT pg hi]
theorem fz.same (h:(fz p pg).holds F w) (d:aG w u):dN (fz p pg) F w u:=⟨F,(fz p pg).keep h (d.mod (S:=[])) sM,d.mod,λb hb=>.inl hb⟩
theorem Ep (x:Nat) (hx:x<256) (w:wW):Calls tp 320 #[.int .u8 ((255 - x:Nat):Int)] w (ay (vi iQ (fQ x)) w):=by
 refine Calls.mono (show Calls tp 320 _ _ _ from Any.bits_TrailingZeros8 tz8L ((255 - x:Nat):Int) w oM oM) ?_
 rintro e w' ⟨rfl,rfl⟩
 rw [Int.toNat_natCast,Me hx]
 exact ⟨rfl,aG.refl _⟩
def nB (p:Nat) (pg:Nat -> Nat) (i:Nat) (F:List Nat) (w:wW) (e:Ending) (w':wW):Prop:=aq (fz p (ar pg i (pg i ||| 2 ^ fQ (pg i)))) F (.tuple #[vi iQ (i * 8+fQ (pg i)+1:Nat),vi iQ 0]) w e w'
theorem AK (h:(fz p pg).holds F w) (hpg:∀ i,pg i<256) (i:Nat) (hi:i<12) (h255:pg i≠255) (h1:dK fy pg=i):Calls tp 277 #[vp (sS ⟨p,0,nN⟩)] w (nB p pg i F w):=by
 have hf1:=oh (show dD w p pg from h.2)
 rw [h1] at hf1
 clear h1
 have hx:pg i<256:=hpg i
 obtain ⟨hb8,_⟩:=oZ hx h255
 have hnot:=Ew ⟨pg i,hx⟩
 simp only at hnot
 have htz:=λw=>Ep (pg i) hx w
 rw [<- hnot] at htz
 have hor:=(tM hx hb8).1
 have hP:dD w p pg:=h.2
 have ci:=λk=>(hP.keep (u:=w.drewN k) (S:=[]) (mR.drewN k) sM).cell hi
 have hfin:=zh (λu d=>fz.turn (u:=u) h d hi (pg i ||| 2 ^ fQ (pg i)))
 have hF:=λk=>(show (w.drewN k).frozen? ⟨p,i,nN⟩=fF from aD hP i)
 have hlt:=λk=>(show p<(w.drewN k).heap.size from cq hP)
 have hiI:(i:Int)<12:=by omega
 have hv:((i:Int) * 8+(fQ (pg i):Nat)+1)=((i * 8+fQ (pg i)+1:Nat):Int):=by omega
 have HV:=zh hv
 have HO:=zh hor
 clear hnot hor hv
 unfold nB
 generalize fQ (pg i)=z at *
 generalize hxx:pg i=x at *
 clear hxx hP
 go_in
 go_wp2_with (first|(go_at_call 317;refine hf1.r λk1=>?_;have ci:=ci k1;have hF:=hF k1;have hlt:=hlt k1)|fail|(go_at_call 320;refine (htz _).r λk3=>?_))
 go_region
 go_wp2
 go_ret2
 rw [HO.out]
 refine ⟨by rw [HV.out];rfl,?_⟩
 exact hfin.out _ dz
theorem AJ (h:(fz p pg).holds F w) (hpg:∀ i,pg i<256) (i:Nat) (hi:i<12) (h255:pg i≠255) (h1:dK fy pg=-1) (h2:dK fS pg=i):Calls tp 277 #[vp (sS ⟨p,0,nN⟩)] w (nB p pg i F w):=by
 have hf1:=oh (show dD w p pg from h.2)
 have hf2:=λk=>uB ((show dD w p pg from h.2).keep (u:=w.drewN k) (S:=[]) (mR.drewN k) sM)
 rw [h1] at hf1
 rw [h2] at hf2
 clear h1 h2
 have hx:pg i<256:=hpg i
 obtain ⟨hb8,_⟩:=oZ hx h255
 have hnot:=Ew ⟨pg i,hx⟩
 simp only at hnot
 have htz:=λw=>Ep (pg i) hx w
 rw [<- hnot] at htz
 have hor:=(tM hx hb8).1
 have hP:dD w p pg:=h.2
 have ci:=λk=>(hP.keep (u:=w.drewN k) (S:=[]) (mR.drewN k) sM).cell hi
 have hfin:=zh (λu d=>fz.turn (u:=u) h d hi (pg i ||| 2 ^ fQ (pg i)))
 have hF:=λk=>(show (w.drewN k).frozen? ⟨p,i,nN⟩=fF from aD hP i)
 have hlt:=λk=>(show p<(w.drewN k).heap.size from cq hP)
 have hiI:(i:Int)<12:=by omega
 have hv:((i:Int) * 8+(fQ (pg i):Nat)+1)=((i * 8+fQ (pg i)+1:Nat):Int):=by omega
 have HV:=zh hv
 have HO:=zh hor
 clear hnot hor hv
 unfold nB
 generalize fQ (pg i)=z at *
 generalize hxx:pg i=x at *
 clear hxx hP
 go_in
 go_wp2_with (first|(go_at_call 317;refine hf1.r λk1=>?_;have hf2:=hf2 k1;clear hf1)|(go_at_call 317;refine hf2.r λk2=>?_;have ci:=ci (k1+k2);have hF:=hF (k1+k2);have hlt:=hlt (k1+k2);clear hf2)|(go_at_call 320;refine (htz _).r λk3=>?_))
 go_region
 go_wp2
 go_ret2
 rw [HO.out]
 refine ⟨by rw [HV.out];rfl,?_⟩
 exact hfin.out _ dz
theorem FQ (h:(fz p pg).holds F w) (hpg:∀ i,pg i<256):Calls tp 277 #[vp (sS ⟨p,0,nN⟩)] w (aq (fz p (iv pg)) F (.tuple #[vi iQ (eP pg),vi iQ (cQ pg)]) w):=by
 have l1:=oY fy pg
 have l2:=oY fS pg
 have hat:=xz (pg:=pg)
 have got:∀ i,wH pg=sS i -> nB p pg i F w=aq (fz p (iv pg)) F (.tuple #[vi iQ (eP pg),vi iQ (cQ pg)]) w:=by
  intro i hi
  unfold iv eP cQ nB
  rw [hi]
  rfl
 by_cases h1:0 <= dK fy pg
 ·rw [pG h1] at hat
  obtain ⟨hi,h255⟩:=tB hpg hat
  rw [<- got _ hat]
  exact AK h hpg _ hi h255 oM
 rw [nG h1] at hat
 by_cases h2:0 <= dK fS pg
 ·rw [pG h2] at hat
  obtain ⟨hi,h255⟩:=tB hpg hat
  rw [<- got _ hat]
  exact AJ h hpg _ hi h255 oM oM
 rw [nG h2] at hat
 have e1:iv pg=pg:=by unfold iv;rw [hat]
 have e2:eP pg=0:=by unfold eP;rw [hat]
 have e3:cQ pg=5:=by unfold cQ;rw [hat];rfl
 rw [e1,e2,e3]
 have hf1:=oh (show dD w p pg from h.2)
 have hf2:=λk=>uB ((show dD w p pg from h.2).keep (u:=w.drewN k) (S:=[]) (mR.drewN k) sM)
 rw [show dK fy pg=-1 by omega] at hf1
 rw [show dK fS pg=-1 by omega] at hf2
 have H:=zh (λu (d:aG w u)=>fz.same h d)
 clear l1 l2 hat got h1 h2 e1 e2 e3
 go_in
 go_wp2_with (first|(go_at_call 317;refine hf1.r λk1=>?_;have hf2:=hf2 k1;clear hf1)|(go_at_call 317;refine hf2.r λk2=>?_;clear hf2))
 go_ret2
 exact ⟨rfl,H.out _ dz⟩
/-- An object's page, and its bit there. -/
def bZ (id:Int):Nat:=if 1 <= id /\ id <= 96 then (id - 1).toNat / 8 else 0
def dt (id:Int):Nat:=if 1 <= id /\ id <= 96 then 2 ^ ((id - 1).toNat % 8) else 0
theorem AI (hP:dD w p pg) (id:Int):Calls tp 321 #[vp (sS ⟨p,0,nN⟩),vi iQ id] w (ay (.tuple #[vi iQ (bZ id:Nat),.int .u8 (dt id:Nat)]) w):=by
 have c12:=hP.many
 unfold bZ dt
 by_cases h:1 <= id /\ id <= 96
 ·rw [pG h,pG h]
  obtain ⟨h1,h2⟩:=h
  obtain ⟨n,rfl⟩:∃ n:Nat,id=(n:Int)+1:=⟨(id - 1).toNat,by omega⟩
  have e1:((n:Int)+1 - 1).toNat=n:=by omega
  rw [e1]
  have hd:((n:Int)+1 - 1).tdiv 8=((n / 8:Nat):Int):=by rw [Int.tdiv_eq_ediv_of_nonneg oM];omega
  have hm:((n:Int)+1 - 1).tmod 8=((n % 8:Nat):Int):=by rw [Int.tmod_eq_emod_of_nonneg oM];omega
  have hw:=zh (tM (x:=0) (k:=n % 8) oM oM).2.2.2
  clear hP e1
  go_in
  go_wp2
  go_quiet (fail)
  go_wp2
  go_ret2
  refine ⟨?_,by repeat (first|exact aG.refl _|apply aG.drewN|apply aG.drew)⟩
  first|rfl|(rw [<- hw.out];rfl)
 ·rw [nG h,nG h]
  have h2:id<1 \/ (¬ id<1 /\ 96<id):=by omega
  clear h hP
  rcases h2 with h2|⟨h1,h2⟩
  all_goals
   go_in
   go_wp2
   go_ret2
   exact ay.of (rfl) dz
theorem Dc (pg:Nat -> Nat) (hpg:∀ i,pg i<256) (id:Int):jH pg id=(decide (1 <= id /\ id <= 96)&&!decide (pg (bZ id) &&& dt id=0)):=by
 unfold jH bZ dt
 by_cases h:1 <= id /\ id <= 96
 ·rw [pG h,pG h]
  have:=(Nc ⟨(id - 1).toNat % 8,by omega⟩ ⟨pg ((id - 1).toNat / 8),hpg _⟩).1
  simp only at this
  simp only [h,this]
  cases (pg ((id - 1).toNat / 8)).testBit ((id - 1).toNat % 8)<;>simp
 ·simp [h]
theorem xx (id:Int):bZ id<12:=by unfold bZ;split<;>omega
theorem xy (x:Nat) (hx:x<256) (id:Int) (h:1 <= id /\ id <= 96):dt id≠0 /\ dt id<256 /\ bits .and .u8 (x:Int) (dt id:Nat)=((x &&& dt id:Nat):Int) /\ bits .andNot .u8 (x:Int) (dt id:Nat)=((x ^^^ (x &&& dt id):Nat):Int):=by
 unfold dt
 rw [pG h]
 have hk:(id - 1).toNat % 8<8:=by omega
 generalize (id - 1).toNat % 8=k at *
 obtain ⟨_,h2,h3,h4⟩:=tM hx hk
 rw [h4] at h2 h3
 refine ⟨?_,?_,h2,h3⟩
 ·have:=Nat.two_pow_pos k;omega
 ·have:=Nat.pow_lt_pow_right (a:=2) oM hk;omega
theorem AL (hP:dD w p pg) (hpg:∀ i,pg i<256) (id:Int):Calls tp 278 #[vp (sS ⟨p,0,nN⟩),vi iQ id] w (ay (vb (jH pg id)) w):=by
 rw [Dc pg hpg]
 have hB:=AI hP id
 have hl:=xx id
 have ci:=λk=>(hP.keep (u:=w.drewN k) (S:=[]) (mR.drewN k) sM).cell hl
 by_cases h:1 <= id /\ id <= 96
 ·obtain ⟨h0,_,h1,_⟩:=xy (pg (bZ id)) (hpg _) id h
  rw [decide_eq_true h,Bool.true_and]
  have h0b:(((dt id:Nat):Int) != 0)=tQ:=by rw [bne_iff_ne];omega
  have hll:((bZ id:Nat):Int)<12:=by omega
  have H:=zh h1
  clear h1 h0 h hP
  generalize pg (bZ id)=x at *
  generalize dt id=m at *
  generalize bZ id=q at *
  go_in
  go_wp2_with (go_at_call 321;refine hB.r λk=>?_;have ci:=ci k)
  go_ret
  refine ⟨?_,by repeat (first|exact aG.refl _|apply aG.drewN|apply aG.drew)⟩
  rw [H.out]
  rw [show (((x &&& m:Nat):Int) != 0)=!decide (x &&& m=0) by rw [Bool.eq_iff_iff];simp]
  rfl
 ·have hm0:dt id=0:=by unfold dt;rw [nG h]
  rw [decide_eq_false h,Bool.false_and]
  rw [hm0] at hB
  clear hm0 h hP
  generalize bZ id=q at *
  go_in
  go_wp2_with (go_at_call 321;refine hB.r λk=>?_;have ci:=ci k)
  go_ret
  exact ay.of (rfl) dz
theorem sw {pg:Nat -> Nat} (hpg:∀ i,pg i<256) {id:Int} (h:jH pg id=tQ):eX pg id=ar pg (bZ id) (pg (bZ id) ^^^ (pg (bZ id) &&& dt id)) /\ 1 <= id /\ id <= 96 /\ pg (bZ id) ^^^ (pg (bZ id) &&& dt id)<256:=by
 unfold eX
 rw [pG h]
 unfold jH at h
 simp only [Bool.and_eq_true,decide_eq_true_eq] at h
 obtain ⟨h1,h2⟩:=h
 unfold bZ dt
 rw [pG h1,pG h1]
 have:=Nc ⟨(id - 1).toNat % 8,by omega⟩ ⟨pg ((id - 1).toNat / 8),hpg _⟩
 simp only at this
 refine ⟨by rw [this.2.2 h2],h1.1,h1.2,this.2.1⟩
theorem FR (h:(fz p pg).holds F w) (hpg:∀ i,pg i<256) (id:Int):Calls tp 281 #[vp (sS ⟨p,0,nN⟩),vi iQ id] w (aq (fz p (eX pg id)) F (vi iQ (if jH pg id then 0 else 4)) w):=by
 have hP:dD w p pg:=h.2
 have hO:=AL hP hpg id
 cases ho:jH pg id
 ·rw [ho] at hO
  have e:eX pg id=pg:=by unfold eX;rw [ho];rfl
  rw [e]
  have H:=zh (λu (d:aG w u)=>fz.same h d)
  clear h hP ho e
  simp only [Bool.false_eq_true,if_false]
  go_in
  go_wp2_with (go_at_call 278;refine hO.r λk=>?_)
  go_ret
  exact ⟨rfl,H.out _ dz⟩
 ·obtain ⟨e,h1,h2,h3⟩:=sw hpg ho
  have hB:=λk=>AI (hP.keep (u:=w.drewN k) (S:=[]) (mR.drewN k) sM) id
  have hl:=xx id
  have ci:=λk=>(hP.keep (u:=w.drewN k) (S:=[]) (mR.drewN k) sM).cell hl
  have hF:=λk=>(show (w.drewN k).frozen? ⟨p,bZ id,nN⟩=fF from aD hP _)
  have hlt:=λk=>(show p<(w.drewN k).heap.size from cq hP)
  rw [ho] at hO
  rw [e]
  obtain ⟨h0,_,_,h5⟩:=xy (pg (bZ id)) (hpg _) id ⟨h1,h2⟩
  have hll:((bZ id:Nat):Int)<12:=by omega
  have hfin:=zh (λu d=>fz.turn (u:=u) h d hl (pg (bZ id) ^^^ (pg (bZ id) &&& dt id)))
  have H:=zh h5
  clear h5 h0 h hP ho e h3 h1 h2
  simp only [if_true]
  generalize hxx:pg (bZ id)=x at *
  generalize dt id=m at *
  generalize bZ id=q at *
  clear hxx
  go_in
  go_wp2_with (first|(go_at_call 278;refine hO.r λk=>?_;have hB:=hB k)|(go_at_call 321;refine hB.r λk2=>?_;have ci:=ci (k+k2);have hF:=hF (k+k2);have hlt:=hlt (k+k2)))
  go_region
  go_wp2
  go_ret
  rw [H.out]
  exact ⟨rfl,hfin.out _ dz⟩
end
theorem jb {P:Program} {w w':wW} {ops:Array Oper} {o:Oper} {a:Act} {K:Act -> wW -> Prop} {Q:Exit -> Act -> wW -> Prop} {E:Prop} (hgd:o.guard=nN) (s x:Operand) (t:TypeId)
  (ho:o.op=.call { callee:=.builtin .append,args:=#[s,x],argTypes:=#[t,t] }) {v u r:Value} (hs:a.eval s=v) (hx:a.eval x=u)
  (hr:(Builtin.append_ #[t,t] o.type #[v,u]).run P w=.ok r w') (h:K (a.put o.dst r) w'):if Region.wanted o (yielded ops a.tmps)=tQ then Oper.wp P o a w K Q else E:=by
 have hw:Region.wanted o (yielded ops a.tmps)=tQ:=by simp [Region.wanted,hgd]
 rw [pG hw]
 unfold Oper.wp execOp
 simp only [ho,resolve,invoke,builtin,Sem.run_bind,Sem.run_pure,Result.andThen_ok,List.map_toArray,List.map_cons,List.map_nil,hs,hx,hr]
 exact h
theorem BQ {w:wW} {a:Option Addr} {l:List Int} (hc:l=[] \/ ∃ b,a=sS ⟨b,0,nN⟩ /\ ∀ j,j<l.length -> w.cell? ⟨b,j,nN⟩=sS (vi iQ (ax l j))) (hl:l.length<1000) {B:Nat} {k:Int} (hb:w.heap[B]?=sS (.cells #[vi iQ k] 3 (0,0))):
  ∃ cap' w',(∀ ty,(Builtin.append_ #[143,143] ty #[.slice a l.length l.length,.slice (sS ⟨B,0,nN⟩) 1 1]).run tp w=.ok (.slice (sS ⟨w.heap.size,0,nN⟩) (l.length+1) cap') w') /\ fZ w' (sS w.heap.size) cap' (l++[k]) /\ af [] w w':=by
 obtain ⟨i,hi,hi2⟩:=Option.map_eq_some_iff.1 qc
 simp only [Prod.mk.injEq] at hi2
 obtain ⟨i1,i2,i3⟩:=hi2
 have hsrc:Src tp i.size 143 (.slice (sS ⟨B,0,nN⟩) 1 1) 1 [vi iQ k] w:=
  Src.ofSlice w Tryz.underlying143 ⟨B,0,nN⟩ 1 1 [vi iQ k] (by rw [i2];rfl) (World.news_of_block hb) (by simp [Value.oneCell'])
 have hold:(Builtin.firstCells i.size l.length (.slice a l.length l.length)).run tp w.drew=.ok (l.map (vi iQ)).toArray w.drew:=by
  cases a with
  | none=>
   have:l=[]:=by
    rcases hc with h|⟨b,h,_⟩
    ·exact h
    ·cases h
   subst this
   exact run_firstCells_none w.drew _ _ _ _
  | some a=>
   refine run_firstCells_some w.drew _ _ a _ _ _ (by rw [i2];simp) ?_
   intro j v hv
   have hj:j<l.length:=by
    have:=(List.getElem?_eq_some_iff.1 hv).1
    simpa using this
   rcases hc with h|⟨b,h,h2⟩
   ·subst h;simp at hj
   ·cases h
    have:=h2 j hj
    rw [List.getElem?_map,List.getElem?_eq_getElem hj] at hv
    simp only [Option.map_some,Option.some.injEq] at hv
    rw [<- hv]
    show w.cell? _=_
    have e:ax l j=l[j]:=by simp [ax,List.getD,hj]
    rw [e] at this
    by_cases hj0:j=0
    ·subst hj0;simpa [Addr.add] using this
    ·simpa [Addr.add,hj0] using this
 have hfit:Builtin.nextslicecap (l.length+1) l.length * i.bytes <= 281474976710656:=growslice_fits oM (by rw [i3];omega)
 have hrun:=λty=>run_append_grow_src (P:=tp) w 143 143 ty 3 i (vi iQ 0) Tryz.underlying143 hi i1 a l.length l.length (l.map (vi iQ)) hold _ 1 _ hsrc oM oM hfit
 have hge:=grownCap_ge w (l.length+1) l.length 3
 have hle:=grownCap_le_maxLen w (l.length+1) l.length 3 (by unfold maxLen;omega)
 refine ⟨_,_,λty=>hrun ty,?_,(mR.drew).alloc _⟩
 refine ⟨_,ai _ _,by simpa using hge,hle,?_,?_⟩
 ·simp [Builtin.zeroCells,Value.cells];omega
 ·have:(l++[k]).length=(l.map (vi iQ)++[vi iQ k]).length:=by simp
  rw [this,Array.toList_append,List.toList_toArray,List.take_left]
  simp
theorem kR.append {w:wW} {a:Option Addr} {cap:Nat} {l:List Int} {F:List Nat} (h:(kR a cap l).holds F w) (hl:l.length<1000) {B:Nat} {k:Int} (hb:w.heap[B]?=sS (.cells #[vi iQ k] 3 (0,0))):
  ∃ g' cap' w',(∀ ty,(Builtin.append_ #[143,143] ty #[.slice a l.length cap,.slice (sS ⟨B,0,nN⟩) 1 1]).run tp w=.ok (.slice (sS ⟨g',0,nN⟩) (l.length+1) cap') w') /\ dN (kR (sS ⟨g',0,nN⟩) cap' (l++[k])) F w w':=by
 rcases h with ⟨g,rfl,rfl,h3⟩|⟨rfl,h2⟩
 ·obtain ⟨g',cap',w',h1,h2,h4,h5⟩:=h3.append oM hb
  refine ⟨g',cap',w',h1,[g'],.inl ⟨sS g',rfl,rfl,h2⟩,h4,λx hx=>?_⟩
  rw [List.mem_singleton] at hx
  subst hx
  rcases h5 with h5|h5
  ·exact .inl h5
  ·exact .inr oM
 ·obtain ⟨cap',w',h1,h3,h4⟩:=BQ (a:=a) (l:=l) (by
   rcases h2 with ⟨h,_⟩|⟨b,h,_,_,h4⟩
   ·exact .inl h
   ·exact .inr ⟨b,h,h4⟩) hl hb
  exact ⟨_,cap',w',h1,[w.heap.size],.inl ⟨sS w.heap.size,rfl,rfl,h3⟩,h4.mono sM,λx hx=>.inr (by simp at hx;omega)⟩
theorem kG {n:Nat} {a:Nat -> Option Addr} {cap:Nat -> Nat} {q:Nat -> List Int} {c:Nat} (hc:c<n):(nQ n a cap q)[c]?=sS (.slice (a c) (q c).length (cap c)):=
 ij (k:=1) (j:=0) (λ_=>rfl) hc oM sM
theorem GV {n:Nat} {a:Nat -> Option Addr} {cap:Nat -> Nat} {q:Nat -> List Int} {c:Nat} (hc:c<n) (a':Option Addr) (cap':Nat) (l:List Int):(nQ n a cap q).setIfInBounds c (.slice a' l.length cap')=nQ n (ar a c a') (ar cap c cap') (ar q c l):=by
 have:=ig (pre:=[]) (post:=[]) (f:=λc=>[Value.slice (a c) (q c).length (cap c)]) (k:=1) (n:=n) (i:=c) (j:=0) (λ_=>rfl) hc oM (.slice a' l.length cap') (o:=c) sM
 unfold nQ
 rw [this]
 congr 1
 funext j
 by_cases e:j=c
 ·subst e;simp only [ah];rfl
 ·simp only [al _ _ e]
section
variable {F:List Nat} {w u:wW} {b p g n:Nat} {pg:Nat -> Nat} {a:Nat -> Option Addr} {cap:Nat -> Nat} {q:Nat -> List Int} {t:bL} {c:Nat} {a':Option Addr} {cap':Nat} {l:List Int} {pg':Nat -> Nat}
theorem tx (hc:c<n):(bn b p g n pg a cap q)[c+3]?=sS (kR (a c) (cap c) (q c)):=by
 unfold bn
 rw [List.getElem?_append_right sM,show c+3 - _=c from by simp]
 exact ft hc
/-- The list that a core keeps is another one; the head tells so. -/
theorem On.stPut (h:On F w ((bn b p g n pg a cap q).set (c+3) (kR a' cap' l)) u) (hc:c<n):On F w (bn b p g n pg (ar a c a') (ar cap c cap') (ar q c l)) (u.setCell ⟨g,c,nN⟩ (.slice a' l.length cap')):=by
 have e:(bn b p g n pg a cap q).set (c+3) (kR a' cap' l)=[ao.blk b (.cells #[vp (sS ⟨p,0,nN⟩),vi iQ 12,.slice (sS ⟨g,0,nN⟩) n n] 198 (0,0)),ao.blk p (.cells (lS pg) 263 (0,0)),ao.blk g (.cells (nQ n a cap q) 143 (0,0))]++aS n (ar (λc=>kR (a c) (cap c) (q c)) c (kR a' cap' l)):=by
  unfold bn
  rw [List.set_append_right _ _ sM,show c+3 - _=c from by simp,jD]
 rw [e] at h
 have h2:=h.set 2 rfl c (.slice a' l.length cap')
 rw [GV hc] at h2
 have e2:ar (λc=>kR (a c) (cap c) (q c)) c (kR a' cap' l)=λi=>kR (ar a c a' i) (ar cap c cap' i) (ar q c l i):=by
  funext i
  by_cases e:i=c
  ·subst e;simp only [ah]
  ·simp only [al _ _ e]
 rw [e2] at h2
 exact h2
theorem On.stHead (h:On F w (bn b p g n pg a cap q) u) (hc:c<n):u.cell? ⟨g,c,nN⟩=sS (.slice (a c) (q c).length (cap c)) /\ u.frozen? ⟨g,c,nN⟩=fF /\ g<u.heap.size:=
 ⟨by rw [h.cell 2 rfl c];exact kG hc,h.free 2 rfl c,h.size 2 rfl⟩
theorem Ej:(bn b p g n pg a cap q).length=3+n:=by simp [bn,aS];omega
/-- append of one number to what core c keeps. -/
theorem On.stAppend (h:On F w (bn b p g n pg a cap q) u) (hc:c<n) (hl:(q c).length<1000) (v:Int):
  ∃ g' cap' w3,(∀ ty,(Builtin.append_ #[143,143] ty #[.slice (a c) (q c).length (cap c),.slice (sS ⟨u.heap.size,0,nN⟩) 1 1]).run tp (u.alloc (.cells #[vi iQ v] 3 (0,0)))=.ok (.slice (sS ⟨g',0,nN⟩) ((q c).length+1) cap') w3) /\
   On F w ((bn b p g n pg a cap q).set (c+3) (kR (sS ⟨g',0,nN⟩) cap' (q c++[v]))) w3:=by
 have h1:=h.alloc (.cells #[vi iQ v] 3 (0,0))
 have hg:(bn b p g n pg a cap q++[ao.blk u.heap.size (.cells #[vi iQ v] 3 (0,0))])[c+3]?=sS (kR (a c) (cap c) (q c)):=by
  rw [List.getElem?_append_left (by rw [Ej];omega)];exact tx hc
 obtain ⟨F1,p1,_,p3⟩:=h1.gain (P':=kR (a c) (cap c) (q c)) (c+3) hg
 obtain ⟨g',cap',w3,hrun,hG⟩:=kR.append p1 hl (ai u (.cells #[vi iQ v] 3 (0,0)))
 refine ⟨g',cap',w3,hrun,?_⟩
 have:=p3 hG
 rw [List.set_append_left _ _ (by rw [Ej];omega)] at this
 exact this.take
/-- After j tries to take one for core c. -/
def bL.ones (t:bL) (c:Nat):Nat -> bL
 | 0=>t
 | j+1=>(t.ones c j).one c
theorem FZ {pg:Nat -> Nat} (h:∀ i,pg i<256):∀ i,iv pg i<256:=by
 intro i
 unfold iv
 cases hat:wH pg with
 | none=>exact h i
 | some j=>
  simp only []
  obtain ⟨h1,h2⟩:=tB h hat
  by_cases e:i=j
  ·subst e;rw [ah];exact (oZ (h i) h2).2
  ·rw [al _ _ e];exact h i
theorem Da {pg:Nat -> Nat} (h:∀ i,pg i<256) (h0:cQ pg=0):1 <= eP pg /\ eP pg <= 96:=by
 unfold cQ at h0
 unfold eP
 cases hat:wH pg with
 | none=>rw [hat] at h0;simp at h0
 | some j=>
  simp only []
  obtain ⟨h1,h2⟩:=tB h hat
  have:=(oZ (h j) h2).1
  omega
theorem bL.one_at (t:bL) (c:Nat):(cQ t.pg=0 -> t.one c={ t with pg:=iv t.pg,kept:=ar t.kept c (t.kept c++[eP t.pg]) }) /\ (cQ t.pg≠0 -> t.one c=t):=by
 unfold bL.one
 exact ⟨λh=>pG h,λh=>nG h⟩
theorem bL.ones_len (t:bL) (c:Nat):∀ j,((t.ones c j).kept c).length <= (t.kept c).length+j /\ (t.ones c j).n=t.n /\ ((∀ i,t.pg i<256) -> ∀ i,(t.ones c j).pg i<256)
 | 0=>⟨by simp [bL.ones],rfl,λh=>h⟩
 | j+1=>by
  obtain ⟨h1,h2,h3⟩:=t.ones_len c j
  unfold bL.ones
  by_cases e:cQ (t.ones c j).pg=0
  ·rw [((t.ones c j).one_at c).1 e]
   refine ⟨?_,h2,λh=>FZ (h3 h)⟩
   simp only [ah,List.length_append,List.length_singleton];omega
  ·rw [((t.ones c j).one_at c).2 e]
   exact ⟨by omega,h2,h3⟩
/-- The stash lies there, somehow. -/
def fg (F:List Nat) (w:wW) (b p g:Nat) (t:bL) (u:wW):Prop:=∃ a cap,On F w (bn b p g t.n t.pg a cap t.kept) u
theorem Db {pg:Nat -> Nat} (h:cQ pg≠0):cQ pg=5 /\ iv pg=pg:=by
 unfold cQ at h ⊢
 unfold iv
 cases hat:wH pg with
 | none=>exact ⟨by simp,rfl⟩
 | some j=>rw [hat] at h;simp at h
theorem CE (hpg:∀ i,t.pg i<256) (hA:On F w (bn b p g t.n t.pg a cap t.kept) u) (hc:c<t.n) (hn:t.n <= 64):Calls tp 221 #[vp (sS ⟨b,0,nN⟩),vi iQ c] u (λe u'=>e=.returned (.tuple #[]) /\ fg F w b p g (t.fill c) u'):=by
 obtain ⟨k0,k2⟩:=hA.stC
 have kh:=(hA.stHead hc).1
 have hcI:(c:Int)<t.n:=by omega
 by_cases h0:t.kept c=[]
 ·have e:t.fill c=t.ones c 2:=pG h0
  rw [e]
  have hl0:(t.kept c).length=0:=by rw [h0];rfl
  rw [hl0] at kh
  have hI:=zh (show fg F w b p g (t.ones c 0) u from ⟨a,cap,hA⟩)
  have HL:=zh h0
  obtain ⟨n,hnn⟩:∃ n,n=t.n:=⟨_,rfl⟩
  have HN:=zh hnn
  rw [<- hnn] at k2 hcI hn
  clear hA e h0 hl0 hnn
  go_in
  go_wp2
  go_loopg [15] 2 (λgg i wr=>∃ (j:Nat),i=vi iQ j /\ j+gg=2 /\ fg F w b p g (t.ones c j) wr)
  case atStart=>exact ⟨0,rfl,rfl,hI.out⟩
  case round=>
   clear hI k0 k2 kh
   obtain ⟨j,rfl,hj,ha⟩:=hrel
   by_cases hlt:j<2
   ·have hltI:(j:Int)<2:=by omega
    obtain ⟨a,cap,hB⟩:=ha
    obtain ⟨l1,l2,l3⟩:=t.ones_len c j
    have l3:=l3 hpg
    rw [HL.out] at l1
    have HT:=zh (show t.ones c (j+1)=(t.ones c j).one c from rfl)
    have hco:c<(t.ones c j).n:=by rw [l2,<- HN.out];omega
    rw [<- HN.out] at l2
    generalize t.ones c j=s at *
    obtain ⟨m,pg,q⟩:=s
    simp only at hB l1 l2 l3 hco
    subst l2
    obtain ⟨k0,k2⟩:=hB.stC
    have hTk:=hB.call (P:=tp) (f:=277) 1 rfl (λF1 h1=>FQ (pg:=pg) h1 l3)
    have hone:=bL.one_at ⟨m,pg,q⟩ c
    simp only at hone
    by_cases hE:cQ pg=0
    ·rw [hE] at hTk
     rw [hone.1 hE] at HT
     generalize eP pg=v at *
     generalize iv pg=pg2 at *
     have hl2:(q c).length<1000:=by simp at l1;omega
     have HB:=zh hl2
     clear hB hone hE l1 l3 hl2 hpg HL HN
     go_wp2_with (
      go_at_call 277
      refine hTk.s λw2 hC=>?_
      have hC:On F w (bn b p g m pg2 a cap q) w2:=hC
      have HC:=zh hC
      obtain ⟨d0,d2⟩:=hC.stC
      obtain ⟨dh,df,dl⟩:=hC.stHead hco
      clear hC hTk)
     obtain ⟨g',cap',w3,hrun,hD⟩:=(HC.out.keep (u':=w2.drew) (mR.drew)).stAppend hco HB.out v
     have da:=au (.cells #[vi iQ v] 3 (0,0)) d2
     have dha:=au (.cells #[vi iQ v] 3 (0,0)) dh
     have e2:w3.cell? ⟨b,2,nN⟩=sS (.slice (sS ⟨g,0,nN⟩) m m):=hD.cell 0 rfl 2
     have e3:w3.cell? ⟨g,c,nN⟩=sS (.slice (a c) (q c).length (cap c)):=by rw [hD.cell 2 rfl c];exact kG hco
     have f3:=hD.free 2 rfl c
     have l3:=hD.size 2 rfl
     have HD:=zh hD
     clear hD
     generalize hz:(q c).length=z at *
     have HZ:=zh hz
     clear hz
     go_region_law (first
      | (refine jb rfl _ _ _ rfl (by first|rfl|(go_simp;rfl)) (by first|rfl|(go_simp;rfl)) (hrun _) ?_))
     all_goals
      have hE:=HD.out.stPut hco
      rw [show (q c++[v]).length=z+1 by rw [List.length_append,HZ.out];rfl] at hE
      have HE:=zh hE
      clear hE
      go_wp2
      go_roundg (gk - 1)
      case measure=>omega
      case rel=>
       refine ⟨j+1,by go_num,by omega,?_⟩
       rw [HT.out]
       exact ⟨_,_,HE.out⟩
    ·obtain ⟨h5,h6⟩:=Db hE
     rw [h5,h6] at hTk
     rw [hone.2 hE] at HT
     generalize eP pg=v at *
     clear hB hone hE l1 l3 hpg HL HN h5 h6
     go_wp2_with (
      go_at_call 277
      refine hTk.s λw2 hC=>?_
      have hC:On F w (bn b p g m pg a cap q) w2:=hC
      have HC:=zh hC
      clear hC hTk)
     go_roundg (gk - 1)
     case measure=>omega
     case rel=>exact ⟨j+1,by go_num,by omega,by rw [HT.out];exact ⟨_,_,HC.out⟩⟩
   ·have hltI:¬ (j:Int)<2:=by omega
    obtain rfl:j=2:=by omega
    have HA:=zh ha
    clear ha
    go_wp2
    refine bodyPost_end (v:=.tuple #[]) (results_none rfl _ _ _) rfl ?_
    exact ⟨rfl,HA.out⟩
 ·have e:t.fill c=t:=nG h0
  rw [e]
  have hl0:0<(t.kept c).length:=List.length_pos_iff.2 h0
  have hl1:0<((t.kept c).length:Int):=by omega
  have H:=zh (λk=>(⟨a,cap,hA.keep (mR.drewN k)⟩:fg F w b p g t (u.drewN k)))
  have H0:=zh (⟨a,cap,hA⟩:fg F w b p g t u)
  generalize (t.kept c).length=z at *
  clear hA e h0
  go_in
  go_wp2
  refine bodyPost_ret (results_none rfl _ _ _) rfl ?_
  exact ⟨rfl,by first|exact H0.out|exact H.out _⟩
end
/-- A cut of a row reads as l. -/
def lX (w:wW) (x:Option Addr) (l:List Int):Prop:=l=[] \/ ∃ b o,x=sS ⟨b,o,nN⟩ /\ ∀ j,j<l.length -> w.cell? ⟨b,o+j,nN⟩=sS (vi iQ (ax l j))
theorem lX.keep {w w':wW} {S:List Nat} {x:Option Addr} {l:List Int} (h:lX w x l) (m:af S w w') (hS:∀ b o,x=sS ⟨b,o,nN⟩ -> l≠[] -> b∉S):lX w' x l:=by
 by_cases hl:l=[]
 ·exact .inl hl
 rcases h with h|⟨b,o,h1,h2⟩
 ·exact .inl h
 ·exact .inr ⟨b,o,h1,λj hj=>m.at (h2 j hj) (hS b o h1 hl)⟩
theorem DX {w:wW} {x:Addr} {cap:Nat} {l:List Int} (h:lX w (sS x) l) (hl:l.length<1000000) {g:Nat} (hE:fZ w (sS g) 0 []):
  ∃ g' cap' w',(∀ ty,(Builtin.append_ #[143,143] ty #[.slice (sS ⟨g,0,nN⟩) 0 0,.slice (sS x) l.length cap]).run tp w=.ok (.slice (sS ⟨g',0,nN⟩) l.length cap') w') /\ fZ w' (sS g') cap' l /\ af [g] w w' /\ (g'=g \/ g'=w.heap.size):=by
 obtain ⟨i,hi,hi2⟩:=Option.map_eq_some_iff.1 qc
 simp only [Prod.mk.injEq] at hi2
 obtain ⟨i1,i2,i3⟩:=hi2
 by_cases hl0:l=[]
 ·subst hl0
  have hsrc:Src tp i.size 143 (.slice (sS x) 0 cap) 0 [] w:=Src.ofSlice w Tryz.underlying143 x 0 cap [] sM sM sM
  exact ⟨g,0,w,λty=>run_append_room_src (P:=tp) w 143 143 ty 3 i Tryz.underlying143 hi g 0 0 0 _ 0 [] hsrc oM sM sM,hE,af.refl _ _,.inl rfl⟩
 obtain ⟨v',w',hr,x2,x3,x4,x5⟩:=run_append_own_at (P:=tp) (w:=w) 0 143 0 3 i (vi iQ 0) 1 8 Tryz.underlying143 hi i1 i2 i3 rfl oM _ _ _ hE.owns x l.length cap (l.map (vi iQ)) sM (by
   intro j u hj
   have hjl:j<l.length:=by have:=(List.getElem?_eq_some_iff.1 hj).1;simpa using this
   rcases h with h|⟨b,o,e,hc⟩
   ·subst h;simp at hjl
   ·cases e
    rw [show Addr.add ⟨b,o,nN⟩ j=⟨b,o+j,nN⟩ by unfold Addr.add;split<;>simp_all,hc j hjl]
    rw [List.getElem?_map,List.getElem?_eq_getElem hjl] at hj
    simp at hj
    rw [<- hj]
    simp [ax,List.getD,hjl]) (by
   intro u hu
   obtain ⟨z,_,rfl⟩:=List.mem_map.1 hu
   rfl) (by unfold maxLen;simp;omega) (by simp;omega) oM
 have hm:af [g] w w':=⟨x3.os,x3.tape,x3.output,x3.size,λk hk hS=>x3.block k hk (by rintro e;cases e;exact hS sM)⟩
 have hrun:∀ ty,(Builtin.append_ #[143,143] ty #[.slice (sS ⟨g,0,nN⟩) 0 0,.slice (sS x) l.length cap]).run tp w=.ok v' w':=by
  intro ty
  have:(Builtin.append_ #[143,143] ty #[.slice (sS ⟨g,0,nN⟩) 0 0,.slice (sS x) l.length cap])=(Builtin.append_ #[143,143] 0 #[.slice (sS ⟨g,0,nN⟩) 0 0,.slice (sS x) l.length cap]):=rfl
  rw [this];exact hr
 rcases x2.2 with ⟨hv,h0⟩|⟨g3,cap3,cur,hv,_,q1,q2,q3,q4,q5⟩
 ·exact absurd (List.eq_nil_of_length_eq_zero oM) hl0
 ·subst hv
  simp only [List.length_nil,Nat.zero_add,List.map_nil,List.nil_append] at hrun q2 q5
  refine ⟨g3,cap3,w',hrun,⟨cur,q1,by simpa using q2,q3,by omega,by rw [Nat.mul_one] at q5;simpa using q5⟩,hm,?_⟩
  rcases x5 with x5|x5
  ·left
   have:sS g3=sS g:=x5
   simpa using this
  ·right
   have:sS g3=sS w.heap.size:=x5
   simpa using this
theorem yE (x:Option Addr) (cap:Nat) (l:List Int) (w:wW) (h:lX w x l) (hl:l.length<1000000) (hnil:x=nN -> cap=0 /\ l=[]):Calls tp 160 #[.slice x l.length cap] w (im l w):=by
 cases x with
 | none=>
  obtain ⟨rfl,rfl⟩:=hnil rfl
  have hq:∀ w,(binOp .eql 143 (.slice nN 0 0) (.slice nN 0 0)).run tp w=.ok (vb tQ) w:=λw=>Lib.run_eql_slice_nil w _ _ nN 0 0 0 0 Tryz.underlying143
  simp only [List.length_nil]
  go_in
  go_wp2
  go_ret
  exact ⟨nN,0,rfl,⟨rfl,rfl⟩,af.refl _ _,by simp [lF]⟩
 | some x=>
  have hq:∀ w n,(binOp .eql 143 (.slice (sS x) n cap) (.slice nN 0 0)).run tp w=.ok (vb fF) w:=λw n=>Lib.run_eql_slice_nil w _ _ (sS x) n cap 0 0 Tryz.underlying143
  have hE:fZ (w.alloc (.cells #[] 3)) (sS w.heap.size) 0 []:=⟨#[],ai _ _,by simp,by simp,rfl,rfl⟩
  obtain ⟨g',cap',w2,hrun,x1,x2,x3⟩:=DX (h.keep (S:=[]) ((af.refl [] w).alloc (.cells #[] 3)) sM) hl hE
  go_in
  go_wp2_with (at_builtin;refine aX rfl _ _ _ rfl rfl rfl (hrun _) ?_)
  go_ret
  refine ⟨sS g',cap',rfl,x1,af.trans (S:=[]) (T:=[w.heap.size]) (mR.alloc _) x2 sM,λb hb=>?_⟩
  simp [lF] at hb
  subst hb
  rcases x3 with x3|x3
  ·omega
  ·simp at x3;omega
/-- The first j of a list that is kept, cut there. -/
theorem kR.cut {w:wW} {a:Option Addr} {cap:Nat} {l:List Int} {F:List Nat} (h:(kR a cap l).holds F w) (j:Nat) (hj:j <= l.length):dN (kR a j (l.take j)) F w w:=by
 have hlen:(l.take j).length=j:=List.length_take_of_le hj
 have hnth:∀ i,i<j -> ax (l.take j) i=ax l i:=by
  intro i hi
  simp [ax,List.getD,List.getElem?_take,hi]
 by_cases h0:j=0
 ·subst h0
  exact ⟨[],.inr ⟨by simp,.inl ⟨by simp,rfl⟩⟩,af.refl _ _,by simp⟩
 rcases h with ⟨g,rfl,rfl,h3⟩|⟨rfl,h2|⟨b,h2,h3,h4,h5⟩⟩
 ·obtain ⟨b,rfl,_⟩:=h3.cell (i:=0) oM
  refine ⟨lF (sS b),.inr ⟨hlen.symm,.inr ⟨b,rfl,rfl,h3.lt b (by simp [lF]),λi hi=>?_⟩⟩,af.refl _ _,λx hx=>.inl hx⟩
  rw [hlen] at hi
  obtain ⟨b',e,hc⟩:=h3.cell (i:=i) oM
  cases e
  rw [hnth i hi];exact hc
 ·rw [h2.1] at hj;simp at hj;omega
 ·refine ⟨F,.inr ⟨hlen.symm,.inr ⟨b,h2,h3,h4,λi hi=>?_⟩⟩,af.refl _ _,λx hx=>.inl hx⟩
  rw [hlen] at hi
  rw [hnth i hi];exact h5 i oM
theorem kR.cutAt {w:wW} {a:Option Addr} {cap:Nat} {l:List Int} {F:List Nat} (h:(kR a cap l).holds F w):lX w a l:=by
 rcases kR.ints h with h|⟨b,h1,h2,h3⟩
 ·exact .inl h
 ·exact .inr ⟨b,0,h1,λj hj=>by rw [Nat.zero_add];exact h3 j hj⟩
theorem kR.nilCap {w:wW} {a:Option Addr} {cap:Nat} {l:List Int} {F:List Nat} (h:(kR a cap l).holds F w) (ha:a=nN):cap=0 /\ l=[]:=by
 rcases h with ⟨g,h1,rfl,h3⟩|⟨rfl,h2|⟨b,h2,h3,h4,h5⟩⟩
 ·subst ha
  cases g with
  | none=>exact ⟨h3.2,h3.1⟩
  | some g=>simp [lA] at h1
 ·rw [h2.1];exact ⟨rfl,rfl⟩
 ·rw [ha] at h2;cases h2
section
variable {F:List Nat} {w u:wW} {b p g n:Nat} {pg:Nat -> Nat} {a:Nat -> Option Addr} {cap:Nat -> Nat} {q:Nat -> List Int} {t:bL} {c:Nat} {a':Option Addr} {cap':Nat} {l:List Int} {pg':Nat -> Nat}
theorem On.stCut (h:On F w (bn b p g n pg a cap q) u) (hc:c<n) (j:Nat) (hj:j <= (q c).length):On F w ((bn b p g n pg a cap q).set (c+3) (kR (a c) j ((q c).take j))) u:=by
 obtain ⟨F1,p1,_,p3⟩:=h.gain (P':=kR (a c) (cap c) (q c)) (c+3) (tx hc)
 exact p3 (kR.cut p1 j hj)
theorem On.stKept (h:On F w (bn b p g n pg a cap q) u) (hc:c<n):∃ F1,(kR (a c) (cap c) (q c)).holds F1 u:=h.get _ (tx hc)
theorem fg.same {u':wW} (h:fg F w b p g t u) (d:aG u u'):fg F w b p g t u':=by
 obtain ⟨a,cap,h⟩:=h
 exact ⟨a,cap,h.keep d.mod⟩
theorem fg.gain (h:fg F w b p g t u) (hok:t.ok):dN (fK b t) F w u:=by
 obtain ⟨a,cap,h⟩:=h
 exact h.stOk hok rfl rfl rfl
theorem kZ (hA:On F w (bn b p g t.n t.pg a cap t.kept) u) (cpu:Int):Calls tp 159 #[vp (sS ⟨b,0,nN⟩),vi iQ cpu] u (ay (vi iQ (if 0 <= cpu /\ cpu<t.n then 0 else 3)) u):=Ft hA.stC.2 cpu
theorem bL.ones_bd (t:bL) (c:Nat) (hpg:∀ i,t.pg i<256) (hb:∀ c id,id∈t.kept c -> 1 <= id /\ id <= 96):∀ j d id,id∈(t.ones c j).kept d -> 1 <= id /\ id <= 96
 | 0,d,id,h=>hb d id h
 | j+1,d,id,h=>by
  have ih:=t.ones_bd c hpg hb j
  have h3:=(t.ones_len c j).2.2 hpg
  unfold bL.ones at h
  by_cases e:cQ (t.ones c j).pg=0
  ·rw [((t.ones c j).one_at c).1 e] at h
   simp only at h
   by_cases ed:d=c
   ·subst ed
    rw [ah] at h
    rcases List.mem_append.1 h with h|h
    ·exact ih d id h
    ·rw [List.mem_singleton] at h;subst h;exact Da h3 e
   ·rw [al _ _ ed] at h;exact ih d id h
  ·rw [((t.ones c j).one_at c).2 e] at h;exact ih d id h
theorem bL.fill_ones (t:bL) (c:Nat):t.fill c=if t.kept c=[] then t.ones c 2 else t:=rfl
theorem bL.ones_ne (t:bL) (c:Nat):∀ j d,d≠c -> (t.ones c j).kept d=t.kept d
 | 0,d,h=>rfl
 | j+1,d,h=>by
  unfold bL.ones
  by_cases e:cQ (t.ones c j).pg=0
  ·rw [((t.ones c j).one_at c).1 e];simp only [al _ _ h];exact t.ones_ne c j d h
  ·rw [((t.ones c j).one_at c).2 e];exact t.ones_ne c j d h
theorem bL.ok.fill (h:t.ok) (c:Nat):(t.fill c).ok:=by
 rw [bL.fill_ones]
 split
 ·rename_i h0
  obtain ⟨l1,l2,l3⟩:=t.ones_len c 2
  refine ⟨by rw [l2];exact h.n1,by rw [l2];exact h.n2,l3 h.pg,λd=>?_,t.ones_bd c h.pg h.bd 2⟩
  by_cases e:d=c
  ·subst e;rw [h0] at l1;simp at l1;omega
  ·rw [t.ones_ne c 2 d e];exact h.len d
 ·exact h
theorem bL.ok.sub (h:t.ok) (c:Nat) {l:List Int} (hl:l.Sublist (t.kept c)):bL.ok { t with kept:=ar t.kept c l }:=by
 refine ⟨h.n1,h.n2,h.pg,λd=>?_,λd id hd=>?_⟩
 ·simp only
  by_cases e:d=c
  ·subst e;rw [ah];have:=hl.length_le;have:=h.len d;omega
  ·rw [al _ _ e];exact h.len d
 ·simp only at hd
  by_cases e:d=c
  ·subst e;rw [ah] at hd;exact h.bd d id (hl.subset hd)
  ·rw [al _ _ e] at hd;exact h.bd d id hd
theorem bL.fill_n (t:bL) (c:Nat):(t.fill c).n=t.n:=by rw [bL.fill_ones];split;exact (t.ones_len c 2).2.1;rfl
theorem Aq (h:(fK b t).holds F w) (cpu:Int):Calls tp 138 #[vp (sS ⟨b,0,nN⟩),vi iQ cpu] w (aq (fK b (t.alloc cpu)) F (.tuple #[vi iQ (t.allocV cpu),vi iQ (t.allocE cpu)]) w):=by
 obtain ⟨hok,p,g,a,cap,hA⟩:=kY h
 have hm:=kZ hA cpu
 by_cases hi:t.is cpu
 ·rw [pG (show 0 <= cpu /\ cpu<t.n from hi)] at hm
  obtain ⟨h1,h2⟩:=hi
  obtain ⟨c,rfl⟩:=iN h1
  have hc:c<t.n:=by omega
  have hi:t.is c:=⟨h1,h2⟩
  have eA:t.alloc c={ t.fill c with kept:=ar (t.fill c).kept c ((t.fill c).kept c).dropLast }:=pG hi
  have eE:t.allocE c=if (t.fill c).kept c=[] then 5 else 0:=nG (λx=>x hi)
  have eV:t.allocV c=if t.allocE c=0 then ax ((t.fill c).kept c) (((t.fill c).kept c).length - 1) else 0:=rfl
  have hF:=λk=>CE hok.pg (hA.keep (u':=w.drewN k) (mR.drewN k)) hc hok.n2
  have hok2:=hok.fill c
  have hn2:=t.fill_n c
  rw [eV,eA,eE]
  have hcs:c<(t.fill c).n:=by omega
  clear eA eE eV h hA hi
  generalize t.fill c=s at *
  obtain ⟨m,pg,q⟩:=s
  simp only at hn2 hcs ⊢
  subst hn2
  have hcI:(c:Int)<t.n:=by omega
  have h64:=hok.n2
  generalize t.n=m at *
  have HO:=zh hok2
  clear hok hok2
  by_cases hq:q c=[]
  ·rw [pG hq,hq]
   have eK:ar q c ([]:List Int).dropLast=q:=by
    funext i
    by_cases e:i=c
    ·subst e;rw [ah,hq];rfl
    ·rw [al _ _ e]
   rw [eK]
   have HQ:=zh hq
   clear hq eK
   go_in
   go_wp2_with (first
    | (go_at_call 159;refine hm.r λk=>?_)
    | (
     go_at_call 221
     refine (hF _).mono ?_
     rintro e w2 ⟨rfl,a2,cap2,hB⟩
     obtain ⟨d0,d2⟩:=hB.stC
     obtain ⟨dh,df,dl⟩:=hB.stHead hcs
     simp only at d2 dh
     rw [HQ.out] at dh
     have HB:=zh hB
     clear hB hF))
   go_ret2
   exact ⟨rfl,fg.gain (t:=⟨m,pg,q⟩) ⟨a2,cap2,HB.out⟩ HO.out⟩
  ·rw [nG hq,pG rfl]
   obtain ⟨n0,hn0⟩:∃ n0,(q c).length=n0+1:=⟨(q c).length - 1,by have:=List.length_pos_iff.2 hq;omega⟩
   rw [hn0,Nat.add_sub_cancel,List.dropLast_eq_take,hn0,Nat.add_sub_cancel]
   have hl4:n0+1 <= 4:=by rw [<- hn0];exact HO.out.len c
   have HN:=zh hn0
   have HQ:=zh hq
   have htk:((q c).take n0).length=n0:=List.length_take_of_le oM
   have HT:=zh htk
   clear hn0 hq htk
   go_in
   go_wp2_with (first
    | (go_at_call 159;refine hm.r λk=>?_)
    | (
     go_at_call 221
     refine (hF _).mono ?_
     rintro e w2 ⟨rfl,a2,cap2,hB⟩
     obtain ⟨d0,d2⟩:=hB.stC
     obtain ⟨dh,df,dl⟩:=hB.stHead hcs
     simp only at d2 dh hB
     rw [HN.out] at dh
     obtain ⟨F1,hk⟩:=hB.stKept hcs
     obtain ⟨bb,eb,hbl,hcl⟩:=(kR.ints hk).resolve_left HQ.out
     have hcap:=kR.cap hk (by have:=HO.out.len c;simp only at this;omega)
     rw [HN.out] at hcap
     have cn:=hcl n0 (by have:=HN.out;omega)
     have hD:=λk=>((hB.stCut hcs n0 (by have:=HN.out;omega)).keep (u':=w2.drewN k) (mR.drewN k)).stPut hcs
     rw [eb,HT.out] at hD
     rw [eb] at dh
     have HD:=zh hD
     have HE:=zh eb
     clear hB hF hk hcl hD eb))
   go_region
   go_wp2
   go_ret2
   exact ⟨rfl,fg.gain (t:=⟨m,pg,ar q c ((q c).take n0)⟩) ⟨_,_,HD.out 1⟩ (HO.out.sub c (l:=(q c).take n0) (List.take_sublist _ _))⟩
 ·have e:t.allocE cpu=3:=pG hi
  rw [show t.alloc cpu=t from nG hi,show t.allocV cpu=0 from nG (by rw [e];decide),e]
  rw [nG (show ¬ (0 <= cpu /\ cpu<t.n) from hi)] at hm
  have H:=zh (λk=>(hA.keep (u':=w.drewN k) (mR.drewN k)).stOk hok rfl rfl rfl)
  clear hA h hi e
  go_in
  go_wp2_with (go_at_call 159;refine hm.r λk=>?_)
  go_ret2
  exact ⟨rfl,H.out _⟩
theorem On.stNew {u':wW} {g2:Option Nat} {cap2:Nat} {D:List Int} (h:On F w (bn b p g n pg a cap q) u) (hc:c<n) (hL:fZ u' g2 cap2 D) (m:af [] u u') (hn:∀ b,b∈lF g2 -> u.heap.size <= b):On F w ((bn b p g n pg a cap q).set (c+3) (kR (lA g2) cap2 D)) u':=by
 obtain ⟨F1,p1,_,p3⟩:=h.gain (P':=kR (a c) (cap c) (q c)) (c+3) (tx hc)
 exact p3 ⟨lF g2,.inl ⟨g2,rfl,rfl,hL⟩,m.mono sM,λb hb=>.inr (hn b hb)⟩
theorem Ga {pg:Nat -> Nat} (h:∀ i,pg i<256) (id:Int):∀ i,eX pg id i<256:=by
 intro i
 cases ho:jH pg id
 ·unfold eX;rw [ho];exact h i
 ·obtain ⟨e,_,_,h3⟩:=sw h ho
  rw [e]
  by_cases ei:i=bZ id
  ·subst ei;rw [ah];exact h3
  ·rw [al _ _ ei];exact h i
theorem om:∀ (l:List Int) {pg:Nat -> Nat},(∀ i,pg i<256) -> ∀ i,l.foldl eX pg i<256
 | [],_,h=>h
 | x :: l,_,h=>om l (Ga h x)
theorem bL.ok.back (h:t.ok) (c many:Nat):(t.back c many).ok:=by
 have h1:=h.sub c (l:=(t.kept c).drop many) (List.drop_sublist _ _)
 exact ⟨h1.n1,h1.n2,om _ h.pg,h1.len,h1.bd⟩
theorem Kg {u:wW} {x:Option Addr} {cp:Nat} {l:List Int} {F1:List Nat} (h:(kR x cp l).holds F1 u) (many:Nat) (hm:many <= l.length):lX u (if cp=many then x else Option.map (λx=>x.add many) x) (l.drop many):=by
 by_cases hl:many=l.length
 ·subst hl;exact .inl sM
 obtain ⟨bb,eb,_,hcl⟩:=(kR.ints h).resolve_left (λe=>by rw [e] at hl hm;simp at hl hm;omega)
 have hcap:l.length <= cp:=by
  rcases h with ⟨g,_,_,h3⟩|⟨h1,_⟩
  ·exact h3.cap.1
  ·omega
 rw [nG oM]
 subst eb
 refine .inr ⟨bb,many,?_,λj hj=>?_⟩
 ·show sS (Addr.add _ _)=_
  unfold Addr.add
  by_cases h0:many=0
  ·subst h0;rfl
  ·simp [h0]
 ·rw [List.length_drop] at hj
  rw [hcl _ oM]
  simp [ax,List.getD,List.getElem?_drop]
theorem nJ {l:List Int} {j:Nat} (h:j<l.length):l.take (j+1)=l.take j++[ax l j]:=by
 rw [List.take_succ_eq_append_getElem h]
 simp [ax,List.getD,h]
theorem lX.drop {l:List Int} {bb:Nat} {u:wW} (many:Nat) (hm:many<l.length) (h:∀ j,j<l.length -> u.cell? ⟨bb,j,nN⟩=sS (vi iQ (ax l j))):lX u (sS ⟨bb,many,nN⟩) (l.drop many):=by
 refine .inr ⟨bb,many,rfl,λj hj=>?_⟩
 rw [List.length_drop] at hj
 rw [h _ oM]
 simp [ax,List.getD,List.getElem?_drop]
theorem uk (hok:t.ok) (hA:On F w (bn b p g t.n t.pg a cap t.kept) u) (hc:c<t.n) (many:Nat) (hm:many <= (t.kept c).length):Calls tp 223 #[vp (sS ⟨b,0,nN⟩),vi iQ c,vi iQ many] u (λe u'=>e=.returned (.tuple #[]) /\ fg F w b p g (t.back c many) u'):=by
 have hl4:=hok.len c
 have hn2:=hok.n2
 have hpg:=hok.pg
 have hcI:(c:Int)<t.n:=by omega
 obtain ⟨k0,k2⟩:=hA.stC
 obtain ⟨kh,kf,kl⟩:=hA.stHead hc
 obtain ⟨F1,hk⟩:=hA.stKept hc
 have hcap:=kR.cap hk oM
 have hnil:=kR.nilCap hk
 have hback:t.back c many=⟨t.n,((t.kept c).take many).foldl eX t.pg,ar t.kept c ((t.kept c).drop many)⟩:=rfl
 rw [hback]
 have hints:=kR.ints hk
 have hcut:∀ v,af [] u v -> lX v (if cap c=many then a c else Option.map (λx=>x.add many) (a c)) ((t.kept c).drop many):=λv m=>(lX.keep (S:=[]) (Kg hk many hm) m sM)
 have hcnil:(if cap c=many then a c else Option.map (λx=>x.add many) (a c))=nN -> cap c - many=0 /\ (t.kept c).drop many=[]:=by
  intro h
  have ha:a c=none:=by
   split at h
   ·exact h
   ·simpa using h
  have:=kR.nilCap hk ha
  rw [this.1,this.2];simp
 have hkeep:∀ v pg2,On F w (bn b p g t.n pg2 a cap t.kept) v -> lX v (if cap c=many then a c else Option.map (λx=>x.add many) (a c)) ((t.kept c).drop many):=λv pg2 hv=>by
  obtain ⟨F2,hk2⟩:=hv.stKept hc
  exact Kg hk2 many hm
 clear hback hk hcut
 obtain ⟨x,hx⟩:∃ x,a c=x:=⟨_,rfl⟩
 rw [hx] at kh hnil hints hcnil hkeep
 have HX:=zh hx
 clear hx
 have hI:=zh (show ∃ pg,pg=((t.kept c).take 0).foldl eX t.pg /\ On F w (bn b p g t.n pg a cap t.kept) u from ⟨_,rfl,hA⟩)
 obtain ⟨n,hn⟩:∃ n,(t.kept c).length=n:=⟨_,rfl⟩
 rw [hn] at kh hl4 hcap hm
 have HN:=zh hn
 obtain ⟨mm,hmm⟩:∃ m,m=t.n:=⟨_,rfl⟩
 rw [<- hmm] at k2 hcI hn2 hc
 have HM:=zh hmm
 have hmI:(many:Int) <= cap c:=by omega
 obtain ⟨hcap1,hcap2⟩:=hcap
 clear hok hA hn hmm
 go_in
 go_wp2
 go_loopg [18] many (λgg i wr=>∃ (j:Nat) (pg:Nat -> Nat),i=vi iQ j /\ j+gg=many /\ pg=((t.kept c).take j).foldl eX t.pg /\ On F w (bn b p g t.n pg a cap t.kept) wr)
 case atStart=>
  obtain ⟨pg,e,h⟩:=hI.out
  exact ⟨0,t.pg,rfl,by omega,rfl,by rw [e] at h;exact h⟩
 case round=>
  clear hI k0 k2 kh kf kl
  obtain ⟨j,pg,rfl,hj,hpj,hB⟩:=hrel
  obtain ⟨k0,k2⟩:=hB.stC
  obtain ⟨kh,kf,kl⟩:=hB.stHead (by rw [<- HM.out];exact hc)
  rw [HN.out,HX.out] at kh
  rw [<- HM.out] at k2
  have hpg2:∀ i,pg i<256:=by rw [hpj];exact om _ hpg
  by_cases hlt:j<many
  ·have hltI:(j:Int)<many:=by omega
   have hjn:j<(t.kept c).length:=by rw [HN.out];omega
   obtain ⟨F1,hk⟩:=hB.stKept (by rw [<- HM.out];exact hc)
   obtain ⟨bb,eb,hbl,hcl⟩:=(kR.ints hk).resolve_left (λe=>by rw [e] at hjn;simp at hjn)
   rw [HX.out] at eb
   subst eb
   have cj:=hcl j hjn
   have hG:=hB.call (P:=tp) (f:=281) 1 rfl (λF1 h1=>FR (pg:=pg) h1 hpg2 (ax (t.kept c) j))
   have HP:=zh (show eX pg (ax (t.kept c) j)=((t.kept c).take (j+1)).foldl eX t.pg by rw [nJ hjn,List.foldl_append,hpj];rfl)
   clear hB hk hcl hpj hpg2 hints hkeep hcnil hnil
   generalize ax (t.kept c) j=id at *
   generalize (if jH pg id=tQ then (0:Int) else 4)=e0 at *
   go_wp2_with (
    go_at_call 281
    refine hG.s λw2 hC=>?_
    have HC:=zh (show On F w (bn b p g t.n (eX pg id) a cap t.kept) w2 from hC)
    clear hC hG)
   go_roundg (gk - 1)
   case measure=>omega
   case rel=>exact ⟨j+1,_,by go_num,by omega,HP.out,HC.out⟩
  ·have hltI:¬ (j:Int)<many:=by omega
   obtain rfl:j=many:=by omega
   have HP:=zh hpj
   have hCt:=hkeep wr pg hB
   have hdl:((t.kept c).drop j).length=n - j:=by rw [List.length_drop,HN.out]
   have hCl:=λk=>yE _ (cap c - j) _ (wr.drewN k) (hCt.keep (S:=[]) (mR.drewN k) sM) (by rw [hdl];omega) hcnil
   rw [hdl] at hCl
   have HL:=zh hdl
   have HB:=zh hB
   clear hpj hB hCt hcnil hkeep hints hnil hdl
   go_wp2
   go_region_law (first
    | (
     go_simp
     go_at_call 160
     refine (hCl 1).mono ?_
     rintro e w2 ⟨g2,cap2,e2,hL2,m2,hn2⟩
     rw [HL.out] at e2
     subst e2
     have hD:=(HB.out.keep (u':=wr.drewN 1) (mR.drewN 1)).stNew (by rw [<- HM.out];exact hc) hL2 m2 hn2
     have z2:w2.cell? ⟨b,2,nN⟩=sS (.slice (sS ⟨g,0,nN⟩) mm mm):=by rw [HM.out];exact hD.cell 0 rfl 2
     have z3:w2.cell? ⟨g,c,nN⟩=sS (.slice x n (cap c)):=by rw [hD.cell 2 rfl c,<- HN.out,<- HX.out];exact kG (by rw [<- HM.out];exact hc)
     have z4:w2.frozen? ⟨g,c,nN⟩=fF:=hD.free 2 rfl c
     have z5:g<w2.heap.size:=hD.size 2 rfl
     have HD:=zh hD
     clear hD hL2 m2 hn2 hCl))
   all_goals
    have hE:=HD.out.stPut (by rw [<- HM.out];exact hc)
    rw [HL.out,HP.out] at hE
    have HE:=zh hE
    clear hE
    go_wp2
    all_goals
     refine bodyPost_end (v:=.tuple #[]) (results_none rfl _ _ _) rfl ?_
     exact ⟨rfl,_,_,HE.out⟩
theorem sk (h:(fK b t).holds F w) (cpu:Int):Calls tp 294 #[vp (sS ⟨b,0,nN⟩),vi iQ cpu] w (aq (fK b (t.drain cpu)) F (.tuple #[vi iQ (t.keptL cpu).length,vi iQ (if t.is cpu then 0 else 3)]) w):=by
 obtain ⟨hok,p,g,a,cap,hA⟩:=kY h
 have hm:=kZ hA cpu
 by_cases hi:t.is cpu
 ·rw [pG (show 0 <= cpu /\ cpu<t.n from hi)] at hm
  rw [pG hi]
  obtain ⟨h1,h2⟩:=hi
  obtain ⟨c,rfl⟩:=iN h1
  have hc:c<t.n:=by omega
  have hi:t.is c:=⟨h1,h2⟩
  rw [show t.drain c=t.back c (t.kept c).length from pG hi,show t.keptL c=t.kept c from pG hi]
  have hok2:=zh (hok.back c (t.kept c).length)
  have hB:=λk=>uk hok (hA.keep (u':=w.drewN k) (mR.drewN k)) hc (t.kept c).length (Nat.le_refl _)
  obtain ⟨k0,k2⟩:=hA.stC
  obtain ⟨kh,kf,kl⟩:=hA.stHead hc
  have hl4:=hok.len c
  have hn2:=hok.n2
  generalize t.back c (t.kept c).length=t2 at *
  generalize (t.kept c).length=n at *
  generalize t.n=m at *
  clear hA h hok hi
  go_in
  go_wp2_with (first
   | (go_at_call 159;refine hm.r λk=>?_)
   | (go_at_call 223;refine (hB _).s λw2 hL=>?_;have HL:=zh hL;clear hL))
  go_ret2
  exact ⟨rfl,HL.out.gain hok2.out⟩
 ·rw [nG hi,show t.drain cpu=t from nG hi,show t.keptL cpu=[] from nG hi]
  rw [nG (show ¬ (0 <= cpu /\ cpu<t.n) from hi)] at hm
  have H:=zh (λk=>(hA.keep (u':=w.drewN k) (mR.drewN k)).stOk hok rfl rfl rfl)
  clear hA h hi
  go_in
  go_wp2_with (go_at_call 159;refine hm.r λk=>?_)
  go_ret2
  exact ⟨rfl,H.out _⟩
theorem CF (h:(fK b t).holds F w) (cpu:Int):Calls tp 89 #[vp (sS ⟨b,0,nN⟩),vi iQ cpu] w (im (t.keptL cpu) w):=by
 obtain ⟨hok,p,g,a,cap,hA⟩:=kY h
 have hm:=kZ hA cpu
 by_cases hi:t.is cpu
 ·rw [pG (show 0 <= cpu /\ cpu<t.n from hi)] at hm
  obtain ⟨h1,h2⟩:=hi
  obtain ⟨c,rfl⟩:=iN h1
  have hc:c<t.n:=by omega
  have hi:t.is c:=⟨h1,h2⟩
  rw [show t.keptL c=t.kept c from pG hi]
  obtain ⟨k0,k2⟩:=hA.stC
  obtain ⟨kh,kf,kl⟩:=hA.stHead hc
  obtain ⟨F1,hk⟩:=hA.stKept hc
  have hl4:=hok.len c
  have hn2:=hok.n2
  have hCl:=λk=>yE (a c) (cap c) (t.kept c) (w.drewN k) ((kR.cutAt hk).keep (S:=[]) (mR.drewN k) sM) oM (kR.nilCap hk)
  generalize t.kept c=l at *
  generalize hz:l.length=n at *
  have HZ:=zh hz
  generalize t.n=m at *
  clear hA h hok hi hk hz
  go_in
  go_wp2_with (first
   | (go_at_call 159;refine hm.r λk=>?_)
   | (go_at_call 160;refine (hCl _).mono ?_;rintro e w2 ⟨g2,cap2,e2,hL2,m2,hn2⟩;rw [HZ.out] at e2;subst e2;have HL:=zh (And.intro hL2 (And.intro m2 hn2));clear hL2 m2 hn2))
  go_ret
  obtain ⟨x1,x2,x3⟩:=HL.out
  exact ⟨g2,cap2,by rw [HZ.out];rfl,x1,((af.refl [] w).drewN _).trans x2 sM,λb hb=>by have:=x3 b hb;simp at this;omega⟩
 ·rw [show t.keptL cpu=[] from nG hi]
  rw [nG (show ¬ (0 <= cpu /\ cpu<t.n) from hi)] at hm
  clear hA h hi
  go_in
  go_wp2_with (go_at_call 159;refine hm.r λk=>?_)
  go_ret
  exact ⟨nN,0,rfl,⟨rfl,rfl⟩,mR.drewN _,by simp [lF]⟩
end
theorem bR.slAt {w:wW} {a:Option Addr} {l:List Int} (h:bR w a l):Ic w a l:=by
 rcases h with h|⟨b,h1,_,h3⟩
 ·exact .inl h
 ·exact .inr ⟨b,h1,h3⟩
theorem JQ (B:Nat) (id:Int) (a:Option Addr) (cap:Nat) (l:List Int) (W:wW) (hc:W.cell? ⟨B,0,nN⟩=sS (vi iQ id)) (h:Ic W a l) (hl:l.length<1000):Calls tp 280 #[.slice a l.length cap,vp (sS ⟨B,0,nN⟩)] W (ay (vb (decide (id∈l))) W):=by
 have hC:=qt a cap l id W h oM
 generalize l.length=n at *
 generalize decide (id∈l)=d at *
 clear h
 go_in
 go_wp2_with (go_at_call 276;refine hC.r λk=>?_)
 go_ret
 exact ay.of (rfl) dz
def qE (n:Nat) (q:Nat -> List Int) (id:Int):Bool:=(List.range n).any λc=>decide (id∈q c)
theorem Hz {n:Nat} {q:Nat -> List Int} {id:Int} {j:Nat} (h:j<n) (hm:decide (id∈q j)=tQ):qE n q id=tQ:=by
 unfold qE
 rw [List.any_eq_true]
 exact ⟨j,List.mem_range.2 h,hm⟩
theorem Kr {n:Nat} {q:Nat -> List Int} {id:Int} (h:∀ i,i<n -> decide (id∈q i)=fF):qE n q id=fF:=by
 unfold qE
 rw [List.any_eq_false]
 intro x hx
 rw [h x (List.mem_range.1 hx)];simp
section
variable {F:List Nat} {w u:wW} {b p g n:Nat} {pg:Nat -> Nat} {a:Nat -> Option Addr} {cap:Nat -> Nat} {q:Nat -> List Int} {t:bL} {c:Nat}
def MP (v:Bool) (w:wW) (e:Ending) (w':wW):Prop:=∃ kk:Int,e=.returned (vi iQ kk) /\ aG w w' /\ decide (0 <= kk)=v
theorem DF (hA:On F w (bn b p g n pg a cap q) u) (hq:∀ c,(q c).length <= 4) (hn:n <= 64) (B:Nat) (id:Int) (hB:u.cell? ⟨B,0,nN⟩=sS (vi iQ id)):Calls tp 322 #[.slice (sS ⟨g,0,nN⟩) n n,.func (.func 280) #[] #[vp (sS ⟨B,0,nN⟩)]] u (MP (qE n q id) u):=by
 go_in
 go_wp2
 go_loopg [8] n (λgg i wr=>∃ (j:Nat),i=vi iQ j /\ j+gg=n /\ aG u wr /\ ∀ i,i<j -> decide (id∈q i)=fF)
 case atStart=>exact ⟨0,rfl,by omega,aG.refl _,λi hi=>by omega⟩
 case round=>
  obtain ⟨j,rfl,hj,hD,hlo⟩:=hrel
  by_cases hlt:j<n
  ·have hltI:(j:Int)<n:=by omega
   have hR:=hA.keep (hD.mod (S:=[]))
   have hBr:wr.cell? ⟨B,0,nN⟩=sS (vi iQ id):=(hD.mod (S:=[])).at hB sM
   obtain ⟨kh,_,_⟩:=hR.stHead hlt
   obtain ⟨F1,hk⟩:=hR.stKept hlt
   have hP:=JQ B id (a j) (cap j) (q j) wr hBr (kR.ints hk).slAt (by have:=hq j;omega)
   have hlo':=zh hlo
   clear hlo hR hk hBr
   cases hr:decide (id∈q j)
   ·rw [hr] at hP
    have hr':=zh hr
    clear hr
    generalize (q j).length=z at *
    generalize a j=aj at *
    generalize cap j=cj at *
    clear hA hB hq
    go_wp2_with (go_at_call 280;refine hP.r λk=>?_)
    go_roundg (gk - 1)
    case measure=>omega
    case rel=>
     refine ⟨j+1,by go_num,by omega,hD.drewN _,λi hi=>?_⟩
     by_cases e:i=j
     ·subst e;exact hr'.out
     ·exact hlo'.out i oM
   ·rw [hr] at hP
    have hf:=zh (Hz hlt hr)
    clear hr
    generalize (q j).length=z at *
    generalize a j=aj at *
    generalize cap j=cj at *
    clear hA hB hq
    go_wp2_with (go_at_call 280;refine hP.r λk=>?_)
    go_ret
    exact ⟨j,rfl,hD.drewN _,by rw [hf.out];simp⟩
  ·have hltI:¬ (j:Int)<n:=by omega
   have hf:=zh (Kr (n:=n) (q:=q) (id:=id) (λi hi=>hlo i oM))
   clear hlo hA hB hq
   go_wp2
   go_ret
   exact ⟨-1,rfl,hD,by rw [hf.out];decide⟩
theorem wZ (hA:On F w (bn b p g n pg a cap q) u) (hq:∀ c,(q c).length <= 4) (hn:n <= 64) (B:Nat) (id:Int) (hB:u.cell? ⟨B,0,nN⟩=sS (vi iQ id)):Calls tp 279 #[.slice (sS ⟨g,0,nN⟩) n n,.func (.func 280) #[] #[vp (sS ⟨B,0,nN⟩)]] u (ay (vb (qE n q id)) u):=by
 have hI:=DF hA hq hn B id hB
 generalize qE n q id=v at *
 clear hA hq hB
 go_in
 go_wp2_with (go_at_call 322;refine hI.mono ?_;rintro e w' ⟨kk,rfl,hD,hv⟩;have HV:=zh hv;clear hv hI)
 go_ret
 refine ⟨?_,hD⟩
 rw [<- HV.out]
 rfl
theorem Fv (hok:t.ok) (hA:On F w (bn b p g t.n t.pg a cap t.kept) u) (id:Int):Calls tp 222 #[vp (sS ⟨b,0,nN⟩),vi iQ id] u (aK (vb (t.has id)) u):=by
 have hv:t.has id=(jH t.pg id&&!qE t.n t.kept id):=rfl
 rw [hv]
 have hA2:=hA.keep (u':=u.alloc (.cells #[vi iQ id] 3 (0,0))) (mR.alloc _)
 obtain ⟨k0,k2⟩:=hA2.stC
 obtain ⟨F1,hp⟩:=hA2.get 1 rfl
 have hO:=λk=>AL ((show dD _ p t.pg from hp.2).keep (u:=(u.alloc (.cells #[vi iQ id] 3 (0,0))).drewN k) (S:=[]) (mR.drewN k) sM) hok.pg id
 have hC:=λk=>wZ (hA2.keep (u':=(u.alloc (.cells #[vi iQ id] 3 (0,0))).drewN k) (mR.drewN k)) hok.len hok.n2 u.heap.size id sM
 generalize qE t.n t.kept id=v at *
 cases ho:jH t.pg id
 ·rw [ho] at hO
  clear hA hA2 hp hv ho hok hC
  generalize t.n=m at *
  go_in
  go_wp2
  go_quiet ((go_at_call 278;exact Calls.quiet_of (hO _)))
  go_wp2
  go_ret
  exact ⟨rfl,(mR.alloc _).drewN _⟩
 ·rw [ho] at hO
  clear hA hA2 hp hv ho hok
  generalize t.n=m at *
  go_in
  go_wp2
  go_quiet (first|(go_at_call 278;exact Calls.quiet_of (hO _))|(go_at_call 279;exact Calls.quiet_of (hC _)))
  go_wp2
  go_ret
  exact ⟨rfl,(mR.alloc _).drewN _⟩
/-- One more that a core keeps: the facts ahead of the region. -/
theorem bL.ok.add (h:t.ok) (c:Nat) {id:Int} (hl:(t.kept c).length<4) (h1:1 <= id) (h2:id <= 96):bL.ok { t with kept:=ar t.kept c (t.kept c++[id]) }:=by
 refine ⟨h.n1,h.n2,h.pg,λd=>?_,λd x hd=>?_⟩
 ·simp only
  by_cases e:d=c
  ·subst e;rw [ah,List.length_append,List.length_singleton];omega
  ·rw [al _ _ e];exact h.len d
 ·simp only at hd
  by_cases e:d=c
  ·subst e
   rw [ah] at hd
   rcases List.mem_append.1 hd with hd|hd
   ·exact h.bd d x hd
   ·rw [List.mem_singleton] at hd;subst hd;exact ⟨h1,h2⟩
  ·rw [al _ _ e] at hd;exact h.bd d x hd
theorem bL.has_bd {t:bL} {id:Int} (h:t.has id=tQ):1 <= id /\ id <= 96:=by
 unfold bL.has jH at h
 simp only [Bool.and_eq_true,decide_eq_true_eq] at h
 exact h.1.1
theorem CG (h:(fK b t).holds F w) (cpu id:Int):Calls tp 139 #[vp (sS ⟨b,0,nN⟩),vi iQ cpu,vi iQ id] w (aq (fK b (t.give cpu id)) F (vi iQ (t.giveE cpu id)) w):=by
 obtain ⟨hok,p,g,a,cap,hA⟩:=kY h
 have hm:=kZ hA cpu
 by_cases hi:t.is cpu
 ·rw [pG (show 0 <= cpu /\ cpu<t.n from hi)] at hm
  have hH:=λk=>Fv hok (hA.keep (u':=w.drewN k) (mR.drewN k)) id
  have eE:t.giveE cpu id=if t.has id then 0 else 4:=nG (λx=>x hi)
  cases hh:t.has id
  ·rw [hh] at eE hH
   rw [show t.give cpu id=t from nG (by rw [eE];decide),eE]
   have H:=zh (λu' (m:af [] w u')=>(hA.keep m).stOk hok rfl rfl rfl)
   clear hA h hi hh eE hok
   simp only [Bool.false_eq_true,if_false]
   go_in
   go_wp2_with (first
    | (go_at_call 159;refine hm.r λk=>?_)
    | (go_at_call 222;refine (hH _).s λw2 m=>?_;have HM:=zh (((af.refl [] w).drewN k).trans m sM);clear m))
   go_ret
   exact ⟨rfl,H.out _ HM.out⟩
  ·have hb:=bL.has_bd hh
   rw [hh] at eE hH
   rw [show t.give cpu id={ t.room cpu.toNat with kept:=ar (t.room cpu.toNat).kept cpu.toNat ((t.room cpu.toNat).kept cpu.toNat++[id]) } from pG eE,eE]
   simp only [if_true]
   obtain ⟨h1,h2⟩:=hi
   obtain ⟨c,rfl⟩:=iN h1
   have hco:c<t.n:=by omega
   rw [Int.toNat_natCast]
   have hl4:=hok.len c
   have hn2:=hok.n2
   by_cases hf:4 <= (t.kept c).length
   ·rw [show t.room c=t.back c 2 from pG hf]
    have hfe:(t.kept c).length=4:=by omega
    have hok2:=hok.back c 2
    have hBk:=λu' (m:af [] w u')=>uk hok (hA.keep m) hco 2 oM
    have hlb:((t.back c 2).kept c).length=2:=by
     show (ar t.kept c _ c).length=2
     rw [ah,List.length_drop];omega
    have hokA:=hok2.add c (id:=id) oM hb.1 hb.2
    have hcell:=λu' (m:af [] w u')=>(hA.keep m).stC
    have hhead:=λu' (m:af [] w u')=>(hA.keep m).stHead hco
    rw [hfe] at hhead
    have HB:=zh (show ((t.back c 2).kept c).length<1000 by omega)
    have HO:=zh hokA
    have hbn:(t.back c 2).n=t.n:=rfl
    clear hA h eE hh hok hok2 hlb hokA hb hf hfe hl4
    generalize t.back c 2=s at *
    obtain ⟨m,pg,q⟩:=s
    simp only at hbn HB HO hBk ⊢
    subst hbn
    generalize t.n=m at *
    obtain ⟨k0,k2⟩:=hcell w mR
    go_in
    go_wp2_with (first
     | (go_at_call 159;refine hm.r λk=>?_)
     | (
      go_at_call 222
      refine (hH _).s λw1 mx=>?_
      have HM:=zh (((af.refl [] w).drewN k).trans mx sM)
      obtain ⟨k0,k2⟩:=hcell w1 HM.out
      obtain ⟨kh,kf,kl⟩:=hhead w1 HM.out
      clear mx)
     | (
      go_at_call 223
      refine (hBk _ HM.out).mono ?_
      rintro e w2 ⟨rfl,a2,cap2,hC⟩
      have hC:On F w (bn b p g m pg a2 cap2 q) w2:=hC
      obtain ⟨d0,d2⟩:=hC.stC
      obtain ⟨dh,df,dl⟩:=hC.stHead hco
      have HC:=zh hC
      clear hC hBk))
    clear k0 k2 kh kf kl hcell hhead hH hm
    obtain ⟨g',cap',w3,hrun,hD⟩:=(HC.out.keep (u':=w2.drew) (mR.drew)).stAppend hco HB.out id
    have da:=au (.cells #[vi iQ id] 3 (0,0)) d2
    have dha:=au (.cells #[vi iQ id] 3 (0,0)) dh
    have e2:w3.cell? ⟨b,2,nN⟩=sS (.slice (sS ⟨g,0,nN⟩) m m):=hD.cell 0 rfl 2
    have e3:w3.cell? ⟨g,c,nN⟩=sS (.slice (a2 c) (q c).length (cap2 c)):=by rw [hD.cell 2 rfl c];exact kG hco
    have f3:=hD.free 2 rfl c
    have l3:=hD.size 2 rfl
    have HD:=zh hD
    clear hD
    generalize hz:(q c).length=z at *
    have HZ:=zh hz
    clear hz
    go_region_law (first
     | (refine jb rfl _ _ _ rfl (by first|rfl|(go_simp;rfl)) (by first|rfl|(go_simp;rfl)) (hrun _) ?_))
    all_goals
     have hE:=HD.out.stPut hco
     rw [show (q c++[id]).length=z+1 by rw [List.length_append,HZ.out];rfl] at hE
     have HE:=zh hE
     clear hE
     go_wp2
     go_ret
     exact ⟨rfl,fg.gain (t:=⟨m,pg,ar q c (q c++[id])⟩) ⟨_,_,HE.out⟩ HO.out⟩
   ·rw [show t.room c=t from nG hf]
    have hf1:(t.kept c).length<4:=by omega
    have hf2:((t.kept c).length:Int)<4:=by omega
    have hokA:=hok.add c (id:=id) hf1 hb.1 hb.2
    have hcell:=λu' (m:af [] w u')=>(hA.keep m).stC
    have hhead:=λu' (m:af [] w u')=>(hA.keep m).stHead hco
    have hkeep:=zh (λu' (m:af [] w u')=>hA.keep m)
    have HB:=zh (show (t.kept c).length<1000 by omega)
    have HO:=zh hokA
    clear hA h eE hh hok hokA hb hf hl4
    obtain ⟨m,pg,q⟩:=t
    simp only at hco hn2 hf2 hm hH hcell hhead hkeep HB HO ⊢
    obtain ⟨k0,k2⟩:=hcell w mR
    have hf3:=zh hf2
    obtain ⟨a2,rfl⟩:∃ a2,a2=a:=⟨_,rfl⟩
    obtain ⟨cap2,rfl⟩:∃ cap2,cap2=cap:=⟨_,rfl⟩
    go_in
    go_wp2_with (first
     | (go_at_call 159;refine hm.r λk=>?_)
     | (
      go_at_call 222
      refine (hH _).s λw2 mx=>?_
      have HM:=zh (((af.refl [] w).drewN k).trans mx sM)
      obtain ⟨d0,d2⟩:=hcell w2 HM.out
      obtain ⟨dh,df,dl⟩:=hhead w2 HM.out
      have HC:=zh (hkeep.out w2 HM.out)
      clear mx))
    clear k0 k2 hcell hhead hH hm
    obtain ⟨g',cap',w3,hrun,hD⟩:=(HC.out.keep (u':=w2.drew) (mR.drew)).stAppend hco HB.out id
    have da:=au (.cells #[vi iQ id] 3 (0,0)) d2
    have dha:=au (.cells #[vi iQ id] 3 (0,0)) dh
    have e2:w3.cell? ⟨b,2,nN⟩=sS (.slice (sS ⟨g,0,nN⟩) m m):=hD.cell 0 rfl 2
    have e3:w3.cell? ⟨g,c,nN⟩=sS (.slice (a2 c) (q c).length (cap2 c)):=by rw [hD.cell 2 rfl c];exact kG hco
    have f3:=hD.free 2 rfl c
    have l3:=hD.size 2 rfl
    have HD:=zh hD
    clear hD
    generalize hz:(q c).length=z at *
    have HZ:=zh hz
    clear hz
    go_region_law (first
     | (refine jb rfl _ _ _ rfl (by first|rfl|(go_simp;rfl)) (by first|rfl|(go_simp;rfl)) (hrun _) ?_))
    all_goals
     have hE:=HD.out.stPut hco
     rw [show (q c++[id]).length=z+1 by rw [List.length_append,HZ.out];rfl] at hE
     have HE:=zh hE
     clear hE
     go_wp2
     go_ret
     exact ⟨rfl,fg.gain (t:=⟨m,pg,ar q c (q c++[id])⟩) ⟨_,_,HE.out⟩ HO.out⟩
 ·rw [show t.give cpu id=t from nG (by rw [show t.giveE cpu id=3 from pG hi];decide),show t.giveE cpu id=3 from pG hi]
  rw [nG (show ¬ (0 <= cpu /\ cpu<t.n) from hi)] at hm
  have H:=zh (λk=>(hA.keep (u':=w.drewN k) (mR.drewN k)).stOk hok rfl rfl rfl)
  clear hA h hi
  go_in
  go_wp2_with (go_at_call 159;refine hm.r λk=>?_)
  go_ret
  exact ⟨rfl,H.out _⟩
end
section
variable {P:Program} {ops:Array Oper} {Q:Exit -> Act -> wW -> Prop} {md:Region.Mode} {D:List Nat} {S:wW -> Prop}
/-- None of D has come up. -/
def eG (D:List Nat) (s:Array Bool):Bool:=D.all λd=>!s.getD d tQ
/-- Whatever order is picked, and S holds as long as nN of D has come up. -/
def cg (P:Program) (md:Region.Mode) (ops:Array Oper) (Q:Exit -> Act -> wW -> Prop) (D:List Nat) (S:wW -> Prop):Nat -> Array Bool -> Act -> wW -> Prop
 | 0,listed,a,w=>Region.ready md ops listed=[] /\ Q .normal a w
 | fuel+1,listed,a,w=>
  (Region.ready md ops listed=[] -> Q .normal a w) /\
  ∀ i∈Region.ready md ops listed,wpOp P ops Q i (λa' w'=>(eG D (listed.setIfInBounds i tQ)=tQ -> S w') /\ cg P md ops Q D S fuel (listed.setIfInBounds i tQ) a' w') a w
theorem nR:∀ (fuel:Nat) (listed:Array Bool) (a:Act) (w:wW),cg P md ops Q D S fuel listed a w -> wpAny P md ops Q fuel listed a w
 | 0,_,_,_,h=>h
 | fuel+1,_,_,_,h=>⟨h.1,λi hi=>wpOp_mono (λa' w' h'=>nR fuel _ a' w' h'.2) (h.2 i hi)⟩
theorem gC {D:List Nat} {s:Array Bool} {i:Nat} (hi:i∉D):eG D (s.setIfInBounds i tQ)=eG D s:=by
 unfold eG
 rw [Bool.eq_iff_iff,List.all_eq_true,List.all_eq_true]
 constructor
 ·intro h d hd
  have:=h d hd
  rwa [getD_set_ne tQ (λe=>hi (by rw [e];exact hd))] at this
 ·intro h d hd
  rw [getD_set_ne tQ (λe=>hi (by rw [e];exact hd))]
  exact h d hd
theorem yH {i:Nat} {oi:Oper} {v:Value} (hi:ops[i]?=sS oi) (hsel:∀ (j:Nat) (o:Oper) cs b,ops[j]?=sS o -> o.op≠.select cs b)
  (hQ:∀ c a w,Q (.panic c) (a.put oi.dst v) w -> Q (.panic c) a w) (hiD:i∉D) (hdep:∀ d∈D,∀ od,ops[d]?=sS od -> ∃ e∈od.after,Region.binds md e=tQ /\ e.on=i):
  ∀ (fuel:Nat) (listed:Array Bool) (a:Act) (w:wW),
   (∀ j oj,ops[j]?=sS oj -> j≠i -> listed.getD j tQ=fF -> (∀ e∈oj.after,Region.binds md e=tQ -> e.on≠i) -> oi.apart ops oj=tQ) ->
   i∈Region.ready md ops listed -> YieldsIf P ops S oi v a -> eG D listed=tQ -> S w ->
   cg P md ops Q D S fuel (listed.setIfInBounds i tQ) (a.put oi.dst v) w -> cg P md ops Q D S (fuel+1) listed a w:=by
 intro fuel
 induction fuel with
 | zero=>
  intro listed a w _ hr hy hU hS H
  refine ⟨λh=>(by rw [h] at hr;cases hr),λj hj=>?_⟩
  by_cases hji:j=i
  ·subst hji;exact hy.wpOp hi hS ⟨λ_=>hS,H⟩
  ·have:=ready_mono hj hji
   rw [H.1] at this
   cases this
 | succ fuel ih=>
  intro listed a w hfree hr hy hU hS H
  refine ⟨λh=>(by rw [h] at hr;cases hr),λj hj=>?_⟩
  by_cases hji:j=i
  ·subst hji;exact hy.wpOp hi hS ⟨λ_=>hS,H⟩
  ·have h1:=H.2 j (ready_mono hj hji)
   obtain ⟨hjun,oj,hoj,hall⟩:=mem_ready.1 hj
   have hnot:∀ e∈oj.after,Region.binds md e=tQ -> e.on≠i:=λe he hb heq=>by
    have h1:=hall e he hb
    have h0:=(mem_ready.1 hr).1
    rw [heq] at h1
    rcases Nat.lt_or_ge i listed.size with h'|h'
    ·simp [h'] at h0 h1;rw [h0] at h1;cases h1
    ·simp [Array.getElem?_eq_none h'] at h1
   have hjD:j∉D:=λhd=>by
    obtain ⟨e,he,hb,heq⟩:=hdep j hd oj hoj
    exact hnot e he hb heq
   have hU2:eG D (listed.setIfInBounds j tQ)=tQ:=by rw [gC hjD];exact hU
   have hU3:eG D ((listed.setIfInBounds i tQ).setIfInBounds j tQ)=tQ:=by rw [gC hjD,gC hiD];exact hU
   have h2:=wpOp_putIf hoj (hfree j oj hoj hji hjun hnot) (λcs b=>hsel i oi cs b hi) (λcs b=>hsel j oj cs b hoj) hQ hy h1
   have hfree':∀ k ok,ops[k]?=sS ok -> k≠i -> (listed.setIfInBounds j tQ).getD k tQ=fF ->
     (∀ e∈ok.after,Region.binds md e=tQ -> e.on≠i) -> oi.apart ops ok=tQ:=λk ok hk hki hun hno=>by
    refine hfree k ok hk hki ?_ hno
    by_cases hjk:j=k
    ·subst hjk;exact hjun
    ·rw [getD_set_ne tQ hjk] at hun;exact hun
   refine wpOp_mono (λa' w' h3=>⟨λ_=>h3.2.1 hU3,ih (listed.setIfInBounds j tQ) a' w' hfree' (ready_mono hr (Ne.symm hji)) h3.1 hU2 (h3.2.1 hU3) ?_⟩) h2
   rw [Array.setIfInBounds_comm _ _ hji]
   exact h3.2.2
theorem wq {i:Nat} {oi:Oper} {v:Value} (hi:ops[i]?=sS oi) (hsel:∀ (j:Nat) (o:Oper) cs b,ops[j]?=sS o -> o.op≠.select cs b)
  (hQ:∀ c a w,Q (.panic c) (a.put oi.dst v) w -> Q (.panic c) a w) (hiD:i∉D):
  ∀ (fuel:Nat) (listed:Array Bool) (a:Act) (w:wW),
   (∀ j oj,ops[j]?=sS oj -> j≠i -> listed.getD j tQ=fF -> (∀ e∈oj.after,Region.binds md e=tQ -> e.on≠i) -> oi.apart ops oj=tQ) ->
   i∈Region.ready md ops listed -> YieldsIf P ops (λ_=>True) oi v a -> (eG D listed=tQ -> S w) ->
   cg P md ops Q D S fuel (listed.setIfInBounds i tQ) (a.put oi.dst v) w -> cg P md ops Q D S (fuel+1) listed a w:=by
 intro fuel
 induction fuel with
 | zero=>
  intro listed a w _ hr hy hS H
  refine ⟨λh=>(by rw [h] at hr;cases hr),λj hj=>?_⟩
  by_cases hji:j=i
  ·subst hji;exact hy.wpOp hi trivial ⟨λh=>hS (by rw [gC hiD] at h;exact h),H⟩
  ·have:=ready_mono hj hji
   rw [H.1] at this
   cases this
 | succ fuel ih=>
  intro listed a w hfree hr hy hS H
  refine ⟨λh=>(by rw [h] at hr;cases hr),λj hj=>?_⟩
  by_cases hji:j=i
  ·subst hji;exact hy.wpOp hi trivial ⟨λh=>hS (by rw [gC hiD] at h;exact h),H⟩
  ·have h1:=H.2 j (ready_mono hj hji)
   obtain ⟨hjun,oj,hoj,hall⟩:=mem_ready.1 hj
   have hnot:∀ e∈oj.after,Region.binds md e=tQ -> e.on≠i:=λe he hb heq=>by
    have h1:=hall e he hb
    have h0:=(mem_ready.1 hr).1
    rw [heq] at h1
    rcases Nat.lt_or_ge i listed.size with h'|h'
    ·simp [h'] at h0 h1;rw [h0] at h1;cases h1
    ·simp [Array.getElem?_eq_none h'] at h1
   have h2:=wpOp_putIf hoj (hfree j oj hoj hji hjun hnot) (λcs b=>hsel i oi cs b hi) (λcs b=>hsel j oj cs b hoj) hQ hy h1
   have hfree':∀ k ok,ops[k]?=sS ok -> k≠i -> (listed.setIfInBounds j tQ).getD k tQ=fF ->
     (∀ e∈ok.after,Region.binds md e=tQ -> e.on≠i) -> oi.apart ops ok=tQ:=λk ok hk hki hun hno=>by
    refine hfree k ok hk hki ?_ hno
    by_cases hjk:j=k
    ·subst hjk;exact hjun
    ·rw [getD_set_ne tQ hjk] at hun;exact hun
   refine wpOp_mono (λa' w' h3=>?_) h2
   have hS2:eG D (listed.setIfInBounds j tQ)=tQ -> S w':=λhU=>h3.2.1 (by rw [Array.setIfInBounds_comm _ _ (Ne.symm hji),gC hiD];exact hU)
   refine ⟨hS2,ih (listed.setIfInBounds j tQ) a' w' hfree' (ready_mono hr (Ne.symm hji)) h3.1 hS2 ?_⟩
   rw [Array.setIfInBounds_comm _ _ hji]
   exact h3.2.2
theorem bE {i:Nat} {oi:Oper} {v:Value} {fuel:Nat} {listed:Array Bool} {a:Act} {w:wW} (hi:ops[i]?=sS oi)
  (hs:Region.noSelect ops=tQ) (hf:Region.free md ops listed i=tQ) (hr:(Region.ready md ops listed).contains i=tQ) (hD:(!D.contains i)=tQ)
  (hQ:∀ c a w,Q (.panic c) (a.put oi.dst v) w -> Q (.panic c) a w) (hy:YieldsIf P ops (λ_=>True) oi v a) (hS:eG D listed=tQ -> S w)
  (h:cg P md ops Q D S fuel (listed.setIfInBounds i tQ) (a.put oi.dst v) w):cg P md ops Q D S (fuel+1) listed a w:=
 wq hi (Region.noSelect_spec hs) hQ (by simpa using hD) fuel listed a w (Region.free_spec hi hf) (by simpa using hr) hy hS h
/-- The stores of D wait for operation i. -/
def Cs (md:Region.Mode) (ops:Array Oper) (D:List Nat) (i:Nat):Bool:=!D.contains i&&D.all λd=>match ops[d]? with|none=>tQ|some od=>od.after.any λe=>Region.binds md e&&e.on==i
theorem zN {i:Nat} {oi:Oper} {v:Value} {fuel:Nat} {listed:Array Bool} {a:Act} {w:wW} (hi:ops[i]?=sS oi)
  (hs:Region.noSelect ops=tQ) (hf:Region.free md ops listed i=tQ) (hr:(Region.ready md ops listed).contains i=tQ) (hD:Cs md ops D i=tQ) (hU:eG D listed=tQ)
  (hQ:∀ c a w,Q (.panic c) (a.put oi.dst v) w -> Q (.panic c) a w) (hy:YieldsIf P ops S oi v a) (hS:S w)
  (h:cg P md ops Q D S fuel (listed.setIfInBounds i tQ) (a.put oi.dst v) w):cg P md ops Q D S (fuel+1) listed a w:=by
 unfold Cs at hD
 simp only [Bool.and_eq_true,Bool.not_eq_true',List.contains_eq_mem,decide_eq_false_iff_not,List.all_eq_true] at hD
 refine yH hi (Region.noSelect_spec hs) hQ hD.1 (λd hd od hod=>?_) fuel listed a w (Region.free_spec hi hf) (by simpa using hr) hy hU hS h
 have:=hD.2 d hd
 rw [hod] at this
 simp only [Array.any_eq_true,Bool.and_eq_true,beq_iff_eq] at this
 obtain ⟨x,hx,h1,h2⟩:=this
 exact ⟨od.after[x],Array.getElem_mem hx,h1,h2⟩
theorem bj {listed:Array Bool} {a:Act} {w:wW} (hr:Region.ready md ops listed=[]) (h:Q .normal a w):∀ fuel,cg P md ops Q D S fuel listed a w
 | 0=>⟨hr,h⟩
 | _+1=>⟨λ_=>h,by rw [hr];simp⟩
def bo (P:Program) (md:Region.Mode) (ops:Array Oper) (Q:Exit -> Act -> wW -> Prop) (D:List Nat) (S:wW -> Prop) (fuel:Nat) (listed:Array Bool) (a:Act) (w:wW) (rs:List Nat):Prop:=
 ∀ i∈rs,wpOp P ops Q i (λa' w'=>(eG D (listed.setIfInBounds i tQ)=tQ -> S w') /\ cg P md ops Q D S fuel (listed.setIfInBounds i tQ) a' w') a w
theorem bo.nil {fuel:Nat} {listed:Array Bool} {a:Act} {w:wW}:bo P md ops Q D S fuel listed a w []:=λ_ h=>by cases h
theorem bo.cons {fuel:Nat} {listed:Array Bool} {a:Act} {w:wW} {i:Nat} {o:Oper} {rs:List Nat} (ho:ops[i]?=sS o)
  (h:∀ K':Act -> wW -> Prop,Shut (∀ a w,(eG D (listed.setIfInBounds i tQ)=tQ -> S w) -> cg P md ops Q D S fuel (listed.setIfInBounds i tQ) a w -> K' a w) -> if Region.wanted o (yielded ops a.tmps)=tQ then Oper.wp P o a w K' Q else K' (a.put o.dst undef) w)
  (hs:bo P md ops Q D S fuel listed a w rs):bo P md ops Q D S fuel listed a w (i :: rs):=λj hj=>by
 rcases List.mem_cons.1 hj with rfl|hj
 ·exact wpOp_step ho (λK' hK=>h K' (λa w hS hW=>hK a w ⟨hS,hW⟩))
 ·exact hs j hj
theorem fI {rs:List Nat} {fuel:Nat} {listed:Array Bool} {a:Act} {w:wW} (hr:Region.ready md ops listed=rs) (hne:rs≠[])
  (h:bo P md ops Q D S fuel listed a w rs):cg P md ops Q D S (fuel+1) listed a w:=⟨λh0=>absurd (hr ▸ h0) hne,hr ▸ h⟩
theorem cl (D:List Nat) (S:wW -> Prop) {id:Nat} {a:Act} {w:wW} (hm:P.follows .mixedOrders=tQ) (hS:S w.drew)
  (h:S w.drew -> cg P .any ops Q D S ops.size (Array.replicate ops.size fF) a w.drew):(Code.region id ops tQ).wp P Q a w:=
 wp_region_any hm (nR _ _ _ _ (h hS))
/-- An operation that yields in whatever world, taken first; what is to be checked is checked by itself. -/
theorem lp (i:Nat) {oi:Oper} {v:Value} {a':Act} {fuel:Nat} {listed:Array Bool} {a:Act} {w:wW} (hi:ops[i]?=sS oi:=by rfl)
  (hs:Region.noSelect ops=tQ:=by kernel_rfl) (hf:Region.free md ops listed i=tQ:=by kernel_rfl) (hr:(Region.ready md ops listed).contains i=tQ:=by kernel_rfl) (hD:(!D.contains i)=tQ:=by kernel_rfl)
  (hQ:∀ c a w,Q (.panic c) (a.put oi.dst v) w -> Q (.panic c) a w:=by exact λ_ _ _ h=>h) (hy:Region.wanted oi (yielded ops a.tmps)=tQ /\ ∀ w,True -> (execOp a.eval oi).run P w=.ok (.value v) w:=by exact ⟨by rfl,λw _=>by (go_simp<;>with_reducible rfl)⟩)
  (hS:S w:=by assumption) (ha:a.put oi.dst v=a':=by first|(simp only [Act.put,sA,sB,sC];done)|rfl)
  (h:cg P md ops Q D S fuel (listed.setIfInBounds i tQ) a' w):cg P md ops Q D S (fuel+1) listed a w:=by
 subst ha
 exact bE hi hs hf hr hD hQ (Or.inl hy) (λ_=>hS) h
/-- .. of a load that S tells. -/
theorem lZ (i:Nat) {oi:Oper} {v:Value} {a':Act} {fuel:Nat} {listed:Array Bool} {a:Act} {w:wW} (hi:ops[i]?=sS oi:=by rfl)
  (hs:Region.noSelect ops=tQ:=by kernel_rfl) (hf:Region.free md ops listed i=tQ:=by kernel_rfl) (hr:(Region.ready md ops listed).contains i=tQ:=by kernel_rfl) (hD:Cs md ops D i=tQ:=by kernel_rfl) (hU:eG D listed=tQ:=by kernel_rfl)
  (hQ:∀ c a w,Q (.panic c) (a.put oi.dst v) w -> Q (.panic c) a w:=by exact λ_ _ _ h=>h) (hy:Region.wanted oi (yielded ops a.tmps)=tQ /\ ∀ w,S w -> (execOp a.eval oi).run P w=.ok (.value v) w:=by exact ⟨by rfl,λw hSw=>by ((try dsimp only at hSw);(go_simp<;>with_reducible rfl))⟩)
  (hS:S w:=by assumption) (ha:a.put oi.dst v=a':=by first|(simp only [Act.put,sA,sB,sC];done)|rfl)
  (h:cg P md ops Q D S fuel (listed.setIfInBounds i tQ) a' w):cg P md ops Q D S (fuel+1) listed a w:=by
 subst ha
 exact zN hi hs hf hr hD hU hQ (Or.inl hy) hS h
/-- One operation alone may come up. -/
theorem lo (i:Nat) {fuel:Nat} {listed:Array Bool} {a:Act} {w:wW} {o:Oper} (hr:Region.ready md ops listed=[i]:=by kernel_rfl) (ho:ops[i]?=sS o:=by rfl)
  (h:∀ K':Act -> wW -> Prop,Shut (∀ a w,(eG D (listed.setIfInBounds i tQ)=tQ -> S w) -> cg P md ops Q D S fuel (listed.setIfInBounds i tQ) a w -> K' a w) -> if Region.wanted o (yielded ops a.tmps)=tQ then Oper.wp P o a w K' Q else K' (a.put o.dst undef) w):
  cg P md ops Q D S (fuel+1) listed a w:=
 fI hr sM (bo.cons ho h bo.nil)
/-- .. and is over. -/
theorem lk {i fuel:Nat} {listed:Array Bool} {K:Act -> wW -> Prop} (hK:Shut (∀ a w,(eG D (listed.setIfInBounds i tQ)=tQ -> S w) -> cg P md ops Q D S fuel (listed.setIfInBounds i tQ) a w -> K a w)) {a a':Act} {w:wW} (hS:S w)
  (ha:a=a':=by first|(simp only [Act.put,sA,sB,sC];done)|rfl) (h:cg P md ops Q D S fuel (listed.setIfInBounds i tQ) a' w):K a w:=by
 subst ha
 exact hK.out _ _ (λ_=>hS) h
end
end Go.Proofs.YtaakgpnmfkmdoaaGreatDoor