/- Walks and plain laws of the kernel. No condition. -/
import Derived.Test.YtmiapbgkphpgoaaGreatDoorKDM
import Derived.Test.YtmiapbgkphpgoaaGreatDoorKCM
import Derived.Test.YtmiapbgkphpgoaaGreatDoorTimerM
import Derived.Test.YtmiapbgkphpgoaaGreatDoorKEM
import Derived.Test.YtmiapbgkphpgoaaGreatDoorWheelM
import Derived.Test.YtmiapbgkphpgoaaGreatDoorKPM
import Derived.RangeFuncCalls
import Derived.Test.YtmiapbgkphpgoaaGreatDoorKJM
import Derived.Test.YtmiapbgkphpgoaaGreatDoorKIM
import Derived.Test.YtmiapbgkphpgoaaGreatDoorK5M
namespace Go.Proofs.YtmiapbgkphpgoaaGreatDoor
set_option linter.unusedVariables false
set_option linter.unusedSimpArgs false
set_option maxRecDepth 100000
set_option maxHeartbeats 20000000
open Go.RowKit
open Go.Proofs.Tryz renaming prog → tp
open List renaming setIfInBounds_toArray → sA, set_cons_zero → sB, set_cons_succ → sC
open Go renaming World → wW
open Go.Value renaming pointer → vp, bool → vb, int → vi
open Go.IntKind renaming i64 → iQ, u64 → uQ
open Option renaming none → nN, some → sS
open Bool renaming true → tQ, false → fF
open Int renaming eq_ofNat_of_zero_le → iN
theorem IC (m:Nat) (h0:m≠0) (hm:m<2 ^ 64):bits .and .u64 (m:Int) ((m:Int) - 1)=((m &&& (m - 1):Nat):Int):=by
 rw [show ((m:Int) - 1)=((m - 1:Nat):Int) by omega]
 exact bits_and_u64_nat m (m - 1) hm oM
theorem wx (m:Nat) (hm:m<2 ^ 64) (w:wW) (hT:bA w):Calls tp 334 #[vi uQ m] w (iU (cw m) w):=by
 go_in
 go_wp2
 go_loopg [0,3] (cw m).length (λgg v out wr=>∃ (x:Nat) (l:List Int) (g:Option Nat) (cap:Nat),v=vi uQ (x:Nat) /\ x<2 ^ 64 /\ cw m=l++cw x /\ gg=(cw x).length /\ out=.slice (lA g) l.length cap /\ fG wr g cap l /\ af [] w wr /\ ∀ b,b∈lF g -> w.heap.size <= b)
 case atStart=>exact ⟨m,[],nN,0,rfl,hm,rfl,rfl,rfl,⟨rfl,rfl⟩,by first|exact mR|exact mR.drewN _,by simp [lF]⟩
 case round=>
  obtain ⟨x,l,g,cap,rfl,hx,hl,hgk,rfl,hL,mm,hg⟩:=hrel
  have hll:l.length <= 64:=by
   have:=pM m
   rw [hl,List.length_append] at this
   omega
  have hlen:l.length<1000000:=by omega
  by_cases h0:x=0
  ·rw [h0,BI,List.append_nil] at hl
   have HL:=zh hl
   subst h0
   clear hl hm
   go_wp2
   go_ret
   rw [HL.out]
   exact ⟨g,cap,rfl,hL,mm,hg⟩
  ·have hne:((x:Int)==0)=fF:=by simpa using h0
   have hst:=BJ h0 hx
   have hlow:=BG h0 hx
   have hT2:=hT.keep mm sM
   have hz:=λk=>Cs x hx (wr.drewN k) (hT2.drewN k)
   have hB:=zh (IC x h0 hx)
   have hlt:x &&& (x - 1)<2 ^ 64:=Nat.lt_of_le_of_lt Nat.and_le_left hx
   have h1x:(1:Int) <= x:=by omega
   have hms:=mm.size
   have HH:=zh (And.intro hl (And.intro hst hgk))
   clear hl hst hgk hlow hm
   generalize hzz:Lib.ctz 64 x=z at *
   replace hzz:=zh hzz
   go_wp2_with (first|(go_at_call 231;refine (hz 0).r λk1=>?_)|(at_builtin;refine cE rfl _ _ rfl (by exact hL.keep (((af.refl [] wr).drewN _).alloc _) sM) hlen (ai _ _) rfl rfl ?_;rintro g2 cap2 w2 hL2 m2 hg2;have H2:=zh (And.intro hL2 (And.intro (af.trans (S:=[]) ((mm.drewN _).alloc _) m2 (λb hb=>.inr (hg b hb))) hg2));clear hL2 m2 hg2))
   obtain ⟨hL2,m3,hg2⟩:=H2.out
   rw [cm] at hg2
   obtain ⟨q1,q2,q3⟩:=HH.out
   have hz3:=hzz.out
   go_roundg ((cw (x &&& (x - 1))).length)
   case measure=>rw [q3,q2];simp
   case rel=>
    refine ⟨x &&& (x - 1),l++[(z:Int)],sS g2,cap2,by rw [<- hB.out],hlt,by rw [q1,q2,<- hz3];simp,rfl,by simp [lA],hL2,m3,?_⟩
    intro b hb
    simp [lF] at hb
    subst hb
    rcases hg2 with hg2|hg2
    ·exact hg _ hg2
    ·simp at hg2;omega
theorem xc (ld:Int -> Int) (bt:Int -> Int -> Bool) (a:Int) {l:List Int} {j:Nat} (h:j<l.length):iS ld bt a (l.take (j+1))=if bt (ld (ar l j)) (ld (iS ld bt a (l.take j))) then ar l j else iS ld bt a (l.take j):=by
 unfold iS
 rw [List.take_succ_eq_append_getElem h,List.foldl_append]
 simp [ar,List.getD,h]
theorem Ib (x y:Int) (w:wW):Calls tp 300 #[vi iQ x,vi iQ y] w (au (vb (jE x y)) w):=by
 unfold jE
 go_in
 go_wp2
 go_ret
 exact au.of sM dz
theorem Jr (x y:Int) (w:wW):Calls tp 301 #[vi iQ x,vi iQ y] w (au (vb (jH x y)) w):=by
 unfold jH
 go_in
 go_wp2
 go_ret
 exact au.of sM dz
section
variable {F:List Nat} {w u:wW} {b:Nat} {r:RQ}
theorem CD (hok:r.ok) (c:Int):0 <= r.load c /\ r.load c <= 32:=by
 unfold RQ.load
 split
 ·have:=(hok.fine c.toNat).2.1
  unfold RQ.at
  omega
 ·omega
theorem nK (h:(dK b r).holds F w) (m:Nat) (hm:m<2 ^ 64) (hT:bA w):Calls tp 299 #[vp (sS ⟨b,0,nN⟩),vi uQ (m:Nat),.func (.func 300) #[] #[]] w (λe w'=>e=.returned (.tuple #[vi iQ (r.bestV m jE),vi iQ (r.bestE m)]) /\ af [] w w'):=by
 obtain ⟨hok,g,cap,wb,cnt,D,hA⟩:=dA h
 obtain ⟨k0,k1,k2,k3⟩:=hA.rqC
 have hU:=λw=>ix r.n w
 have hup:=iB r.n
 have hAnd:=λw=>om m (bw r.n) w hm hup
 have hx:m &&& bw r.n<2 ^ 64:=Nat.lt_of_le_of_lt Nat.and_le_left hm
 have hL:=λw' (hT:bA w')=>(wx (m &&& bw r.n) hx w' hT)
 have hlen:(r.some_ m).length <= 64:=pM _
 have hV:r.bestV m jE=if r.some_ m=[] then 0 else iS r.load jE (ar (r.some_ m) 0) (r.some_ m):=rfl
 have hE:r.bestE m=if r.some_ m=[] then 12 else 0:=rfl
 have hl0:cw (m &&& bw r.n)=r.some_ m:=rfl
 rw [hl0] at hL
 have hLd:=λw' (mm:af [] w w') c=>jA ((dK b r).keep h mm sM) c
 generalize r.some_ m=l at *
 generalize m &&& bw r.n=x at *
 generalize bw r.n=up at *
 clear hA hl0
 by_cases hl:l=[]
 ·rw [pG hl] at hV hE
  rw [hV,hE]
  subst hl
  clear hV hE hLd hlen h
  go_in
  go_wp2_with (first
   | (go_at_call 22;refine (hU _).r λk=>?_)
   | (go_at_call 282;refine (hAnd _).r λk4=>?_)
   | (go_at_call 334;refine (hL _ (by first|exact hT.drewN _|exact (hT.drewN _).drewN _)).mono ?_;intro e w2 hm2;obtain ⟨a2,c2,rfl,m2,i2,n2⟩:=hm2.newL))
  go_ret2
  exact ⟨rfl,m2.undrewN⟩
 ·rw [nG hl] at hV hE
  rw [hV,hE]
  have hpos:0<l.length:=List.length_pos_iff.2 hl
  have hst:=λj (hj:j<l.length)=>xc r.load jE (ar l 0) hj
  have hbd:=λc=>CD hok c
  clear hV hE hl h hok
  obtain ⟨n,hn⟩:∃ n,l.length=n:=⟨_,rfl⟩
  rw [hn] at hlen hpos hst
  replace hn:=zh hn
  have hposI:(0:Int)<n:=by omega
  have hne:((n:Int)==0)=fF:=by simp;omega
  go_in
  go_wp2_with (first
   | (go_at_call 22;refine (hU _).r λk=>?_)
   | (go_at_call 282;refine (hAnd _).r λk4=>?_)
   | (
    go_at_call 334
    refine (hL _ (by first|exact hT.drewN _|exact (hT.drewN _).drewN _)).mono ?_
    intro e w2 hm2
    obtain ⟨a2,c2,e2,m2,i2,n2⟩:=hm2.newL
    rw [hn.out] at e2
    subst e2
    have m2:=m2.undrewN
    obtain ⟨gb,rfl,z2,i3⟩:=i2.resolve_left (λq=>by rw [q] at hn;have:=hn.out;simp at this;omega)
    rw [hn.out] at i3
    have q0:=i3 0 hpos
    clear hL hm2 i2
    ))
  generalize ha0:ar l 0=a0 at *
  replace ha0:=zh ha0
  go_loopg [9,31] n (λgg at_ i wr=>∃ j:Nat,i=vi iQ j /\ j+gg=n /\ at_=vi iQ (iS r.load jE a0 (l.take j)) /\ af [] w2 wr)
  case atStart=>exact ⟨0,rfl,by omega,rfl,af.refl _ _⟩
  case round=>
   obtain ⟨j,rfl,hj,rfl,mr⟩:=hrel
   by_cases hlt:j<n
   ·have hltI:(j:Int)<n:=by omega
    have cj:=mr.at (i3 j hlt) sM
    have hs:=hst j hlt
    have hl1:=λk=>hLd (wr.drewN k) ((m2.trans mr sM).drewN k) (ar l j)
    have hl2:=λk=>hLd (wr.drewN k) ((m2.trans mr sM).drewN k) (iS r.load jE a0 (l.take j))
    have hB:=λw=>Ib (r.load (ar l j)) (r.load (iS r.load jE a0 (l.take j))) w
    replace hs:=zh hs
    replace mr:=zh mr
    clear hLd hst i3 q0
    generalize iS r.load jE a0 (l.take j)=pv at *
    generalize ar l j=y at *
    generalize r.load y=ly at *
    generalize r.load pv=lp at *
    cases hbb:jE ly lp
    ·rw [hbb] at hB
     go_wp2_with (first
      | (go_at_call 181;refine (hl1 0).mono ?_;clear hl1;rintro e w' ⟨rfl,k5,rfl⟩)
      | (go_at_call 181;refine (hl2 _).r λk6=>?_)
      | (go_at_call 300;refine (hB _).r λk7=>?_))
     go_roundg (gk - 1)
     case measure=>omega
     case rel=>exact ⟨j+1,by go_num,by omega,by rw [hs.out,hbb];rfl,by first|exact mr.out.drewN _|exact ((mr.out.drewN _).drewN _).drewN _⟩
    ·rw [hbb] at hB
     go_wp2_with (first
      | (go_at_call 181;refine (hl1 0).mono ?_;clear hl1;rintro e w' ⟨rfl,k5,rfl⟩)
      | (go_at_call 181;refine (hl2 _).r λk6=>?_)
      | (go_at_call 300;refine (hB _).r λk7=>?_))
     go_roundg (gk - 1)
     case measure=>omega
     case rel=>exact ⟨j+1,by go_num,by omega,by rw [hs.out,hbb];rfl,by first|exact mr.out.drewN _|exact ((mr.out.drewN _).drewN _).drewN _⟩
   ·have hltI:¬ (j:Int)<n:=by omega
    have e:l.take j=l:=List.take_of_length_le (by rw [hn.out];omega)
    rw [e]
    clear hst hLd i3 q0
    go_wp2
    go_ret2
    exact ⟨by rw [ha0.out];rfl,m2.trans mr sM⟩
theorem nM (h:(dK b r).holds F w) (m:Nat) (hm:m<2 ^ 64) (hT:bA w):Calls tp 249 #[vp (sS ⟨b,0,nN⟩),vi uQ (m:Nat)] w (λe w'=>e=.returned (.tuple #[vi iQ (r.bestV m jE),vi iQ (r.bestE m)]) /\ af [] w w'):=by
 have hB:=nK h m hm hT
 clear h
 go_in
 go_wp2_with (go_at_call 299;refine hB.s λw2 m2=>?_)
 go_ret2
 exact ⟨rfl,m2⟩
theorem pz (h:(dK b r).holds F w) (m:Nat) (hm:m<2 ^ 64) (hT:bA w):Calls tp 299 #[vp (sS ⟨b,0,nN⟩),vi uQ (m:Nat),.func (.func 301) #[] #[]] w (λe w'=>e=.returned (.tuple #[vi iQ (r.bestV m jH),vi iQ (r.bestE m)]) /\ af [] w w'):=by
 obtain ⟨hok,g,cap,wb,cnt,D,hA⟩:=dA h
 obtain ⟨k0,k1,k2,k3⟩:=hA.rqC
 have hU:=λw=>ix r.n w
 have hup:=iB r.n
 have hAnd:=λw=>om m (bw r.n) w hm hup
 have hx:m &&& bw r.n<2 ^ 64:=Nat.lt_of_le_of_lt Nat.and_le_left hm
 have hL:=λw' (hT:bA w')=>(wx (m &&& bw r.n) hx w' hT)
 have hlen:(r.some_ m).length <= 64:=pM _
 have hV:r.bestV m jH=if r.some_ m=[] then 0 else iS r.load jH (ar (r.some_ m) 0) (r.some_ m):=rfl
 have hE:r.bestE m=if r.some_ m=[] then 12 else 0:=rfl
 have hl0:cw (m &&& bw r.n)=r.some_ m:=rfl
 rw [hl0] at hL
 have hLd:=λw' (mm:af [] w w') c=>jA ((dK b r).keep h mm sM) c
 generalize r.some_ m=l at *
 generalize m &&& bw r.n=x at *
 generalize bw r.n=up at *
 clear hA hl0
 by_cases hl:l=[]
 ·rw [pG hl] at hV hE
  rw [hV,hE]
  subst hl
  clear hV hE hLd hlen h
  go_in
  go_wp2_with (first
   | (go_at_call 22;refine (hU _).r λk=>?_)
   | (go_at_call 282;refine (hAnd _).r λk4=>?_)
   | (go_at_call 334;refine (hL _ (by first|exact hT.drewN _|exact (hT.drewN _).drewN _)).mono ?_;intro e w2 hm2;obtain ⟨a2,c2,rfl,m2,i2,n2⟩:=hm2.newL))
  go_ret2
  exact ⟨rfl,m2.undrewN⟩
 ·rw [nG hl] at hV hE
  rw [hV,hE]
  have hpos:0<l.length:=List.length_pos_iff.2 hl
  have hst:=λj (hj:j<l.length)=>xc r.load jH (ar l 0) hj
  have hbd:=λc=>CD hok c
  clear hV hE hl h hok
  obtain ⟨n,hn⟩:∃ n,l.length=n:=⟨_,rfl⟩
  rw [hn] at hlen hpos hst
  replace hn:=zh hn
  have hposI:(0:Int)<n:=by omega
  have hne:((n:Int)==0)=fF:=by simp;omega
  go_in
  go_wp2_with (first
   | (go_at_call 22;refine (hU _).r λk=>?_)
   | (go_at_call 282;refine (hAnd _).r λk4=>?_)
   | (
    go_at_call 334
    refine (hL _ (by first|exact hT.drewN _|exact (hT.drewN _).drewN _)).mono ?_
    intro e w2 hm2
    obtain ⟨a2,c2,e2,m2,i2,n2⟩:=hm2.newL
    rw [hn.out] at e2
    subst e2
    have m2:=m2.undrewN
    obtain ⟨gb,rfl,z2,i3⟩:=i2.resolve_left (λq=>by rw [q] at hn;have:=hn.out;simp at this;omega)
    rw [hn.out] at i3
    have q0:=i3 0 hpos
    clear hL hm2 i2
    ))
  generalize ha0:ar l 0=a0 at *
  replace ha0:=zh ha0
  go_loopg [9,31] n (λgg at_ i wr=>∃ j:Nat,i=vi iQ j /\ j+gg=n /\ at_=vi iQ (iS r.load jH a0 (l.take j)) /\ af [] w2 wr)
  case atStart=>exact ⟨0,rfl,by omega,rfl,af.refl _ _⟩
  case round=>
   obtain ⟨j,rfl,hj,rfl,mr⟩:=hrel
   by_cases hlt:j<n
   ·have hltI:(j:Int)<n:=by omega
    have cj:=mr.at (i3 j hlt) sM
    have hs:=hst j hlt
    have hl1:=λk=>hLd (wr.drewN k) ((m2.trans mr sM).drewN k) (ar l j)
    have hl2:=λk=>hLd (wr.drewN k) ((m2.trans mr sM).drewN k) (iS r.load jH a0 (l.take j))
    have hB:=λw=>Jr (r.load (ar l j)) (r.load (iS r.load jH a0 (l.take j))) w
    replace hs:=zh hs
    replace mr:=zh mr
    clear hLd hst i3 q0
    generalize iS r.load jH a0 (l.take j)=pv at *
    generalize ar l j=y at *
    generalize r.load y=ly at *
    generalize r.load pv=lp at *
    cases hbb:jH ly lp
    ·rw [hbb] at hB
     go_wp2_with (first
      | (go_at_call 181;refine (hl1 0).mono ?_;clear hl1;rintro e w' ⟨rfl,k5,rfl⟩)
      | (go_at_call 181;refine (hl2 _).r λk6=>?_)
      | (go_at_call 301;refine (hB _).r λk7=>?_))
     go_roundg (gk - 1)
     case measure=>omega
     case rel=>exact ⟨j+1,by go_num,by omega,by rw [hs.out,hbb];rfl,by first|exact mr.out.drewN _|exact ((mr.out.drewN _).drewN _).drewN _⟩
    ·rw [hbb] at hB
     go_wp2_with (first
      | (go_at_call 181;refine (hl1 0).mono ?_;clear hl1;rintro e w' ⟨rfl,k5,rfl⟩)
      | (go_at_call 181;refine (hl2 _).r λk6=>?_)
      | (go_at_call 301;refine (hB _).r λk7=>?_))
     go_roundg (gk - 1)
     case measure=>omega
     case rel=>exact ⟨j+1,by go_num,by omega,by rw [hs.out,hbb];rfl,by first|exact mr.out.drewN _|exact ((mr.out.drewN _).drewN _).drewN _⟩
   ·have hltI:¬ (j:Int)<n:=by omega
    have e:l.take j=l:=List.take_of_length_le (by rw [hn.out];omega)
    rw [e]
    clear hst hLd i3 q0
    go_wp2
    go_ret2
    exact ⟨by rw [ha0.out];rfl,m2.trans mr sM⟩
theorem qE (h:(dK b r).holds F w) (m:Nat) (hm:m<2 ^ 64) (hT:bA w):Calls tp 250 #[vp (sS ⟨b,0,nN⟩),vi uQ (m:Nat)] w (λe w'=>e=.returned (.tuple #[vi iQ (r.bestV m jH),vi iQ (r.bestE m)]) /\ af [] w w'):=by
 have hB:=pz h m hm hT
 clear h
 go_in
 go_wp2_with (go_at_call 299;refine hB.s λw2 m2=>?_)
 go_ret2
 exact ⟨rfl,m2⟩
end
section
variable {P:Program} {ops:Array Oper} {Q:Exit -> Act -> wW -> Prop} {md:Region.Mode} {l n:Nat}
theorem Dh {o:Oper} {a:Act} {next:Act -> wW -> Prop} (r:Result Next) (h:o.upon P a next Q r):o.uponIn (Fence.wide.inRound l) n P a next Q r:=by
 cases r with
 | ok x w'=>
  cases x with
  | value v=>exact h
  | skip=>exact h
  | defer d=>exact h
  | enter f args=>exact ⟨(λhd=>by cases hd),CallsIn.inRound l (callsIn_wide.2 h)⟩
  | row row args=>exact ⟨(λhd=>by cases hd),λc cs _=>let ⟨v,w',r,s⟩:=h c cs;⟨v,w',r,stepsIn_wide.2 s⟩⟩
  | round l f tmps assign body=>exact h.elim
  | _=>exact h.elim
 | halt x w'=>cases x<;>exact h
/-- No operation defers a call. -/
def oa (ops:Array Oper):Bool:=ops.all λo=>match o.op with|.defer _=>fF|_=>tQ
theorem xz (h:oa ops=tQ) (j:Nat) (o:Oper) (c:Call) (ho:ops[j]?=sS o):o.op≠.defer c:=by
 intro e
 unfold oa at h
 rw [Array.all_eq_true] at h
 obtain ⟨hj,rfl⟩:=Array.getElem?_eq_some_iff.1 ho
 have:=h j hj
 rw [e] at this
 cases this
theorem CX {i:Nat} {K:Act -> wW -> Prop} {a:Act} {w:wW} (hnd:oa ops=tQ) (hq:¬ LetsOut Q) (h:wpOp P ops Q i K a w):wpOpIn (Fence.wide.inRound l) n P ops Q i K a w:=by
 unfold wpOp at h
 unfold wpOpIn
 cases ho:ops[i]? with
 | none=>rw [ho] at h;exact h
 | some o=>
  rw [ho] at h
  simp only at h ⊢
  split
  ·rename_i hw
   rw [pG hw] at h
   rcases h with h|h
   ·refine ⟨λ_ _=>trivial,?_⟩
    rw [Oper.semAt_eq _ _ _ (λc=>xz hnd i o c ho)]
    exact Dh _ h
   ·exact absurd h.2 hq
  ·rename_i hw
   rw [nG hw] at h
   exact ⟨λ_ _=>trivial,h⟩
theorem rV (hnd:oa ops=tQ) (hq:¬ LetsOut Q):∀ (fuel:Nat) (listed:Array Bool) (a:Act) (w:wW),wpAny P md ops Q fuel listed a w -> wpAnyIn (Fence.wide.inRound l) n P md ops Q fuel listed a w
 | 0,_,_,_,h=>h
 | fuel+1,_,_,_,h=>⟨h.1,λi hi=>wpOpIn_mono (λa w=>rV hnd hq fuel _ a w) (CX hnd hq (h.2 i hi))⟩
theorem kV (D:List Nat) (S:wW -> Prop) {id:Nat} {a:Act} {w:wW} (hm:P.follows .mixedOrders=tQ) (hnd:oa ops=tQ) (hq:¬ LetsOut Q) (hS:S w.drew)
  (h:S w.drew -> bV P .any ops Q D S ops.size (Array.replicate ops.size fF) a w.drew):(Code.region id ops tQ).wpIn (Fence.wide.inRound l) n P Q a w:=
 wpIn_region_any hm (rV hnd hq _ _ _ _ (mI _ _ _ _ (h hS)))
/-- Only what is asked at the common end. -/
def jD (Q:Exit -> Act -> wW -> Prop):Exit -> Act -> wW -> Prop
 | .normal,a,w=>Q .normal a w
 | _,_,_=>False
theorem jD.of {a:Act} {w:wW} (h:Q .normal a w):jD Q .normal a w:=h
theorem jD.not:¬ LetsOut (jD Q):=λ⟨_,_,h⟩=>h
theorem jT {F:Fence} {c:Code} {a:Act} {w:wW} (h:c.wpIn F n P (jD Q) a w):c.wpIn F n P Q a w:=wpIn_mono h (by
 intro e a w h
 cases e with
 | normal=>exact h
 | _=>exact h.elim)
end
theorem kW {m:Nat} {P:Program} {g:Operand} {ps:Array Tmp} {assign body:Code} {Q:Exit -> Act -> wW -> Prop} {a:Act} {w:wW}
  {gf:Nat} {lb:Array Value} (hg:a.eval g=.func (.func gf) #[] lb) (eg:∀ args w,(callFunc gf args).run P w=.ok (.enter gf args) w)
  (N:Nat) (enc:Nat -> Array Value) (hps:∀ i,(enc i).size=ps.size) (I:Nat -> wW -> Prop) (Ix:Code -> Nat -> wW -> Prop)
  (hput:∀ i W b o,I i W -> (b=w.heap.size \/ b=w.heap.size+1) -> I i (W.putObj b o))
  (hputx:∀ c i W b o,Ix c i W -> (b=w.heap.size \/ b=w.heap.size+1) -> Ix c i (W.putObj b o))
  (hI0:∀ o1 o2,I 0 ((w.alloc o1).alloc o2))
  (hit:∀ (l:Nat) (J Jx:Nat -> wW -> Prop) (W:wW),(∀ i W,J i W -> I i W) ->
   (∀ i W,i<N -> J i W -> YieldAt Fence.wide (m+1) P l (enc i) W λe W'=>(e=.returned (vb tQ) /\ J (i+1) W') \/ (e=.returned (vb fF) /\ Jx i W')) -> J 0 W ->
   CallsIn Fence.wide (m+2) P gf (#[.func (.yield l) #[] #[]]++lb) W λe W'=>(∃ v,e=.returned v) /\ (J N W' \/ ∃ i,i<N /\ Jx i W'))
  (hround:∀ l i W,I i W -> i<N -> w.heap.size+1<W.heap.size ->
   assign.wpIn (Fence.wide.inRound l) (m+1) P (Exit.then (λa₁ W₁=>af [] W W₁ /\ ∀ o,body.wpIn (Fence.wide.inRound l) (m+1) P
    (λe _ W3=>W3.heap[w.heap.size]?=W₁.heap[w.heap.size]? /\ W3.heap[w.heap.size+1]?=(W₁.putObj (w.heap.size+1) o).heap[w.heap.size+1]? /\ yT I Ix i W3 e) a₁ (W₁.putObj (w.heap.size+1) o)) (λ_ _ _=>False))
    { tmps:=(ps.zip (enc i)).foldl (λt (p,v)=>t.setIfInBounds p v) a.tmps,defers:=[] } W)
  (hdone:∀ W,I N W -> W.heap[w.heap.size]?=sS (.deferred (sS [])) -> Q .normal { a with defers:={ target:=.collected w.heap.size,args:=#[] } :: a.defers } W)
  (hstop:∀ c i W,i<N -> Ix c i W -> W.heap[w.heap.size]?=sS (.deferred (sS [])) -> c.wpIn Fence.wide (m+3) P Q { a with defers:={ target:=.collected w.heap.size,args:=#[] } :: a.defers } W):
  (Code.rangeFunc g ps assign body).wpIn Fence.wide (m+3) P Q a w:=by
 refine wpIn_rangeFunc ?_
 intro fn hfn
 obtain ⟨rec,hrec⟩:∃ rec:LoopState -> Option Code -> Loop,rec=λst pe=>{ state:=st,pending:=pe,fn,tmps:=a.tmps,params:=ps,assign,body,defers:=w.heap.size }:=⟨_,rfl⟩
 obtain ⟨W1,hW1⟩:∃ W1,(w.alloc (.deferred (sS []))).alloc (.loop (rec .ready nN))=W1:=⟨_,rfl⟩
 have hL1:W1.heap[w.heap.size+1]?=sS (.loop (rec .ready nN)):=by
  rw [<- hW1];have:=World.alloc_heap_new (w.alloc (.deferred (sS []))) (.loop (rec .ready nN));rwa [World.size_alloc] at this
 have hK1:W1.heap[w.heap.size]?=sS (.deferred (sS [])):=by
  rw [<- hW1];exact (Below.heap_alloc _ _ _ sM).trans (World.alloc_heap_new w _)
 have hI1:I 0 W1:=by rw [<- hW1];exact hI0 _ _
 refine ⟨w.heap.size+1,[{ target:=.collected w.heap.size,args:=#[] }],W1,{ target:=.fn (.func gf) lb,args:=#[.func (.yield (w.heap.size+1)) #[] #[]] },W1,gf,
  #[.func (.yield (w.heap.size+1)) #[] #[]]++lb,W1,?_,?_,?_,?_,λ_=>by omega,?_⟩
 ·rw [<- hW1,hrec];exact run_enterLoop_outer _ _ _ _ _
 ·simp only [resolve,hg]
  simp [go_sem]
 ·intro f' hf';trivial
 ·simp [invoke,go_sem,eg]
 ·refine (hit (w.heap.size+1)
   (λi W=>I i W /\ W.heap[w.heap.size+1]?=sS (.loop (rec .ready nN)) /\ W.heap[w.heap.size]?=sS (.deferred (sS [])))
   (λi W=>∃ c,Ix c i W /\ W.heap[w.heap.size+1]?=sS (.loop (rec .done (sS c))) /\ W.heap[w.heap.size]?=sS (.deferred (sS [])))
   W1 (λi W h=>h.1) ?_ ⟨hI1,hL1,hK1⟩).mono ?_
  ·rintro i W hlen ⟨hi,hl,hk⟩
   have hlt:w.heap.size+1<W.heap.size:=(Array.getElem?_eq_some_iff.1 hl).1
   have hy:=run_yield (P:=P) (args:=(enc i)) hl (by rw [hrec];exact hps i)
   rw [hrec] at hy
   refine ⟨fn,_,assign,body,hy,roundIn_of_wpIn (trivial:Fence.wide.fn fn) (wpIn_mono (hround (w.heap.size+1) i W hi hlen hlt) ?_)⟩
   intro e a₁ W₁ h1
   cases e with
   | normal=>
    obtain ⟨m,hb⟩:=h1
    have hl1:=m.keep hl sM
    have hk1:=m.keep hk sM
    refine ⟨_,run_beginRound hl1 (by rw [hrec]),wpIn_mono (hb _) ?_⟩
    rintro e2 a2 W3 ⟨k0,k1,hI3⟩
    have hl3:W3.heap[w.heap.size+1]?=sS (.loop { rec .ready nN with state:=.busy }):=k1.trans (World.putObj_heap_same (bY hl1))
    have hk3:=k0.trans hk1
    have fin:∀ (jump:Option Code),(Instr.endRound (w.heap.size+1) jump).run P W3=.ok (vb jump.isNone) (W3.putObj (w.heap.size+1) (.loop (rec (if jump.isNone then .ready else .done) jump))) /\
      (W3.putObj (w.heap.size+1) (.loop (rec (if jump.isNone then .ready else .done) jump))).heap[w.heap.size+1]?=sS (.loop (rec (if jump.isNone then .ready else .done) jump)) /\
      (W3.putObj (w.heap.size+1) (.loop (rec (if jump.isNone then .ready else .done) jump))).heap[w.heap.size]?=sS (.deferred (sS [])):=λjump=>by
     have:=run_endRound (P:=P) jump hl3
     rw [hrec] at this ⊢
     exact ⟨this,World.putObj_heap_same (bY hl3),(World.putObj_heap_other oM).trans hk3⟩
    cases e2 with
    | normal=>
     obtain ⟨hr,q1,q2⟩:=fin nN
     exact ⟨_,_,hr,.inl ⟨rfl,hput _ _ _ _ hI3 (.inr rfl),q1,q2⟩⟩
    | ret=>
     obtain ⟨hr,q1,q2⟩:=fin (sS .ret)
     exact ⟨_,_,hr,.inr ⟨rfl,.ret,hputx _ _ _ _ _ hI3 (.inr rfl),q1,q2⟩⟩
    | exit id=>
     obtain ⟨hr,q1,q2⟩:=fin (sS (.exit id))
     exact ⟨_,_,hr,.inr ⟨rfl,.exit id,hputx _ _ _ _ _ hI3 (.inr rfl),q1,q2⟩⟩
    | goto t=>
     obtain ⟨hr,q1,q2⟩:=fin (sS (.goto t))
     exact ⟨_,_,hr,.inr ⟨rfl,.goto t,hputx _ _ _ _ _ hI3 (.inr rfl),q1,q2⟩⟩
    | panic ch=>exact hI3.elim
    | outgrown=>exact hI3.elim
   | ret=>exact h1.elim
   | exit id=>exact h1.elim
   | goto t=>exact h1.elim
   | panic ch=>exact h1.elim
   | outgrown=>exact h1.elim
  ·rintro e W2 ⟨⟨v,rfl⟩,(⟨hi,hl,hk⟩|⟨i,hlt,c,hi,hl,hk⟩)⟩
   ·have he:=run_endLoop (P:=P) hl (by rw [hrec];simp)
    rw [hrec] at he
    exact ⟨nN,_,he,hdone _ (hput _ _ _ _ hi (.inr rfl)) ((World.putObj_heap_other oM).trans hk)⟩
   ·have he:=run_endLoop (P:=P) hl (by rw [hrec];simp)
    rw [hrec] at he
    exact ⟨sS c,_,he,hstop c i _ hlt (hputx _ _ _ _ _ hi (.inr rfl)) ((World.putObj_heap_other oM).trans hk)⟩
section
attribute [local go_sem] Oper.semAt_some
section
variable {F:List Nat} {w u:wW} {b:Nat} {p:KP} {k:KT} {l:List ak}
theorem CL {q:Int -> Bool}:∀ (R:List Int) (i:Nat),i<R.length -> (∀ j,j<i -> q (ar R j)=fF) -> q (ar R i)=tQ -> R.find? q=sS (ar R i)
 | [],i,h,_,_=>by cases h
 | x :: R,0,_,_,h2=>by
  have h2:q x=tQ:=h2
  rw [List.find?_cons,h2];rfl
 | x :: R,i+1,h,h1,h2=>by
  have hx:q x=fF:=h1 0 oM
  rw [List.find?_cons,hx]
  exact CL R i (by simpa using h) (λj hj=>h1 (j+1) oM) h2
theorem CK {q:Int -> Bool}:∀ (R:List Int),(∀ j,j<R.length -> q (ar R j)=fF) -> R.find? q=nN
 | [],_=>rfl
 | x :: R,h=>by
  have hx:q x=fF:=h 0 sM
  rw [List.find?_cons,hx]
  exact CK R (λj hj=>h (j+1) (by simpa using hj))
theorem rM (L:List Int) (i:Nat) (h:i<L.length):ar L.reverse i=ar L (L.length - 1 - i):=by
 unfold ar
 rw [List.getD_eq_getElem?_getD,List.getD_eq_getElem?_getD,List.getElem?_reverse h]
theorem lM {r:RQ} (h:r.ok) (c:Int):0 <= r.load c /\ r.load c <= 32:=by
 unfold RQ.load
 split
 ·have:=(h.fine c.toNat).2.1
  unfold RQ.at
  omega
 ·omega
/-- A thing among others, the base world a later one. -/
theorem On.base (h:On F w l u):∃ F',aR l F' u /\ (∀ {u2:wW} {l2:List ak},On F' u l2 u2 -> On F w l2 u2) /\ ∀ x,x∈F' -> x<u.heap.size:=by
 obtain ⟨F',h1,h2,h3⟩:=h
 refine ⟨F',h1,?_,h1.lt⟩
 rintro u2 l2 ⟨F2,g1,g2,g3⟩
 refine ⟨F2,g1,h2.trans g2 h3,λx hx=>?_⟩
 rcases g3 x hx with q|q
 ·exact h3 x q
 ·have:=h2.size;exact .inr oM
/-- Things apart, of blocks of F or not below s; what else was there is as it was. -/
def Ip (F:List Nat) (w:wW) (s:Nat) (l:List ak) (u:wW):Prop:=∃ F',aR l F' u /\ af F w u /\ ∀ x,x∈F' -> x∈F \/ s <= x
theorem Ip.put {s q:Nat} (h:Ip F w s l u) (h1:w.heap.size <= q) (h2:q<s) (h3:q∉F) (o:Obj):Ip F w s l (u.putObj q o):=by
 obtain ⟨F',g1,g2,g3⟩:=h
 refine ⟨F',g1.keep (ep u q o) (λx hx hq=>?_),g2.trans (ep u q o) (by simp;omega),g3⟩
 simp at hq
 subst hq
 rcases g3 x hx with r|r
 ·exact h3 r
 ·omega
theorem Ip.on {s:Nat} (h:Ip F w s l u) (hs:w.heap.size <= s):On F w l u:=by
 obtain ⟨F',g1,g2,g3⟩:=h
 exact ⟨F',g1,g2,λx hx=>(g3 x hx).imp id (λq=>Nat.le_trans hs q)⟩
theorem On.onQ {v:wW} (m:af [] w v) (h:On F v l u):Ip F w v.heap.size l u:=by
 obtain ⟨F',g1,g2,g3⟩:=h
 exact ⟨F',g1,(m.mono sM).trans g2 (λx hx=>.inl hx),g3⟩
theorem rb (v:Value) (hv:∃ a n c,v=.slice a n c) (w:wW):Calls tp 251 #[v] w
  (λe w'=>e=.returned (.func (.func 302) #[] #[vp (sS ⟨w.heap.size,0,nN⟩)]) /\ af [] w w' /\ w.heap.size<w'.heap.size /\ w'.heap[w.heap.size]?=sS (.cells #[v] 30 (0,0))):=by
 obtain ⟨a,n,c,rfl⟩:=hv
 go_in
 go_wp2
 go_ret
 exact ⟨rfl,mR.alloc _,by simp,ai _ _⟩
theorem Fp (l s:Nat) (L:List Int) (hL:L.length<1000000) (sv:Option Addr) (cap:Nat) (J Jx:Nat -> wW -> Prop) (W:wW)
  (hC:∀ i W,J i W -> W.cell? ⟨s,0,nN⟩=sS (.slice sv L.length cap) /\ ∀ j,j<L.length -> ∃ g,sv=sS ⟨g,0,nN⟩ /\ W.cell? ⟨g,j,nN⟩=sS (vi iQ (ar L j)))
  (hY:∀ i W,i<L.length -> J i W -> YieldAt Fence.wide 2 tp l #[vi iQ ((L.length - 1 - i:Nat):Int),vi iQ (ar L (L.length - 1 - i))] W λe W'=>(e=.returned (vb tQ) /\ J (i+1) W') \/ (e=.returned (vb fF) /\ Jx i W'))
  (h0:J 0 W):
  CallsIn Fence.wide 3 tp 302 #[.func (.yield l) #[] #[],vp (sS ⟨s,0,nN⟩)] W λe W'=>(∃ v,e=.returned v) /\ (J L.length W' \/ ∃ i,i<L.length /\ Jx i W'):=by
 have c00:=(hC 0 W h0).1
 generalize hn:L.length=n at *
 refine callsIn_of_wp Tryz.func302 rfl trivial ?_ rfl
 simp only [Tryz.ntmps302,List.size_toArray,List.length_cons,List.length_nil,Nat.reduceAdd,Nat.reduceSub,Array.replicate_succ,Array.replicate_zero,List.push_toArray,List.append_toArray,List.nil_append,List.cons_append]
 gi_wp2
 gi_loopw [3] (λp wr=>∃ i:Nat,p=vi iQ ((n:Int) - 1 - (i:Int)) /\ i <= n /\ J i wr) (λp _=>(intOf p+1).toNat)
 case atStart=>exact ⟨0,by congr 1;go_num,by omega,h0⟩
 case round=>
  obtain ⟨i,rfl,hi,hJ⟩:=hrel
  obtain ⟨c0,cD⟩:=hC i wr hJ
  by_cases hlt:i<n
  ·obtain ⟨g,rfl,c1⟩:=cD (n - 1 - i) oM
   have hcast:((n - 1 - i:Nat):Int)=(n:Int) - 1 - (i:Int):=by omega
   have hYi:=hY i wr hlt hJ
   rw [hcast] at hYi
   have hh:=zh hcast
   clear hcast
   have h70:(0:Int) <= (n:Int) - 1 - (i:Int):=by omega
   have h78:(n:Int) - 1 - (i:Int)<n:=by omega
   have h7t:((n:Int) - 1 - (i:Int)).toNat=n - 1 - i:=by omega
   obtain ⟨fn,tmps,assign,body,hy,hR⟩:=hYi
   gi_wp2
   refine hR.mono ?_
   rintro e W3 (⟨rfl,hJ3⟩|⟨rfl,hJ3⟩)
   ·gi_wp2
    go_roundw
    case rel=>exact ⟨i+1,by congr 1;go_num,by omega,hJ3⟩
    case measure=>simp [intOf];go_num
   ·gi_wp2
    refine bodyPost_ret (results_none rfl _ _ _) rfl ?_
    exact ⟨⟨_,rfl⟩,.inr ⟨i,hlt,hJ3⟩⟩
  ·have hlt2:¬ (0:Int) <= (n:Int) - 1 - (i:Int):=by omega
   have e8:i=n:=by omega
   replace e8:=zh e8
   gi_wp2
   go_end0
   exact ⟨⟨_,rfl⟩,.inl (by rw [<- e8.out];exact hJ)⟩
end
end
section
attribute [local go_sem] Oper.semAt_some
section
variable {F:List Nat} {w u:wW} {b:Nat} {p:KP} {k:KT}
theorem zip2 (p q:Nat) (u v:Value) (tm:Array Value):((#[p,q]:Array Nat).zip #[u,v]).foldl (λt (p,v)=>t.setIfInBounds p v) tm=(tm.setIfInBounds p u).setIfInBounds q v:=by
 first|rfl|(simp;done)|(simp [Array.zip,Array.zipWith];done)
theorem Be {r:RQ} (h:r.ok) (c:Int):(r.list c).length <= 32:=by
 unfold RQ.list
 split
 ·have e:(lu (r.at c)).length=(r.at c).length:=Es _ (h.fine c.toNat).1.lt
  rw [e]
  exact (h.fine c.toNat).2.1
 ·simp
theorem Ip.weak {s s':Nat} {l:List ak} (h:Ip F w s l u) (hs:s' <= s):Ip F w s' l u:=by
 obtain ⟨F',g1,g2,g3⟩:=h
 exact ⟨F',g1,g2,λx hx=>(g3 x hx).imp id (λq=>Nat.le_trans hs q)⟩
theorem KT.ok.bal (h:k.ok):k.bal.ok:=by
 unfold KT.bal
 split
 ·exact h
 ·exact (h.wRq ((Gq _ _ _ _).trans (eX _ _))).wTh (Bt _ _ _ _)
theorem KB (hc:¬ k.rq.load k.balFrom - k.rq.load k.balTo<2) (h1:∀ j,j<(k.rq.list k.balFrom).length -> aW (k.th.get (ar (k.rq.list k.balFrom) ((k.rq.list k.balFrom).length - 1 - j))).mask k.balTo=fF):k.bal=k /\ k.balV=0:=by
 have e:k.balId=none:=by
  unfold KT.balId
  rw [nG hc]
  refine CK _ (λj hj=>?_)
  rw [List.length_reverse] at hj
  rw [rM _ _ hj]
  exact h1 j hj
 constructor
 ·unfold KT.bal;rw [e]
 ·unfold KT.balV;rw [e];rfl
theorem JJ {i:Nat} (hi:i<(k.rq.list k.balFrom).length) (hc:¬ k.rq.load k.balFrom - k.rq.load k.balTo<2) (h1:∀ j,j<i -> aW (k.th.get (ar (k.rq.list k.balFrom) ((k.rq.list k.balFrom).length - 1 - j))).mask k.balTo=fF) (h2:aW (k.th.get (ar (k.rq.list k.balFrom) ((k.rq.list k.balFrom).length - 1 - i))).mask k.balTo=tQ):
  k.bal={ k with rq:=(k.rq.take (ar (k.rq.list k.balFrom) ((k.rq.list k.balFrom).length - 1 - i))).put k.balTo (k.th.get (ar (k.rq.list k.balFrom) ((k.rq.list k.balFrom).length - 1 - i))).prio (ar (k.rq.list k.balFrom) ((k.rq.list k.balFrom).length - 1 - i)),th:=k.th.place (ar (k.rq.list k.balFrom) ((k.rq.list k.balFrom).length - 1 - i)) k.balTo fF } /\ k.balV=ar (k.rq.list k.balFrom) ((k.rq.list k.balFrom).length - 1 - i):=by
 have e:k.balId=sS (ar (k.rq.list k.balFrom) ((k.rq.list k.balFrom).length - 1 - i)):=by
  unfold KT.balId
  rw [nG hc,<- rM _ _ hi]
  refine CL _ i (by rw [List.length_reverse];exact hi) (λj hj=>?_) ?_
  ·rw [rM _ _ oM];exact h1 j hj
  ·rw [rM _ _ hi];exact h2
 constructor
 ·unfold KT.bal;rw [e]
 ·unfold KT.balV;rw [e];rfl
theorem Aq (hc:k.rq.load k.balFrom - k.rq.load k.balTo<2):k.bal=k /\ k.balV=0:=by
 have e:k.balId=none:=by unfold KT.balId;rw [pG hc]
 constructor
 ·unfold KT.bal;rw [e]
 ·unfold KT.balV;rw [e];rfl
theorem mg (h:(aa b k).holds F w) (hT:bA w) (hc:k.rq.load k.balFrom - k.rq.load k.balTo<2):Calls tp 162 #[vp (sS ⟨b,0,nN⟩)] w (al (aa b (k)) F (vi iQ (0)) w):=by
 obtain ⟨hok,p,hK⟩:=ad h
 have hA:=(((hK.alloc (.cells #[vp (sS ⟨b,0,nN⟩)] 41 (0,0))).front).alloc (.cells #[vi iQ 0] 3 (0,0))).front
 have hrq:k.rq.ok:=by
  obtain ⟨F3,h3⟩:=hK.get 3 rfl
  exact (dA h3).1
 have hth:=lS hK
 have hf:=lM hrq k.balFrom
 have ht:=lM hrq k.balTo
 have HA:=zh hA
 have HO:=zh hok
 have hTab:∀ v,af [] ((w.alloc (.cells #[vp (sS ⟨b,0,nN⟩)] 41 (0,0))).alloc (.cells #[vi iQ 0] 3 (0,0))) v -> bA v:=λv m=>hT.keep ((((af.refl [] w).alloc _).alloc _).trans m sM) sM
 clear hth
 clear h hK hA hrq hok
 refine (callsIn_wide (n:=4)).1 ?_
 refine callsIn_of_wp_marks Tryz.func162 rfl trivial ?_ rfl
 simp only [Tryz.ntmps162,List.size_toArray,List.length_cons,List.length_nil,Nat.reduceAdd,Nat.reduceSub,Array.replicate_succ,Array.replicate_zero,List.push_toArray,List.append_toArray,List.nil_append,List.cons_append]
 gi_wp2
 rw [show (w.alloc (.cells #[vp (sS ⟨b,0,nN⟩)] 41 (0,0))).heap.size=w.heap.size+1 from by simp] at HA
 generalize ((w.alloc (.cells #[vp (sS ⟨b,0,nN⟩)] 41 (0,0))).alloc (.cells #[vi iQ 0] 3 (0,0)))=W at *
 generalize w.heap.size=kb at *
 have hx:∀ v,af [] W v -> v.cell? ⟨kb,0,nN⟩=sS (vp (sS ⟨b,0,nN⟩)) /\ v.cell? ⟨b,1,nN⟩=sS (vp (sS ⟨p.rq,0,nN⟩)) /\ v.cell? ⟨b,17,nN⟩=sS (vi uQ (k.active:Nat)):=λv m=>⟨(HA.out.keep m).cell 1 rfl 0,(HA.out.keep m).cell 2 rfl 1,(HA.out.keep m).cell 2 rfl 17⟩
 have C:=hx W mR
 have m0:af [] W W:=af.refl _ _
 have hBu:∀ v,af [] W v -> Calls tp 249 #[vp (sS ⟨p.rq,0,nN⟩),vi uQ (k.active:Nat)] v (λe w'=>e=.returned (.tuple #[vi iQ k.balFrom,vi iQ (k.rq.bestE k.active)]) /\ af [] v w'):=λv m=>nM ((HA.out.keep m).get 5 rfl).choose_spec k.active HO.out.ac (hTab v m)
 have hId:∀ v,af [] W v -> Calls tp 250 #[vp (sS ⟨p.rq,0,nN⟩),vi uQ (k.active:Nat)] v (λe w'=>e=.returned (.tuple #[vi iQ k.balTo,vi iQ (k.rq.bestE k.active)]) /\ af [] v w'):=λv m=>qE ((HA.out.keep m).get 5 rfl).choose_spec k.active HO.out.ac (hTab v m)
 generalize k.rq.bestE k.active=be at *
 refine wpIn_wide.2 ?_
 go_region_held3 (λv=>v.cell? ⟨kb,0,nN⟩=sS (vp (sS ⟨b,0,nN⟩)) /\ v.cell? ⟨b,1,nN⟩=sS (vp (sS ⟨p.rq,0,nN⟩)) /\ v.cell? ⟨b,17,nN⟩=sS (vi uQ (k.active:Nat))) (assumption) (first
  | (
   go_at_call 249
   refine (hBu _ (by first|exact m0|exact m0.drewN _|exact m0.drew)).s λv1 mx=>?_
   have m1:af [] W v1:=by first|exact m0.trans mx sM|exact (m0.drewN _).trans mx sM|exact m0.drew.trans mx sM
   have C:=hx _ m1
   clear mx))
 have HA1:=zh (HA.out.keep m1)
 have hId1:=λv (m:af [] v1 v)=>hId v (m1.trans m sM)
 have hS:∀ v,af [] v1 v -> v.cell? ⟨kb,0,nN⟩=sS (vp (sS ⟨b,0,nN⟩)) /\ v.cell? ⟨b,1,nN⟩=sS (vp (sS ⟨p.rq,0,nN⟩)) /\ v.cell? ⟨b,17,nN⟩=sS (vi uQ (k.active:Nat)):=λv m=>hx v (m1.trans m sM)
 have m2:af [] v1 v1:=af.refl _ _
 clear C m0 hBu hId hx hTab
 gi_wp2
 refine jT (wpIn_wide.2 ?_)
 refine bX [] (λv=>v.cell? ⟨kb,0,nN⟩=sS (vp (sS ⟨b,0,nN⟩)) /\ v.cell? ⟨b,1,nN⟩=sS (vp (sS ⟨p.rq,0,nN⟩)) /\ v.cell? ⟨b,17,nN⟩=sS (vi uQ (k.active:Nat))) kz (hS _ m2.drew) (λhHeld=>?_)
 refine kU 0 (h:=?_)
 refine lp 1 (h:=?_)
 refine lp 2 (h:=?_)
 refine lp 3 (h:=?_)
 refine kU 4 (h:=?_)
 refine kU 5 (h:=?_)
 refine lp 6 (h:=?_)
 refine lp 7 (h:=?_)
 refine kU 8 (h:=?_)
 have HXT:=zh ((HA1.out.alloc (.cells #[vi iQ 0] 3 (0,0))).front)
 refine fg (rs:=[9,13]) kz sM ?_
 refine bg.cons rfl (λK hK=>?_) (bg.cons rfl (λK hK=>?_) bg.nil)
 go_simp
 rotate_left
 go_simp
 rotate_right
 focus
  go_at_call 250
  refine (hId1 _ m2.drew).s λv mv=>?_
  have mv2:af [] v1 v:=m2.drew.trans mv sM
  have D9:=hS _ mv2
  have hY:=((HA1.out.keep mv2).alloc (.cells #[vi iQ 0] 3 (0,0))).front
  have D10:=hS _ (mv2.alloc (.cells #[vi iQ 0] 3 (0,0)))
  have y0:(v.alloc (.cells #[vi iQ 0] 3 (0,0))).cell? ⟨v.heap.size,0,nN⟩=sS (vi iQ 0):=hY.cell 0 rfl 0
  have g0:(v.alloc (.cells #[vi iQ 0] 3 (0,0))).frozen? ⟨v.heap.size,0,nN⟩=fF:=hY.free 0 rfl 0
  have z0:=hY.size 0 rfl
  have HY:=zh ((HA1.out.keep mv2).alloc (.cells #[vi iQ k.balTo] 3 (0,0))).front
  have D11:=hS _ (mv2.alloc (.cells #[vi iQ k.balTo] 3 (0,0)))
  clear mv hY
  refine lk hK (D9) (h:=?_)
  clear hK K
  refine lp 10 (h:=?_)
  refine lp 11 (h:=?_)
  refine lp 12 (h:=?_)
  refine lo 13 (h:=λK hK=>?_)
  go_simp
  refine lk hK (D10) (h:=?_)
  clear hK K
  refine lo 14 (h:=λK hK=>?_)
  go_simp
  refine lk hK (D11) (h:=?_)
  clear hK K
  refine lo 15 (h:=λK hK=>?_)
  go_simp
  refine lk hK (D11) (h:=?_)
  clear hK K
  refine aZ kz (jD.of ?_) _
  refine gi (R:=λZ=>On F w ([ak.blk v.heap.size (.cells #[vi iQ k.balTo] 3 (0,0)),ak.blk (kb+1) (.cells #[vi iQ 0] 3 (0,0)),ak.blk kb (.cells #[vp (sS ⟨b,0,nN⟩)] 41 (0,0))]++ag b p k) Z) HY.out (λV hK=>?_)
  clear HY D9 D10 D11 y0 g0 z0 mv2 HXT hHeld hS hId1 HA1 m2 m1
  generalize v.heap.size=tb at *
  clear v
 rotate_left
 focus
  refine lk hK ((hS _ mz)) (h:=?_)
  clear hK K
  refine lo 9 (h:=λK hK=>?_)
  go_simp
  go_at_call 250
  refine (hId1 _ mz).s λv mv=>?_
  have hY:=(HXT.out.keep ((af.refl [] _).drew)).keep mv
  have D9:v.cell? ⟨kb,0,nN⟩=sS (vp (sS ⟨b,0,nN⟩)) /\ v.cell? ⟨b,1,nN⟩=sS (vp (sS ⟨p.rq,0,nN⟩)) /\ v.cell? ⟨b,17,nN⟩=sS (vi uQ (k.active:Nat)):=⟨hY.cell 2 rfl 0,hY.cell 3 rfl 1,hY.cell 3 rfl 17⟩
  have y0:v.cell? ⟨v1.heap.size,0,nN⟩=sS (vi iQ 0):=hY.cell 0 rfl 0
  have g0:v.frozen? ⟨v1.heap.size,0,nN⟩=fF:=hY.free 0 rfl 0
  have z0:=hY.size 0 rfl
  have HY:=zh (hY.set 0 rfl 0 (vi iQ k.balTo))
  have D11:=And.intro (HY.out.cell 2 rfl 0) (And.intro (HY.out.cell 3 rfl 1) (HY.out.cell 3 rfl 17))
  clear mv hY
  refine lk hK (D9) (h:=?_)
  clear hK K
  refine lp 10 (h:=?_)
  refine lp 11 (h:=?_)
  refine lp 12 (h:=?_)
  refine lo 14 (h:=λK hK=>?_)
  go_simp
  refine lk hK (D11) (h:=?_)
  clear hK K
  refine lo 15 (h:=λK hK=>?_)
  go_simp
  refine lk hK (D11) (h:=?_)
  clear hK K
  refine aZ kz (jD.of ?_) _
  refine gi (R:=λZ=>On F w ([ak.blk v1.heap.size (.cells #[vi iQ k.balTo] 3 (0,0)),ak.blk (kb+1) (.cells #[vi iQ 0] 3 (0,0)),ak.blk kb (.cells #[vp (sS ⟨b,0,nN⟩)] 41 (0,0))]++ag b p k) Z) HY.out (λV hK=>?_)
  clear HY D9 D11 y0 g0 z0 HXT hHeld hS hId1 HA1 m2 m1
  generalize v1.heap.size=tb at *
  clear v
 all_goals
  have HK:=zh hK
  clear hK
  have hx:∀ v,af [] V v -> v.cell? ⟨kb,0,nN⟩=sS (vp (sS ⟨b,0,nN⟩)) /\ v.cell? ⟨b,1,nN⟩=sS (vp (sS ⟨p.rq,0,nN⟩)) /\ v.cell? ⟨tb,0,nN⟩=sS (vi iQ k.balTo):=λv m=>⟨(HK.out.keep m).cell 2 rfl 0,(HK.out.keep m).cell 3 rfl 1,(HK.out.keep m).cell 0 rfl 0⟩
  have C:=hx V mR
  have m0:af [] V V:=af.refl _ _
  have hLd:∀ v,af [] V v -> ∀ c,Calls tp 181 #[vp (sS ⟨p.rq,0,nN⟩),vi iQ c] v (au (vi iQ (k.rq.load c)) v):=λv m c=>jA ((HK.out.keep m).get 6 rfl).choose_spec c
  have hL1:=λv m=>hLd v m k.balFrom
  have hL2:=λv m=>hLd v m k.balTo
  clear hLd
  generalize k.rq.load k.balFrom=la at *
  generalize k.rq.load k.balTo=lb at *
  gi_wp2
  refine wpIn_wide.2 ?_
  go_region_held3 (λv=>v.cell? ⟨kb,0,nN⟩=sS (vp (sS ⟨b,0,nN⟩)) /\ v.cell? ⟨b,1,nN⟩=sS (vp (sS ⟨p.rq,0,nN⟩)) /\ v.cell? ⟨tb,0,nN⟩=sS (vi iQ k.balTo)) (assumption) (first
   | (
    go_at_call_of 181 (vi iQ k.balFrom)
    refine (hL1 _ (by repeat (first|exact mR|assumption|with_reducible apply af.drewN|with_reducible apply af.drew))).r λj2=>?_
    have C:=hx _ (by repeat (first|exact mR|assumption|with_reducible apply af.drewN|with_reducible apply af.drew)))
   | (
    go_at_call_of 181 (vi iQ k.balTo)
    refine (hL2 _ (by repeat (first|exact mR|assumption|with_reducible apply af.drewN|with_reducible apply af.drew))).r λj3=>?_
    have C:=hx _ (by repeat (first|exact mR|assumption|with_reducible apply af.drewN|with_reducible apply af.drew))))
  all_goals
   have r0:V.cell? ⟨kb+1,0,nN⟩=sS (vi iQ 0):=HK.out.cell 1 rfl 0
   have f0:=HK.out.free 1 rfl 0
   have z0:=HK.out.size 1 rfl
   clear C hx hL1 hL2 m0
   have hW:IntKind.i64.wrap (la - lb)<2:=by rw [IntKind.wrap_i64];omega
   gi_wp2
   refine ⟨vi iQ 0,?_,?_⟩
   ·rw [ja rfl];go_simp
   ·exact On.kturns (((((HK.out.keep (by repeat (first|exact mR|with_reducible apply af.drewN|with_reducible apply af.drew))).set 1 rfl 0 (vi iQ 0)).drop 0).drop 0).drop 0) HO.out
theorem mf (h:(aa b k).holds F w) (hT:bA w) (hc:¬ k.rq.load k.balFrom - k.rq.load k.balTo<2):Calls tp 162 #[vp (sS ⟨b,0,nN⟩)] w (al (aa b (k.bal)) F (vi iQ (k.balV)) w):=by
 obtain ⟨hok,p,hK⟩:=ad h
 have hA:=(((hK.alloc (.cells #[vp (sS ⟨b,0,nN⟩)] 41 (0,0))).front).alloc (.cells #[vi iQ 0] 3 (0,0))).front
 have hrq:k.rq.ok:=by
  obtain ⟨F3,h3⟩:=hK.get 3 rfl
  exact (dA h3).1
 have hth:=lS hK
 have hf:=lM hrq k.balFrom
 have ht:=lM hrq k.balTo
 have HA:=zh hA
 have HO:=zh hok
 have hTab:∀ v,af [] ((w.alloc (.cells #[vp (sS ⟨b,0,nN⟩)] 41 (0,0))).alloc (.cells #[vi iQ 0] 3 (0,0))) v -> bA v:=λv m=>hT.keep ((((af.refl [] w).alloc _).alloc _).trans m sM) sM
 have hlen:=Be hrq k.balFrom
 have HM:=zh (λid=>sw hth id)
 have HY1:=zh (λ(i:Nat) hi h1 h2=>JJ (k:=k) (i:=i) hi hc h1 h2)
 have HY0:=zh (λh1=>KB (k:=k) hc h1)
 have HOB:=zh hok.bal
 clear hth
 clear h hK hA hrq hok
 refine (callsIn_wide (n:=4)).1 ?_
 refine callsIn_of_wp_marks Tryz.func162 rfl trivial ?_ rfl
 simp only [Tryz.ntmps162,List.size_toArray,List.length_cons,List.length_nil,Nat.reduceAdd,Nat.reduceSub,Array.replicate_succ,Array.replicate_zero,List.push_toArray,List.append_toArray,List.nil_append,List.cons_append]
 gi_wp2
 rw [show (w.alloc (.cells #[vp (sS ⟨b,0,nN⟩)] 41 (0,0))).heap.size=w.heap.size+1 from by simp] at HA
 generalize ((w.alloc (.cells #[vp (sS ⟨b,0,nN⟩)] 41 (0,0))).alloc (.cells #[vi iQ 0] 3 (0,0)))=W at *
 generalize w.heap.size=kb at *
 have hx:∀ v,af [] W v -> v.cell? ⟨kb,0,nN⟩=sS (vp (sS ⟨b,0,nN⟩)) /\ v.cell? ⟨b,1,nN⟩=sS (vp (sS ⟨p.rq,0,nN⟩)) /\ v.cell? ⟨b,17,nN⟩=sS (vi uQ (k.active:Nat)):=λv m=>⟨(HA.out.keep m).cell 1 rfl 0,(HA.out.keep m).cell 2 rfl 1,(HA.out.keep m).cell 2 rfl 17⟩
 have C:=hx W mR
 have m0:af [] W W:=af.refl _ _
 have hBu:∀ v,af [] W v -> Calls tp 249 #[vp (sS ⟨p.rq,0,nN⟩),vi uQ (k.active:Nat)] v (λe w'=>e=.returned (.tuple #[vi iQ k.balFrom,vi iQ (k.rq.bestE k.active)]) /\ af [] v w'):=λv m=>nM ((HA.out.keep m).get 5 rfl).choose_spec k.active HO.out.ac (hTab v m)
 have hId:∀ v,af [] W v -> Calls tp 250 #[vp (sS ⟨p.rq,0,nN⟩),vi uQ (k.active:Nat)] v (λe w'=>e=.returned (.tuple #[vi iQ k.balTo,vi iQ (k.rq.bestE k.active)]) /\ af [] v w'):=λv m=>qE ((HA.out.keep m).get 5 rfl).choose_spec k.active HO.out.ac (hTab v m)
 generalize k.rq.bestE k.active=be at *
 refine wpIn_wide.2 ?_
 go_region_held3 (λv=>v.cell? ⟨kb,0,nN⟩=sS (vp (sS ⟨b,0,nN⟩)) /\ v.cell? ⟨b,1,nN⟩=sS (vp (sS ⟨p.rq,0,nN⟩)) /\ v.cell? ⟨b,17,nN⟩=sS (vi uQ (k.active:Nat))) (assumption) (first
  | (
   go_at_call 249
   refine (hBu _ (by first|exact m0|exact m0.drewN _|exact m0.drew)).s λv1 mx=>?_
   have m1:af [] W v1:=by first|exact m0.trans mx sM|exact (m0.drewN _).trans mx sM|exact m0.drew.trans mx sM
   have C:=hx _ m1
   clear mx))
 have HA1:=zh (HA.out.keep m1)
 have hId1:=λv (m:af [] v1 v)=>hId v (m1.trans m sM)
 have hS:∀ v,af [] v1 v -> v.cell? ⟨kb,0,nN⟩=sS (vp (sS ⟨b,0,nN⟩)) /\ v.cell? ⟨b,1,nN⟩=sS (vp (sS ⟨p.rq,0,nN⟩)) /\ v.cell? ⟨b,17,nN⟩=sS (vi uQ (k.active:Nat)):=λv m=>hx v (m1.trans m sM)
 have m2:af [] v1 v1:=af.refl _ _
 clear C m0 hBu hId hx hTab
 gi_wp2
 refine jT (wpIn_wide.2 ?_)
 refine bX [] (λv=>v.cell? ⟨kb,0,nN⟩=sS (vp (sS ⟨b,0,nN⟩)) /\ v.cell? ⟨b,1,nN⟩=sS (vp (sS ⟨p.rq,0,nN⟩)) /\ v.cell? ⟨b,17,nN⟩=sS (vi uQ (k.active:Nat))) kz (hS _ m2.drew) (λhHeld=>?_)
 refine kU 0 (h:=?_)
 refine lp 1 (h:=?_)
 refine lp 2 (h:=?_)
 refine lp 3 (h:=?_)
 refine kU 4 (h:=?_)
 refine kU 5 (h:=?_)
 refine lp 6 (h:=?_)
 refine lp 7 (h:=?_)
 refine kU 8 (h:=?_)
 have HXT:=zh ((HA1.out.alloc (.cells #[vi iQ 0] 3 (0,0))).front)
 refine fg (rs:=[9,13]) kz sM ?_
 refine bg.cons rfl (λK hK=>?_) (bg.cons rfl (λK hK=>?_) bg.nil)
 go_simp
 rotate_left
 go_simp
 rotate_right
 focus
  go_at_call 250
  refine (hId1 _ m2.drew).s λv mv=>?_
  have mv2:af [] v1 v:=m2.drew.trans mv sM
  have D9:=hS _ mv2
  have hY:=((HA1.out.keep mv2).alloc (.cells #[vi iQ 0] 3 (0,0))).front
  have D10:=hS _ (mv2.alloc (.cells #[vi iQ 0] 3 (0,0)))
  have y0:(v.alloc (.cells #[vi iQ 0] 3 (0,0))).cell? ⟨v.heap.size,0,nN⟩=sS (vi iQ 0):=hY.cell 0 rfl 0
  have g0:(v.alloc (.cells #[vi iQ 0] 3 (0,0))).frozen? ⟨v.heap.size,0,nN⟩=fF:=hY.free 0 rfl 0
  have z0:=hY.size 0 rfl
  have HY:=zh ((HA1.out.keep mv2).alloc (.cells #[vi iQ k.balTo] 3 (0,0))).front
  have D11:=hS _ (mv2.alloc (.cells #[vi iQ k.balTo] 3 (0,0)))
  clear mv hY
  refine lk hK (D9) (h:=?_)
  clear hK K
  refine lp 10 (h:=?_)
  refine lp 11 (h:=?_)
  refine lp 12 (h:=?_)
  refine lo 13 (h:=λK hK=>?_)
  go_simp
  refine lk hK (D10) (h:=?_)
  clear hK K
  refine lo 14 (h:=λK hK=>?_)
  go_simp
  refine lk hK (D11) (h:=?_)
  clear hK K
  refine lo 15 (h:=λK hK=>?_)
  go_simp
  refine lk hK (D11) (h:=?_)
  clear hK K
  refine aZ kz (jD.of ?_) _
  refine gi (R:=λZ=>On F w ([ak.blk v.heap.size (.cells #[vi iQ k.balTo] 3 (0,0)),ak.blk (kb+1) (.cells #[vi iQ 0] 3 (0,0)),ak.blk kb (.cells #[vp (sS ⟨b,0,nN⟩)] 41 (0,0))]++ag b p k) Z) HY.out (λV hK=>?_)
  clear HY D9 D10 D11 y0 g0 z0 mv2 HXT hHeld hS hId1 HA1 m2 m1
  generalize v.heap.size=tb at *
  clear v
 rotate_left
 focus
  refine lk hK ((hS _ mz)) (h:=?_)
  clear hK K
  refine lo 9 (h:=λK hK=>?_)
  go_simp
  go_at_call 250
  refine (hId1 _ mz).s λv mv=>?_
  have hY:=(HXT.out.keep ((af.refl [] _).drew)).keep mv
  have D9:v.cell? ⟨kb,0,nN⟩=sS (vp (sS ⟨b,0,nN⟩)) /\ v.cell? ⟨b,1,nN⟩=sS (vp (sS ⟨p.rq,0,nN⟩)) /\ v.cell? ⟨b,17,nN⟩=sS (vi uQ (k.active:Nat)):=⟨hY.cell 2 rfl 0,hY.cell 3 rfl 1,hY.cell 3 rfl 17⟩
  have y0:v.cell? ⟨v1.heap.size,0,nN⟩=sS (vi iQ 0):=hY.cell 0 rfl 0
  have g0:v.frozen? ⟨v1.heap.size,0,nN⟩=fF:=hY.free 0 rfl 0
  have z0:=hY.size 0 rfl
  have HY:=zh (hY.set 0 rfl 0 (vi iQ k.balTo))
  have D11:=And.intro (HY.out.cell 2 rfl 0) (And.intro (HY.out.cell 3 rfl 1) (HY.out.cell 3 rfl 17))
  clear mv hY
  refine lk hK (D9) (h:=?_)
  clear hK K
  refine lp 10 (h:=?_)
  refine lp 11 (h:=?_)
  refine lp 12 (h:=?_)
  refine lo 14 (h:=λK hK=>?_)
  go_simp
  refine lk hK (D11) (h:=?_)
  clear hK K
  refine lo 15 (h:=λK hK=>?_)
  go_simp
  refine lk hK (D11) (h:=?_)
  clear hK K
  refine aZ kz (jD.of ?_) _
  refine gi (R:=λZ=>On F w ([ak.blk v1.heap.size (.cells #[vi iQ k.balTo] 3 (0,0)),ak.blk (kb+1) (.cells #[vi iQ 0] 3 (0,0)),ak.blk kb (.cells #[vp (sS ⟨b,0,nN⟩)] 41 (0,0))]++ag b p k) Z) HY.out (λV hK=>?_)
  clear HY D9 D11 y0 g0 z0 HXT hHeld hS hId1 HA1 m2 m1
  generalize v1.heap.size=tb at *
  clear v
 all_goals
  have HK:=zh hK
  clear hK
  have hx:∀ v,af [] V v -> v.cell? ⟨kb,0,nN⟩=sS (vp (sS ⟨b,0,nN⟩)) /\ v.cell? ⟨b,1,nN⟩=sS (vp (sS ⟨p.rq,0,nN⟩)) /\ v.cell? ⟨tb,0,nN⟩=sS (vi iQ k.balTo):=λv m=>⟨(HK.out.keep m).cell 2 rfl 0,(HK.out.keep m).cell 3 rfl 1,(HK.out.keep m).cell 0 rfl 0⟩
  have C:=hx V mR
  have m0:af [] V V:=af.refl _ _
  have hLd:∀ v,af [] V v -> ∀ c,Calls tp 181 #[vp (sS ⟨p.rq,0,nN⟩),vi iQ c] v (au (vi iQ (k.rq.load c)) v):=λv m c=>jA ((HK.out.keep m).get 6 rfl).choose_spec c
  have hL1:=λv m=>hLd v m k.balFrom
  have hL2:=λv m=>hLd v m k.balTo
  clear hLd
  generalize k.rq.load k.balFrom=la at *
  generalize k.rq.load k.balTo=lb at *
  gi_wp2
  refine wpIn_wide.2 ?_
  go_region_held3 (λv=>v.cell? ⟨kb,0,nN⟩=sS (vp (sS ⟨b,0,nN⟩)) /\ v.cell? ⟨b,1,nN⟩=sS (vp (sS ⟨p.rq,0,nN⟩)) /\ v.cell? ⟨tb,0,nN⟩=sS (vi iQ k.balTo)) (assumption) (first
   | (
    go_at_call_of 181 (vi iQ k.balFrom)
    refine (hL1 _ (by repeat (first|exact mR|assumption|with_reducible apply af.drewN|with_reducible apply af.drew))).r λj2=>?_
    have C:=hx _ (by repeat (first|exact mR|assumption|with_reducible apply af.drewN|with_reducible apply af.drew)))
   | (
    go_at_call_of 181 (vi iQ k.balTo)
    refine (hL2 _ (by repeat (first|exact mR|assumption|with_reducible apply af.drewN|with_reducible apply af.drew))).r λj3=>?_
    have C:=hx _ (by repeat (first|exact mR|assumption|with_reducible apply af.drewN|with_reducible apply af.drew))))
  all_goals
   have hW:¬ IntKind.i64.wrap (la - lb)<2:=by rw [IntKind.wrap_i64];omega
   have hW2:2 <= IntKind.i64.wrap (la - lb):=by omega
   obtain ⟨C0,C1,C2⟩:=C
   have hLi:∀ v,af [] V v -> Calls tp 28 #[vp (sS ⟨p.rq,0,nN⟩),vi iQ k.balFrom] v (vu (k.rq.list k.balFrom) v):=λv m=>vH ((HK.out.keep m).get 6 rfl).choose_spec k.balFrom
   clear hL1 hL2 m0 hf ht hc
   generalize hto:k.balTo=to at *
   generalize k.balFrom=fr at *
   generalize hLL:k.rq.list fr=L at *
   have HLL:=zh hLL
   clear hLL hto
   gi_wp2_with (first
    | (
     refine ⟨trivial,?_⟩
     gi_at_call 28
     refine (callsIn_wide.2 (hLi _ (by repeat (first|exact mR|with_reducible apply af.drewN|with_reducible apply af.drew)))).mono ?_
     rintro e w1 ⟨a1,c1,rfl,mL,iL,nL⟩
     have M1:af [] V w1:=af.trans (S:=[]) (T:=[]) (by repeat (first|exact mR|with_reducible apply af.drewN|with_reducible apply af.drew)) mL sM
     clear mL nL)
    | (
     refine ⟨trivial,?_⟩
     gi_at_call 251
     refine (callsIn_wide.2 (rb _ ⟨_,_,_,rfl⟩ _)).mono ?_
     rintro e w2 ⟨rfl,M2,s2,x2⟩))
   have z2:=(HK.out.keep (M1.trans M2 sM)).size 1 rfl
   obtain ⟨F',hSt,hBack,hLt⟩:=(HK.out.keep (M1.trans M2 sM)).base
   have hBack':=λ{u2:wW} {l2:List ak}=>@hBack u2 l2
   have hsL:∀ W,af [] w2 W -> ∀ j,j<L.length -> ∃ g,a1=sS ⟨g,0,nN⟩ /\ W.cell? ⟨g,j,nN⟩=sS (vi iQ (ar L j)):=by
    intro W mW j hj
    rcases iL with e|⟨g,e,hg,hc⟩
    ·rw [e] at hj;cases hj
    ·exact ⟨g,e,(M2.trans mW sM).at (hc j hj) sM⟩
   clear hx C0 C1 C2 hLi hBack iL HK M1
   refine kW (m:=1) (gf:=302) (lb:=#[vp (sS ⟨w1.heap.size,0,nN⟩)]) rfl (enters_of Tryz.func302 kz rfl)
    L.length (λi=>#[vi iQ ((L.length - 1 - i:Nat):Int),vi iQ (ar L (L.length - 1 - i))]) (λi=>rfl)
    (λi W=>af [] w2 W /\ w2.heap.size <= W.heap.size /\ ∀ j,j<i -> aW (k.th.get (ar L (L.length - 1 - j))).mask to=fF)
    (λc i W=>c=.ret /\ (∀ j,j<i -> aW (k.th.get (ar L (L.length - 1 - j))).mask to=fF) /\ aW (k.th.get (ar L (L.length - 1 - i))).mask to=tQ /\ Ip F' w2 (w2.heap.size+2) ([ak.blk (kb+1) (.cells #[vi iQ (ar L (L.length - 1 - i))] 3 (0,0)),ak.blk kb (.cells #[vp (sS ⟨b,0,nN⟩)] 41 (0,0))]++ag b p { k with rq:=(k.rq.take (ar L (L.length - 1 - i))).put to (k.th.get (ar L (L.length - 1 - i))).prio (ar L (L.length - 1 - i)),th:=k.th.place (ar L (L.length - 1 - i)) to fF }) W)
    ?put ?putx ?i0 ?it ?round ?done ?stop
   case put=>
    rintro i W q o ⟨i1,i2,i3⟩ hq
    have mq:=ep W q o
    exact ⟨i1.trans mq (by simp;omega),by simpa using i2,i3⟩
   case putx=>
    rintro c i W q o ⟨i1,i2,i3,i4⟩ hq
    exact ⟨i1,i2,i3,i4.put oM oM (λhF=>by have:=hLt q hF;omega) o⟩
   case i0=>
    intro o1 o2
    have m2:af [] w2 ((w2.alloc o1).alloc o2):=(mR.alloc _).alloc _
    exact ⟨m2,m2.size,by omega⟩
   case it=>
    intro l J Jx W hJ hY h0
    exact Fp l w1.heap.size L oM a1 c1 J Jx W (λi W h1=>⟨ab ((hJ i W h1).1.keep x2 sM) 0,hsL W (hJ i W h1).1⟩) hY h0
   case round=>
    rintro l i W ⟨i1,i2,i3⟩ hi hlt
    rw [zip2]
    simp only [sA,sB,sC]
    gi_wp2
    refine ⟨af.refl _ _,λo=>?_⟩
    have mq:=ep W (w2.heap.size+1) o
    have j1:af [] w2 (W.putObj (w2.heap.size+1) o):=i1.trans mq (by first|(simp;done)|(simp;omega))
    have hlt2:w2.heap.size+1<(W.putObj (w2.heap.size+1) o).heap.size:=by simpa using hlt
    have hk0:(W.putObj (w2.heap.size+1) o).heap[w2.heap.size]?=W.heap[w2.heap.size]?:=World.putObj_heap_other oM
    rw [<- hk0]
    clear hk0 mq i1
    generalize W.putObj (w2.heap.size+1) o=W2 at *
    have hA:On F' W2 ([ak.blk tb (.cells #[vi iQ to] 3 (0,0)),ak.blk (kb+1) (.cells #[vi iQ 0] 3 (0,0)),ak.blk kb (.cells #[vp (sS ⟨b,0,nN⟩)] 41 (0,0))]++ag b p k) W2:=On.of (hSt.keep j1 sM)
    generalize hidd:ar L (L.length - 1 - i)=id at *
    have HID:=zh hidd
    clear hidd
    have hm:=HM.out id
    have hG:=hA.tells (P:=tp) (f:=119) 5 rfl (λF1 h1=>iC h1 id)
    have hKK:({ k with rq:=(k.rq.take id).put to (k.th.get id).prio id,th:=k.th.place id to fF }:KT)={ k with rq:=(k.rq.take id).put to (k.th.get id).prio id,th:=k.th.place id to fF }:=rfl
    generalize hth2:k.th.get id=th at *
    obtain ⟨pr,mk,cp,fo,sl,ti⟩:=th
    have HTH:=zh hth2
    simp only [kZ] at *
    have hH:=λv=>bK mk hm to v
    have q0:W2.cell? ⟨kb,0,nN⟩=sS (vp (sS ⟨b,0,nN⟩)):=hA.cell 2 rfl 0
    have q1:W2.cell? ⟨b,0,nN⟩=sS (vp (sS ⟨p.th,0,nN⟩)):=hA.cell 3 rfl 0
    have HA2:=zh hA
    clear hA hth2 hKK
    generalize k.th.getE id=ge at *
    cases hh:aW mk to
    ·rw [hh] at hH
     gi_wp2_with (first
      | (
       refine ⟨trivial,?_⟩
       gi_at_call 119
       refine (CallsIn.inRound l (callsIn_wide.2 hG)).mono ?_
       rintro e v ⟨rfl,hB,mB⟩
       have hC:=(hB.alloc (.cells #[vi iQ pr,vi uQ (mk:Nat),vi iQ cp,vb fo,vb sl,vi iQ ti] 237 (0,0))).front
       have y1:=hC.cell 0 rfl 1
       have yt:=hC.cell 1 rfl 0
       have mC:af [] W2 (v.alloc (.cells #[vi iQ pr,vi uQ (mk:Nat),vi iQ cp,vb fo,vb sl,vi iQ ti] 237 (0,0))):=mB.alloc _
       clear hB mB hC hG)
      | (
       refine ⟨trivial,?_⟩
       gi_at_call 150
       refine (CallsIn.inRound l (callsIn_wide.2 (hH _))).mono ?_;rintro e v' ⟨rfl,jh,rfl⟩
       clear hH))
     have mE:=mC.drewN jh
     refine ⟨mE.block _ oM sM,mE.block _ oM sM,j1.trans mE sM,Nat.le_trans oM mE.size,λj hj=>?_⟩
     by_cases e:j=i
     ·rw [e,HID.out,HTH.out];exact hh
     ·exact i3 j oM
    ·rw [hh] at hH
     gi_wp2_with (first
      | (
       refine ⟨trivial,?_⟩
       gi_at_call 119
       refine (CallsIn.inRound l (callsIn_wide.2 hG)).mono ?_
       rintro e v ⟨rfl,hB,mB⟩
       have hC:=(hB.alloc (.cells #[vi iQ pr,vi uQ (mk:Nat),vi iQ cp,vb fo,vb sl,vi iQ ti] 237 (0,0))).front
       have y1:=hC.cell 0 rfl 1
       have yt:=hC.cell 1 rfl 0
       have yk:=hC.cell 3 rfl 0
       have yq:(v.alloc (.cells #[vi iQ pr,vi uQ (mk:Nat),vi iQ cp,vb fo,vb sl,vi iQ ti] 237 (0,0))).cell? ⟨b,1,nN⟩=sS (vp (sS ⟨p.rq,0,nN⟩)):=hC.cell 4 rfl 1
       have HC:=zh hC
       clear hB mB hC hG)
      | (
       refine ⟨trivial,?_⟩
       gi_at_call 150
       refine (CallsIn.inRound l (callsIn_wide.2 (hH _))).mono ?_;rintro e v' ⟨rfl,jh,rfl⟩
       have hTk:=(HC.out.keep ((af.refl [] _).drewN jh)).call (P:=tp) (f:=215) 7 rfl (λF1 h1=>jz h1 id)
       clear hH)
      | (
       refine ⟨trivial,?_⟩
       gi_at_call 215
       refine (CallsIn.inRound l (callsIn_wide.2 hTk)).mono ?_;rintro e v5 ⟨rfl,hE⟩
       have HE:=zh (show On F' W2 ([ak.blk v.heap.size (.cells #[vi iQ pr,vi uQ (mk:Nat),vi iQ cp,vb fo,vb sl,vi iQ ti] 237 (0,0)),ak.blk tb (.cells #[vi iQ to] 3 (0,0)),ak.blk (kb+1) (.cells #[vi iQ 0] 3 (0,0)),ak.blk kb (.cells #[vp (sS ⟨b,0,nN⟩)] 41 (0,0))]++ag b p { k with rq:=k.rq.take id }) v5 from hE)
       clear hE hTk HC y1 yt yk yq))
     generalize v.heap.size=xb at *
     have hx5:∀ v,af [] v5 v -> v.cell? ⟨kb,0,nN⟩=sS (vp (sS ⟨b,0,nN⟩)) /\ v.cell? ⟨b,0,nN⟩=sS (vp (sS ⟨p.th,0,nN⟩)) /\ v.cell? ⟨tb,0,nN⟩=sS (vi iQ to):=λv m=>⟨(HE.out.keep m).cell 3 rfl 0,(HE.out.keep m).cell 4 rfl 0,(HE.out.keep m).cell 1 rfl 0⟩
     have hPl:=λv (m:af [] v5 v)=>(HE.out.keep m).call (P:=tp) (f:=212) 6 rfl (λF1 h1=>nD h1 id to fF)
     refine jT (kV [] (λv=>v.cell? ⟨kb,0,nN⟩=sS (vp (sS ⟨b,0,nN⟩)) /\ v.cell? ⟨b,0,nN⟩=sS (vp (sS ⟨p.th,0,nN⟩)) /\ v.cell? ⟨tb,0,nN⟩=sS (vi iQ to)) kz kz jD.not (hx5 _ mR.drew) (λhHeld=>?_))
     refine lp 5 (h:=?_)
     refine kU 0 (h:=?_)
     refine lp 1 (h:=?_)
     refine lp 2 (h:=?_)
     refine lp 3 (h:=?_)
     refine kU 4 (h:=?_)
     refine kU 6 (h:=?_)
     refine lo 7 (h:=λK hK=>?_)
     go_simp
     go_at_call 212
     refine (hPl _ mR.drew).s λv6 hG6=>?_
     have HG6:=zh (show On F' W2 ([ak.blk xb (.cells #[vi iQ pr,vi uQ (mk:Nat),vi iQ cp,vb fo,vb sl,vi iQ ti] 237 (0,0)),ak.blk tb (.cells #[vi iQ to] 3 (0,0)),ak.blk (kb+1) (.cells #[vi iQ 0] 3 (0,0)),ak.blk kb (.cells #[vp (sS ⟨b,0,nN⟩)] 41 (0,0))]++ag b p { k with rq:=k.rq.take id,th:=k.th.place id to fF }) v6 from hG6)
     have D6:v6.cell? ⟨kb,0,nN⟩=sS (vp (sS ⟨b,0,nN⟩)) /\ v6.cell? ⟨b,0,nN⟩=sS (vp (sS ⟨p.th,0,nN⟩)) /\ v6.cell? ⟨tb,0,nN⟩=sS (vi iQ to):=⟨HG6.out.cell 3 rfl 0,HG6.out.cell 4 rfl 0,HG6.out.cell 1 rfl 0⟩
     clear hG6 hPl hx5 HE
     refine lk hK (D6) (h:=?_)
     clear hK K
     refine aZ kz (jD.of ?_) _
     clear D6 hHeld
     have hx6:∀ v,af [] v6 v -> v.cell? ⟨kb,0,nN⟩=sS (vp (sS ⟨b,0,nN⟩)) /\ v.cell? ⟨b,1,nN⟩=sS (vp (sS ⟨p.rq,0,nN⟩)) /\ v.cell? ⟨tb,0,nN⟩=sS (vi iQ to) /\ v.cell? ⟨xb,0,nN⟩=sS (vi iQ pr):=λv m=>⟨(HG6.out.keep m).cell 3 rfl 0,(HG6.out.keep m).cell 4 rfl 1,(HG6.out.keep m).cell 1 rfl 0,(HG6.out.keep m).cell 0 rfl 0⟩
     have hPu:=λv (m:af [] v6 v)=>(HG6.out.keep m).call (P:=tp) (f:=213) 7 rfl (λF1 h1=>yQ h1 to pr id)
     gi_wp2
     refine jT (kV [] (λv=>v.cell? ⟨kb,0,nN⟩=sS (vp (sS ⟨b,0,nN⟩)) /\ v.cell? ⟨b,1,nN⟩=sS (vp (sS ⟨p.rq,0,nN⟩)) /\ v.cell? ⟨tb,0,nN⟩=sS (vi iQ to) /\ v.cell? ⟨xb,0,nN⟩=sS (vi iQ pr)) kz kz jD.not (hx6 _ mR.drew) (λhHeld=>?_))
     refine lp 6 (h:=?_)
     refine lp 8 (h:=?_)
     refine kU 0 (h:=?_)
     refine lp 1 (h:=?_)
     refine lp 2 (h:=?_)
     refine lp 3 (h:=?_)
     refine kU 4 (h:=?_)
     refine kU 5 (h:=?_)
     refine kU 7 (h:=?_)
     refine lo 9 (h:=λK hK=>?_)
     go_simp
     go_at_call 213
     refine (hPu _ mR.drew).s λv7 hG7=>?_
     have HG7:=zh (show On F' W2 ([ak.blk xb (.cells #[vi iQ pr,vi uQ (mk:Nat),vi iQ cp,vb fo,vb sl,vi iQ ti] 237 (0,0)),ak.blk tb (.cells #[vi iQ to] 3 (0,0)),ak.blk (kb+1) (.cells #[vi iQ 0] 3 (0,0)),ak.blk kb (.cells #[vp (sS ⟨b,0,nN⟩)] 41 (0,0))]++ag b p { k with rq:=(k.rq.take id).put to pr id,th:=k.th.place id to fF }) v7 from hG7)
     have D7:v7.cell? ⟨kb,0,nN⟩=sS (vp (sS ⟨b,0,nN⟩)) /\ v7.cell? ⟨b,1,nN⟩=sS (vp (sS ⟨p.rq,0,nN⟩)) /\ v7.cell? ⟨tb,0,nN⟩=sS (vi iQ to) /\ v7.cell? ⟨xb,0,nN⟩=sS (vi iQ pr):=⟨HG7.out.cell 3 rfl 0,HG7.out.cell 4 rfl 1,HG7.out.cell 1 rfl 0,HG7.out.cell 0 rfl 0⟩
     clear hG7 hPu hx6 HG6
     refine lk hK (D7) (h:=?_)
     clear hK K
     refine aZ kz (jD.of ?_) _
     clear D7 hHeld
     have r7:v7.cell? ⟨kb+1,0,nN⟩=sS (vi iQ 0):=HG7.out.cell 2 rfl 0
     have f7:=HG7.out.free 2 rfl 0
     have z7:=HG7.out.size 2 rfl
     have HZ:=zh (HG7.out.set 2 rfl 0 (vi iQ id))
     gi_wp2
     exact ⟨HZ.out.mod.block _ oM (λhF=>by have:=hLt _ hF;omega),HZ.out.mod.block _ oM (λhF=>by have:=hLt _ hF;omega),rfl,i3,(by rw [HID.out,HTH.out];exact hh),(by rw [HID.out,HTH.out];exact (On.onQ j1 ((HZ.out.drop 0).drop 0)).weak oM)⟩
   case done=>
    rintro W ⟨i1,i2,i3⟩ hK
    have hA0:On F' W ([ak.blk tb (.cells #[vi iQ to] 3 (0,0)),ak.blk (kb+1) (.cells #[vi iQ 0] 3 (0,0)),ak.blk kb (.cells #[vp (sS ⟨b,0,nN⟩)] 41 (0,0))]++ag b p k) W:=On.of (hSt.keep i1 sM)
    have r0:W.cell? ⟨kb+1,0,nN⟩=sS (vi iQ 0):=hA0.cell 1 rfl 0
    have f0:=hA0.free 1 rfl 0
    have z0:=hA0.size 1 rfl
    have hKlt:=bY hK
    have HBV:=zh (HY0.out i3)
    have HZ:=zh (hA0.set 1 rfl 0 (vi iQ 0))
    clear hA0 HY0 HY1 HOB
    gi_wp2
    have mS:af [kb+1] W (W.setCell ⟨kb+1,0,nN⟩ (vi iQ 0)):=mR.setCell sM _
    have hK2:=mS.keep hK (by simp;omega)
    refine ⟨by simp,.inl ⟨_,_,rfl,run_takeDeferred hK2,?_⟩⟩
    have hQ2:=(On.onQ i1 HZ.out).put (q:=w2.heap.size) (Nat.le_refl _) oM (λhF=>by have:=hLt _ hF;omega) (.deferred nN)
    have hR:=hBack' (hQ2.on oM)
    generalize (W.setCell ⟨kb+1,0,nN⟩ (vi iQ 0)).putObj w2.heap.size (.deferred nN)=W6 at *
    have k0:W6.cell? ⟨kb+1,0,nN⟩=sS (vi iQ 0):=hR.cell 1 rfl 0
    refine ⟨vi iQ 0,?_,?_⟩
    ·rw [ja rfl];go_simp
    ·rw [HBV.out.1,HBV.out.2];exact On.kturns (((hR.drop 0).drop 0).drop 0) HO.out
   case stop=>
    rintro c i W hi ⟨rfl,i2,i3,i4⟩ hK
    obtain ⟨eB,eV⟩:=HY1.out i hi i2 i3
    rw [<- eB,<- eV] at i4
    have hQ2:=i4.put (q:=w2.heap.size) (Nat.le_refl _) oM (λhF=>by have:=hLt _ hF;omega) (.deferred nN)
    have HR:=zh (hBack' (hQ2.on oM))
    clear i4 eB eV hQ2 HY1 HY0
    gi_wp2
    refine ⟨by simp,.inl ⟨_,_,rfl,run_takeDeferred hK,?_⟩⟩
    have hR:=HR.out
    generalize W.putObj w2.heap.size (.deferred nN)=W6 at *
    have k0:W6.cell? ⟨kb+1,0,nN⟩=sS (vi iQ k.balV):=hR.cell 0 rfl 0
    refine ⟨vi iQ k.balV,?_,?_⟩
    ·rw [ja rfl];go_simp
    ·exact On.kturns ((hR.drop 0).drop 0) HOB.out
theorem tU (h:(aa b k).holds F w) (hT:bA w):Calls tp 162 #[vp (sS ⟨b,0,nN⟩)] w (al (aa b k.bal) F (vi iQ k.balV) w):=by
 by_cases hc:k.rq.load k.balFrom - k.rq.load k.balTo<2
 ·rw [(Aq hc).1,(Aq hc).2]
  exact mg h hT hc
 ·exact mf h hT hc
end
end
end Go.Proofs.YtmiapbgkphpgoaaGreatDoor