/- Walks and plain laws of the kernel. No condition. -/
import Derived.Test.YtmiapbgkphpgoaaGreatDoorKXM
import Derived.Test.YtmiapbgkphpgoaaGreatDoorKLM
import Derived.Test.YtmiapbgkphpgoaaGreatDoorBaseM
import Derived.Deep.Upon
import Derived.Test.YtmiapbgkphpgoaaGreatDoorKBM
import Derived.Test.YtmiapbgkphpgoaaGreatDoorKZM
namespace Go.Proofs.YtmiapbgkphpgoaaGreatDoor
set_option linter.unusedVariables false
set_option linter.unusedSimpArgs false
set_option maxRecDepth 100000
set_option maxHeartbeats 20000000
open Go.RowKit
open Go.Proofs.Tryz renaming prog → tp
open List renaming setIfInBounds_toArray → sA, set_cons_zero → sB, set_cons_succ → sC
open Go renaming World → wW
open Go.Value renaming pointer → vp, bool → vb, int → vi
open Go.IntKind renaming i64 → iQ, u64 → uQ
open Option renaming none → nN, some → sS
open Bool renaming true → tQ, false → fF
open Int renaming eq_ofNat_of_zero_le → iN
/-- Events in memory. -/
def kQ (w:wW) (a:Option Addr) (len:Nat) (E:Nat -> jR):Prop:=
 len=0 \/ ∃ b o,a=sS ⟨b,o,nN⟩ /\ b<w.heap.size /\ ∀ j,j<len -> (E j).mask<2 ^ 64 /\ ∀ i,i<5 -> w.cell? ⟨b,o+j * 5+i,nN⟩=(vq (E j))[i]?
theorem kQ.keep {w w':wW} {a:Option Addr} {len:Nat} {E:Nat -> jR} (h:kQ w a len E) (m:af [] w w'):kQ w' a len E:=by
 rcases h with h|⟨b,o,ha,hb,h⟩
 ·exact .inl h
 ·refine .inr ⟨b,o,ha,Nat.lt_of_lt_of_le hb m.size,λj hj=>⟨(h j hj).1,λi hi=>?_⟩⟩
  rw [<- (h j hj).2 i hi]
  exact m.cell (p:=⟨b,o+j * 5+i,nN⟩) hb sM
def Hl (a:qs):jR:=⟨a.kind,a.cpu,a.id,a.mask.toNat,a.n⟩
theorem kQ.of {w:wW} {a:Option Addr} {len cap:Nat} {A:Nat -> qs} (h:xe 5 qs.vals qs.ok w a len cap A):kQ w a len (λj=>Hl (A j)):=by
 obtain ⟨_,_,h|⟨b,off,ha,hb,h⟩⟩:=h
 ·exact .inl h
 ·refine .inr ⟨b,off,ha,hb,λj hj=>?_⟩
  obtain ⟨h1,h2⟩:=h j hj
  have hm:=KN h1.2.2.2.1
  obtain ⟨mk,hmk⟩:=iN hm.1
  refine ⟨by show (A j).mask.toNat<_;rw [hmk];rw [hmk] at hm;simp only [Int.toNat_natCast];omega,λi hi=>?_⟩
  have h3:=h2 i hi
  rw [<- Nat.add_assoc] at h3
  rw [h3]
  unfold vq Hl qs.vals
  simp only
  rw [hmk]
  have:i=0 \/ i=1 \/ i=2 \/ i=3 \/ i=4:=by omega
  rcases this with rfl|rfl|rfl|rfl|rfl<;>rfl
section
variable {w u:wW} {d:Nat} {k:KT} {rest l:List ak}
theorem CE (hT:bA w) (h:On [] w (aa d k :: rest) u) (hi:fM k) (e:jR) (hm:e.mask<2 ^ 64):
  Calls tp 18 #[vp (sS ⟨d,0,nN⟩),.agg (vq e)] u (λe' u'=>∃ a c,e'=.returned (.slice a (k.doL e).length c) /\ On [] w (aa d (k.doK e) :: jB a (k.doL e) :: rest) u'):=by
 have hT1:=h.tab hT sM
 obtain ⟨F1,g1,g2,g3⟩:=h.splice (L:=[])
 have tz:tzL_ren.g 1∉F1:=λhb=>by
  have:=hT.lt
  rcases g2 _ hb with hb|hb
  ·cases hb
  ·omega
 refine (Eu g1 hT1 tz hi.way e hm).mono ?_
 rintro e' u' ⟨a,c,rfl,hE⟩
 exact ⟨a,c,rfl,g3 hE⟩
end
def ofM (l:List Int):Nat:=l.foldl (λm x=>m ||| 2 ^ x.toNat) 0
theorem foldM_bit (j:Nat):∀ (l:List Int) (m:Nat),(∀ x,x∈l -> 0 <= x) -> (l.foldl (λm x=>m ||| 2 ^ x.toNat) m).testBit j=(m.testBit j||decide ((j:Int)∈l))
 | [],m,_=>by simp
 | a :: l,m,h=>by
  rw [List.foldl_cons,foldM_bit j l _ (λx hx=>h x (by simp [hx])),Nat.testBit_or,Nat.testBit_two_pow,Bool.or_assoc]
  congr 1
  have ha:=h a sM
  by_cases e:(j:Int)=a
  ·have:a.toNat=j:=by omega
   simp [e,this]
  ·have:a.toNat≠j:=by omega
   simp [e,this]
theorem ofM_bit (l:List Int) (h:∀ x,x∈l -> 0 <= x) (j:Nat):(ofM l).testBit j=decide ((j:Int)∈l):=by
 unfold ofM;rw [foldM_bit j l 0 h];simp
theorem foldM_lt:∀ (l:List Int) (m:Nat),(∀ x,x∈l -> 0 <= x /\ x<64) -> m<2 ^ 64 -> l.foldl (λm x=>m ||| 2 ^ x.toNat) m<2 ^ 64
 | [],m,_,hm=>hm
 | a :: l,m,h,hm=>by
  rw [List.foldl_cons]
  have ha:=h a sM
  exact foldM_lt l _ (λx hx=>h x (by simp [hx])) (Nat.or_lt_two_pow hm (jq oM))
theorem nth_mem' {l:List Int} {i:Nat} (h:i<l.length):ar l i∈l:=by
 have:ar l i=l[i]:=by simp [ar,List.getD,h]
 rw [this];exact List.getElem_mem h
theorem take_nth' {l:List Int} {i:Nat} (h:i<l.length):l.take (i+1)=l.take i++[ar l i]:=by
 rw [List.take_add_one,List.getElem?_eq_getElem h]
 simp [ar,List.getD,h]
theorem ofM_step {l:List Int} {i:Nat} (h:i<l.length):ofM (l.take (i+1))=ofM (l.take i) ||| 2 ^ (ar l i).toNat:=by
 rw [take_nth' h];simp [ofM,List.foldl_append]
theorem ofM_lt {l:List Int} (h:∀ x,x∈l -> 0 <= x /\ x<64):ofM l<2 ^ 64:=foldM_lt l 0 h oM
theorem rmask_Of (g:Option Nat) (cap:Nat) (l:List Int) (w:wW) (h:fG w g cap l) (hb:∀ x,x∈l -> 0 <= x /\ x<64):Calls tp 98 #[.slice (lA g) l.length cap] w (au (vi uQ (ofM l)) w):=by
 have hc:=h.cap
 unfold maxLen at hc
 obtain ⟨hc1,hc2⟩:=hc
 go_in
 go_wp2
 go_loopg [3,4] l.length (λgg m i wr=>∃ j:Nat,i=vi iQ j /\ j+gg=l.length /\ m=vi uQ (ofM (l.take j)) /\ aA w wr)
 case atStart=>exact ⟨0,rfl,by omega,by simp [ofM],aA.refl _⟩
 case round=>
  obtain ⟨j,rfl,hj,rfl,hd⟩:=hrel
  obtain ⟨kd,rfl⟩:=hd
  by_cases hjl:j<l.length
  ·obtain ⟨b,rfl,cj⟩:=h.cell hjl
   rw [kv]
   have hx:=hb _ (nth_mem' hjl)
   have hS:=zh (ofM_step hjl)
   have hlt:ofM (l.take j)<2 ^ 64:=ofM_lt (λx hx=>hb x (List.mem_of_mem_take hx))
   obtain ⟨v,hv⟩:=iN hx.1
   rw [hv] at cj
   have hv2:v<64:=by omega
   have hW:=λw=>rmask_With (ofM (l.take j)) v w hlt hv2
   have hT:(ar l j).toNat=v:=by omega
   have HT:=zh hT
   generalize ofM (l.take j)=M at *
   clear hT hv hx hb h
   go_wp2_with (go_at_call 38;refine (hW _).r λk=>?_)
   go_roundg (gk - 1)
   case measure=>omega
   case rel=>exact ⟨j+1,by go_num,by omega,by rw [hS.out,HT.out],⟨kd+k,by first|rfl|simp⟩⟩
  ·have hT:l.take j=l:=List.take_of_length_le oM
   rw [hT]
   clear hb h
   go_wp2
   go_ret
   exact au.of (rfl) dz
theorem rmask_HasI (a:Nat) (c:Int) (w:wW):Calls tp 97 #[vi uQ a,vi iQ c] w (au (vb (aW a c)) w):=by
 by_cases h:0 <= c /\ c<64
 ·obtain ⟨i,rfl⟩:=iN h.1
  have hi:i<64:=by omega
  have e:aW a (i:Int)=a.testBit i:=by unfold aW;rw [decide_eq_true h];simp
  rw [e]
  exact rmask_Has a i w hi
 ·have hz:aW a c=fF:=by unfold aW;rw [decide_eq_false h];rfl
  rw [hz]
  have h1:c<0 \/ (¬ c<0 /\ 63<c):=by omega
  clear h hz
  rcases h1 with h1|⟨h1,h2⟩
  all_goals
   go_in
   go_wp2
   go_ret
   exact au.of (rfl) dz
theorem rmask_WithI (a:Nat) (c:Int) (w:wW) (ha:a<2 ^ 64):Calls tp 38 #[vi uQ a,vi iQ c] w (au (vi uQ (bn a c:Nat)) w):=by
 by_cases h:0 <= c /\ c<64
 ·obtain ⟨i,rfl⟩:=iN h.1
  have hi:i<64:=by omega
  have e:bn a (i:Int)=a ||| 2 ^ i:=by unfold bn fK;rw [pG h];simp
  rw [e]
  exact rmask_With a i w ha hi
 ·have e:bn a c=a:=by unfold bn fK;rw [nG h];simp
  rw [e]
  have h1:c<0 \/ (¬ c<0 /\ 63<c):=by omega
  clear h e
  rcases h1 with h1|⟨h1,h2⟩
  all_goals
   go_in
   go_wp2
   go_ret
   exact au.of (rfl) dz
def andnL (a b:Nat) (j:Nat):List Int:=((List.range j).filter λi=>a.testBit i&&!b.testBit i).map (λi:Nat=>(i:Int))
theorem andnL_succ (a b j:Nat):andnL a b (j+1)=if (a.testBit j&&!b.testBit j)=tQ then andnL a b j++[(j:Int)] else andnL a b j:=by
 unfold andnL
 rw [List.range_succ,List.filter_append,List.map_append]
 by_cases h:(a.testBit j&&!b.testBit j)=tQ
 ·simp [h]
 ·simp [h]
theorem andnL_len (a b:Nat):∀ j,(andnL a b j).length <= j
 | 0=>by simp [andnL]
 | j+1=>by
  have:=andnL_len a b j
  rw [andnL_succ]
  split<;>simp<;>omega
theorem andnL_bd {a b j:Nat} (h:j <= 64):∀ x,x∈andnL a b j -> 0 <= x /\ x<64:=by
 intro x hx
 unfold andnL at hx
 obtain ⟨i,hi,rfl⟩:=List.mem_map.1 hx
 have:=(List.mem_filter.1 hi).1
 have:=List.mem_range.1 this
 omega
theorem ofM_andn (a b:Nat) (ha:a<2 ^ 64):ofM (andnL a b 64)=dF a b:=by
 apply Nat.eq_of_testBit_eq
 intro j
 rw [ofM_bit _ (λx hx=>(andnL_bd (Nat.le_refl _) x hx).1)]
 have e:(dF a b).testBit j=(a.testBit j&&!b.testBit j):=by unfold dF;rw [Nat.testBit_xor,Nat.testBit_and];cases a.testBit j<;>cases b.testBit j<;>rfl
 rw [e]
 by_cases hj:j<64
 ·by_cases h:(a.testBit j&&!b.testBit j)=tQ
  ·rw [h]
   refine decide_eq_true ?_
   exact List.mem_map.2 ⟨j,List.mem_filter.2 ⟨List.mem_range.2 hj,h⟩,rfl⟩
  ·have h':(a.testBit j&&!b.testBit j)=fF:=by simpa using h
   rw [h']
   refine decide_eq_false (λhx=>?_)
   obtain ⟨i,hi,e⟩:=List.mem_map.1 hx
   have e':i=j:=by omega
   subst e'
   exact h (List.mem_filter.1 hi).2
 ·have h1:a.testBit j=fF:=Nat.testBit_lt_two_pow (Nat.lt_of_lt_of_le ha (Nat.pow_le_pow_right oM oM))
  rw [h1]
  refine decide_eq_false (λhx=>?_)
  have:=(andnL_bd (Nat.le_refl _) _ hx).2
  omega
theorem rmask_Not (a b:Nat) (w:wW) (ha:a<2 ^ 64) (hb:b<2 ^ 64):Calls tp 39 #[vi uQ a,vi uQ b] w (bL (vi uQ (dF a b:Nat)) [] w λ_=>True):=by
 go_in
 go_wp2
 go_loopg [5,6] 64 (λgg out i wr=>∃ (j:Nat) (g:Option Nat) (cap:Nat),i=vi iQ j /\ j+gg=64 /\ out=.slice (lA g) (andnL a b j).length cap /\ fG wr g cap (andnL a b j) /\ af [] w wr /\ ∀ b,b∈lF g -> w.heap.size <= b)
 case atStart=>exact ⟨0,nN,0,rfl,by omega,rfl,⟨rfl,rfl⟩,af.refl _ _,by simp [lF]⟩
 case round=>
  obtain ⟨j,g,cap,rfl,hj,rfl,hL,m,hg⟩:=hrel
  have hS:=andnL_succ a b j
  by_cases hj64:j<64
  ·by_cases h:(a.testBit j&&!b.testBit j)=tQ
   ·rw [pG h] at hS
    have h1:a.testBit j=tQ:=by simp at h;exact h.1
    have h2:b.testBit j=fF:=by simp at h;exact h.2
    have HS:=zh hS
    have hlen:(andnL a b j).length<1000000:=by have:=andnL_len a b j;omega
    clear hS h
    generalize andnL a b j=lj at *
    have hms:=m.size
    go_wp2_with (first|(go_at_call 97;refine (rmask_Has _ _ _ hj64).r λk1=>?_)|(at_builtin;refine cE rfl _ _ rfl (by exact hL.keep (((af.refl [] wr).drewN _).alloc _) sM) hlen (ai _ _) rfl rfl ?_;rintro g2 cap2 w2 hL2 m2 hg2;have H2:=zh (And.intro hL2 (And.intro (af.trans (S:=[]) ((m.drewN _).alloc _) m2 (λb hb=>.inr (hg b hb))) hg2));clear hL2 m2 hg2))
    obtain ⟨hL2,m3,hg2⟩:=H2.out
    rw [cm] at hg2
    go_roundg (gk - 1)
    case measure=>omega
    case rel=>
     refine ⟨j+1,sS g2,cap2,by go_num,by omega,by rw [HS.out];simp [lA],by rw [HS.out];exact hL2,m3,?_⟩
     intro b hb
     simp [lF] at hb
     subst hb
     rcases hg2 with hg2|hg2
     ·exact hg _ hg2
     ·simp at hg2;omega
   ·rw [nG h] at hS
    have HS:=zh hS
    clear hS
    generalize andnL a b j=lj at *
    cases h1:a.testBit j
    ·go_wp2_with (first|(go_at_call 97;refine (rmask_Has _ _ _ hj64).r λk1=>?_))
     go_roundg (gk - 1)
     case measure=>omega
     case rel=>exact ⟨j+1,g,cap,by go_num,by omega,by rw [HS.out],by rw [HS.out];exact hL.same rfl,m.drewN _,hg⟩
    ·have h2:b.testBit j=tQ:=by simp [h1] at h;exact h
     go_wp2_with (first|(go_at_call 97;refine (rmask_Has _ _ _ hj64).r λk1=>?_))
     go_roundg (gk - 1)
     case measure=>omega
     case rel=>exact ⟨j+1,g,cap,by go_num,by omega,by rw [HS.out],by rw [HS.out];exact hL.same rfl,m.drewN _,hg⟩
  ·have hj2:j=64:=by omega
   subst hj2
   have hO:=zh (ofM_andn a b ha)
   have hbd:=andnL_bd (a:=a) (b:=b) (j:=64) (Nat.le_refl _)
   generalize andnL a b 64=l at *
   go_wp2_with (go_at_call 98;refine (rmask_Of g cap l _ (by exact hL) hbd).mono ?_;rw [hO.out];rintro e w' ⟨rfl,k1,rfl⟩)
   go_ret
   exact bL.of rfl (m.drewN _) trivial
/-- Ints in memory, from any place on. -/
def SlO (w:wW) (a:Option Addr) (l:List Int):Prop:=l=[] \/ ∃ g o,a=sS ⟨g,o,nN⟩ /\ g<w.heap.size /\ ∀ j,j<l.length -> w.cell? ⟨g,o+j,nN⟩=sS (vi iQ (ar l j))
theorem SlO.keep {w w':wW} {a:Option Addr} {l:List Int} (h:SlO w a l) (m:af [] w w'):SlO w' a l:=by
 rcases h with h|⟨g,o,ha,hg,h⟩
 ·exact .inl h
 ·refine .inr ⟨g,o,ha,Nat.lt_of_lt_of_le hg m.size,λj hj=>?_⟩
  rw [<- h j hj]
  exact m.cell (p:=⟨g,o+j,nN⟩) hg sM
theorem nth_range (A:Nat -> Int) {n j:Nat} (h:j<n):ar ((List.range n).map A) j=A j:=by simp [ar,List.getD,h]
theorem SlO.of {w:wW} {a:Option Addr} {len cap:Nat} {A:Nat -> Int} (h:xe 1 (λz:Int=>[vi iQ z]) (λz=>(Lit.int .i64 z).wf=tQ) w a len cap A):SlO w a ((List.range len).map A):=by
 obtain ⟨_,_,h|⟨b,off,ha,hb,h⟩⟩:=h
 ·exact .inl (by simp [h])
 ·refine .inr ⟨b,off,ha,hb,λj hj=>?_⟩
  have hj:j<len:=by simpa using hj
  have:=(h j hj).2 0 oM
  rw [nth_range A hj]
  simpa using this
theorem nth_win {l:List Int} {i n q:Nat} (h:i+n <= l.length) (hq:q<n):ar ((l.drop i).take n) q=ar l (i+q):=by
 simp [ar,List.getD,List.getElem?_take,List.getElem?_drop,hq]
theorem win_len {l:List Int} {i n:Nat} (h:i+n <= l.length):((l.drop i).take n).length=n:=by simp;omega
theorem SlO.win {w:wW} {g o:Nat} {l:List Int} (h:∀ j,j<l.length -> w.cell? ⟨g,o+j,nN⟩=sS (vi iQ (ar l j))) (hg:g<w.heap.size) {i n:Nat} (hn:i+n <= l.length):SlO w (sS ⟨g,o+i,nN⟩) ((l.drop i).take n):=by
 refine .inr ⟨g,o+i,rfl,hg,λj hj=>?_⟩
 rw [win_len hn] at hj
 rw [nth_win hn hj,Nat.add_assoc]
 exact h _ oM
theorem mask_WithO (m:Nat) (hm:m<2 ^ 64) (l:List Int) (a:Option Addr) (cap:Nat) (w:wW) (hs:SlO w a l) (hlen:l.length<1000000):Calls tp 96 #[vi uQ m,.slice a l.length cap] w (au (vi uQ (nB m l:Nat)) w):=by
 obtain ⟨n,hn⟩:∃ n,l.length=n:=⟨_,rfl⟩
 rw [hn] at hlen ⊢
 replace hn:=zh hn
 go_in
 go_wp2
 go_loopg [0,9] n (λgg v i wr=>∃ j:Nat,v=vi uQ (nB m (l.take j):Nat) /\ i=vi iQ j /\ j+gg=n /\ aA w wr)
 case atStart=>exact ⟨0,rfl,rfl,by omega,aA.refl _⟩
 case round=>
  obtain ⟨j,rfl,rfl,hj,hD⟩:=hrel
  by_cases hlt:j<n
  ·have hltI:(j:Int)<n:=by omega
   have hjl:j<l.length:=by rw [hn.out];exact hlt
   obtain ⟨g,o,rfl,_,hc⟩:=hs.resolve_left (λh=>by rw [h] at hjl;simp at hjl)
   have c0:wr.cell? ⟨g,o+j,nN⟩=sS (vi iQ (ar l j)):=by rw [<- hc j hjl];obtain ⟨k,rfl⟩:=hD;rfl
   have hO:=λw=>pL (ar l j) w
   have hB:=zh (bits_or_u64_nat (nB m (l.take j)) (fK (ar l j)) (yl _ hm) (rK _))
   have hS:=zh (Aw m hjl)
   have hDD:=zh hD
   clear hD hc hs hjl
   unfold bn at hS
   generalize nB m (l.take j)=x at *
   generalize fK (ar l j)=ob at *
   generalize ar l j=y at *
   go_wp2_with (go_at_call 79;refine (hO _).r λk=>?_)
   go_roundg (gk - 1)
   case measure=>omega
   case rel=>exact ⟨j+1,by rw [hS.out,<- hB.out],by go_num,by omega,hDD.out.drewN _⟩
  ·have hltI:¬ (j:Int)<n:=by omega
   have e:l.take j=l:=List.take_of_length_le (by rw [hn.out];omega)
   rw [e]
   clear hs
   go_wp2
   go_ret
   exact ⟨rfl,hD⟩
theorem mask_Of (l:List Int) (a:Option Addr) (cap:Nat) (w:wW) (hs:SlO w a l) (hlen:l.length<1000000):Calls tp 37 #[.slice a l.length cap] w (au (vi uQ (nB 0 l:Nat)) w):=by
 have hW:Calls tp 96 #[vi uQ 0,.slice a l.length cap] w (au (vi uQ (nB 0 l:Nat)) w):=mask_WithO 0 dE l a cap w hs hlen
 generalize l.length=n at *
 go_in
 go_wp2_with (go_at_call 96;refine hW.r λk=>?_)
 go_ret
 exact au.of (rfl) dz
/-- Are sS cores in one window? -/
def winB (l:List Int) (of W i:Nat):Bool:=decide (dF of (nB 0 ((l.drop i).take W))=0)
def fairB (l:List Int) (of:Nat) (wn:Int):Bool:=decide (1 <= wn)&&(List.range (l.length+1 - wn.toNat)).all (winB l of wn.toNat)
theorem fairB_low {l:List Int} {of:Nat} {wn:Int} (h:wn<1):fairB l of wn=fF:=by
 unfold fairB;rw [decide_eq_false oM];rfl
theorem fairB_no {l:List Int} {of W i:Nat} (h:i+W <= l.length) (g:winB l of W i=fF):fairB l of W=fF:=by
 unfold fairB
 rw [Int.toNat_natCast,List.all_eq_false.2 ⟨i,List.mem_range.2 oM,by simp [g]⟩]
 simp
theorem fairB_yes {l:List Int} {of W j:Nat} (hW:1 <= W) (h:l.length<j+W) (g:∀ i,i<j -> winB l of W i=tQ):fairB l of W=tQ:=by
 unfold fairB
 rw [Int.toNat_natCast,List.all_eq_true.2 (λi hi=>g i (by have:=List.mem_range.1 hi;omega)),decide_eq_true oM]
 rfl
theorem fair_Fair (l:List Int) (of:Nat) (hof:of<2 ^ 64) (wn:Int) (a:Option Addr) (cap:Nat) (w:wW) (hs:SlO w a l) (hlen:l.length<1000000) (hcap:l.length <= cap):Calls tp 13 #[.slice a l.length cap,vi uQ (of:Nat),vi iQ wn] w (bp (vb (fairB l of wn)) w):=by
 by_cases h1:wn<1
 ·rw [fairB_low h1]
  generalize l.length=n at *
  go_in
  go_wp2
  go_ret
  exact ⟨rfl,af.refl _ _⟩
 obtain ⟨W,rfl⟩:=iN (show 0 <= wn by omega)
 have hW:1 <= W:=by omega
 obtain ⟨n,hn⟩:∃ n,l.length=n:=⟨_,rfl⟩
 rw [hn] at hlen hcap ⊢
 replace hn:=zh hn
 go_in
 go_wp2
 go_loopg [7] (n+1) (λgg i wr=>∃ j:Nat,i=vi iQ j /\ j+gg=n+1 /\ (∀ i,i<j -> winB l of W i=tQ) /\ af [] w wr)
 case atStart=>exact ⟨0,rfl,by omega,λi hi=>by omega,af.refl _ _⟩
 case round=>
  obtain ⟨j,rfl,hj,hlo,hm⟩:=hrel
  by_cases hjW:j+W <= n
  ·have hj1:(j:Int)<n:=by omega
   have hj2:(W:Int) <= (n:Int) - j:=by omega
   obtain ⟨g,o,rfl,hg,hc⟩:=(hs.keep hm).resolve_left (λh=>by have:=hn.out;rw [h] at this;simp at this;omega)
   have hOf:∀ cp w',af [] wr w' -> Calls tp 37 #[.slice (sS ⟨g,o+j,nN⟩) W cp] w' (au (vi uQ (nB 0 ((l.drop j).take W):Nat)) w'):=λcp w' m=>by
    have:=mask_Of _ _ cp w' ((SlO.win hc hg (i:=j) (n:=W) (by rw [hn.out];exact hjW)).keep m) (by rw [win_len (by rw [hn.out];exact hjW)];omega)
    rw [win_len (by rw [hn.out];exact hjW)] at this
    exact this
   have hlt:nB 0 ((l.drop j).take W)<2 ^ 64:=yl _ dE
   have hWi:=λw=>qK of (nB 0 ((l.drop j).take W)) hof hlt w
   have hb:decide (dF of (nB 0 ((l.drop j).take W))=0)=winB l of W j:=rfl
   rw [hb] at hWi
   have HL:=zh hlo
   have HY:winB l of W j=fF -> fairB l of W=fF:=fairB_no (by rw [hn.out];exact hjW)
   clear hc hs hlo hb hlt
   generalize nB 0 ((l.drop j).take W)=sm at *
   cases hx:winB l of W j
   ·rw [hx] at hWi
    have HY:=zh (HY hx)
    clear hx
    go_wp2_with (first
     | (go_at_call 37;refine (hOf _ _ mR).r λk=>?_)
     | (go_at_call 36;refine (hWi _).r λk2=>?_))
    go_ret
    rw [HY.out]
    exact ⟨rfl,hm.drewN _⟩
   ·rw [hx] at hWi
    have HX:=zh hx
    clear hx HY
    go_wp2_with (first
     | (go_at_call 37;refine (hOf _ _ mR).r λk=>?_)
     | (go_at_call 36;refine (hWi _).r λk2=>?_))
    go_roundg (gk - 1)
    case measure=>omega
    case rel=>
     refine ⟨j+1,by go_num,by omega,λi hi=>?_,hm.drewN _⟩
     by_cases e:i=j
     ·subst e;exact HX.out
     ·exact HL.out i oM
  ·have HY:=zh (fairB_yes (of:=of) hW (by rw [hn.out];omega) hlo)
   clear hlo hs
   by_cases hj1:(j:Int)<n
   ·have hj2:¬ (W:Int) <= (n:Int) - j:=by omega
    go_wp2
    go_ret
    rw [HY.out]
    exact ⟨rfl,hm⟩
   ·go_wp2
    go_ret
    rw [HY.out]
    exact ⟨rfl,hm⟩
def boundV (wn:Int):Int:=if wn<1 \/ 10000<wn then 0 else wn * 500
theorem fair_Bound (wn:Int) (w:wW):Calls tp 15 #[vi iQ wn] w (au (vi iQ (boundV wn)) w):=by
 unfold boundV
 by_cases h1:wn<1
 ·rw [pG (.inl h1)]
  go_in
  go_wp2
  go_ret
  exact au.of (rfl) dz
 by_cases h2:10000<wn
 ·rw [pG (.inr h2)]
  go_in
  go_wp2
  go_ret
  exact au.of (rfl) dz
 rw [nG oM]
 have h3:IntKind.i64.wrap (wn * 500)=wn * 500:=by rw [IntKind.wrap_i64];omega
 have H:=zh h3
 clear h3
 go_in
 go_wp2
 go_ret
 exact au.of (by rw [<- H.out];rfl) dz
theorem rfair_Bound (wn:Int) (w:wW):Calls tp 16 #[vi iQ wn] w (au (vi iQ (boundV wn)) w):=by
 unfold boundV
 by_cases h1:wn<1
 ·rw [pG (.inl h1)]
  go_in
  go_wp2
  go_ret
  exact au.of (rfl) dz
 by_cases h2:10000<wn
 ·rw [pG (.inr h2)]
  go_in
  go_wp2
  go_ret
  exact au.of (rfl) dz
 rw [nG oM]
 have h3:IntKind.i64.wrap (wn * 500)=wn * 500:=by rw [IntKind.wrap_i64];omega
 have H:=zh h3
 clear h3
 go_in
 go_wp2
 go_ret
 exact au.of (by rw [<- H.out];rfl) dz
theorem rfair_Fair (l:List Int) (of:Nat) (hof:of<2 ^ 64) (wn:Int) (a:Option Addr) (cap:Nat) (w:wW) (hs:SlO w a l) (hlen:l.length<1000000):Calls tp 14 #[.slice a l.length cap,vi uQ (of:Nat),vi iQ wn] w (bp (vb (fairB l of wn)) w):=by
 by_cases h1:wn<1
 ·rw [fairB_low h1]
  generalize l.length=n at *
  go_in
  go_wp2
  go_ret
  exact ⟨rfl,af.refl _ _⟩
 obtain ⟨W,rfl⟩:=iN (show 0 <= wn by omega)
 have hW:1 <= W:=by omega
 obtain ⟨n,hn⟩:∃ n,l.length=n:=⟨_,rfl⟩
 rw [hn] at hlen ⊢
 replace hn:=zh hn
 go_in
 go_wp2
 go_loopg [7] (n+1) (λgg i wr=>∃ j:Nat,i=vi iQ j /\ j+gg=n+1 /\ (∀ i,i<j -> winB l of W i=tQ) /\ af [] w wr)
 case atStart=>exact ⟨0,rfl,by omega,λi hi=>by omega,af.refl _ _⟩
 case round=>
  obtain ⟨j,rfl,hj,hlo,hm⟩:=hrel
  by_cases hjW:j+W <= n
  ·have hj1:(j:Int)<n:=by omega
   have hj2:(W:Int) <= (n:Int) - j:=by omega
   obtain ⟨g,o,rfl,hg,hc⟩:=(hs.keep hm).resolve_left (λh=>by have:=hn.out;rw [h] at this;simp at this;omega)
   have hcell:∀ q,q<W -> ∀ w',af [] wr w' -> w'.cell? ⟨g,o+(j+q),nN⟩=sS (vi iQ (ar ((l.drop j).take W) q)):=λq hq w' m=>by
    rw [nth_win (by rw [hn.out];exact hjW) hq,<- hc (j+q) (by rw [hn.out];omega)]
    exact m.cell (p:=⟨g,o+(j+q),nN⟩) hg sM
   have hwl:((l.drop j).take W).length=W:=win_len (by rw [hn.out];exact hjW)
   have HL:=zh hlo
   have HX:decide (dF of (nB 0 ((l.drop j).take W))=0)=winB l of W j:=rfl
   have HY:winB l of W j=fF -> fairB l of W=fF:=fairB_no (by rw [hn.out];exact hjW)
   clear hc hs hlo
   generalize (l.drop j).take W=lw at *
   obtain ⟨gko,hgko⟩:∃ x,x=gk:=⟨_,rfl⟩
   go_wp2
   go_loopg [8,9] W (λgg v i wr2=>∃ q:Nat,v=vi uQ (nB 0 (lw.take q):Nat) /\ i=vi iQ ((j+q:Nat):Int) /\ q+gg=W /\ af [] wr wr2)
   case atStart=>exact ⟨0,rfl,rfl,by omega,af.refl _ _⟩
   case round=>
    obtain ⟨q,rfl,rfl,hq,hm2⟩:=hrel
    by_cases hqW:q<W
    ·have hqI:((j+q:Nat):Int)<(j:Int)+W:=by omega
     have c0:=hcell q hqW _ hm2
     have hWi:=λw=>rmask_WithI (nB 0 (lw.take q)) (ar lw q) w (yl _ dE)
     have hS:=zh (Aw 0 (l:=lw) (j:=q) oM)
     clear hcell HX HY HL
     generalize nB 0 (lw.take q)=x at *
     generalize ar lw q=y at *
     go_wp2_with (go_at_call 38;refine (hWi _).r λk=>?_)
     go_roundg (gk - 1)
     case measure=>omega
     case rel=>exact ⟨q+1,by rw [hS.out],by go_num,by omega,hm2.drewN _⟩
    ·have hqI:¬ ((j+q:Nat):Int)<(j:Int)+W:=by omega
     have e:lw.take q=lw:=List.take_of_length_le oM
     rw [e]
     have hlt:nB 0 lw<2 ^ 64:=yl _ dE
     have hN:=λw=>rmask_Not of (nB 0 lw) w hof hlt
     clear hcell e hlt
     generalize nB 0 lw=sm at *
     generalize dF of sm=av at *
     by_cases hz:av=0
     ·subst hz
      have hx:winB l of W j=tQ:=by rw [<- HX];rfl
      clear HX HY
      have HX:=zh hx
      clear hx
      go_wp2_with (go_at_call 39;refine (hN _).mono ?_;rintro e w' ⟨rfl,m3,-⟩)
      go_roundg (gko - 1)
      case measure=>omega
      case rel=>
       refine ⟨j+1,by go_num,by omega,λi hi=>?_,(hm.trans hm2 sM).trans m3 sM⟩
       by_cases e:i=j
       ·subst e;exact HX.out
       ·exact HL.out i oM
     ·have hx:winB l of W j=fF:=by rw [<- HX];exact decide_eq_false hz
      have HZ:=zh (HY hx)
      clear HX HY hx
      have hzI:¬ (av:Int)=0:=by omega
      go_wp2_with (go_at_call 39;refine (hN _).mono ?_;rintro e w' ⟨rfl,m3,-⟩)
      go_ret
      rw [HZ.out]
      exact ⟨rfl,(hm.trans hm2 sM).trans m3 sM⟩
  ·have HY:=zh (fairB_yes (of:=of) hW (by rw [hn.out];omega) hlo)
   clear hlo hs
   by_cases hj1:(j:Int)<n
   ·have hj2:¬ (W:Int) <= (n:Int) - j:=by omega
    go_wp2
    go_ret
    rw [HY.out]
    exact ⟨rfl,hm⟩
   ·go_wp2
    go_ret
    rw [HY.out]
    exact ⟨rfl,hm⟩
def KT.quietB (k:KT) (c:Int):Bool:=decide ((k.wk.list c).length=0)&&(decide ((k.cb.list c).length=0)&&!k.tm.ready c)
def KT.stillB (k:KT):Bool:=!k.dk.run.isSome&&(decide ((k.wk.list (-1)).length=0)&&((List.range k.n).all (λc=>k.quietB c)&&!(cK k.iq 16).any k.iq.ready))
section
variable {F:List Nat} {w u:wW} {b:Nat} {p:KP} {k:KT}
theorem kern_Cpus (h:On F w (ag b p k) u):Calls tp 82 #[vp (sS ⟨b,0,nN⟩)] u (bp (vi iQ (k.n:Nat)) u):=by
 have c15:u.cell? ⟨b,15,nN⟩=sS (vi iQ (k.n:Nat)):=h.kC 15
 clear h
 go_in
 go_wp2
 go_ret
 exact ⟨rfl,af.refl _ _⟩
theorem fair_quiet (hK:On F w (ag b p k) w) (c:Int):∀ v,af [] w v -> Calls tp 83 #[vp (sS ⟨b,0,nN⟩),vi iQ c] v (bp (vb (k.quietB c)) v):=λv m0=>by
 have g1:=λv' (m:af [] v v')=>kernel_Works_at (hK.keep (m0.trans m sM))
 have g2:=λv' (m:af [] v v')=>kernel_Calls_at (hK.keep (m0.trans m sM))
 have g3:=λv' (m:af [] v v')=>kernel_Timers_at (hK.keep (m0.trans m sM))
 have l1:=λv' (m:af [] v v')=>vx ((hK.keep (m0.trans m sM)).get 7 rfl).choose_spec c
 have l2:=λv' (m:af [] v v')=>Fm ((hK.keep (m0.trans m sM)).get 8 rfl).choose_spec c
 have l3:=λv' (m:af [] v v')=>xk ((hK.keep (m0.trans m sM)).get 4 rfl).choose_spec c
 clear hK m0
 unfold KT.quietB
 generalize (k.wk.list c).length=a1 at *
 generalize (k.cb.list c).length=a2 at *
 generalize k.tm.ready c=a3 at *
 have h0:=af.refl [] v
 by_cases h1:a1=0
 case neg=>
  have e1:¬ (a1:Int)=0:=by omega
  rw [decide_eq_false h1]
  clear h1
  go_in
  go_wp2_with (first
   | (go_at_call 80;refine (g1 _ h0).s λv1 m1=>?_)
   | (go_at_call 81;refine (l1 _ m1).s λv2 m2=>?_;have M2:=m1.trans m2 sM))
  go_ret
  exact ⟨rfl,M2⟩
 subst h1
 by_cases h2:a2=0
 case neg=>
  have e2:¬ (a2:Int)=0:=by omega
  rw [decide_eq_false h2]
  clear h2
  go_in
  go_wp2_with (first
   | (go_at_call 80;refine (g1 _ h0).s λv1 m1=>?_)
   | (go_at_call 81;refine (l1 _ m1).s λv2 m2=>?_;have M2:=m1.trans m2 sM)
   | (go_at_call 165;refine (g2 _ M2).s λv3 m3=>?_;have M3:=M2.trans m3 sM)
   | (go_at_call 166;refine (l2 _ M3).s λv4 m4=>?_;have M4:=M3.trans m4 sM))
  go_ret
  exact ⟨rfl,M4⟩
 subst h2
 go_in
 go_wp2_with (first
  | (go_at_call 80;refine (g1 _ h0).s λv1 m1=>?_)
  | (go_at_call 81;refine (l1 _ m1).s λv2 m2=>?_;have M2:=m1.trans m2 sM)
  | (go_at_call 165;refine (g2 _ M2).s λv3 m3=>?_;have M3:=M2.trans m3 sM)
  | (go_at_call 166;refine (l2 _ M3).s λv4 m4=>?_;have M4:=M3.trans m4 sM)
  | (go_at_call 167;refine (g3 _ M4).s λv5 m5=>?_;have M5:=M4.trans m5 sM)
  | (go_at_call 168;refine (l3 _ M5).s λv6 m6=>?_;have M6:=M5.trans m6 sM))
 go_ret
 exact ⟨by simp,M6⟩
theorem idx_any {f:Int -> Bool} {l:List Int} {kk:Int} (h:CV f l kk):decide (0 <= kk)=l.any f:=by
 rcases h with ⟨rfl,h⟩|⟨j,hj,rfl,h⟩
 ·rw [List.any_eq_false.2 (λx hx=>by simpa using List.find?_eq_none.1 h x hx)]
  rfl
 ·have:=List.find?_some h
  rw [List.any_eq_true.2 ⟨_,List.mem_of_find?_eq_some h,this⟩]
  exact decide_eq_true oM
theorem contains_ready {q:Nat} {t:IT} (h:(fL q t).holds F w) (a:Option Addr) (cap:Nat) (l:List Int) (hI:bN w a l) (hlen:l.length<1000):Calls tp 84 #[.slice a l.length cap,.func (.func 87) #[vp (sS ⟨q,0,nN⟩)] #[]] w (au (vb (l.any t.ready)) w):=by
 have hx:=zX h a cap l hI hlen
 generalize l.length=n at *
 have hA:=λkk (h:CV t.ready l kk)=>idx_any h
 generalize l.any t.ready=bb at *
 clear h hI
 go_in
 go_wp2_with (go_at_call 169;refine hx.mono ?_;rintro e w2 ⟨kk,rfl,hd,hi⟩;replace hi:=zh (hA kk hi))
 go_ret
 exact ⟨by rw [<- hi.out];rfl,hd⟩
end
section
variable {F:List Nat} {w u:wW} {b:Nat} {p:KP} {k:KT}
theorem quiet_all {k:KT} (h:∀ i,i<k.n -> k.quietB i=tQ):(List.range k.n).all (λc=>k.quietB c)=tQ:=List.all_eq_true.2 λi hi=>h i (List.mem_range.1 hi)
theorem quiet_not {k:KT} {i:Nat} (hi:i<k.n) (h:k.quietB i=fF):(List.range k.n).all (λc=>k.quietB c)=fF:=List.all_eq_false.2 ⟨i,List.mem_range.2 hi,by simp [h]⟩
theorem fair_StillL (hok:k.ok) (hK:On F w (ag b p k) w):Calls tp 24 #[vp (sS ⟨b,0,nN⟩)] w (bp (vb k.stillB) w):=by
 have g0:=λv (m:af [] w v)=>kernel_Desk_at (hK.keep m)
 have g1:=λv (m:af [] w v)=>kernel_Works_at (hK.keep m)
 have g2:=λv (m:af [] w v)=>kern_Cpus (hK.keep m)
 have g3:=λv (m:af [] w v)=>kernel_Irqs_at (hK.keep m)
 have l0:=λv (m:af [] w v)=>dO ((hK.keep m).get 15 rfl).choose_spec
 have l1:=λv (m:af [] w v)=>vx ((hK.keep m).get 7 rfl).choose_spec (-1)
 have l2:=λv (m:af [] w v)=>GL ((hK.keep m).get 5 rfl).choose_spec
 have l3:=λv (m:af [] w v) a cap hI=>contains_ready ((hK.keep m).get 5 rfl).choose_spec a cap (cK k.iq 16) hI (by have:=nl k.iq 16;omega)
 have q1:=λc v m=>fair_quiet hK c v m
 have hn:=hok.n2
 have hQa:=quiet_all (k:=k)
 have hQn:=@quiet_not k
 clear hK hok
 unfold KT.stillB
 generalize hll:(cK k.iq 16).length=ll at *
 have hll2:ll <= 16:=by have:=nl k.iq 16;omega
 generalize (cK k.iq 16).any k.iq.ready=a3 at *
 generalize (List.range k.n).all (λc=>k.quietB c)=a2 at *
 generalize (k.wk.list (-1)).length=a1 at *
 generalize k.dk.run.isSome=a0 at *
 have h0:=af.refl [] w
 cases a0 with
 | true=>
  go_in
  go_wp2_with (first
   | (go_at_call 25;refine (g0 _ h0).s λv1 m1=>?_)
   | (go_at_call 26;refine (l0 _ m1).r λd2=>?_))
  go_ret
  exact ⟨rfl,m1.drewN _⟩
 | false=>
 by_cases e1:a1=0
 case neg=>
  have e2:(0:Int)<a1:=by omega
  rw [decide_eq_false e1]
  clear e1
  go_in
  go_wp2_with (first
   | (go_at_call 25;refine (g0 _ h0).s λv1 m1=>?_)
   | (go_at_call 26;refine (l0 _ m1).r λd2=>?_;have M2:=m1.drewN d2)
   | (go_at_call 80;refine (g1 _ M2).s λv3 m3=>?_;have M3:=M2.trans m3 sM)
   | (go_at_call 81;refine (l1 _ M3).s λv4 m4=>?_;have M4:=M3.trans m4 sM))
  go_ret
  exact ⟨rfl,M4⟩
 subst e1
 go_in
 go_wp2_with (first
  | (go_at_call 25;refine (g0 _ h0).s λv1 m1=>?_)
  | (go_at_call 26;refine (l0 _ m1).r λd2=>?_;have M2:=m1.drewN d2)
  | (go_at_call 80;refine (g1 _ M2).s λv3 m3=>?_;have M3:=M2.trans m3 sM)
  | (go_at_call 81;refine (l1 _ M3).s λv4 m4=>?_;have M4:=M3.trans m4 sM)
  | (go_at_call 82;refine (g2 _ M4).s λv5 m5=>?_;have M5:=M4.trans m5 sM))
 clear g0 g1 l0 l1 g2
 go_loopg [19] k.n (λgg i wr=>∃ j:Nat,i=vi iQ j /\ j+gg=k.n /\ (∀ i,i<j -> k.quietB i=tQ) /\ af [] w wr)
 case atStart=>exact ⟨0,rfl,by omega,λi hi=>by omega,M5⟩
 case round=>
  obtain ⟨j,rfl,hj,hlo,hm⟩:=hrel
  by_cases hjn:j<k.n
  ·have hjI:(j:Int)<(k.n:Int):=by omega
   have hq:=q1 j wr hm
   have HL:=zh hlo
   clear hlo hQa
   cases hx:k.quietB j
   ·rw [hx] at hq
    have HZ:=zh (hQn hjn hx)
    clear hx hQn
    go_wp2_with (go_at_call 83;refine hq.s λv6 m6=>?_)
    go_ret
    rw [HZ.out]
    exact ⟨rfl,hm.trans m6 sM⟩
   ·rw [hx] at hq
    have HX:=zh hx
    clear hx hQn
    go_wp2_with (go_at_call 83;refine hq.s λv6 m6=>?_)
    go_roundg (gk - 1)
    case measure=>omega
    case rel=>
     refine ⟨j+1,by go_num,by omega,λi hi=>?_,hm.trans m6 sM⟩
     by_cases e:i=j
     ·subst e;exact HX.out
     ·exact HL.out i oM
  ·have hjI:¬ (j:Int)<(k.n:Int):=by omega
   have HA:=zh (hQa (λi hi=>hlo i oM))
   clear hlo hQa hQn q1
   go_wp2_with (first
    | (have hz:=h0;go_at_call 85;refine (g3 _ hm).s λv7 m7=>?_;have M7:=hm.trans m7 sM;clear h0 hz)
    | (go_at_call 86;refine (l2 _ M7).mono ?_;intro e v8 hml;obtain ⟨ai,ci,rfl,n8,hIs,hNw⟩:=hml.newL;have M8:=M7.trans n8 sM;rw [hll])
    | (go_at_call 85;refine (g3 _ M8).s λv9 m9=>?_;have M9:=M8.trans m9 sM;have hI9:=hIs.keep m9 sM;clear hIs hNw)
    | (go_at_call 84;refine (l3 _ M9 _ _ hI9).r λd10=>?_))
   go_ret
   rw [HA.out]
   exact ⟨by simp,M9.drewN _⟩
theorem fair_Still (h:(aa b k).holds F w):Calls tp 24 #[vp (sS ⟨b,0,nN⟩)] w (bp (vb k.stillB) w):=by
 obtain ⟨hok,p,hK⟩:=ad h
 exact fair_StillL hok hK
end
/-- A step by each pick, till nothing waits: how many, what is told, what is then. -/
def driveV:KT -> List Int -> Nat -> Nat × Int × KT
 | k,[],j=>(j,if k.stillB then 0 else 7,k)
 | k,c :: l,j=>if k.stillB then (j,0,k) else driveV (k.doK ⟨1,c,0,0,0⟩) l (j+1)
theorem drop_nth {l:List Int} {j:Nat} (h:j<l.length):l.drop j=ar l j :: l.drop (j+1):=by
 rw [List.drop_eq_getElem_cons h]
 simp [ar,List.getD,h]
section
variable {w u:wW} {d:Nat} {k:KT} {rest:List ak}
theorem fair_Drive (hT:bA w) (h:On [] w (aa d k :: rest) u) (hI:fM k) (l:List Int) (a:Option Addr) (cap:Nat) (hs:∀ k' v,On [] w (aa d k' :: rest) v -> SlO v a l) (hlen:l.length<1000000):
  Calls tp 23 #[vp (sS ⟨d,0,nN⟩),.slice a l.length cap] u (λe u'=>e=.returned (.tuple #[vi iQ (driveV k l 0).1,vi iQ (driveV k l 0).2.1]) /\ On [] w (aa d (driveV k l 0).2.2 :: rest) u'):=by
 obtain ⟨n,hn⟩:∃ n,l.length=n:=⟨_,rfl⟩
 rw [hn] at hlen ⊢
 replace hn:=zh hn
 obtain ⟨Q,hQ⟩:∃ Q,driveV k l 0=Q:=⟨_,rfl⟩
 rw [hQ]
 replace hQ:=zh hQ
 go_in
 go_wp2
 go_loopg [12] n (λgg iv wr=>∃ (j:Nat) (kj:KT),iv=vi iQ j /\ j+gg=n /\ On [] w (aa d kj :: rest) wr /\ fM kj /\ driveV kj (l.drop j) j=Q)
 case atStart=>exact ⟨0,k,rfl,by omega,h,hI,hQ.out⟩
 case round=>
  clear h hI
  obtain ⟨j,kj,rfl,hj,hA,hI,hD⟩:=hrel
  by_cases hjn:j<n
  ·have hjI:(j:Int)<(n:Int):=by omega
   have hjl:j<l.length:=by rw [hn.out];exact hjn
   rw [drop_nth hjl] at hD
   obtain ⟨g,o,rfl,hg,hc⟩:=(hs kj wr hA).resolve_left (λe=>by rw [e] at hjl;simp at hjl)
   have c0:=hc j hjl
   have hc2:∀ v,On [] w (aa d kj :: rest) v -> v.cell? ⟨g,o+j,nN⟩=sS (vi iQ (ar l j)):=λv h2=>by
    obtain ⟨g2,o2,e2,_,h3⟩:=(hs kj v h2).resolve_left (λe=>by rw [e] at hjl;simp at hjl)
    injection e2 with e2
    injection e2 with e3 e4
    subst e3 e4
    exact h3 j hjl
   have hS:=hA.tells 0 rfl (λF hF=>fair_Still hF)
   have hok:=(ad (hA.get 0 rfl).choose_spec).1
   have hDo:=λv h2=>CE (u:=v) (d:=d) (rest:=rest) hT h2 hI ⟨1,ar l j,0,0,0⟩ (show (0:Nat)<2 ^ 64 by decide)
   have HI2:=zh (xW hok hI ⟨1,ar l j,0,0,0⟩).1
   clear hc hok hI hA hjl
   cases hb:kj.stillB
   ·have HD:=zh (show driveV (kj.doK ⟨1,ar l j,0,0,0⟩) (l.drop (j+1)) (j+1)=Q by rw [<- hD];simp [driveV,hb])
    rw [hb] at hS
    clear hD hb
    generalize ar l j=x at *
    go_wp2_with (first
     | (go_at_call 24;refine hS.mono ?_;rintro e v1 ⟨rfl,hA1,m1⟩;clear hS)
     | (
      go_at_call 18
      refine (hDo _ hA1).mono ?_
      rintro e v2 ⟨av,cv,rfl,hB⟩
      have HB:=zh (hB.drop 1)
      clear hB hDo))
    go_roundg (gk - 1)
    case measure=>omega
    case rel=>exact ⟨j+1,_,by go_num,by omega,HB.out,HI2.out,HD.out⟩
   ·have HD:=zh (show Q=(j,0,kj) by rw [<- hD];simp [driveV,hb])
    rw [hb] at hS
    clear hD hb hDo HI2
    go_wp2_with (go_at_call 24;refine hS.mono ?_;rintro e v1 ⟨rfl,hA1,m1⟩;have HA:=zh hA1;clear hS hA1)
    go_ret2
    rw [HD.out]
    exact ⟨rfl,HA.out⟩
  ·have hjI:¬ (j:Int)<(n:Int):=by omega
   have hj2:j=n:=by omega
   rw [List.drop_of_length_le (by rw [hn.out];omega)] at hD
   have HJ:=zh hj2
   have hS:=hA.tells 0 rfl (λF hF=>fair_Still hF)
   have HD:=zh (show Q=(j,if kj.stillB then 0 else 7,kj) from hD.symm)
   clear hA hI hj2 hD hs
   cases hb:kj.stillB
   ·rw [hb] at hS HD
    clear hb
    go_wp2_with (go_at_call 24;refine hS.mono ?_;rintro e v1 ⟨rfl,hA1,m1⟩;have HA:=zh hA1;clear hS hA1)
    go_ret2
    rw [HD.out,HJ.out]
    exact ⟨rfl,HA.out⟩
   ·rw [hb] at hS HD
    clear hb
    go_wp2_with (go_at_call 24;refine hS.mono ?_;rintro e v1 ⟨rfl,hA1,m1⟩;have HA:=zh hA1;clear hS hA1)
    go_ret2
    rw [HD.out,HJ.out]
    exact ⟨rfl,HA.out⟩
end
theorem fk_still:(k0 2).stillB=tQ:=by kernel_rfl
theorem fk_n:(driveV ((k0 2).doK ⟨18,1,0,0,0⟩) [0,1,0,1] 0).1=2:=by kernel_rfl
theorem fk_e:(driveV ((k0 2).doK ⟨18,1,0,0,0⟩) [0,1,0,1] 0).2.1=0:=by kernel_rfl
theorem fk_no:fairB [0,1,1,0] 3 2=fF:=by kernel_rfl
theorem fk_yes:fairB [0,1,0] 3 2=tQ:=by kernel_rfl
abbrev fkA:Obj:=.cells #[vi iQ 0,vi iQ 1,vi iQ 0,vi iQ 1] 3 (0,0)
abbrev fkB:Obj:=.cells #[vi iQ 0,vi iQ 1,vi iQ 1,vi iQ 0] 3 (0,0)
abbrev fkC:Obj:=.cells #[vi iQ 0,vi iQ 1,vi iQ 0] 3 (0,0)
theorem slO_blk {w:wW} {b:Nat} {xs:Array Value} {l:List Int} (h:w.heap[b]?=sS (.cells xs 3 (0,0))) (hx:∀ j,j<l.length -> xs[j]?=sS (vi iQ (ar l j))):SlO w (sS ⟨b,0,nN⟩) l:=
 .inr ⟨b,0,rfl,(Array.getElem?_eq_some_iff.1 h).1,λj hj=>by rw [Nat.zero_add,ab h j];exact hx j hj⟩
section
variable {w u:wW}
theorem fair_known (w:wW) (hT:bA w):Calls tp 12 #[] w (bp (vb tQ) w):=by
 have hN:=(On.start w).make (tY 2 dE dE w)
 have hI0:=GG (n:=2) dE dE
 have hI1:=(xW (Lb (n:=2) dE dE) hI0 ⟨18,1,0,0,0⟩).1
 have hD1:=λ(d:Nat) (v:wW) (h:On [] w [aa d (k0 2)] v)=>CE hT h hI0 ⟨18,1,0,0,0⟩ (show (0:Nat)<2 ^ 64 by decide)
 have hDr:=λ(d:Nat) (v:wW) (h:On [] w [aa d ((k0 2).doK ⟨18,1,0,0,0⟩)] v)=>fair_Drive hT (h.alloc fkA) hI1 [0,1,0,1] (sS ⟨v.heap.size,0,nN⟩) 4 (λk' v' h'=>slO_blk (h'.held 1 rfl) (λj hj=>by
  have:j=0 \/ j=1 \/ j=2 \/ j=3:=by simp at hj;omega
  rcases this with rfl|rfl|rfl|rfl<;>rfl)) dE
 rw [fk_n,fk_e] at hDr
 have hS:=λ(d:Nat) (v:wW) (h:On [] w [aa d (k0 2)] v)=>h.tells 0 rfl (λF hF=>fair_Still hF)
 rw [fk_still] at hS
 have hF1:∀ v:wW,Calls tp 13 #[.slice (sS ⟨v.heap.size,0,nN⟩) 4 4,vi uQ 3,vi iQ 2] (v.alloc fkB) (bp (vb fF) (v.alloc fkB)):=λv=>by
  have:=fair_Fair [0,1,1,0] 3 dE 2 (sS ⟨v.heap.size,0,nN⟩) 4 (v.alloc fkB) (slO_blk (ai _ _) (λj hj=>by
   have:j=0 \/ j=1 \/ j=2 \/ j=3:=by simp at hj;omega
   rcases this with rfl|rfl|rfl|rfl<;>rfl)) dE dE
  rw [fk_no] at this
  exact this
 have hF2:∀ v:wW,Calls tp 13 #[.slice (sS ⟨v.heap.size,0,nN⟩) 3 3,vi uQ 3,vi iQ 2] (v.alloc fkC) (bp (vb tQ) (v.alloc fkC)):=λv=>by
  have:=fair_Fair [0,1,0] 3 dE 2 (sS ⟨v.heap.size,0,nN⟩) 3 (v.alloc fkC) (slO_blk (ai _ _) (λj hj=>by
   have:j=0 \/ j=1 \/ j=2:=by simp at hj;omega
   rcases this with rfl|rfl|rfl<;>rfl)) dE dE
  rw [fk_yes] at this
  exact this
 have hBo:∀ v:wW,Calls tp 15 #[vi iQ 3] v (au (vi iQ 1500) v):=fair_Bound 3
 clear hI0 hI1
 generalize (k0 2).doK ⟨18,1,0,0,0⟩=k1 at *
 generalize k0 2=kz at *
 go_in
 go_wp2_with (first
  | (go_at_call 17;refine hN.mono ?_;rintro e v1 ⟨d,rfl,hA⟩;clear hN)
  | (go_at_call 24;refine (hS _ _ hA).mono ?_;rintro e v2 ⟨rfl,hA2,m2⟩;clear hS hA)
  | (go_at_call 18;refine (hD1 _ _ hA2).mono ?_;rintro e v3 ⟨av,cv,rfl,hB⟩;have hB:=hB.drop 1;clear hD1 hA2)
  | (go_at_call 23;refine (hDr _ _ hB).s λv4 hC=>?_;have M4:=hC.mod;clear hDr hB hC)
  | (have hz:=hF1;go_at_call 13;refine (hF1 _).s λv5 m5=>?_;have M5:=(M4.alloc fkB).trans m5 sM;clear hz hF1)
  | (go_at_call 13;refine (hF2 _).s λv6 m6=>?_;have M6:=(M5.alloc fkC).trans m6 sM)
  | (go_at_call 15;refine (hBo _).r λd7=>?_))
 go_ret
 exact ⟨rfl,M6.drewN _⟩
theorem FairPicks_walk (w:wW) (hT:bA w) (a:Option Addr) (len cap:Nat) (A:Nat -> Int) (hA:xe 1 (λz:Int=>[vi iQ z]) (λz=>(Lit.int .i64 z).wf=tQ) w a len cap A) (of:Int) (_ho:(Lit.int .u64 of).wf=tQ) (wn:Int) (_hw:(Lit.int .i64 wn).wf=tQ):
  Calls tp 5 #[.slice a len cap,vi uQ of,vi iQ wn] w (bL (vb tQ) [] w λ_=>True):=by
 have hKn:∀ v,af [] w v -> Calls tp 12 #[] v (bp (vb tQ) v):=λv m=>fair_known v (hT.keep m sM)
 have h0:=af.refl [] w
 by_cases hl:300<len
 ·have hlI:(300:Int)<(len:Int):=by omega
  clear hA hl
  go_in
  go_wp2_with (go_at_call 12;refine (hKn _ h0).s λv m1=>?_)
  go_ret
  exact bL.of rfl m1 trivial
 have hlI:¬ (300:Int)<(len:Int):=by omega
 have hm:=KN _ho
 obtain ⟨o,rfl⟩:=iN hm.1
 have ho:o<2 ^ 64:=by omega
 have hs:=SlO.of hA
 have hcap:=hA.1
 obtain ⟨l,hll⟩:∃ l,(List.range len).map A=l:=⟨_,rfl⟩
 rw [hll] at hs
 have hlen:l.length=len:=by rw [<- hll];simp
 subst hlen
 have hFa:∀ v,af [] w v -> Calls tp 13 #[.slice a l.length cap,vi uQ o,vi iQ wn] v (bp (vb (fairB l o wn)) v):=λv m=>fair_Fair l o ho wn a cap v (hs.keep m) oM hcap
 have hFb:∀ v,af [] w v -> Calls tp 14 #[.slice a l.length cap,vi uQ o,vi iQ wn] v (bp (vb (fairB l o wn)) v):=λv m=>rfair_Fair l o ho wn a cap v (hs.keep m) oM
 have hBa:=fair_Bound wn
 have hBb:=rfair_Bound wn
 clear hs hA hll hm _ho _hw hl
 generalize l.length=n at *
 generalize fairB l o wn=fb at *
 generalize boundV wn=bb at *
 go_in
 go_wp2_with (first
  | (go_at_call 13;refine (hFa _ h0).s λv1 m1=>?_)
  | (go_at_call 14;refine (hFb _ m1).s λv2 m2=>?_;have M2:=m1.trans m2 sM)
  | (go_at_call 15;refine (hBa _).r λd3=>?_)
  | (go_at_call 16;refine (hBb _).r λd4=>?_;have M4:af [] w _:=M2.drewN (d3+d4))
  | (go_at_call 12;refine (hKn _ M4).s λv5 m5=>?_))
 go_ret
 exact bL.of rfl (M4.trans m5 sM) trivial
end
end Go.Proofs.YtmiapbgkphpgoaaGreatDoor