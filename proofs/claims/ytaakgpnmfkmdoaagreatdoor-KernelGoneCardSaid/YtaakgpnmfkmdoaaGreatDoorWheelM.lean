/- Walks and plain laws of the kernel. No condition. -/
import Derived.Test.YtaakgpnmfkmdoaaGreatDoorBaseM
import Derived.Test.YtaakgpnmfkmdoaaGreatDoorShelfWheel
import Derived.Shelf.Strconv.Itoa0
import Derived.Maps.AppendAt
import Derived.Laws.OwnMore
import Derived.Deep.MidRow
import Derived.WalkMore
import Derived.Shelf.SlSortCmp.NoneTotal
import Derived.Deep.RegionHeld3
import Derived.Maps.Own
import Derived.Lib.SlKeysI
import Derived.Test.YtaakgpnmfkmdoaaGreatDoorKAM
import Derived.Shelf.SlIterI.Collect
import Derived.Shelf.SlicesE.DeleteFunc
namespace Go.Proofs.YtaakgpnmfkmdoaaGreatDoor
set_option linter.unusedVariables false
set_option linter.unusedSimpArgs false
set_option maxRecDepth 100000
set_option maxHeartbeats 20000000
open Go.RowKit
open Go.Proofs.Tryz renaming prog → tp
open List renaming setIfInBounds_toArray → sA, set_cons_zero → sB, set_cons_succ → sC
open Go renaming World → wW
open Go.Value renaming pointer → vp, bool → vb, int → vi
open Go.IntKind renaming i64 → iQ, u64 → uQ
open Option renaming none → nN, some → sS
open Bool renaming true → tQ, false → fF
open Int renaming eq_ofNat_of_zero_le → iN
/-- A tick that fits. -/
def bh (t:Int):Prop:=0 <= t /\ t <= 1152921504606846976
instance instWheel1 (t:Int):Decidable (bh t):=by unfold bh;infer_instance
theorem dU (t:Int) (w:wW):Calls tp 162 #[vi iQ t] w (ay (vb (decide (bh t))) w):=by
 by_cases h0:0 <= t
 ·by_cases h1:t <= 1152921504606846976
  ·go_in
   go_wp2
   go_ret
   exact ay.of (by simp [bh,h0,h1]) dz
  ·go_in
   go_wp2
   go_ret
   exact ay.of (by simp [bh,h0,h1]) dz
 ·have hD:decide (bh t)=fF:=decide_eq_false (λx=>h0 x.1)
  rw [hD]
  clear hD
  go_in
  go_wp2
  go_ret
  exact ay.of (rfl) dz
/-- The digit of a tick at a level; the level at which two ticks part. -/
def gP (t:Nat) (lv:Nat):Nat:=t / 2 ^ (3 * lv) % 8
def bf (a b:Nat):Nat:=(Lib.bitLen (a ^^^ b) - 1) / 3
theorem iK (t lv:Nat):gP t lv<8:=Nat.mod_lt _ oM
theorem sd (t lv:Nat) (ht:t <= 1152921504606846976) (hl:lv <= 20) (w:wW):Calls tp 267 #[vi iQ t,vi iQ lv] w (ay (vi iQ (gP t lv)) w):=by
 have hc:lv=0 \/ lv=1 \/ lv=2 \/ lv=3 \/ lv=4 \/ lv=5 \/ lv=6 \/ lv=7 \/ lv=8 \/ lv=9 \/ lv=10 \/ lv=11 \/ lv=12 \/ lv=13 \/ lv=14 \/ lv=15 \/ lv=16 \/ lv=17 \/ lv=18 \/ lv=19 \/ lv=20:=by omega
 rcases hc with rfl|rfl|rfl|rfl|rfl|rfl|rfl|rfl|rfl|rfl|rfl|rfl|rfl|rfl|rfl|rfl|rfl|rfl|rfl|rfl|rfl
 all_goals
  go_in
  go_wp2
  go_ret
  refine ay.of (congrArg (Value.int IntKind.i64) ?_) dz
  simp only [gP,Nat.reducePow,Nat.reduceMul]
  first|omega|(simp only [wrap64];omega)
theorem Ng (x:Nat) (hx:x<2 ^ 64) (w:wW):Calls tp 312 #[vi uQ x] w (ay (vi iQ (Lib.bitLen x)) w):=by
 have h:=Any.bits_Len64 lenL (x:Int) w oM oM
 refine Calls.mono (show Calls tp 312 _ _ _ from h) ?_
 rintro e w' ⟨rfl,rfl⟩
 exact ay.of sM dz
theorem KB (a b:Nat) (ha:a<2 ^ 62) (hb:b<2 ^ 62):bits .xor .i64 (a:Int) (b:Int)=((a ^^^ b:Nat):Int):=by
 have hx:a ^^^ b<2 ^ 62:=Nat.xor_lt_two_pow ha hb
 have h1:(BitVec.ofInt 64 (a:Int)).toNat=a:=by
  rw [BitVec.ofInt_natCast,BitVec.toNat_ofNat];exact Nat.mod_eq_of_lt oM
 have h2:(BitVec.ofInt 64 (b:Int)).toNat=b:=by
  rw [BitVec.ofInt_natCast,BitVec.toNat_ofNat];exact Nat.mod_eq_of_lt oM
 show IntKind.i64.wrap ((BitVec.ofInt 64 (a:Int) ^^^ BitVec.ofInt 64 (b:Int)).toNat:Int)=_
 rw [BitVec.toNat_xor,h1,h2]
 simp only [IntKind.wrap,IntKind.bits,IntKind.signed]
 simp
 omega
theorem oE {x:Nat} (h:x≠0):0<Lib.bitLen x:=by
 unfold Lib.bitLen Lib.bitLenAux
 rw [nG h];omega
theorem Ih {a b:Nat} (h:a≠b):a ^^^ b≠0:=by
 intro h0
 apply h
 apply Nat.eq_of_testBit_eq
 intro i
 have:=congrArg (λn=>n.testBit i) h0
 simpa [Nat.testBit_xor] using this
theorem rZ (a b:Nat) (ha:a <= 1152921504606846976) (hb:b <= 1152921504606846976) (hab:a≠b) (w:wW):Calls tp 265 #[vi iQ a,vi iQ b] w (ay (vi iQ (bf a b)) w):=by
 have hx:a ^^^ b<2 ^ 62:=Nat.xor_lt_two_pow oM oM
 have hB:=KB a b oM oM
 have hL:=λw=>Ng (a ^^^ b) oM w
 have hU:IntKind.u64.wrap (((a ^^^ b:Nat)):Int)=((a ^^^ b:Nat):Int):=by rw [IntKind.wrap_u64];omega
 unfold bf
 have hp:0<Lib.bitLen (a ^^^ b):=oE (Ih hab)
 have hle:Lib.bitLen (a ^^^ b) <= 64:=Lib.bitLen_le _ 64 oM oM
 generalize a ^^^ b=x at *
 generalize Lib.bitLen x=l at *
 have hc:((l - 1:Nat):Int)=(l:Int) - 1:=by omega
 go_in
 go_wp2_with (go_at_call 312;refine (hL _).r λk1=>?_)
 go_ret
 exact ay.of (by show vi iQ _=_;congr 1;omega) dz
/-- What a wheel holds: the tick, each id's due, and its 169 lists: 168 slots, the ready ones. -/
structure SW where
 now:Nat
 dues:List (Int × Nat)
 lists:Nat -> List Int
def cC (l:List (Int × Nat)):List (Int × Value):=l.map (λp=>(p.1,vi iQ (p.2:Nat)))
def dj:List (Int × Nat) -> Int -> Nat -> Option (Nat × Nat)
 | [],_,_=>nN
 | p :: m,i,j=>if i=p.1 then sS (j,p.2) else dj m i (j+1)
def aI (m:List (Int × Nat)) (i:Int):Option Nat:=(dj m i 0).map (·.2)
def iy (m:List (Int × Nat)) (i:Int) (v:Nat):List (Int × Nat):=match dj m i 0 with|some (n,_)=>m.set n (i,v)|none=>m++[(i,v)]
def jB (m:List (Int × Nat)) (i:Int):List (Int × Nat):=match dj m i 0 with|some (n,_)=>m.eraseIdx n|none=>m
theorem jg:∀ (m:List (Int × Nat)) (i:Int) (j:Nat),bP (cC m) i j=(dj m i j).map (λp=>(p.1,vi iQ (p.2:Nat)))
 | [],_,_=>rfl
 | p :: m,i,j=>by
  show (if i=p.1 then sS (j,vi iQ (p.2:Nat)) else bP (cC m) i (j+1))=_
  unfold dj
  split
  ·rfl
  ·exact jg m i (j+1)
theorem nm (m:List (Int × Nat)) (i:Int):ic (cC m) i=(aI m i).map (λv:Nat=>vi iQ v):=by
 unfold ic aI
 rw [jg]
 cases dj m i 0<;>rfl
theorem xJ (m:List (Int × Nat)) (i:Int) (v:Nat):px (cC m) i (vi iQ v)=cC (iy m i v):=by
 unfold px iy
 rw [jg]
 cases dj m i 0 with
 | none=>simp [cC]
 | some p=>simp [cC]
theorem xP (m:List (Int × Nat)) (i:Int):qW (cC m) i=cC (jB m i):=by
 unfold qW jB
 rw [jg]
 cases dj m i 0 with
 | none=>rfl
 | some p=>simp only [Option.map_some,cC];exact (mI _ m p.1).symm
/-- One more list. -/
def ir {α:Type} (f:Nat -> α) (k:Nat) (v:α):Nat -> α:=λj=>if j=k then v else f j
theorem aN {α:Type} (f:Nat -> α) (k:Nat) (v:α):ir f k v k=v:=pG rfl
theorem bg {α:Type} (f:Nat -> α) {k j:Nat} (v:α) (h:j≠k):ir f k v j=f j:=nG h
/-- The wheel at block d, its map at mb, its lists' blocks and rooms G. -/
structure az (w:wW) (d mb:Nat) (G:Nat -> Option Nat × Nat) (s:SW):Prop where
 obj:∃ cs:Array Value,w.heap[d]?=sS (.cells cs 258 (0,0)) /\ cs.size=171 /\ cs[0]?=sS (vi iQ s.now) /\ cs[1]?=sS (.map (sS mb)) /\ ∀ k,k <= 168 -> cs[2+k]?=sS (.slice (lA (G k).1) (s.lists k).length (G k).2)
 map:bV .i64 w mb (cC s.dues)
 list:∀ k,k <= 168 -> fZ w (G k).1 (G k).2 (s.lists k)
 ne:mb≠d
 own:∀ k,k <= 168 -> ∀ b,b∈lF (G k).1 -> b≠d /\ b≠mb
 apart:∀ j k,j <= 168 -> k <= 168 -> j≠k -> ∀ b,b∈lF (G j).1 -> b∉lF (G k).1
/-- All blocks of a wheel. -/
def aF (d mb:Nat) (G:Nat -> Option Nat × Nat):List Nat:=d :: mb :: (List.range 169).flatMap (λk=>lF (G k).1)
theorem aH {d mb:Nat} {G:Nat -> Option Nat × Nat} {b:Nat}:b∈aF d mb G↔b=d \/ b=mb \/ ∃ k,k <= 168 /\ b∈lF (G k).1:=by
 unfold aF
 simp only [List.mem_cons,List.mem_flatMap,List.mem_range]
 constructor
 ·rintro (h|h|⟨k,h1,h2⟩)
  ·exact .inl h
  ·exact .inr (.inl h)
  ·exact .inr (.inr ⟨k,by omega,h2⟩)
 ·rintro (h|h|⟨k,h1,h2⟩)
  ·exact .inl h
  ·exact .inr (.inl h)
  ·exact .inr (.inr ⟨k,by omega,h2⟩)
theorem az.keep {S:List Nat} {w w':wW} {d mb:Nat} {G:Nat -> Option Nat × Nat} {s:SW} (h:az w d mb G s) (m:af S w w') (hS:∀ b,b∈aF d mb G -> b∉S):az w' d mb G s:=by
 obtain ⟨cs,h1,h2⟩:=h.obj
 exact ⟨⟨cs,m.keep h1 (hS _ (aH.2 (.inl rfl))),h2⟩,h.map.keep m (hS _ (aH.2 (.inr (.inl rfl)))),λk hk=>(h.list k hk).keep m (λb hb=>hS _ (aH.2 (.inr (.inr ⟨k,hk,hb⟩)))),h.ne,h.own,h.apart⟩
theorem az.same {w w':wW} {d mb:Nat} {G:Nat -> Option Nat × Nat} {s:SW} (h:az w d mb G s) (e:w'.heap=w.heap):az w' d mb G s:=by
 obtain ⟨cs,h1,h2⟩:=h.obj
 exact ⟨⟨cs,by rw [e];exact h1,h2⟩,h.map.same e,λk hk=>(h.list k hk).same e,h.ne,h.own,h.apart⟩
theorem az.lt {w:wW} {d mb:Nat} {G:Nat -> Option Nat × Nat} {s:SW} (h:az w d mb G s):∀ b,b∈aF d mb G -> b<w.heap.size:=by
 intro b hb
 rcases aH.1 hb with rfl|rfl|⟨k,hk,hb⟩
 ·obtain ⟨cs,h1,_⟩:=h.obj
  exact cq h1
 ·exact h.map.lt
 ·exact (h.list k hk).lt b hb
theorem az.cellNow {w:wW} {d mb:Nat} {G:Nat -> Option Nat × Nat} {s:SW} (h:az w d mb G s):w.cell? ⟨d,0,nN⟩=sS (vi iQ s.now):=by
 obtain ⟨cs,h1,h2,h3,h4,h5⟩:=h.obj
 exact (ad h1 0).trans h3
theorem az.cellMap {w:wW} {d mb:Nat} {G:Nat -> Option Nat × Nat} {s:SW} (h:az w d mb G s):w.cell? ⟨d,1,nN⟩=sS (.map (sS mb)):=by
 obtain ⟨cs,h1,h2,h3,h4,h5⟩:=h.obj
 exact (ad h1 1).trans h4
theorem az.cellList {w:wW} {d mb:Nat} {G:Nat -> Option Nat × Nat} {s:SW} (h:az w d mb G s) {k:Nat} (hk:k <= 168):w.cell? ⟨d,2+k,nN⟩=sS (.slice (lA (G k).1) (s.lists k).length (G k).2):=by
 obtain ⟨cs,h1,h2,h3,h4,h5⟩:=h.obj
 exact (ad h1 (2+k)).trans (h5 k hk)
theorem az.free {w:wW} {d mb:Nat} {G:Nat -> Option Nat × Nat} {s:SW} (h:az w d mb G s) (o:Nat):w.frozen? ⟨d,o,nN⟩=fF:=by
 obtain ⟨cs,h1,_⟩:=h.obj
 exact aD h1 o
/-- Another list is stored. -/
theorem az.setList {S:List Nat} {w w1:wW} {d mb:Nat} {G:Nat -> Option Nat × Nat} {s:SW} (h:az w d mb G s) {k:Nat} (hk:k <= 168) (m:af S w w1) (hS:∀ b,b∈S -> b≠d /\ b≠mb /\ ∀ j,j <= 168 -> j≠k -> b∉lF (G j).1) {g':Option Nat} {cap':Nat} {l':List Int} (hL:fZ w1 g' cap' l') (hg:∀ b,b∈lF g' -> b∈lF (G k).1 \/ w.heap.size <= b):
  az (w1.setCell ⟨d,2+k,nN⟩ (.slice (lA g') l'.length cap')) d mb (ir G k (g',cap')) { s with lists:=ir s.lists k l' }:=by
 obtain ⟨cs,h1,h2,h3,h4,h5⟩:=h.obj
 have hd1:=m.keep h1 (λhd=>(hS d hd).1 rfl)
 have hlt:=h.lt
 have hgd:∀ b,b∈lF g' -> b≠d /\ b≠mb /\ ∀ j,j <= 168 -> j≠k -> b∉lF (G j).1:=by
  intro b hb
  rcases hg b hb with hb|hb
  ·exact ⟨(h.own k hk b hb).1,(h.own k hk b hb).2,λj hj hjk hbj=>h.apart k j hk hj (Ne.symm hjk) b hb hbj⟩
  ·refine ⟨?_,?_,?_⟩
   ·rintro rfl;have:=cq h1;omega
   ·rintro rfl;have:=h.map.lt;omega
   ·intro j hj _ hbj;have:=(h.list j hj).lt b hbj;omega
 have mc:af [d] w1 (w1.setCell ⟨d,2+k,nN⟩ (.slice (lA g') l'.length cap')):=mR.setCell sM _
 refine ⟨⟨_,bm hd1 (2+k) _,by simp [h2],?_,?_,?_⟩,?_,?_,h.ne,?_,?_⟩
 ·rw [Array.getElem?_setIfInBounds_ne oM];exact h3
 ·rw [Array.getElem?_setIfInBounds_ne oM];exact h4
 ·intro j hj
  by_cases e:j=k
  ·subst e
   simp only [aN]
   rw [Array.getElem?_setIfInBounds_self_of_lt oM]
  ·rw [Array.getElem?_setIfInBounds_ne oM];simp only [bg _ _ e];exact h5 j hj
 ·exact (h.map.keep m (λhb=>(hS mb hb).2.1 rfl)).keep mc (by simp;exact h.ne)
 ·intro j hj
  by_cases e:j=k
  ·subst e
   simp only [aN]
   exact hL.keep mc (λb hb=>by simp;exact (hgd b hb).1)
  ·simp only [bg _ _ e]
   exact ((h.list j hj).keep m (λb hb hbS=>(hS b hbS).2.2 j hj e hb)).keep mc (λb hb=>by simp;exact (h.own j hj b hb).1)
 ·intro j hj b hb
  by_cases e:j=k
  ·subst e
   rw [aN] at hb
   exact ⟨(hgd b hb).1,(hgd b hb).2.1⟩
  ·rw [bg _ _ e] at hb
   exact h.own j hj b hb
 ·intro i j hi hj hij b hb hb'
  by_cases e:i=k
  ·subst e
   rw [aN] at hb
   rw [bg _ _ (Ne.symm hij)] at hb'
   exact (hgd b hb).2.2 j hj (Ne.symm hij) hb'
  ·rw [bg _ _ e] at hb
   by_cases e':j=k
   ·subst e'
    rw [aN] at hb'
    exact (hgd b hb').2.2 i hi e hb
   ·rw [bg _ _ e'] at hb'
    exact h.apart i j hi hj hij b hb hb'
/-- What a call on a wheel does: it returns v; the wheel is s behind it, in old blocks of its own and new ones. -/
def qB (d mb:Nat) (G:Nat -> Option Nat × Nat) (v:Value) (s:SW) (w:wW) (e:Ending) (w':wW):Prop:=
 e=.returned v /\ ∃ G',af (aF d mb G) w w' /\ az w' d mb G' s /\ ∀ b,b∈aF d mb G' -> b∈aF d mb G \/ w.heap.size <= b
/-- The list in which a thing lies that is due then. -/
def aU (now due:Nat):Nat:=if due <= now then 168 else bf due now * 8+gP due (bf due now)
theorem pB {a b:Nat} (ha:a <= 1152921504606846976) (hb:b <= 1152921504606846976):bf a b <= 20:=by
 have hx:a ^^^ b<2 ^ 61:=Nat.xor_lt_two_pow oM oM
 have:=Lib.bitLen_le _ 61 oM hx
 unfold bf
 omega
theorem zt {now due:Nat} (ha:now <= 1152921504606846976) (hb:due <= 1152921504606846976):aU now due <= 168:=by
 unfold aU
 split
 ·omega
 ·have:=pB hb ha
  have:=iK due (bf due now)
  omega
theorem tX (d mb:Nat) (G:Nat -> Option Nat × Nat) (s:SW) (w:wW) (h:az w d mb G s) (due:Nat) (hn:s.now <= 1152921504606846976) (hd:due <= 1152921504606846976):
  Calls tp 313 #[vp (sS ⟨d,0,nN⟩),vi iQ due] w (ay (vp (sS ⟨d,2+aU s.now due,nN⟩)) w):=by
 have c0:=h.cellNow
 by_cases hle:due <= s.now
 ·have hI:aU s.now due=168:=pG hle
  rw [hI]
  clear hI
  go_in
  go_wp2
  go_ret
  exact ay.of (rfl) dz
 ·have hI:aU s.now due=bf due s.now * 8+gP due (bf due s.now):=nG hle
  have hL:=λw=>rZ due s.now hd hn oM w
  have hl:=pB hd hn
  have hD:=λw=>sd due (bf due s.now) hd hl w
  have hb:=iK due (bf due s.now)
  rw [hI]
  clear hI
  generalize gP due (bf due s.now)=dg at *
  generalize bf due s.now=lv at *
  go_in
  go_wp2_with (go_at_call 265;refine (hL _).s λw2 hDr=>?_)
  go_quiet (first|(go_at_call 267;exact Calls.quiet_of (hD _)))
  go_wp2
  go_ret
  exact ay.of sM (hDr.drewN _)
def aQ (s:SW) (id:Int):Nat:=(aI s.dues id).getD 0
def SW.put (s:SW) (id:Int):SW:={ s with lists:=ir s.lists (aU s.now (aQ s id)) (s.lists (aU s.now (aQ s id))++[id]) }
def SW.puts (s:SW) (ids:List Int):SW:=ids.foldl SW.put s
theorem oX (ids:List Int):∀ s:SW,(s.puts ids).now=s.now:=by
 induction ids with
 | nil=>intro s;rfl
 | cons a l ih=>intro s;exact (ih (s.put a)).trans rfl
theorem nk (ids:List Int):∀ s:SW,(s.puts ids).dues=s.dues:=by
 induction ids with
 | nil=>intro s;rfl
 | cons a l ih=>intro s;exact (ih (s.put a)).trans rfl
theorem IL (ids:List Int):∀ (s:SW) (k:Nat),((s.puts ids).lists k).length <= (s.lists k).length+ids.length:=by
 induction ids with
 | nil=>intro s k;simp [SW.puts]
 | cons a l ih=>
  intro s k
  refine Nat.le_trans (ih (s.put a) k) ?_
  have:((s.put a).lists k).length <= (s.lists k).length+1:=by
   unfold SW.put ir
   simp only
   split
   ·rename_i e;rw [e];simp
   ·omega
  simp only [List.length_cons]
  omega
theorem FL (s:SW) (l:List Int) (a:Int):s.puts (l++[a])=(s.puts l).put a:=by simp [SW.puts]
theorem zd {l:List Int} {j:Nat} (h:j<l.length):l.take (j+1)=l.take j++[ax l j]:=by
 rw [List.take_add_one];simp [ax,List.getD,h]
theorem jC {d mb:Nat} {G:Nat -> Option Nat × Nat} {k:Nat} {g':Option Nat} {c:Nat} {b:Nat} (h:b∈aF d mb (ir G k (g',c))):b∈aF d mb G \/ b∈lF g':=by
 rcases aH.1 h with h|h|⟨j,hj,h⟩
 ·exact .inl (aH.2 (.inl h))
 ·exact .inl (aH.2 (.inr (.inl h)))
 ·by_cases e:j=k
  ·subst e;rw [aN] at h;exact .inr h
  ·rw [bg _ _ e] at h;exact .inl (aH.2 (.inr (.inr ⟨j,hj,h⟩)))
theorem xg (d mb:Nat) (G:Nat -> Option Nat × Nat) (s:SW) (w:wW) (h:az w d mb G s) (hn:s.now <= 1152921504606846976) (hdd:∀ i,aQ s i <= 1152921504606846976)
  (gI:Option Nat) (capI:Nat) (ids:List Int) (hI:fZ w gI capI ids) (hdis:∀ b,b∈lF gI -> b∉aF d mb G) (hb:∀ k,k <= 168 -> (s.lists k).length+ids.length<1000000):
  Calls tp 268 #[vp (sS ⟨d,0,nN⟩),.slice (lA gI) ids.length capI] w (qB d mb G (.tuple #[]) (s.puts ids) w):=by
 have hcap:=hI.cap
 unfold maxLen at hcap
 obtain ⟨hcap1,hcap2⟩:=hcap
 have hlI:=hI.lt
 go_in
 go_wp2
 go_loopg [9] ids.length (λgg i wr=>∃ (j:Nat) (G':Nat -> Option Nat × Nat),i=vi iQ j /\ j+gg=ids.length /\ az wr d mb G' (s.puts (ids.take j)) /\ af (aF d mb G) w wr /\ ∀ b,b∈aF d mb G' -> b∈aF d mb G \/ w.heap.size <= b)
 case atStart=>exact ⟨0,G,rfl,by omega,h,af.refl _ _,λb hb=>.inl hb⟩
 case round=>
  obtain ⟨j,G',rfl,hj,h',m,hG⟩:=hrel
  by_cases hlt:j<ids.length
  ·have hnow:=oX (ids.take j) s
   have hdues:=nk (ids.take j) s
   have hdd':aQ (s.puts (ids.take j)) (ax ids j) <= 1152921504606846976:=by unfold aQ;rw [hdues];exact hdd _
   have hnn:(s.puts (ids.take j)).now <= 1152921504606846976:=by rw [hnow];exact hn
   have hS:=zd hlt
   have hSS:=zh (show s.puts (ids.take (j+1))=(s.puts (ids.take j)).put (ax ids j) by rw [hS,FL])
   have hkk:=zt hnn hdd'
   have hll:=IL (ids.take j) s (aU (s.puts (ids.take j)).now (aQ (s.puts (ids.take j)) (ax ids j)))
   have hb2:=hb _ hkk
   have hlen:((s.puts (ids.take j)).lists (aU (s.puts (ids.take j)).now (aQ (s.puts (ids.take j)) (ax ids j)))).length<1000000:=by
    have:(ids.take j).length <= ids.length:=by simp;omega
    omega
   clear hnow hdues hS hll hb2
   have hIr:=hI.keep m hdis
   obtain ⟨bI,rfl,cj⟩:=hIr.cell hlt
   generalize s.puts (ids.take j)=s' at *
   generalize ax ids j=id at *
   have hL0:=λ(w':wW) (hh:az w' d mb G' s')=>tX d mb G' s' w' hh (aQ s' id) hnn hdd'
   have hl0:=h'.list _ hkk
   have hc0:=h'.cellList hkk
   have hset:=λ(S:List Nat) (w1:wW) (m:af S wr w1) (hS) (g':Option Nat) (cap':Nat) (l':List Int) (hL:fZ w1 g' cap' l') (hg)=>h'.setList hkk m hS hL hg
   have hput:s'.put id={ s' with lists:=ir s'.lists (aU s'.now (aQ s' id)) (s'.lists (aU s'.now (aQ s' id))++[id]) }:=rfl
   have HP:=zh hput
   have hlook:(Instr.lookup 254 (.map (sS mb)) (vi iQ id) fF).run tp wr=.ok (vi iQ (aQ s' id)) wr:=by
    have:=lD (P:=tp) h'.map Tryz.underlying254 Tryz.underlying3 id (λw=>Tryz.zeroValue2 w)
    rw [nm] at this
    rw [this]
    unfold aQ
    cases aI s'.dues id<;>rfl
   have hown:=h'.own _ hkk
   have hap:=λj hj hjk=>h'.apart _ j hkk hj hjk
   clear hput
   generalize hkd:aU s'.now (aQ s' id)=k at *
   have hK:=zh hkd
   clear hkd
   generalize aQ s' id=due at *
   have cM:=h'.cellMap
   obtain ⟨cs,hcs,_⟩:=h'.obj
   have hsz:=h'.lt
   generalize ho:2+k=o at *
   have hO:=zh ho
   clear ho
   rw [lG]
   go_wp2_with (first
    | (
     go_at_call 313
     refine (hL0 _ (by exact h'.same rfl)).r λk1=>?_
     )
    | (
     at_builtin
     refine cO rfl _ _ rfl (by exact hl0.keep (((af.refl [] wr).drewN _).alloc _) sM) hlen (ai _ _) rfl rfl ?_
     rintro g2 cap2 w2 hL2 m2 hg2
     have mA:af (lF (G' k).1) wr w2:=af.trans (S:=lF (G' k).1) (T:=lF (G' k).1) ((mR.drewN _).alloc _) m2 (λ_ h=>.inl h)
     have hdn:d∉lF (G' k).1:=λhd=>(hown d hd).1 rfl
     have hcs2:=mA.keep hcs hdn
     have c2:=mA.at hc0 hdn
     have f2:=aD hcs2 o
     have z2:=cq hcs2
     have H2:=zh (And.intro hL2 (And.intro mA hg2))
     clear hL2 mA hg2 m2 hcs2
     )
    )
   obtain ⟨hL2,mA,hg2⟩:=H2.out
   have hgg:∀ b,b∈lF (sS g2) -> b∈lF (G' k).1 \/ wr.heap.size <= b:=by
    intro b hb
    simp [lF] at hb
    subst hb
    rcases hg2 with hg2|hg2
    ·exact .inl hg2
    ·simp at hg2;right;omega
   have hW:=hset _ w2 mA (λb hb=>⟨(hown b hb).1,(hown b hb).2,λj hj hjk=>hap j hj (Ne.symm hjk) b hb⟩) (sS g2) cap2 _ hL2 hgg
   rw [show (s'.lists k++[id]).length=(s'.lists k).length+1 by simp,lG] at hW
   have hkb:∀ b,b∈lF (G' k).1 -> b∈aF d mb G':=λb hb=>aH.2 (.inr (.inr ⟨k,hkk,hb⟩))
   have mB:=λv=>m.trans (T:=d :: lF (G' k).1) ((mA.mono (λb hb=>.inl (List.mem_cons_of_mem _ hb))).setCell (p:=⟨d,o,nN⟩) sM v) (λb hb=>by
    rcases List.mem_cons.1 hb with rfl|hb
    ·exact .inl (aH.2 (.inl rfl))
    ·exact hG b (hkb b hb))
   have hms:=m.size
   go_roundg (gk - 1)
   case measure=>omega
   case rel=>
    refine ⟨j+1,ir G' k (sS g2,cap2),by go_num,by omega,by rw [hSS.out,HP.out];exact hW,mB _,λb hb=>?_⟩
    rcases jC hb with hb|hb
    ·exact hG b hb
    ·rcases hgg b hb with hb|hb
     ·exact hG b (hkb b hb)
     ·right;omega
  ·have hT:ids.take j=ids:=List.take_of_length_le oM
   rw [hT] at h'
   go_wp2
   go_end0
   exact ⟨rfl,G',m,h',hG⟩
/-- What stands above the digits below level n. -/
def nE (n a:Nat):Nat:=a / 2 ^ (3 * n)
theorem qf (n a:Nat):nE n a=8 * nE (n+1) a+gP a n:=by
 unfold nE gP
 have e:2 ^ (3 * (n+1))=2 ^ (3 * n) * 8:=by rw [Nat.mul_add,Nat.pow_add]
 rw [e,<- Nat.div_div_eq_div_mul]
 omega
theorem vI (n:Nat) {a b:Nat} (h:a <= b):nE n a <= nE n b:=Nat.div_le_div_right h
theorem vH {n m a b:Nat} (hnm:n <= m) (h:nE n a=nE n b):nE m a=nE m b:=by
 unfold nE at *
 have e:3 * m=3 * n+3 * (m - n):=by omega
 rw [e,Nat.pow_add,<- Nat.div_div_eq_div_mul,<- Nat.div_div_eq_div_mul,h]
theorem EE (n a b:Nat):nE n a=nE n b↔a ^^^ b<2 ^ (3 * n):=by
 unfold nE
 rw [<- Nat.shiftRight_eq_div_pow,<- Nat.shiftRight_eq_div_pow]
 constructor
 ·intro h
  have h1:(a ^^^ b) >>> (3 * n)=0:=by rw [Nat.shiftRight_xor_distrib,h,Nat.xor_self]
  rw [Nat.shiftRight_eq_div_pow] at h1
  rcases Nat.lt_or_ge (a ^^^ b) (2 ^ (3 * n)) with h2|h2
  ·exact h2
  ·have:=Nat.div_pos h2 (Nat.pow_pos oM);omega
 ·intro h
  have h1:(a ^^^ b) >>> (3 * n)=0:=by rw [Nat.shiftRight_eq_div_pow];exact Nat.div_eq_of_lt h
  rw [Nat.shiftRight_xor_distrib] at h1
  apply Nat.eq_of_testBit_eq
  intro i
  have:=congrArg (λx=>x.testBit i) h1
  simpa [Nat.testBit_xor] using this
theorem Bf (x:Nat):x<2 ^ 64 -> x<2 ^ Lib.bitLen x /\ (x≠0 -> 2 ^ (Lib.bitLen x - 1) <= x):=by
 induction x using Nat.strongRecOn with
 | ind x ih=>
  intro hx
  by_cases h0:x=0
  ·subst h0
   exact ⟨by show 0<_;exact Nat.pow_pos oM,λh=>absurd rfl h⟩
  ·have e:=Lib.bitLen_half x h0 hx
   obtain ⟨i1,i2⟩:=ih (x / 2) oM oM
   rw [e]
   refine ⟨?_,λ_=>?_⟩
   ·rw [Nat.add_comm,Nat.pow_succ];omega
   ·by_cases h1:x / 2=0
    ·rw [h1]
     show 2 ^ (1+0 - 1) <= x
     omega
    ·have hp:=oE h1
     have:=i2 h1
     have e2:2 ^ (1+Lib.bitLen (x / 2) - 1)=2 ^ (Lib.bitLen (x / 2) - 1) * 2:=by rw [<- Nat.pow_succ];congr 1;omega
     rw [e2];omega
theorem mJ {a b:Nat} (h:a≠b) (ha:a <= 1152921504606846976) (hb:b <= 1152921504606846976):nE (bf a b+1) a=nE (bf a b+1) b /\ nE (bf a b) a≠nE (bf a b) b:=by
 have hx:=Ih h
 have hx2:a ^^^ b<2 ^ 62:=Nat.xor_lt_two_pow oM oM
 obtain ⟨h1,h2⟩:=Bf (a ^^^ b) oM
 have h3:=h2 hx
 have hp:=oE hx
 refine ⟨(EE _ _ _).2 (Nat.lt_of_lt_of_le h1 (Nat.pow_le_pow_right oM ?_)),λhe=>?_⟩
 ·unfold bf;omega
 ·have h4:=(EE _ _ _).1 he
  have h5:2 ^ (3 * bf a b) <= 2 ^ (Lib.bitLen (a ^^^ b) - 1):=Nat.pow_le_pow_right oM (by unfold bf;omega)
  omega
theorem uM {a b m:Nat} (ha:a <= 1152921504606846976) (hb:b <= 1152921504606846976) (h1:nE (m+1) a=nE (m+1) b) (h2:nE m a≠nE m b):bf a b=m:=by
 have hne:a≠b:=λh=>h2 (by rw [h])
 obtain ⟨s1,s2⟩:=mJ hne ha hb
 rcases Nat.lt_trichotomy (bf a b) m with h|h|h
 ·exact absurd (vH oM s1) h2
 ·exact h
 ·exact absurd (vH oM h1) s2
theorem zv {n a b:Nat} (h:nE n a<nE n b):a<b:=by
 rcases Nat.lt_or_ge a b with h1|h1
 ·exact h1
 ·have:=vI n h1;omega
/-- A thing that lies beyond what a Go to t takes Ei where it is. -/
theorem DG {now t due:Nat} (hn:now<t) (hd:now<due) (ht:t <= 1152921504606846976) (hdd:due <= 1152921504606846976)
  (h:¬ (bf due now<bf t now \/ (bf due now=bf t now /\ gP due (bf due now) <= gP t (bf t now)))):aU t due=aU now due:=by
 obtain ⟨a1,a2⟩:=mJ (a:=due) (b:=now) oM hdd oM
 obtain ⟨b1,b2⟩:=mJ (a:=t) (b:=now) oM ht oM
 have key:t<due /\ bf due t=bf due now:=by
  generalize bf due now=lv at *
  generalize bf t now=top at *
  rcases Nat.lt_trichotomy lv top with hl|hl|hl
  ·exact absurd (.inl hl) h
  ·subst hl
   have hdig:gP t lv<gP due lv:=by
    rcases Nat.lt_or_ge (gP t lv) (gP due lv) with h1|h1
    ·exact h1
    ·exact absurd (.inr ⟨rfl,h1⟩) h
   have e:nE (lv+1) due=nE (lv+1) t:=a1.trans b1.symm
   have s1:=qf lv due
   have s2:=qf lv t
   rw [e] at s1
   exact ⟨zv (n:=lv) oM,uM hdd ht e oM⟩
  ·have e0:nE lv t=nE lv now:=vH oM b1
   have e1:nE (lv+1) t=nE (lv+1) now:=vH oM b1
   have hge:=vI lv (Nat.le_of_lt hd)
   refine ⟨zv (n:=lv) oM,uM hdd ht (a1.trans e1.symm) (by rw [e0];exact a2)⟩
 unfold aU
 rw [nG oM,nG oM,key.2]
/-- What lies in an earlier slot is due earlier. -/
theorem DH {now a b:Nat} (hn:now <= 1152921504606846976) (ha:now<a) (hb:now<b) (haa:a <= 1152921504606846976) (hbb:b <= 1152921504606846976) (h:aU now a<aU now b):a<b:=by
 unfold aU at h
 rw [nG oM,nG oM] at h
 obtain ⟨a1,a2⟩:=mJ (a:=a) (b:=now) oM haa hn
 obtain ⟨b1,b2⟩:=mJ (a:=b) (b:=now) oM hbb hn
 have d1:=iK a (bf a now)
 have d2:=iK b (bf b now)
 generalize bf a now=la at *
 generalize bf b now=lb at *
 rcases Nat.lt_or_ge la lb with hl|hl
 ·have e0:nE lb a=nE lb now:=vH oM a1
  have hge:=vI lb (Nat.le_of_lt hb)
  exact zv (n:=lb) oM
 ·have e:la=lb:=by omega
  subst e
  have e:nE (la+1) a=nE (la+1) b:=a1.trans b1.symm
  have s1:=qf la a
  have s2:=qf la b
  rw [e] at s1
  exact zv (n:=la) oM
/-- What every wheel's state keeps. -/
structure SW.ok (s:SW):Prop where
 now:s.now <= 1152921504606846976
 due:∀ p,p∈s.dues -> p.2 <= 1152921504606846976
theorem yA:∀ {m:List (Int × Nat)} {i:Int} {j n v:Nat},dj m i j=sS (n,v) -> (i,v)∈m
 | p :: m,i,j,n,v,h=>by
  unfold dj at h
  split at h
  ·rename_i e
   simp at h
   obtain ⟨_,rfl⟩:=h
   rw [e];exact List.mem_cons_self
  ·exact List.mem_cons_of_mem _ (yA h)
theorem qo {m:List (Int × Nat)} {i:Int} {v:Nat} (h:aI m i=sS v):(i,v)∈m:=by
 unfold aI at h
 obtain ⟨⟨n,v'⟩,h1,h2⟩:=Option.map_eq_some_iff.1 h
 simp at h2
 subst h2
 exact yA h1
theorem zB {s:SW} (h:s.ok) (i:Int):aQ s i <= 1152921504606846976:=by
 unfold aQ
 cases e:aI s.dues i with
 | none=>simp
 | some v=>exact h.due _ (qo e)
theorem Kd {m:List (Int × Nat)} {i:Int} {v:Nat} {p:Int × Nat} (h:p∈iy m i v):p∈m \/ p=(i,v):=by
 unfold iy at h
 split at h
 ·exact List.mem_or_eq_of_mem_set h
 ·simpa using h
theorem SW.ok.put {s:SW} (h:s.ok) (i:Int):(s.put i).ok:=⟨h.now,h.due⟩
theorem SW.ok.puts {s:SW} (h:s.ok):∀ ids,(s.puts ids).ok:=λids=>⟨by rw [oX];exact h.now,by rw [nk];exact h.due⟩
def SW.setDue (s:SW) (id:Int) (due:Nat):SW:={ s with dues:=iy s.dues id due }
theorem SW.ok.setDue {s:SW} (h:s.ok) (i:Int) {v:Nat} (hv:v <= 1152921504606846976):(s.setDue i v).ok:=⟨h.now,λp hp=>by
 rcases Kd hp with hp|rfl
 ·exact h.due p hp
 ·exact hv⟩
theorem az.setMap {w w1:wW} {d mb:Nat} {G:Nat -> Option Nat × Nat} {s:SW} (h:az w d mb G s) (m:af [mb] w w1) {l:List (Int × Nat)} (hm:bV .i64 w1 mb (cC l)):az w1 d mb G { s with dues:=l }:=by
 obtain ⟨cs,h1,h2⟩:=h.obj
 exact ⟨⟨cs,m.keep h1 (by simp;exact λe=>h.ne e.symm),h2⟩,hm,λk hk=>(h.list k hk).keep m (λb hb=>by simp;exact (h.own k hk b hb).2),h.ne,h.own,h.apart⟩
/-- Add: the errno; the wheel behind it. -/
def SW.addE (s:SW) (id due:Int):Int:=if ¬ bh due then 2 else if (aI s.dues id).isSome then 6 else 0
def SW.add (s:SW) (id due:Int):SW:=if s.addE id due=0 then (s.setDue id due.toNat).put id else s
/-- The three reads of the map. -/
theorem iJ {w:wW} {d mb:Nat} {G:Nat -> Option Nat × Nat} {s:SW} (h:az w d mb G s) (id:Int):
  (Instr.lookup 254 (.map (sS mb)) (vi iQ id) tQ).run tp w=.ok (.tuple #[vi iQ (aQ s id),vb (aI s.dues id).isSome]) w:=by
 have:=mH (P:=tp) h.map Tryz.underlying254 Tryz.underlying3 id (λw=>Tryz.zeroValue2 w)
 rw [nm] at this
 rw [this]
 unfold aQ
 cases aI s.dues id<;>rfl
theorem Fg (d mb:Nat) (G:Nat -> Option Nat × Nat) (s:SW) (w:wW) (h:az w d mb G s) (hok:s.ok) (hb:∀ k,k <= 168 -> (s.lists k).length+1<1000000) (id due:Int):
  Calls tp 273 #[vp (sS ⟨d,0,nN⟩),vi iQ id,vi iQ due] w (qB d mb G (vi iQ (s.addE id due)) (s.add id due) w):=by
 have cM:=h.cellMap
 have hlk:=iJ h id
 by_cases hr:bh due
 ·have hr2:=decide_eq_true hr
  by_cases hs:(aI s.dues id).isSome=tQ
  ·have hE:s.addE id due=6:=by unfold SW.addE;rw [nG (by simpa using hr),pG hs]
   have hA:s.add id due=s:=by unfold SW.add;rw [nG oM]
   rw [hE,hA]
   rw [hs] at hlk
   clear hE hA hs
   generalize aQ s id=du at *
   go_in
   go_wp2_with (first
    | (
     go_at_call 162
     refine (dU _ _).r λk1=>?_
     )
    )
   go_ret
   exact ⟨rfl,G,mR.drewN _,h.same rfl,λb hb=>.inl hb⟩
  ·have hE:s.addE id due=0:=by unfold SW.addE;rw [nG (by simpa using hr),nG hs]
   have hA:s.add id due=(s.setDue id due.toNat).put id:=by unfold SW.add;rw [pG hE]
   rw [hE,hA]
   have hs':(aI s.dues id).isSome=fF:=by simpa using hs
   rw [hs'] at hlk
   obtain ⟨t,rfl⟩:=iN hr.1
   have hT:((t:Nat):Int).toNat=t:=by omega
   have hok':=hok.setDue id (v:=t) (by have:=hr.2;omega)
   rw [hT]
   clear hE hA hs hs' hT hr
   generalize aQ s id=du at *
   have hmu:=λk=>ji (w:=w.drewN k) (P:=tp) (h.map.same rfl) Tryz.underlying254 Tryz.underlying3 id (vi iQ (t:Nat))
   go_in
   go_wp2_with (first
    | (
     go_at_call 162
     refine (dU _ _).r λk1=>?_
     obtain ⟨w1,hrun,m1,x1⟩:=hmu k1
     rw [xJ] at x1
     )
    | (
     go_at_call 268
     have hW1:=az.setMap (h.same (w':=w.drewN k1) rfl) m1 x1
     have hlt1:=hW1.lt
     have hW2:=hW1.keep (S:=[]) ((af.refl [] w1).alloc (.cells #[vi iQ id] 3)) sM
     refine (xg d mb G _ _ (by exact hW2) hok'.now (zB hok') (sS w1.heap.size) 1 [id] ⟨_,ai _ _,by simp,by simp [maxLen],by simp,by simp⟩ (by simp [lF];intro hh;have:=hlt1 _ hh;omega) (by intro k hk;exact hb k hk)).mono ?_
     rintro e w3 ⟨rfl,G3,m3,x3,g3⟩
     )
    )
   go_ret
   have mA:af (aF d mb G) w w1:=m1.undrewN.mono (by simp;exact .inl (aH.2 (.inr (.inl rfl))))
   have mB:af (aF d mb G) w w3:=(mA.alloc _).trans m3 (λb hb=>.inl hb)
   have hs1:=mA.size
   exact ⟨rfl,G3,mB,x3,λb hb=>by
    rcases g3 b hb with hb|hb
    ·exact .inl hb
    ·right;simp at hb;omega⟩
 ·have hr2:=decide_eq_false hr
  have hE:s.addE id due=2:=by unfold SW.addE;rw [pG hr]
  have hA:s.add id due=s:=by unfold SW.add;rw [nG oM]
  rw [hE,hA]
  clear hE hA
  generalize aQ s id=du at *
  generalize (aI s.dues id).isSome=bb at *
  go_in
  go_wp2_with (first
   | (
    go_at_call 162
    refine (dU _ _).r λk1=>?_
    )
   )
  go_ret
  exact ⟨rfl,G,mR.drewN _,h.same rfl,λb hb=>.inl hb⟩
theorem Cl (d mb:Nat) (G:Nat -> Option Nat × Nat) (s:SW) (w:wW) (h:az w d mb G s) (id:Int):Calls tp 349 #[vp (sS ⟨d,0,nN⟩),vi iQ id] w (ay (.tuple #[vi iQ (aQ s id),vb (aI s.dues id).isSome]) w):=by
 have cM:=h.cellMap
 have hlk:=iJ h id
 generalize aQ s id=du at *
 generalize (aI s.dues id).isSome=bb at *
 go_in
 go_wp2
 go_ret2
 exact ay.of (rfl) dz
theorem Fe (d mb:Nat) (G:Nat -> Option Nat × Nat) (s:SW) (w:wW) (h:az w d mb G s):Calls tp 156 #[vp (sS ⟨d,0,nN⟩)] w (ay (vi iQ s.dues.length) w):=by
 have cM:=h.cellMap
 obtain ⟨es,clk,hb,he⟩:=h.map
 have hlen:es.size=s.dues.length:=by have:=congrArg List.length he.eq;simpa [cC] using this
 have hrun:(Builtin.len_ #[254] 3 #[.map (sS mb)]).run tp w=.ok (vi iQ s.dues.length) w:=by
  rw [<- hlen]
  simp [Builtin.len_,getObj,Sem.run,hb]
  rfl
 clear hlen he hb
 go_in
 go_wp2
 go_ret
 exact ay.of (rfl) dz
/-- The lists of a level from digit 0 on, one behind the other; the wheel without them. -/
def SW.tookN (s:SW) (lv:Nat):Nat -> List Int
 | 0=>[]
 | n+1=>s.tookN lv n++s.lists (lv * 8+n)
def SW.leaveN (s:SW) (lv:Nat):Nat -> SW
 | 0=>s
 | n+1=>{ s.leaveN lv n with lists:=ir (s.leaveN lv n).lists (lv * 8+n) [] }
theorem uT (s:SW) (lv:Nat):∀ n,(s.leaveN lv n).now=s.now
 | 0=>rfl
 | n+1=>uT s lv n
theorem dZ (s:SW) (lv:Nat):∀ n,(s.leaveN lv n).dues=s.dues
 | 0=>rfl
 | n+1=>dZ s lv n
theorem fT (s:SW) (lv k:Nat):∀ n,(s.leaveN lv n).lists k=if lv * 8 <= k /\ k<lv * 8+n then [] else s.lists k
 | 0=>by rw [nG oM];rfl
 | n+1=>by
  show ir (s.leaveN lv n).lists (lv * 8+n) [] k=_
  by_cases e:k=lv * 8+n
  ·subst e;rw [aN,pG oM]
  ·rw [bg _ _ e,fT s lv k n]
   by_cases h:lv * 8 <= k /\ k<lv * 8+n
   ·rw [pG h,pG oM]
   ·rw [nG h,nG oM]
/-- append of a whole slice. -/
theorem fZ.appendAll {w:wW} {g:Option Nat} {cap:Nat} {l:List Int} (h:fZ w g cap l) {g2:Option Nat} {cap2:Nat} {l2:List Int} (h2:fZ w g2 cap2 l2) (hl:l.length+l2.length<1000000):
  ∃ g' cap' w',(∀ ty,(Builtin.append_ #[143,143] ty #[.slice (lA g) l.length cap,.slice (lA g2) l2.length cap2]).run tp w=.ok (.slice (lA g') (l.length+l2.length) cap') w') /\
   fZ w' g' cap' (l++l2) /\ af (lF g) w w' /\ ∀ b,b∈lF g' -> b∈lF g \/ b=w.heap.size:=by
 have hI:=qc
 obtain ⟨i,hi,hi2⟩:=Option.map_eq_some_iff.1 hI
 simp only [Prod.mk.injEq] at hi2
 obtain ⟨i1,i2,i3⟩:=hi2
 cases g2 with
 | none=>
  obtain ⟨rfl,rfl⟩:=h2
  refine ⟨g,cap,w,λty=>?_,by simpa using h,af.refl _ _,λb hb=>.inl hb⟩
  exact run_append_owned_none (P:=tp) w 0 143 ty 3 i 1 Tryz.underlying143 hi _ _ _ h.owns
 | some b2=>
  obtain ⟨v',w',hr,x2,x3,x4,x5⟩:=run_append_own_at (P:=tp) (w:=w) 0 143 0 3 i (vi iQ 0) 1 8 Tryz.underlying143 hi i1 i2 i3 rfl oM _ _ _ h.owns ⟨b2,0,nN⟩ l2.length cap2 (l2.map (vi iQ)) sM (by
   intro j u hj
   rw [show Addr.add ⟨b2,0,nN⟩ j=⟨b2,j,nN⟩ by simp [Addr.add];exact λh=>h.symm]
   have hjl:j<l2.length:=by have:=(List.getElem?_eq_some_iff.1 hj).1;simpa using this
   obtain ⟨b,e,hc⟩:=h2.cell hjl
   cases e
   rw [hc]
   rw [List.getElem?_map,List.getElem?_eq_getElem hjl] at hj
   simp at hj
   rw [<- hj]
   simp [ax,List.getD,hjl]) (by
   intro u hu
   obtain ⟨z,_,rfl⟩:=List.mem_map.1 hu
   rfl) (by unfold maxLen;omega) oM oM
  have hB:(Value.slice (lA g) l.length cap).ownBlock=g:=by cases g<;>rfl
  rw [hB] at x3 x5
  have hm:af (lF g) w w':=⟨x3.os,x3.tape,x3.output,x3.size,λk hk hS=>x3.block k hk (by rintro rfl;exact hS (by simp [lF]))⟩
  have hrun:∀ ty,(Builtin.append_ #[143,143] ty #[.slice (lA g) l.length cap,.slice (lA (sS b2)) l2.length cap2]).run tp w=.ok v' w':=by
   intro ty
   have:(Builtin.append_ #[143,143] ty #[.slice (lA g) l.length cap,.slice (lA (sS b2)) l2.length cap2])=(Builtin.append_ #[143,143] 0 #[.slice (lA g) l.length cap,.slice (sS ⟨b2,0,nN⟩) l2.length cap2]):=rfl
   rw [this];exact hr
  rcases x2.2 with ⟨hv,h0⟩|⟨g3,cap3,cur,hv,_,q1,q2,q3,q4,q5⟩
  ·subst hv
   have e1:l=[]:=List.eq_nil_of_length_eq_zero oM
   have e2:l2=[]:=List.eq_nil_of_length_eq_zero oM
   subst e1 e2
   exact ⟨nN,0,w',hrun,⟨rfl,rfl⟩,hm,by simp [lF]⟩
  ·subst hv
   refine ⟨sS g3,cap3,w',hrun,⟨cur,q1,by simpa using q2,q3,by omega,by rw [Nat.mul_one] at q5;simpa using q5⟩,hm,?_⟩
   intro b hb
   simp [lF] at hb
   subst hb
   rcases x5 with x5|x5
   ·left
    have:sS b=g:=x5
    rw [<- this];simp [lF]
   ·right
    have:sS b=sS w.heap.size:=x5
    simpa using this
theorem ko (s:SW) (lv M:Nat) (hM:∀ k,(s.lists k).length <= M):∀ n,(s.tookN lv n).length <= n * M
 | 0=>by simp [SW.tookN]
 | n+1=>by
  have:=ko s lv M hM n
  have:=hM (lv * 8+n)
  simp only [SW.tookN,List.length_append,Nat.add_mul]
  omega
/-- What taken hands back: a new list of the call's own. -/
def LW (d mb:Nat) (G:Nat -> Option Nat × Nat) (l:List Int) (s:SW) (w:wW) (e:Ending) (w':wW):Prop:=
 ∃ go cap G',e=.returned (.slice (lA go) l.length cap) /\ fZ w' go cap l /\ af (aF d mb G) w w' /\ az w' d mb G' s /\ (∀ b,b∈aF d mb G' -> b∈aF d mb G \/ w.heap.size <= b) /\ ∀ b,b∈lF go -> w.heap.size <= b /\ b∉aF d mb G'
theorem rY (d mb:Nat) (G:Nat -> Option Nat × Nat) (s:SW) (w:wW) (h:az w d mb G s) (lv n:Nat) (hlv:lv <= 20) (hn:n <= 8) (hM:∀ k,(s.lists k).length <= 10000):
  Calls tp 266 #[vp (sS ⟨d,0,nN⟩),vi iQ lv,vi iQ n] w (LW d mb G (s.tookN lv n) (s.leaveN lv n) w):=by
 go_in
 go_wp2
 go_loopg [7,11] n (λgg out i wr=>∃ (j:Nat) (go:Option Nat) (cap:Nat) (G':Nat -> Option Nat × Nat),i=vi iQ j /\ j+gg=n /\ out=.slice (lA go) (s.tookN lv j).length cap /\ fZ wr go cap (s.tookN lv j) /\ az wr d mb G' (s.leaveN lv j) /\ af (aF d mb G) w wr /\ (∀ b,b∈aF d mb G' -> b∈aF d mb G \/ w.heap.size <= b) /\ ∀ b,b∈lF go -> w.heap.size <= b /\ b∉aF d mb G')
 case atStart=>exact ⟨0,nN,0,G,rfl,by omega,rfl,⟨rfl,rfl⟩,h,af.refl _ _,λb hb=>.inl hb,by simp [lF]⟩
 case round=>
  obtain ⟨j,go,cap,G',rfl,hj,rfl,hL,h',m,hG,hgo⟩:=hrel
  by_cases hlt:j<n
  ·have hk:lv * 8+j <= 168:=by omega
   have hc0:=h'.cellList hk
   have hl0:=h'.list _ hk
   have hll:(s.leaveN lv j).lists (lv * 8+j)=s.lists (lv * 8+j):=by rw [fT,nG oM]
   have hlen:=ko s lv 10000 hM j
   have hlen2:=hM (lv * 8+j)
   have hlen3:j * 10000 <= 80000:=by omega
   have hT:=zh (show s.tookN lv (j+1)=s.tookN lv j++s.lists (lv * 8+j) from rfl)
   have hset:=λ(S:List Nat) (w1:wW) (m:af S wr w1) (hS)=>h'.setList hk m hS (g':=nN) (cap':=0) (l':=[]) ⟨rfl,rfl⟩ (by simp [lF])
   have hV:=zh (show s.leaveN lv (j+1)={ s.leaveN lv j with lists:=ir (s.leaveN lv j).lists (lv * 8+j) [] } from rfl)
   rw [hll] at hl0 hc0
   obtain ⟨cs,hcs,_⟩:=h'.obj
   obtain ⟨go',cap',w2,hrun,x1,x2,x3⟩:=fZ.appendAll hL hl0 oM
   have hnb:∀ b,b∈lF go -> b∉aF d mb G':=λb hb=>(hgo b hb).2
   have hdn:d∉lF go:=λhd=>hnb d hd (aH.2 (.inl rfl))
   have hcs2:=x2.keep hcs hdn
   have c2:=x2.at hc0 hdn
   have hW:=hset (lF go) w2 x2 (λb hb=>⟨λe=>hnb b hb (aH.2 (.inl e)),λe=>hnb b hb (aH.2 (.inr (.inl e))),λi hi _ hbi=>hnb b hb (aH.2 (.inr (.inr ⟨i,hi,hbi⟩)))⟩)
   clear hset hlen hlen2 hlen3 hll
   have ha:2+(lv * 8+j)=2+lv * 8+j:=by omega
   rw [ha] at hc0 c2 hW
   have f2:=aD hcs2 (2+lv * 8+j)
   have z2:=cq hcs2
   have hj8:j<8:=by omega
   clear ha
   have HX:=zh (And.intro hW (And.intro x1 (And.intro x2 x3)))
   clear hW x1 x2 x3
   generalize s.tookN lv j=lj at *
   generalize (s.lists (lv * 8+j))=sj at *
   go_wp2_with (first
    | (
     at_builtin
     refine aX rfl _ _ _ rfl rfl rfl (hrun _) ?_
     )
    )
   obtain ⟨hW,x1,x2,x3⟩:=HX.out
   have hms:=m.size
   have hd0:d∈aF d mb G:=aH.2 (.inl rfl)
   have hgo':∀ b,b∈lF go' -> w.heap.size <= b /\ b∉aF d mb G':=by
    intro b hb
    rcases x3 b hb with hb|hb
    ·exact hgo b hb
    ·exact ⟨by omega,λhb'=>by have:=h'.lt b hb';omega⟩
   have mB:∀ v,af (aF d mb G) w (w2.setCell ⟨d,2+lv * 8+j,nN⟩ v):=λv=>(m.trans x2 (λb hb=>.inr (hgo b hb).1)).setCell (.inl hd0) v
   have hdg:∀ b,b∈lF go' -> b∉[d]:=by
    intro b hb
    have:=(hgo' b hb).2
    simp
    rintro rfl
    exact this (aH.2 (.inl rfl))
   have hxx:∀ v,fZ (w2.setCell ⟨d,2+lv * 8+j,nN⟩ v) go' cap' (lj++sj):=λv=>x1.keep ((af.refl [d] _).setCell sM _) hdg
   go_roundg (gk - 1)
   case measure=>omega
   case rel=>
    refine ⟨j+1,go',cap',_,by go_num,by omega,by rw [hT.out];simp,by rw [hT.out];exact hxx _,by rw [hV.out];exact hW,mB _,λb hb=>?_,λb hb=>⟨(hgo' b hb).1,λhb'=>?_⟩⟩
    ·rcases jC hb with hb|hb
     ·exact hG b hb
     ·simp [lF] at hb
    ·rcases jC hb' with hb'|hb'
     ·exact (hgo' b hb).2 hb'
     ·simp [lF] at hb'
  ·have hT:j=n:=by omega
   subst hT
   go_wp2
   go_ret
   exact ⟨go,cap,G',rfl,hL,m,h',hG,hgo⟩
/-- The lists of all levels below n; the wheel without them. -/
def SW.goN (s:SW):Nat -> List Int × SW
 | 0=>([],s)
 | n+1=>((s.goN n).1++(s.goN n).2.tookN n 8,(s.goN n).2.leaveN n 8)
theorem LM (s:SW):∀ n,(s.goN n).2.now=s.now
 | 0=>rfl
 | n+1=>(uT _ _ _).trans (LM s n)
theorem kJ (s:SW):∀ n,(s.goN n).2.dues=s.dues
 | 0=>rfl
 | n+1=>(dZ _ _ _).trans (kJ s n)
theorem uU (s:SW) (lv M:Nat) (hM:∀ k,(s.lists k).length <= M) (n k:Nat):((s.leaveN lv n).lists k).length <= M:=by
 rw [fT]
 split
 ·simp
 ·exact hM k
theorem EF (s:SW) (M:Nat) (hM:∀ k,(s.lists k).length <= M):∀ n,(s.goN n).1.length <= n * (8 * M) /\ ∀ k,((s.goN n).2.lists k).length <= M
 | 0=>⟨by simp [SW.goN],hM⟩
 | n+1=>by
  obtain ⟨h1,h2⟩:=EF s M hM n
  refine ⟨?_,λk=>uU _ n M h2 8 k⟩
  have h3:=ko _ n M h2 8
  have e:(n+1) * (8 * M)=n * (8 * M)+8 * M:=by rw [Nat.add_mul,Nat.one_mul]
  simp only [SW.goN,List.length_append]
  omega
/-- The wheel behind a Go to a later tick. -/
def SW.gone (s:SW) (t:Nat):List Int:=(s.goN (bf t s.now)).1++(s.goN (bf t s.now)).2.tookN (bf t s.now) (gP t (bf t s.now)+1)
def SW.left (s:SW) (t:Nat):SW:={ (s.goN (bf t s.now)).2.leaveN (bf t s.now) (gP t (bf t s.now)+1) with now:=t }
def SW.goTo (s:SW) (t:Nat):SW:=(s.left t).puts (s.gone t)
def SW.goE (s:SW) (t:Int):Int:=if t<s.now \/ ¬ bh t then 2 else 0
def SW.go (s:SW) (t:Int):SW:=if t<s.now \/ ¬ bh t then s else if t=s.now then s else s.goTo t.toNat
theorem az.setNow {w:wW} {d mb:Nat} {G:Nat -> Option Nat × Nat} {s:SW} (h:az w d mb G s) (n:Nat):az (w.setCell ⟨d,0,nN⟩ (vi iQ n)) d mb G { s with now:=n }:=by
 obtain ⟨cs,h1,h2,h3,h4,h5⟩:=h.obj
 have mc:af [d] w (w.setCell ⟨d,0,nN⟩ (vi iQ n)):=mR.setCell sM _
 refine ⟨⟨_,bm h1 0 _,by simp [h2],?_,?_,?_⟩,h.map.keep mc (by simp;exact h.ne),λk hk=>(h.list k hk).keep mc (λb hb=>by simp;exact (h.own k hk b hb).1),h.ne,h.own,h.apart⟩
 ·rw [Array.getElem?_setIfInBounds_self_of_lt oM]
 ·rw [Array.getElem?_setIfInBounds_ne oM];exact h4
 ·intro k hk
  rw [Array.getElem?_setIfInBounds_ne oM];exact h5 k hk
theorem Io (d mb:Nat) (G:Nat -> Option Nat × Nat) (s:SW) (w:wW) (h:az w d mb G s) (hok:s.ok) (hM:∀ k,(s.lists k).length <= 1000) (t:Int):
  Calls tp 195 #[vp (sS ⟨d,0,nN⟩),vi iQ t] w (qB d mb G (vi iQ (s.goE t)) (s.go t) w):=by
 have c0:=h.cellNow
 by_cases hlt:t<s.now
 ·have hE:s.goE t=2:=pG (.inl hlt)
  have hS:s.go t=s:=pG (.inl hlt)
  rw [hE,hS]
  clear hE hS
  go_in
  go_wp2
  go_ret
  exact ⟨rfl,G,af.refl _ _,h,λb hb=>.inl hb⟩
 by_cases hr:bh t
 case neg=>
  have hE:s.goE t=2:=pG (.inr hr)
  have hS:s.go t=s:=pG (.inr hr)
  have hr2:=decide_eq_false hr
  rw [hE,hS]
  clear hE hS hr
  go_in
  go_wp2_with (go_at_call 162;refine (dU _ _).r λk1=>?_)
  go_ret
  exact ⟨rfl,G,mR.drewN _,h.same rfl,λb hb=>.inl hb⟩
 have hE:s.goE t=0:=nG (λhh=>hh.elim hlt (λhh=>hh hr))
 have hS:s.go t=if t=s.now then s else s.goTo t.toNat:=nG (λhh=>hh.elim hlt (λhh=>hh hr))
 have hr2:=decide_eq_true hr
 rw [hE,hS]
 clear hE hS
 by_cases he:t=s.now
 ·rw [pG he]
  subst he
  clear hr
  go_in
  go_wp2_with (go_at_call 162;refine (dU _ _).r λk1=>?_)
  go_ret
  exact ⟨rfl,G,mR.drewN _,h.same rfl,λb hb=>.inl hb⟩
 rw [nG he]
 obtain ⟨n,rfl⟩:=iN hr.1
 have hn:=hr.2
 have hT:((n:Nat):Int).toNat=n:=by omega
 rw [hT]
 have hnow:=hok.now
 have hL0:=λw=>rZ n s.now oM hnow oM w
 have hlv:=pB (a:=n) (b:=s.now) oM hnow
 have hD0:=λw=>sd n (bf n s.now) oM hlv w
 have hdb:=iK n (bf n s.now)
 unfold SW.goTo SW.left SW.gone
 clear hr hT
 generalize gP n (bf n s.now)=dg at *
 generalize bf n s.now=top at *
 have hd0:d∈aF d mb G:=aH.2 (.inl rfl)
 go_in
 go_wp2_with (first
  | (go_at_call 162;refine (dU _ _).r λk1=>?_)
  | (go_at_call 265;refine (hL0 _).r λk2=>?_))
 go_loopg [6,37] top (λgg out i wr=>∃ (j:Nat) (go:Option Nat) (cap:Nat) (G':Nat -> Option Nat × Nat),i=vi iQ j /\ j+gg=top /\ out=.slice (lA go) (s.goN j).1.length cap /\ fZ wr go cap (s.goN j).1 /\ az wr d mb G' (s.goN j).2 /\ af (aF d mb G) w wr /\ (∀ b,b∈aF d mb G' -> b∈aF d mb G \/ w.heap.size <= b) /\ ∀ b,b∈lF go -> w.heap.size <= b /\ b∉aF d mb G')
 case atStart=>exact ⟨0,nN,0,G,rfl,by omega,rfl,⟨rfl,rfl⟩,h.same rfl,mR.drewN _,λb hb=>.inl hb,by simp [lF]⟩
 case round=>
  obtain ⟨j,go,cap,G',rfl,hj,rfl,hL,h',m,hG,hgo⟩:=hrel
  obtain ⟨hgl,hM'⟩:=EF s 1000 hM j
  have hM2:∀ k,((s.goN j).2.lists k).length <= 10000:=λk=>by have:=hM' k;omega
  by_cases hjt:j<top
  ·have hjt2:(j:Int)<top:=by omega
   have hgl2:j * (8 * 1000) <= 160000:=by omega
   have htl:=ko _ j 1000 hM' 8
   have h8:8 * 1000 <= 8000:=by omega
   have hSS:=zh (show (s.goN (j+1)).1=(s.goN j).1++(s.goN j).2.tookN j 8 from rfl)
   have hSS2:=zh (show (s.goN (j+1)).2=(s.goN j).2.leaveN j 8 from rfl)
   have hTk:=rY d mb G' (s.goN j).2 wr h' j 8 oM oM hM2
   clear hM2 hM' c0
   generalize (s.goN j).2.tookN j 8=tk at *
   generalize (s.goN j).2.leaveN j 8=sl at *
   generalize (s.goN j).2=sj at *
   generalize (s.goN j).1=lj at *
   go_wp2_with (first
    | (
     go_at_call 266
     refine hTk.mono ?_
     rintro e w2 ⟨gt,capt,G2,rfl,xt,mt,wt,gt2,gt3⟩
     have hLt:=hL.keep mt (λb hb=>(hgo b hb).2)
     obtain ⟨g3,cap3,w3,hrun,x1,x2,x3⟩:=fZ.appendAll hLt xt oM
     have hgoL:=hL.lt
     have hdis:∀ b,b∈aF d mb G2 -> b∉lF go:=by
      intro b hb hb'
      rcases gt2 b hb with hb2|hb2
      ·exact (hgo b hb').2 hb2
      ·have:=hgoL b hb';omega
     have hW3:=wt.keep x2 hdis
     have hms:=m.size
     have hmt:=mt.size
     have hg3:∀ b,b∈lF g3 -> w.heap.size <= b /\ b∉aF d mb G2:=by
      intro b hb
      rcases x3 b hb with hb|hb
      ·exact ⟨(hgo b hb).1,λhb'=>hdis b hb' hb⟩
      ·exact ⟨by omega,λhb'=>by have:=wt.lt b hb';omega⟩
     have mB:af (aF d mb G) w w3:=(m.trans mt (λb hb=>hG b hb)).trans x2 (λb hb=>.inr (hgo b hb).1)
     have hG2:∀ b,b∈aF d mb G2 -> b∈aF d mb G \/ w.heap.size <= b:=by
      intro b hb
      rcases gt2 b hb with hb|hb
      ·exact hG b hb
      ·right;omega
     have HX:=zh (And.intro hW3 (And.intro x1 (And.intro mB (And.intro hG2 hg3))))
     clear hW3 x1 mB hG2 hg3 x2 x3 hdis hLt xt mt wt gt2 gt3 hms hmt
     )
    | (
     at_builtin
     refine aX rfl _ _ _ rfl rfl rfl (hrun _) ?_
     )
    )
   obtain ⟨hW3,x1,mB,hG2,hg3⟩:=HX.out
   go_roundg (gk - 1)
   case measure=>omega
   case rel=>exact ⟨j+1,g3,cap3,G2,by go_num,by omega,by rw [hSS.out];simp,by rw [hSS.out];exact x1,by rw [hSS2.out];exact hW3,mB,hG2,hg3⟩
  ·have hT:j=top:=by omega
   subst hT
   have hgl2:j * (8 * 1000) <= 160000:=by omega
   have htl:=ko _ j 1000 hM' (dg+1)
   have h8:(dg+1) * 1000 <= 8000:=by omega
   have hMl:=uU _ j 1000 hM' (dg+1)
   have hln:=dZ (s.goN j).2 j (dg+1)
   have hln2:=kJ s j
   have hTk:=λ(w':wW) (hh:az w' d mb G' (s.goN j).2)=>rY d mb G' (s.goN j).2 w' hh j (dg+1) oM oM hM2
   have ec:((dg+1:Nat):Int)=(dg:Int)+1:=by omega
   rw [ec] at hTk
   have hok2:SW.ok { (s.goN j).2.leaveN j (dg+1) with now:=n }:=⟨by simp only;omega,λp hp=>hok.due p (by rw [<- hln2,<- hln];exact hp)⟩
   clear hM2 hM' c0 ec hln hln2
   generalize (s.goN j).2.tookN j (dg+1)=tk at *
   generalize (s.goN j).2.leaveN j (dg+1)=sl at *
   generalize (s.goN j).2=sj at *
   generalize (s.goN j).1=lj at *
   go_wp2_with (first
    | (
     go_at_call 267
     refine (hD0 _).r λk3=>?_
     replace hL:=hL.same (w':=wr.drewN k3) rfl
     replace h':=h'.same (w':=wr.drewN k3) rfl
     replace m:=m.drewN k3
     replace hTk:=hTk _ h'
     generalize wr.drewN k3=wr3 at *
     )
    | (
     go_at_call 266
     refine hTk.mono ?_
     rintro e w2 ⟨gt,capt,G2,rfl,xt,mt,wt,gt2,gt3⟩
     have hLt:=hL.keep mt (λb hb=>(hgo b hb).2)
     obtain ⟨g3,cap3,w3,hrun,x1,x2,x3⟩:=fZ.appendAll hLt xt oM
     have hgoL:=hL.lt
     have hdis:∀ b,b∈aF d mb G2 -> b∉lF go:=by
      intro b hb hb'
      rcases gt2 b hb with hb2|hb2
      ·exact (hgo b hb').2 hb2
      ·have:=hgoL b hb';omega
     have hW3:=wt.keep x2 hdis
     have hms:=m.size
     have hmt:=mt.size
     have hg3:∀ b,b∈lF g3 -> w.heap.size <= b /\ b∉aF d mb G2:=by
      intro b hb
      rcases x3 b hb with hb|hb
      ·exact ⟨(hgo b hb).1,λhb'=>hdis b hb' hb⟩
      ·exact ⟨by omega,λhb'=>by have:=wt.lt b hb';omega⟩
     have mB:af (aF d mb G) w w3:=(m.trans mt (λb hb=>hG b hb)).trans x2 (λb hb=>.inr (hgo b hb).1)
     have hG2:∀ b,b∈aF d mb G2 -> b∈aF d mb G \/ w.heap.size <= b:=by
      intro b hb
      rcases gt2 b hb with hb|hb
      ·exact hG b hb
      ·right;omega
     have HX:=zh (And.intro hW3 (And.intro x1 (And.intro mB (And.intro hG2 hg3))))
     clear hW3 x1 mB hG2 hg3 x2 x3 hdis hLt xt mt wt gt2 gt3 hms hmt
     have c3:=HX.out.1.cellNow
     have f3:=HX.out.1.free 0
     have z3:=HX.out.1.lt d (aH.2 (.inl rfl))
     )
    | (
     at_builtin
     refine aX rfl _ _ _ rfl rfl rfl (hrun _) ?_
     )
    | (
     go_at_call 268
     have hP:=xg d mb G2 _ _ (HX.out.1.setNow n) hok2.now (zB hok2) g3 cap3 (lj++tk) (HX.out.2.1.keep ((af.refl [d] _).setCell sM _) (λb hb=>by
      have:=(HX.out.2.2.2.2 b hb).2
      simp
      rintro rfl
      exact this (aH.2 (.inl rfl)))) (λb hb=>(HX.out.2.2.2.2 b hb).2) (λk hk=>by have:=hMl k;simp;omega)
     rw [List.length_append] at hP
     refine hP.mono ?_
     rintro e w4 ⟨rfl,G4,m4,x4,g4⟩
     )
    )
   obtain ⟨hW3,x1,mB,hG2,hg3⟩:=HX.out
   go_ret
   have hms:=mB.size
   refine ⟨rfl,G4,(mB.setCell (.inl hd0) _).trans m4 (λb hb=>hG2 b hb),x4,λb hb=>?_⟩
   rcases g4 b hb with hb|hb
   ·exact hG2 b hb
   ·right;simp [ni] at hb;omega
/-- The number of the first list that holds something: the ready ones, then the slots; the last slot if there is none. -/
def SW.firstK (s:SW):Nat:=if s.lists 168≠[] then 168 else ((List.range 168).find? (λk=>!(s.lists k).isEmpty)).getD 167
theorem Hi (s:SW):s.firstK <= 168:=by
 unfold SW.firstK
 split
 ·omega
 ·cases h:(List.range 168).find? (λk=>!(s.lists k).isEmpty) with
  | none=>simp
  | some k=>have:=List.mem_range.1 (List.mem_of_find?_eq_some h);simp;omega
theorem Hj {s:SW} {k:Nat} (hr:s.lists 168=[]) (hk:k<168) (h0:∀ j,j<k -> s.lists j=[]) (h:s.lists k≠[]):s.firstK=k:=by
 unfold SW.firstK
 rw [nG (by simp [hr])]
 have:(List.range 168).find? (λk=>!(s.lists k).isEmpty)=sS k:=by
  rw [List.find?_eq_some_iff_getElem]
  refine ⟨by simpa using h,k,by simpa using hk,by simp,?_⟩
  intro j hj
  simp [h0 j hj]
 rw [this];rfl
theorem BT {s:SW} (hr:s.lists 168=[]) (h0:∀ j,j<168 -> s.lists j=[]):s.firstK=167:=by
 unfold SW.firstK
 rw [nG (by simp [hr])]
 have:(List.range 168).find? (λk=>!(s.lists k).isEmpty)=none:=by
  rw [List.find?_eq_none]
  intro k hk
  have:=h0 k (List.mem_range.1 hk)
  simp [this]
 rw [this];rfl
/-- The slice value of list k. -/
def sn (G:Nat -> Option Nat × Nat) (s:SW) (k:Nat):Value:=.slice (lA (G k).1) (s.lists k).length (G k).2
def jc (G:Nat -> Option Nat × Nat) (s:SW):List Value:=(List.range 168).map (sn G s)
theorem um {G:Nat -> Option Nat × Nat} {s:SW} {k:Nat} (h:k<168):(jc G s)[k]?=sS (sn G s k):=by
 simp [jc,h]
def Mb (G:Nat -> Option Nat × Nat) (s:SW) (lv:Nat):Array Value:=#[sn G s (lv * 8),sn G s (lv * 8+1),sn G s (lv * 8+2),sn G s (lv * 8+3),sn G s (lv * 8+4),sn G s (lv * 8+5),sn G s (lv * 8+6),sn G s (lv * 8+7)]
theorem wu {G:Nat -> Option Nat × Nat} {s:SW} {lv:Nat} (h:lv<21) (w:wW):(Instr.index 256 (.agg (jc G s).toArray) (vi iQ lv)).run tp w=.ok (.agg (Mb G s lv)) w:=by
 have h1:((lv:Nat):Int)<21:=by omega
 have hu:=Tryz.underlying256
 have e:((jc G s).toArray.extract (lv * 8) (lv * 8+8))=Mb G s lv:=by
  apply Array.ext_getElem?
  intro j
  rw [Array.getElem?_extract]
  by_cases hj:j<8
  ·have:lv * 8+j<168:=by omega
   simp only [List.size_toArray,List.getElem?_toArray]
   rw [pG (by simp [jc];omega),um this]
   unfold Mb
   match j,hj with
   | 0,_=>rfl
   | 1,_=>rfl
   | 2,_=>rfl
   | 3,_=>rfl
   | 4,_=>rfl
   | 5,_=>rfl
   | 6,_=>rfl
   | 7,_=>rfl
  ·rw [nG (by simp [jc];omega)]
   unfold Mb
   simp;omega
 have h0:((lv:Nat):Int).toNat=lv:=by omega
 simp [Instr.index,asIntOf,Sem.run_bind,run_underlying hu,part,Tryz.isAgg255,Tryz.sizeOf255,h1,Result.andThen]
 rw [pG h]
 have e2:=e
 simp at e2
 rw [e2]
theorem wx {G:Nat -> Option Nat × Nat} {s:SW} (lv:Nat) {j:Nat} (h:j<8) (w:wW):(Instr.index 255 (.agg (Mb G s lv)) (vi iQ j)).run tp w=.ok (sn G s (lv * 8+j)) w:=by
 have h1:((j:Nat):Int)<8:=by omega
 have hu:=Tryz.underlying255
 have e:(Mb G s lv)[j]?=sS (sn G s (lv * 8+j)):=by
  unfold Mb
  match j,h with
  | 0,_=>rfl
  | 1,_=>rfl
  | 2,_=>rfl
  | 3,_=>rfl
  | 4,_=>rfl
  | 5,_=>rfl
  | 6,_=>rfl
  | 7,_=>rfl
 simp [Instr.index,asIntOf,Sem.run_bind,run_underlying hu,part,Tryz.isAgg143,Tryz.sizeOf143,h1,Result.andThen,e]
 intro hh
 omega
theorem zV (d mb:Nat) (G:Nat -> Option Nat × Nat) (s:SW) (w:wW) (h:az w d mb G s):
  Calls tp 303 #[vp (sS ⟨d,0,nN⟩)] w (bG (sn G s s.firstK) [] w λ_=>True):=by
 have cR:w.cell? ⟨d,170,nN⟩=sS (.slice (lA (G 168).1) (s.lists 168).length (G 168).2):=h.cellList (k:=168) oM
 by_cases hr:s.lists 168=[]
 case neg=>
  have hK:s.firstK=168:=pG hr
  rw [hK]
  have hlen:0<(s.lists 168).length:=List.length_pos_iff.2 hr
  unfold sn
  clear hK hr
  go_in
  go_wp2
  go_step3
  go_wp2
  rw [Exit.noGoto_ret]
  go_ret
  exact bG.of rfl mR trivial
 have hrl:(s.lists 168).length=0:=by rw [hr];rfl
 rw [hrl] at cR
 have hrg:w.rangeAt d 2 (jc G s):=by
  intro j v hj
  have hlt:j<168:=by have:=(List.getElem?_eq_some_iff.1 hj).1;simpa [jc] using this
  rw [um hlt] at hj
  simp at hj
  rw [<- hj]
  exact h.cellList oM
 have hinf:(tp.info? 256).map (·.size)=sS (jc G s).length:=by
  have:(tp.info? 256).map (·.size)=sS 168:=by kernel_rfl
  rw [this];simp [jc]
 have hix:=λlv hlv w=>wu (G:=G) (s:=s) (lv:=lv) hlv w
 have hat:∀ {k:Nat},k<168 -> (∀ j,j<k -> s.lists j=[]) -> s.lists k≠[] -> s.firstK=k:=λh1 h2 h3=>Hj hr h1 h2 h3
 have hnone:=λh=>BT (s:=s) hr h
 clear hr
 go_in
 go_wp2
 go_step3
 go_wp2
 go_step3
 go_wp2_with (refine wpList_load_mid rfl 256 _ rfl d 2 rfl (jc G s) _ hrg Tryz.underlying256 rfl hinf ?_)
 clear hrg hinf
 go_loopg [3,20] 21 (λgg out i wr=>∃ lv:Nat,i=vi iQ lv /\ lv+gg=21 /\ (∀ k,k<lv * 8 -> s.lists k=[]) /\ (0<lv -> out=sn G s (lv * 8 - 1)) /\ af [] w wr)
 case atStart=>exact ⟨0,rfl,by omega,λk hk=>by omega,λh=>by omega,af.refl _ _⟩
 case round=>
  obtain ⟨lv,rfl,hl,hE,ho,m⟩:=hrel
  by_cases hlt:lv<21
  ·have hlt2:(lv:Int)<21:=by omega
   have hx:=λw=>hix lv hlt w
   have hy:=λj hj w=>wx (G:=G) (s:=s) lv (j:=j) hj w
   have hlv:Mb G s lv=#[sn G s (lv * 8),sn G s (lv * 8+1),sn G s (lv * 8+2),sn G s (lv * 8+3),sn G s (lv * 8+4),sn G s (lv * 8+5),sn G s (lv * 8+6),sn G s (lv * 8+7)]:=rfl
   rw [hlv] at hx
   rw [hlv] at hy
   clear hix hlv
   simp only [sn] at hx hy ho
   go_wp2
   go_loopg [3,24] 8 (λgg out i wi=>∃ j:Nat,i=vi iQ j /\ j+gg=8 /\ (∀ k,k<lv * 8+j -> s.lists k=[]) /\ (0<lv * 8+j -> out=.slice (lA (G (lv * 8+j - 1)).1) (s.lists (lv * 8+j - 1)).length (G (lv * 8+j - 1)).2) /\ af [] w wi)
   case atStart=>
    refine ⟨0,rfl,by omega,hE,λh0=>ho oM,?_⟩
    refine af.trans (S:=[]) (T:=[wr.heap.size]) m ?_ (by simp;exact m.size)
    exact ms
   case round=>
    obtain ⟨j,rfl,hj,hE2,ho2,m2⟩:=hrel
    by_cases hj8:j<8
    ·have hj82:(j:Int)<8:=by omega
     have hyj:=λw=>hy j hj8 w
     clear hy hx
     by_cases hne:s.lists (lv * 8+j)=[]
     ·have hl0:(s.lists (lv * 8+j)).length=0:=by rw [hne];rfl
      rw [hl0] at hyj
      go_wp2
      go_roundg (8 - j - 1)
      case measure=>omega
      case rel=>
       refine ⟨j+1,by go_num,by omega,λk hk=>?_,λ_=>?_,m2⟩
       ·by_cases e:k=lv * 8+j
        ·rw [e];exact hne
        ·exact hE2 k oM
       ·rw [show lv * 8+(j+1) - 1=lv * 8+j by omega,hl0]
     ·have hl0:0<(s.lists (lv * 8+j)).length:=List.length_pos_iff.2 hne
      have hK:=hat (k:=lv * 8+j) oM hE2 hne
      have HK:=zh hK
      clear hK
      go_wp2
      rw [Exit.noGoto_ret]
      go_ret
      exact bG.of (by rw [HK.out];rfl) m2 trivial
    ·have hj88:j=8:=by omega
     subst hj88
     clear hy hx
     go_wp2
     go_roundg (21 - lv - 1)
     case measure=>omega
     case rel=>
      refine ⟨lv+1,by go_num,by omega,λk hk=>hE2 k oM,λ_=>?_,m2⟩
      rw [show (lv+1) * 8 - 1=lv * 8+8 - 1 by omega]
      exact ho2 oM
  ·have hl21:lv=21:=by omega
   subst hl21
   have hK:=hnone (λk hk=>hE k oM)
   have ho2:=ho oM
   have HK:=zh hK
   simp only [sn] at ho2
   subst ho2
   clear hK ho
   go_wp2
   rw [Exit.noGoto_ret]
   go_ret
   exact bG.of (by rw [HK.out];rfl) m trivial
section
open Go.RowKit Go.Sort
/-- A slice that may be read. -/
def bR (w:wW) (a:Option Addr) (l:List Int):Prop:=l=[] \/ ∃ b,a=sS ⟨b,0,nN⟩ /\ b<w.heap.size /\ ∀ j,j<l.length -> w.cell? ⟨b,j,nN⟩=sS (vi iQ (ax l j))
theorem fZ.ints {w:wW} {g:Option Nat} {cap:Nat} {l:List Int} (h:fZ w g cap l):bR w (lA g) l:=by
 by_cases hl:l=[]
 ·exact .inl hl
 ·right
  have h0:0<l.length:=List.length_pos_iff.2 hl
  obtain ⟨b,rfl,_⟩:=h.cell h0
  refine ⟨b,rfl,h.lt b (by simp [lF]),λj hj=>?_⟩
  obtain ⟨b',e,hc⟩:=h.cell hj
  cases e;exact hc
theorem yT (g:Option Nat) (cap:Nat) (l:List Int) (w:wW) (h:fZ w g cap l) (hl:l.length<1000000):
  Calls tp 160 #[.slice (lA g) l.length cap] w (λe w'=>∃ g' cap',e=.returned (.slice (lA g') l.length cap') /\ fZ w' g' cap' l /\ af [] w w' /\ ∀ b,b∈lF g' -> w.heap.size <= b):=by
 cases g with
 | none=>
  obtain ⟨rfl,rfl⟩:=h
  have hq:∀ w,(binOp .eql 143 (.slice nN 0 0) (.slice nN 0 0)).run tp w=.ok (vb tQ) w:=λw=>Lib.run_eql_slice_nil w _ _ nN 0 0 0 0 Tryz.underlying143
  simp only [lA,List.length_nil]
  go_in
  go_wp2
  go_ret
  exact ⟨nN,0,rfl,⟨rfl,rfl⟩,af.refl _ _,by simp [lF]⟩
 | some b=>
  have hq:∀ w n,(binOp .eql 143 (.slice (sS ⟨b,0,nN⟩) n cap) (.slice nN 0 0)).run tp w=.ok (vb fF) w:=λw n=>Lib.run_eql_slice_nil w _ _ (sS ⟨b,0,nN⟩) n cap 0 0 Tryz.underlying143
  have hE:fZ (w.alloc (.cells #[] 3)) (sS w.heap.size) 0 []:=⟨#[],ai _ _,by simp,by simp,rfl,rfl⟩
  obtain ⟨g',cap',w2,hrun,x1,x2,x3⟩:=fZ.appendAll hE (h.keep ((af.refl [] w).alloc (.cells #[] 3)) sM) (by simp;omega)
  simp only [List.length_nil,Nat.zero_add,List.nil_append] at hrun x1
  rw [lG]
  rw [lG,lG] at hrun
  go_in
  go_wp2_with (at_builtin;refine aX rfl _ _ _ rfl rfl rfl (hrun _) ?_)
  go_ret
  refine ⟨g',cap',rfl,x1,af.trans (S:=[]) (T:=[w.heap.size]) (mR.alloc _) (by simpa [lF] using x2) sM,λb hb=>?_⟩
  rcases x3 b hb with hb|hb
  ·simp [lF] at hb;omega
  ·simp at hb;omega
theorem BY
(x y:Int) (w:wW):Calls tp 328 #[vi iQ x,vi iQ y] w (ay (vi iQ (Lib.compareInt x y)) w):=by
 have hN:∀ (z:Int) (w:wW),Calls tp 344 #[vi iQ z] w (ay (vb fF) w):=by
  intro z w
  go_in
  go_wp2
  go_ret
  exact ay.of sM dz
 by_cases h1:x<y
 ·have hC:Lib.compareInt x y=-1:=pG h1
  rw [hC]
  clear hC
  go_in
  go_wp2_with (go_at_call 344;refine (hN _ _).r λk=>?_)
  go_ret
  exact ay.of (rfl) dz
 ·by_cases h2:y<x
  ·have hC:Lib.compareInt x y=1:=by unfold Lib.compareInt;rw [nG h1,pG h2]
   rw [hC]
   clear hC
   go_in
   go_wp2_with (go_at_call 344;refine (hN _ _).r λk=>?_)
   go_ret
   exact ay.of (rfl) dz
  ·have hC:Lib.compareInt x y=0:=by unfold Lib.compareInt;rw [nG h1,nG h2]
   rw [hC]
   clear hC
   go_in
   go_wp2_with (go_at_call 344;refine (hN _ _).r λk=>?_)
   go_ret
   exact ay.of (rfl) dz
theorem BX
(x y:Int) (w:wW):Calls tp 329 #[vi iQ x,vi iQ y] w (ay (vi iQ (Lib.compareInt x y)) w):=by
 have hN:∀ (z:Int) (w:wW),Calls tp 345 #[vi iQ z] w (ay (vb fF) w):=by
  intro z w
  go_in
  go_wp2
  go_ret
  exact ay.of sM dz
 by_cases h1:x<y
 ·have hC:Lib.compareInt x y=-1:=pG h1
  rw [hC]
  clear hC
  go_in
  go_wp2_with (go_at_call 345;refine (hN _ _).r λk=>?_)
  go_ret
  exact ay.of (rfl) dz
 ·by_cases h2:y<x
  ·have hC:Lib.compareInt x y=1:=by unfold Lib.compareInt;rw [nG h1,pG h2]
   rw [hC]
   clear hC
   go_in
   go_wp2_with (go_at_call 345;refine (hN _ _).r λk=>?_)
   go_ret
   exact ay.of (rfl) dz
  ·have hC:Lib.compareInt x y=0:=by unfold Lib.compareInt;rw [nG h1,nG h2]
   rw [hC]
   clear hC
   go_in
   go_wp2_with (go_at_call 345;refine (hN _ _).r λk=>?_)
   go_ret
   exact ay.of (rfl) dz
def MS (a b:Int):Int:=if a≠0 then a else b
theorem MH (b:Nat) (x y:Int) (w:wW) (h:w.heap[b]?=sS (.cells #[vi iQ x,vi iQ y] 3 (0,0))):Calls tp 327 #[.slice (sS ⟨b,0,nN⟩) 2 2] w (ay (vi iQ (MS x y)) w):=by
 have c0:w.cell? ⟨b,0,nN⟩=sS (vi iQ x):=ad h 0
 have c1:w.cell? ⟨b,1,nN⟩=sS (vi iQ y):=ad h 1
 clear h
 go_in
 go_wp2
 go_loopg [8] 2 (λgg i wr=>wr=w /\ ((i=vi iQ 0 /\ gg=2) \/ (i=vi iQ 1 /\ gg=1 /\ x=0) \/ (i=vi iQ 2 /\ gg=0 /\ x=0 /\ y=0)))
 case atStart=>simp
 case round=>
  obtain ⟨rfl,hrel⟩:=hrel
  rcases hrel with ⟨rfl,hg⟩|⟨rfl,hg,hx⟩|⟨rfl,hg,hx,hy⟩
  ·by_cases hx:x=0
   ·subst hx
    go_wp2
    go_roundg 1
    case measure=>omega
    case rel=>simp
   ·have hO:MS x y=x:=pG hx
    have HO:=zh hO
    clear hO
    go_wp2
    go_ret
    exact ay.of (by rw [HO.out];rfl) dz
  ·subst hx
   have hO:MS 0 y=y:=nG sM
   have HO:=zh hO
   clear hO
   by_cases hy:y=0
   ·subst hy
    go_wp2
    go_roundg 0
    case measure=>omega
    case rel=>simp
   ·go_wp2
    go_ret
    exact ay.of (by rw [HO.out];rfl) dz
  ·subst hx hy
   go_wp2
   go_ret
   exact ay.of (rfl) dz
/-- How a wheel compares two things: by their dues, then by their numbers. -/
def vX (s:SW) (x y:Int):Int:=MS (Lib.compareInt (aQ s x:Int) (aQ s y:Int)) (Lib.compareInt x y)
theorem jO {w:wW} {d mb:Nat} {G:Nat -> Option Nat × Nat} {s:SW} (h:az w d mb G s) (id:Int):
  (Instr.lookup 254 (.map (sS mb)) (vi iQ id) fF).run tp w=.ok (vi iQ (aQ s id)) w:=by
 have:=lD (P:=tp) h.map Tryz.underlying254 Tryz.underlying3 id (λw=>Tryz.zeroValue2 w)
 rw [nm] at this
 rw [this]
 unfold aQ
 cases aI s.dues id<;>rfl
section
variable {P:Program} {ops:Array Oper} {md:Region.Mode} {C:Array Bool -> wW -> Prop} {Q:Act -> Prop} {i:Nat} {o:Oper} {rest:List Oper} {a:Act}
theorem Hq {v:Value} (hw:Region.wanted o (yielded ops a.tmps)=tQ) (hr:∀ s w,s.getD i tQ=fF -> Ib md ops i s -> C s w -> ∃ w',(execOp a.eval o).run P w=.ok (.value v) w' /\ C (s.setIfInBounds i tQ) w') (h:bX P md ops C Q (i+1) rest (a.put o.dst v)):bX P md ops C Q i (o :: rest) a:=by
 unfold bX
 rw [pG hw]
 exact ⟨v,λs w hs hW hC=>by
  obtain ⟨w',e,hc⟩:=hr s w hs hW hC
  rw [e];exact ⟨rfl,hc⟩,h⟩
end
theorem CL (pb d mb:Nat) (G:Nat -> Option Nat × Nat) (s:SW) (x y:Int) (W:wW) (hp:W.cell? ⟨pb,0,nN⟩=sS (vp (sS ⟨d,0,nN⟩))) (h:az W d mb G s):
  Calls tp 326 #[vi iQ x,vi iQ y,vp (sS ⟨pb,0,nN⟩)] W (λe w'=>e=.returned (vi iQ (vX s x y)) /\ ∃ q os,w'=Sort.grow (W.drewN q) os):=by
 have cM:=h.cellMap
 have hlk:=λk id=>jO (h.same (w':=W.drewN k) rfl) id
 unfold vX
 generalize hc1:Lib.compareInt (aQ s x:Int) (aQ s y:Int)=c1 at *
 generalize hc2:Lib.compareInt x y=c2 at *
 have hA:∀ w,Calls tp 328 #[vi iQ (aQ s x),vi iQ (aQ s y)] w (ay (vi iQ c1) w):=λw=>by rw [<- hc1];exact BY _ _ w
 have hB:∀ w,Calls tp 329 #[vi iQ x,vi iQ y] w (ay (vi iQ c2) w):=λw=>by rw [<- hc2];exact BX _ _ w
 clear hc1 hc2
 clear hlk
 generalize hdx:(aQ s x)=dx at *
 generalize hdy:(aQ s y)=dy at *
 have hpl:=kD hp
 have hml:=kD cM
 go_in
 go_wp2_with fail
 obtain ⟨CC,hCC⟩:∃ CC:Array Bool -> wW -> Prop,CC=(λ(z:Array Bool) (u:wW)=>∃ n,u=if z.getD 16 tQ=tQ then (W.drewN n).alloc (.cells #[vi iQ c1,vi iQ c2] 3) else W.drewN n):=⟨_,rfl⟩
 refine cw kz kz CC (λz hz=>by rw [hCC];simp only;exact ⟨1,by rw [nG (by rw [hz 16 dE];decide)];rfl⟩) ?_
 have hm:∀ i,i≠16 -> dP CC i:=by
  intro i h16 z u _ hc
  rw [hCC] at hc ⊢
  simp only [jP _ h16]
  exact hc
 have hU:∀ z u,CC z u -> af [] W u:=by
  intro z u hc
  rw [hCC] at hc
  obtain ⟨n,hn⟩:=hc
  rw [hn]
  split
  ·exact (mR.drewN _).alloc _
  ·exact mR.drewN _
 have hload:∀ z u,CC z u -> u.cell? ⟨pb,0,nN⟩=sS (vp (sS ⟨d,0,nN⟩)) /\ u.cell? ⟨d,1,nN⟩=sS (.map (sS mb)) /\ (Instr.lookup 254 (.map (sS mb)) (vi iQ x) fF).run tp u=.ok (vi iQ dx) u /\ (Instr.lookup 254 (.map (sS mb)) (vi iQ y) fF).run tp u=.ok (vi iQ dy) u:=by
  intro z u hc
  have mu:=hU z u hc
  have hu:=h.keep mu sM
  exact ⟨mu.at hp sM,hu.cellMap,by rw [<- hdx];exact jO hu x,by rw [<- hdy];exact jO hu y⟩
 have hdr:∀ (n k:Nat) (z:Array Bool),(if z.getD 16 tQ=tQ then (W.drewN n).alloc (.cells #[vi iQ c1,vi iQ c2] 3) else W.drewN n).drewN k=if z.getD 16 tQ=tQ then (W.drewN (n+k)).alloc (.cells #[vi iQ c1,vi iQ c2] 3) else W.drewN (n+k):=by
  intro n k z
  split
  ·show ((W.drewN n).drewN k).alloc _=_
   rw [World.drewN_drewN]
  ·rw [World.drewN_drewN]
 have hcA:∀ z u,z.getD 12 tQ=fF -> CC z u -> Calls tp 328 #[vi iQ dx,vi iQ dy] u (λe u'=>e=.returned (vi iQ c1) /\ CC (z.setIfInBounds 12 tQ) u'):=by
  intro z u hz hc
  rw [hCC] at hc ⊢
  obtain ⟨n,hn⟩:=hc
  refine (hA u).r λk=>?_
  exact ⟨rfl,n+k,by rw [hn,hdr,jP _ dE]⟩
 have hcB:∀ z u,z.getD 15 tQ=fF -> CC z u -> Calls tp 329 #[vi iQ x,vi iQ y] u (λe u'=>e=.returned (vi iQ c2) /\ CC (z.setIfInBounds 15 tQ) u'):=by
  intro z u hz hc
  rw [hCC] at hc ⊢
  obtain ⟨n,hn⟩:=hc
  refine (hB u).r λk=>?_
  exact ⟨rfl,n+k,by rw [hn,hdr,jP _ dE]⟩
 have hcO:∀ z u,z.getD 16 tQ=tQ -> CC z u -> Calls tp 327 #[.slice (sS ⟨W.heap.size,0,nN⟩) 2 2] u (λe u'=>e=.returned (vi iQ (MS c1 c2)) /\ CC (z.setIfInBounds 17 tQ) u'):=by
  intro z u hz hc
  rw [hCC] at hc ⊢
  obtain ⟨n,hn⟩:=hc
  rw [pG hz] at hn
  subst hn
  refine (MH W.heap.size c1 c2 _ (ai (W.drewN n) _)).r λk=>?_
  refine ⟨rfl,n+k,?_⟩
  rw [jP _ dE,pG hz]
  show ((W.drewN n).drewN k).alloc _=_
  rw [World.drewN_drewN]
 iterate 12 (first|(refine aB (v:=?_) (by rfl) (λw=>?_) (hm _ dE) ?_;rotate_left;· (go_simp<;>with_reducible rfl))|(refine aC (v:=?_) (by rfl) (λs w hUp hC=>?_) (hm _ dE) ?_;rotate_left;· (have hl:=hload s w hC;go_split_ands;go_simp<;>with_reducible rfl))|(refine aA (by rfl) (hm _ dE) ?_));simp only [Act.put,sA,sB,sC,Nat.reduceAdd,Nat.zero_add]
 refine aO (by rfl) (λw=>?_) (λs u hs hUp hc=>hcA s u hs hc) ?_
 ·go_simp
 simp only [Act.put,sA,sB,sC,Nat.reduceAdd,Nat.zero_add]
 iterate 2 (first|(refine aB (v:=?_) (by rfl) (λw=>?_) (hm _ dE) ?_;rotate_left;· (go_simp<;>with_reducible rfl))|(refine aC (v:=?_) (by rfl) (λs w hUp hC=>?_) (hm _ dE) ?_;rotate_left;· (have hl:=hload s w hC;go_split_ands;go_simp<;>with_reducible rfl))|(refine aA (by rfl) (hm _ dE) ?_));simp only [Act.put,sA,sB,sC,Nat.reduceAdd,Nat.zero_add]
 refine aO (by rfl) (λw=>?_) (λs u hs hUp hc=>hcB s u hs hc) ?_
 ·go_simp
 simp only [Act.put,sA,sB,sC,Nat.reduceAdd,Nat.zero_add]
 refine Hq (v:=.slice (sS ⟨W.heap.size,0,nN⟩) 2 2) (by rfl) (λs u hs hUp hc=>?_) ?_
 ·rw [hCC] at hc ⊢
  obtain ⟨n,hn⟩:=hc
  rw [nG (by rw [hs];decide)] at hn
  subst hn
  refine ⟨(W.drewN n).alloc (.cells #[vi iQ c1,vi iQ c2] 3),?_,n,by rw [pG (rS _ _)]⟩
  go_simp
 simp only [Act.put,sA,sB,sC,Nat.reduceAdd,Nat.zero_add]
 refine aO (by rfl) (λw=>?_) (λs u hs hUp hc=>hcO s u (hUp 16 1 kz) hc) ?_
 ·go_simp
 simp only [Act.put,sA,sB,sC,Nat.reduceAdd,Nat.zero_add]
 iterate 1 (first|(refine aB (v:=?_) (by rfl) (λw=>?_) (hm _ dE) ?_;rotate_left;· (go_simp<;>with_reducible rfl))|(refine aC (v:=?_) (by rfl) (λs w hUp hC=>?_) (hm _ dE) ?_;rotate_left;· (have hl:=hload s w hC;go_split_ands;go_simp<;>with_reducible rfl))|(refine aA (by rfl) (hm _ dE) ?_));simp only [Act.put,sA,sB,sC,Nat.reduceAdd,Nat.zero_add]
 refine fY ?_
 intro z w5 hall hc
 rw [hCC] at hc
 obtain ⟨n,hn⟩:=hc
 rw [pG (hall 16 dE)] at hn
 subst hn
 clear hm hload hcA hcB hcO hCC hall CC hU hdr
 go_wp2
 go_ret
 exact ⟨rfl,n,#[.cells #[vi iQ c1,vi iQ c2] 3],alloc_eq_grow _ _⟩
end
section
open Go.RowKit Go.Sort
theorem gU {α:Type} [Inhabited α] (enc:α -> Value) (w:wW) (blk off m:Nat) (dk:Array α) (os:Array Obj):af [blk] w (sortWorld enc w blk off m dk os):=by
 refine ⟨rfl,rfl,rfl,?_,?_⟩
 ·show w.heap.size <= ((w.heap.modify blk _)++os).size
  simp
 ·intro k hk hS
  show ((w.heap.modify blk _)++os)[k]?=_
  rw [Array.getElem?_append_left (by simpa using hk),Array.getElem?_modify,nG (by simp at hS;omega)]
theorem Nf (s:SW) (x y:Int):Go.Proofs.ltOf (vX s) x y=decide (aQ s x<aQ s y \/ (aQ s x=aQ s y /\ x<y)):=by
 unfold Go.Proofs.ltOf vX MS Lib.compareInt
 by_cases h1:aQ s x<aQ s y
 ·have h1':((aQ s x:Nat):Int)<(aQ s y:Nat):=by omega
  rw [pG h1']
  simp [h1]
 ·have h1':¬ ((aQ s x:Nat):Int)<(aQ s y:Nat):=by omega
  rw [nG h1']
  by_cases h2:aQ s y<aQ s x
  ·have h2':((aQ s x:Nat):Int) > (aQ s y:Nat):=by omega
   rw [pG h2']
   have:¬ aQ s x=aQ s y:=by omega
   simp [h1,this]
  ·have h2':¬ ((aQ s x:Nat):Int) > (aQ s y:Nat):=by omega
   rw [nG h2']
   have:aQ s x=aQ s y:=by omega
   by_cases h3:x<y
   ·rw [pG h3];simp [this,h3]
   ·rw [nG h3]
    by_cases h4:x > y
    ·rw [pG h4];simp [h3,this]
    ·rw [nG h4];simp [h3,this]
theorem Kl (s:SW):SWO (Go.Proofs.ltOf (vX s)) where
 irrefl x:=by rw [Nf];simp
 trans x y z h1 h2:=by rw [Nf] at *;simp at *;omega
 ntrans x y z h1 h2:=by rw [Nf] at *;simp at *;omega
theorem DT (s:SW) (x y:Int) (h1:Go.Proofs.ltOf (vX s) x y=fF) (h2:Go.Proofs.ltOf (vX s) y x=fF):x=y:=by
 rw [Nf] at *;simp at *;omega
def dV (s:SW) (l:List Int):List Int:=l.mergeSort (λx y=>!(Go.Proofs.ltOf (vX s) y x))
theorem kq (s:SW) (l:List Int):(dV s l).length=l.length:=by simp [dV,List.length_mergeSort]
theorem zG (l:List Int) (j:Nat) (h:j<l.length):l.toArray[j]! = ax l j:=by
 rw [getElem!_pos _ j (by simpa using h)]
 simp [ax,List.getD,h]
theorem tY (d mb:Nat) (G:Nat -> Option Nat × Nat) (s:SW) (l:List Int) (blk cap pb:Nat) (w:wW) (h:az w d mb G s) (hL:fZ w (sS blk) cap l) (hb:blk∉aF d mb G) (hp:w.cell? ⟨pb,0,nN⟩=sS (vp (sS ⟨d,0,nN⟩))) (hpb:pb≠blk) (hlen:l.length<1000000):
  Calls tp 325 #[.slice (sS ⟨blk,0,nN⟩) l.length cap,.func (.func 326) #[] #[vp (sS ⟨pb,0,nN⟩)]] w
   (λe w'=>e=.returned (.tuple #[]) /\ af [blk] w w' /\ ∀ j,j<l.length -> w'.cell? ⟨blk,j,nN⟩=sS (vi iQ (ax (dV s l) j))):=by
 have eg:∀ args w,(callFunc 326 args).run tp w=.ok (.enter 326 args) w:=enters_of Tryz.func326 kz rfl
 have hH:Holds (vi iQ) w blk 0 l.toArray:=by
  intro j hj
  have hj':j<l.length:=by simpa using hj
  obtain ⟨b,e,hc⟩:=hL.cell hj'
  cases e
  obtain ⟨cur,hcur,_⟩:=hL
  rw [Nat.zero_add,zG l j hj']
  exact ⟨hc,aD hcur j⟩
 have hlt:blk<w.heap.size:=hL.lt blk (by simp [lF])
 have hcmp:CmpLays1 tp 326 #[vp (sS ⟨pb,0,nN⟩)] (vi iQ) (vX s) blk 0 l.toArray.size w:=by
  intro m os dk hs x y
  have mm:=gU (vi iQ) w blk 0 m dk os
  exact CL pb d mb G s x y _ (mm.at hp (by simpa using hpb)) (h.keep mm (λb hb'=>by simp;rintro rfl;exact hb hb'))
 have hcon:=Any.slices_SortFunc_total sortL (vi iQ) (λ_=>rfl) (vX s) (Kl s) 326 #[vp (sS ⟨pb,0,nN⟩)] blk 0 cap l.toArray w eg hcmp hH hlt (by simp;omega) (DT s)
 refine Calls.mono (show Calls tp 325 _ _ _ from hcon) ?_
 rintro e w' ⟨rfl,n,os,rfl⟩
 refine ⟨rfl,gU _ _ _ _ _ _ _,λj hj=>?_⟩
 have hsz:(dV s l).length=l.length:=kq s l
 have h1:=cell?_putRow (vi iQ) (Sort.ahead w n) blk 0 l.toArray (dV s l).toArray (holds_ahead _ _ _ _ _ _ hH) (by simp [hsz]) j (by simp [hsz];exact hj)
 rw [zG _ _ oM,Nat.zero_add] at h1
 rw [<- h1]
 unfold sortWorld
 exact cell?_grow _ _ _ (by simpa using hlt)
/-- What has been made since w. -/
def wc (w:wW) (a:Option Addr):Prop:=∀ b o,a=sS ⟨b,o,nN⟩ -> w.heap.size <= b
theorem wB (d mb:Nat) (G:Nat -> Option Nat × Nat) (s:SW) (l:List Int) (g:Option Nat) (cap pb:Nat) (w:wW) (h:az w d mb G s) (hL:fZ w g cap l) (hb:∀ b,b∈lF g -> b∉aF d mb G /\ b≠pb) (hp:w.cell? ⟨pb,0,nN⟩=sS (vp (sS ⟨d,0,nN⟩))) (hlen:l.length<1000000):
  Calls tp 325 #[.slice (lA g) l.length cap,.func (.func 326) #[] #[vp (sS ⟨pb,0,nN⟩)]] w
   (λe w'=>e=.returned (.tuple #[]) /\ af (lF g) w w' /\ bR w' (lA g) (dV s l)):=by
 by_cases hl:l=[]
 ·subst hl
  have hcon:=AnyF.slices_SortFunc_none (ρ:=sortL_ren) { sortL with } (lA g) cap (.func (.func 326) #[] #[vp (sS ⟨pb,0,nN⟩)]) w
  refine Calls.mono (show Calls tp 325 _ _ _ from hcon) ?_
  rintro e w' ⟨rfl,rfl⟩
  exact ⟨rfl,af.refl _ _,.inl (by simp [dV])⟩
 ·have h0:0<l.length:=List.length_pos_iff.2 hl
  obtain ⟨b,rfl,_⟩:=hL.cell h0
  have hbb:=hb b (by simp [lF])
  refine (tY d mb G s l b cap pb w h hL hbb.1 hp (Ne.symm hbb.2) hlen).mono ?_
  rintro e w' ⟨rfl,m,hc⟩
  refine ⟨rfl,m,.inr ⟨b,rfl,Nat.lt_of_lt_of_le (hL.lt b (by simp [lF])) m.size,λj hj=>hc j (by rwa [kq] at hj)⟩⟩
theorem kT (d mb:Nat) (G:Nat -> Option Nat × Nat) (s:SW) (g:Option Nat) (cap:Nat) (l:List Int) (w:wW) (h:az w d mb G s) (hL:fZ w g cap l) (hlen:l.length<1000000):
  Calls tp 292 #[vp (sS ⟨d,0,nN⟩),.slice (lA g) l.length cap] w (λe w'=>∃ a cap',e=.returned (.slice a l.length cap') /\ af [] w w' /\ bR w' a (dV s l) /\ wc w a):=by
 have mP:af [] w (w.alloc (.cells #[vp (sS ⟨d,0,nN⟩)] 173)):=mR.alloc _
 have hC:=yT g cap l _ (hL.keep mP sM) hlen
 have hwl:=h.lt
 have hp0:=ai w (.cells #[vp (sS ⟨d,0,nN⟩)] 173)
 go_in
 go_wp2_with (first
  | (
   go_at_call 160
   refine hC.mono ?_
   rintro e w2 ⟨g2,cap2,rfl,x2,m2,n2⟩
   )
  | (
   go_at_call 325
   have h2:=(h.keep mP sM).keep m2 sM
   have hp2:=m2.keep hp0 sM
   have n3:∀ b,b∈lF g2 -> w.heap.size+1 <= b:=λb hb=>by have:=n2 b hb;simpa using this
   have hS:=wB d mb G s l g2 cap2 w.heap.size w2 h2 x2 (λb hb=>⟨λhb'=>by have:=n3 b hb;have:=hwl b hb';omega,by have:=n3 b hb;omega⟩) (ad hp2 0) hlen
   refine hS.mono ?_
   rintro e w3 ⟨rfl,m3,x3⟩
   )
  )
 go_ret
 refine ⟨lA g2,cap2,rfl,(mP.trans m2 sM).trans m3 (λb hb=>?_),x3,λb o e=>?_⟩
 ·have:=n2 b hb
  simp at this
  right;omega
 ·cases g2 with
  | none=>simp [lA] at e
  | some g2=>
   simp [lA] at e
   have:=n2 b (by simp [lF,e.1])
   simp at this
   omega
/-- Due. -/
theorem Ff (d mb:Nat) (G:Nat -> Option Nat × Nat) (s:SW) (w:wW) (h:az w d mb G s) (hlen:(s.lists 168).length<1000000):
  Calls tp 243 #[vp (sS ⟨d,0,nN⟩)] w (λe w'=>∃ a cap',e=.returned (.slice a (s.lists 168).length cap') /\ af [] w w' /\ bR w' a (dV s (s.lists 168)) /\ wc w a):=by
 have cR:w.cell? ⟨d,170,nN⟩=sS (.slice (lA (G 168).1) (s.lists 168).length (G 168).2):=h.cellList (k:=168) oM
 have hS:=kT d mb G s _ _ _ w h (h.list 168 oM) hlen
 go_in
 go_wp2_with (go_at_call 292;refine hS.mono ?_;rintro e w2 ⟨a,cap',rfl,m2,x2,n2⟩)
 go_ret
 exact ⟨a,cap',rfl,m2,x2,n2⟩
end
/-- What Next tells. -/
def SW.firstL (s:SW):List Int:=dV s (s.lists s.firstK)
def SW.nextE (s:SW):Int:=if s.dues=[] then 12 else 0
def SW.nextV (s:SW):Nat:=if s.dues=[] then 0 else aQ s (ax s.firstL 0)
theorem yJ {w:wW} {d mb:Nat} {G:Nat -> Option Nat × Nat} {s:SW} (h:az w d mb G s):(Builtin.len_ #[254] 3 #[.map (sS mb)]).run tp w=.ok (vi iQ s.dues.length) w:=by
 obtain ⟨es,clk,hb,he⟩:=h.map
 have hlen:es.size=s.dues.length:=by have:=congrArg List.length he.eq;simpa [cC] using this
 rw [<- hlen]
 simp [Builtin.len_,getObj,Sem.run,hb]
 rfl
theorem Cm (d mb:Nat) (G:Nat -> Option Nat × Nat) (s:SW) (w:wW) (h:az w d mb G s) (hM:∀ k,(s.lists k).length<1000000) (hne:s.dues≠[] -> s.lists s.firstK≠[]):
  Calls tp 254 #[vp (sS ⟨d,0,nN⟩)] w (bG (.tuple #[vi iQ s.nextV,vi iQ s.nextE]) [] w λ_=>True):=by
 have cM:=h.cellMap
 have hl:=yJ h
 by_cases hd:s.dues=[]
 ·have hE:s.nextE=12:=pG hd
  have hV:s.nextV=0:=pG hd
  rw [hE,hV]
  have h0:s.dues.length=0:=by rw [hd];rfl
  rw [h0] at hl
  clear hE hV hd h0
  go_in
  go_wp2
  go_ret2
  exact bG.of rfl mR trivial
 ·have hE:s.nextE=0:=nG hd
  have hV:s.nextV=aQ s (ax s.firstL 0):=nG hd
  rw [hE,hV]
  have h0:0<s.dues.length:=List.length_pos_iff.2 hd
  have hfl:=hne hd
  have hk:=Hi s
  have hKl:=(h.list s.firstK hk)
  have hpos:0<(dV s (s.lists s.firstK)).length:=by rw [kq];exact List.length_pos_iff.2 hfl
  have hMk:=hM s.firstK
  have hln:0<(s.lists s.firstK).length:=List.length_pos_iff.2 hfl
  have hFst:=λw' hh=>zV d mb G s w' hh
  have hSrt:=λw' (hh:az w' d mb G s)=>kT d mb G s (G s.firstK).1 (G s.firstK).2 (s.lists s.firstK) w' hh (hh.list s.firstK hk) hMk
  unfold sn at hFst
  unfold SW.firstL
  have hdw:∃ v:Nat,aQ s (ax (dV s (s.lists s.firstK)) 0)=v:=⟨_,rfl⟩
  obtain ⟨v,hv⟩:=hdw
  rw [hv]
  have hlk:=λw' (hh:az w' d mb G s)=>jO hh (ax (dV s (s.lists s.firstK)) 0)
  rw [hv] at hlk
  have hne2:dV s (s.lists s.firstK)≠[]:=List.length_pos_iff.1 hpos
  clear hE hV hd hM hne hfl hKl hv
  generalize dV s (s.lists s.firstK)=sl at *
  generalize (s.lists s.firstK).length=ln at *
  generalize hid:ax sl 0=id at *
  have HID:=zh hid
  clear hid
  generalize (G s.firstK).1=gk1 at *
  generalize (G s.firstK).2=gk2 at *
  go_in
  go_wp2_with fail
  refine wp_region_held_drew (S:=λu=>u.cell? ⟨d,1,nN⟩=sS (.map (sS mb)) /\ az u d mb G s) kz ⟨cM,h.same rfl⟩ (λhHeld=>?_)
  refine wpAnyH_take (i:=0) (v:=?_) rfl kz kz kz (λ_ _ _ h=>h) (Or.inl ⟨by rfl,?_⟩) (by assumption) ?_
  rotate_left
  ·intro w hSw;(try dsimp only at hSw);(go_simp<;>with_reducible rfl)
  try simp only [Act.put,sA,sB,sC]
  refine wpAnyH_take (i:=1) (v:=?_) rfl kz kz kz (λ_ _ _ h=>h) (Or.inl ⟨by rfl,?_⟩) (by assumption) ?_
  rotate_left
  ·intro w hSw;(try dsimp only at hSw);(go_simp<;>with_reducible rfl)
  try simp only [Act.put,sA,sB,sC]
  refine wpAnyH_take (i:=2) (v:=?_) rfl kz kz kz (λ_ _ _ h=>h) (Or.inl ⟨by rfl,?_⟩) (by assumption) ?_
  rotate_left
  ·intro w hSw;(try dsimp only at hSw);(go_simp<;>with_reducible rfl)
  try simp only [Act.put,sA,sB,sC]
  refine wpAnyH_take (i:=3) (v:=?_) rfl kz kz kz (λ_ _ _ h=>h) (Or.inl ⟨by rfl,?_⟩) (by assumption) ?_
  rotate_left
  ·intro w hSw;(try dsimp only at hSw);(go_simp<;>with_reducible rfl)
  try simp only [Act.put,sA,sB,sC]
  refine wpAnyH_take (i:=4) (v:=?_) rfl kz kz kz (λ_ _ _ h=>h) (Or.inl ⟨by rfl,?_⟩) (by assumption) ?_
  rotate_left
  ·intro w hSw;(try dsimp only at hSw);(go_simp<;>with_reducible rfl)
  try simp only [Act.put,sA,sB,sC]
  refine wpAnyH_take (i:=5) (v:=?_) rfl kz kz kz (λ_ _ _ h=>h) (Or.inl ⟨by rfl,?_⟩) (by assumption) ?_
  rotate_left
  ·intro w hSw;(try dsimp only at hSw);(go_simp<;>with_reducible rfl)
  try simp only [Act.put,sA,sB,sC]
  refine wpAnyH_ready (rs:=[6]) kz sM ?_
  refine AllReadyH.cons rfl (λK hK=>?_) AllReadyH.nil
  go_simp
  refine (hFst _ (by exact h.same rfl)).mono ?_
  rintro e w6 ⟨rfl,m6,_⟩
  have hk6:w6.cell? ⟨d,1,nN⟩=sS (.map (sS mb)) /\ az w6 d mb G s:=⟨m6.undrew.at cM sM,h.keep m6.undrew sM⟩
  refine hK.out _ _ (hk6) (λhHeld=>?_)
  clear hK K
  try simp only [Act.put,sA,sB,sC]
  refine wpAnyH_ready (rs:=[7]) kz sM ?_
  refine AllReadyH.cons rfl (λK hK=>?_) AllReadyH.nil
  go_simp
  refine (hSrt _ (by exact hk6.2)).mono ?_
  rintro e w7 ⟨a7,cap7,rfl,m7,x7,_⟩
  have hk7:w7.cell? ⟨d,1,nN⟩=sS (.map (sS mb)) /\ az w7 d mb G s:=⟨m7.at hk6.1 sM,hk6.2.keep m7 sM⟩
  have hl7:=hlk w7 hk7.2
  obtain ⟨b7,rfl,hb7,hc7⟩:∃ b,a7=sS ⟨b,0,nN⟩ /\ b<w7.heap.size /\ ∀ j,j<sl.length -> w7.cell? ⟨b,j,nN⟩=sS (vi iQ (ax sl j)):=x7.resolve_left hne2
  have c7:=hc7 0 hpos
  rw [HID.out] at c7
  clear hc7 x7
  refine hK.out _ _ (hk7) (λhHeld=>?_)
  clear hK K
  try simp only [Act.put,sA,sB,sC]
  refine wpAnyH_ready (rs:=[8]) kz sM ?_
  refine AllReadyH.cons rfl (λK hK=>?_) AllReadyH.nil
  go_simp
  refine hK.out _ _ (hk7) (λhHeld=>?_)
  clear hK K
  try simp only [Act.put,sA,sB,sC]
  refine wpAnyH_ready (rs:=[9]) kz sM ?_
  refine AllReadyH.cons rfl (λK hK=>?_) AllReadyH.nil
  go_simp
  refine hK.out _ _ (hk7) (λhHeld=>?_)
  clear hK K
  try simp only [Act.put,sA,sB,sC]
  refine wpAnyH_ready (rs:=[10]) kz sM ?_
  refine AllReadyH.cons rfl (λK hK=>?_) AllReadyH.nil
  go_simp
  refine hK.out _ _ (hk7) (λhHeld=>?_)
  clear hK K
  try simp only [Act.put,sA,sB,sC]
  refine wpAnyH_ready (rs:=[11]) kz sM ?_
  refine AllReadyH.cons rfl (λK hK=>?_) AllReadyH.nil
  go_simp
  refine hK.out _ _ (hk7) (λhHeld=>?_)
  clear hK K
  try simp only [Act.put,sA,sB,sC]
  refine wpAnyH_ready (rs:=[12]) kz sM ?_
  refine AllReadyH.cons rfl (λK hK=>?_) AllReadyH.nil
  go_simp
  refine hK.out _ _ (hk7) (λhHeld=>?_)
  clear hK K
  try simp only [Act.put,sA,sB,sC]
  refine wpAnyH_done kz ?_ _
  go_wp2
  go_ret2
  refine bG.of rfl ?_ trivial
  exact (m6.undrew).trans m7 sM
section
open Go.RowKit Go.Maps Go.WideElems
theorem xV {α β γ:Type} (f:α -> γ) (g:β -> γ):∀ (l:List α) (m:List β),l.map f=m.map g -> ∀ {δ:Type} (h:γ -> δ),l.map (λx=>h (f x))=m.map (λy=>h (g y)):=by
 intro l m he δ h
 have:=congrArg (List.map h) he
 simpa [List.map_map,Function.comp_def] using this
def Cc:Value -> Option (DataW Unit × List MemPlace):=λ_=>sS (.nil,[])
theorem Gc {w:wW} {b:Nat} {l:List (Int × Nat)} (h:bV .i64 w b (cC l)) (hwf:∀ p,p∈l -> (Lit.int .i64 p.1).wf=tQ) (hsz:l.length <= maxLen):
  ∃ D0:DataW Unit,w.ownsMap tp 3 Cc b l.length D0 /\ (Go.intKeys D0).Perm (l.map (·.1)) /\ Maps.size D0=l.length:=by
 obtain ⟨es,clk,hb,he⟩:=h
 have hlen:es.size=l.length:=by have:=congrArg List.length he.eq;simpa [cC] using this
 have heq:es.toList.map (λe=>(e.key,e.val))=l.map (λp=>(vi iQ p.1,vi iQ (p.2:Nat))):=by
  rw [he.eq];simp [cC,List.map_map,Function.comp_def]
 have hkeys:es.toList.map (·.key)=l.map (λp=>vi iQ p.1):=xV _ _ _ _ heq (λq=>q.1)
 have hrd:∀ x,x∈es.toList -> ∃ p,p∈l /\ x.key=vi iQ p.1:=by
  intro x hx
  have:x.key∈es.toList.map (·.key):=List.mem_map.2 ⟨x,hx,rfl⟩
  rw [hkeys] at this
  obtain ⟨p,hp,e⟩:=List.mem_map.1 this
  exact ⟨p,hp,e.symm⟩
 have hr:∀ x,x∈es.toList -> ∃ p,p∈l /\ x.key=vi iQ p.1 /\ rd tp 3 Cc x=sS (.int .i64 p.1,.nil):=by
  intro x hx
  obtain ⟨p,hp,e⟩:=hrd x hx
  refine ⟨p,hp,e,?_⟩
  unfold rd
  rw [e,keyOf_int_mk Tryz.underlying3 (hwf p hp)]
  rfl
 refine ⟨.map ((es.toList.map (rg tp 3 Cc)).foldr DataW.insert []),⟨es,clk,hb,⟨by omega,⟨he.lt,he.born,?_⟩,?_⟩,by omega,rfl⟩,?_,?_⟩
 ·rw [hkeys]
  have hn:(l.map (·.1)).Nodup:=by have:=he.nodup;simpa [cC,List.map_map,Function.comp_def] using this
  have e2:l.map (λp=>vi iQ p.1)=(l.map (·.1)).map (vi iQ):=by simp [List.map_map,Function.comp_def]
  rw [e2]
  exact List.Pairwise.map _ (λa b hab h=>hab (by simpa using h)) hn
 ·intro x hx
  obtain ⟨p,_,_,h2⟩:=hr x hx
  exact ⟨_,h2⟩
 ·have hp:=Go.WideShapes.sorted_perm (es.toList.map (rg tp 3 Cc))
  have h1:(Go.intKeys (DataW.map ((es.toList.map (rg tp 3 Cc)).foldr DataW.insert []))).Perm ((es.toList.map (rg tp 3 Cc)).map (λp=>Go.intOf p.1)):=hp.map _
  refine h1.trans ?_
  rw [List.map_map]
  have h2:es.toList.map ((λp=>Go.intOf p.1) ∘ rg tp 3 Cc)=es.toList.map (λx=>match x.key with|.int _ a=>a|_=>0):=by
   apply List.map_congr_left
   intro x hx
   obtain ⟨p,_,h3,h4⟩:=hr x hx
   simp only [Function.comp_def,rg,h4,h3]
   rfl
  rw [h2]
  have h3:es.toList.map (λx=>match x.key with|.int _ a=>a|_=>0)=l.map (·.1):=by
   have:=xV _ _ _ _ heq (λq:Value × Value=>match q.1 with|.int _ a=>a|_=>0)
   simpa using this
  rw [h3]
 ·show ((es.toList.map (rg tp 3 Cc)).foldr DataW.insert []).length=l.length
  rw [length_sorted];simp [hlen]
end
section
open Go.RowKit Go.Maps
def Kz (s:SW) (x y:Int):Bool:=!(Go.Proofs.ltOf (vX s) y x)
theorem pD (s:SW) (x y:Int):Kz s x y=tQ↔(aQ s x<aQ s y \/ (aQ s x=aQ s y /\ x <= y)):=by
 unfold Kz
 rw [Nf]
 simp
 omega
theorem fL (s:SW) (l:List Int):(dV s l).Pairwise (λx y=>Kz s x y=tQ):=by
 have h:=List.pairwise_mergeSort (le:=Kz s) (λa b c h1 h2=>by rw [pD] at *;omega) (λa b=>by
  by_cases h:Kz s a b=tQ
  ·simp [h]
  ·have:Kz s b a=tQ:=by rw [pD] at *;omega
   simp [this]) l
 exact h
theorem gu (s:SW) (l:List Int):(dV s l).Perm l:=List.mergeSort_perm _ _
theorem jU (s:SW):∀ {l m:List Int},l.Perm m -> l.Pairwise (λx y=>Kz s x y=tQ) -> m.Pairwise (λx y=>Kz s x y=tQ) -> l=m:=by
 intro l m hp h1 h2
 exact hp.eq_of_pairwise (λa b _ _ h1 h2=>by rw [pD] at *;omega) h1 h2
theorem IB (s:SW) {l m:List Int} (h:l.Perm m):dV s l=dV s m:=
 jU s (((gu s l).trans h).trans (gu s m).symm) (fL s l) (fL s m)
theorem Bj {w:wW} {B:Nat} {v:Value} {l:List Int} (h:w.ownsRow B 3 1 v l.length (l.map (vi iQ))):∃ g cap,v=.slice (lA g) l.length cap /\ fZ w g cap l /\ ∀ b,b∈lF g -> B <= b:=by
 rcases h.2 with ⟨hv,h0⟩|⟨g,cap,cur,hv,hB,q1,q2,q3,q4,q5⟩
 ·have e:l=[]:=List.eq_nil_of_length_eq_zero h0
  subst e
  exact ⟨nN,0,hv,⟨rfl,rfl⟩,by simp [lF]⟩
 ·refine ⟨sS g,cap,hv,⟨cur,q1,q2,q3,by omega,by rw [Nat.mul_one] at q5;exact q5⟩,λb hb=>?_⟩
  simp [lF] at hb
  omega
theorem wz (mb:Nat) (l:List (Int × Nat)) (w:wW) (h:bV .i64 w mb (cC l)) (hwf:∀ p,p∈l -> (Lit.int .i64 p.1).wf=tQ) (hsz:l.length <= 1000000) (Bm:Nat) (hBm:Bm<w.heap.size) (hc:w.cell? ⟨Bm,0,nN⟩=sS (.map (sS mb))):
  Calls tp 360 #[.func (.func 368) #[] #[vp (sS ⟨Bm,0,nN⟩)]] w (λe w'=>∃ g cap ss,e=.returned (.slice (lA g) ss.length cap) /\ ss.Perm (l.map (·.1)) /\ fZ w' g cap ss /\ af [] w w'):=by
 obtain ⟨D0,hown,hperm,hsize⟩:=Gc h hwf (by unfold maxLen;omega)
 have hseq:SeqGives Fence.wide 3 tp 368 #[vp (sS ⟨Bm,0,nN⟩)] encZ (λss=>ss.Perm (intKeys D0)) (Maps.size D0) w:=
  AnyZI.keys_gives (ρ:=keysL_ren) { keysL with } Fence.wide 3 trivial rfl oM Bm mb _ D0 w hBm hc hown
 have hcon:=AnyZI.collect_in collectL Fence.wide 5 trivial trivial rfl oM 368 #[vp (sS ⟨Bm,0,nN⟩)] trivial (enters_of Tryz.func368 kz rfl) (λss=>ss.Perm (intKeys D0)) (Maps.size D0) (by rw [hsize];unfold maxLen;omega) (by rw [hsize];omega) w hseq
 refine Calls.mono (show Calls tp 360 _ _ _ from callsIn_wide.1 hcon) ?_
 rintro e w' ⟨v,ss,rfl,hp,hr,_,hb⟩
 obtain ⟨g,cap,rfl,hL,_⟩:=Bj hr
 exact ⟨g,cap,ss,rfl,hp.trans hperm,hL,Go.Proofs.YtaakgpnmfkmdoaaGreatDoor.Below.mod hb (Nat.le_refl _)⟩
theorem Cn (d mb:Nat) (G:Nat -> Option Nat × Nat) (s:SW) (w:wW) (h:az w d mb G s) (hwf:∀ p,p∈s.dues -> (Lit.int .i64 p.1).wf=tQ) (hlen:s.dues.length<1000000):
  Calls tp 348 #[vp (sS ⟨d,0,nN⟩)] w (λe w'=>∃ a cap',e=.returned (.slice a s.dues.length cap') /\ af [] w w' /\ bR w' a (dV s (s.dues.map (·.1))) /\ wc w a):=by
 have cM:=h.cellMap
 have mK:af [] w (w.alloc (.cells #[.map (sS mb)] 254)):=mR.alloc _
 have hK:∀ W,Calls tp 361 #[.map (sS mb)] W (λe w'=>e=.returned (.func (.func 368) #[] #[vp (sS ⟨W.heap.size,0,nN⟩)]) /\ w'=W.alloc (.cells #[.map (sS mb)] 254)):=
  λW=>callsIn_wide.1 (AnyZI.keys_in keysL Fence.wide 5 trivial rfl (sS mb) W)
 have hC:=wz mb s.dues _ (h.map.keep mK sM) hwf oM w.heap.size sM (ad (ai w _) 0)
 go_in
 go_wp2_with (first
  | (
   go_at_call 361
   refine (hK _).mono ?_;rintro e w1 ⟨rfl,rfl⟩
   )
  | (
   go_at_call 360
   refine hC.mono ?_
   rintro e w2 ⟨g2,cap2,ss,rfl,hp,x2,m2⟩
   have h2:=(h.keep mK sM).keep m2 sM
   have hl2:ss.length=s.dues.length:=by rw [hp.length_eq];simp
   have hS:=kT d mb G s g2 cap2 ss w2 h2 x2 oM
   rw [hl2] at hS ⊢
   )
  | (
   go_at_call 292
   refine hS.mono ?_
   rintro e w3 ⟨a,cap',rfl,m3,x3,n3⟩
   )
  )
 go_ret
 refine ⟨a,cap',rfl,(mK.trans m2 sM).trans m3 sM,?_,λb o e=>?_⟩
 ·rw [<- IB s hp]
  exact x3
 ·have:=n3 b o e
  have h5:=(mK.trans m2 (by simp:∀ k,k∈[] -> k∈[] \/ w.heap.size <= k)).size
  omega
end
theorem bR.same {w w':wW} {a:Option Addr} {l:List Int} (h:bR w a l) (e:w'.heap=w.heap):bR w' a l:=by
 rcases h with h|⟨b,h1,h2,h3⟩
 ·exact .inl h
 ·refine .inr ⟨b,h1,by rw [e];exact h2,λj hj=>?_⟩
  rw [<- h3 j hj]
  unfold World.cell?
  rw [e]
theorem bR.keep {S:List Nat} {w w':wW} {a:Option Addr} {l:List Int} (h:bR w a l) (m:af S w w') (hS:∀ b o,a=sS ⟨b,o,nN⟩ -> b∉S):bR w' a l:=by
 rcases h with h|⟨b,h1,h2,h3⟩
 ·exact .inl h
 ·exact .inr ⟨b,h1,Nat.lt_of_lt_of_le h2 m.size,λj hj=>m.at (h3 j hj) (hS b 0 h1)⟩
theorem JO {w:wW} {n:Nat} {o:Obj} (h:w.heap.size=n):(w.alloc o).heap[n]?=sS o:=by
 subst h;exact ai _ _
def Cj (t:Nat):SW:={ now:=t,dues:=[],lists:=λ_=>[] }
theorem ES:Tryz.zeroCells258=#[vi iQ 0,.map nN]++Array.replicate 169 (.slice nN 0 0):=by kernel_rfl
theorem Fc (t:Nat) (ht:bh t) (w:wW):Calls tp 93 #[vi iQ t] w (λe w'=>∃ d mb,e=.returned (.tuple #[vp (sS ⟨d,0,nN⟩),vi iQ 0]) /\ af [] w w' /\ az w' d mb (λ_=>(nN,0)) (Cj t) /\ w.heap.size <= d /\ w.heap.size <= mb):=by
 have h2:=decide_eq_true ht
 have hmk:=λw=>run_makeMap (P:=tp) 254 w
 have hz:=Tryz.zeroValue258
 clear ht
 go_in
 go_wp2_with (go_at_call 162;refine (dU _ _).r λk1=>?_)
 have hsz:Tryz.zeroCells258.size=171:=by kernel_rfl
 go_ret2
 refine ⟨w.heap.size+1,w.heap.size,rfl,(mR.drewN _ |>.alloc _).alloc _,⟨⟨_,JO sM,by simp [hsz],?_,?_,?_⟩,(bV.new .i64 (w.drewN k1)).keep ((af.refl [] _).alloc _) sM,λk hk=>⟨rfl,rfl⟩,by simp,λk hk b hb=>by simp [lF] at hb,λj k _ _ _ b hb=>by simp [lF] at hb⟩,by omega,by omega⟩
 ·rw [Array.getElem?_setIfInBounds_ne oM,Array.getElem?_setIfInBounds_self_of_lt oM]
  try rfl
 ·rw [Array.getElem?_setIfInBounds_self_of_lt (by simp [hsz])]
 ·intro k hk
  rw [Array.getElem?_setIfInBounds_ne oM,Array.getElem?_setIfInBounds_ne oM,ES]
  rw [Array.getElem?_append_right sM]
  show (Array.replicate 169 (Value.slice nN 0 0))[2+k - 2]?=_
  rw [show 2+k - 2=k by omega]
  rw [Array.getElem?_eq_getElem (by simp;omega)]
  simp [lA,Cj]
theorem Mi {t:Nat} (h:bh t):(Cj t).ok:=⟨by have:=h.2;show t <= _;omega,by simp [Cj]⟩
theorem SW.ok.add {s:SW} (h:s.ok) (id due:Int):(s.add id due).ok:=by
 unfold SW.add
 split
 ·rename_i he
  refine (h.setDue id ?_).put id
  unfold SW.addE at he
  by_cases hr:bh due
  ·have:=hr.1;have:=hr.2;omega
  ·rw [pG hr] at he;omega
 ·exact h
theorem SW.ok.go {s:SW} (h:s.ok) (t:Int):(s.go t).ok:=by
 unfold SW.go
 split
 ·exact h
 ·rename_i hn
  split
  ·exact h
  ·have hr:bh t:=by
    by_cases hr:bh t
    ·exact hr
    ·exact absurd (.inr hr) hn
   refine SW.ok.puts ⟨?_,λp hp=>?_⟩ _
   ·show t.toNat <= _;have:=hr.2;omega
   ·refine h.due p ?_
    have hp':p∈((s.goN (bf t.toNat s.now)).2.leaveN (bf t.toNat s.now) (gP t.toNat (bf t.toNat s.now)+1)).dues:=hp
    rwa [dZ,kJ] at hp'
theorem oo {α:Type} (p a b:α -> Bool):∀ (l:List α),(∀ x,x∈l -> p x=(a x||b x)) -> (∀ x,x∈l -> ¬ (a x=tQ /\ b x=tQ)) -> (l.filter p).Perm (l.filter a++l.filter b)
 | [],_,_=>List.Perm.refl _
 | x :: l,h1,h2=>by
  have ih:=oo p a b l (λy hy=>h1 y (List.mem_cons_of_mem _ hy)) (λy hy=>h2 y (List.mem_cons_of_mem _ hy))
  have e1:=h1 x List.mem_cons_self
  have e2:=h2 x List.mem_cons_self
  cases ha:a x
  ·cases hb:b x
   ·rw [List.filter_cons_of_neg (by simp [e1,ha,hb]),List.filter_cons_of_neg (by simp [ha]),List.filter_cons_of_neg (by simp [hb])]
    exact ih
   ·rw [List.filter_cons_of_pos (by simp [e1,ha,hb]),List.filter_cons_of_neg (by simp [ha]),List.filter_cons_of_pos (by simp [hb])]
    exact (ih.cons x).trans List.perm_middle.symm
  ·have hb:b x=fF:=by
    cases hb:b x
    ·rfl
    ·exact absurd ⟨ha,hb⟩ e2
   rw [List.filter_cons_of_pos (by simp [e1,ha]),List.filter_cons_of_pos (by simp [ha]),List.filter_cons_of_neg (by simp [hb])]
   exact ih.cons x
theorem qp:∀ {m:List (Int × Nat)} {i:Int} {v:Nat} (j:Nat),(m.map (·.1)).Nodup -> (i,v)∈m -> ∃ n,dj m i j=sS (n,v)
 | p :: m,i,v,j,hn,hm=>by
  unfold dj
  rcases List.mem_cons.1 hm with rfl|hm
  ·exact ⟨j,pG rfl⟩
  ·have hn':=List.nodup_cons.1 (show (p.1 :: m.map (·.1)).Nodup from hn)
   have hne:i≠p.1:=by
    rintro rfl
    exact hn'.1 (List.mem_map.2 ⟨_,hm,rfl⟩)
   rw [nG hne]
   exact qp (j+1) hn'.2 hm
theorem cV {m:List (Int × Nat)} {i:Int} {v:Nat} (hn:(m.map (·.1)).Nodup) (hm:(i,v)∈m):aI m i=sS v:=by
 obtain ⟨n,h⟩:=qp 0 hn hm
 unfold aI
 rw [h];rfl
theorem lM:∀ {m:List (Int × Nat)} {i:Int} {j:Nat},dj m i j=nN -> i∉m.map (·.1)
 | [],i,j,_=>by simp
 | p :: m,i,j,h=>by
  unfold dj at h
  split at h
  ·cases h
  ·rename_i hne
   have:=lM h
   simp only [List.map_cons,List.mem_cons,not_or]
   exact ⟨hne,this⟩
theorem kL {m:List (Int × Nat)} {i:Int} (h:aI m i=nN):dj m i 0=none:=by
 unfold aI at h
 simpa using h
structure SW.Inv (s:SW):Prop where
 ok:s.ok
 nodup:(s.dues.map (·.1)).Nodup
 wf:∀ p,p∈s.dues -> (Lit.int .i64 p.1).wf=tQ
 part:∀ k,(s.lists k).Perm ((s.dues.filter (λp=>decide (aU s.now p.2=k))).map (·.1))
theorem SW.Inv.due {s:SW} (h:s.Inv) {p:Int × Nat} (hp:p∈s.dues):aQ s p.1=p.2:=by
 unfold aQ
 rw [cV (v:=p.2) h.nodup hp];rfl
theorem KJ {t:Nat} (h:bh t):(Cj t).Inv:=⟨Mi h,by simp [Cj],by simp [Cj],λk=>by simp [Cj]⟩
theorem SW.Inv.len {s:SW} (h:s.Inv) (k:Nat):(s.lists k).length <= s.dues.length:=by
 rw [(h.part k).length_eq,List.length_map]
 exact List.length_filter_le _ _
theorem CS (ids:List Int):∀ (s:SW) (k:Nat),(s.puts ids).lists k=s.lists k++ids.filter (λid=>decide (aU s.now (aQ s id)=k)):=by
 induction ids with
 | nil=>intro s k;simp [SW.puts]
 | cons a l ih=>
  intro s k
  have h1:=ih (s.put a) k
  have e:(s.puts (a :: l))=(s.put a).puts l:=rfl
  rw [e,h1]
  have e2:∀ id,aQ (s.put a) id=aQ s id:=λid=>rfl
  have e3:(s.put a).now=s.now:=rfl
  simp only [e2,e3]
  by_cases hk:aU s.now (aQ s a)=k
  ·rw [List.filter_cons_of_pos (by simpa using hk)]
   have:(s.put a).lists k=s.lists k++[a]:=by
    show ir s.lists (aU s.now (aQ s a)) _ k=_
    rw [hk,aN]
   rw [this,List.append_assoc];rfl
  ·rw [List.filter_cons_of_neg (by simpa using hk)]
   have:(s.put a).lists k=s.lists k:=bg _ _ (λh=>hk h.symm)
   rw [this]
theorem SW.Inv.add {s:SW} (h:s.Inv) {id:Int} (hid:(Lit.int .i64 id).wf=tQ) (due:Int):(s.add id due).Inv:=by
 unfold SW.add
 by_cases he:s.addE id due=0
 case neg=>rw [nG he];exact h
 rw [pG he]
 have hr:bh due:=by
  unfold SW.addE at he
  by_cases hr:bh due
  ·exact hr
  ·rw [pG hr] at he;omega
 have hg:aI s.dues id=none:=by
  unfold SW.addE at he
  rw [nG (by simpa using hr)] at he
  cases hg:aI s.dues id with
  | none=>rfl
  | some v=>rw [hg] at he;simp at he
 have hni:=lM (kL hg)
 have hput:iy s.dues id due.toNat=s.dues++[(id,due.toNat)]:=by unfold iy;rw [kL hg]
 have hnd:((s.dues++[(id,due.toNat)]).map (·.1)).Nodup:=by
  rw [List.map_append]
  refine List.nodup_append.2 ⟨h.nodup,by simp,?_⟩
  intro a ha b hb hab
  simp at hb
  subst hb hab
  exact hni ha
 have hdu:aQ (s.setDue id due.toNat) id=due.toNat:=by
  unfold aQ
  have:aI (s.setDue id due.toNat).dues id=sS due.toNat:=by
   show aI (iy s.dues id due.toNat) id=_
   rw [hput]
   exact cV hnd sM
  rw [this];rfl
 refine ⟨(h.ok.setDue id (by have:=hr.1;have:=hr.2;omega)).put id,?_,?_,?_⟩
 ·show ((iy s.dues id due.toNat).map (·.1)).Nodup
  rw [hput];exact hnd
 ·intro p hp
  have hp':p∈iy s.dues id due.toNat:=hp
  rw [hput] at hp'
  rcases List.mem_append.1 hp' with hp'|hp'
  ·exact h.wf p hp'
  ·simp at hp';subst hp';exact hid
 ·intro k
  show (ir s.lists (aU s.now (aQ (s.setDue id due.toNat) id)) (s.lists (aU s.now (aQ (s.setDue id due.toNat) id))++[id]) k).Perm (((iy s.dues id due.toNat).filter (λp=>decide (aU s.now p.2=k))).map (·.1))
  rw [hdu,hput,List.filter_append,List.map_append]
  by_cases hk:k=aU s.now due.toNat
  ·subst hk
   rw [aN]
   have e:(([(id,due.toNat)]:List (Int × Nat)).filter (λp=>decide (aU s.now p.2=aU s.now due.toNat))).map (·.1)=[id]:=by simp
   rw [e]
   exact (h.part _).append_right _
  ·rw [bg _ _ hk]
   have e:(([(id,due.toNat)]:List (Int × Nat)).filter (λp=>decide (aU s.now p.2=k))).map (·.1)=[]:=by
    simp [Ne.symm hk]
   rw [e,List.append_nil]
   exact h.part k
theorem uw (lv n:Nat) (f:Nat -> List Int):(List.range (lv * 8+(n+1))).flatMap f=(List.range (lv * 8+n)).flatMap f++f (lv * 8+n):=by
 rw [<- Nat.add_assoc,List.range_succ,List.flatMap_append]
 simp
theorem ud (s:SW) (lv:Nat):∀ n,(List.range (lv * 8+n)).flatMap s.lists=(List.range (lv * 8)).flatMap s.lists++s.tookN lv n
 | 0=>by simp [SW.tookN]
 | n+1=>by rw [uw,ud s lv n,SW.tookN,List.append_assoc]
theorem nx (s:SW):∀ n k,(s.goN n).2.lists k=if k<n * 8 then [] else s.lists k
 | 0,k=>by rw [nG oM];rfl
 | n+1,k=>by
  show ((s.goN n).2.leaveN n 8).lists k=_
  rw [fT,nx s n k]
  by_cases h1:n * 8 <= k /\ k<n * 8+8
  ·rw [pG h1,pG oM]
  ·rw [nG h1]
   by_cases h2:k<n * 8
   ·rw [pG h2,pG oM]
   ·rw [nG h2,nG oM]
theorem mi {s s':SW} {lv:Nat}:∀ n,(∀ i,i<n -> s.lists (lv * 8+i)=s'.lists (lv * 8+i)) -> s.tookN lv n=s'.tookN lv n
 | 0,_=>rfl
 | n+1,h=>by
  show s.tookN lv n++_=s'.tookN lv n++_
  rw [mi n (λi hi=>h i oM),h n oM]
theorem JV (s:SW):∀ n,(s.goN n).1=(List.range (n * 8)).flatMap s.lists
 | 0=>rfl
 | n+1=>by
  show (s.goN n).1++(s.goN n).2.tookN n 8=_
  rw [JV s n,mi (s':=s) 8 (λi hi=>by rw [nx,nG oM]),show (n+1) * 8=n * 8+8 by omega,ud]
/-- The first slot that a Go to t leaves. -/
def Ct (s:SW) (t:Nat):Nat:=bf t s.now * 8+(gP t (bf t s.now)+1)
theorem LJ (s:SW) (t:Nat):s.gone t=(List.range (Ct s t)).flatMap s.lists:=by
 unfold SW.gone Ct
 rw [JV,mi (s':=s) _ (λi hi=>by
  have:=iK t (bf t s.now)
  rw [nx,nG oM]),ud]
theorem Dz (s:SW) (t k:Nat):(s.left t).lists k=if k<Ct s t then [] else s.lists k:=by
 have e:(s.left t).lists=((s.goN (bf t s.now)).2.leaveN (bf t s.now) (gP t (bf t s.now)+1)).lists:=rfl
 rw [e,fT,nx]
 unfold Ct
 by_cases h1:bf t s.now * 8 <= k /\ k<bf t s.now * 8+(gP t (bf t s.now)+1)
 ·rw [pG h1,pG oM]
 ·rw [nG h1]
  by_cases h2:k<bf t s.now * 8
  ·rw [pG h2,pG oM]
  ·rw [nG h2,nG oM]
theorem yr (s:SW) (h:s.Inv):∀ T,((List.range T).flatMap s.lists).Perm ((s.dues.filter (λp=>decide (aU s.now p.2<T))).map (·.1))
 | 0=>by simp
 | T+1=>by
  rw [List.range_succ,List.flatMap_append]
  have ih:=yr s h T
  have h1:=oo (λp:Int × Nat=>decide (aU s.now p.2<T+1)) (λp=>decide (aU s.now p.2<T)) (λp=>decide (aU s.now p.2=T)) s.dues (λp _=>by
   by_cases a:aU s.now p.2<T
   ·have:aU s.now p.2<T+1:=by omega
    simp [a,this]
   ·by_cases b:aU s.now p.2=T
    ·simp [b]
    ·have:¬ aU s.now p.2<T+1:=by omega
     simp [a,b,this]) (λp _=>by simp;omega)
  refine List.Perm.trans ?_ (h1.map (·.1)).symm
  rw [List.map_append]
  have e:List.flatMap s.lists [T]=s.lists T:=by simp
  rw [e]
  exact ih.append (h.part T)
theorem vQ {s:SW} (h:s.Inv) (f:Nat -> Bool):∀ (l:List (Int × Nat)),(∀ p,p∈l -> p∈s.dues) -> (l.map (·.1)).filter (λid=>f (aQ s id))=(l.filter (λp=>f p.2)).map (·.1)
 | [],_=>rfl
 | p :: l,hl=>by
  have ih:=vQ h f l (λq hq=>hl q (List.mem_cons_of_mem _ hq))
  have e:=h.due (hl p List.mem_cons_self)
  rw [List.map_cons]
  by_cases hf:f p.2=tQ
  ·simp [List.filter_cons,e,hf,ih]
  ·simp [List.filter_cons,e,hf,ih]
theorem Ei {s:SW} (h:s.Inv) {t:Nat} (hn:s.now<t) (ht:t <= 1152921504606846976) {p:Int × Nat} (hp:p∈s.dues) (hk:¬ aU s.now p.2<Ct s t):aU t p.2=aU s.now p.2:=by
 by_cases hd:p.2 <= s.now
 ·have e1:aU s.now p.2=168:=pG hd
  have e2:aU t p.2=168:=pG oM
  rw [e1,e2]
 ·refine DG hn oM ht (h.ok.due p hp) ?_
  intro hc
  apply hk
  have e:aU s.now p.2=bf p.2 s.now * 8+gP p.2 (bf p.2 s.now):=nG hd
  rw [e]
  unfold Ct
  have d1:=iK p.2 (bf p.2 s.now)
  rcases hc with hc|⟨hc1,hc2⟩
  ·omega
  ·rw [hc1] at hc2 d1 ⊢
   omega
theorem SW.Inv.goTo {s:SW} (h:s.Inv) {t:Nat} (hn:s.now<t) (ht:t <= 1152921504606846976):(s.goTo t).Inv:=by
 have hdues:(s.goTo t).dues=s.dues:=by
  unfold SW.goTo
  rw [nk]
  have e:(s.left t).dues=((s.goN (bf t s.now)).2.leaveN (bf t s.now) (gP t (bf t s.now)+1)).dues:=rfl
  rw [e]
  rw [dZ,kJ]
 have hnow:(s.goTo t).now=t:=by
  unfold SW.goTo
  rw [oX];rfl
 have hleft:(s.left t).dues=s.dues:=by
  have e:(s.left t).dues=((s.goN (bf t s.now)).2.leaveN (bf t s.now) (gP t (bf t s.now)+1)).dues:=rfl
  rw [e]
  rw [dZ,kJ]
 refine ⟨⟨by rw [hnow];exact ht,by rw [hdues];exact h.ok.due⟩,by rw [hdues];exact h.nodup,by rw [hdues];exact h.wf,λk=>?_⟩
 rw [hdues,hnow]
 unfold SW.goTo
 rw [CS,Dz]
 have e1:(s.left t).now=t:=rfl
 have e2:∀ id,aQ (s.left t) id=aQ s id:=λid=>by unfold aQ;rw [hleft]
 simp only [e1,e2]
 rw [LJ]
 have hflat:=(yr s h (Ct s t)).filter (λid=>decide (aU t (aQ s id)=k))
 rw [vQ h (λv=>decide (aU t v=k)) _ (λp hp=>(List.mem_filter.1 hp).1),List.filter_filter] at hflat
 have hs:=oo (λp:Int × Nat=>decide (aU t p.2=k)) (λp=>decide (¬ k<Ct s t)&&decide (aU s.now p.2=k)) (λp=>decide (aU t p.2=k)&&decide (aU s.now p.2<Ct s t)) s.dues (λp hp=>by
  by_cases hk:aU s.now p.2<Ct s t
  ·by_cases a:aU t p.2=k
   ·simp [a,hk]
   ·by_cases b:aU s.now p.2=k
    ·have:k<Ct s t:=by omega
     simp [a,this]
    ·simp [a,b]
  ·have st:=Ei h hn ht hp hk
   by_cases a:aU t p.2=k
   ·have b:aU s.now p.2=k:=by omega
    have c:¬ k<Ct s t:=by omega
    simp [a,b,c]
   ·have b:¬ aU s.now p.2=k:=by omega
    simp [a,b]) (λp _=>by simp;omega)
 refine List.Perm.trans ?_ (hs.map (·.1)).symm
 rw [List.map_append]
 refine List.Perm.append ?_ hflat
 by_cases hk:k<Ct s t
 ·rw [pG hk]
  have:s.dues.filter (λp=>decide (¬ k<Ct s t)&&decide (aU s.now p.2=k))=[]:=by
   rw [List.filter_eq_nil_iff]
   intro p _
   simp [hk]
  rw [this];exact List.Perm.refl _
 ·rw [nG hk]
  have:s.dues.filter (λp=>decide (¬ k<Ct s t)&&decide (aU s.now p.2=k))=s.dues.filter (λp=>decide (aU s.now p.2=k)):=by
   apply List.filter_congr
   intro p _
   simp [hk]
  rw [this];exact h.part k
theorem SW.Inv.go {s:SW} (h:s.Inv) (t:Int):(s.go t).Inv:=by
 unfold SW.go
 split
 ·exact h
 ·rename_i hn
  split
  ·exact h
  ·rename_i he
   have hr:bh t:=by
    by_cases hr:bh t
    ·exact hr
    ·exact absurd (.inr hr) hn
   have hlt:¬ t<s.now:=λhh=>hn (.inl hh)
   have:=hr.1
   have:=hr.2
   exact h.goTo oM oM
/-- What is ready. -/
theorem SW.Inv.ready {s:SW} (h:s.Inv):(s.lists 168).Perm ((s.dues.filter (λp=>decide (p.2 <= s.now))).map (·.1)):=by
 have e:s.dues.filter (λp=>decide (aU s.now p.2=168))=s.dues.filter (λp=>decide (p.2 <= s.now)):=by
  apply List.filter_congr
  intro p hp
  by_cases hd:p.2 <= s.now
  ·have:aU s.now p.2=168:=pG hd
   simp [hd,this]
  ·have h1:aU s.now p.2=bf p.2 s.now * 8+gP p.2 (bf p.2 s.now):=nG hd
   have h2:=pB (h.ok.due p hp) h.ok.now
   have h3:=iK p.2 (bf p.2 s.now)
   have:¬ aU s.now p.2=168:=by omega
   simp [hd,this]
 rw [<- e];exact h.part 168
section
open Go.RowKit Go.Sort
def oK (l:List Int) (k:Int):List Int:=l.filter (λx=>!decide (x=k))
theorem Ir (l:List Int) (k:Int):(oK l k).length <= l.length:=List.length_filter_le _ _
theorem LH {w:wW} {g T:Nat} {cur:Array Value} (h:w.heap[g]?=sS (.cells cur T (0,0))) (off:Nat) (d:Array Int):(putRow (vi iQ) w g off d).heap[g]?=sS (.cells (putCells (vi iQ) off d cur) T (0,0)):=by
 show (w.heap.modify g _)[g]?=_
 rw [Array.getElem?_modify,pG rfl,h]
 rfl
theorem wG (l r:List Int) (cur:Array Value) (h:l.length+r.length <= cur.size):(putCells (vi iQ) 0 (l++r).toArray cur).toList.take l.length=l.map (vi iQ):=by
 apply List.ext_getElem?
 intro i
 rw [List.getElem?_take]
 split
 ·rename_i hi
  have hc:cur[i]?=sS cur[i]:=Array.getElem?_eq_getElem oM
  rw [Array.getElem?_toList]
  unfold putCells
  rw [Array.getElem?_mapIdx,hc,List.getElem?_map,List.getElem?_eq_getElem hi]
  simp only [Option.map_some]
  rw [pG ⟨by omega,by simp;omega⟩]
  rw [getElem!_pos _ _ (by simp;omega)]
  simp [hi]
 ·rename_i hi
  rw [List.getElem?_eq_none (by simp;omega)]
theorem yx (B:Nat) (id x:Int) (W:wW) (hc:W.cell? ⟨B,0,nN⟩=sS (vi iQ id)):Calls tp 315 #[vi iQ x,vp (sS ⟨B,0,nN⟩)] W (ay (vb (decide (x=id))) W):=by
 by_cases e:x=id
 ·have e':(x==id)=tQ:=by simpa using e
  have hD:decide (x=id)=tQ:=decide_eq_true e
  rw [hD]
  clear hD e
  go_in
  go_wp2
  go_ret
  exact ay.of (rfl) dz
 ·have e':(x==id)=fF:=by simpa using e
  have hD:decide (x=id)=fF:=decide_eq_false e
  rw [hD]
  clear hD e
  go_in
  go_wp2
  go_ret
  exact ay.of (rfl) dz
theorem Hm (B g cap:Nat) (l:List Int) (id:Int) (w:wW) (hL:fZ w (sS g) cap l) (hB:w.cell? ⟨B,0,nN⟩=sS (vi iQ id)) (hne:B≠g):
  Calls tp 314 #[.slice (sS ⟨g,0,nN⟩) l.length cap,.func (.func 315) #[] #[vp (sS ⟨B,0,nN⟩)]] w
   (λe w'=>e=.returned (.slice (sS ⟨g,0,nN⟩) (oK l id).length cap) /\ fZ w' (sS g) cap (oK l id) /\ af [g] w w'):=by
 have eg:∀ args w,(callFunc 315 args).run tp w=.ok (.enter 315 args) w:=enters_of Tryz.func315 kz rfl
 have hcap:=hL.cap
 unfold maxLen at hcap
 have hBl:=kD hB
 have hH:Holds (vi iQ) w g 0 l.toArray:=by
  intro j hj
  have hj':j<l.length:=by simpa using hj
  obtain ⟨b,e,hc⟩:=hL.cell hj'
  cases e
  obtain ⟨cur,hcur,_⟩:=hL
  rw [Nat.zero_add,zG l j hj']
  exact ⟨hc,aD hcur j⟩
 have hp:PredAt tp 315 #[vp (sS ⟨B,0,nN⟩)] (vi iQ) (λx=>decide (x=id)) w:=
  λW x hb=>yx B id x W ((hb.cell (p:=⟨B,0,nN⟩) hBl).trans hB)
 have hpo:PredOver tp 315 #[vp (sS ⟨B,0,nN⟩)] (vi iQ) (λx=>decide (x=id)) g 0 l.toArray.size w:=by
  intro n os dk x hs
  have mm:=gU (vi iQ) w g 0 n dk os
  exact yx B id x _ (mm.at hB (by simpa using hne))
 have hcon:=AnyE.slices_DeleteFunc dropL (vi iQ) (λ_=>rfl) (λx=>decide (x=id)) 315 #[vp (sS ⟨B,0,nN⟩)] eg 0 Tryz.zeroValue3 g 0 cap l.toArray w hp hpo hH (by simp;omega) (by simp;omega)
 refine Calls.mono (show Calls tp 314 _ _ _ from hcon) ?_
 rintro e w' ⟨rfl,q,rfl⟩
 obtain ⟨cur,hcur,h2,h3,h4,h5⟩:=hL
 have hle:=Ir l id
 refine ⟨rfl,⟨_,LH (w:=Sort.ahead w q) hcur 0 _,by omega,h3,?_,?_⟩,?_⟩
 ·unfold putCells
  rw [Array.size_mapIdx];exact h4
 ·refine wG (oK l id) _ cur ?_
  rw [List.length_replicate,List.size_toArray]
  show (oK l id).length+(l.length - (oK l id).length) <= _
  omega
 ·have:=gU (vi iQ) w g 0 q ((oK l id)++List.replicate (l.toArray.size - (oK l id).length) 0).toArray #[]
  unfold sortWorld at this
  rwa [grow_empty] at this
/-- Drop: the errno; the wheel behind it. -/
def SW.dropE (s:SW) (id:Int):Int:=if (aI s.dues id).isSome then 0 else 4
def SW.drop (s:SW) (id:Int):SW:=if (aI s.dues id).isSome then { s with dues:=jB s.dues id,lists:=ir s.lists (aU s.now (aQ s id)) (oK (s.lists (aU s.now (aQ s id))) id) } else s
theorem Co (d mb:Nat) (G:Nat -> Option Nat × Nat) (s:SW) (w:wW) (h:az w d mb G s) (hok:s.ok) (id:Int) (hne:(aI s.dues id).isSome=tQ -> s.lists (aU s.now (aQ s id))≠[]):
  Calls tp 275 #[vp (sS ⟨d,0,nN⟩),vi iQ id] w (qB d mb G (vi iQ (s.dropE id)) (s.drop id) w):=by
 have cM:=h.cellMap
 have hlk:=iJ h id
 unfold SW.dropE SW.drop
 have hmB:af [] w (w.alloc (.cells #[vi iQ id] 3)):=mR.alloc _
 have cB:=ad (ai w (.cells #[vi iQ id] 3)) 0
 have cM1:=hmB.at cM sM
 have hlk1:=λn=>iJ ((h.keep hmB sM).same (w':=(w.alloc (.cells #[vi iQ id] 3)).drewN n) rfl) id
 by_cases hs:(aI s.dues id).isSome=tQ
 ·rw [pG hs,pG hs]
  rw [hs] at hlk1
  have hne':=hne hs
  have hdd:=zB hok id
  have hkk:=zt hok.now hdd
  have hL0:=λ(w':wW) (hh:az w' d mb G s)=>tX d mb G s w' hh (aQ s id) hok.now hdd
  have hl0:=h.list _ hkk
  have hc0:=h.cellList hkk
  have hset:=λ(S:List Nat) (w1:wW) (m:af S w w1) (hS) (g':Option Nat) (cap':Nat) (l':List Int) (hL:fZ w1 g' cap' l') (hg)=>h.setList hkk m hS hL hg
  have hown:=h.own _ hkk
  have hap:=λj hj hjk=>h.apart _ j hkk hj hjk
  clear hne hlk cM
  generalize aU s.now (aQ s id)=k at *
  generalize aQ s id=du at *
  obtain ⟨g,hg,_⟩:=hl0.cell (List.length_pos_iff.2 hne')
  rw [hg] at hl0 hc0 hown hap
  rw [lG] at hc0
  have hgl:=hl0.lt g (by simp [lF])
  obtain ⟨hgd,hgm⟩:=hown g (by simp [lF])
  obtain ⟨cs,hcs,_⟩:=h.obj
  have hwl:=h.lt
  clear hs
  have hc1:=hmB.at hc0 sM
  generalize ho:2+k=o at *
  have hO:=zh ho
  clear ho
  go_in
  go_wp2
  go_quiet (fail)
  go_wp2_with (first
   | (
    go_at_call 313
    refine (hL0 _ (by exact (h.keep hmB sM).same rfl)).r λk1=>?_
    )
   | (
    go_at_call 314
    refine (Hm w.heap.size g (G k).2 (s.lists k) id _ (by exact (hl0.keep hmB sM).same rfl) (by exact cB) oM).mono ?_
    rintro e w3 ⟨rfl,x3,m3⟩
    have mA:af [g] w w3:=af.trans (S:=[g]) (T:=[g]) ((mR.alloc _).drewN _) m3 sM
    have hcs2:=mA.keep hcs (by simp;omega)
    have c2:=mA.at hc0 (by simp;omega)
    have f2:=aD hcs2 o
    have z2:=cq hcs2
    have cB3:=m3.at (p:=⟨w.heap.size,0,nN⟩) (by exact cB) (by simp;omega)
    have H2:=zh (And.intro x3 (And.intro mA cB3))
    clear x3 mA m3 hcs2 cB3
    )
   )
  obtain ⟨x3,mA,cB3⟩:=H2.out
  have hW:=hset [g] w3 mA (by simp;exact ⟨hgd,hgm,λj hj hjk=>λhb=>hap j hj (Ne.symm hjk) g (by simp [lF]) hb⟩) (sS g) (G k).2 (oK (s.lists k) id) x3 (by intro b hb;rw [hg];exact .inl hb)
  rw [lG] at hW
  have hgw:g∈aF d mb G:=aH.2 (.inr (.inr ⟨k,hkk,by rw [hg];simp [lF]⟩))
  have hmbl:=hwl mb (aH.2 (.inr (.inl rfl)))
  have hmbd:=h.ne
  have hdl:=hwl d (aH.2 (.inl rfl))
  have m4:af (aF d mb G) w (w3.setCell ⟨d,o,nN⟩ (.slice (sS ⟨g,0,nN⟩) (oK (s.lists k) id).length (G k).2)):=(mA.mono (T:=aF d mb G) (by intro b hb;rw [List.mem_singleton.1 hb];exact .inl hgw)).setCell (.inl (aH.2 (.inl rfl))) _
  have cB4:(w3.setCell ⟨d,o,nN⟩ (.slice (sS ⟨g,0,nN⟩) (oK (s.lists k) id).length (G k).2)).cell? ⟨w.heap.size,0,nN⟩=sS (vi iQ id):=((af.refl [d] _).setCell sM _).at cB3 (by simp;omega)
  generalize w3.setCell ⟨d,o,nN⟩ (.slice (sS ⟨g,0,nN⟩) (oK (s.lists k) id).length (G k).2)=w4 at *
  have cM4:=hW.cellMap
  clear c2 f2 z2 x3 mA cB3 H2
  refine wp_region_held_drew (S:=λu=>u.cell? ⟨d,1,nN⟩=sS (.map (sS mb)) /\ u.cell? ⟨w.heap.size,0,nN⟩=sS (vi iQ id)) kz ⟨cM4,cB4⟩ (λhHeld=>?_)
  refine wpAnyH_take (i:=0) (v:=?_) rfl kz kz kz (λ_ _ _ h=>h) (Or.inl ⟨by rfl,?_⟩) (by assumption) ?_
  rotate_left
  ·intro w hSw;(try dsimp only at hSw);(go_simp<;>with_reducible rfl)
  try simp only [Act.put,sA,sB,sC]
  refine wpAnyH_take (i:=1) (v:=?_) rfl kz kz kz (λ_ _ _ h=>h) (Or.inl ⟨by rfl,?_⟩) (by assumption) ?_
  rotate_left
  ·intro w hSw;(try dsimp only at hSw);(go_simp<;>with_reducible rfl)
  try simp only [Act.put,sA,sB,sC]
  refine wpAnyH_take (i:=2) (v:=?_) rfl kz kz kz (λ_ _ _ h=>h) (Or.inl ⟨by rfl,?_⟩) (by assumption) ?_
  rotate_left
  ·intro w hSw;(try dsimp only at hSw);(go_simp<;>with_reducible rfl)
  try simp only [Act.put,sA,sB,sC]
  refine wpAnyH_take (i:=3) (v:=?_) rfl kz kz kz (λ_ _ _ h=>h) (Or.inl ⟨by rfl,?_⟩) (by assumption) ?_
  rotate_left
  ·intro w hSw;(try dsimp only at hSw);(go_simp<;>with_reducible rfl)
  try simp only [Act.put,sA,sB,sC]
  refine wpAnyH_take (i:=4) (v:=?_) rfl kz kz kz (λ_ _ _ h=>h) (Or.inl ⟨by rfl,?_⟩) (by assumption) ?_
  rotate_left
  ·intro w hSw;(try dsimp only at hSw);(go_simp<;>with_reducible rfl)
  try simp only [Act.put,sA,sB,sC]
  obtain ⟨w5,hrun,m5,x5⟩:=lE (P:=tp) (w:=w4.drew) (hW.map.same rfl) Tryz.underlying254 Tryz.underlying3 id
  rw [xP] at x5
  refine wpAnyH_ready (rs:=[5]) kz sM ?_
  refine AllReadyH.cons rfl (λK hK=>?_) AllReadyH.nil
  go_simp
  refine hK.out _ _ ⟨m5.at cM4 (by simp;omega),m5.at cB4 (by simp;omega)⟩ (λhHeld=>?_)
  clear hK K
  refine wpAnyH_done kz ?_ _
  go_wp2
  go_ret
  have hwl4:=hW.lt
  have hms:=m4.size
  refine ⟨rfl,ir G k (sS g,(G k).2),m4.trans (T:=[mb]) m5.undrew (by intro b hb;rw [List.mem_singleton.1 hb];exact .inl (aH.2 (.inr (.inl rfl)))),hW.setMap m5.undrew x5,λb hb=>?_⟩
  rcases jC hb with hb|hb
  ·exact .inl hb
  ·rw [List.mem_singleton.1 hb];exact .inl hgw
 ·rw [nG hs,nG hs]
  have hs':(aI s.dues id).isSome=fF:=by simpa using hs
  rw [hs'] at hlk1
  clear hne hs hs' hlk cM
  generalize aQ s id=du at *
  go_in
  go_wp2
  go_quiet (fail)
  go_wp2
  go_ret
  exact ⟨rfl,G,hmB.mono sM |>.drewN _,(h.keep hmB sM).same rfl,λb hb=>.inl hb⟩
end
theorem GZ (s:SW) (t:Nat):(s.goTo t).dues=s.dues:=by
 unfold SW.goTo
 rw [nk]
 have e:(s.left t).dues=((s.goN (bf t s.now)).2.leaveN (bf t s.now) (gP t (bf t s.now)+1)).dues:=rfl
 rw [e,dZ,kJ]
theorem LL (s:SW) (t:Int):(s.go t).dues=s.dues:=by
 unfold SW.go
 split
 ·rfl
 ·split
  ·rfl
  ·exact GZ s _
theorem MF {s:SW} {t:Nat} (h1:s.now <= t) (h2:t <= 1152921504606846976):(s.go t).now=t:=by
 unfold SW.go
 rw [nG (by unfold bh;omega)]
 split
 ·omega
 ·unfold SW.goTo
  rw [oX]
  show ((t:Int)).toNat=t
  omega
/-- The wheel holds thing 7 alone. -/
def Cur (w0:wW) (d mb due n:Nat) (u:wW):Prop:=∃ G s,az u d mb G s /\ s.Inv /\ s.dues=[(7,due)] /\ s.now=n /\ af [] w0 u /\ ∀ b,b∈aF d mb G -> w0.heap.size <= b
theorem Cur.keep {w0:wW} {d mb due n:Nat} {u u':wW} (h:Cur w0 d mb due n u) (m:af [] u u'):Cur w0 d mb due n u':=by
 obtain ⟨G,s,h1,h2,h3,h4,h5,h6⟩:=h
 exact ⟨G,s,h1.keep m sM,h2,h3,h4,h5.trans m sM,h6⟩
end Go.Proofs.YtaakgpnmfkmdoaaGreatDoor