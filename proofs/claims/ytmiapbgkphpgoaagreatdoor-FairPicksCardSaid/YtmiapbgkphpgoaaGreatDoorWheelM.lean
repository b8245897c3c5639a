/- Walks and plain laws of the kernel. No condition. -/
import Derived.Test.YtmiapbgkphpgoaaGreatDoorBaseM
import Derived.Test.YtmiapbgkphpgoaaGreatDoorShelfWheel
import Derived.Shelf.Strconv.Itoa0
import Derived.Maps.AppendAt
import Derived.Laws.OwnMore
import Derived.Deep.MidRow
import Derived.WalkMore
import Derived.Shelf.SlSortCmp.NoneTotal
import Derived.Deep.RegionHeld3
import Derived.Maps.Own
import Derived.Lib.SlKeysI
import Derived.Test.YtmiapbgkphpgoaaGreatDoorKAM
import Derived.Shelf.SlIterI.Collect
import Derived.Shelf.SlicesE.DeleteFunc
namespace Go.Proofs.YtmiapbgkphpgoaaGreatDoor
set_option linter.unusedVariables false
set_option linter.unusedSimpArgs false
set_option maxRecDepth 100000
set_option maxHeartbeats 20000000
open Go.RowKit
open Go.Proofs.Tryz renaming prog → tp
open List renaming setIfInBounds_toArray → sA, set_cons_zero → sB, set_cons_succ → sC
open Go renaming World → wW
open Go.Value renaming pointer → vp, bool → vb, int → vi
open Go.IntKind renaming i64 → iQ, u64 → uQ
open Option renaming none → nN, some → sS
open Bool renaming true → tQ, false → fF
open Int renaming eq_ofNat_of_zero_le → iN
/-- A tick that fits. -/
def aV (t:Int):Prop:=0 <= t /\ t <= 1152921504606846976
instance instWheel1 (t:Int):Decidable (aV t):=by unfold aV;infer_instance
theorem dH (t:Int) (w:wW):Calls tp 174 #[vi iQ t] w (au (vb (decide (aV t))) w):=by
 by_cases h0:0 <= t
 ·by_cases h1:t <= 1152921504606846976
  ·go_in
   go_wp2
   go_ret
   exact au.of (by simp [aV,h0,h1]) dz
  ·go_in
   go_wp2
   go_ret
   exact au.of (by simp [aV,h0,h1]) dz
 ·have hD:decide (aV t)=fF:=decide_eq_false (λx=>h0 x.1)
  rw [hD]
  clear hD
  go_in
  go_wp2
  go_ret
  exact au.of (rfl) dz
/-- The digit of a tick at a level; the level at which two ticks part. -/
def gm (t:Nat) (lv:Nat):Nat:=t / 2 ^ (3 * lv) % 8
def aU (a b:Nat):Nat:=(Lib.bitLen (a ^^^ b) - 1) / 3
theorem ig (t lv:Nat):gm t lv<8:=Nat.mod_lt _ oM
theorem qx (t lv:Nat) (ht:t <= 1152921504606846976) (hl:lv <= 20) (w:wW):Calls tp 280 #[vi iQ t,vi iQ lv] w (au (vi iQ (gm t lv)) w):=by
 have hc:lv=0 \/ lv=1 \/ lv=2 \/ lv=3 \/ lv=4 \/ lv=5 \/ lv=6 \/ lv=7 \/ lv=8 \/ lv=9 \/ lv=10 \/ lv=11 \/ lv=12 \/ lv=13 \/ lv=14 \/ lv=15 \/ lv=16 \/ lv=17 \/ lv=18 \/ lv=19 \/ lv=20:=by omega
 rcases hc with rfl|rfl|rfl|rfl|rfl|rfl|rfl|rfl|rfl|rfl|rfl|rfl|rfl|rfl|rfl|rfl|rfl|rfl|rfl|rfl|rfl
 all_goals
  go_in
  go_wp2
  go_ret
  refine au.of (congrArg (Value.int IntKind.i64) ?_) dz
  simp only [gm,Nat.reducePow,Nat.reduceMul]
  first|omega|(simp only [wrap64];omega)
theorem La (x:Nat) (hx:x<2 ^ 64) (w:wW):Calls tp 323 #[vi uQ x] w (au (vi iQ (Lib.bitLen x)) w):=by
 have h:=Any.bits_Len64 lenL (x:Int) w oM oM
 refine Calls.mono (show Calls tp 323 _ _ _ from h) ?_
 rintro e w' ⟨rfl,rfl⟩
 exact au.of sM dz
theorem Iq (a b:Nat) (ha:a<2 ^ 62) (hb:b<2 ^ 62):bits .xor .i64 (a:Int) (b:Int)=((a ^^^ b:Nat):Int):=by
 have hx:a ^^^ b<2 ^ 62:=Nat.xor_lt_two_pow ha hb
 have h1:(BitVec.ofInt 64 (a:Int)).toNat=a:=by
  rw [BitVec.ofInt_natCast,BitVec.toNat_ofNat];exact Nat.mod_eq_of_lt oM
 have h2:(BitVec.ofInt 64 (b:Int)).toNat=b:=by
  rw [BitVec.ofInt_natCast,BitVec.toNat_ofNat];exact Nat.mod_eq_of_lt oM
 show IntKind.i64.wrap ((BitVec.ofInt 64 (a:Int) ^^^ BitVec.ofInt 64 (b:Int)).toNat:Int)=_
 rw [BitVec.toNat_xor,h1,h2]
 simp only [IntKind.wrap,IntKind.bits,IntKind.signed]
 simp
 omega
theorem nx {x:Nat} (h:x≠0):0<Lib.bitLen x:=by
 unfold Lib.bitLen Lib.bitLenAux
 rw [nG h];omega
theorem Fx {a b:Nat} (h:a≠b):a ^^^ b≠0:=by
 intro h0
 apply h
 apply Nat.eq_of_testBit_eq
 intro i
 have:=congrArg (λn=>n.testBit i) h0
 simpa [Nat.testBit_xor] using this
theorem qw (a b:Nat) (ha:a <= 1152921504606846976) (hb:b <= 1152921504606846976) (hab:a≠b) (w:wW):Calls tp 278 #[vi iQ a,vi iQ b] w (au (vi iQ (aU a b)) w):=by
 have hx:a ^^^ b<2 ^ 62:=Nat.xor_lt_two_pow oM oM
 have hB:=Iq a b oM oM
 have hL:=λw=>La (a ^^^ b) oM w
 have hU:IntKind.u64.wrap (((a ^^^ b:Nat)):Int)=((a ^^^ b:Nat):Int):=by rw [IntKind.wrap_u64];omega
 unfold aU
 have hp:0<Lib.bitLen (a ^^^ b):=nx (Fx hab)
 have hle:Lib.bitLen (a ^^^ b) <= 64:=Lib.bitLen_le _ 64 oM oM
 generalize a ^^^ b=x at *
 generalize Lib.bitLen x=l at *
 have hc:((l - 1:Nat):Int)=(l:Int) - 1:=by omega
 go_in
 go_wp2_with (go_at_call 323;refine (hL _).r λk1=>?_)
 go_ret
 exact au.of (by show vi iQ _=_;congr 1;omega) dz
/-- What a wheel holds: the tick, each id's due, and its 169 lists: 168 slots, the ready ones. -/
structure SW where
 now:Nat
 dues:List (Int × Nat)
 lists:Nat -> List Int
def cz (l:List (Int × Nat)):List (Int × Value):=l.map (λp=>(p.1,vi iQ (p.2:Nat)))
def cQ:List (Int × Nat) -> Int -> Nat -> Option (Nat × Nat)
 | [],_,_=>nN
 | p :: m,i,j=>if i=p.1 then sS (j,p.2) else cQ m i (j+1)
def aC (m:List (Int × Nat)) (i:Int):Option Nat:=(cQ m i 0).map (·.2)
def gT (m:List (Int × Nat)) (i:Int) (v:Nat):List (Int × Nat):=match cQ m i 0 with|some (n,_)=>m.set n (i,v)|none=>m++[(i,v)]
def iW (m:List (Int × Nat)) (i:Int):List (Int × Nat):=match cQ m i 0 with|some (n,_)=>m.eraseIdx n|none=>m
theorem iH:∀ (m:List (Int × Nat)) (i:Int) (j:Nat),bM (cz m) i j=(cQ m i j).map (λp=>(p.1,vi iQ (p.2:Nat)))
 | [],_,_=>rfl
 | p :: m,i,j=>by
  show (if i=p.1 then sS (j,vi iQ (p.2:Nat)) else bM (cz m) i (j+1))=_
  unfold cQ
  split
  ·rfl
  ·exact iH m i (j+1)
theorem lP (m:List (Int × Nat)) (i:Int):gJ (cz m) i=(aC m i).map (λv:Nat=>vi iQ v):=by
 unfold gJ aC
 rw [iH]
 cases cQ m i 0<;>rfl
theorem vY (m:List (Int × Nat)) (i:Int) (v:Nat):oe (cz m) i (vi iQ v)=cz (gT m i v):=by
 unfold oe gT
 rw [iH]
 cases cQ m i 0 with
 | none=>simp [cz]
 | some p=>simp [cz]
theorem wj (m:List (Int × Nat)) (i:Int):pK (cz m) i=cz (iW m i):=by
 unfold pK iW
 rw [iH]
 cases cQ m i 0 with
 | none=>rfl
 | some p=>simp only [Option.map_some,cz];exact (lq _ m p.1).symm
/-- One more list. -/
def iY {α:Type} (f:Nat -> α) (k:Nat) (v:α):Nat -> α:=λj=>if j=k then v else f j
theorem aJ {α:Type} (f:Nat -> α) (k:Nat) (v:α):iY f k v k=v:=pG rfl
theorem bc {α:Type} (f:Nat -> α) {k j:Nat} (v:α) (h:j≠k):iY f k v j=f j:=nG h
/-- The wheel at block d, its map at mb, its lists' blocks and rooms G. -/
structure aw (w:wW) (d mb:Nat) (G:Nat -> Option Nat × Nat) (s:SW):Prop where
 obj:∃ cs:Array Value,w.heap[d]?=sS (.cells cs 279 (0,0)) /\ cs.size=171 /\ cs[0]?=sS (vi iQ s.now) /\ cs[1]?=sS (.map (sS mb)) /\ ∀ k,k <= 168 -> cs[2+k]?=sS (.slice (lA (G k).1) (s.lists k).length (G k).2)
 map:bR .i64 w mb (cz s.dues)
 list:∀ k,k <= 168 -> fG w (G k).1 (G k).2 (s.lists k)
 ne:mb≠d
 own:∀ k,k <= 168 -> ∀ b,b∈lF (G k).1 -> b≠d /\ b≠mb
 apart:∀ j k,j <= 168 -> k <= 168 -> j≠k -> ∀ b,b∈lF (G j).1 -> b∉lF (G k).1
/-- All blocks of a wheel. -/
def az (d mb:Nat) (G:Nat -> Option Nat × Nat):List Nat:=d :: mb :: (List.range 169).flatMap (λk=>lF (G k).1)
theorem aB {d mb:Nat} {G:Nat -> Option Nat × Nat} {b:Nat}:b∈az d mb G↔b=d \/ b=mb \/ ∃ k,k <= 168 /\ b∈lF (G k).1:=by
 unfold az
 simp only [List.mem_cons,List.mem_flatMap,List.mem_range]
 constructor
 ·rintro (h|h|⟨k,h1,h2⟩)
  ·exact .inl h
  ·exact .inr (.inl h)
  ·exact .inr (.inr ⟨k,by omega,h2⟩)
 ·rintro (h|h|⟨k,h1,h2⟩)
  ·exact .inl h
  ·exact .inr (.inl h)
  ·exact .inr (.inr ⟨k,by omega,h2⟩)
theorem aw.keep {S:List Nat} {w w':wW} {d mb:Nat} {G:Nat -> Option Nat × Nat} {s:SW} (h:aw w d mb G s) (m:af S w w') (hS:∀ b,b∈az d mb G -> b∉S):aw w' d mb G s:=by
 obtain ⟨cs,h1,h2⟩:=h.obj
 exact ⟨⟨cs,m.keep h1 (hS _ (aB.2 (.inl rfl))),h2⟩,h.map.keep m (hS _ (aB.2 (.inr (.inl rfl)))),λk hk=>(h.list k hk).keep m (λb hb=>hS _ (aB.2 (.inr (.inr ⟨k,hk,hb⟩)))),h.ne,h.own,h.apart⟩
theorem aw.same {w w':wW} {d mb:Nat} {G:Nat -> Option Nat × Nat} {s:SW} (h:aw w d mb G s) (e:w'.heap=w.heap):aw w' d mb G s:=by
 obtain ⟨cs,h1,h2⟩:=h.obj
 exact ⟨⟨cs,by rw [e];exact h1,h2⟩,h.map.same e,λk hk=>(h.list k hk).same e,h.ne,h.own,h.apart⟩
theorem aw.lt {w:wW} {d mb:Nat} {G:Nat -> Option Nat × Nat} {s:SW} (h:aw w d mb G s):∀ b,b∈az d mb G -> b<w.heap.size:=by
 intro b hb
 rcases aB.1 hb with rfl|rfl|⟨k,hk,hb⟩
 ·obtain ⟨cs,h1,_⟩:=h.obj
  exact bY h1
 ·exact h.map.lt
 ·exact (h.list k hk).lt b hb
theorem aw.cellNow {w:wW} {d mb:Nat} {G:Nat -> Option Nat × Nat} {s:SW} (h:aw w d mb G s):w.cell? ⟨d,0,nN⟩=sS (vi iQ s.now):=by
 obtain ⟨cs,h1,h2,h3,h4,h5⟩:=h.obj
 exact (ab h1 0).trans h3
theorem aw.cellMap {w:wW} {d mb:Nat} {G:Nat -> Option Nat × Nat} {s:SW} (h:aw w d mb G s):w.cell? ⟨d,1,nN⟩=sS (.map (sS mb)):=by
 obtain ⟨cs,h1,h2,h3,h4,h5⟩:=h.obj
 exact (ab h1 1).trans h4
theorem aw.cellList {w:wW} {d mb:Nat} {G:Nat -> Option Nat × Nat} {s:SW} (h:aw w d mb G s) {k:Nat} (hk:k <= 168):w.cell? ⟨d,2+k,nN⟩=sS (.slice (lA (G k).1) (s.lists k).length (G k).2):=by
 obtain ⟨cs,h1,h2,h3,h4,h5⟩:=h.obj
 exact (ab h1 (2+k)).trans (h5 k hk)
theorem aw.free {w:wW} {d mb:Nat} {G:Nat -> Option Nat × Nat} {s:SW} (h:aw w d mb G s) (o:Nat):w.frozen? ⟨d,o,nN⟩=fF:=by
 obtain ⟨cs,h1,_⟩:=h.obj
 exact ax h1 o
/-- Another list is stored. -/
theorem aw.setList {S:List Nat} {w w1:wW} {d mb:Nat} {G:Nat -> Option Nat × Nat} {s:SW} (h:aw w d mb G s) {k:Nat} (hk:k <= 168) (m:af S w w1) (hS:∀ b,b∈S -> b≠d /\ b≠mb /\ ∀ j,j <= 168 -> j≠k -> b∉lF (G j).1) {g':Option Nat} {cap':Nat} {l':List Int} (hL:fG w1 g' cap' l') (hg:∀ b,b∈lF g' -> b∈lF (G k).1 \/ w.heap.size <= b):
  aw (w1.setCell ⟨d,2+k,nN⟩ (.slice (lA g') l'.length cap')) d mb (iY G k (g',cap')) { s with lists:=iY s.lists k l' }:=by
 obtain ⟨cs,h1,h2,h3,h4,h5⟩:=h.obj
 have hd1:=m.keep h1 (λhd=>(hS d hd).1 rfl)
 have hlt:=h.lt
 have hgd:∀ b,b∈lF g' -> b≠d /\ b≠mb /\ ∀ j,j <= 168 -> j≠k -> b∉lF (G j).1:=by
  intro b hb
  rcases hg b hb with hb|hb
  ·exact ⟨(h.own k hk b hb).1,(h.own k hk b hb).2,λj hj hjk hbj=>h.apart k j hk hj (Ne.symm hjk) b hb hbj⟩
  ·refine ⟨?_,?_,?_⟩
   ·rintro rfl;have:=bY h1;omega
   ·rintro rfl;have:=h.map.lt;omega
   ·intro j hj _ hbj;have:=(h.list j hj).lt b hbj;omega
 have mc:af [d] w1 (w1.setCell ⟨d,2+k,nN⟩ (.slice (lA g') l'.length cap')):=mR.setCell sM _
 refine ⟨⟨_,ba hd1 (2+k) _,by simp [h2],?_,?_,?_⟩,?_,?_,h.ne,?_,?_⟩
 ·rw [Array.getElem?_setIfInBounds_ne oM];exact h3
 ·rw [Array.getElem?_setIfInBounds_ne oM];exact h4
 ·intro j hj
  by_cases e:j=k
  ·subst e
   simp only [aJ]
   rw [Array.getElem?_setIfInBounds_self_of_lt oM]
  ·rw [Array.getElem?_setIfInBounds_ne oM];simp only [bc _ _ e];exact h5 j hj
 ·exact (h.map.keep m (λhb=>(hS mb hb).2.1 rfl)).keep mc (by simp;exact h.ne)
 ·intro j hj
  by_cases e:j=k
  ·subst e
   simp only [aJ]
   exact hL.keep mc (λb hb=>by simp;exact (hgd b hb).1)
  ·simp only [bc _ _ e]
   exact ((h.list j hj).keep m (λb hb hbS=>(hS b hbS).2.2 j hj e hb)).keep mc (λb hb=>by simp;exact (h.own j hj b hb).1)
 ·intro j hj b hb
  by_cases e:j=k
  ·subst e
   rw [aJ] at hb
   exact ⟨(hgd b hb).1,(hgd b hb).2.1⟩
  ·rw [bc _ _ e] at hb
   exact h.own j hj b hb
 ·intro i j hi hj hij b hb hb'
  by_cases e:i=k
  ·subst e
   rw [aJ] at hb
   rw [bc _ _ (Ne.symm hij)] at hb'
   exact (hgd b hb).2.2 j hj (Ne.symm hij) hb'
  ·rw [bc _ _ e] at hb
   by_cases e':j=k
   ·subst e'
    rw [aJ] at hb'
    exact (hgd b hb').2.2 i hi e hb
   ·rw [bc _ _ e'] at hb'
    exact h.apart i j hi hj hij b hb hb'
/-- What a call on a wheel does: it returns v; the wheel is s behind it, in old blocks of its own and new ones. -/
def pk (d mb:Nat) (G:Nat -> Option Nat × Nat) (v:Value) (s:SW) (w:wW) (e:Ending) (w':wW):Prop:=
 e=.returned v /\ ∃ G',af (az d mb G) w w' /\ aw w' d mb G' s /\ ∀ b,b∈az d mb G' -> b∈az d mb G \/ w.heap.size <= b
/-- The list in which a thing lies that is due then. -/
def aP (now due:Nat):Nat:=if due <= now then 168 else aU due now * 8+gm due (aU due now)
theorem oo {a b:Nat} (ha:a <= 1152921504606846976) (hb:b <= 1152921504606846976):aU a b <= 20:=by
 have hx:a ^^^ b<2 ^ 61:=Nat.xor_lt_two_pow oM oM
 have:=Lib.bitLen_le _ 61 oM hx
 unfold aU
 omega
theorem xN {now due:Nat} (ha:now <= 1152921504606846976) (hb:due <= 1152921504606846976):aP now due <= 168:=by
 unfold aP
 split
 ·omega
 ·have:=oo hb ha
  have:=ig due (aU due now)
  omega
theorem sd (d mb:Nat) (G:Nat -> Option Nat × Nat) (s:SW) (w:wW) (h:aw w d mb G s) (due:Nat) (hn:s.now <= 1152921504606846976) (hd:due <= 1152921504606846976):
  Calls tp 324 #[vp (sS ⟨d,0,nN⟩),vi iQ due] w (au (vp (sS ⟨d,2+aP s.now due,nN⟩)) w):=by
 have c0:=h.cellNow
 by_cases hle:due <= s.now
 ·have hI:aP s.now due=168:=pG hle
  rw [hI]
  clear hI
  go_in
  go_wp2
  go_ret
  exact au.of (rfl) dz
 ·have hI:aP s.now due=aU due s.now * 8+gm due (aU due s.now):=nG hle
  have hL:=λw=>qw due s.now hd hn oM w
  have hl:=oo hd hn
  have hD:=λw=>qx due (aU due s.now) hd hl w
  have hb:=ig due (aU due s.now)
  rw [hI]
  clear hI
  generalize gm due (aU due s.now)=dg at *
  generalize aU due s.now=lv at *
  go_in
  go_wp2_with (go_at_call 278;refine (hL _).s λw2 hDr=>?_)
  go_quiet (first|(go_at_call 280;exact Calls.quiet_of (hD _)))
  go_wp2
  go_ret
  exact au.of sM (hDr.drewN _)
def aL (s:SW) (id:Int):Nat:=(aC s.dues id).getD 0
def SW.put (s:SW) (id:Int):SW:={ s with lists:=iY s.lists (aP s.now (aL s id)) (s.lists (aP s.now (aL s id))++[id]) }
def SW.puts (s:SW) (ids:List Int):SW:=ids.foldl SW.put s
theorem nQ (ids:List Int):∀ s:SW,(s.puts ids).now=s.now:=by
 induction ids with
 | nil=>intro s;rfl
 | cons a l ih=>intro s;exact (ih (s.put a)).trans rfl
theorem lN (ids:List Int):∀ s:SW,(s.puts ids).dues=s.dues:=by
 induction ids with
 | nil=>intro s;rfl
 | cons a l ih=>intro s;exact (ih (s.put a)).trans rfl
theorem Gb (ids:List Int):∀ (s:SW) (k:Nat),((s.puts ids).lists k).length <= (s.lists k).length+ids.length:=by
 induction ids with
 | nil=>intro s k;simp [SW.puts]
 | cons a l ih=>
  intro s k
  refine Nat.le_trans (ih (s.put a) k) ?_
  have:((s.put a).lists k).length <= (s.lists k).length+1:=by
   unfold SW.put iY
   simp only
   split
   ·rename_i e;rw [e];simp
   ·omega
  simp only [List.length_cons]
  omega
theorem DG (s:SW) (l:List Int) (a:Int):s.puts (l++[a])=(s.puts l).put a:=by simp [SW.puts]
theorem xC {l:List Int} {j:Nat} (h:j<l.length):l.take (j+1)=l.take j++[ar l j]:=by
 rw [List.take_add_one];simp [ar,List.getD,h]
theorem iX {d mb:Nat} {G:Nat -> Option Nat × Nat} {k:Nat} {g':Option Nat} {c:Nat} {b:Nat} (h:b∈az d mb (iY G k (g',c))):b∈az d mb G \/ b∈lF g':=by
 rcases aB.1 h with h|h|⟨j,hj,h⟩
 ·exact .inl (aB.2 (.inl h))
 ·exact .inl (aB.2 (.inr (.inl h)))
 ·by_cases e:j=k
  ·subst e;rw [aJ] at h;exact .inr h
  ·rw [bc _ _ e] at h;exact .inl (aB.2 (.inr (.inr ⟨j,hj,h⟩)))
theorem vA (d mb:Nat) (G:Nat -> Option Nat × Nat) (s:SW) (w:wW) (h:aw w d mb G s) (hn:s.now <= 1152921504606846976) (hdd:∀ i,aL s i <= 1152921504606846976)
  (gI:Option Nat) (capI:Nat) (ids:List Int) (hI:fG w gI capI ids) (hdis:∀ b,b∈lF gI -> b∉az d mb G) (hb:∀ k,k <= 168 -> (s.lists k).length+ids.length<1000000):
  Calls tp 281 #[vp (sS ⟨d,0,nN⟩),.slice (lA gI) ids.length capI] w (pk d mb G (.tuple #[]) (s.puts ids) w):=by
 have hcap:=hI.cap
 unfold maxLen at hcap
 obtain ⟨hcap1,hcap2⟩:=hcap
 have hlI:=hI.lt
 go_in
 go_wp2
 go_loopg [9] ids.length (λgg i wr=>∃ (j:Nat) (G':Nat -> Option Nat × Nat),i=vi iQ j /\ j+gg=ids.length /\ aw wr d mb G' (s.puts (ids.take j)) /\ af (az d mb G) w wr /\ ∀ b,b∈az d mb G' -> b∈az d mb G \/ w.heap.size <= b)
 case atStart=>exact ⟨0,G,rfl,by omega,h,af.refl _ _,λb hb=>.inl hb⟩
 case round=>
  obtain ⟨j,G',rfl,hj,h',m,hG⟩:=hrel
  by_cases hlt:j<ids.length
  ·have hnow:=nQ (ids.take j) s
   have hdues:=lN (ids.take j) s
   have hdd':aL (s.puts (ids.take j)) (ar ids j) <= 1152921504606846976:=by unfold aL;rw [hdues];exact hdd _
   have hnn:(s.puts (ids.take j)).now <= 1152921504606846976:=by rw [hnow];exact hn
   have hS:=xC hlt
   have hSS:=zh (show s.puts (ids.take (j+1))=(s.puts (ids.take j)).put (ar ids j) by rw [hS,DG])
   have hkk:=xN hnn hdd'
   have hll:=Gb (ids.take j) s (aP (s.puts (ids.take j)).now (aL (s.puts (ids.take j)) (ar ids j)))
   have hb2:=hb _ hkk
   have hlen:((s.puts (ids.take j)).lists (aP (s.puts (ids.take j)).now (aL (s.puts (ids.take j)) (ar ids j)))).length<1000000:=by
    have:(ids.take j).length <= ids.length:=by simp;omega
    omega
   clear hnow hdues hS hll hb2
   have hIr:=hI.keep m hdis
   obtain ⟨bI,rfl,cj⟩:=hIr.cell hlt
   generalize s.puts (ids.take j)=s' at *
   generalize ar ids j=id at *
   have hL0:=λ(w':wW) (hh:aw w' d mb G' s')=>sd d mb G' s' w' hh (aL s' id) hnn hdd'
   have hl0:=h'.list _ hkk
   have hc0:=h'.cellList hkk
   have hset:=λ(S:List Nat) (w1:wW) (m:af S wr w1) (hS) (g':Option Nat) (cap':Nat) (l':List Int) (hL:fG w1 g' cap' l') (hg)=>h'.setList hkk m hS hL hg
   have hput:s'.put id={ s' with lists:=iY s'.lists (aP s'.now (aL s' id)) (s'.lists (aP s'.now (aL s' id))++[id]) }:=rfl
   have HP:=zh hput
   have hlook:(Instr.lookup 275 (.map (sS mb)) (vi iQ id) fF).run tp wr=.ok (vi iQ (aL s' id)) wr:=by
    have:=kt (P:=tp) h'.map Tryz.underlying275 Tryz.underlying3 id (λw=>Tryz.zeroValue2 w)
    rw [lP] at this
    rw [this]
    unfold aL
    cases aC s'.dues id<;>rfl
   have hown:=h'.own _ hkk
   have hap:=λj hj hjk=>h'.apart _ j hkk hj hjk
   clear hput
   generalize hkd:aP s'.now (aL s' id)=k at *
   have hK:=zh hkd
   clear hkd
   generalize aL s' id=due at *
   have cM:=h'.cellMap
   obtain ⟨cs,hcs,_⟩:=h'.obj
   have hsz:=h'.lt
   generalize ho:2+k=o at *
   have hO:=zh ho
   clear ho
   rw [kv]
   go_wp2_with (first
    | (
     go_at_call 324
     refine (hL0 _ (by exact h'.same rfl)).r λk1=>?_
     )
    | (
     at_builtin
     refine cE rfl _ _ rfl (by exact hl0.keep (((af.refl [] wr).drewN _).alloc _) sM) hlen (ai _ _) rfl rfl ?_
     rintro g2 cap2 w2 hL2 m2 hg2
     have mA:af (lF (G' k).1) wr w2:=af.trans (S:=lF (G' k).1) (T:=lF (G' k).1) ((mR.drewN _).alloc _) m2 (λ_ h=>.inl h)
     have hdn:d∉lF (G' k).1:=λhd=>(hown d hd).1 rfl
     have hcs2:=mA.keep hcs hdn
     have c2:=mA.at hc0 hdn
     have f2:=ax hcs2 o
     have z2:=bY hcs2
     have H2:=zh (And.intro hL2 (And.intro mA hg2))
     clear hL2 mA hg2 m2 hcs2
     )
    )
   obtain ⟨hL2,mA,hg2⟩:=H2.out
   have hgg:∀ b,b∈lF (sS g2) -> b∈lF (G' k).1 \/ wr.heap.size <= b:=by
    intro b hb
    simp [lF] at hb
    subst hb
    rcases hg2 with hg2|hg2
    ·exact .inl hg2
    ·simp at hg2;right;omega
   have hW:=hset _ w2 mA (λb hb=>⟨(hown b hb).1,(hown b hb).2,λj hj hjk=>hap j hj (Ne.symm hjk) b hb⟩) (sS g2) cap2 _ hL2 hgg
   rw [show (s'.lists k++[id]).length=(s'.lists k).length+1 by simp,kv] at hW
   have hkb:∀ b,b∈lF (G' k).1 -> b∈az d mb G':=λb hb=>aB.2 (.inr (.inr ⟨k,hkk,hb⟩))
   have mB:=λv=>m.trans (T:=d :: lF (G' k).1) ((mA.mono (λb hb=>.inl (List.mem_cons_of_mem _ hb))).setCell (p:=⟨d,o,nN⟩) sM v) (λb hb=>by
    rcases List.mem_cons.1 hb with rfl|hb
    ·exact .inl (aB.2 (.inl rfl))
    ·exact hG b (hkb b hb))
   have hms:=m.size
   go_roundg (gk - 1)
   case measure=>omega
   case rel=>
    refine ⟨j+1,iY G' k (sS g2,cap2),by go_num,by omega,by rw [hSS.out,HP.out];exact hW,mB _,λb hb=>?_⟩
    rcases iX hb with hb|hb
    ·exact hG b hb
    ·rcases hgg b hb with hb|hb
     ·exact hG b (hkb b hb)
     ·right;omega
  ·have hT:ids.take j=ids:=List.take_of_length_le oM
   rw [hT] at h'
   go_wp2
   go_end0
   exact ⟨rfl,G',m,h',hG⟩
/-- What stands above the digits below level n. -/
def mh (n a:Nat):Nat:=a / 2 ^ (3 * n)
theorem oP (n a:Nat):mh n a=8 * mh (n+1) a+gm a n:=by
 unfold mh gm
 have e:2 ^ (3 * (n+1))=2 ^ (3 * n) * 8:=by rw [Nat.mul_add,Nat.pow_add]
 rw [e,<- Nat.div_div_eq_div_mul]
 omega
theorem uj (n:Nat) {a b:Nat} (h:a <= b):mh n a <= mh n b:=Nat.div_le_div_right h
theorem ui {n m a b:Nat} (hnm:n <= m) (h:mh n a=mh n b):mh m a=mh m b:=by
 unfold mh at *
 have e:3 * m=3 * n+3 * (m - n):=by omega
 rw [e,Nat.pow_add,<- Nat.div_div_eq_div_mul,<- Nat.div_div_eq_div_mul,h]
theorem CH (n a b:Nat):mh n a=mh n b↔a ^^^ b<2 ^ (3 * n):=by
 unfold mh
 rw [<- Nat.shiftRight_eq_div_pow,<- Nat.shiftRight_eq_div_pow]
 constructor
 ·intro h
  have h1:(a ^^^ b) >>> (3 * n)=0:=by rw [Nat.shiftRight_xor_distrib,h,Nat.xor_self]
  rw [Nat.shiftRight_eq_div_pow] at h1
  rcases Nat.lt_or_ge (a ^^^ b) (2 ^ (3 * n)) with h2|h2
  ·exact h2
  ·have:=Nat.div_pos h2 (Nat.pow_pos oM);omega
 ·intro h
  have h1:(a ^^^ b) >>> (3 * n)=0:=by rw [Nat.shiftRight_eq_div_pow];exact Nat.div_eq_of_lt h
  rw [Nat.shiftRight_xor_distrib] at h1
  apply Nat.eq_of_testBit_eq
  intro i
  have:=congrArg (λx=>x.testBit i) h1
  simpa [Nat.testBit_xor] using this
theorem zy (x:Nat):x<2 ^ 64 -> x<2 ^ Lib.bitLen x /\ (x≠0 -> 2 ^ (Lib.bitLen x - 1) <= x):=by
 induction x using Nat.strongRecOn with
 | ind x ih=>
  intro hx
  by_cases h0:x=0
  ·subst h0
   exact ⟨by show 0<_;exact Nat.pow_pos oM,λh=>absurd rfl h⟩
  ·have e:=Lib.bitLen_half x h0 hx
   obtain ⟨i1,i2⟩:=ih (x / 2) oM oM
   rw [e]
   refine ⟨?_,λ_=>?_⟩
   ·rw [Nat.add_comm,Nat.pow_succ];omega
   ·by_cases h1:x / 2=0
    ·rw [h1]
     show 2 ^ (1+0 - 1) <= x
     omega
    ·have hp:=nx h1
     have:=i2 h1
     have e2:2 ^ (1+Lib.bitLen (x / 2) - 1)=2 ^ (Lib.bitLen (x / 2) - 1) * 2:=by rw [<- Nat.pow_succ];congr 1;omega
     rw [e2];omega
theorem lr {a b:Nat} (h:a≠b) (ha:a <= 1152921504606846976) (hb:b <= 1152921504606846976):mh (aU a b+1) a=mh (aU a b+1) b /\ mh (aU a b) a≠mh (aU a b) b:=by
 have hx:=Fx h
 have hx2:a ^^^ b<2 ^ 62:=Nat.xor_lt_two_pow oM oM
 obtain ⟨h1,h2⟩:=zy (a ^^^ b) oM
 have h3:=h2 hx
 have hp:=nx hx
 refine ⟨(CH _ _ _).2 (Nat.lt_of_lt_of_le h1 (Nat.pow_le_pow_right oM ?_)),λhe=>?_⟩
 ·unfold aU;omega
 ·have h4:=(CH _ _ _).1 he
  have h5:2 ^ (3 * aU a b) <= 2 ^ (Lib.bitLen (a ^^^ b) - 1):=Nat.pow_le_pow_right oM (by unfold aU;omega)
  omega
theorem tf {a b m:Nat} (ha:a <= 1152921504606846976) (hb:b <= 1152921504606846976) (h1:mh (m+1) a=mh (m+1) b) (h2:mh m a≠mh m b):aU a b=m:=by
 have hne:a≠b:=λh=>h2 (by rw [h])
 obtain ⟨s1,s2⟩:=lr hne ha hb
 rcases Nat.lt_trichotomy (aU a b) m with h|h|h
 ·exact absurd (ui oM s1) h2
 ·exact h
 ·exact absurd (ui oM h1) s2
theorem xP {n a b:Nat} (h:mh n a<mh n b):a<b:=by
 rcases Nat.lt_or_ge a b with h1|h1
 ·exact h1
 ·have:=uj n h1;omega
/-- A thing that lies beyond what a Go to t takes Cq where it is. -/
theorem BR {now t due:Nat} (hn:now<t) (hd:now<due) (ht:t <= 1152921504606846976) (hdd:due <= 1152921504606846976)
  (h:¬ (aU due now<aU t now \/ (aU due now=aU t now /\ gm due (aU due now) <= gm t (aU t now)))):aP t due=aP now due:=by
 obtain ⟨a1,a2⟩:=lr (a:=due) (b:=now) oM hdd oM
 obtain ⟨b1,b2⟩:=lr (a:=t) (b:=now) oM ht oM
 have key:t<due /\ aU due t=aU due now:=by
  generalize aU due now=lv at *
  generalize aU t now=top at *
  rcases Nat.lt_trichotomy lv top with hl|hl|hl
  ·exact absurd (.inl hl) h
  ·subst hl
   have hdig:gm t lv<gm due lv:=by
    rcases Nat.lt_or_ge (gm t lv) (gm due lv) with h1|h1
    ·exact h1
    ·exact absurd (.inr ⟨rfl,h1⟩) h
   have e:mh (lv+1) due=mh (lv+1) t:=a1.trans b1.symm
   have s1:=oP lv due
   have s2:=oP lv t
   rw [e] at s1
   exact ⟨xP (n:=lv) oM,tf hdd ht e oM⟩
  ·have e0:mh lv t=mh lv now:=ui oM b1
   have e1:mh (lv+1) t=mh (lv+1) now:=ui oM b1
   have hge:=uj lv (Nat.le_of_lt hd)
   refine ⟨xP (n:=lv) oM,tf hdd ht (a1.trans e1.symm) (by rw [e0];exact a2)⟩
 unfold aP
 rw [nG oM,nG oM,key.2]
/-- What lies in an earlier slot is due earlier. -/
theorem BS {now a b:Nat} (hn:now <= 1152921504606846976) (ha:now<a) (hb:now<b) (haa:a <= 1152921504606846976) (hbb:b <= 1152921504606846976) (h:aP now a<aP now b):a<b:=by
 unfold aP at h
 rw [nG oM,nG oM] at h
 obtain ⟨a1,a2⟩:=lr (a:=a) (b:=now) oM haa hn
 obtain ⟨b1,b2⟩:=lr (a:=b) (b:=now) oM hbb hn
 have d1:=ig a (aU a now)
 have d2:=ig b (aU b now)
 generalize aU a now=la at *
 generalize aU b now=lb at *
 rcases Nat.lt_or_ge la lb with hl|hl
 ·have e0:mh lb a=mh lb now:=ui oM a1
  have hge:=uj lb (Nat.le_of_lt hb)
  exact xP (n:=lb) oM
 ·have e:la=lb:=by omega
  subst e
  have e:mh (la+1) a=mh (la+1) b:=a1.trans b1.symm
  have s1:=oP la a
  have s2:=oP la b
  rw [e] at s1
  exact xP (n:=la) oM
/-- What every wheel's state keeps. -/
structure SW.ok (s:SW):Prop where
 now:s.now <= 1152921504606846976
 due:∀ p,p∈s.dues -> p.2 <= 1152921504606846976
theorem wX:∀ {m:List (Int × Nat)} {i:Int} {j n v:Nat},cQ m i j=sS (n,v) -> (i,v)∈m
 | p :: m,i,j,n,v,h=>by
  unfold cQ at h
  split at h
  ·rename_i e
   simp at h
   obtain ⟨_,rfl⟩:=h
   rw [e];exact List.mem_cons_self
  ·exact List.mem_cons_of_mem _ (wX h)
theorem oV {m:List (Int × Nat)} {i:Int} {v:Nat} (h:aC m i=sS v):(i,v)∈m:=by
 unfold aC at h
 obtain ⟨⟨n,v'⟩,h1,h2⟩:=Option.map_eq_some_iff.1 h
 simp at h2
 subst h2
 exact wX h1
theorem xV {s:SW} (h:s.ok) (i:Int):aL s i <= 1152921504606846976:=by
 unfold aL
 cases e:aC s.dues i with
 | none=>simp
 | some v=>exact h.due _ (oV e)
theorem Hn {m:List (Int × Nat)} {i:Int} {v:Nat} {p:Int × Nat} (h:p∈gT m i v):p∈m \/ p=(i,v):=by
 unfold gT at h
 split at h
 ·exact List.mem_or_eq_of_mem_set h
 ·simpa using h
theorem SW.ok.put {s:SW} (h:s.ok) (i:Int):(s.put i).ok:=⟨h.now,h.due⟩
theorem SW.ok.puts {s:SW} (h:s.ok):∀ ids,(s.puts ids).ok:=λids=>⟨by rw [nQ];exact h.now,by rw [lN];exact h.due⟩
def SW.setDue (s:SW) (id:Int) (due:Nat):SW:={ s with dues:=gT s.dues id due }
theorem SW.ok.setDue {s:SW} (h:s.ok) (i:Int) {v:Nat} (hv:v <= 1152921504606846976):(s.setDue i v).ok:=⟨h.now,λp hp=>by
 rcases Hn hp with hp|rfl
 ·exact h.due p hp
 ·exact hv⟩
theorem aw.setMap {w w1:wW} {d mb:Nat} {G:Nat -> Option Nat × Nat} {s:SW} (h:aw w d mb G s) (m:af [mb] w w1) {l:List (Int × Nat)} (hm:bR .i64 w1 mb (cz l)):aw w1 d mb G { s with dues:=l }:=by
 obtain ⟨cs,h1,h2⟩:=h.obj
 exact ⟨⟨cs,m.keep h1 (by simp;exact λe=>h.ne e.symm),h2⟩,hm,λk hk=>(h.list k hk).keep m (λb hb=>by simp;exact (h.own k hk b hb).2),h.ne,h.own,h.apart⟩
/-- Add: the errno; the wheel behind it. -/
def SW.addE (s:SW) (id due:Int):Int:=if ¬ aV due then 2 else if (aC s.dues id).isSome then 6 else 0
def SW.add (s:SW) (id due:Int):SW:=if s.addE id due=0 then (s.setDue id due.toNat).put id else s
/-- The three reads of the map. -/
theorem ie {w:wW} {d mb:Nat} {G:Nat -> Option Nat × Nat} {s:SW} (h:aw w d mb G s) (id:Int):
  (Instr.lookup 275 (.map (sS mb)) (vi iQ id) tQ).run tp w=.ok (.tuple #[vi iQ (aL s id),vb (aC s.dues id).isSome]) w:=by
 have:=ll (P:=tp) h.map Tryz.underlying275 Tryz.underlying3 id (λw=>Tryz.zeroValue2 w)
 rw [lP] at this
 rw [this]
 unfold aL
 cases aC s.dues id<;>rfl
theorem Df (d mb:Nat) (G:Nat -> Option Nat × Nat) (s:SW) (w:wW) (h:aw w d mb G s) (hok:s.ok) (hb:∀ k,k <= 168 -> (s.lists k).length+1<1000000) (id due:Int):
  Calls tp 286 #[vp (sS ⟨d,0,nN⟩),vi iQ id,vi iQ due] w (pk d mb G (vi iQ (s.addE id due)) (s.add id due) w):=by
 have cM:=h.cellMap
 have hlk:=ie h id
 by_cases hr:aV due
 ·have hr2:=decide_eq_true hr
  by_cases hs:(aC s.dues id).isSome=tQ
  ·have hE:s.addE id due=6:=by unfold SW.addE;rw [nG (by simpa using hr),pG hs]
   have hA:s.add id due=s:=by unfold SW.add;rw [nG oM]
   rw [hE,hA]
   rw [hs] at hlk
   clear hE hA hs
   generalize aL s id=du at *
   go_in
   go_wp2_with (first
    | (
     go_at_call 174
     refine (dH _ _).r λk1=>?_
     )
    )
   go_ret
   exact ⟨rfl,G,mR.drewN _,h.same rfl,λb hb=>.inl hb⟩
  ·have hE:s.addE id due=0:=by unfold SW.addE;rw [nG (by simpa using hr),nG hs]
   have hA:s.add id due=(s.setDue id due.toNat).put id:=by unfold SW.add;rw [pG hE]
   rw [hE,hA]
   have hs':(aC s.dues id).isSome=fF:=by simpa using hs
   rw [hs'] at hlk
   obtain ⟨t,rfl⟩:=iN hr.1
   have hT:((t:Nat):Int).toNat=t:=by omega
   have hok':=hok.setDue id (v:=t) (by have:=hr.2;omega)
   rw [hT]
   clear hE hA hs hs' hT hr
   generalize aL s id=du at *
   have hmu:=λk=>iI (w:=w.drewN k) (P:=tp) (h.map.same rfl) Tryz.underlying275 Tryz.underlying3 id (vi iQ (t:Nat))
   go_in
   go_wp2_with (first
    | (
     go_at_call 174
     refine (dH _ _).r λk1=>?_
     obtain ⟨w1,hrun,m1,x1⟩:=hmu k1
     rw [vY] at x1
     )
    | (
     go_at_call 281
     have hW1:=aw.setMap (h.same (w':=w.drewN k1) rfl) m1 x1
     have hlt1:=hW1.lt
     have hW2:=hW1.keep (S:=[]) ((af.refl [] w1).alloc (.cells #[vi iQ id] 3)) sM
     refine (vA d mb G _ _ (by exact hW2) hok'.now (xV hok') (sS w1.heap.size) 1 [id] ⟨_,ai _ _,by simp,by simp [maxLen],by simp,by simp⟩ (by simp [lF];intro hh;have:=hlt1 _ hh;omega) (by intro k hk;exact hb k hk)).mono ?_
     rintro e w3 ⟨rfl,G3,m3,x3,g3⟩
     )
    )
   go_ret
   have mA:af (az d mb G) w w1:=m1.undrewN.mono (by simp;exact .inl (aB.2 (.inr (.inl rfl))))
   have mB:af (az d mb G) w w3:=(mA.alloc _).trans m3 (λb hb=>.inl hb)
   have hs1:=mA.size
   exact ⟨rfl,G3,mB,x3,λb hb=>by
    rcases g3 b hb with hb|hb
    ·exact .inl hb
    ·right;simp at hb;omega⟩
 ·have hr2:=decide_eq_false hr
  have hE:s.addE id due=2:=by unfold SW.addE;rw [pG hr]
  have hA:s.add id due=s:=by unfold SW.add;rw [nG oM]
  rw [hE,hA]
  clear hE hA
  generalize aL s id=du at *
  generalize (aC s.dues id).isSome=bb at *
  go_in
  go_wp2_with (first
   | (
    go_at_call 174
    refine (dH _ _).r λk1=>?_
    )
   )
  go_ret
  exact ⟨rfl,G,mR.drewN _,h.same rfl,λb hb=>.inl hb⟩
theorem Ax (d mb:Nat) (G:Nat -> Option Nat × Nat) (s:SW) (w:wW) (h:aw w d mb G s) (id:Int):Calls tp 358 #[vp (sS ⟨d,0,nN⟩),vi iQ id] w (au (.tuple #[vi iQ (aL s id),vb (aC s.dues id).isSome]) w):=by
 have cM:=h.cellMap
 have hlk:=ie h id
 generalize aL s id=du at *
 generalize (aC s.dues id).isSome=bb at *
 go_in
 go_wp2
 go_ret2
 exact au.of (rfl) dz
/-- The lists of a level from digit 0 on, one behind the other; the wheel without them. -/
def SW.tookN (s:SW) (lv:Nat):Nat -> List Int
 | 0=>[]
 | n+1=>s.tookN lv n++s.lists (lv * 8+n)
def SW.leaveN (s:SW) (lv:Nat):Nat -> SW
 | 0=>s
 | n+1=>{ s.leaveN lv n with lists:=iY (s.leaveN lv n).lists (lv * 8+n) [] }
theorem tq (s:SW) (lv:Nat):∀ n,(s.leaveN lv n).now=s.now
 | 0=>rfl
 | n+1=>tq s lv n
theorem dM (s:SW) (lv:Nat):∀ n,(s.leaveN lv n).dues=s.dues
 | 0=>rfl
 | n+1=>dM s lv n
theorem fA (s:SW) (lv k:Nat):∀ n,(s.leaveN lv n).lists k=if lv * 8 <= k /\ k<lv * 8+n then [] else s.lists k
 | 0=>by rw [nG oM];rfl
 | n+1=>by
  show iY (s.leaveN lv n).lists (lv * 8+n) [] k=_
  by_cases e:k=lv * 8+n
  ·subst e;rw [aJ,pG oM]
  ·rw [bc _ _ e,fA s lv k n]
   by_cases h:lv * 8 <= k /\ k<lv * 8+n
   ·rw [pG h,pG oM]
   ·rw [nG h,nG oM]
/-- append of a whole slice. -/
theorem fG.appendAll {w:wW} {g:Option Nat} {cap:Nat} {l:List Int} (h:fG w g cap l) {g2:Option Nat} {cap2:Nat} {l2:List Int} (h2:fG w g2 cap2 l2) (hl:l.length+l2.length<1000000):
  ∃ g' cap' w',(∀ ty,(Builtin.append_ #[30,30] ty #[.slice (lA g) l.length cap,.slice (lA g2) l2.length cap2]).run tp w=.ok (.slice (lA g') (l.length+l2.length) cap') w') /\
   fG w' g' cap' (l++l2) /\ af (lF g) w w' /\ ∀ b,b∈lF g' -> b∈lF g \/ b=w.heap.size:=by
 have hI:=oN
 obtain ⟨i,hi,hi2⟩:=Option.map_eq_some_iff.1 hI
 simp only [Prod.mk.injEq] at hi2
 obtain ⟨i1,i2,i3⟩:=hi2
 cases g2 with
 | none=>
  obtain ⟨rfl,rfl⟩:=h2
  refine ⟨g,cap,w,λty=>?_,by simpa using h,af.refl _ _,λb hb=>.inl hb⟩
  exact run_append_owned_none (P:=tp) w 0 30 ty 3 i 1 Tryz.underlying30 hi _ _ _ h.owns
 | some b2=>
  obtain ⟨v',w',hr,x2,x3,x4,x5⟩:=run_append_own_at (P:=tp) (w:=w) 0 30 0 3 i (vi iQ 0) 1 8 Tryz.underlying30 hi i1 i2 i3 rfl oM _ _ _ h.owns ⟨b2,0,nN⟩ l2.length cap2 (l2.map (vi iQ)) sM (by
   intro j u hj
   rw [show Addr.add ⟨b2,0,nN⟩ j=⟨b2,j,nN⟩ by simp [Addr.add];exact λh=>h.symm]
   have hjl:j<l2.length:=by have:=(List.getElem?_eq_some_iff.1 hj).1;simpa using this
   obtain ⟨b,e,hc⟩:=h2.cell hjl
   cases e
   rw [hc]
   rw [List.getElem?_map,List.getElem?_eq_getElem hjl] at hj
   simp at hj
   rw [<- hj]
   simp [ar,List.getD,hjl]) (by
   intro u hu
   obtain ⟨z,_,rfl⟩:=List.mem_map.1 hu
   rfl) (by unfold maxLen;omega) oM oM
  have hB:(Value.slice (lA g) l.length cap).ownBlock=g:=by cases g<;>rfl
  rw [hB] at x3 x5
  have hm:af (lF g) w w':=⟨x3.os,x3.tape,x3.output,x3.size,λk hk hS=>x3.block k hk (by rintro rfl;exact hS (by simp [lF]))⟩
  have hrun:∀ ty,(Builtin.append_ #[30,30] ty #[.slice (lA g) l.length cap,.slice (lA (sS b2)) l2.length cap2]).run tp w=.ok v' w':=by
   intro ty
   have:(Builtin.append_ #[30,30] ty #[.slice (lA g) l.length cap,.slice (lA (sS b2)) l2.length cap2])=(Builtin.append_ #[30,30] 0 #[.slice (lA g) l.length cap,.slice (sS ⟨b2,0,nN⟩) l2.length cap2]):=rfl
   rw [this];exact hr
  rcases x2.2 with ⟨hv,h0⟩|⟨g3,cap3,cur,hv,_,q1,q2,q3,q4,q5⟩
  ·subst hv
   have e1:l=[]:=List.eq_nil_of_length_eq_zero oM
   have e2:l2=[]:=List.eq_nil_of_length_eq_zero oM
   subst e1 e2
   exact ⟨nN,0,w',hrun,⟨rfl,rfl⟩,hm,by simp [lF]⟩
  ·subst hv
   refine ⟨sS g3,cap3,w',hrun,⟨cur,q1,by simpa using q2,q3,by omega,by rw [Nat.mul_one] at q5;simpa using q5⟩,hm,?_⟩
   intro b hb
   simp [lF] at hb
   subst hb
   rcases x5 with x5|x5
   ·left
    have:sS b=g:=x5
    rw [<- this];simp [lF]
   ·right
    have:sS b=sS w.heap.size:=x5
    simpa using this
theorem jx (s:SW) (lv M:Nat) (hM:∀ k,(s.lists k).length <= M):∀ n,(s.tookN lv n).length <= n * M
 | 0=>by simp [SW.tookN]
 | n+1=>by
  have:=jx s lv M hM n
  have:=hM (lv * 8+n)
  simp only [SW.tookN,List.length_append,Nat.add_mul]
  omega
/-- What taken hands back: a new list of the call's own. -/
def JL (d mb:Nat) (G:Nat -> Option Nat × Nat) (l:List Int) (s:SW) (w:wW) (e:Ending) (w':wW):Prop:=
 ∃ go cap G',e=.returned (.slice (lA go) l.length cap) /\ fG w' go cap l /\ af (az d mb G) w w' /\ aw w' d mb G' s /\ (∀ b,b∈az d mb G' -> b∈az d mb G \/ w.heap.size <= b) /\ ∀ b,b∈lF go -> w.heap.size <= b /\ b∉az d mb G'
theorem qu (d mb:Nat) (G:Nat -> Option Nat × Nat) (s:SW) (w:wW) (h:aw w d mb G s) (lv n:Nat) (hlv:lv <= 20) (hn:n <= 8) (hM:∀ k,(s.lists k).length <= 10000):
  Calls tp 279 #[vp (sS ⟨d,0,nN⟩),vi iQ lv,vi iQ n] w (JL d mb G (s.tookN lv n) (s.leaveN lv n) w):=by
 go_in
 go_wp2
 go_loopg [7,11] n (λgg out i wr=>∃ (j:Nat) (go:Option Nat) (cap:Nat) (G':Nat -> Option Nat × Nat),i=vi iQ j /\ j+gg=n /\ out=.slice (lA go) (s.tookN lv j).length cap /\ fG wr go cap (s.tookN lv j) /\ aw wr d mb G' (s.leaveN lv j) /\ af (az d mb G) w wr /\ (∀ b,b∈az d mb G' -> b∈az d mb G \/ w.heap.size <= b) /\ ∀ b,b∈lF go -> w.heap.size <= b /\ b∉az d mb G')
 case atStart=>exact ⟨0,nN,0,G,rfl,by omega,rfl,⟨rfl,rfl⟩,h,af.refl _ _,λb hb=>.inl hb,by simp [lF]⟩
 case round=>
  obtain ⟨j,go,cap,G',rfl,hj,rfl,hL,h',m,hG,hgo⟩:=hrel
  by_cases hlt:j<n
  ·have hk:lv * 8+j <= 168:=by omega
   have hc0:=h'.cellList hk
   have hl0:=h'.list _ hk
   have hll:(s.leaveN lv j).lists (lv * 8+j)=s.lists (lv * 8+j):=by rw [fA,nG oM]
   have hlen:=jx s lv 10000 hM j
   have hlen2:=hM (lv * 8+j)
   have hlen3:j * 10000 <= 80000:=by omega
   have hT:=zh (show s.tookN lv (j+1)=s.tookN lv j++s.lists (lv * 8+j) from rfl)
   have hset:=λ(S:List Nat) (w1:wW) (m:af S wr w1) (hS)=>h'.setList hk m hS (g':=nN) (cap':=0) (l':=[]) ⟨rfl,rfl⟩ (by simp [lF])
   have hV:=zh (show s.leaveN lv (j+1)={ s.leaveN lv j with lists:=iY (s.leaveN lv j).lists (lv * 8+j) [] } from rfl)
   rw [hll] at hl0 hc0
   obtain ⟨cs,hcs,_⟩:=h'.obj
   obtain ⟨go',cap',w2,hrun,x1,x2,x3⟩:=fG.appendAll hL hl0 oM
   have hnb:∀ b,b∈lF go -> b∉az d mb G':=λb hb=>(hgo b hb).2
   have hdn:d∉lF go:=λhd=>hnb d hd (aB.2 (.inl rfl))
   have hcs2:=x2.keep hcs hdn
   have c2:=x2.at hc0 hdn
   have hW:=hset (lF go) w2 x2 (λb hb=>⟨λe=>hnb b hb (aB.2 (.inl e)),λe=>hnb b hb (aB.2 (.inr (.inl e))),λi hi _ hbi=>hnb b hb (aB.2 (.inr (.inr ⟨i,hi,hbi⟩)))⟩)
   clear hset hlen hlen2 hlen3 hll
   have ha:2+(lv * 8+j)=2+lv * 8+j:=by omega
   rw [ha] at hc0 c2 hW
   have f2:=ax hcs2 (2+lv * 8+j)
   have z2:=bY hcs2
   have hj8:j<8:=by omega
   clear ha
   have HX:=zh (And.intro hW (And.intro x1 (And.intro x2 x3)))
   clear hW x1 x2 x3
   generalize s.tookN lv j=lj at *
   generalize (s.lists (lv * 8+j))=sj at *
   go_wp2_with (first
    | (
     at_builtin
     refine aM rfl _ _ _ rfl rfl rfl (hrun _) ?_
     )
    )
   obtain ⟨hW,x1,x2,x3⟩:=HX.out
   have hms:=m.size
   have hd0:d∈az d mb G:=aB.2 (.inl rfl)
   have hgo':∀ b,b∈lF go' -> w.heap.size <= b /\ b∉az d mb G':=by
    intro b hb
    rcases x3 b hb with hb|hb
    ·exact hgo b hb
    ·exact ⟨by omega,λhb'=>by have:=h'.lt b hb';omega⟩
   have mB:∀ v,af (az d mb G) w (w2.setCell ⟨d,2+lv * 8+j,nN⟩ v):=λv=>(m.trans x2 (λb hb=>.inr (hgo b hb).1)).setCell (.inl hd0) v
   have hdg:∀ b,b∈lF go' -> b∉[d]:=by
    intro b hb
    have:=(hgo' b hb).2
    simp
    rintro rfl
    exact this (aB.2 (.inl rfl))
   have hxx:∀ v,fG (w2.setCell ⟨d,2+lv * 8+j,nN⟩ v) go' cap' (lj++sj):=λv=>x1.keep ((af.refl [d] _).setCell sM _) hdg
   go_roundg (gk - 1)
   case measure=>omega
   case rel=>
    refine ⟨j+1,go',cap',_,by go_num,by omega,by rw [hT.out];simp,by rw [hT.out];exact hxx _,by rw [hV.out];exact hW,mB _,λb hb=>?_,λb hb=>⟨(hgo' b hb).1,λhb'=>?_⟩⟩
    ·rcases iX hb with hb|hb
     ·exact hG b hb
     ·simp [lF] at hb
    ·rcases iX hb' with hb'|hb'
     ·exact (hgo' b hb).2 hb'
     ·simp [lF] at hb'
  ·have hT:j=n:=by omega
   subst hT
   go_wp2
   go_ret
   exact ⟨go,cap,G',rfl,hL,m,h',hG,hgo⟩
/-- The lists of all levels below n; the wheel without them. -/
def SW.goN (s:SW):Nat -> List Int × SW
 | 0=>([],s)
 | n+1=>((s.goN n).1++(s.goN n).2.tookN n 8,(s.goN n).2.leaveN n 8)
theorem Jz (s:SW):∀ n,(s.goN n).2.now=s.now
 | 0=>rfl
 | n+1=>(tq _ _ _).trans (Jz s n)
theorem jK (s:SW):∀ n,(s.goN n).2.dues=s.dues
 | 0=>rfl
 | n+1=>(dM _ _ _).trans (jK s n)
theorem tr (s:SW) (lv M:Nat) (hM:∀ k,(s.lists k).length <= M) (n k:Nat):((s.leaveN lv n).lists k).length <= M:=by
 rw [fA]
 split
 ·simp
 ·exact hM k
theorem CI (s:SW) (M:Nat) (hM:∀ k,(s.lists k).length <= M):∀ n,(s.goN n).1.length <= n * (8 * M) /\ ∀ k,((s.goN n).2.lists k).length <= M
 | 0=>⟨by simp [SW.goN],hM⟩
 | n+1=>by
  obtain ⟨h1,h2⟩:=CI s M hM n
  refine ⟨?_,λk=>tr _ n M h2 8 k⟩
  have h3:=jx _ n M h2 8
  have e:(n+1) * (8 * M)=n * (8 * M)+8 * M:=by rw [Nat.add_mul,Nat.one_mul]
  simp only [SW.goN,List.length_append]
  omega
/-- The wheel behind a Go to a later tick. -/
def SW.gone (s:SW) (t:Nat):List Int:=(s.goN (aU t s.now)).1++(s.goN (aU t s.now)).2.tookN (aU t s.now) (gm t (aU t s.now)+1)
def SW.left (s:SW) (t:Nat):SW:={ (s.goN (aU t s.now)).2.leaveN (aU t s.now) (gm t (aU t s.now)+1) with now:=t }
def SW.goTo (s:SW) (t:Nat):SW:=(s.left t).puts (s.gone t)
def SW.goE (s:SW) (t:Int):Int:=if t<s.now \/ ¬ aV t then 2 else 0
def SW.go (s:SW) (t:Int):SW:=if t<s.now \/ ¬ aV t then s else if t=s.now then s else s.goTo t.toNat
theorem aw.setNow {w:wW} {d mb:Nat} {G:Nat -> Option Nat × Nat} {s:SW} (h:aw w d mb G s) (n:Nat):aw (w.setCell ⟨d,0,nN⟩ (vi iQ n)) d mb G { s with now:=n }:=by
 obtain ⟨cs,h1,h2,h3,h4,h5⟩:=h.obj
 have mc:af [d] w (w.setCell ⟨d,0,nN⟩ (vi iQ n)):=mR.setCell sM _
 refine ⟨⟨_,ba h1 0 _,by simp [h2],?_,?_,?_⟩,h.map.keep mc (by simp;exact h.ne),λk hk=>(h.list k hk).keep mc (λb hb=>by simp;exact (h.own k hk b hb).1),h.ne,h.own,h.apart⟩
 ·rw [Array.getElem?_setIfInBounds_self_of_lt oM]
 ·rw [Array.getElem?_setIfInBounds_ne oM];exact h4
 ·intro k hk
  rw [Array.getElem?_setIfInBounds_ne oM];exact h5 k hk
theorem FD (d mb:Nat) (G:Nat -> Option Nat × Nat) (s:SW) (w:wW) (h:aw w d mb G s) (hok:s.ok) (hM:∀ k,(s.lists k).length <= 1000) (t:Int):
  Calls tp 209 #[vp (sS ⟨d,0,nN⟩),vi iQ t] w (pk d mb G (vi iQ (s.goE t)) (s.go t) w):=by
 have c0:=h.cellNow
 by_cases hlt:t<s.now
 ·have hE:s.goE t=2:=pG (.inl hlt)
  have hS:s.go t=s:=pG (.inl hlt)
  rw [hE,hS]
  clear hE hS
  go_in
  go_wp2
  go_ret
  exact ⟨rfl,G,af.refl _ _,h,λb hb=>.inl hb⟩
 by_cases hr:aV t
 case neg=>
  have hE:s.goE t=2:=pG (.inr hr)
  have hS:s.go t=s:=pG (.inr hr)
  have hr2:=decide_eq_false hr
  rw [hE,hS]
  clear hE hS hr
  go_in
  go_wp2_with (go_at_call 174;refine (dH _ _).r λk1=>?_)
  go_ret
  exact ⟨rfl,G,mR.drewN _,h.same rfl,λb hb=>.inl hb⟩
 have hE:s.goE t=0:=nG (λhh=>hh.elim hlt (λhh=>hh hr))
 have hS:s.go t=if t=s.now then s else s.goTo t.toNat:=nG (λhh=>hh.elim hlt (λhh=>hh hr))
 have hr2:=decide_eq_true hr
 rw [hE,hS]
 clear hE hS
 by_cases he:t=s.now
 ·rw [pG he]
  subst he
  clear hr
  go_in
  go_wp2_with (go_at_call 174;refine (dH _ _).r λk1=>?_)
  go_ret
  exact ⟨rfl,G,mR.drewN _,h.same rfl,λb hb=>.inl hb⟩
 rw [nG he]
 obtain ⟨n,rfl⟩:=iN hr.1
 have hn:=hr.2
 have hT:((n:Nat):Int).toNat=n:=by omega
 rw [hT]
 have hnow:=hok.now
 have hL0:=λw=>qw n s.now oM hnow oM w
 have hlv:=oo (a:=n) (b:=s.now) oM hnow
 have hD0:=λw=>qx n (aU n s.now) oM hlv w
 have hdb:=ig n (aU n s.now)
 unfold SW.goTo SW.left SW.gone
 clear hr hT
 generalize gm n (aU n s.now)=dg at *
 generalize aU n s.now=top at *
 have hd0:d∈az d mb G:=aB.2 (.inl rfl)
 go_in
 go_wp2_with (first
  | (go_at_call 174;refine (dH _ _).r λk1=>?_)
  | (go_at_call 278;refine (hL0 _).r λk2=>?_))
 go_loopg [6,37] top (λgg out i wr=>∃ (j:Nat) (go:Option Nat) (cap:Nat) (G':Nat -> Option Nat × Nat),i=vi iQ j /\ j+gg=top /\ out=.slice (lA go) (s.goN j).1.length cap /\ fG wr go cap (s.goN j).1 /\ aw wr d mb G' (s.goN j).2 /\ af (az d mb G) w wr /\ (∀ b,b∈az d mb G' -> b∈az d mb G \/ w.heap.size <= b) /\ ∀ b,b∈lF go -> w.heap.size <= b /\ b∉az d mb G')
 case atStart=>exact ⟨0,nN,0,G,rfl,by omega,rfl,⟨rfl,rfl⟩,h.same rfl,mR.drewN _,λb hb=>.inl hb,by simp [lF]⟩
 case round=>
  obtain ⟨j,go,cap,G',rfl,hj,rfl,hL,h',m,hG,hgo⟩:=hrel
  obtain ⟨hgl,hM'⟩:=CI s 1000 hM j
  have hM2:∀ k,((s.goN j).2.lists k).length <= 10000:=λk=>by have:=hM' k;omega
  by_cases hjt:j<top
  ·have hjt2:(j:Int)<top:=by omega
   have hgl2:j * (8 * 1000) <= 160000:=by omega
   have htl:=jx _ j 1000 hM' 8
   have h8:8 * 1000 <= 8000:=by omega
   have hSS:=zh (show (s.goN (j+1)).1=(s.goN j).1++(s.goN j).2.tookN j 8 from rfl)
   have hSS2:=zh (show (s.goN (j+1)).2=(s.goN j).2.leaveN j 8 from rfl)
   have hTk:=qu d mb G' (s.goN j).2 wr h' j 8 oM oM hM2
   clear hM2 hM' c0
   generalize (s.goN j).2.tookN j 8=tk at *
   generalize (s.goN j).2.leaveN j 8=sl at *
   generalize (s.goN j).2=sj at *
   generalize (s.goN j).1=lj at *
   go_wp2_with (first
    | (
     go_at_call 279
     refine hTk.mono ?_
     rintro e w2 ⟨gt,capt,G2,rfl,xt,mt,wt,gt2,gt3⟩
     have hLt:=hL.keep mt (λb hb=>(hgo b hb).2)
     obtain ⟨g3,cap3,w3,hrun,x1,x2,x3⟩:=fG.appendAll hLt xt oM
     have hgoL:=hL.lt
     have hdis:∀ b,b∈az d mb G2 -> b∉lF go:=by
      intro b hb hb'
      rcases gt2 b hb with hb2|hb2
      ·exact (hgo b hb').2 hb2
      ·have:=hgoL b hb';omega
     have hW3:=wt.keep x2 hdis
     have hms:=m.size
     have hmt:=mt.size
     have hg3:∀ b,b∈lF g3 -> w.heap.size <= b /\ b∉az d mb G2:=by
      intro b hb
      rcases x3 b hb with hb|hb
      ·exact ⟨(hgo b hb).1,λhb'=>hdis b hb' hb⟩
      ·exact ⟨by omega,λhb'=>by have:=wt.lt b hb';omega⟩
     have mB:af (az d mb G) w w3:=(m.trans mt (λb hb=>hG b hb)).trans x2 (λb hb=>.inr (hgo b hb).1)
     have hG2:∀ b,b∈az d mb G2 -> b∈az d mb G \/ w.heap.size <= b:=by
      intro b hb
      rcases gt2 b hb with hb|hb
      ·exact hG b hb
      ·right;omega
     have HX:=zh (And.intro hW3 (And.intro x1 (And.intro mB (And.intro hG2 hg3))))
     clear hW3 x1 mB hG2 hg3 x2 x3 hdis hLt xt mt wt gt2 gt3 hms hmt
     )
    | (
     at_builtin
     refine aM rfl _ _ _ rfl rfl rfl (hrun _) ?_
     )
    )
   obtain ⟨hW3,x1,mB,hG2,hg3⟩:=HX.out
   go_roundg (gk - 1)
   case measure=>omega
   case rel=>exact ⟨j+1,g3,cap3,G2,by go_num,by omega,by rw [hSS.out];simp,by rw [hSS.out];exact x1,by rw [hSS2.out];exact hW3,mB,hG2,hg3⟩
  ·have hT:j=top:=by omega
   subst hT
   have hgl2:j * (8 * 1000) <= 160000:=by omega
   have htl:=jx _ j 1000 hM' (dg+1)
   have h8:(dg+1) * 1000 <= 8000:=by omega
   have hMl:=tr _ j 1000 hM' (dg+1)
   have hln:=dM (s.goN j).2 j (dg+1)
   have hln2:=jK s j
   have hTk:=λ(w':wW) (hh:aw w' d mb G' (s.goN j).2)=>qu d mb G' (s.goN j).2 w' hh j (dg+1) oM oM hM2
   have ec:((dg+1:Nat):Int)=(dg:Int)+1:=by omega
   rw [ec] at hTk
   have hok2:SW.ok { (s.goN j).2.leaveN j (dg+1) with now:=n }:=⟨by simp only;omega,λp hp=>hok.due p (by rw [<- hln2,<- hln];exact hp)⟩
   clear hM2 hM' c0 ec hln hln2
   generalize (s.goN j).2.tookN j (dg+1)=tk at *
   generalize (s.goN j).2.leaveN j (dg+1)=sl at *
   generalize (s.goN j).2=sj at *
   generalize (s.goN j).1=lj at *
   go_wp2_with (first
    | (
     go_at_call 280
     refine (hD0 _).r λk3=>?_
     replace hL:=hL.same (w':=wr.drewN k3) rfl
     replace h':=h'.same (w':=wr.drewN k3) rfl
     replace m:=m.drewN k3
     replace hTk:=hTk _ h'
     generalize wr.drewN k3=wr3 at *
     )
    | (
     go_at_call 279
     refine hTk.mono ?_
     rintro e w2 ⟨gt,capt,G2,rfl,xt,mt,wt,gt2,gt3⟩
     have hLt:=hL.keep mt (λb hb=>(hgo b hb).2)
     obtain ⟨g3,cap3,w3,hrun,x1,x2,x3⟩:=fG.appendAll hLt xt oM
     have hgoL:=hL.lt
     have hdis:∀ b,b∈az d mb G2 -> b∉lF go:=by
      intro b hb hb'
      rcases gt2 b hb with hb2|hb2
      ·exact (hgo b hb').2 hb2
      ·have:=hgoL b hb';omega
     have hW3:=wt.keep x2 hdis
     have hms:=m.size
     have hmt:=mt.size
     have hg3:∀ b,b∈lF g3 -> w.heap.size <= b /\ b∉az d mb G2:=by
      intro b hb
      rcases x3 b hb with hb|hb
      ·exact ⟨(hgo b hb).1,λhb'=>hdis b hb' hb⟩
      ·exact ⟨by omega,λhb'=>by have:=wt.lt b hb';omega⟩
     have mB:af (az d mb G) w w3:=(m.trans mt (λb hb=>hG b hb)).trans x2 (λb hb=>.inr (hgo b hb).1)
     have hG2:∀ b,b∈az d mb G2 -> b∈az d mb G \/ w.heap.size <= b:=by
      intro b hb
      rcases gt2 b hb with hb|hb
      ·exact hG b hb
      ·right;omega
     have HX:=zh (And.intro hW3 (And.intro x1 (And.intro mB (And.intro hG2 hg3))))
     clear hW3 x1 mB hG2 hg3 x2 x3 hdis hLt xt mt wt gt2 gt3 hms hmt
     have c3:=HX.out.1.cellNow
     have f3:=HX.out.1.free 0
     have z3:=HX.out.1.lt d (aB.2 (.inl rfl))
     )
    | (
     at_builtin
     refine aM rfl _ _ _ rfl rfl rfl (hrun _) ?_
     )
    | (
     go_at_call 281
     have hP:=vA d mb G2 _ _ (HX.out.1.setNow n) hok2.now (xV hok2) g3 cap3 (lj++tk) (HX.out.2.1.keep ((af.refl [d] _).setCell sM _) (λb hb=>by
      have:=(HX.out.2.2.2.2 b hb).2
      simp
      rintro rfl
      exact this (aB.2 (.inl rfl)))) (λb hb=>(HX.out.2.2.2.2 b hb).2) (λk hk=>by have:=hMl k;simp;omega)
     rw [List.length_append] at hP
     refine hP.mono ?_
     rintro e w4 ⟨rfl,G4,m4,x4,g4⟩
     )
    )
   obtain ⟨hW3,x1,mB,hG2,hg3⟩:=HX.out
   go_ret
   have hms:=mB.size
   refine ⟨rfl,G4,(mB.setCell (.inl hd0) _).trans m4 (λb hb=>hG2 b hb),x4,λb hb=>?_⟩
   rcases g4 b hb with hb|hb
   ·exact hG2 b hb
   ·right;simp [lL] at hb;omega
/-- The number of the first list that holds something: the ready ones, then the slots; the last slot if there is none. -/
def SW.firstK (s:SW):Nat:=if s.lists 168≠[] then 168 else ((List.range 168).find? (λk=>!(s.lists k).isEmpty)).getD 167
theorem EU (s:SW):s.firstK <= 168:=by
 unfold SW.firstK
 split
 ·omega
 ·cases h:(List.range 168).find? (λk=>!(s.lists k).isEmpty) with
  | none=>simp
  | some k=>have:=List.mem_range.1 (List.mem_of_find?_eq_some h);simp;omega
theorem EV {s:SW} {k:Nat} (hr:s.lists 168=[]) (hk:k<168) (h0:∀ j,j<k -> s.lists j=[]) (h:s.lists k≠[]):s.firstK=k:=by
 unfold SW.firstK
 rw [nG (by simp [hr])]
 have:(List.range 168).find? (λk=>!(s.lists k).isEmpty)=sS k:=by
  rw [List.find?_eq_some_iff_getElem]
  refine ⟨by simpa using h,k,by simpa using hk,by simp,?_⟩
  intro j hj
  simp [h0 j hj]
 rw [this];rfl
theorem Ai {s:SW} (hr:s.lists 168=[]) (h0:∀ j,j<168 -> s.lists j=[]):s.firstK=167:=by
 unfold SW.firstK
 rw [nG (by simp [hr])]
 have:(List.range 168).find? (λk=>!(s.lists k).isEmpty)=none:=by
  rw [List.find?_eq_none]
  intro k hk
  have:=h0 k (List.mem_range.1 hk)
  simp [this]
 rw [this];rfl
/-- The slice value of list k. -/
def qC (G:Nat -> Option Nat × Nat) (s:SW) (k:Nat):Value:=.slice (lA (G k).1) (s.lists k).length (G k).2
def iE (G:Nat -> Option Nat × Nat) (s:SW):List Value:=(List.range 168).map (qC G s)
theorem sF {G:Nat -> Option Nat × Nat} {s:SW} {k:Nat} (h:k<168):(iE G s)[k]?=sS (qC G s k):=by
 simp [iE,h]
def JQ (G:Nat -> Option Nat × Nat) (s:SW) (lv:Nat):Array Value:=#[qC G s (lv * 8),qC G s (lv * 8+1),qC G s (lv * 8+2),qC G s (lv * 8+3),qC G s (lv * 8+4),qC G s (lv * 8+5),qC G s (lv * 8+6),qC G s (lv * 8+7)]
theorem uL {G:Nat -> Option Nat × Nat} {s:SW} {lv:Nat} (h:lv<21) (w:wW):(Instr.index 277 (.agg (iE G s).toArray) (vi iQ lv)).run tp w=.ok (.agg (JQ G s lv)) w:=by
 have h1:((lv:Nat):Int)<21:=by omega
 have hu:=Tryz.underlying277
 have e:((iE G s).toArray.extract (lv * 8) (lv * 8+8))=JQ G s lv:=by
  apply Array.ext_getElem?
  intro j
  rw [Array.getElem?_extract]
  by_cases hj:j<8
  ·have:lv * 8+j<168:=by omega
   simp only [List.size_toArray,List.getElem?_toArray]
   rw [pG (by simp [iE];omega),sF this]
   unfold JQ
   match j,hj with
   | 0,_=>rfl
   | 1,_=>rfl
   | 2,_=>rfl
   | 3,_=>rfl
   | 4,_=>rfl
   | 5,_=>rfl
   | 6,_=>rfl
   | 7,_=>rfl
  ·rw [nG (by simp [iE];omega)]
   unfold JQ
   simp;omega
 have h0:((lv:Nat):Int).toNat=lv:=by omega
 simp [Instr.index,asIntOf,Sem.run_bind,run_underlying hu,part,Tryz.isAgg276,Tryz.sizeOf276,h1,Result.andThen]
 rw [pG h]
 have e2:=e
 simp at e2
 rw [e2]
theorem uM {G:Nat -> Option Nat × Nat} {s:SW} (lv:Nat) {j:Nat} (h:j<8) (w:wW):(Instr.index 276 (.agg (JQ G s lv)) (vi iQ j)).run tp w=.ok (qC G s (lv * 8+j)) w:=by
 have h1:((j:Nat):Int)<8:=by omega
 have hu:=Tryz.underlying276
 have e:(JQ G s lv)[j]?=sS (qC G s (lv * 8+j)):=by
  unfold JQ
  match j,h with
  | 0,_=>rfl
  | 1,_=>rfl
  | 2,_=>rfl
  | 3,_=>rfl
  | 4,_=>rfl
  | 5,_=>rfl
  | 6,_=>rfl
  | 7,_=>rfl
 simp [Instr.index,asIntOf,Sem.run_bind,run_underlying hu,part,Tryz.isAgg30,Tryz.sizeOf30,h1,Result.andThen,e]
 intro hh
 omega
theorem yo (d mb:Nat) (G:Nat -> Option Nat × Nat) (s:SW) (w:wW) (h:aw w d mb G s):
  Calls tp 314 #[vp (sS ⟨d,0,nN⟩)] w (bL (qC G s s.firstK) [] w λ_=>True):=by
 have cR:w.cell? ⟨d,170,nN⟩=sS (.slice (lA (G 168).1) (s.lists 168).length (G 168).2):=h.cellList (k:=168) oM
 by_cases hr:s.lists 168=[]
 case neg=>
  have hK:s.firstK=168:=pG hr
  rw [hK]
  have hlen:0<(s.lists 168).length:=List.length_pos_iff.2 hr
  unfold qC
  clear hK hr
  go_in
  go_wp2
  go_step3
  go_wp2
  rw [Exit.noGoto_ret]
  go_ret
  exact bL.of rfl mR trivial
 have hrl:(s.lists 168).length=0:=by rw [hr];rfl
 rw [hrl] at cR
 have hrg:w.rangeAt d 2 (iE G s):=by
  intro j v hj
  have hlt:j<168:=by have:=(List.getElem?_eq_some_iff.1 hj).1;simpa [iE] using this
  rw [sF hlt] at hj
  simp at hj
  rw [<- hj]
  exact h.cellList oM
 have hinf:(tp.info? 277).map (·.size)=sS (iE G s).length:=by
  have:(tp.info? 277).map (·.size)=sS 168:=by kernel_rfl
  rw [this];simp [iE]
 have hix:=λlv hlv w=>uL (G:=G) (s:=s) (lv:=lv) hlv w
 have hat:∀ {k:Nat},k<168 -> (∀ j,j<k -> s.lists j=[]) -> s.lists k≠[] -> s.firstK=k:=λh1 h2 h3=>EV hr h1 h2 h3
 have hnone:=λh=>Ai (s:=s) hr h
 clear hr
 go_in
 go_wp2
 go_step3
 go_wp2
 go_step3
 go_wp2_with (refine wpList_load_mid rfl 277 _ rfl d 2 rfl (iE G s) _ hrg Tryz.underlying277 rfl hinf ?_)
 clear hrg hinf
 go_loopg [3,20] 21 (λgg out i wr=>∃ lv:Nat,i=vi iQ lv /\ lv+gg=21 /\ (∀ k,k<lv * 8 -> s.lists k=[]) /\ (0<lv -> out=qC G s (lv * 8 - 1)) /\ af [] w wr)
 case atStart=>exact ⟨0,rfl,by omega,λk hk=>by omega,λh=>by omega,af.refl _ _⟩
 case round=>
  obtain ⟨lv,rfl,hl,hE,ho,m⟩:=hrel
  by_cases hlt:lv<21
  ·have hlt2:(lv:Int)<21:=by omega
   have hx:=λw=>hix lv hlt w
   have hy:=λj hj w=>uM (G:=G) (s:=s) lv (j:=j) hj w
   have hlv:JQ G s lv=#[qC G s (lv * 8),qC G s (lv * 8+1),qC G s (lv * 8+2),qC G s (lv * 8+3),qC G s (lv * 8+4),qC G s (lv * 8+5),qC G s (lv * 8+6),qC G s (lv * 8+7)]:=rfl
   rw [hlv] at hx
   rw [hlv] at hy
   clear hix hlv
   simp only [qC] at hx hy ho
   go_wp2
   go_loopg [3,24] 8 (λgg out i wi=>∃ j:Nat,i=vi iQ j /\ j+gg=8 /\ (∀ k,k<lv * 8+j -> s.lists k=[]) /\ (0<lv * 8+j -> out=.slice (lA (G (lv * 8+j - 1)).1) (s.lists (lv * 8+j - 1)).length (G (lv * 8+j - 1)).2) /\ af [] w wi)
   case atStart=>
    refine ⟨0,rfl,by omega,hE,λh0=>ho oM,?_⟩
    refine af.trans (S:=[]) (T:=[wr.heap.size]) m ?_ (by simp;exact m.size)
    exact ms
   case round=>
    obtain ⟨j,rfl,hj,hE2,ho2,m2⟩:=hrel
    by_cases hj8:j<8
    ·have hj82:(j:Int)<8:=by omega
     have hyj:=λw=>hy j hj8 w
     clear hy hx
     by_cases hne:s.lists (lv * 8+j)=[]
     ·have hl0:(s.lists (lv * 8+j)).length=0:=by rw [hne];rfl
      rw [hl0] at hyj
      go_wp2
      go_roundg (8 - j - 1)
      case measure=>omega
      case rel=>
       refine ⟨j+1,by go_num,by omega,λk hk=>?_,λ_=>?_,m2⟩
       ·by_cases e:k=lv * 8+j
        ·rw [e];exact hne
        ·exact hE2 k oM
       ·rw [show lv * 8+(j+1) - 1=lv * 8+j by omega,hl0]
     ·have hl0:0<(s.lists (lv * 8+j)).length:=List.length_pos_iff.2 hne
      have hK:=hat (k:=lv * 8+j) oM hE2 hne
      have HK:=zh hK
      clear hK
      go_wp2
      rw [Exit.noGoto_ret]
      go_ret
      exact bL.of (by rw [HK.out];rfl) m2 trivial
    ·have hj88:j=8:=by omega
     subst hj88
     clear hy hx
     go_wp2
     go_roundg (21 - lv - 1)
     case measure=>omega
     case rel=>
      refine ⟨lv+1,by go_num,by omega,λk hk=>hE2 k oM,λ_=>?_,m2⟩
      rw [show (lv+1) * 8 - 1=lv * 8+8 - 1 by omega]
      exact ho2 oM
  ·have hl21:lv=21:=by omega
   subst hl21
   have hK:=hnone (λk hk=>hE k oM)
   have ho2:=ho oM
   have HK:=zh hK
   simp only [qC] at ho2
   subst ho2
   clear hK ho
   go_wp2
   rw [Exit.noGoto_ret]
   go_ret
   exact bL.of (by rw [HK.out];rfl) m trivial
section
open Go.RowKit Go.Sort
/-- A slice that may be read. -/
def bN (w:wW) (a:Option Addr) (l:List Int):Prop:=l=[] \/ ∃ b,a=sS ⟨b,0,nN⟩ /\ b<w.heap.size /\ ∀ j,j<l.length -> w.cell? ⟨b,j,nN⟩=sS (vi iQ (ar l j))
theorem fG.ints {w:wW} {g:Option Nat} {cap:Nat} {l:List Int} (h:fG w g cap l):bN w (lA g) l:=by
 by_cases hl:l=[]
 ·exact .inl hl
 ·right
  have h0:0<l.length:=List.length_pos_iff.2 hl
  obtain ⟨b,rfl,_⟩:=h.cell h0
  refine ⟨b,rfl,h.lt b (by simp [lF]),λj hj=>?_⟩
  obtain ⟨b',e,hc⟩:=h.cell hj
  cases e;exact hc
theorem xr (g:Option Nat) (cap:Nat) (l:List Int) (w:wW) (h:fG w g cap l) (hl:l.length<1000000):
  Calls tp 294 #[.slice (lA g) l.length cap] w (λe w'=>∃ g' cap',e=.returned (.slice (lA g') l.length cap') /\ fG w' g' cap' l /\ af [] w w' /\ ∀ b,b∈lF g' -> w.heap.size <= b):=by
 cases g with
 | none=>
  obtain ⟨rfl,rfl⟩:=h
  have hq:∀ w,(binOp .eql 30 (.slice nN 0 0) (.slice nN 0 0)).run tp w=.ok (vb tQ) w:=λw=>Lib.run_eql_slice_nil w _ _ nN 0 0 0 0 Tryz.underlying30
  simp only [lA,List.length_nil]
  go_in
  go_wp2
  go_ret
  exact ⟨nN,0,rfl,⟨rfl,rfl⟩,af.refl _ _,by simp [lF]⟩
 | some b=>
  have hq:∀ w n,(binOp .eql 30 (.slice (sS ⟨b,0,nN⟩) n cap) (.slice nN 0 0)).run tp w=.ok (vb fF) w:=λw n=>Lib.run_eql_slice_nil w _ _ (sS ⟨b,0,nN⟩) n cap 0 0 Tryz.underlying30
  have hE:fG (w.alloc (.cells #[] 3)) (sS w.heap.size) 0 []:=⟨#[],ai _ _,by simp,by simp,rfl,rfl⟩
  obtain ⟨g',cap',w2,hrun,x1,x2,x3⟩:=fG.appendAll hE (h.keep ((af.refl [] w).alloc (.cells #[] 3)) sM) (by simp;omega)
  simp only [List.length_nil,Nat.zero_add,List.nil_append] at hrun x1
  rw [kv]
  rw [kv,kv] at hrun
  go_in
  go_wp2_with (at_builtin;refine aM rfl _ _ _ rfl rfl rfl (hrun _) ?_)
  go_ret
  refine ⟨g',cap',rfl,x1,af.trans (S:=[]) (T:=[w.heap.size]) (mR.alloc _) (by simpa [lF] using x2) sM,λb hb=>?_⟩
  rcases x3 b hb with hb|hb
  ·simp [lF] at hb;omega
  ·simp at hb;omega
theorem Am
(x y:Int) (w:wW):Calls tp 338 #[vi iQ x,vi iQ y] w (au (vi iQ (Lib.compareInt x y)) w):=by
 have hN:∀ (z:Int) (w:wW),Calls tp 353 #[vi iQ z] w (au (vb fF) w):=by
  intro z w
  go_in
  go_wp2
  go_ret
  exact au.of sM dz
 by_cases h1:x<y
 ·have hC:Lib.compareInt x y=-1:=pG h1
  rw [hC]
  clear hC
  go_in
  go_wp2_with (go_at_call 353;refine (hN _ _).r λk=>?_)
  go_ret
  exact au.of (rfl) dz
 ·by_cases h2:y<x
  ·have hC:Lib.compareInt x y=1:=by unfold Lib.compareInt;rw [nG h1,pG h2]
   rw [hC]
   clear hC
   go_in
   go_wp2_with (go_at_call 353;refine (hN _ _).r λk=>?_)
   go_ret
   exact au.of (rfl) dz
  ·have hC:Lib.compareInt x y=0:=by unfold Lib.compareInt;rw [nG h1,nG h2]
   rw [hC]
   clear hC
   go_in
   go_wp2_with (go_at_call 353;refine (hN _ _).r λk=>?_)
   go_ret
   exact au.of (rfl) dz
theorem Al
(x y:Int) (w:wW):Calls tp 339 #[vi iQ x,vi iQ y] w (au (vi iQ (Lib.compareInt x y)) w):=by
 have hN:∀ (z:Int) (w:wW),Calls tp 354 #[vi iQ z] w (au (vb fF) w):=by
  intro z w
  go_in
  go_wp2
  go_ret
  exact au.of sM dz
 by_cases h1:x<y
 ·have hC:Lib.compareInt x y=-1:=pG h1
  rw [hC]
  clear hC
  go_in
  go_wp2_with (go_at_call 354;refine (hN _ _).r λk=>?_)
  go_ret
  exact au.of (rfl) dz
 ·by_cases h2:y<x
  ·have hC:Lib.compareInt x y=1:=by unfold Lib.compareInt;rw [nG h1,pG h2]
   rw [hC]
   clear hC
   go_in
   go_wp2_with (go_at_call 354;refine (hN _ _).r λk=>?_)
   go_ret
   exact au.of (rfl) dz
  ·have hC:Lib.compareInt x y=0:=by unfold Lib.compareInt;rw [nG h1,nG h2]
   rw [hC]
   clear hC
   go_in
   go_wp2_with (go_at_call 354;refine (hN _ _).r λk=>?_)
   go_ret
   exact au.of (rfl) dz
def KK (a b:Int):Int:=if a≠0 then a else b
theorem Ky (b:Nat) (x y:Int) (w:wW) (h:w.heap[b]?=sS (.cells #[vi iQ x,vi iQ y] 3 (0,0))):Calls tp 337 #[.slice (sS ⟨b,0,nN⟩) 2 2] w (au (vi iQ (KK x y)) w):=by
 have c0:w.cell? ⟨b,0,nN⟩=sS (vi iQ x):=ab h 0
 have c1:w.cell? ⟨b,1,nN⟩=sS (vi iQ y):=ab h 1
 clear h
 go_in
 go_wp2
 go_loopg [8] 2 (λgg i wr=>wr=w /\ ((i=vi iQ 0 /\ gg=2) \/ (i=vi iQ 1 /\ gg=1 /\ x=0) \/ (i=vi iQ 2 /\ gg=0 /\ x=0 /\ y=0)))
 case atStart=>simp
 case round=>
  obtain ⟨rfl,hrel⟩:=hrel
  rcases hrel with ⟨rfl,hg⟩|⟨rfl,hg,hx⟩|⟨rfl,hg,hx,hy⟩
  ·by_cases hx:x=0
   ·subst hx
    go_wp2
    go_roundg 1
    case measure=>omega
    case rel=>simp
   ·have hO:KK x y=x:=pG hx
    have HO:=zh hO
    clear hO
    go_wp2
    go_ret
    exact au.of (by rw [HO.out];rfl) dz
  ·subst hx
   have hO:KK 0 y=y:=nG sM
   have HO:=zh hO
   clear hO
   by_cases hy:y=0
   ·subst hy
    go_wp2
    go_roundg 0
    case measure=>omega
    case rel=>simp
   ·go_wp2
    go_ret
    exact au.of (by rw [HO.out];rfl) dz
  ·subst hx hy
   go_wp2
   go_ret
   exact au.of (rfl) dz
/-- How a wheel compares two things: by their dues, then by their numbers. -/
def uB (s:SW) (x y:Int):Int:=KK (Lib.compareInt (aL s x:Int) (aL s y:Int)) (Lib.compareInt x y)
theorem jk {w:wW} {d mb:Nat} {G:Nat -> Option Nat × Nat} {s:SW} (h:aw w d mb G s) (id:Int):
  (Instr.lookup 275 (.map (sS mb)) (vi iQ id) fF).run tp w=.ok (vi iQ (aL s id)) w:=by
 have:=kt (P:=tp) h.map Tryz.underlying275 Tryz.underlying3 id (λw=>Tryz.zeroValue2 w)
 rw [lP] at this
 rw [this]
 unfold aL
 cases aC s.dues id<;>rfl
section
variable {P:Program} {ops:Array Oper} {md:Region.Mode} {C:Array Bool -> wW -> Prop} {Q:Act -> Prop} {i:Nat} {o:Oper} {rest:List Oper} {a:Act}
theorem Fh {v:Value} (hw:Region.wanted o (yielded ops a.tmps)=tQ) (hr:∀ s w,s.getD i tQ=fF -> Fu md ops i s -> C s w -> ∃ w',(execOp a.eval o).run P w=.ok (.value v) w' /\ C (s.setIfInBounds i tQ) w') (h:bS P md ops C Q (i+1) rest (a.put o.dst v)):bS P md ops C Q i (o :: rest) a:=by
 unfold bS
 rw [pG hw]
 exact ⟨v,λs w hs hW hC=>by
  obtain ⟨w',e,hc⟩:=hr s w hs hW hC
  rw [e];exact ⟨rfl,hc⟩,h⟩
end
theorem AZ (pb d mb:Nat) (G:Nat -> Option Nat × Nat) (s:SW) (x y:Int) (W:wW) (hp:W.cell? ⟨pb,0,nN⟩=sS (vp (sS ⟨d,0,nN⟩))) (h:aw W d mb G s):
  Calls tp 336 #[vi iQ x,vi iQ y,vp (sS ⟨pb,0,nN⟩)] W (λe w'=>e=.returned (vi iQ (uB s x y)) /\ ∃ q os,w'=Sort.grow (W.drewN q) os):=by
 have cM:=h.cellMap
 have hlk:=λk id=>jk (h.same (w':=W.drewN k) rfl) id
 unfold uB
 generalize hc1:Lib.compareInt (aL s x:Int) (aL s y:Int)=c1 at *
 generalize hc2:Lib.compareInt x y=c2 at *
 have hA:∀ w,Calls tp 338 #[vi iQ (aL s x),vi iQ (aL s y)] w (au (vi iQ c1) w):=λw=>by rw [<- hc1];exact Am _ _ w
 have hB:∀ w,Calls tp 339 #[vi iQ x,vi iQ y] w (au (vi iQ c2) w):=λw=>by rw [<- hc2];exact Al _ _ w
 clear hc1 hc2
 clear hlk
 generalize hdx:(aL s x)=dx at *
 generalize hdy:(aL s y)=dy at *
 have hpl:=jG hp
 have hml:=jG cM
 go_in
 go_wp2_with fail
 obtain ⟨CC,hCC⟩:∃ CC:Array Bool -> wW -> Prop,CC=(λ(z:Array Bool) (u:wW)=>∃ n,u=if z.getD 16 tQ=tQ then (W.drewN n).alloc (.cells #[vi iQ c1,vi iQ c2] 3) else W.drewN n):=⟨_,rfl⟩
 refine de kz kz CC (λz hz=>by rw [hCC];simp only;exact ⟨1,by rw [nG (by rw [hz 16 dE];decide)];rfl⟩) ?_
 have hm:∀ i,i≠16 -> dR CC i:=by
  intro i h16 z u _ hc
  rw [hCC] at hc ⊢
  simp only [jl _ h16]
  exact hc
 have hU:∀ z u,CC z u -> af [] W u:=by
  intro z u hc
  rw [hCC] at hc
  obtain ⟨n,hn⟩:=hc
  rw [hn]
  split
  ·exact (mR.drewN _).alloc _
  ·exact mR.drewN _
 have hload:∀ z u,CC z u -> u.cell? ⟨pb,0,nN⟩=sS (vp (sS ⟨d,0,nN⟩)) /\ u.cell? ⟨d,1,nN⟩=sS (.map (sS mb)) /\ (Instr.lookup 275 (.map (sS mb)) (vi iQ x) fF).run tp u=.ok (vi iQ dx) u /\ (Instr.lookup 275 (.map (sS mb)) (vi iQ y) fF).run tp u=.ok (vi iQ dy) u:=by
  intro z u hc
  have mu:=hU z u hc
  have hu:=h.keep mu sM
  exact ⟨mu.at hp sM,hu.cellMap,by rw [<- hdx];exact jk hu x,by rw [<- hdy];exact jk hu y⟩
 have hdr:∀ (n k:Nat) (z:Array Bool),(if z.getD 16 tQ=tQ then (W.drewN n).alloc (.cells #[vi iQ c1,vi iQ c2] 3) else W.drewN n).drewN k=if z.getD 16 tQ=tQ then (W.drewN (n+k)).alloc (.cells #[vi iQ c1,vi iQ c2] 3) else W.drewN (n+k):=by
  intro n k z
  split
  ·show ((W.drewN n).drewN k).alloc _=_
   rw [World.drewN_drewN]
  ·rw [World.drewN_drewN]
 have hcA:∀ z u,z.getD 12 tQ=fF -> CC z u -> Calls tp 338 #[vi iQ dx,vi iQ dy] u (λe u'=>e=.returned (vi iQ c1) /\ CC (z.setIfInBounds 12 tQ) u'):=by
  intro z u hz hc
  rw [hCC] at hc ⊢
  obtain ⟨n,hn⟩:=hc
  refine (hA u).r λk=>?_
  exact ⟨rfl,n+k,by rw [hn,hdr,jl _ dE]⟩
 have hcB:∀ z u,z.getD 15 tQ=fF -> CC z u -> Calls tp 339 #[vi iQ x,vi iQ y] u (λe u'=>e=.returned (vi iQ c2) /\ CC (z.setIfInBounds 15 tQ) u'):=by
  intro z u hz hc
  rw [hCC] at hc ⊢
  obtain ⟨n,hn⟩:=hc
  refine (hB u).r λk=>?_
  exact ⟨rfl,n+k,by rw [hn,hdr,jl _ dE]⟩
 have hcO:∀ z u,z.getD 16 tQ=tQ -> CC z u -> Calls tp 337 #[.slice (sS ⟨W.heap.size,0,nN⟩) 2 2] u (λe u'=>e=.returned (vi iQ (KK c1 c2)) /\ CC (z.setIfInBounds 17 tQ) u'):=by
  intro z u hz hc
  rw [hCC] at hc ⊢
  obtain ⟨n,hn⟩:=hc
  rw [pG hz] at hn
  subst hn
  refine (Ky W.heap.size c1 c2 _ (ai (W.drewN n) _)).r λk=>?_
  refine ⟨rfl,n+k,?_⟩
  rw [jl _ dE,pG hz]
  show ((W.drewN n).drewN k).alloc _=_
  rw [World.drewN_drewN]
 iterate 12 (first|(refine aF (v:=?_) (by rfl) (λw=>?_) (hm _ dE) ?_;rotate_left;· (go_simp<;>with_reducible rfl))|(refine aG (v:=?_) (by rfl) (λs w hUp hC=>?_) (hm _ dE) ?_;rotate_left;· (have hl:=hload s w hC;go_split_ands;go_simp<;>with_reducible rfl))|(refine aE (by rfl) (hm _ dE) ?_));simp only [Act.put,sA,sB,sC,Nat.reduceAdd,Nat.zero_add]
 refine aS (by rfl) (λw=>?_) (λs u hs hUp hc=>hcA s u hs hc) ?_
 ·go_simp
 simp only [Act.put,sA,sB,sC,Nat.reduceAdd,Nat.zero_add]
 iterate 2 (first|(refine aF (v:=?_) (by rfl) (λw=>?_) (hm _ dE) ?_;rotate_left;· (go_simp<;>with_reducible rfl))|(refine aG (v:=?_) (by rfl) (λs w hUp hC=>?_) (hm _ dE) ?_;rotate_left;· (have hl:=hload s w hC;go_split_ands;go_simp<;>with_reducible rfl))|(refine aE (by rfl) (hm _ dE) ?_));simp only [Act.put,sA,sB,sC,Nat.reduceAdd,Nat.zero_add]
 refine aS (by rfl) (λw=>?_) (λs u hs hUp hc=>hcB s u hs hc) ?_
 ·go_simp
 simp only [Act.put,sA,sB,sC,Nat.reduceAdd,Nat.zero_add]
 refine Fh (v:=.slice (sS ⟨W.heap.size,0,nN⟩) 2 2) (by rfl) (λs u hs hUp hc=>?_) ?_
 ·rw [hCC] at hc ⊢
  obtain ⟨n,hn⟩:=hc
  rw [nG (by rw [hs];decide)] at hn
  subst hn
  refine ⟨(W.drewN n).alloc (.cells #[vi iQ c1,vi iQ c2] 3),?_,n,by rw [pG (qn _ _)]⟩
  go_simp
 simp only [Act.put,sA,sB,sC,Nat.reduceAdd,Nat.zero_add]
 refine aS (by rfl) (λw=>?_) (λs u hs hUp hc=>hcO s u (hUp 16 1 kz) hc) ?_
 ·go_simp
 simp only [Act.put,sA,sB,sC,Nat.reduceAdd,Nat.zero_add]
 iterate 1 (first|(refine aF (v:=?_) (by rfl) (λw=>?_) (hm _ dE) ?_;rotate_left;· (go_simp<;>with_reducible rfl))|(refine aG (v:=?_) (by rfl) (λs w hUp hC=>?_) (hm _ dE) ?_;rotate_left;· (have hl:=hload s w hC;go_split_ands;go_simp<;>with_reducible rfl))|(refine aE (by rfl) (hm _ dE) ?_));simp only [Act.put,sA,sB,sC,Nat.reduceAdd,Nat.zero_add]
 refine pc ?_
 intro z w5 hall hc
 rw [hCC] at hc
 obtain ⟨n,hn⟩:=hc
 rw [pG (hall 16 dE)] at hn
 subst hn
 clear hm hload hcA hcB hcO hCC hall CC hU hdr
 go_wp2
 go_ret
 exact ⟨rfl,n,#[.cells #[vi iQ c1,vi iQ c2] 3],alloc_eq_grow _ _⟩
end
section
open Go.RowKit Go.Sort
theorem gB {α:Type} [Inhabited α] (enc:α -> Value) (w:wW) (blk off m:Nat) (dk:Array α) (os:Array Obj):af [blk] w (sortWorld enc w blk off m dk os):=by
 refine ⟨rfl,rfl,rfl,?_,?_⟩
 ·show w.heap.size <= ((w.heap.modify blk _)++os).size
  simp
 ·intro k hk hS
  show ((w.heap.modify blk _)++os)[k]?=_
  rw [Array.getElem?_append_left (by simpa using hk),Array.getElem?_modify,nG (by simp at hS;omega)]
theorem KZ (s:SW) (x y:Int):Go.Proofs.ltOf (uB s) x y=decide (aL s x<aL s y \/ (aL s x=aL s y /\ x<y)):=by
 unfold Go.Proofs.ltOf uB KK Lib.compareInt
 by_cases h1:aL s x<aL s y
 ·have h1':((aL s x:Nat):Int)<(aL s y:Nat):=by omega
  rw [pG h1']
  simp [h1]
 ·have h1':¬ ((aL s x:Nat):Int)<(aL s y:Nat):=by omega
  rw [nG h1']
  by_cases h2:aL s y<aL s x
  ·have h2':((aL s x:Nat):Int) > (aL s y:Nat):=by omega
   rw [pG h2']
   have:¬ aL s x=aL s y:=by omega
   simp [h1,this]
  ·have h2':¬ ((aL s x:Nat):Int) > (aL s y:Nat):=by omega
   rw [nG h2']
   have:aL s x=aL s y:=by omega
   by_cases h3:x<y
   ·rw [pG h3];simp [this,h3]
   ·rw [nG h3]
    by_cases h4:x > y
    ·rw [pG h4];simp [h3,this]
    ·rw [nG h4];simp [h3,this]
theorem Hx (s:SW):SWO (Go.Proofs.ltOf (uB s)) where
 irrefl x:=by rw [KZ];simp
 trans x y z h1 h2:=by rw [KZ] at *;simp at *;omega
 ntrans x y z h1 h2:=by rw [KZ] at *;simp at *;omega
theorem Cd (s:SW) (x y:Int) (h1:Go.Proofs.ltOf (uB s) x y=fF) (h2:Go.Proofs.ltOf (uB s) y x=fF):x=y:=by
 rw [KZ] at *;simp at *;omega
def dI (s:SW) (l:List Int):List Int:=l.mergeSort (λx y=>!(Go.Proofs.ltOf (uB s) y x))
theorem jy (s:SW) (l:List Int):(dI s l).length=l.length:=by simp [dI,List.length_mergeSort]
theorem xZ (l:List Int) (j:Nat) (h:j<l.length):l.toArray[j]! = ar l j:=by
 rw [getElem!_pos _ j (by simpa using h)]
 simp [ar,List.getD,h]
theorem sf (d mb:Nat) (G:Nat -> Option Nat × Nat) (s:SW) (l:List Int) (blk cap pb:Nat) (w:wW) (h:aw w d mb G s) (hL:fG w (sS blk) cap l) (hb:blk∉az d mb G) (hp:w.cell? ⟨pb,0,nN⟩=sS (vp (sS ⟨d,0,nN⟩))) (hpb:pb≠blk) (hlen:l.length<1000000):
  Calls tp 335 #[.slice (sS ⟨blk,0,nN⟩) l.length cap,.func (.func 336) #[] #[vp (sS ⟨pb,0,nN⟩)]] w
   (λe w'=>e=.returned (.tuple #[]) /\ af [blk] w w' /\ ∀ j,j<l.length -> w'.cell? ⟨blk,j,nN⟩=sS (vi iQ (ar (dI s l) j))):=by
 have eg:∀ args w,(callFunc 336 args).run tp w=.ok (.enter 336 args) w:=enters_of Tryz.func336 kz rfl
 have hH:Holds (vi iQ) w blk 0 l.toArray:=by
  intro j hj
  have hj':j<l.length:=by simpa using hj
  obtain ⟨b,e,hc⟩:=hL.cell hj'
  cases e
  obtain ⟨cur,hcur,_⟩:=hL
  rw [Nat.zero_add,xZ l j hj']
  exact ⟨hc,ax hcur j⟩
 have hlt:blk<w.heap.size:=hL.lt blk (by simp [lF])
 have hcmp:CmpLays1 tp 336 #[vp (sS ⟨pb,0,nN⟩)] (vi iQ) (uB s) blk 0 l.toArray.size w:=by
  intro m os dk hs x y
  have mm:=gB (vi iQ) w blk 0 m dk os
  exact AZ pb d mb G s x y _ (mm.at hp (by simpa using hpb)) (h.keep mm (λb hb'=>by simp;rintro rfl;exact hb hb'))
 have hcon:=Any.slices_SortFunc_total sortL (vi iQ) (λ_=>rfl) (uB s) (Hx s) 336 #[vp (sS ⟨pb,0,nN⟩)] blk 0 cap l.toArray w eg hcmp hH hlt (by simp;omega) (Cd s)
 refine Calls.mono (show Calls tp 335 _ _ _ from hcon) ?_
 rintro e w' ⟨rfl,n,os,rfl⟩
 refine ⟨rfl,gB _ _ _ _ _ _ _,λj hj=>?_⟩
 have hsz:(dI s l).length=l.length:=jy s l
 have h1:=cell?_putRow (vi iQ) (Sort.ahead w n) blk 0 l.toArray (dI s l).toArray (holds_ahead _ _ _ _ _ _ hH) (by simp [hsz]) j (by simp [hsz];exact hj)
 rw [xZ _ _ oM,Nat.zero_add] at h1
 rw [<- h1]
 unfold sortWorld
 exact cell?_grow _ _ _ (by simpa using hlt)
/-- What has been made since w. -/
def uF (w:wW) (a:Option Addr):Prop:=∀ b o,a=sS ⟨b,o,nN⟩ -> w.heap.size <= b
theorem uO (d mb:Nat) (G:Nat -> Option Nat × Nat) (s:SW) (l:List Int) (g:Option Nat) (cap pb:Nat) (w:wW) (h:aw w d mb G s) (hL:fG w g cap l) (hb:∀ b,b∈lF g -> b∉az d mb G /\ b≠pb) (hp:w.cell? ⟨pb,0,nN⟩=sS (vp (sS ⟨d,0,nN⟩))) (hlen:l.length<1000000):
  Calls tp 335 #[.slice (lA g) l.length cap,.func (.func 336) #[] #[vp (sS ⟨pb,0,nN⟩)]] w
   (λe w'=>e=.returned (.tuple #[]) /\ af (lF g) w w' /\ bN w' (lA g) (dI s l)):=by
 by_cases hl:l=[]
 ·subst hl
  have hcon:=AnyF.slices_SortFunc_none (ρ:=sortL_ren) { sortL with } (lA g) cap (.func (.func 336) #[] #[vp (sS ⟨pb,0,nN⟩)]) w
  refine Calls.mono (show Calls tp 335 _ _ _ from hcon) ?_
  rintro e w' ⟨rfl,rfl⟩
  exact ⟨rfl,af.refl _ _,.inl (by simp [dI])⟩
 ·have h0:0<l.length:=List.length_pos_iff.2 hl
  obtain ⟨b,rfl,_⟩:=hL.cell h0
  have hbb:=hb b (by simp [lF])
  refine (sf d mb G s l b cap pb w h hL hbb.1 hp (Ne.symm hbb.2) hlen).mono ?_
  rintro e w' ⟨rfl,m,hc⟩
  refine ⟨rfl,m,.inr ⟨b,rfl,Nat.lt_of_lt_of_le (hL.lt b (by simp [lF])) m.size,λj hj=>hc j (by rwa [jy] at hj)⟩⟩
theorem jU (d mb:Nat) (G:Nat -> Option Nat × Nat) (s:SW) (g:Option Nat) (cap:Nat) (l:List Int) (w:wW) (h:aw w d mb G s) (hL:fG w g cap l) (hlen:l.length<1000000):
  Calls tp 303 #[vp (sS ⟨d,0,nN⟩),.slice (lA g) l.length cap] w (λe w'=>∃ a cap',e=.returned (.slice a l.length cap') /\ af [] w w' /\ bN w' a (dI s l) /\ uF w a):=by
 have mP:af [] w (w.alloc (.cells #[vp (sS ⟨d,0,nN⟩)] 180)):=mR.alloc _
 have hC:=xr g cap l _ (hL.keep mP sM) hlen
 have hwl:=h.lt
 have hp0:=ai w (.cells #[vp (sS ⟨d,0,nN⟩)] 180)
 go_in
 go_wp2_with (first
  | (
   go_at_call 294
   refine hC.mono ?_
   rintro e w2 ⟨g2,cap2,rfl,x2,m2,n2⟩
   )
  | (
   go_at_call 335
   have h2:=(h.keep mP sM).keep m2 sM
   have hp2:=m2.keep hp0 sM
   have n3:∀ b,b∈lF g2 -> w.heap.size+1 <= b:=λb hb=>by have:=n2 b hb;simpa using this
   have hS:=uO d mb G s l g2 cap2 w.heap.size w2 h2 x2 (λb hb=>⟨λhb'=>by have:=n3 b hb;have:=hwl b hb';omega,by have:=n3 b hb;omega⟩) (ab hp2 0) hlen
   refine hS.mono ?_
   rintro e w3 ⟨rfl,m3,x3⟩
   )
  )
 go_ret
 refine ⟨lA g2,cap2,rfl,(mP.trans m2 sM).trans m3 (λb hb=>?_),x3,λb o e=>?_⟩
 ·have:=n2 b hb
  simp at this
  right;omega
 ·cases g2 with
  | none=>simp [lA] at e
  | some g2=>
   simp [lA] at e
   have:=n2 b (by simp [lF,e.1])
   simp at this
   omega
/-- Due. -/
theorem De (d mb:Nat) (G:Nat -> Option Nat × Nat) (s:SW) (w:wW) (h:aw w d mb G s) (hlen:(s.lists 168).length<1000000):
  Calls tp 253 #[vp (sS ⟨d,0,nN⟩)] w (λe w'=>∃ a cap',e=.returned (.slice a (s.lists 168).length cap') /\ af [] w w' /\ bN w' a (dI s (s.lists 168)) /\ uF w a):=by
 have cR:w.cell? ⟨d,170,nN⟩=sS (.slice (lA (G 168).1) (s.lists 168).length (G 168).2):=h.cellList (k:=168) oM
 have hS:=jU d mb G s _ _ _ w h (h.list 168 oM) hlen
 go_in
 go_wp2_with (go_at_call 303;refine hS.mono ?_;rintro e w2 ⟨a,cap',rfl,m2,x2,n2⟩)
 go_ret
 exact ⟨a,cap',rfl,m2,x2,n2⟩
end
/-- What Next tells. -/
def SW.firstL (s:SW):List Int:=dI s (s.lists s.firstK)
def SW.nextE (s:SW):Int:=if s.dues=[] then 12 else 0
def SW.nextV (s:SW):Nat:=if s.dues=[] then 0 else aL s (ar s.firstL 0)
theorem xh {w:wW} {d mb:Nat} {G:Nat -> Option Nat × Nat} {s:SW} (h:aw w d mb G s):(Builtin.len_ #[275] 3 #[.map (sS mb)]).run tp w=.ok (vi iQ s.dues.length) w:=by
 obtain ⟨es,clk,hb,he⟩:=h.map
 have hlen:es.size=s.dues.length:=by have:=congrArg List.length he.eq;simpa [cz] using this
 rw [<- hlen]
 simp [Builtin.len_,getObj,Sem.run,hb]
 rfl
theorem Ay (d mb:Nat) (G:Nat -> Option Nat × Nat) (s:SW) (w:wW) (h:aw w d mb G s) (hM:∀ k,(s.lists k).length<1000000) (hne:s.dues≠[] -> s.lists s.firstK≠[]):
  Calls tp 268 #[vp (sS ⟨d,0,nN⟩)] w (bL (.tuple #[vi iQ s.nextV,vi iQ s.nextE]) [] w λ_=>True):=by
 have cM:=h.cellMap
 have hl:=xh h
 by_cases hd:s.dues=[]
 ·have hE:s.nextE=12:=pG hd
  have hV:s.nextV=0:=pG hd
  rw [hE,hV]
  have h0:s.dues.length=0:=by rw [hd];rfl
  rw [h0] at hl
  clear hE hV hd h0
  go_in
  go_wp2
  go_ret2
  exact bL.of rfl mR trivial
 ·have hE:s.nextE=0:=nG hd
  have hV:s.nextV=aL s (ar s.firstL 0):=nG hd
  rw [hE,hV]
  have h0:0<s.dues.length:=List.length_pos_iff.2 hd
  have hfl:=hne hd
  have hk:=EU s
  have hKl:=(h.list s.firstK hk)
  have hpos:0<(dI s (s.lists s.firstK)).length:=by rw [jy];exact List.length_pos_iff.2 hfl
  have hMk:=hM s.firstK
  have hln:0<(s.lists s.firstK).length:=List.length_pos_iff.2 hfl
  have hFst:=λw' hh=>yo d mb G s w' hh
  have hSrt:=λw' (hh:aw w' d mb G s)=>jU d mb G s (G s.firstK).1 (G s.firstK).2 (s.lists s.firstK) w' hh (hh.list s.firstK hk) hMk
  unfold qC at hFst
  unfold SW.firstL
  have hdw:∃ v:Nat,aL s (ar (dI s (s.lists s.firstK)) 0)=v:=⟨_,rfl⟩
  obtain ⟨v,hv⟩:=hdw
  rw [hv]
  have hlk:=λw' (hh:aw w' d mb G s)=>jk hh (ar (dI s (s.lists s.firstK)) 0)
  rw [hv] at hlk
  have hne2:dI s (s.lists s.firstK)≠[]:=List.length_pos_iff.1 hpos
  clear hE hV hd hM hne hfl hKl hv
  generalize dI s (s.lists s.firstK)=sl at *
  generalize (s.lists s.firstK).length=ln at *
  generalize hid:ar sl 0=id at *
  have HID:=zh hid
  clear hid
  generalize (G s.firstK).1=gk1 at *
  generalize (G s.firstK).2=gk2 at *
  go_in
  go_wp2_with fail
  refine wp_region_held_drew (S:=λu=>u.cell? ⟨d,1,nN⟩=sS (.map (sS mb)) /\ aw u d mb G s) kz ⟨cM,h.same rfl⟩ (λhHeld=>?_)
  refine wpAnyH_take (i:=0) (v:=?_) rfl kz kz kz (λ_ _ _ h=>h) (Or.inl ⟨by rfl,?_⟩) (by assumption) ?_
  rotate_left
  ·intro w hSw;(try dsimp only at hSw);(go_simp<;>with_reducible rfl)
  try simp only [Act.put,sA,sB,sC]
  refine wpAnyH_take (i:=1) (v:=?_) rfl kz kz kz (λ_ _ _ h=>h) (Or.inl ⟨by rfl,?_⟩) (by assumption) ?_
  rotate_left
  ·intro w hSw;(try dsimp only at hSw);(go_simp<;>with_reducible rfl)
  try simp only [Act.put,sA,sB,sC]
  refine wpAnyH_take (i:=2) (v:=?_) rfl kz kz kz (λ_ _ _ h=>h) (Or.inl ⟨by rfl,?_⟩) (by assumption) ?_
  rotate_left
  ·intro w hSw;(try dsimp only at hSw);(go_simp<;>with_reducible rfl)
  try simp only [Act.put,sA,sB,sC]
  refine wpAnyH_take (i:=3) (v:=?_) rfl kz kz kz (λ_ _ _ h=>h) (Or.inl ⟨by rfl,?_⟩) (by assumption) ?_
  rotate_left
  ·intro w hSw;(try dsimp only at hSw);(go_simp<;>with_reducible rfl)
  try simp only [Act.put,sA,sB,sC]
  refine wpAnyH_take (i:=4) (v:=?_) rfl kz kz kz (λ_ _ _ h=>h) (Or.inl ⟨by rfl,?_⟩) (by assumption) ?_
  rotate_left
  ·intro w hSw;(try dsimp only at hSw);(go_simp<;>with_reducible rfl)
  try simp only [Act.put,sA,sB,sC]
  refine wpAnyH_take (i:=5) (v:=?_) rfl kz kz kz (λ_ _ _ h=>h) (Or.inl ⟨by rfl,?_⟩) (by assumption) ?_
  rotate_left
  ·intro w hSw;(try dsimp only at hSw);(go_simp<;>with_reducible rfl)
  try simp only [Act.put,sA,sB,sC]
  refine wpAnyH_ready (rs:=[6]) kz sM ?_
  refine AllReadyH.cons rfl (λK hK=>?_) AllReadyH.nil
  go_simp
  refine (hFst _ (by exact h.same rfl)).mono ?_
  rintro e w6 ⟨rfl,m6,_⟩
  have hk6:w6.cell? ⟨d,1,nN⟩=sS (.map (sS mb)) /\ aw w6 d mb G s:=⟨m6.undrew.at cM sM,h.keep m6.undrew sM⟩
  refine hK.out _ _ (hk6) (λhHeld=>?_)
  clear hK K
  try simp only [Act.put,sA,sB,sC]
  refine wpAnyH_ready (rs:=[7]) kz sM ?_
  refine AllReadyH.cons rfl (λK hK=>?_) AllReadyH.nil
  go_simp
  refine (hSrt _ (by exact hk6.2)).mono ?_
  rintro e w7 ⟨a7,cap7,rfl,m7,x7,_⟩
  have hk7:w7.cell? ⟨d,1,nN⟩=sS (.map (sS mb)) /\ aw w7 d mb G s:=⟨m7.at hk6.1 sM,hk6.2.keep m7 sM⟩
  have hl7:=hlk w7 hk7.2
  obtain ⟨b7,rfl,hb7,hc7⟩:∃ b,a7=sS ⟨b,0,nN⟩ /\ b<w7.heap.size /\ ∀ j,j<sl.length -> w7.cell? ⟨b,j,nN⟩=sS (vi iQ (ar sl j)):=x7.resolve_left hne2
  have c7:=hc7 0 hpos
  rw [HID.out] at c7
  clear hc7 x7
  refine hK.out _ _ (hk7) (λhHeld=>?_)
  clear hK K
  try simp only [Act.put,sA,sB,sC]
  refine wpAnyH_ready (rs:=[8]) kz sM ?_
  refine AllReadyH.cons rfl (λK hK=>?_) AllReadyH.nil
  go_simp
  refine hK.out _ _ (hk7) (λhHeld=>?_)
  clear hK K
  try simp only [Act.put,sA,sB,sC]
  refine wpAnyH_ready (rs:=[9]) kz sM ?_
  refine AllReadyH.cons rfl (λK hK=>?_) AllReadyH.nil
  go_simp
  refine hK.out _ _ (hk7) (λhHeld=>?_)
  clear hK K
  try simp only [Act.put,sA,sB,sC]
  refine wpAnyH_ready (rs:=[10]) kz sM ?_
  refine AllReadyH.cons rfl (λK hK=>?_) AllReadyH.nil
  go_simp
  refine hK.out _ _ (hk7) (λhHeld=>?_)
  clear hK K
  try simp only [Act.put,sA,sB,sC]
  refine wpAnyH_ready (rs:=[11]) kz sM ?_
  refine AllReadyH.cons rfl (λK hK=>?_) AllReadyH.nil
  go_simp
  refine hK.out _ _ (hk7) (λhHeld=>?_)
  clear hK K
  try simp only [Act.put,sA,sB,sC]
  refine wpAnyH_ready (rs:=[12]) kz sM ?_
  refine AllReadyH.cons rfl (λK hK=>?_) AllReadyH.nil
  go_simp
  refine hK.out _ _ (hk7) (λhHeld=>?_)
  clear hK K
  try simp only [Act.put,sA,sB,sC]
  refine wpAnyH_done kz ?_ _
  go_wp2
  go_ret2
  refine bL.of rfl ?_ trivial
  exact (m6.undrew).trans m7 sM
section
open Go.RowKit Go.Maps Go.WideElems
theorem wz {α β γ:Type} (f:α -> γ) (g:β -> γ):∀ (l:List α) (m:List β),l.map f=m.map g -> ∀ {δ:Type} (h:γ -> δ),l.map (λx=>h (f x))=m.map (λy=>h (g y)):=by
 intro l m he δ h
 have:=congrArg (List.map h) he
 simpa [List.map_map,Function.comp_def] using this
def Ar:Value -> Option (DataW Unit × List MemPlace):=λ_=>sS (.nil,[])
theorem DW {w:wW} {b:Nat} {l:List (Int × Nat)} (h:bR .i64 w b (cz l)) (hwf:∀ p,p∈l -> (Lit.int .i64 p.1).wf=tQ) (hsz:l.length <= maxLen):
  ∃ D0:DataW Unit,w.ownsMap tp 3 Ar b l.length D0 /\ (Go.intKeys D0).Perm (l.map (·.1)) /\ Maps.size D0=l.length:=by
 obtain ⟨es,clk,hb,he⟩:=h
 have hlen:es.size=l.length:=by have:=congrArg List.length he.eq;simpa [cz] using this
 have heq:es.toList.map (λe=>(e.key,e.val))=l.map (λp=>(vi iQ p.1,vi iQ (p.2:Nat))):=by
  rw [he.eq];simp [cz,List.map_map,Function.comp_def]
 have hkeys:es.toList.map (·.key)=l.map (λp=>vi iQ p.1):=wz _ _ _ _ heq (λq=>q.1)
 have hrd:∀ x,x∈es.toList -> ∃ p,p∈l /\ x.key=vi iQ p.1:=by
  intro x hx
  have:x.key∈es.toList.map (·.key):=List.mem_map.2 ⟨x,hx,rfl⟩
  rw [hkeys] at this
  obtain ⟨p,hp,e⟩:=List.mem_map.1 this
  exact ⟨p,hp,e.symm⟩
 have hr:∀ x,x∈es.toList -> ∃ p,p∈l /\ x.key=vi iQ p.1 /\ rd tp 3 Ar x=sS (.int .i64 p.1,.nil):=by
  intro x hx
  obtain ⟨p,hp,e⟩:=hrd x hx
  refine ⟨p,hp,e,?_⟩
  unfold rd
  rw [e,keyOf_int_mk Tryz.underlying3 (hwf p hp)]
  rfl
 refine ⟨.map ((es.toList.map (rg tp 3 Ar)).foldr DataW.insert []),⟨es,clk,hb,⟨by omega,⟨he.lt,he.born,?_⟩,?_⟩,by omega,rfl⟩,?_,?_⟩
 ·rw [hkeys]
  have hn:(l.map (·.1)).Nodup:=by have:=he.nodup;simpa [cz,List.map_map,Function.comp_def] using this
  have e2:l.map (λp=>vi iQ p.1)=(l.map (·.1)).map (vi iQ):=by simp [List.map_map,Function.comp_def]
  rw [e2]
  exact List.Pairwise.map _ (λa b hab h=>hab (by simpa using h)) hn
 ·intro x hx
  obtain ⟨p,_,_,h2⟩:=hr x hx
  exact ⟨_,h2⟩
 ·have hp:=Go.WideShapes.sorted_perm (es.toList.map (rg tp 3 Ar))
  have h1:(Go.intKeys (DataW.map ((es.toList.map (rg tp 3 Ar)).foldr DataW.insert []))).Perm ((es.toList.map (rg tp 3 Ar)).map (λp=>Go.intOf p.1)):=hp.map _
  refine h1.trans ?_
  rw [List.map_map]
  have h2:es.toList.map ((λp=>Go.intOf p.1) ∘ rg tp 3 Ar)=es.toList.map (λx=>match x.key with|.int _ a=>a|_=>0):=by
   apply List.map_congr_left
   intro x hx
   obtain ⟨p,_,h3,h4⟩:=hr x hx
   simp only [Function.comp_def,rg,h4,h3]
   rfl
  rw [h2]
  have h3:es.toList.map (λx=>match x.key with|.int _ a=>a|_=>0)=l.map (·.1):=by
   have:=wz _ _ _ _ heq (λq:Value × Value=>match q.1 with|.int _ a=>a|_=>0)
   simpa using this
  rw [h3]
 ·show ((es.toList.map (rg tp 3 Ar)).foldr DataW.insert []).length=l.length
  rw [length_sorted];simp [hlen]
end
section
open Go.RowKit Go.Maps
def Io (s:SW) (x y:Int):Bool:=!(Go.Proofs.ltOf (uB s) y x)
theorem ot (s:SW) (x y:Int):Io s x y=tQ↔(aL s x<aL s y \/ (aL s x=aL s y /\ x <= y)):=by
 unfold Io
 rw [KZ]
 simp
 omega
theorem fl (s:SW) (l:List Int):(dI s l).Pairwise (λx y=>Io s x y=tQ):=by
 have h:=List.pairwise_mergeSort (le:=Io s) (λa b c h1 h2=>by rw [ot] at *;omega) (λa b=>by
  by_cases h:Io s a b=tQ
  ·simp [h]
  ·have:Io s b a=tQ:=by rw [ot] at *;omega
   simp [this]) l
 exact h
theorem fT (s:SW) (l:List Int):(dI s l).Perm l:=List.mergeSort_perm _ _
theorem jo (s:SW):∀ {l m:List Int},l.Perm m -> l.Pairwise (λx y=>Io s x y=tQ) -> m.Pairwise (λx y=>Io s x y=tQ) -> l=m:=by
 intro l m hp h1 h2
 exact hp.eq_of_pairwise (λa b _ _ h1 h2=>by rw [ot] at *;omega) h1 h2
theorem FQ (s:SW) {l m:List Int} (h:l.Perm m):dI s l=dI s m:=
 jo s (((fT s l).trans h).trans (fT s m).symm) (fl s l) (fl s m)
theorem zB {w:wW} {B:Nat} {v:Value} {l:List Int} (h:w.ownsRow B 3 1 v l.length (l.map (vi iQ))):∃ g cap,v=.slice (lA g) l.length cap /\ fG w g cap l /\ ∀ b,b∈lF g -> B <= b:=by
 rcases h.2 with ⟨hv,h0⟩|⟨g,cap,cur,hv,hB,q1,q2,q3,q4,q5⟩
 ·have e:l=[]:=List.eq_nil_of_length_eq_zero h0
  subst e
  exact ⟨nN,0,hv,⟨rfl,rfl⟩,by simp [lF]⟩
 ·refine ⟨sS g,cap,hv,⟨cur,q1,q2,q3,by omega,by rw [Nat.mul_one] at q5;exact q5⟩,λb hb=>?_⟩
  simp [lF] at hb
  omega
theorem uN (mb:Nat) (l:List (Int × Nat)) (w:wW) (h:bR .i64 w mb (cz l)) (hwf:∀ p,p∈l -> (Lit.int .i64 p.1).wf=tQ) (hsz:l.length <= 1000000) (Bm:Nat) (hBm:Bm<w.heap.size) (hc:w.cell? ⟨Bm,0,nN⟩=sS (.map (sS mb))):
  Calls tp 369 #[.func (.func 377) #[] #[vp (sS ⟨Bm,0,nN⟩)]] w (λe w'=>∃ g cap ss,e=.returned (.slice (lA g) ss.length cap) /\ ss.Perm (l.map (·.1)) /\ fG w' g cap ss /\ af [] w w'):=by
 obtain ⟨D0,hown,hperm,hsize⟩:=DW h hwf (by unfold maxLen;omega)
 have hseq:SeqGives Fence.wide 3 tp 377 #[vp (sS ⟨Bm,0,nN⟩)] encZ (λss=>ss.Perm (intKeys D0)) (Maps.size D0) w:=
  AnyZI.keys_gives (ρ:=keysL_ren) { keysL with } Fence.wide 3 trivial rfl oM Bm mb _ D0 w hBm hc hown
 have hcon:=AnyZI.collect_in collectL Fence.wide 5 trivial trivial rfl oM 377 #[vp (sS ⟨Bm,0,nN⟩)] trivial (enters_of Tryz.func377 kz rfl) (λss=>ss.Perm (intKeys D0)) (Maps.size D0) (by rw [hsize];unfold maxLen;omega) (by rw [hsize];omega) w hseq
 refine Calls.mono (show Calls tp 369 _ _ _ from callsIn_wide.1 hcon) ?_
 rintro e w' ⟨v,ss,rfl,hp,hr,_,hb⟩
 obtain ⟨g,cap,rfl,hL,_⟩:=zB hr
 exact ⟨g,cap,ss,rfl,hp.trans hperm,hL,Go.Proofs.YtmiapbgkphpgoaaGreatDoor.Below.mod hb (Nat.le_refl _)⟩
theorem Az (d mb:Nat) (G:Nat -> Option Nat × Nat) (s:SW) (w:wW) (h:aw w d mb G s) (hwf:∀ p,p∈s.dues -> (Lit.int .i64 p.1).wf=tQ) (hlen:s.dues.length<1000000):
  Calls tp 357 #[vp (sS ⟨d,0,nN⟩)] w (λe w'=>∃ a cap',e=.returned (.slice a s.dues.length cap') /\ af [] w w' /\ bN w' a (dI s (s.dues.map (·.1))) /\ uF w a):=by
 have cM:=h.cellMap
 have mK:af [] w (w.alloc (.cells #[.map (sS mb)] 275)):=mR.alloc _
 have hK:∀ W,Calls tp 370 #[.map (sS mb)] W (λe w'=>e=.returned (.func (.func 377) #[] #[vp (sS ⟨W.heap.size,0,nN⟩)]) /\ w'=W.alloc (.cells #[.map (sS mb)] 275)):=
  λW=>callsIn_wide.1 (AnyZI.keys_in keysL Fence.wide 5 trivial rfl (sS mb) W)
 have hC:=uN mb s.dues _ (h.map.keep mK sM) hwf oM w.heap.size sM (ab (ai w _) 0)
 go_in
 go_wp2_with (first
  | (
   go_at_call 370
   refine (hK _).mono ?_;rintro e w1 ⟨rfl,rfl⟩
   )
  | (
   go_at_call 369
   refine hC.mono ?_
   rintro e w2 ⟨g2,cap2,ss,rfl,hp,x2,m2⟩
   have h2:=(h.keep mK sM).keep m2 sM
   have hl2:ss.length=s.dues.length:=by rw [hp.length_eq];simp
   have hS:=jU d mb G s g2 cap2 ss w2 h2 x2 oM
   rw [hl2] at hS ⊢
   )
  | (
   go_at_call 303
   refine hS.mono ?_
   rintro e w3 ⟨a,cap',rfl,m3,x3,n3⟩
   )
  )
 go_ret
 refine ⟨a,cap',rfl,(mK.trans m2 sM).trans m3 sM,?_,λb o e=>?_⟩
 ·rw [<- FQ s hp]
  exact x3
 ·have:=n3 b o e
  have h5:=(mK.trans m2 (by simp:∀ k,k∈[] -> k∈[] \/ w.heap.size <= k)).size
  omega
end
theorem bN.same {w w':wW} {a:Option Addr} {l:List Int} (h:bN w a l) (e:w'.heap=w.heap):bN w' a l:=by
 rcases h with h|⟨b,h1,h2,h3⟩
 ·exact .inl h
 ·refine .inr ⟨b,h1,by rw [e];exact h2,λj hj=>?_⟩
  rw [<- h3 j hj]
  unfold World.cell?
  rw [e]
theorem bN.keep {S:List Nat} {w w':wW} {a:Option Addr} {l:List Int} (h:bN w a l) (m:af S w w') (hS:∀ b o,a=sS ⟨b,o,nN⟩ -> b∉S):bN w' a l:=by
 rcases h with h|⟨b,h1,h2,h3⟩
 ·exact .inl h
 ·exact .inr ⟨b,h1,Nat.lt_of_lt_of_le h2 m.size,λj hj=>m.at (h3 j hj) (hS b 0 h1)⟩
theorem GY {w:wW} {n:Nat} {o:Obj} (h:w.heap.size=n):(w.alloc o).heap[n]?=sS o:=by
 subst h;exact ai _ _
def Av (t:Nat):SW:={ now:=t,dues:=[],lists:=λ_=>[] }
theorem CW:Tryz.zeroCells279=#[vi iQ 0,.map nN]++Array.replicate 169 (.slice nN 0 0):=by kernel_rfl
theorem Dd (t:Nat) (ht:aV t) (w:wW):Calls tp 101 #[vi iQ t] w (λe w'=>∃ d mb,e=.returned (.tuple #[vp (sS ⟨d,0,nN⟩),vi iQ 0]) /\ af [] w w' /\ aw w' d mb (λ_=>(nN,0)) (Av t) /\ w.heap.size <= d /\ w.heap.size <= mb):=by
 have h2:=decide_eq_true ht
 have hmk:=λw=>run_makeMap (P:=tp) 275 w
 have hz:=Tryz.zeroValue279
 clear ht
 go_in
 go_wp2_with (go_at_call 174;refine (dH _ _).r λk1=>?_)
 have hsz:Tryz.zeroCells279.size=171:=by kernel_rfl
 go_ret2
 refine ⟨w.heap.size+1,w.heap.size,rfl,(mR.drewN _ |>.alloc _).alloc _,⟨⟨_,GY sM,by simp [hsz],?_,?_,?_⟩,(bR.new .i64 (w.drewN k1)).keep ((af.refl [] _).alloc _) sM,λk hk=>⟨rfl,rfl⟩,by simp,λk hk b hb=>by simp [lF] at hb,λj k _ _ _ b hb=>by simp [lF] at hb⟩,by omega,by omega⟩
 ·rw [Array.getElem?_setIfInBounds_ne oM,Array.getElem?_setIfInBounds_self_of_lt oM]
  try rfl
 ·rw [Array.getElem?_setIfInBounds_self_of_lt (by simp [hsz])]
 ·intro k hk
  rw [Array.getElem?_setIfInBounds_ne oM,Array.getElem?_setIfInBounds_ne oM,CW]
  rw [Array.getElem?_append_right sM]
  show (Array.replicate 169 (Value.slice nN 0 0))[2+k - 2]?=_
  rw [show 2+k - 2=k by omega]
  rw [Array.getElem?_eq_getElem (by simp;omega)]
  simp [lA,Av]
theorem JY {t:Nat} (h:aV t):(Av t).ok:=⟨by have:=h.2;show t <= _;omega,by simp [Av]⟩
theorem SW.ok.add {s:SW} (h:s.ok) (id due:Int):(s.add id due).ok:=by
 unfold SW.add
 split
 ·rename_i he
  refine (h.setDue id ?_).put id
  unfold SW.addE at he
  by_cases hr:aV due
  ·have:=hr.1;have:=hr.2;omega
  ·rw [pG hr] at he;omega
 ·exact h
theorem SW.ok.go {s:SW} (h:s.ok) (t:Int):(s.go t).ok:=by
 unfold SW.go
 split
 ·exact h
 ·rename_i hn
  split
  ·exact h
  ·have hr:aV t:=by
    by_cases hr:aV t
    ·exact hr
    ·exact absurd (.inr hr) hn
   refine SW.ok.puts ⟨?_,λp hp=>?_⟩ _
   ·show t.toNat <= _;have:=hr.2;omega
   ·refine h.due p ?_
    have hp':p∈((s.goN (aU t.toNat s.now)).2.leaveN (aU t.toNat s.now) (gm t.toNat (aU t.toNat s.now)+1)).dues:=hp
    rwa [dM,jK] at hp'
theorem nc {α:Type} (p a b:α -> Bool):∀ (l:List α),(∀ x,x∈l -> p x=(a x||b x)) -> (∀ x,x∈l -> ¬ (a x=tQ /\ b x=tQ)) -> (l.filter p).Perm (l.filter a++l.filter b)
 | [],_,_=>List.Perm.refl _
 | x :: l,h1,h2=>by
  have ih:=nc p a b l (λy hy=>h1 y (List.mem_cons_of_mem _ hy)) (λy hy=>h2 y (List.mem_cons_of_mem _ hy))
  have e1:=h1 x List.mem_cons_self
  have e2:=h2 x List.mem_cons_self
  cases ha:a x
  ·cases hb:b x
   ·rw [List.filter_cons_of_neg (by simp [e1,ha,hb]),List.filter_cons_of_neg (by simp [ha]),List.filter_cons_of_neg (by simp [hb])]
    exact ih
   ·rw [List.filter_cons_of_pos (by simp [e1,ha,hb]),List.filter_cons_of_neg (by simp [ha]),List.filter_cons_of_pos (by simp [hb])]
    exact (ih.cons x).trans List.perm_middle.symm
  ·have hb:b x=fF:=by
    cases hb:b x
    ·rfl
    ·exact absurd ⟨ha,hb⟩ e2
   rw [List.filter_cons_of_pos (by simp [e1,ha]),List.filter_cons_of_pos (by simp [ha]),List.filter_cons_of_neg (by simp [hb])]
   exact ih.cons x
theorem oW:∀ {m:List (Int × Nat)} {i:Int} {v:Nat} (j:Nat),(m.map (·.1)).Nodup -> (i,v)∈m -> ∃ n,cQ m i j=sS (n,v)
 | p :: m,i,v,j,hn,hm=>by
  unfold cQ
  rcases List.mem_cons.1 hm with rfl|hm
  ·exact ⟨j,pG rfl⟩
  ·have hn':=List.nodup_cons.1 (show (p.1 :: m.map (·.1)).Nodup from hn)
   have hne:i≠p.1:=by
    rintro rfl
    exact hn'.1 (List.mem_map.2 ⟨_,hm,rfl⟩)
   rw [nG hne]
   exact oW (j+1) hn'.2 hm
theorem cI {m:List (Int × Nat)} {i:Int} {v:Nat} (hn:(m.map (·.1)).Nodup) (hm:(i,v)∈m):aC m i=sS v:=by
 obtain ⟨n,h⟩:=oW 0 hn hm
 unfold aC
 rw [h];rfl
theorem kH:∀ {m:List (Int × Nat)} {i:Int} {j:Nat},cQ m i j=nN -> i∉m.map (·.1)
 | [],i,j,_=>by simp
 | p :: m,i,j,h=>by
  unfold cQ at h
  split at h
  ·cases h
  ·rename_i hne
   have:=kH h
   simp only [List.map_cons,List.mem_cons,not_or]
   exact ⟨hne,this⟩
theorem jM {m:List (Int × Nat)} {i:Int} (h:aC m i=nN):cQ m i 0=none:=by
 unfold aC at h
 simpa using h
structure SW.Inv (s:SW):Prop where
 ok:s.ok
 nodup:(s.dues.map (·.1)).Nodup
 wf:∀ p,p∈s.dues -> (Lit.int .i64 p.1).wf=tQ
 part:∀ k,(s.lists k).Perm ((s.dues.filter (λp=>decide (aP s.now p.2=k))).map (·.1))
theorem SW.Inv.due {s:SW} (h:s.Inv) {p:Int × Nat} (hp:p∈s.dues):aL s p.1=p.2:=by
 unfold aL
 rw [cI (v:=p.2) h.nodup hp];rfl
theorem IB {t:Nat} (h:aV t):(Av t).Inv:=⟨JY h,by simp [Av],by simp [Av],λk=>by simp [Av]⟩
theorem SW.Inv.len {s:SW} (h:s.Inv) (k:Nat):(s.lists k).length <= s.dues.length:=by
 rw [(h.part k).length_eq,List.length_map]
 exact List.length_filter_le _ _
theorem Bg (ids:List Int):∀ (s:SW) (k:Nat),(s.puts ids).lists k=s.lists k++ids.filter (λid=>decide (aP s.now (aL s id)=k)):=by
 induction ids with
 | nil=>intro s k;simp [SW.puts]
 | cons a l ih=>
  intro s k
  have h1:=ih (s.put a) k
  have e:(s.puts (a :: l))=(s.put a).puts l:=rfl
  rw [e,h1]
  have e2:∀ id,aL (s.put a) id=aL s id:=λid=>rfl
  have e3:(s.put a).now=s.now:=rfl
  simp only [e2,e3]
  by_cases hk:aP s.now (aL s a)=k
  ·rw [List.filter_cons_of_pos (by simpa using hk)]
   have:(s.put a).lists k=s.lists k++[a]:=by
    show iY s.lists (aP s.now (aL s a)) _ k=_
    rw [hk,aJ]
   rw [this,List.append_assoc];rfl
  ·rw [List.filter_cons_of_neg (by simpa using hk)]
   have:(s.put a).lists k=s.lists k:=bc _ _ (λh=>hk h.symm)
   rw [this]
theorem SW.Inv.add {s:SW} (h:s.Inv) {id:Int} (hid:(Lit.int .i64 id).wf=tQ) (due:Int):(s.add id due).Inv:=by
 unfold SW.add
 by_cases he:s.addE id due=0
 case neg=>rw [nG he];exact h
 rw [pG he]
 have hr:aV due:=by
  unfold SW.addE at he
  by_cases hr:aV due
  ·exact hr
  ·rw [pG hr] at he;omega
 have hg:aC s.dues id=none:=by
  unfold SW.addE at he
  rw [nG (by simpa using hr)] at he
  cases hg:aC s.dues id with
  | none=>rfl
  | some v=>rw [hg] at he;simp at he
 have hni:=kH (jM hg)
 have hput:gT s.dues id due.toNat=s.dues++[(id,due.toNat)]:=by unfold gT;rw [jM hg]
 have hnd:((s.dues++[(id,due.toNat)]).map (·.1)).Nodup:=by
  rw [List.map_append]
  refine List.nodup_append.2 ⟨h.nodup,by simp,?_⟩
  intro a ha b hb hab
  simp at hb
  subst hb hab
  exact hni ha
 have hdu:aL (s.setDue id due.toNat) id=due.toNat:=by
  unfold aL
  have:aC (s.setDue id due.toNat).dues id=sS due.toNat:=by
   show aC (gT s.dues id due.toNat) id=_
   rw [hput]
   exact cI hnd sM
  rw [this];rfl
 refine ⟨(h.ok.setDue id (by have:=hr.1;have:=hr.2;omega)).put id,?_,?_,?_⟩
 ·show ((gT s.dues id due.toNat).map (·.1)).Nodup
  rw [hput];exact hnd
 ·intro p hp
  have hp':p∈gT s.dues id due.toNat:=hp
  rw [hput] at hp'
  rcases List.mem_append.1 hp' with hp'|hp'
  ·exact h.wf p hp'
  ·simp at hp';subst hp';exact hid
 ·intro k
  show (iY s.lists (aP s.now (aL (s.setDue id due.toNat) id)) (s.lists (aP s.now (aL (s.setDue id due.toNat) id))++[id]) k).Perm (((gT s.dues id due.toNat).filter (λp=>decide (aP s.now p.2=k))).map (·.1))
  rw [hdu,hput,List.filter_append,List.map_append]
  by_cases hk:k=aP s.now due.toNat
  ·subst hk
   rw [aJ]
   have e:(([(id,due.toNat)]:List (Int × Nat)).filter (λp=>decide (aP s.now p.2=aP s.now due.toNat))).map (·.1)=[id]:=by simp
   rw [e]
   exact (h.part _).append_right _
  ·rw [bc _ _ hk]
   have e:(([(id,due.toNat)]:List (Int × Nat)).filter (λp=>decide (aP s.now p.2=k))).map (·.1)=[]:=by
    simp [Ne.symm hk]
   rw [e,List.append_nil]
   exact h.part k
theorem sO (lv n:Nat) (f:Nat -> List Int):(List.range (lv * 8+(n+1))).flatMap f=(List.range (lv * 8+n)).flatMap f++f (lv * 8+n):=by
 rw [<- Nat.add_assoc,List.range_succ,List.flatMap_append]
 simp
theorem sq (s:SW) (lv:Nat):∀ n,(List.range (lv * 8+n)).flatMap s.lists=(List.range (lv * 8)).flatMap s.lists++s.tookN lv n
 | 0=>by simp [SW.tookN]
 | n+1=>by rw [sO,sq s lv n,SW.tookN,List.append_assoc]
theorem lT (s:SW):∀ n k,(s.goN n).2.lists k=if k<n * 8 then [] else s.lists k
 | 0,k=>by rw [nG oM];rfl
 | n+1,k=>by
  show ((s.goN n).2.leaveN n 8).lists k=_
  rw [fA,lT s n k]
  by_cases h1:n * 8 <= k /\ k<n * 8+8
  ·rw [pG h1,pG oM]
  ·rw [nG h1]
   by_cases h2:k<n * 8
   ·rw [pG h2,pG oM]
   ·rw [nG h2,nG oM]
theorem kY {s s':SW} {lv:Nat}:∀ n,(∀ i,i<n -> s.lists (lv * 8+i)=s'.lists (lv * 8+i)) -> s.tookN lv n=s'.tookN lv n
 | 0,_=>rfl
 | n+1,h=>by
  show s.tookN lv n++_=s'.tookN lv n++_
  rw [kY n (λi hi=>h i oM),h n oM]
theorem He (s:SW):∀ n,(s.goN n).1=(List.range (n * 8)).flatMap s.lists
 | 0=>rfl
 | n+1=>by
  show (s.goN n).1++(s.goN n).2.tookN n 8=_
  rw [He s n,kY (s':=s) 8 (λi hi=>by rw [lT,nG oM]),show (n+1) * 8=n * 8+8 by omega,sq]
/-- The first slot that a Go to t leaves. -/
def AG (s:SW) (t:Nat):Nat:=aU t s.now * 8+(gm t (aU t s.now)+1)
theorem Jw (s:SW) (t:Nat):s.gone t=(List.range (AG s t)).flatMap s.lists:=by
 unfold SW.gone AG
 rw [He,kY (s':=s) _ (λi hi=>by
  have:=ig t (aU t s.now)
  rw [lT,nG oM]),sq]
theorem BK (s:SW) (t k:Nat):(s.left t).lists k=if k<AG s t then [] else s.lists k:=by
 have e:(s.left t).lists=((s.goN (aU t s.now)).2.leaveN (aU t s.now) (gm t (aU t s.now)+1)).lists:=rfl
 rw [e,fA,lT]
 unfold AG
 by_cases h1:aU t s.now * 8 <= k /\ k<aU t s.now * 8+(gm t (aU t s.now)+1)
 ·rw [pG h1,pG oM]
 ·rw [nG h1]
  by_cases h2:k<aU t s.now * 8
  ·rw [pG h2,pG oM]
  ·rw [nG h2,nG oM]
theorem wQ (s:SW) (h:s.Inv):∀ T,((List.range T).flatMap s.lists).Perm ((s.dues.filter (λp=>decide (aP s.now p.2<T))).map (·.1))
 | 0=>by simp
 | T+1=>by
  rw [List.range_succ,List.flatMap_append]
  have ih:=wQ s h T
  have h1:=nc (λp:Int × Nat=>decide (aP s.now p.2<T+1)) (λp=>decide (aP s.now p.2<T)) (λp=>decide (aP s.now p.2=T)) s.dues (λp _=>by
   by_cases a:aP s.now p.2<T
   ·have:aP s.now p.2<T+1:=by omega
    simp [a,this]
   ·by_cases b:aP s.now p.2=T
    ·simp [b]
    ·have:¬ aP s.now p.2<T+1:=by omega
     simp [a,b,this]) (λp _=>by simp;omega)
  refine List.Perm.trans ?_ (h1.map (·.1)).symm
  rw [List.map_append]
  have e:List.flatMap s.lists [T]=s.lists T:=by simp
  rw [e]
  exact ih.append (h.part T)
theorem uu {s:SW} (h:s.Inv) (f:Nat -> Bool):∀ (l:List (Int × Nat)),(∀ p,p∈l -> p∈s.dues) -> (l.map (·.1)).filter (λid=>f (aL s id))=(l.filter (λp=>f p.2)).map (·.1)
 | [],_=>rfl
 | p :: l,hl=>by
  have ih:=uu h f l (λq hq=>hl q (List.mem_cons_of_mem _ hq))
  have e:=h.due (hl p List.mem_cons_self)
  rw [List.map_cons]
  by_cases hf:f p.2=tQ
  ·simp [List.filter_cons,e,hf,ih]
  ·simp [List.filter_cons,e,hf,ih]
theorem Cq {s:SW} (h:s.Inv) {t:Nat} (hn:s.now<t) (ht:t <= 1152921504606846976) {p:Int × Nat} (hp:p∈s.dues) (hk:¬ aP s.now p.2<AG s t):aP t p.2=aP s.now p.2:=by
 by_cases hd:p.2 <= s.now
 ·have e1:aP s.now p.2=168:=pG hd
  have e2:aP t p.2=168:=pG oM
  rw [e1,e2]
 ·refine BR hn oM ht (h.ok.due p hp) ?_
  intro hc
  apply hk
  have e:aP s.now p.2=aU p.2 s.now * 8+gm p.2 (aU p.2 s.now):=nG hd
  rw [e]
  unfold AG
  have d1:=ig p.2 (aU p.2 s.now)
  rcases hc with hc|⟨hc1,hc2⟩
  ·omega
  ·rw [hc1] at hc2 d1 ⊢
   omega
theorem SW.Inv.goTo {s:SW} (h:s.Inv) {t:Nat} (hn:s.now<t) (ht:t <= 1152921504606846976):(s.goTo t).Inv:=by
 have hdues:(s.goTo t).dues=s.dues:=by
  unfold SW.goTo
  rw [lN]
  have e:(s.left t).dues=((s.goN (aU t s.now)).2.leaveN (aU t s.now) (gm t (aU t s.now)+1)).dues:=rfl
  rw [e]
  rw [dM,jK]
 have hnow:(s.goTo t).now=t:=by
  unfold SW.goTo
  rw [nQ];rfl
 have hleft:(s.left t).dues=s.dues:=by
  have e:(s.left t).dues=((s.goN (aU t s.now)).2.leaveN (aU t s.now) (gm t (aU t s.now)+1)).dues:=rfl
  rw [e]
  rw [dM,jK]
 refine ⟨⟨by rw [hnow];exact ht,by rw [hdues];exact h.ok.due⟩,by rw [hdues];exact h.nodup,by rw [hdues];exact h.wf,λk=>?_⟩
 rw [hdues,hnow]
 unfold SW.goTo
 rw [Bg,BK]
 have e1:(s.left t).now=t:=rfl
 have e2:∀ id,aL (s.left t) id=aL s id:=λid=>by unfold aL;rw [hleft]
 simp only [e1,e2]
 rw [Jw]
 have hflat:=(wQ s h (AG s t)).filter (λid=>decide (aP t (aL s id)=k))
 rw [uu h (λv=>decide (aP t v=k)) _ (λp hp=>(List.mem_filter.1 hp).1),List.filter_filter] at hflat
 have hs:=nc (λp:Int × Nat=>decide (aP t p.2=k)) (λp=>decide (¬ k<AG s t)&&decide (aP s.now p.2=k)) (λp=>decide (aP t p.2=k)&&decide (aP s.now p.2<AG s t)) s.dues (λp hp=>by
  by_cases hk:aP s.now p.2<AG s t
  ·by_cases a:aP t p.2=k
   ·simp [a,hk]
   ·by_cases b:aP s.now p.2=k
    ·have:k<AG s t:=by omega
     simp [a,this]
    ·simp [a,b]
  ·have st:=Cq h hn ht hp hk
   by_cases a:aP t p.2=k
   ·have b:aP s.now p.2=k:=by omega
    have c:¬ k<AG s t:=by omega
    simp [a,b,c]
   ·have b:¬ aP s.now p.2=k:=by omega
    simp [a,b]) (λp _=>by simp;omega)
 refine List.Perm.trans ?_ (hs.map (·.1)).symm
 rw [List.map_append]
 refine List.Perm.append ?_ hflat
 by_cases hk:k<AG s t
 ·rw [pG hk]
  have:s.dues.filter (λp=>decide (¬ k<AG s t)&&decide (aP s.now p.2=k))=[]:=by
   rw [List.filter_eq_nil_iff]
   intro p _
   simp [hk]
  rw [this];exact List.Perm.refl _
 ·rw [nG hk]
  have:s.dues.filter (λp=>decide (¬ k<AG s t)&&decide (aP s.now p.2=k))=s.dues.filter (λp=>decide (aP s.now p.2=k)):=by
   apply List.filter_congr
   intro p _
   simp [hk]
  rw [this];exact h.part k
theorem SW.Inv.go {s:SW} (h:s.Inv) (t:Int):(s.go t).Inv:=by
 unfold SW.go
 split
 ·exact h
 ·rename_i hn
  split
  ·exact h
  ·rename_i he
   have hr:aV t:=by
    by_cases hr:aV t
    ·exact hr
    ·exact absurd (.inr hr) hn
   have hlt:¬ t<s.now:=λhh=>hn (.inl hh)
   have:=hr.1
   have:=hr.2
   exact h.goTo oM oM
/-- What is ready. -/
theorem SW.Inv.ready {s:SW} (h:s.Inv):(s.lists 168).Perm ((s.dues.filter (λp=>decide (p.2 <= s.now))).map (·.1)):=by
 have e:s.dues.filter (λp=>decide (aP s.now p.2=168))=s.dues.filter (λp=>decide (p.2 <= s.now)):=by
  apply List.filter_congr
  intro p hp
  by_cases hd:p.2 <= s.now
  ·have:aP s.now p.2=168:=pG hd
   simp [hd,this]
  ·have h1:aP s.now p.2=aU p.2 s.now * 8+gm p.2 (aU p.2 s.now):=nG hd
   have h2:=oo (h.ok.due p hp) h.ok.now
   have h3:=ig p.2 (aU p.2 s.now)
   have:¬ aP s.now p.2=168:=by omega
   simp [hd,this]
 rw [<- e];exact h.part 168
section
open Go.RowKit Go.Sort
def nC (l:List Int) (k:Int):List Int:=l.filter (λx=>!decide (x=k))
theorem FG (l:List Int) (k:Int):(nC l k).length <= l.length:=List.length_filter_le _ _
theorem Ju {w:wW} {g T:Nat} {cur:Array Value} (h:w.heap[g]?=sS (.cells cur T (0,0))) (off:Nat) (d:Array Int):(putRow (vi iQ) w g off d).heap[g]?=sS (.cells (putCells (vi iQ) off d cur) T (0,0)):=by
 show (w.heap.modify g _)[g]?=_
 rw [Array.getElem?_modify,pG rfl,h]
 rfl
theorem uU (l r:List Int) (cur:Array Value) (h:l.length+r.length <= cur.size):(putCells (vi iQ) 0 (l++r).toArray cur).toList.take l.length=l.map (vi iQ):=by
 apply List.ext_getElem?
 intro i
 rw [List.getElem?_take]
 split
 ·rename_i hi
  have hc:cur[i]?=sS cur[i]:=Array.getElem?_eq_getElem oM
  rw [Array.getElem?_toList]
  unfold putCells
  rw [Array.getElem?_mapIdx,hc,List.getElem?_map,List.getElem?_eq_getElem hi]
  simp only [Option.map_some]
  rw [pG ⟨by omega,by simp;omega⟩]
  rw [getElem!_pos _ _ (by simp;omega)]
  simp [hi]
 ·rename_i hi
  rw [List.getElem?_eq_none (by simp;omega)]
theorem wT (B:Nat) (id x:Int) (W:wW) (hc:W.cell? ⟨B,0,nN⟩=sS (vi iQ id)):Calls tp 326 #[vi iQ x,vp (sS ⟨B,0,nN⟩)] W (au (vb (decide (x=id))) W):=by
 by_cases e:x=id
 ·have e':(x==id)=tQ:=by simpa using e
  have hD:decide (x=id)=tQ:=decide_eq_true e
  rw [hD]
  clear hD e
  go_in
  go_wp2
  go_ret
  exact au.of (rfl) dz
 ·have e':(x==id)=fF:=by simpa using e
  have hD:decide (x=id)=fF:=decide_eq_false e
  rw [hD]
  clear hD e
  go_in
  go_wp2
  go_ret
  exact au.of (rfl) dz
theorem EY (B g cap:Nat) (l:List Int) (id:Int) (w:wW) (hL:fG w (sS g) cap l) (hB:w.cell? ⟨B,0,nN⟩=sS (vi iQ id)) (hne:B≠g):
  Calls tp 325 #[.slice (sS ⟨g,0,nN⟩) l.length cap,.func (.func 326) #[] #[vp (sS ⟨B,0,nN⟩)]] w
   (λe w'=>e=.returned (.slice (sS ⟨g,0,nN⟩) (nC l id).length cap) /\ fG w' (sS g) cap (nC l id) /\ af [g] w w'):=by
 have eg:∀ args w,(callFunc 326 args).run tp w=.ok (.enter 326 args) w:=enters_of Tryz.func326 kz rfl
 have hcap:=hL.cap
 unfold maxLen at hcap
 have hBl:=jG hB
 have hH:Holds (vi iQ) w g 0 l.toArray:=by
  intro j hj
  have hj':j<l.length:=by simpa using hj
  obtain ⟨b,e,hc⟩:=hL.cell hj'
  cases e
  obtain ⟨cur,hcur,_⟩:=hL
  rw [Nat.zero_add,xZ l j hj']
  exact ⟨hc,ax hcur j⟩
 have hp:PredAt tp 326 #[vp (sS ⟨B,0,nN⟩)] (vi iQ) (λx=>decide (x=id)) w:=
  λW x hb=>wT B id x W ((hb.cell (p:=⟨B,0,nN⟩) hBl).trans hB)
 have hpo:PredOver tp 326 #[vp (sS ⟨B,0,nN⟩)] (vi iQ) (λx=>decide (x=id)) g 0 l.toArray.size w:=by
  intro n os dk x hs
  have mm:=gB (vi iQ) w g 0 n dk os
  exact wT B id x _ (mm.at hB (by simpa using hne))
 have hcon:=AnyE.slices_DeleteFunc dropL (vi iQ) (λ_=>rfl) (λx=>decide (x=id)) 326 #[vp (sS ⟨B,0,nN⟩)] eg 0 Tryz.zeroValue3 g 0 cap l.toArray w hp hpo hH (by simp;omega) (by simp;omega)
 refine Calls.mono (show Calls tp 325 _ _ _ from hcon) ?_
 rintro e w' ⟨rfl,q,rfl⟩
 obtain ⟨cur,hcur,h2,h3,h4,h5⟩:=hL
 have hle:=FG l id
 refine ⟨rfl,⟨_,Ju (w:=Sort.ahead w q) hcur 0 _,by omega,h3,?_,?_⟩,?_⟩
 ·unfold putCells
  rw [Array.size_mapIdx];exact h4
 ·refine uU (nC l id) _ cur ?_
  rw [List.length_replicate,List.size_toArray]
  show (nC l id).length+(l.length - (nC l id).length) <= _
  omega
 ·have:=gB (vi iQ) w g 0 q ((nC l id)++List.replicate (l.toArray.size - (nC l id).length) 0).toArray #[]
  unfold sortWorld at this
  rwa [grow_empty] at this
/-- Drop: the errno; the wheel behind it. -/
def SW.dropE (s:SW) (id:Int):Int:=if (aC s.dues id).isSome then 0 else 4
def SW.drop (s:SW) (id:Int):SW:=if (aC s.dues id).isSome then { s with dues:=iW s.dues id,lists:=iY s.lists (aP s.now (aL s id)) (nC (s.lists (aP s.now (aL s id))) id) } else s
theorem AA (d mb:Nat) (G:Nat -> Option Nat × Nat) (s:SW) (w:wW) (h:aw w d mb G s) (hok:s.ok) (id:Int) (hne:(aC s.dues id).isSome=tQ -> s.lists (aP s.now (aL s id))≠[]):
  Calls tp 287 #[vp (sS ⟨d,0,nN⟩),vi iQ id] w (pk d mb G (vi iQ (s.dropE id)) (s.drop id) w):=by
 have cM:=h.cellMap
 have hlk:=ie h id
 unfold SW.dropE SW.drop
 have hmB:af [] w (w.alloc (.cells #[vi iQ id] 3)):=mR.alloc _
 have cB:=ab (ai w (.cells #[vi iQ id] 3)) 0
 have cM1:=hmB.at cM sM
 have hlk1:=λn=>ie ((h.keep hmB sM).same (w':=(w.alloc (.cells #[vi iQ id] 3)).drewN n) rfl) id
 by_cases hs:(aC s.dues id).isSome=tQ
 ·rw [pG hs,pG hs]
  rw [hs] at hlk1
  have hne':=hne hs
  have hdd:=xV hok id
  have hkk:=xN hok.now hdd
  have hL0:=λ(w':wW) (hh:aw w' d mb G s)=>sd d mb G s w' hh (aL s id) hok.now hdd
  have hl0:=h.list _ hkk
  have hc0:=h.cellList hkk
  have hset:=λ(S:List Nat) (w1:wW) (m:af S w w1) (hS) (g':Option Nat) (cap':Nat) (l':List Int) (hL:fG w1 g' cap' l') (hg)=>h.setList hkk m hS hL hg
  have hown:=h.own _ hkk
  have hap:=λj hj hjk=>h.apart _ j hkk hj hjk
  clear hne hlk cM
  generalize aP s.now (aL s id)=k at *
  generalize aL s id=du at *
  obtain ⟨g,hg,_⟩:=hl0.cell (List.length_pos_iff.2 hne')
  rw [hg] at hl0 hc0 hown hap
  rw [kv] at hc0
  have hgl:=hl0.lt g (by simp [lF])
  obtain ⟨hgd,hgm⟩:=hown g (by simp [lF])
  obtain ⟨cs,hcs,_⟩:=h.obj
  have hwl:=h.lt
  clear hs
  have hc1:=hmB.at hc0 sM
  generalize ho:2+k=o at *
  have hO:=zh ho
  clear ho
  go_in
  go_wp2
  go_quiet (fail)
  go_wp2_with (first
   | (
    go_at_call 324
    refine (hL0 _ (by exact (h.keep hmB sM).same rfl)).r λk1=>?_
    )
   | (
    go_at_call 325
    refine (EY w.heap.size g (G k).2 (s.lists k) id _ (by exact (hl0.keep hmB sM).same rfl) (by exact cB) oM).mono ?_
    rintro e w3 ⟨rfl,x3,m3⟩
    have mA:af [g] w w3:=af.trans (S:=[g]) (T:=[g]) ((mR.alloc _).drewN _) m3 sM
    have hcs2:=mA.keep hcs (by simp;omega)
    have c2:=mA.at hc0 (by simp;omega)
    have f2:=ax hcs2 o
    have z2:=bY hcs2
    have cB3:=m3.at (p:=⟨w.heap.size,0,nN⟩) (by exact cB) (by simp;omega)
    have H2:=zh (And.intro x3 (And.intro mA cB3))
    clear x3 mA m3 hcs2 cB3
    )
   )
  obtain ⟨x3,mA,cB3⟩:=H2.out
  have hW:=hset [g] w3 mA (by simp;exact ⟨hgd,hgm,λj hj hjk=>λhb=>hap j hj (Ne.symm hjk) g (by simp [lF]) hb⟩) (sS g) (G k).2 (nC (s.lists k) id) x3 (by intro b hb;rw [hg];exact .inl hb)
  rw [kv] at hW
  have hgw:g∈az d mb G:=aB.2 (.inr (.inr ⟨k,hkk,by rw [hg];simp [lF]⟩))
  have hmbl:=hwl mb (aB.2 (.inr (.inl rfl)))
  have hmbd:=h.ne
  have hdl:=hwl d (aB.2 (.inl rfl))
  have m4:af (az d mb G) w (w3.setCell ⟨d,o,nN⟩ (.slice (sS ⟨g,0,nN⟩) (nC (s.lists k) id).length (G k).2)):=(mA.mono (T:=az d mb G) (by intro b hb;rw [List.mem_singleton.1 hb];exact .inl hgw)).setCell (.inl (aB.2 (.inl rfl))) _
  have cB4:(w3.setCell ⟨d,o,nN⟩ (.slice (sS ⟨g,0,nN⟩) (nC (s.lists k) id).length (G k).2)).cell? ⟨w.heap.size,0,nN⟩=sS (vi iQ id):=((af.refl [d] _).setCell sM _).at cB3 (by simp;omega)
  generalize w3.setCell ⟨d,o,nN⟩ (.slice (sS ⟨g,0,nN⟩) (nC (s.lists k) id).length (G k).2)=w4 at *
  have cM4:=hW.cellMap
  clear c2 f2 z2 x3 mA cB3 H2
  refine wp_region_held_drew (S:=λu=>u.cell? ⟨d,1,nN⟩=sS (.map (sS mb)) /\ u.cell? ⟨w.heap.size,0,nN⟩=sS (vi iQ id)) kz ⟨cM4,cB4⟩ (λhHeld=>?_)
  refine wpAnyH_take (i:=0) (v:=?_) rfl kz kz kz (λ_ _ _ h=>h) (Or.inl ⟨by rfl,?_⟩) (by assumption) ?_
  rotate_left
  ·intro w hSw;(try dsimp only at hSw);(go_simp<;>with_reducible rfl)
  try simp only [Act.put,sA,sB,sC]
  refine wpAnyH_take (i:=1) (v:=?_) rfl kz kz kz (λ_ _ _ h=>h) (Or.inl ⟨by rfl,?_⟩) (by assumption) ?_
  rotate_left
  ·intro w hSw;(try dsimp only at hSw);(go_simp<;>with_reducible rfl)
  try simp only [Act.put,sA,sB,sC]
  refine wpAnyH_take (i:=2) (v:=?_) rfl kz kz kz (λ_ _ _ h=>h) (Or.inl ⟨by rfl,?_⟩) (by assumption) ?_
  rotate_left
  ·intro w hSw;(try dsimp only at hSw);(go_simp<;>with_reducible rfl)
  try simp only [Act.put,sA,sB,sC]
  refine wpAnyH_take (i:=3) (v:=?_) rfl kz kz kz (λ_ _ _ h=>h) (Or.inl ⟨by rfl,?_⟩) (by assumption) ?_
  rotate_left
  ·intro w hSw;(try dsimp only at hSw);(go_simp<;>with_reducible rfl)
  try simp only [Act.put,sA,sB,sC]
  refine wpAnyH_take (i:=4) (v:=?_) rfl kz kz kz (λ_ _ _ h=>h) (Or.inl ⟨by rfl,?_⟩) (by assumption) ?_
  rotate_left
  ·intro w hSw;(try dsimp only at hSw);(go_simp<;>with_reducible rfl)
  try simp only [Act.put,sA,sB,sC]
  obtain ⟨w5,hrun,m5,x5⟩:=ku (P:=tp) (w:=w4.drew) (hW.map.same rfl) Tryz.underlying275 Tryz.underlying3 id
  rw [wj] at x5
  refine wpAnyH_ready (rs:=[5]) kz sM ?_
  refine AllReadyH.cons rfl (λK hK=>?_) AllReadyH.nil
  go_simp
  refine hK.out _ _ ⟨m5.at cM4 (by simp;omega),m5.at cB4 (by simp;omega)⟩ (λhHeld=>?_)
  clear hK K
  refine wpAnyH_done kz ?_ _
  go_wp2
  go_ret
  have hwl4:=hW.lt
  have hms:=m4.size
  refine ⟨rfl,iY G k (sS g,(G k).2),m4.trans (T:=[mb]) m5.undrew (by intro b hb;rw [List.mem_singleton.1 hb];exact .inl (aB.2 (.inr (.inl rfl)))),hW.setMap m5.undrew x5,λb hb=>?_⟩
  rcases iX hb with hb|hb
  ·exact .inl hb
  ·rw [List.mem_singleton.1 hb];exact .inl hgw
 ·rw [nG hs,nG hs]
  have hs':(aC s.dues id).isSome=fF:=by simpa using hs
  rw [hs'] at hlk1
  clear hne hs hs' hlk cM
  generalize aL s id=du at *
  go_in
  go_wp2
  go_quiet (fail)
  go_wp2
  go_ret
  exact ⟨rfl,G,hmB.mono sM |>.drewN _,(h.keep hmB sM).same rfl,λb hb=>.inl hb⟩
end
theorem EK (s:SW) (t:Nat):(s.goTo t).dues=s.dues:=by
 unfold SW.goTo
 rw [lN]
 have e:(s.left t).dues=((s.goN (aU t s.now)).2.leaveN (aU t s.now) (gm t (aU t s.now)+1)).dues:=rfl
 rw [e,dM,jK]
theorem Jy (s:SW) (t:Int):(s.go t).dues=s.dues:=by
 unfold SW.go
 split
 ·rfl
 ·split
  ·rfl
  ·exact EK s _
theorem Kw {s:SW} {t:Nat} (h1:s.now <= t) (h2:t <= 1152921504606846976):(s.go t).now=t:=by
 unfold SW.go
 rw [nG (by unfold aV;omega)]
 split
 ·omega
 ·unfold SW.goTo
  rw [nQ]
  show ((t:Int)).toNat=t
  omega
/-- The wheel holds thing 7 alone. -/
def Cur (w0:wW) (d mb due n:Nat) (u:wW):Prop:=∃ G s,aw u d mb G s /\ s.Inv /\ s.dues=[(7,due)] /\ s.now=n /\ af [] w0 u /\ ∀ b,b∈az d mb G -> w0.heap.size <= b
theorem Cur.keep {w0:wW} {d mb due n:Nat} {u u':wW} (h:Cur w0 d mb due n u) (m:af [] u u'):Cur w0 d mb due n u':=by
 obtain ⟨G,s,h1,h2,h3,h4,h5,h6⟩:=h
 exact ⟨G,s,h1.keep m sM,h2,h3,h4,h5.trans m sM,h6⟩
end Go.Proofs.YtmiapbgkphpgoaaGreatDoor