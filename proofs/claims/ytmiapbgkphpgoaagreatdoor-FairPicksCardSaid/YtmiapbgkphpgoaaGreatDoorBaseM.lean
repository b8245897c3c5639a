/- Walks and plain laws of the kernel. No condition. -/
import Derived.Test.YtmiapbgkphpgoaaGreatDoorProg
import Derived.KernelRfl
import Derived.WalkKit
import Derived.Outline
import Derived.Below
import Derived.Deep.QuietTactic
import Derived.BigQuiet
import Derived.RegionTactic
import Derived.BigRegion
import Derived.Lib.Hide
import Derived.Laws.CopyOwn
import Derived.Deep.LoopGhost
import Derived.Deep.OwnRows
import Derived.Laws.Bits64b
import Derived.Carry
import Derived.MapKept
import Derived.Deep.AppendLies
import Derived.Deep.Quiet
import Derived.Deep.MidRow
import Derived.ProofKit
import Derived.OpenShut
import Derived.ShutString
import Derived.ChangeOld
import Derived.Deep.Slices
import Derived.Maps.AppendAt
import Derived.Laws.OwnMore
namespace Go.Proofs.YtmiapbgkphpgoaaGreatDoor
set_option linter.unusedVariables false
set_option linter.unusedSimpArgs false
set_option maxRecDepth 100000
set_option maxHeartbeats 20000000
open Go.RowKit
open Go.Proofs.Tryz renaming prog → tp
open List renaming setIfInBounds_toArray → sA, set_cons_zero → sB, set_cons_succ → sC
open Go renaming World → wW
open Go.Value renaming pointer → vp, bool → vb, int → vi
open Go.IntKind renaming i64 → iQ, u64 → uQ
open Option renaming none → nN, some → sS
open Bool renaming true → tQ, false → fF
open Int renaming eq_ofNat_of_zero_le → iN
theorem ab {w:World} {b T:Nat} {c:Array Value} (h:w.heap[b]?=some (.cells c T (0,0))) (o:Nat):w.cell? ⟨b,o,none⟩=c[o]?:=by
 simp [World.cell?,h]
theorem ax {w:World} {b T:Nat} {c:Array Value} (h:w.heap[b]?=some (.cells c T (0,0))) (o:Nat):w.frozen? ⟨b,o,none⟩=false:=by
 simp [World.frozen?,h]
theorem bY {w:World} {b:Nat} {o:Obj} (h:w.heap[b]?=some o):b<w.heap.size:=(Array.getElem?_eq_some_iff.1 h).1
theorem ba {w:World} {b T:Nat} {c:Array Value} (h:w.heap[b]?=some (.cells c T (0,0))) (o:Nat) (v:Value):
  (w.setCell ⟨b,o,none⟩ v).heap[b]?=some (.cells (c.setIfInBounds o v) T (0,0)):=by
 simp [World.setCell,Array.getElem?_modify,h]
theorem bq {w:World} {b k o:Nat} {v:Value} (hk:k≠b):(w.setCell ⟨b,o,none⟩ v).heap[k]?=w.heap[k]?:=by
 simp [World.setCell,Array.getElem?_modify,Ne.symm hk]
theorem ai (w:World) (o:Obj):(w.alloc o).heap[w.heap.size]?=some o:=by
 show (w.heap.push o)[w.heap.size]?=_;simp
theorem cS {w:World} {o:Obj} {k:Nat} {x:Obj} (h:w.heap[k]?=some x):(w.alloc o).heap[k]?=some x:=by
 have:=bY h
 show (w.heap.push o)[k]?=_
 rw [Array.getElem?_push,if_neg (by omega)];exact h
theorem cm (w:World) (o:Obj):(w.alloc o).heap.size=w.heap.size+1:=by
 show (w.heap.push o).size=_;simp
theorem lL (w:World) (a:Addr) (v:Value):(w.setCell a v).heap.size=w.heap.size:=by simp [World.setCell]
/-- Of what was there, only blocks of S may have turned. -/
structure af (S:List Nat) (w w':World):Prop where
 os:w'.os=w.os
 tape:w'.tape=w.tape
 output:w'.output=w.output
 size:w.heap.size≤w'.heap.size
 block:∀ k,k<w.heap.size→k∉S→w'.heap[k]?=w.heap[k]?
theorem af.refl (S:List Nat) (w:World):af S w w:=⟨rfl,rfl,rfl,Nat.le_refl _,fun _ _ _=>rfl⟩
/-- Two steps; the second one may turn what the first one made. -/
theorem af.trans {S T:List Nat} {a b c:World} (h:af S a b) (g:af T b c) (hT:∀ k,k∈T→k∈S∨a.heap.size≤k):af S a c:=
 ⟨g.os.trans h.os,g.tape.trans h.tape,g.output.trans h.output,Nat.le_trans h.size g.size,fun k hk hS=>by
  rw [g.block k (Nat.lt_of_lt_of_le hk h.size) (fun hk'=>(hT k hk').elim hS (by omega)),h.block k hk hS]⟩
theorem af.drew {S:List Nat} {a w:World} (h:af S a w):af S a w.drew:=⟨h.os,h.tape,h.output,h.size,h.block⟩
theorem af.drewN {S:List Nat} {a w:World} (h:af S a w) (n:Nat):af S a (w.drewN n):=⟨h.os,h.tape,h.output,h.size,h.block⟩
theorem af.alloc {S:List Nat} {a w:World} (h:af S a w) (o:Obj):af S a (w.alloc o):=
 ⟨h.os,h.tape,h.output,by rw [cm];have:=h.size;omega,fun k hk hS=>by
  rw [← h.block k hk hS];exact Below.heap_alloc _ _ _ (Nat.lt_of_lt_of_le hk h.size)⟩
theorem af.setCell {S:List Nat} {a w:World} (h:af S a w) {p:Addr} (hp:p.block∈S∨a.heap.size≤p.block) (v:Value):af S a (w.setCell p v):=
 ⟨h.os,h.tape,h.output,by rw [lL];exact h.size,fun k hk hS=>by
  rw [← h.block k hk hS];exact Below.heap_setCell _ _ _ _ (fun e=>hp.elim (fun hp=>hS (e ▸ hp)) (by omega))⟩
theorem af.mono {S T:List Nat} {a w:World} (h:af S a w) (hT:∀ k,k∈S→k∈T∨a.heap.size≤k):af T a w:=
 ⟨h.os,h.tape,h.output,h.size,fun k hk hS=>h.block k hk (fun hk'=>(hT k hk').elim hS (by omega))⟩
theorem af.below {S:List Nat} {a w:World} {B:Nat} (h:af S a w) (hB:B≤a.heap.size) (hS:∀ k,k∈S→B≤k):Below B a w:=
 ⟨h.os,h.tape,h.output,h.size,fun k hk=>h.block k (by omega) (fun hk'=>by have:=hS k hk';omega)⟩
theorem Below.mod {a w:World} {B:Nat} {S:List Nat} (h:Below B a w) (hB:a.heap.size≤B):af S a w:=
 ⟨h.os,h.tape,h.output,h.size,fun k hk _=>h.block k (by omega)⟩
theorem af.keep {S:List Nat} {w w':World} (h:af S w w') {k:Nat} {o:Obj} (hk:w.heap[k]?=some o) (hS:k∉S):w'.heap[k]?=some o:=
 (h.block k (bY hk) hS).trans hk
theorem af.cell {S:List Nat} {w w':World} (h:af S w w') {p:Addr} (hk:p.block<w.heap.size) (hS:p.block∉S):w'.cell? p=w.cell? p:=
 World.cell?_of_block (w:=w) (h.block _ hk hS)
theorem af.setRow {S:List Nat} {a w:World} (h:af S a w) {g:Nat} (hg:g∈S∨a.heap.size≤g) (cs:Array Value):af S a (w.setRow g cs):=
 ⟨h.os,h.tape,h.output,by have:=h.size;simp [World.setRow];omega,fun k hk hS=>by
  rw [← h.block k hk hS];exact setRow_other w g k cs (fun e=>hg.elim (fun hp=>hS (e ▸ hp)) (by omega))⟩
theorem af.undrew {S:List Nat} {a w:World} (h:af S a.drew w):af S a w:=⟨h.os,h.tape,h.output,h.size,h.block⟩
theorem af.undrewN {S:List Nat} {a w:World} {k:Nat} (h:af S (a.drewN k) w):af S a w:=⟨h.os,h.tape,h.output,h.size,h.block⟩
theorem jG {w:World} {p:Addr} {v:Value} (h:w.cell? p=some v):p.block<w.heap.size:=by
 unfold World.cell? at h
 split at h
 ·rename_i hh;exact bY hh
 ·cases h
/-- A cell of a block that is none of S reads as it did. -/
theorem af.at {S:List Nat} {w w':World} (m:af S w w') {p:Addr} {v:Value} (h:w.cell? p=some v) (hS:p.block∉S):w'.cell? p=some v:=
 (m.cell (jG h) hS).trans h
/-- .. and so does one behind a new block. -/
theorem ay {w:World} {p:Addr} {v:Value} (o:Obj) (h:w.cell? p=some v):(w.alloc o).cell? p=some v:=
 ((af.refl [] w).alloc o).at h (by simp)
/-- bp has turned but the count of draws. -/
def aA (w w':World):Prop:=∃ k,w'=w.drewN k
theorem aA.refl (w:World):aA w w:=⟨0,rfl⟩
theorem aA.drewN {w u:World} (h:aA w u) (k:Nat):aA w (u.drewN k):=by
 obtain ⟨j,rfl⟩:=h
 exact ⟨j+k,by simp⟩
theorem aA.trans {a b c:World} (h:aA a b) (g:aA b c):aA a c:=by
 obtain ⟨k,rfl⟩:=g
 exact h.drewN k
theorem aA.mod {S:List Nat} {a b:World} (h:aA a b):af S a b:=by
 obtain ⟨k,rfl⟩:=h
 exact (af.refl _ _).drewN k
theorem aA.heap {a b:World} (h:aA a b):b.heap=a.heap:=by
 obtain ⟨k,rfl⟩:=h
 rfl
/-- The call returns v; nothing has turned but the count of draws. -/
def au (v:Value) (w:World) (e:Ending) (w':World):Prop:=e=.returned v∧aA w w'
/-- The call returns v, of what was there only S may have turned, and R holds then. -/
def bL (v:Value) (S:List Nat) (w:World) (R:World→Prop) (e:Ending) (w':World):Prop:=e=.returned v∧af S w w'∧R w'
theorem au.of {v u:Value} {w w':World} (h:u=v) (hd:aA w w'):au v w (.returned u) w':=⟨by rw [h],hd⟩
theorem bL.of {v u:Value} {S:List Nat} {w w':World} {R:World→Prop} (h:u=v) (m:af S w w') (r:R w'):bL v S w R (.returned u) w':=⟨by rw [h],m,r⟩
theorem FL (n:Nat):((n:Int)+1)=((n+1:Nat):Int):=by omega
theorem FJ {n:Nat} (h:1≤n):((n:Int) - 1)=((n - 1:Nat):Int):=by omega
theorem nG {c:Prop} {i:Decidable c} (h:¬c) {α:Sort _} {t e:α}:ite c t e=e:=if_neg h
theorem pG {c:Prop} {i:Decidable c} (h:c) {α:Sort _} {t e:α}:ite c t e=t:=if_pos h
theorem _root_.Go.Calls.r {P:Program} {f:Nat} {a:Array Value} {w:World} {v:Value} {Q:Ending→World→Prop} (h:Calls P f a w (au v w)) (g:∀ k,Q (.returned v) (w.drewN k)):Calls P f a w Q:=h.mono (by rintro _ _ ⟨rfl,k,rfl⟩;exact g k)
theorem _root_.Go.Calls.s {P:Program} {f:Nat} {a:Array Value} {w:World} {v:Value} {R:World→Prop} {Q:Ending→World→Prop} (h:Calls P f a w (fun e w'=>e=.returned v∧R w')) (g:∀ w',R w'→Q (.returned v) w'):Calls P f a w Q:=h.mono (by rintro _ w' ⟨rfl,k⟩;exact g w' k)
theorem mR {S:List Nat} {w:World}:af S w w:=af.refl S w
theorem zh {p:Prop} (h:p):Hid p:=Lib.hid h
theorem kz {p:Prop} (h:p:=by kernel_rfl):p:=h
theorem oM {p:Prop} (h:p:=by omega):p:=h
theorem sM {p:Prop} (h:p:=by simp):p:=h
theorem dE {p:Prop} (h:p:=by decide):p:=h
theorem dz {w w':World} (h:aA w w':=by repeat (first|exact aA.refl _|apply aA.drewN|apply aA.drew)):aA w w':=h
theorem mz {S:List Nat} {w w':World} (h:af S w w':=by repeat (first|exact af.refl _ _|with_reducible apply af.alloc|with_reducible apply af.drewN|with_reducible apply af.drew)):af S w w':=h
theorem ms {S:List Nat} {w w':World} (h:af S w w':=by repeat (first|with_reducible exact af.refl _ _|with_reducible apply af.alloc|with_reducible apply af.drewN|with_reducible apply af.drew|with_reducible refine af.setCell ?_ (by first|(simp;done)|(simp;omega)) _)):af S w w':=h
def bz (n:Int):Prop:=-9223372036854775808 <= n /\ n <= 9223372036854775807
instance instNum1 (n:Int):Decidable (bz n):=by unfold bz;infer_instance
def rD (a b:Int):Int:=if bz (a+b) then a+b else 0
def addE (a b:Int):Int:=if bz (a+b) then 0 else 16
theorem xQ (n:Int) (w:wW):Calls tp 203 #[vi iQ n,vb tQ] w (au (.tuple #[vi iQ n,vi iQ 0]) w):=by
 go_in
 go_wp2
 go_ret2
 exact au.of (rfl) dz
theorem BY (n:Int) (w:wW):Calls tp 203 #[vi iQ n,vb fF] w (au (.tuple #[vi iQ 0,vi iQ 16]) w):=by
 go_in
 go_wp2
 go_ret2
 exact au.of (rfl) dz
theorem Gm (a b:Int) (w:wW) (ha:bz a) (hb:bz b):Calls tp 297 #[vi iQ a,vi iQ b] w (au (.tuple #[vi iQ (rD a b),vi iQ (addE a b)]) w):=by
 obtain ⟨ha1,ha2⟩:=ha
 obtain ⟨hb1,hb2⟩:=hb
 by_cases h:bz (a+b)
 ·have hV:rD a b=a+b:=by simp [rD,h]
  have hE:addE a b=0:=by simp [addE,h]
  rw [hV,hE]
  clear hV hE
  obtain ⟨h1,h2⟩:=h
  by_cases hb0:b<0
  ·have e1:decide (a+b<a)=tQ:=decide_eq_true oM
   have e2:decide (b<0)=tQ:=decide_eq_true hb0
   go_in
   go_wp2_with (go_at_call 203;refine (xQ _ _).r λk=>?_)
   go_ret2
   exact au.of (rfl) dz
  ·have e1:decide (a+b<a)=fF:=decide_eq_false oM
   have e2:decide (b<0)=fF:=decide_eq_false hb0
   go_in
   go_wp2_with (go_at_call 203;refine (xQ _ _).r λk=>?_)
   go_ret2
   exact au.of (rfl) dz
 ·have hV:rD a b=0:=by simp [rD,h]
  have hE:addE a b=16:=by simp [addE,h]
  rw [hV,hE]
  clear hV hE
  unfold bz at h
  by_cases hb0:b<0
  ·have e0:wrap64 (a+b)=a+b+18446744073709551616:=by unfold wrap64;omega
   have e1:decide (wrap64 (a+b)<a)=fF:=decide_eq_false oM
   have e2:decide (b<0)=tQ:=decide_eq_true hb0
   clear e0
   go_in
   go_wp2_with (go_at_call 203;refine (BY _ _).r λk=>?_)
   go_ret2
   exact au.of (rfl) dz
  ·have e0:wrap64 (a+b)=a+b - 18446744073709551616:=by unfold wrap64;omega
   have e1:decide (wrap64 (a+b)<a)=tQ:=decide_eq_true oM
   have e2:decide (b<0)=fF:=decide_eq_false hb0
   clear e0
   go_in
   go_wp2_with (go_at_call 203;refine (BY _ _).r λk=>?_)
   go_ret2
   exact au.of (rfl) dz
/-- Number i of a list; 0 behind its end. -/
def ar (l:List Int) (i:Nat):Int:=l.getD i 0
/-- The cells of a row that holds the whole numbers l. -/
def eZ (k:IntKind) (l:List Int):Array Value:=(l.map (Value.int k)).toArray
theorem DA (k:IntKind) (l:List Int):(eZ k l).size=l.length:=by simp [eZ]
theorem bZ {k:IntKind} {l:List Int} {i:Nat} (h:i<l.length):(eZ k l)[i]?=sS (.int k (ar l i)):=by
 simp [eZ,ar,List.getD,h]
theorem sK {k:IntKind} {l:List Int} (i:Nat) (v:Int):(eZ k l).setIfInBounds i (.int k v)=eZ k (l.set i v):=by
 apply Array.ext_getElem?
 intro j
 rw [Array.getElem?_setIfInBounds]
 simp only [eZ,List.getElem?_toArray,List.getElem?_map,List.getElem?_set,List.size_toArray,List.length_map]
 by_cases e:i=j
 ·subst e
  by_cases h:i<l.length<;>simp [h]
 ·simp [e]
theorem pA (k:IntKind) (n:Nat):madeCells #[.int k 0] n=eZ k (List.replicate n 0):=by
 apply Array.ext_getElem?
 intro j
 by_cases h:j<n
 ·simp [madeCells,eZ,Nat.mod_one,h]
 ·simp [madeCells,eZ,h]
theorem nY {l:List Int} {i j:Nat} {v:Int} (h:i<l.length):ar (l.set i v) j=if i=j then v else ar l j:=by
 simp only [ar,List.getD,List.getElem?_set]
 by_cases e:i=j
 ·subst e;simp [h]
 ·simp [e]
theorem Cy (n i:Nat):ar (List.replicate n 0) i=0:=by
 simp only [ar,List.getD,List.getElem?_replicate]
 split<;>rfl
theorem lG:∀ (l:List Int) (i:Nat) (v:Int),i<l.length -> (l.set i v).sum=l.sum - ar l i+v
 | [],i,v,h=>by simp at h
 | a :: l,0,v,h=>by simp [ar];omega
 | a :: l,i+1,v,h=>by
  have:=lG l i v (by simpa using h)
  simp only [sC,List.sum_cons,this]
  simp [ar]
  omega
/-- A thing: what is so of its blocks F in a world; it Cq so while they are not touched. -/
structure ak where
 holds:List Nat -> wW -> Prop
 keep:∀ {F S:List Nat} {w w':wW},holds F w -> af S w w' -> (∀ b,b∈F -> b∉S) -> holds F w'
 lt:∀ {F:List Nat} {w:wW},holds F w -> ∀ b,b∈F -> b<w.heap.size
/-- One block, known whole. -/
def ak.blk (b:Nat) (o:Obj):ak where
 holds F w:=F=[b] /\ w.heap[b]?=sS o
 keep h m hS:=⟨h.1,m.keep h.2 (hS _ (by rw [h.1];exact List.mem_singleton_self _))⟩
 lt h b hb:=by rw [h.1,List.mem_singleton] at hb;subst hb;exact bY h.2
def ak.ex {α:Type} (f:α -> ak):ak where
 holds F w:=∃ a,(f a).holds F w
 keep h m hS:=h.elim λa h=>⟨a,(f a).keep h m hS⟩
 lt h:=h.elim λa h=>(f a).lt h
def ak.such (p:Prop) (P:ak):ak where
 holds F w:=p /\ P.holds F w
 keep h m hS:=⟨h.1,P.keep h.2 m hS⟩
 lt h:=P.lt h.2
/-- Things apart from each other. -/
def aR:List ak -> List Nat -> wW -> Prop
 | [],F,_=>F=[]
 | P :: l,F,w=>∃ F1 F2,F=F1++F2 /\ P.holds F1 w /\ aR l F2 w /\ ∀ b,b∈F1 -> b∉F2
theorem aR.keep:∀ {l:List ak} {F S:List Nat} {w w':wW},aR l F w -> af S w w' -> (∀ b,b∈F -> b∉S) -> aR l F w'
 | [],_,_,_,_,h,_,_=>h
 | P :: l,_,_,_,_,⟨F1,F2,e,h1,h2,h3⟩,m,hS=>by
  subst e
  exact ⟨F1,F2,rfl,P.keep h1 m (λb hb=>hS b (List.mem_append_left _ hb)),h2.keep m (λb hb=>hS b (List.mem_append_right _ hb)),h3⟩
theorem aR.lt:∀ {l:List ak} {F:List Nat} {w:wW},aR l F w -> ∀ b,b∈F -> b<w.heap.size
 | [],_,_,h,b,hb=>by rw [show _=_ from h] at hb;cases hb
 | P :: l,_,_,⟨F1,F2,e,h1,h2,h3⟩,b,hb=>by
  subst e
  rcases List.mem_append.1 hb with hb|hb
  ·exact P.lt h1 b hb
  ·exact h2.lt b hb
def ak.star (l:List ak):ak:=⟨aR l,aR.keep,aR.lt⟩
/-- What may come of a thing that lay in blocks F. -/
def dt (P:ak) (F:List Nat) (w w':wW):Prop:=∃ F',P.holds F' w' /\ af F w w' /\ ∀ b,b∈F' -> b∈F \/ w.heap.size <= b
/-- The call returns v and leaves P of a thing that lay in F. -/
def al (P:ak) (F:List Nat) (v:Value) (w:wW) (e:Ending) (w':wW):Prop:=e=.returned v /\ dt P F w w'
/-- .. with a result that is told with what is left. -/
def cN {α:Type} (v:α -> Value) (P:α -> ak) (F:List Nat) (w:wW) (e:Ending) (w':wW):Prop:=∃ x,e=.returned (v x) /\ dt (P x) F w w'
theorem al.v {P:ak} {F:List Nat} {v:Value} {w:wW} {e:Ending} {w':wW} (h:al P F v w e w'):cN (λ_:Unit=>v) (λ_=>P) F w e w':=⟨(),h⟩
theorem aR.frame:∀ {l:List ak} {F:List Nat} {w:wW} (k:Nat) {P:ak},aR l F w -> l[k]?=sS P ->
  ∃ F1,P.holds F1 w /\ (∀ b,b∈F1 -> b∈F) /\ ∀ {w':wW} {P':ak},dt P' F1 w w' -> ∃ F',aR (l.set k P') F' w' /\ ∀ b,b∈F' -> b∈F \/ w.heap.size <= b
 | [],_,_,_,_,_,hk=>by simp at hk
 | Q :: l,_,w,0,P,⟨F1,F2,e,h1,h2,h3⟩,hk=>by
  subst e
  cases hk
  refine ⟨F1,h1,λb hb=>List.mem_append_left _ hb,?_⟩
  rintro w' P' ⟨F',g1,g2,g3⟩
  have hl:=h2.lt
  refine ⟨F'++F2,⟨F',F2,rfl,g1,h2.keep g2 (λb hb hb'=>h3 b hb' hb),λb hb hb'=>?_⟩,λb hb=>?_⟩
  ·rcases g3 b hb with hb|hb
   ·exact h3 b hb hb'
   ·have:=hl b hb';omega
  ·rcases List.mem_append.1 hb with hb|hb
   ·rcases g3 b hb with hb|hb
    ·exact .inl (List.mem_append_left _ hb)
    ·exact .inr hb
   ·exact .inl (List.mem_append_right _ hb)
 | Q :: l,_,w,k+1,P,⟨F1,F2,e,h1,h2,h3⟩,hk=>by
  subst e
  obtain ⟨F3,p1,p2,p3⟩:=h2.frame k (by simpa using hk)
  have hl:=Q.lt h1
  refine ⟨F3,p1,λb hb=>List.mem_append_right _ (p2 b hb),?_⟩
  rintro w' P' ⟨F',g1,g2,g3⟩
  obtain ⟨F4,q1,q2⟩:=p3 ⟨F',g1,g2,g3⟩
  refine ⟨F1++F4,⟨F1,F4,rfl,Q.keep h1 g2 (λb hb hb'=>h3 b hb (p2 b hb')),q1,λb hb hb'=>?_⟩,λb hb=>?_⟩
  ·rcases q2 b hb' with hb'|hb'
   ·exact h3 b hb hb'
   ·have:=hl b hb;omega
  ·rcases List.mem_append.1 hb with hb|hb
   ·exact .inl (List.mem_append_left _ hb)
   ·rcases q2 b hb with hb|hb
    ·exact .inl (List.mem_append_right _ hb)
    ·exact .inr hb
theorem aR.append:∀ {l m:List ak} {F:List Nat} {w:wW},aR (l++m) F w↔∃ F1 F2,F=F1++F2 /\ aR l F1 w /\ aR m F2 w /\ ∀ b,b∈F1 -> b∉F2
 | [],m,F,w=>by
  constructor
  ·intro h;exact ⟨[],F,rfl,rfl,h,by simp⟩
  ·rintro ⟨F1,F2,rfl,h1,h2,_⟩
   rw [show F1=[] from h1];exact h2
 | P :: l,m,F,w=>by
  constructor
  ·rintro ⟨F1,F2,rfl,h1,h2,h3⟩
   obtain ⟨F3,F4,rfl,p1,p2,p3⟩:=aR.append.1 h2
   refine ⟨F1++F3,F4,by simp,⟨F1,F3,rfl,h1,p1,λb hb hb'=>h3 b hb (List.mem_append_left _ hb')⟩,p2,λb hb hb'=>?_⟩
   rcases List.mem_append.1 hb with hb|hb
   ·exact h3 b hb (List.mem_append_right _ hb')
   ·exact p3 b hb hb'
  ·rintro ⟨F1,F2,rfl,⟨F3,F4,rfl,p0,p1,p2⟩,h2,h3⟩
   refine ⟨F3,F4++F2,by simp,p0,aR.append.2 ⟨F4,F2,rfl,p1,h2,λb hb hb'=>h3 b (List.mem_append_right _ hb) hb'⟩,λb hb hb'=>?_⟩
   rcases List.mem_append.1 hb' with hb'|hb'
   ·exact p2 b hb hb'
   ·exact h3 b (List.mem_append_left _ hb) hb'
theorem aR.perm {l m:List ak} (h:l.Perm m):∀ {F:List Nat} {w:wW},aR l F w -> ∃ F',aR m F' w /\ ∀ b,b∈F'↔b∈F:=by
 induction h with
 | nil=>intro F w h;exact ⟨F,h,λ_=>Iff.rfl⟩
 | cons P _ ih=>
  rintro F w ⟨F1,F2,rfl,h1,h2,h3⟩
  obtain ⟨F3,p1,p2⟩:=ih h2
  exact ⟨F1++F3,⟨F1,F3,rfl,h1,p1,λb hb hb'=>h3 b hb ((p2 b).1 hb')⟩,λb=>by simp [p2]⟩
 | swap P Q l=>
  rintro F w ⟨F1,F2,rfl,h1,⟨F3,F4,rfl,p1,p2,p3⟩,h3⟩
  refine ⟨F3++(F1++F4),⟨F3,F1++F4,rfl,p1,⟨F1,F4,rfl,h1,p2,λb hb hb'=>h3 b hb (List.mem_append_right _ hb')⟩,λb hb hb'=>?_⟩,λb=>by simp;grind⟩
  rcases List.mem_append.1 hb' with hb'|hb'
  ·exact h3 b hb' (List.mem_append_left _ hb)
  ·exact p3 b hb hb'
 | trans _ _ ih1 ih2=>
  intro F w h
  obtain ⟨F1,p1,p2⟩:=ih1 h
  obtain ⟨F2,q1,q2⟩:=ih2 p1
  exact ⟨F2,q1,λb=>(q2 b).trans (p2 b)⟩
theorem aR.mem:∀ {l:List ak} {F:List Nat} {w:wW} {j:Nat} {Q:ak},aR l F w -> l[j]?=sS Q -> ∃ F2,Q.holds F2 w /\ ∀ b,b∈F2 -> b∈F
 | [],_,_,_,_,_,hj=>by simp at hj
 | P :: l,_,w,0,Q,⟨F1,F2,e,h1,h2,h3⟩,hj=>by
  cases hj
  exact ⟨F1,h1,λb hb=>by rw [e];exact List.mem_append_left _ hb⟩
 | P :: l,_,w,j+1,Q,⟨F1,F2,e,h1,h2,h3⟩,hj=>by
  obtain ⟨F3,p1,p2⟩:=h2.mem (j:=j) (by simpa using hj)
  exact ⟨F3,p1,λb hb=>by rw [e];exact List.mem_append_right _ (p2 b hb)⟩
theorem aR.apart:∀ {l:List ak} {F:List Nat} {w:wW} {i j:Nat} {P Q:ak},aR l F w -> i<j -> l[i]?=sS P -> l[j]?=sS Q ->
  ∃ F1 F2,P.holds F1 w /\ Q.holds F2 w /\ ∀ b,b∈F1 -> b∉F2
 | [],_,_,_,_,_,_,_,_,hi,_=>by simp at hi
 | R :: l,_,w,0,j+1,P,Q,⟨F1,F2,e,h1,h2,h3⟩,hij,hi,hj=>by
  cases hi
  obtain ⟨F3,p1,p2⟩:=h2.mem (j:=j) (by simpa using hj)
  exact ⟨F1,F3,h1,p1,λb hb hb'=>h3 b hb (p2 b hb')⟩
 | R :: l,_,w,i+1,0,P,Q,_,hij,_,_=>by omega
 | R :: l,_,w,i+1,j+1,P,Q,⟨F1,F2,e,h1,h2,h3⟩,hij,hi,hj=>h2.apart (i:=i) (j:=j) oM (by simpa using hi) (by simpa using hj)
/-- Since w0, when they lay in F0, the things have become l. -/
def On (F0:List Nat) (w0:wW) (l:List ak) (u:wW):Prop:=∃ F,aR l F u /\ af F0 w0 u /\ ∀ b,b∈F -> b∈F0 \/ w0.heap.size <= b
section
variable {F0:List Nat} {w0 u u':wW} {l:List ak}
theorem On.of {F:List Nat} (h:aR l F u):On F u l u:=⟨F,h,af.refl _ _,λb hb=>.inl hb⟩
theorem On.one {P:ak} {F:List Nat} (h:P.holds F u):On F u [P] u:=On.of ⟨F,[],by simp,h,rfl,by simp⟩
theorem On.start (w:wW):On [] w [] w:=⟨[],rfl,af.refl _ _,by simp⟩
theorem On.mod (h:On F0 w0 l u):af F0 w0 u:=h.choose_spec.2.1
theorem On.keep (h:On F0 w0 l u) (m:af [] u u'):On F0 w0 l u':=by
 obtain ⟨F,h1,h2,h3⟩:=h
 exact ⟨F,h1.keep m sM,h2.trans m sM,h3⟩
theorem On.gain (h:On F0 w0 l u) (k:Nat) {P P':ak} (hk:l[k]?=sS P):∃ F,P.holds F u /\ (∀ b,b∈F -> b∈F0 \/ w0.heap.size <= b) /\ ∀ {u':wW} {P':ak},dt P' F u u' -> On F0 w0 (l.set k P') u':=by
 obtain ⟨F,h1,h2,h3⟩:=h
 obtain ⟨F1,p1,p2,p3⟩:=h1.frame k hk
 refine ⟨F1,p1,λb hb=>h3 b (p2 b hb),λ{u' P'} g=>?_⟩
 obtain ⟨F',q1,q2⟩:=p3 g
 obtain ⟨F'',g1,g2,g3⟩:=g
 refine ⟨F',q1,h2.trans g2 (λb hb=>h3 b (p2 b hb)),λb hb=>?_⟩
 rcases q2 b hb with hb|hb
 ·exact h3 b hb
 ·have:=h2.size;exact .inr oM
theorem On.get (h:On F0 w0 l u) (k:Nat) {P:ak} (hk:l[k]?=sS P):∃ F,P.holds F u:=by
 obtain ⟨F,h1,_⟩:=h.gain (P':=P) k hk
 exact ⟨F,h1⟩
theorem On.call {P:Program} {f:FuncId} {args:Array Value} {v:Value} {R R':ak} (h:On F0 w0 l u) (k:Nat) (hk:l[k]?=sS R) (hc:∀ F,R.holds F u -> Calls P f args u (al R' F v u)):
  Calls P f args u (λe u'=>e=.returned v /\ On F0 w0 (l.set k R') u'):=by
 obtain ⟨F,h1,h2,h3⟩:=h.gain (P':=R') k hk
 refine (hc F h1).s λu' g=>?_
 exact ⟨rfl,h3 g⟩
theorem On.ask {P:Program} {f:FuncId} {args:Array Value} {v:Value} {R:ak} (h:On F0 w0 l u) (k:Nat) (hk:l[k]?=sS R) (hc:∀ F,R.holds F u -> Calls P f args u (au v u)):
  Calls P f args u (λe u'=>e=.returned v /\ On F0 w0 l u' /\ aA u u'):=by
 obtain ⟨F,h1⟩:=h.get k hk
 refine (hc F h1).s λu' d=>?_
 exact ⟨rfl,h.keep d.mod,d⟩
/-- A call that makes a thing out of nothing. -/
theorem On.make {P:Program} {f:FuncId} {args:Array Value} {α:Type} {v:α -> Value} {R':α -> ak} (h:On F0 w0 l u) (hc:Calls P f args u (cN v R' [] u)):
  Calls P f args u (λe u'=>∃ x,e=.returned (v x) /\ On F0 w0 (l++[R' x]) u'):=by
 obtain ⟨F,h1,h2,h3⟩:=h
 refine hc.mono ?_
 rintro e u' ⟨x,rfl,F',g1,g2,g3⟩
 have hl:=h1.lt
 have hs:=h2.size
 refine ⟨x,rfl,F++F',aR.append.2 ⟨F,F',rfl,h1.keep g2 sM,⟨F',[],by simp,g1,rfl,by simp⟩,λb hb hb'=>?_⟩,h2.trans g2 sM,λb hb=>?_⟩
 ·rcases g3 b hb' with hb'|hb'
  ·cases hb'
  ·have:=hl b hb;omega
 ·rcases List.mem_append.1 hb with hb|hb
  ·exact h3 b hb
  ·rcases g3 b hb with hb|hb
   ·cases hb
   ·exact .inr oM
theorem On.alloc (h:On F0 w0 l u) (o:Obj):On F0 w0 (l++[ak.blk u.heap.size o]) (u.alloc o):=by
 obtain ⟨F,h1,h2,h3⟩:=h
 have hl:=h1.lt
 have hs:=h2.size
 refine ⟨F++[u.heap.size],aR.append.2 ⟨F,_,rfl,h1.keep (S:=[]) (mR.alloc _) sM,⟨[u.heap.size],[],by simp,⟨rfl,ai _ _⟩,rfl,by simp⟩,λb hb hb'=>?_⟩,h2.alloc _,λb hb=>?_⟩
 ·rw [List.mem_singleton] at hb';subst hb';have:=hl _ hb;omega
 ·rcases List.mem_append.1 hb with hb|hb
  ·exact h3 b hb
  ·rw [List.mem_singleton] at hb;subst hb;exact .inr hs
theorem On.held (h:On F0 w0 l u) (k:Nat) {b:Nat} {o:Obj} (hk:l[k]?=sS (ak.blk b o)):u.heap[b]?=sS o:=by
 obtain ⟨F,h1⟩:=h.get k hk
 exact h1.2
theorem On.cell (h:On F0 w0 l u) (k:Nat) {b T:Nat} {cs:Array Value} (hk:l[k]?=sS (ak.blk b (.cells cs T (0,0)))) (o:Nat):u.cell? ⟨b,o,nN⟩=cs[o]?:=ab (h.held k hk) o
theorem On.free (h:On F0 w0 l u) (k:Nat) {b T:Nat} {cs:Array Value} (hk:l[k]?=sS (ak.blk b (.cells cs T (0,0)))) (o:Nat):u.frozen? ⟨b,o,nN⟩=fF:=ax (h.held k hk) o
theorem On.size (h:On F0 w0 l u) (k:Nat) {b:Nat} {o:Obj} (hk:l[k]?=sS (ak.blk b o)):b<u.heap.size:=bY (h.held k hk)
theorem On.ne (h:On F0 w0 l u) (i j:Nat) (hij:i<j) {a b:Nat} {o o':Obj} (hi:l[i]?=sS (ak.blk a o)) (hj:l[j]?=sS (ak.blk b o')):a≠b:=by
 obtain ⟨F,h1,_⟩:=h
 obtain ⟨F1,F2,p1,p2,p3⟩:=h1.apart hij hi hj
 rw [p1.1,p2.1] at p3
 intro e
 exact p3 a sM (by simp [e])
theorem Ic {b:Nat} {o o':Obj} {F:List Nat} (h:(ak.blk b o).holds F u) (m:af [b] u u') (hb:u'.heap[b]?=sS o'):dt (ak.blk b o') F u u':=by
 obtain ⟨rfl,h2⟩:=h
 exact ⟨[b],⟨rfl,hb⟩,m,λb hb=>.inl hb⟩
theorem On.turn (h:On F0 w0 l u) (k:Nat) {b:Nat} {o o':Obj} (hk:l[k]?=sS (ak.blk b o)) (m:af [b] u u') (hb:u'.heap[b]?=sS o'):On F0 w0 (l.set k (ak.blk b o')) u':=by
 obtain ⟨F,h1,h2,h3⟩:=h.gain (P':=ak.blk b o') k hk
 exact h3 (Ic h1 m hb)
theorem On.set (h:On F0 w0 l u) (k:Nat) {b T:Nat} {cs:Array Value} (hk:l[k]?=sS (ak.blk b (.cells cs T (0,0)))) (o:Nat) (v:Value):
  On F0 w0 (l.set k (ak.blk b (.cells (cs.setIfInBounds o v) T (0,0)))) (u.setCell ⟨b,o,nN⟩ v):=
 h.turn k hk (mR.setCell sM _) (ba (h.held k hk) o v)
/-- Things are told in another way. -/
theorem On.imp {m:List ak} (h:On F0 w0 l u) (hi:∀ F,aR l F u -> ∃ F',aR m F' u /\ ∀ b,b∈F' -> b∈F):On F0 w0 m u:=by
 obtain ⟨F,h1,h2,h3⟩:=h
 obtain ⟨F',p1,p2⟩:=hi F h1
 exact ⟨F',p1,h2,λb hb=>h3 b (p2 b hb)⟩
theorem On.perm {m:List ak} (h:On F0 w0 l u) (hp:l.Perm m):On F0 w0 m u:=h.imp λF hF=>by
 obtain ⟨F',p1,p2⟩:=hF.perm hp
 exact ⟨F',p1,λb hb=>(p2 b).1 hb⟩
/-- A thing is seen as another one. -/
theorem On.as (h:On F0 w0 l u) (k:Nat) {P P':ak} (hk:l[k]?=sS P) (hi:∀ F,P.holds F u -> P'.holds F u):On F0 w0 (l.set k P') u:=by
 obtain ⟨F,h1,h2,h3⟩:=h.gain (P':=P') k hk
 exact h3 ⟨F,hi F h1,af.refl _ _,λb hb=>.inl hb⟩
theorem aR.drop:∀ {l:List ak} {F:List Nat} {w:wW} (k:Nat),aR l F w -> ∃ F',aR (l.eraseIdx k) F' w /\ ∀ b,b∈F' -> b∈F
 | [],F,_,_,h=>⟨F,h,λ_ h=>h⟩
 | P :: l,_,_,0,⟨F1,F2,e,h1,h2,h3⟩=>⟨F2,h2,λb hb=>by rw [e];exact List.mem_append_right _ hb⟩
 | P :: l,_,_,k+1,⟨F1,F2,e,h1,h2,h3⟩=>by
  obtain ⟨F3,p1,p2⟩:=h2.drop k
  subst e
  refine ⟨F1++F3,⟨F1,F3,rfl,h1,p1,λb hb hb'=>h3 b hb (p2 b hb')⟩,λb hb=>?_⟩
  rcases List.mem_append.1 hb with hb|hb
  ·exact List.mem_append_left _ hb
  ·exact List.mem_append_right _ (p2 b hb)
theorem On.drop (h:On F0 w0 l u) (k:Nat):On F0 w0 (l.eraseIdx k) u:=h.imp λF hF=>hF.drop k
theorem On.take {m:List ak} (h:On F0 w0 (l++m) u):On F0 w0 l u:=h.imp λF hF=>by
 obtain ⟨F1,F2,rfl,h1,h2,h3⟩:=aR.append.1 hF
 exact ⟨F1,h1,λb hb=>List.mem_append_left _ hb⟩
/-- A thing of several things is laid open. -/
theorem aR.laid:∀ {l m:List ak} {F:List Nat} {w:wW},aR (ak.star m :: l) F w↔aR (m++l) F w
 | l,m,F,w=>by
  constructor
  ·rintro ⟨F1,F2,e,h1,h2,h3⟩
   exact aR.append.2 ⟨F1,F2,e,h1,h2,h3⟩
  ·intro h
   obtain ⟨F1,F2,e,h1,h2,h3⟩:=aR.append.1 h
   exact ⟨F1,F2,e,h1,h2,h3⟩
theorem On.laid {m:List ak}:On F0 w0 (ak.star m :: l) u↔On F0 w0 (m++l) u:=by
 constructor
 ·intro h;exact h.imp λF hF=>⟨F,aR.laid.1 hF,λ_ h=>h⟩
 ·intro h;exact h.imp λF hF=>⟨F,aR.laid.2 hF,λ_ h=>h⟩
/-- A thing that has no block. -/
theorem On.more (h:On F0 w0 l u) {P:ak} (hP:P.holds [] u):On F0 w0 (l++[P]) u:=h.imp λF hF=>
 ⟨F++[],aR.append.2 ⟨F,[],rfl,hF,⟨[],[],rfl,hP,rfl,by simp⟩,by simp⟩,by simp⟩
theorem On.front {P:ak} (h:On F0 w0 (l++[P]) u):On F0 w0 (P :: l) u:=h.perm (List.perm_append_singleton P l)
theorem On.gains (h:On F0 w0 l u):dt (ak.star l) F0 w0 u:=by
 obtain ⟨F,h1,h2,h3⟩:=h
 exact ⟨F,h1,h2,h3⟩
theorem On.gain1 {P:ak} (h:On F0 w0 [P] u):dt P F0 w0 u:=by
 obtain ⟨F,⟨F1,F2,rfl,h1,rfl,_⟩,h2,h3⟩:=h
 exact ⟨F1,h1,h2,λb hb=>h3 b (by simp [hb])⟩
theorem On.turns {v v':Value} (h:On F0 w0 l u) (e:v'=v):al (ak.star l) F0 v w0 (.returned v') u:=⟨by rw [e],h.gains⟩
theorem dt.imp {P P':ak} {F:List Nat} {w w':wW} (h:dt P F w w') (hi:∀ F,P.holds F w' -> P'.holds F w'):dt P' F w w':=by
 obtain ⟨F',h1,h2,h3⟩:=h
 exact ⟨F',hi _ h1,h2,h3⟩
end
theorem nz (n:Nat) (h:n<2 ^ 64):IntKind.u64.wrap (n:Int)=n:=by
 unfold IntKind.wrap
 simp only [IntKind.bits,IntKind.signed]
 simp;omega
theorem jq {i:Nat} (h:i<64):2 ^ i<2 ^ 64:=Nat.pow_lt_pow_right oM h
theorem om (a b:Nat) (w:wW) (ha:a<2 ^ 64) (hb:b<2 ^ 64):Calls tp 282 #[vi uQ a,vi uQ b] w (au (vi uQ (a &&& b:Nat)) w):=by
 have hB:=zh (bits_and_u64_nat a b ha hb)
 go_in
 go_wp2
 go_ret
 exact au.of (by rw [<- hB.out];rfl) dz
theorem zw (a:Nat) (w:wW) (ha:a<64):Calls tp 79 #[vi iQ a] w (au (vi uQ (2 ^ a:Nat)) w):=by
 have hW:=nz (2 ^ a) (jq ha)
 rw [Int.natCast_pow] at hW
 have HW:=zh hW
 clear hW
 go_in
 go_wp2
 go_ret
 exact au.of (by rw [Int.natCast_pow,<- HW.out];rfl) dz
/-- The first entry of a key, with its place. -/
def bM:List (Int × Value) -> Int -> Nat -> Option (Nat × Value)
 | [],_,_=>nN
 | p :: m,i,j=>if i=p.1 then sS (j,p.2) else bM m i (j+1)
def gJ (m:List (Int × Value)) (i:Int):Option Value:=(bM m i 0).map (·.2)
def oe (m:List (Int × Value)) (i:Int) (v:Value):List (Int × Value):=match bM m i 0 with|some (n,_)=>m.set n (i,v)|none=>m++[(i,v)]
def pK (m:List (Int × Value)) (i:Int):List (Int × Value):=match bM m i 0 with|some (n,_)=>m.eraseIdx n|none=>m
/-- The entries of a map's block are those of m. -/
structure Ents (kk:IntKind) (es:Array MapEntry) (clk:Nat) (m:List (Int × Value)):Prop where
 eq:es.toList.map (λe=>(e.key,e.val))=m.map (λp=>(Value.int kk p.1,p.2))
 nodup:(m.map (·.1)).Nodup
 born:(es.toList.map (·.born)).Nodup
 lt:∀ e∈es.toList,e.born<clk
/-- Block b is a map with the entries m. -/
def bR (kk:IntKind) (w:wW) (b:Nat) (m:List (Int × Value)):Prop:=∃ es clk,w.heap[b]?=sS (.map es clk) /\ Ents kk es clk m
theorem bR.keep {kk:IntKind} {S:List Nat} {w w':wW} {b:Nat} {m:List (Int × Value)} (h:bR kk w b m) (mm:af S w w') (hb:b∉S):bR kk w' b m:=by
 obtain ⟨es,clk,h1,h2⟩:=h
 exact ⟨es,clk,mm.keep h1 hb,h2⟩
theorem bR.same {kk:IntKind} {w w':wW} {b:Nat} {m:List (Int × Value)} (h:bR kk w b m) (e:w'.heap=w.heap):bR kk w' b m:=by
 obtain ⟨es,clk,h1,h2⟩:=h
 exact ⟨es,clk,by rw [e];exact h1,h2⟩
theorem bR.new (kk:IntKind) (w:wW):bR kk (w.alloc (.map #[] 0)) w.heap.size []:=
 ⟨#[],0,ai _ _,by simp,by simp,by simp,by simp⟩
theorem bR.lt {kk:IntKind} {w:wW} {b:Nat} {m:List (Int × Value)} (h:bR kk w b m):b<w.heap.size:=by
 obtain ⟨es,clk,h1,h2⟩:=h
 exact bY h1
theorem dL:∀ (m:List (Int × Value)) (i:Int) (j:Nat),bM m i j=(bM m i 0).map (λp=>(p.1+j,p.2))
 | [],i,j=>rfl
 | p :: m,i,j=>by
  unfold bM
  split
  ·simp
  ·rw [dL m i (j+1),dL m i (0+1)]
   cases bM m i 0<;>simp;omega
theorem ko:∀ {m:List (Int × Value)} {i:Int} {n:Nat} {v:Value},bM m i 0=sS (n,v) -> m[n]?=sS (i,v)
 | [],i,n,v,h=>by simp [bM] at h
 | p :: m,i,n,v,h=>by
  unfold bM at h
  split at h
  ·rename_i e
   simp at h
   obtain ⟨rfl,rfl⟩:=h
   simp [e]
  ·rw [dL] at h
   cases hm:bM m i 0 with
   | none=>simp [hm] at h
   | some q=>
    obtain ⟨a,b⟩:=q
    simp [hm] at h
    obtain ⟨rfl,rfl⟩:=h
    simpa using ko hm
theorem sZ:∀ {m:List (Int × Value)} {i:Int},bM m i 0=nN↔i∉m.map (·.1)
 | [],i=>by simp [bM]
 | p :: m,i=>by
  unfold bM
  split
  ·rename_i e;simp [e]
  ·rename_i e
   rw [dL]
   have:=sZ (m:=m) (i:=i)
   cases hm:bM m i 0<;>simp_all
theorem iO (kk:IntKind) (i:Int):∀ (es:List MapEntry) (m:List (Int × Value)) (j:Nat),es.map (λe=>(e.key,e.val))=m.map (λp=>(Value.int kk p.1,p.2)) -> Instr.findNow (.int kk) (.int kk i) es j=sS (bM m i j)
 | [],[],j,h=>rfl
 | [],p :: m,j,h=>by simp at h
 | e :: es,[],j,h=>by simp at h
 | e :: es,p :: m,j,h=>by
  simp only [List.map_cons,List.cons.injEq,Prod.mk.injEq] at h
  obtain ⟨⟨h1,h2⟩,h3⟩:=h
  have ih:=iO kk i es m (j+1) h3
  unfold Instr.findNow bM
  rw [h1,h2]
  simp only [Instr.sameNow,if_true]
  by_cases e:i=p.1
  ·simp [e]
  ·have:(i==p.1)=fF:=by simpa using e
   simp [this,e,ih]
section
variable {P:Program} {w:wW} {b:Nat} {kk:IntKind} {m:List (Int × Value)} {t k e:TypeId}
theorem ft (he:P.underlying k=sS (.int kk)) (x:Bool) (n:Nat) (v:Value) (w:wW):(Instr.checkKey x (n+1) k v).run P w=.ok () w:=by
 simp [Instr.checkKey,run_underlying he]
theorem kt (h:bR kk w b m) (ht:P.underlying t=sS (.map k e)) (hk:P.underlying k=sS (.int kk)) (i:Int) {z:Value} (hz:∀ w,(zeroValue e).run P w=.ok z w):
  (Instr.lookup t (.map (sS b)) (.int kk i) fF).run P w=.ok ((gJ m i).getD z) w:=by
 obtain ⟨es,clk,hb,he⟩:=h
 have hc:=λx=>ft (P:=P) hk x 9999 (.int kk i) w
 have hf:=iO kk i es.toList m 0 he.eq
 cases hm:bM m i 0 with
 | none=>
  rw [hm] at hf
  simp [Instr.lookup,run_underlying ht,getObj,Sem.run,hb,hc,Instr.findKey,run_underlying hk,hf,hz,gJ,hm]
 | some q=>
  rw [hm] at hf
  simp [Instr.lookup,run_underlying ht,getObj,Sem.run,hb,hc,Instr.findKey,run_underlying hk,hf,hz,gJ,hm]
theorem td (ht:P.underlying t=sS (.map k e)) (hk:P.underlying k=sS (.int kk)) (i:Int) {z:Value} (hz:∀ w,(zeroValue e).run P w=.ok z w) (w:wW):
  (Instr.lookup t (.map nN) (.int kk i) fF).run P w=.ok z w:=by
 have hc:=λx=>ft (P:=P) hk x 9999 (.int kk i) w
 simp [Instr.lookup,run_underlying ht,hc,Instr.findKey,run_underlying hk,Instr.findNow,hz]
theorem ll (h:bR kk w b m) (ht:P.underlying t=sS (.map k e)) (hk:P.underlying k=sS (.int kk)) (i:Int) {z:Value} (hz:∀ w,(zeroValue e).run P w=.ok z w):
  (Instr.lookup t (.map (sS b)) (.int kk i) tQ).run P w=.ok (.tuple #[(gJ m i).getD z,vb (gJ m i).isSome]) w:=by
 obtain ⟨es,clk,hb,he⟩:=h
 have hc:=λx=>ft (P:=P) hk x 9999 (.int kk i) w
 have hf:=iO kk i es.toList m 0 he.eq
 cases hm:bM m i 0 with
 | none=>
  rw [hm] at hf
  simp [Instr.lookup,run_underlying ht,getObj,Sem.run,hb,hc,Instr.findKey,run_underlying hk,hf,hz,gJ,hm]
 | some q=>
  rw [hm] at hf
  simp [Instr.lookup,run_underlying ht,getObj,Sem.run,hb,hc,Instr.findKey,run_underlying hk,hf,hz,gJ,hm]
/-- The world with another map in block b. -/
def setBlk (w:wW) (b:Nat) (o:Obj):wW:={ w with heap:=w.heap.setIfInBounds b o }
theorem af.setBlk {S:List Nat} {a w:wW} (h:af S a w) {b:Nat} (hb:b∈S \/ a.heap.size <= b) (o:Obj):af S a (setBlk w b o):=
 ⟨h.os,h.tape,h.output,by have:=h.size;show _ <= (w.heap.setIfInBounds b o).size;simpa using this,λk hk hS=>by
  show (w.heap.setIfInBounds b o)[k]?=_
  have hne:b≠k:=λq=>by subst q;exact hb.elim hS oM
  rw [Array.getElem?_setIfInBounds,nG hne,h.block k hk hS]⟩
theorem rP {w:wW} {b:Nat} {o:Obj} (h:b<w.heap.size):(setBlk w b o).heap[b]?=sS o:=by
 show (w.heap.setIfInBounds b o)[b]?=_
 rw [Array.getElem?_setIfInBounds,pG rfl,pG h]
theorem zt {m:List (Int × Value)} {i:Int} {n:Nat} {v:Value} (h:bM m i 0=sS (n,v)):n<m.length:=by
 have:=ko h
 exact (List.getElem?_eq_some_iff.1 this).1
theorem iI (h:bR kk w b m) (ht:P.underlying t=sS (.map k e)) (hk:P.underlying k=sS (.int kk)) (i:Int) (v:Value):
  ∃ w1,(Instr.mapUpdate t (.map (sS b)) (.int kk i) v).run P w=.ok () w1 /\ af [b] w w1 /\ bR kk w1 b (oe m i v):=by
 obtain ⟨es,clk,hb,he⟩:=h
 have hl:=bY hb
 have hc:=λx=>ft (P:=P) hk x 9999 (.int kk i) w
 have hf:=iO kk i es.toList m 0 he.eq
 have hlen:es.toList.length=m.length:=by have:=congrArg List.length he.eq;simpa using this
 cases hm:bM m i 0 with
 | none=>
  rw [hm] at hf
  refine ⟨setBlk w b (.map (es.push { key:=.int kk i,val:=v,born:=clk }) (clk+1)),?_,mR.setBlk sM _,_,_,rP hl,?_⟩
  ·simp [Instr.mapUpdate,run_underlying ht,getObj,setObj,Sem.run,hb,hc,Instr.findKey,run_underlying hk,hf,setBlk]
  ·have hn:=sZ.1 hm
   refine ⟨?_,?_,?_,?_⟩
   ·simp only [oe,hm,Array.toList_push,List.map_append,he.eq,List.map_cons,List.map_nil]
   ·simp only [oe,hm,List.map_append,List.map_cons,List.map_nil]
    refine List.nodup_append.2 ⟨he.nodup,by simp,?_⟩
    intro x hx y hy e
    simp only [List.mem_singleton] at hy
    exact hn (hy ▸ e ▸ hx)
   ·simp only [Array.toList_push,List.map_append,List.map_cons,List.map_nil]
    refine List.nodup_append.2 ⟨he.born,by simp,?_⟩
    intro x hx y hy
    simp only [List.mem_singleton] at hy
    subst hy
    obtain ⟨z,hz,rfl⟩:=List.mem_map.1 hx
    exact Nat.ne_of_lt (he.lt z hz)
   ·intro x hx
    simp only [Array.toList_push,List.mem_append,List.mem_singleton] at hx
    rcases hx with hx|rfl
    ·exact Nat.lt_succ_of_lt (he.lt x hx)
    ·exact Nat.lt_succ_self _
 | some q=>
  obtain ⟨n,v0⟩:=q
  rw [hm] at hf
  have hn:=ko hm
  have hn2:=zt hm
  have hne:∃ e0,es[n]?=sS e0 /\ e0.key=.int kk i:=by
   have h5:=congrArg (λl=>l[n]?) he.eq
   simp only [List.getElem?_map,hn,Option.map_some,Array.getElem?_toList] at h5
   cases h6:es[n]? with
   | none=>simp [h6] at h5
   | some e0=>simp [h6] at h5;exact ⟨e0,rfl,h5.1⟩
  obtain ⟨e0,he0,hk0⟩:=hne
  have hS:=Go.MapKept.stamped_modify (es:=es) (clock:=clk) (by
   refine ⟨he.lt,he.born,?_⟩
   have h7:es.toList.map (·.key)=(m.map (·.1)).map (Value.int kk):=by
    have:=congrArg (List.map Prod.fst) he.eq
    simpa [Function.comp_def] using this
   rw [h7,List.Nodup,List.pairwise_map]
   exact he.nodup.imp (λh9 e9=>h9 (by cases e9;rfl))) n (λe=>{ e with key:=.int kk i,val:=v }) (λ_ _=>rfl) (λe _ h9=>by rw [he0] at h9;cases h9;simp [hk0])
  refine ⟨setBlk w b (.map (es.modify n λe=>{ e with key:=.int kk i,val:=v }) clk),?_,mR.setBlk sM _,_,_,rP hl,?_⟩
  ·have hkt:((es[n]?).map (·.key)).getD (.int kk i)=.int kk i:=by simp [he0,hk0]
   simp [Instr.mapUpdate,run_underlying ht,getObj,setObj,Sem.run,hb,hc,Instr.findKey,run_underlying hk,hf,setBlk,he0,hk0,Instr.keyThatStays,Instr.sameBits]
  ·refine ⟨?_,?_,hS.2.1,hS.1⟩
   ·simp only [oe,hm]
    apply List.ext_getElem?
    intro j
    have h5:=congrArg (λl=>l[j]?) he.eq
    simp only [List.getElem?_map,Array.getElem?_toList] at h5
    simp only [List.getElem?_map,Array.getElem?_toList,Array.getElem?_modify,List.getElem?_set]
    by_cases hj:n=j
    ·subst hj
     simp [he0,hn2]
    ·simp only [hj,if_false]
     simpa using h5
   ·simp only [oe,hm]
    have:(m.set n (i,v)).map (·.1)=m.map (·.1):=by
     apply List.ext_getElem?
     intro j
     simp only [List.getElem?_map,List.getElem?_set]
     by_cases hj:n=j
     ·subst hj;simp [hn2]
      have:=List.getElem?_eq_some_iff.1 hn
      obtain ⟨_,h9⟩:=this
      simp [h9]
     ·simp [hj]
    rw [this];exact he.nodup
theorem lq {α β:Type} (f:α -> β):∀ (l:List α) (n:Nat),(l.eraseIdx n).map f=(l.map f).eraseIdx n
 | [],n=>by simp
 | a :: l,0=>by simp
 | a :: l,n+1=>by simp [lq f l n]
theorem ku (h:bR kk w b m) (ht:P.underlying t=sS (.map k e)) (hk:P.underlying k=sS (.int kk)) (i:Int):
  ∃ w1,(∀ ty,(Builtin.delete_ #[t,k] ty #[.map (sS b),.int kk i]).run P w=.ok (.tuple #[]) w1) /\ af [b] w w1 /\ bR kk w1 b (pK m i):=by
 obtain ⟨es,clk,hb,he⟩:=h
 have hl:=bY hb
 have hc:=λx=>ft (P:=P) hk x 9999 (.int kk i) w
 have hf:=iO kk i es.toList m 0 he.eq
 have hlen:es.size=m.length:=by have:=congrArg List.length he.eq;simpa using this
 cases hm:bM m i 0 with
 | none=>
  rw [hm] at hf
  refine ⟨setBlk w b (.map es clk),λty=>?_,mR.setBlk sM _,_,_,rP hl,?_⟩
  ·simp [Builtin.delete_,run_underlying ht,getObj,setObj,Sem.run,hb,hc,Instr.findKey,run_underlying hk,hf,setBlk]
  ·simp only [pK,hm];exact he
 | some q=>
  obtain ⟨n,v0⟩:=q
  rw [hm] at hf
  have hn2:=zt hm
  refine ⟨setBlk w b (.map (es.eraseIdxIfInBounds n) clk),λty=>?_,mR.setBlk sM _,_,_,rP hl,?_⟩
  ·simp [Builtin.delete_,run_underlying ht,getObj,setObj,Sem.run,hb,hc,Instr.findKey,run_underlying hk,hf,setBlk]
  ·have hE:(es.eraseIdxIfInBounds n).toList=es.toList.eraseIdx n:=by
    unfold Array.eraseIdxIfInBounds
    rw [dif_pos oM];simp
   have hs:(es.eraseIdxIfInBounds n).toList.Sublist es.toList:=by rw [hE];exact List.eraseIdx_sublist _ _
   refine ⟨?_,?_,(hs.map _).nodup he.born,λx hx=>he.lt x (hs.subset hx)⟩
   ·simp only [pK,hm]
    rw [hE,lq,he.eq,lq]
   ·simp only [pK,hm]
    exact ((List.eraseIdx_sublist _ _).map _).nodup he.nodup
end
def rA:Option Nat -> Option Addr
 | none=>nN
 | some g=>sS ⟨g,0,nN⟩
def rF:Option Nat -> List Nat
 | none=>[]
 | some g=>[g]
/-- The slice with block g and capacity cap of elements of sz cells of type T holds n elements, whose cells are xs. -/
def lY (T:TypeId) (sz:Nat) (w:wW) (g:Option Nat) (cap n:Nat) (xs:List Value):Prop:=
 xs.length=n * sz /\ match g with
 | none=>n=0 /\ cap=0
 | some g=>∃ cur:Array Value,w.heap[g]?=sS (.cells cur T (0,0)) /\ n <= cap /\ cap <= maxLen /\ cur.size=cap * sz /\ cur.toList.take (n * sz)=xs
theorem lY.nil (T:TypeId) (sz:Nat) (w:wW):lY T sz w nN 0 0 []:=⟨by simp,rfl,rfl⟩
theorem lY.keep {T:TypeId} {sz:Nat} {S:List Nat} {w w':wW} {g:Option Nat} {cap n:Nat} {xs:List Value} (h:lY T sz w g cap n xs) (m:af S w w') (hS:∀ k,k∈rF g -> k∉S):lY T sz w' g cap n xs:=by
 cases g with
 | none=>exact h
 | some g=>
  obtain ⟨h0,cur,h1,h2⟩:=h
  exact ⟨h0,cur,m.keep h1 (hS g (by simp [rF])),h2⟩
theorem lY.same {T:TypeId} {sz:Nat} {w w':wW} {g:Option Nat} {cap n:Nat} {xs:List Value} (h:lY T sz w g cap n xs) (e:w'.heap=w.heap):lY T sz w' g cap n xs:=by
 cases g with
 | none=>exact h
 | some g=>
  obtain ⟨h0,cur,h1,h2⟩:=h
  exact ⟨h0,cur,by rw [e];exact h1,h2⟩
theorem lY.lt {T:TypeId} {sz:Nat} {w:wW} {g:Option Nat} {cap n:Nat} {xs:List Value} (h:lY T sz w g cap n xs):∀ k,k∈rF g -> k<w.heap.size:=by
 cases g with
 | none=>simp [rF]
 | some g=>
  obtain ⟨h0,cur,h1,h2⟩:=h
  intro k hk
  simp [rF] at hk
  subst hk
  exact bY h1
theorem lY.cap {T:TypeId} {sz:Nat} {w:wW} {g:Option Nat} {cap n:Nat} {xs:List Value} (h:lY T sz w g cap n xs):n <= cap /\ cap <= maxLen:=by
 cases g with
 | none=>obtain ⟨_,rfl,rfl⟩:=h;simp
 | some g=>
  obtain ⟨h0,cur,h1,h2,h3,_⟩:=h
  exact ⟨h2,h3⟩
/-- It has a block, where it holds something; cell j of it. -/
theorem lY.cell {T:TypeId} {sz:Nat} {w:wW} {g:Option Nat} {cap n:Nat} {xs:List Value} (h:lY T sz w g cap n xs) {j:Nat} {v:Value} (hj:xs[j]?=sS v):∃ b,g=sS b /\ w.cell? ⟨b,j,nN⟩=sS v:=by
 have hlt:j<xs.length:=(List.getElem?_eq_some_iff.1 hj).1
 cases g with
 | none=>
  obtain ⟨h0,rfl,rfl⟩:=h
  omega
 | some g=>
  obtain ⟨h0,cur,h1,h2,h3,h4,h5⟩:=h
  refine ⟨g,rfl,(ab h1 j).trans ?_⟩
  have hlt2:j<n * sz:=by omega
  rw [<- h5,List.getElem?_take,pG hlt2] at hj
  simpa using hj
theorem lY.owns {T:TypeId} {sz:Nat} {w:wW} {g:Option Nat} {cap n:Nat} {xs:List Value} (h:lY T sz w g cap n xs):w.ownsRow 0 T sz (.slice (rA g) n cap) n xs:=by
 refine ⟨h.1,?_⟩
 cases g with
 | none=>obtain ⟨_,rfl,rfl⟩:=h;exact .inl ⟨rfl,rfl⟩
 | some g=>
  obtain ⟨h0,cur,h1,h2,h3,h4,h5⟩:=h
  exact .inr ⟨g,cap,cur,rfl,by omega,h1,h2,h3,by omega,h5⟩
/-- append of one element. -/
theorem lY.append {P:Program} {T tt:TypeId} {sz bytes:Nat} {w:wW} {g:Option Nat} {cap n:Nat} {xs:List Value} (h:lY T sz w g cap n xs) (hT:P.underlying tt=sS (.slice T)) {i:TypeInfo} {z:Value} (hi:P.info? T=sS i) (hz:i.zero=sS z) (hs:i.size=sz) (hb:i.bytes=bytes) (hzs:z.cells.size=sz) (hsz:0<sz) (hl:n<1000000) (hbb:bytes <= 1000) {b:Nat} {news:List Value} (hnl:news.length=sz) (h1:∀ u∈news,u.oneCell'=tQ)
  (hbk:w.heap[b]?=sS (.cells news.toArray T (0,0))):
  ∃ g' cap' w',(∀ ty,(Builtin.append_ #[tt,tt] ty #[.slice (rA g) n cap,.slice (sS ⟨b,0,nN⟩) 1 1]).run P w=.ok (.slice (sS ⟨g',0,nN⟩) (n+1) cap') w') /\
   lY T sz w' (sS g') cap' (n+1) (xs++news) /\ af (rF g) w w' /\ (g'∈rF g \/ g'=w.heap.size):=by
 have hbytes:(n+1) * bytes <= 140737488355328:=by
  have:(n+1) * bytes <= 1000000 * 1000:=Nat.mul_le_mul oM hbb
  omega
 have hx:=λty=>run_append_lies (P:=P) w tt ty 0 T i z sz bytes hT hi hz hs hb hzs hsz _ _ _ h.owns ⟨b,0,nN⟩ 1 1 news oM (by
  intro j u hj
  rw [show Addr.add ⟨b,0,nN⟩ j=⟨b,j,nN⟩ by simp [Addr.add];exact λh=>h.symm]
  rw [ab hbk j]
  simpa using hj) h1 oM (by unfold maxLen;omega) hbytes oM _ rfl
 obtain ⟨g',cap',w',hr,h2,h3,h4,h5⟩:=hx 0
 refine ⟨g',cap',w',?_,?_,?_,?_⟩
 ·intro ty
  have:(Builtin.append_ #[tt,tt] ty #[.slice (rA g) n cap,.slice (sS ⟨b,0,nN⟩) 1 1])=(Builtin.append_ #[tt,tt] 0 #[.slice (rA g) n cap,.slice (sS ⟨b,0,nN⟩) 1 1]):=rfl
  rw [this];exact hr
 ·refine ⟨by have:=h.1;rw [List.length_append,this,hnl,Nat.add_mul,Nat.one_mul],?_⟩
  rcases h2.2 with ⟨hv,h0⟩|⟨g2,cap2,cur,hv,_,q1,q2,q3,q4,q5⟩
  ·omega
  ·cases hv
   exact ⟨cur,q1,q2,q3,by omega,q5⟩
 ·have hB:(Value.slice (rA g) n cap).ownBlock=g:=by cases g<;>rfl
  rw [hB] at h3
  refine ⟨h3.os,h3.tape,h3.output,h3.size,λk hk hS=>h3.block k hk ?_⟩
  rintro rfl
  exact hS (by simp [rF])
 ·have hB:(Value.slice (rA g) n cap).ownBlock=g:=by cases g<;>rfl
  rw [hB] at h4
  rcases h4 with rfl|rfl
  ·exact .inl (by simp [rF])
  ·exact .inr rfl
def Gy (kk:IntKind) (b:Nat) (m:List (Int × Value)):ak where
 holds F w:=F=[b] /\ bR kk w b m
 keep h m hS:=⟨h.1,h.2.keep m (hS _ (by rw [h.1];exact List.mem_singleton_self _))⟩
 lt h b hb:=by rw [h.1,List.mem_singleton] at hb;subst hb;exact h.2.lt
def kS (T:TypeId) (sz:Nat) (g:Option Nat) (cap n:Nat) (xs:List Value):ak where
 holds F w:=F=rF g /\ lY T sz w g cap n xs
 keep h m hS:=⟨h.1,h.2.keep m (by rw [<- h.1];exact hS)⟩
 lt h b hb:=h.2.lt b (by rw [<- h.1];exact hb)
section
variable {F0:List Nat} {w0 u u':wW} {l:List ak}
/-- append of one element to a row. -/
theorem On.rowAppend {P:Program} {T tt:TypeId} {sz bytes:Nat} (h:On F0 w0 l u) (k:Nat) {g:Option Nat} {cap n:Nat} {xs:List Value} (hk:l[k]?=sS (kS T sz g cap n xs)) (hT:P.underlying tt=sS (.slice T)) {z:Value} (hI:(P.info? T).map (λi=>(i.zero,i.size,i.bytes))=sS (sS z,sz,bytes)) (hzs:z.cells.size=sz) (hsz:0<sz) (hl:n<1000000) (hbb:bytes <= 1000) {b:Nat} {news:List Value} (hnl:news.length=sz) (h1:∀ u∈news,u.oneCell'=tQ)
  (hbk:u.heap[b]?=sS (.cells news.toArray T (0,0))):
  ∃ g' cap' u',(∀ ty,(Builtin.append_ #[tt,tt] ty #[.slice (rA g) n cap,.slice (sS ⟨b,0,nN⟩) 1 1]).run P u=.ok (.slice (sS ⟨g',0,nN⟩) (n+1) cap') u') /\ On F0 w0 (l.set k (kS T sz (sS g') cap' (n+1) (xs++news))) u':=by
 obtain ⟨i,hi,hi2⟩:=Option.map_eq_some_iff.1 hI
 simp only [Prod.mk.injEq] at hi2
 obtain ⟨i1,i2,i3⟩:=hi2
 have hw:∀ g' cap',∃ F,(kS T sz g cap n xs).holds F u /\ ∀ {u':wW},dt (kS T sz (sS g') cap' (n+1) (xs++news)) F u u' -> On F0 w0 (l.set k (kS T sz (sS g') cap' (n+1) (xs++news))) u':=by
  intro g' cap'
  obtain ⟨F,p1,p2,p3⟩:=h.gain (P':=kS T sz (sS g') cap' (n+1) (xs++news)) k hk
  exact ⟨F,p1,λhg=>p3 hg⟩
 obtain ⟨F1,⟨rfl,hr⟩,_,_⟩:=h.gain (P':=kS T sz g cap n xs) k hk
 obtain ⟨g',cap',u',hrun,x1,x2,x3⟩:=hr.append hT hi i1 i2 i3 hzs hsz hl hbb hnl h1 hbk
 obtain ⟨F2,⟨rfl,_⟩,h3⟩:=hw g' cap'
 refine ⟨g',cap',u',hrun,h3 ⟨_,⟨rfl,x1⟩,x2,λb hb=>?_⟩⟩
 simp [rF] at hb
 subst hb
 rcases x3 with x3|x3
 ·exact .inl x3
 ·exact .inr oM
end
def lA:Option Nat -> Option Addr
 | none=>nN
 | some g=>sS ⟨g,0,nN⟩
def lF:Option Nat -> List Nat
 | none=>[]
 | some g=>[g]
/-- The slice with block g and capacity cap is the list l. -/
def fG (w:wW) (g:Option Nat) (cap:Nat) (l:List Int):Prop:=
 match g with
 | none=>l=[] /\ cap=0
 | some g=>∃ cur:Array Value,w.heap[g]?=sS (.cells cur 3 (0,0)) /\ l.length <= cap /\ cap <= maxLen /\ cur.size=cap /\ cur.toList.take l.length=l.map (vi iQ)
theorem fG.keep {S:List Nat} {w w':wW} {g:Option Nat} {cap:Nat} {l:List Int} (h:fG w g cap l) (m:af S w w') (hS:∀ k,k∈lF g -> k∉S):fG w' g cap l:=by
 cases g with
 | none=>exact h
 | some g=>
  obtain ⟨cur,h1,h2⟩:=h
  exact ⟨cur,m.keep h1 (hS g (by simp [lF])),h2⟩
theorem fG.same {w w':wW} {g:Option Nat} {cap:Nat} {l:List Int} (h:fG w g cap l) (e:w'.heap=w.heap):fG w' g cap l:=by
 cases g with
 | none=>exact h
 | some g=>
  obtain ⟨cur,h1,h2⟩:=h
  exact ⟨cur,by rw [e];exact h1,h2⟩
theorem fG.lt {w:wW} {g:Option Nat} {cap:Nat} {l:List Int} (h:fG w g cap l):∀ k,k∈lF g -> k<w.heap.size:=by
 cases g with
 | none=>simp [lF]
 | some g=>
  obtain ⟨cur,h1,h2⟩:=h
  intro k hk
  simp [lF] at hk
  subst hk
  exact bY h1
theorem fG.cap {w:wW} {g:Option Nat} {cap:Nat} {l:List Int} (h:fG w g cap l):l.length <= cap /\ cap <= maxLen:=by
 cases g with
 | none=>obtain ⟨rfl,rfl⟩:=h;simp
 | some g=>
  obtain ⟨cur,h1,h2,h3,_⟩:=h
  exact ⟨h2,h3⟩
theorem fG.cell {w:wW} {g:Option Nat} {cap:Nat} {l:List Int} (h:fG w g cap l) {i:Nat} (hi:i<l.length):∃ b,g=sS b /\ w.cell? ⟨b,i,nN⟩=sS (vi iQ (ar l i)):=by
 cases g with
 | none=>obtain ⟨rfl,rfl⟩:=h;simp at hi
 | some g=>
  obtain ⟨cur,h1,h2,h3,h4,h5⟩:=h
  refine ⟨g,rfl,(ab h1 i).trans ?_⟩
  have h6:=congrArg (λx=>x[i]?) h5
  simp only [List.getElem?_take,hi,if_true,List.getElem?_map,Array.getElem?_toList] at h6
  rw [h6,List.getElem?_eq_getElem hi]
  simp [ar,List.getD,hi]
theorem fG.owns {w:wW} {g:Option Nat} {cap:Nat} {l:List Int} (h:fG w g cap l):w.ownsRow 0 3 1 (.slice (lA g) l.length cap) l.length (l.map (vi iQ)):=by
 refine ⟨by simp,?_⟩
 cases g with
 | none=>obtain ⟨rfl,rfl⟩:=h;exact .inl ⟨rfl,rfl⟩
 | some g=>
  obtain ⟨cur,h1,h2,h3,h4,h5⟩:=h
  exact .inr ⟨g,cap,cur,rfl,by omega,h1,h2,h3,by omega,by rw [Nat.mul_one];exact h5⟩
theorem oN:(tp.info? 3).map (λi=>(i.zero,i.size,i.bytes))=sS (sS (vi iQ 0),1,8):=by kernel_rfl
/-- append of one number. -/
theorem fG.append {w:wW} {g:Option Nat} {cap:Nat} {l:List Int} (h:fG w g cap l) (hl:l.length<1000000) {b:Nat} {k:Int} (hb:w.heap[b]?=sS (.cells #[vi iQ k] 3 (0,0))):
  ∃ g' cap' w',(∀ ty,(Builtin.append_ #[30,30] ty #[.slice (lA g) l.length cap,.slice (sS ⟨b,0,nN⟩) 1 1]).run tp w=.ok (.slice (sS ⟨g',0,nN⟩) (l.length+1) cap') w') /\
   fG w' (sS g') cap' (l++[k]) /\ af (lF g) w w' /\ (g'∈lF g \/ g'=w.heap.size):=by
 have hI:=oN
 obtain ⟨i,hi,hi2⟩:=Option.map_eq_some_iff.1 hI
 simp only [Prod.mk.injEq] at hi2
 obtain ⟨i1,i2,i3⟩:=hi2
 have hx:=λty=>run_append_lies (P:=tp) w 30 ty 0 3 i (vi iQ 0) 1 8 Tryz.underlying30 hi i1 i2 i3 rfl oM _ _ _ h.owns ⟨b,0,nN⟩ 1 1 [vi iQ k] rfl (World.news_of_block hb) (by simp [Value.oneCell']) oM (by unfold maxLen;omega) oM oM _ rfl
 obtain ⟨g',cap',w',hr,h2,h3,h4,h5⟩:=hx 0
 refine ⟨g',cap',w',?_,?_,?_,?_⟩
 ·intro ty
  have:(Builtin.append_ #[30,30] ty #[.slice (lA g) l.length cap,.slice (sS ⟨b,0,nN⟩) 1 1])=(Builtin.append_ #[30,30] 0 #[.slice (lA g) l.length cap,.slice (sS ⟨b,0,nN⟩) 1 1]):=rfl
  rw [this];exact hr
 ·rcases h2.2 with ⟨hv,h0⟩|⟨g2,cap2,cur,hv,_,q1,q2,q3,q4,q5⟩
  ·omega
  ·cases hv
   refine ⟨cur,q1,by simpa using q2,q3,by omega,?_⟩
   rw [Nat.mul_one] at q5
   simpa using q5
 ·have hB:(Value.slice (lA g) l.length cap).ownBlock=g:=by cases g<;>rfl
  rw [hB] at h3
  refine ⟨h3.os,h3.tape,h3.output,h3.size,λk hk hS=>h3.block k hk ?_⟩
  rintro rfl
  exact hS (by simp [lF])
 ·have hB:(Value.slice (lA g) l.length cap).ownBlock=g:=by cases g<;>rfl
  rw [hB] at h4
  rcases h4 with rfl|rfl
  ·exact .inl (by simp [lF])
  ·exact .inr rfl
theorem kv (b:Nat):lA (sS b)=sS ⟨b,0,nN⟩:=rfl
/-- append at a plain region's list, by its run. -/
theorem aM {P:Program} {w w':wW} {ops:Array Oper} {rest:List Oper} {o:Oper} {a:Act} {Q:Exit -> Act -> wW -> Prop} (hgd:o.guard=nN) (s x:Operand) (t:TypeId)
  (ho:o.op=.call { callee:=.builtin .append,args:=#[s,x],argTypes:=#[t,t] }) {v u r:Value} (hs:a.eval s=v) (hx:a.eval x=u)
  (hr:(Builtin.append_ #[t,t] o.type #[v,u]).run P w=.ok r w') (h:wpList P ops Q rest (a.put o.dst r) w'):wpList P ops Q (o :: rest) a w:=
 wpList_plain hgd λ_ hK=>by
  unfold Oper.wp execOp
  simp only [ho,resolve,invoke,builtin,Sem.run_bind,Sem.run_pure,Result.andThen_ok,List.map_toArray,List.map_cons,List.map_nil,hs,hx,hr]
  exact hK _ _ h
/-- .. onto a list that an object owns. -/
theorem cE {w:wW} {ops:Array Oper} {rest:List Oper} {o:Oper} {a:Act} {Q:Exit -> Act -> wW -> Prop} (hgd:o.guard=nN) (s x:Operand)
  (ho:o.op=.call { callee:=.builtin .append,args:=#[s,x],argTypes:=#[30,30] }) {g:Option Nat} {cap:Nat} {l:List Int} (h:fG w g cap l) (hl:l.length<1000000) {b:Nat} {k:Int} (hb:w.heap[b]?=sS (.cells #[vi iQ k] 3 (0,0)))
  (hs:a.eval s=.slice (lA g) l.length cap) (hx:a.eval x=.slice (sS ⟨b,0,nN⟩) 1 1)
  (hK:∀ g' cap' w',fG w' (sS g') cap' (l++[k]) -> af (lF g) w w' -> (g'∈lF g \/ g'=w.heap.size) -> wpList tp ops Q rest (a.put o.dst (.slice (sS ⟨g',0,nN⟩) (l.length+1) cap')) w'):wpList tp ops Q (o :: rest) a w:=by
 obtain ⟨g',cap',w',hrun,h1,h2,h3⟩:=h.append hl hb
 exact aM hgd s x _ ho hs hx (hrun _) (hK g' cap' w' h1 h2 h3)
section
variable {P:Program} {ops:Array Oper} {md:Region.Mode} {C:Array Bool -> wW -> Prop}
/-- What is asked once an operation has yielded this: the value v, and a world of C'. -/
def uD (P:Program) (C':wW -> Prop) (v:Value):Result Next -> Prop
 | .ok (.value u) w'=>u=v /\ C' w'
 | .ok .skip w'=>v=undef /\ C' w'
 | .ok (.enter f args) w'=>Calls P f args w' (λe w''=>e=.returned v /\ C' w'')
 | _=>False
/-- All that operation o waits for has come up. -/
def ya (md:Region.Mode) (o:Oper) (s:Array Bool):Prop:=∀ e∈o.after,Region.binds md e=tQ -> s.getD e.on fF=tQ
/-- Operation i waits for operation j, at once or through others. -/
def kI (md:Region.Mode) (ops:Array Oper):Nat -> Nat -> Nat -> Bool
 | 0,_,_=>fF
 | n+1,i,j=>match ops[i]? with
  | none=>fF
  | some o=>o.after.any λe=>Region.binds md e&&(e.on==j||kI md ops n e.on j)
/-- All that operation i waits for has come up. -/
def Fu (md:Region.Mode) (ops:Array Oper) (i:Nat) (s:Array Bool):Prop:=∀ j n,kI md ops n i j=tQ -> s.getD j tQ=tQ
/-- What has come up came up behind all that it waits for. -/
def uI (md:Region.Mode) (ops:Array Oper) (s:Array Bool):Prop:=∀ j o,ops[j]?=sS o -> s.getD j fF=tQ -> ya md o s
theorem upOf {s:Array Bool} {j:Nat} (h:s.getD j fF=tQ):s.getD j tQ=tQ:=by
 simp only [Array.getD_eq_getD_getElem?] at *
 cases hh:s[j]?<;>simp_all
theorem xa {s:Array Bool} (hc:uI md ops s):∀ (n i:Nat) (o:Oper),ops[i]?=sS o -> ya md o s -> ∀ j,kI md ops n i j=tQ -> s.getD j tQ=tQ
 | 0,_,_,_,_,_,h=>by simp [kI] at h
 | n+1,i,o,ho,hW,j,h=>by
  unfold kI at h
  rw [ho] at h
  simp only [Array.any_eq_true] at h
  obtain ⟨x,hx,h⟩:=h
  simp only [Bool.and_eq_true,Bool.or_eq_true,beq_iff_eq] at h
  obtain ⟨hb,h⟩:=h
  have hup:=hW _ (Array.getElem_mem hx) hb
  rcases h with h|h
  ·rw [<- h];exact upOf hup
  ·cases ho':ops[(o.after[x]).on]? with
   | none=>
    cases n with
    | zero=>simp [kI] at h
    | succ n=>unfold kI at h;rw [ho'] at h;cases h
   | some o'=>exact xa hc n _ o' ho' (hc _ o' ho' hup) j h
theorem Ce {s:Array Bool} {i:Nat} (hc:uI md ops s) (hW:∀ o,ops[i]?=sS o -> ya md o s):uI md ops (s.setIfInBounds i tQ):=by
 have mono:∀ j,s.getD j fF=tQ -> (s.setIfInBounds i tQ).getD j fF=tQ:=by
  intro j hj
  by_cases e:i=j
  ·subst e
   simp only [Array.getD_eq_getD_getElem?,Array.getElem?_setIfInBounds] at *
   simp only [if_true]
   split
   ·rfl
   ·rename_i h;simp [Array.getElem?_eq_none (Nat.le_of_not_lt h)] at hj
  ·simp only [Array.getD_eq_getD_getElem?,Array.getElem?_setIfInBounds,nG e] at *
   exact hj
 intro j o ho hj e he hb
 by_cases hji:i=j
 ·subst hji
  exact mono _ (hW o ho e he hb)
 ·have hj':s.getD j fF=tQ:=by
   simp only [Array.getD_eq_getD_getElem?,Array.getElem?_setIfInBounds,nG hji] at *
   exact hj
  exact mono _ (hc j o ho hj' e he hb)
/-- Operation i yields v in every world of the class in which it has not come up yet. -/
def yd (P:Program) (md:Region.Mode) (ops:Array Oper) (C:Array Bool -> wW -> Prop) (i:Nat) (o:Oper) (a:Act) (v:Value):Prop:=
 ∀ s w,s.getD i tQ=fF -> Fu md ops i s -> C s w -> uD P (C (s.setIfInBounds i tQ)) v ((execOp a.eval o).run P w)
/-- .. and, passed over, leaves the class. -/
def dR (C:Array Bool -> wW -> Prop) (i:Nat):Prop:=∀ s w,s.getD i tQ=fF -> C s w -> C (s.setIfInBounds i tQ) w
/-- The walk in the text's order. -/
def bS (P:Program) (md:Region.Mode) (ops:Array Oper) (C:Array Bool -> wW -> Prop) (Q:Act -> Prop):Nat -> List Oper -> Act -> Prop
 | _,[],a=>Q a
 | i,o :: rest,a=>if Region.wanted o (yielded ops a.tmps) then ∃ v,yd P md ops C i o a v /\ bS P md ops C Q (i+1) rest (a.put o.dst v) else dR C i /\ bS P md ops C Q (i+1) rest (a.put o.dst undef)
def cOp (P:Program) (md:Region.Mode) (ops:Array Oper) (C:Array Bool -> wW -> Prop) (i:Nat) (K:Act -> Prop) (a:Act):Prop:=
 match ops[i]? with
 | none=>dR C i /\ K a
 | some o=>if Region.wanted o (yielded ops a.tmps) then ∃ v,yd P md ops C i o a v /\ K (a.put o.dst v) else dR C i /\ K (a.put o.dst undef)
theorem Ia {i:Nat} {a:Act} {K K':Act -> Prop} (h:∀ a,K a -> K' a) (hh:cOp P md ops C i K a):cOp P md ops C i K' a:=by
 unfold cOp at *
 split
 ·rename_i ho;simp only [ho] at hh;exact ⟨hh.1,h _ hh.2⟩
 ·rename_i o ho
  simp only [ho] at hh
  split
  ·rename_i hw;simp only [hw,if_true] at hh;obtain ⟨v,h1,h2⟩:=hh;exact ⟨v,h1,h _ h2⟩
  ·rename_i hw;simp only [hw] at hh;exact ⟨hh.1,h _ hh.2⟩
def rX (P:Program) (md:Region.Mode) (ops:Array Oper) (C:Array Bool -> wW -> Prop) (Q:Act -> Prop):Nat -> Array Bool -> Act -> Prop
 | 0,listed,a=>Region.ready md ops listed=[] /\ (∀ i,i<ops.size -> listed.getD i tQ=tQ) /\ Q a
 | fuel+1,listed,a=>
  (Region.ready md ops listed=[] -> False) /\
  ∀ i∈Region.ready md ops listed,cOp P md ops C i (rX P md ops C Q fuel (listed.setIfInBounds i tQ)) a
theorem yf {i:Nat} {a:Act} {K:Act -> Prop} {K':Act -> wW -> Prop} {Q':Exit -> Act -> wW -> Prop} {w:wW} {s:Array Bool} (hs:s.getD i tQ=fF) (hW:Fu md ops i s) (hC:C s w) (h:∀ a w',C (s.setIfInBounds i tQ) w' -> K a -> K' a w') (hh:cOp P md ops C i K a):wpOp P ops Q' i K' a w:=by
 unfold cOp at hh
 unfold wpOp
 split
 ·rename_i ho;simp only [ho] at hh;exact h _ _ (hh.1 s w hs hC) hh.2
 ·rename_i o ho
  simp only [ho] at hh
  split
  ·rename_i hw
   simp only [hw,if_true] at hh
   obtain ⟨v,h1,h2⟩:=hh
   left
   have h3:=h1 s w hs hW hC
   unfold Oper.wp
   generalize (execOp a.eval o).run P w=r at *
   cases r with
   | ok n w'=>
    cases n<;>simp only [uD] at h3<;>simp only [Oper.upon]
    case value u=>
     obtain ⟨e1,e2⟩:=h3
     rw [e1]
     exact h _ _ e2 h2
    case skip=>
     obtain ⟨e1,e2⟩:=h3
     rw [<- e1]
     exact h _ _ e2 h2
    case enter f args=>
     exact h3.mono λe w'' ⟨he,hw''⟩=>by subst he;exact h _ _ hw'' h2
   | halt x w'=>simp only [uD] at h3
  ·rename_i hw;simp only [hw] at hh;exact h _ _ (hh.1 s w hs hC) hh.2
theorem xv {i:Nat} {listed:Array Bool} (h:i∈Region.ready md ops listed):∀ o,ops[i]?=sS o -> ya md o listed:=by
 intro o ho
 obtain ⟨_,o',ho',hall⟩:=mem_ready.1 h
 rw [ho] at ho'
 cases ho'
 exact hall
theorem Ga {i:Nat} {listed:Array Bool} (hc:uI md ops listed) (h:i∈Region.ready md ops listed):Fu md ops i listed:=by
 intro j n hj
 obtain ⟨_,o,ho,hall⟩:=mem_ready.1 h
 exact xa hc n i o ho hall j hj
theorem DF {i:Nat} {listed:Array Bool} (h:i∈Region.ready md ops listed):listed.getD i tQ=fF:=(mem_ready.1 h).1
theorem mj {Q:Act -> Prop} {Q':Exit -> Act -> wW -> Prop} (hQ:∀ a s w,(∀ i,i<ops.size -> s.getD i tQ=tQ) -> C s w -> Q a -> Q' .normal a w):∀ (fuel:Nat) (listed:Array Bool) (a:Act) (w:wW),uI md ops listed -> C listed w ->
  rX P md ops C Q fuel listed a -> wpAny P md ops Q' fuel listed a w
 | 0,_,_,_,_,hw,h=>⟨h.1,hQ _ _ _ h.2.1 hw h.2.2⟩
 | fuel+1,_,_,_,hcl,hw,h=>⟨λh0=>(h.1 h0).elim,λi hi=>yf (DF hi) (Ga hcl hi) hw (λa' w' hw'=>mj hQ fuel _ a' w' (Ce hcl (xv hi)) hw') (h.2 i hi)⟩
def er (P:Program) (md:Region.Mode) (ops:Array Oper) (C:Array Bool -> wW -> Prop) (i:Nat) (o:Oper) (v:Value) (a:Act):Prop:=
 (Region.wanted o (yielded ops a.tmps)=tQ /\ yd P md ops C i o a v) \/
 (Region.wanted o (yielded ops a.tmps)=fF /\ v=undef /\ dR C i)
theorem er.cOp {i:Nat} {o:Oper} {v:Value} {a:Act} (hi:ops[i]?=sS o) (hy:er P md ops C i o v a) {K:Act -> Prop} (h:K (a.put o.dst v)):cOp P md ops C i K a:=by
 unfold Go.Proofs.YtmiapbgkphpgoaaGreatDoor.cOp
 simp only [hi]
 rcases hy with ⟨hw,hv⟩|⟨hw,rfl,hs⟩
 ·simp only [hw,if_true];exact ⟨v,hv,h⟩
 ·simp only [hw,Bool.false_eq_true,if_false];exact ⟨hs,h⟩
theorem er.of_same {i:Nat} {o:Oper} {v:Value} {a a':Act} (hy:er P md ops C i o v a) (he:execOp a'.eval o=execOp a.eval o)
  (hw:Region.wanted o (yielded ops a'.tmps)=Region.wanted o (yielded ops a.tmps)):er P md ops C i o v a':=by
 unfold er yd at *
 rw [he,hw]
 exact hy
theorem rT {i:Nat} {o:Oper} {a:Act} {K:Act -> Prop} (hi:ops[i]?=sS o) (h:cOp P md ops C i K a):∃ v,er P md ops C i o v a /\ K (a.put o.dst v):=by
 unfold cOp at h
 simp only [hi] at h
 by_cases hw:Region.wanted o (yielded ops a.tmps)=tQ
 ·simp only [hw,if_true] at h
  obtain ⟨v,h1,h2⟩:=h
  exact ⟨v,.inl ⟨hw,h1⟩,h2⟩
 ·simp only [hw] at h
  exact ⟨undef,.inr ⟨by simpa using hw,rfl,h.1⟩,h.2⟩
theorem JH {i j:Nat} {oi oj:Oper} {v:Value} (hj:ops[j]?=sS oj) (hap:oi.apart ops oj=tQ)
  (hsi:∀ cs b,oi.op≠.select cs b) (hsj:∀ cs b,oj.op≠.select cs b) {K:Act -> Prop} {a:Act}
  (hy:er P md ops C i oi v a) (h:cOp P md ops C j K (a.put oi.dst v)):
  cOp P md ops C j (λa'=>er P md ops C i oi v a' /\ K (a'.put oi.dst v)) a:=by
 obtain ⟨h1,h2,h3⟩:=Oper.apart_spec hap
 have keep:∀ (a:Act),er P md ops C i oi v a -> ∀ u,er P md ops C i oi v (a.put oj.dst u):=λa hy u=>
  hy.of_same (execOp_put oi hsi a oj.dst u h3) (wanted_put oi a oj.dst u h3)
 unfold cOp at *
 simp only [hj] at *
 rw [wanted_put oj a oi.dst v h1] at h
 split
 ·rename_i hw
  simp only [hw,if_true] at h
  obtain ⟨u,hu,hn⟩:=h
  refine ⟨u,λs w hs hW hw'=>?_,keep a hy u,by rw [<- Act.put_comm a v u h2];exact hn⟩
  have:=hu s w hs hW hw'
  rwa [execOp_put oj hsj a oi.dst v h1] at this
 ·rename_i hw
  simp only [hw] at h
  exact ⟨h.1,keep a hy _,by rw [<- Act.put_comm a v undef h2];exact h.2⟩
theorem xg {Q:Act -> Prop} {i:Nat} {oi:Oper} {v:Value} (hi:ops[i]?=sS oi) (hsel:∀ (j:Nat) (o:Oper) cs b,ops[j]?=sS o -> o.op≠.select cs b):
  ∀ (fuel:Nat) (listed:Array Bool) (a:Act),
   (∀ j oj,ops[j]?=sS oj -> j≠i -> listed.getD j tQ=fF -> (∀ e∈oj.after,Region.binds md e=tQ -> e.on≠i) -> oi.apart ops oj=tQ) ->
   i∈Region.ready md ops listed -> er P md ops C i oi v a ->
   rX P md ops C Q fuel (listed.setIfInBounds i tQ) (a.put oi.dst v) -> rX P md ops C Q (fuel+1) listed a:=by
 intro fuel
 induction fuel with
 | zero=>
  intro listed a _ hr hy H
  refine ⟨λh=>(by rw [h] at hr;cases hr),λj hj=>?_⟩
  by_cases hji:j=i
  ·subst hji;exact hy.cOp hi H
  ·have:=ready_mono hj hji
   rw [H.1] at this
   cases this
 | succ fuel ih=>
  intro listed a hfree hr hy H
  refine ⟨λh=>(by rw [h] at hr;cases hr),λj hj=>?_⟩
  by_cases hji:j=i
  ·subst hji;exact hy.cOp hi H
  ·have h1:=H.2 j (ready_mono hj hji)
   obtain ⟨hjun,oj,hoj,hall⟩:=mem_ready.1 hj
   have hnot:∀ e∈oj.after,Region.binds md e=tQ -> e.on≠i:=λe he hb heq=>by
    have h1:=hall e he hb
    have h0:=(mem_ready.1 hr).1
    rw [heq] at h1
    rcases Nat.lt_or_ge i listed.size with h'|h'
    ·simp [h'] at h0 h1;rw [h0] at h1;cases h1
    ·simp [Array.getElem?_eq_none h'] at h1
   have h2:=JH hoj (hfree j oj hoj hji hjun hnot) (λcs b=>hsel i oi cs b hi) (λcs b=>hsel j oj cs b hoj) hy h1
   have hfree':∀ k ok,ops[k]?=sS ok -> k≠i -> (listed.setIfInBounds j tQ).getD k tQ=fF ->
     (∀ e∈ok.after,Region.binds md e=tQ -> e.on≠i) -> oi.apart ops ok=tQ:=λk ok hk hki hun hno=>by
    refine hfree k ok hk hki ?_ hno
    by_cases hjk:j=k
    ·subst hjk;exact hjun
    ·rw [getD_set_ne tQ hjk] at hun;exact hun
   refine Ia (λa' h3=>ih (listed.setIfInBounds j tQ) a' hfree' (ready_mono hr (Ne.symm hji)) h3.1 ?_) h2
   rw [Array.setIfInBounds_comm _ _ hji]
   exact h3.2
theorem rW {Q:Act -> Prop} (hs:Region.noSelect ops=tQ):∀ (l:List Oper) (k:Nat) (listed:Array Bool) (a:Act),(∀ j,l[j]?=ops[k+j]?) -> (∀ j,j<k -> j<ops.size -> listed.getD j tQ=tQ) -> listed.size=ops.size ->
  Region.lexFrom md ops l.length k listed=tQ -> bS P md ops C Q k l a -> rX P md ops C Q l.length listed a
 | [],k,listed,_,hl,hk,_,hB,h=>⟨by simpa [Region.lexFrom] using hB,λi hi=>hk i (by
   have h0:=(hl 0).symm
   simp at h0
   omega) hi,h⟩
 | o :: l,k,listed,a,hl,hk,hz,hB,h=>by
  have h0:ops[k]?=sS o:=by simpa using (hl 0).symm
  simp only [List.length_cons,Region.lexFrom,Bool.and_eq_true] at hB
  obtain ⟨⟨hr,hf⟩,hB'⟩:=hB
  have hst:cOp P md ops C k (bS P md ops C Q (k+1) l) a:=by unfold cOp;simp only [h0];exact h
  obtain ⟨v,hy,hK⟩:=rT h0 hst
  refine xg h0 (Region.noSelect_spec hs) l.length listed a (Region.free_spec h0 hf) (by simpa using hr) hy
   (rW hs l (k+1) _ _ (λj=>by have:=hl (j+1);simpa [Nat.add_assoc,Nat.add_comm 1 j] using this) (λj hj hjs=>?_) (by simpa using hz) hB' hK)
  by_cases e:k=j
  ·subst e;simp [Array.getD,hz,hjs]
  ·rw [getD_set_ne tQ e];exact hk j oM hjs
/-- One walk of the text's order serves every order. What stands behind the region is asked in every world that the class lets in when all operations have come up. -/
theorem rU {id:Nat} {Q:Exit -> Act -> wW -> Prop} {a:Act} {w:wW} (hm:P.follows .mixedOrders=tQ) (hB:Region.lexB .any ops=tQ) (C:Array Bool -> wW -> Prop) (hC:C (Array.replicate ops.size fF) { w with drawn:=w.drawn+1 })
  (h:bS P .any ops C (λa'=>∀ s w',(∀ i,i<ops.size -> s.getD i tQ=tQ) -> C s w' -> Q .normal a' w') 0 ops.toList a):(Code.region id ops tQ).wp P Q a w:=by
 simp only [Region.lexB,Bool.and_eq_true] at hB
 refine wp_region_any hm (mj (C:=C) (Q:=λa'=>∀ s w',(∀ i,i<ops.size -> s.getD i tQ=tQ) -> C s w' -> Q .normal a' w') (λ_ s w' hs hw' h=>h s w' hs hw') _ _ _ _ (λj o ho hj=>by simp [Array.getD_eq_getD_getElem?,Array.getElem?_replicate] at hj;split at hj<;>simp_all) hC ?_)
 have:=rW (C:=C) (md:=.any) hB.1 ops.toList 0 (Array.replicate ops.size fF) a sM oM sM (by simpa using hB.2) h
 simpa using this
theorem de {id:Nat} {l:List Oper} {Q:Exit -> Act -> wW -> Prop} {a:Act} {w:wW} (hm:P.follows .mixedOrders=tQ) (hB:Region.lexB .any l.toArray=tQ) (C:Array Bool -> wW -> Prop) (hC:∀ s:Array Bool,(∀ i,i<l.length -> s.getD i tQ=fF) -> C s w.drew)
  (h:bS P .any l.toArray C (λa'=>∀ s w',(∀ i,i<l.length -> s.getD i tQ=tQ) -> C s w' -> Q .normal a' w') 0 l a):(Code.region id l.toArray tQ).wp P Q a w:=
 rU hm hB C (hC _ (λi hi=>by simp [Array.getD,hi])) (by simpa using h)
variable {Q:Act -> Prop} {i:Nat} {o:Oper} {rest:List Oper} {a:Act}
theorem aF {v:Value} (hw:Region.wanted o (yielded ops a.tmps)=tQ) (hr:∀ w,(execOp a.eval o).run P w=.ok (.value v) w) (hm:dR C i) (h:bS P md ops C Q (i+1) rest (a.put o.dst v)):bS P md ops C Q i (o :: rest) a:=by
 unfold bS
 rw [pG hw]
 exact ⟨v,λs w hs _ hc=>by rw [hr];exact ⟨rfl,hm s w hs hc⟩,h⟩
theorem aG {v:Value} (hw:Region.wanted o (yielded ops a.tmps)=tQ) (hr:∀ s w,Fu md ops i s -> C s w -> (execOp a.eval o).run P w=.ok (.value v) w) (hm:dR C i) (h:bS P md ops C Q (i+1) rest (a.put o.dst v)):bS P md ops C Q i (o :: rest) a:=by
 unfold bS
 rw [pG hw]
 exact ⟨v,λs w hs hW hc=>by rw [hr s w hW hc];exact ⟨rfl,hm s w hs hc⟩,h⟩
theorem aE (hw:Region.wanted o (yielded ops a.tmps)=fF) (hm:dR C i) (h:bS P md ops C Q (i+1) rest (a.put o.dst undef)):bS P md ops C Q i (o :: rest) a:=by
 unfold bS
 rw [nG (by simp [hw])]
 exact ⟨hm,h⟩
theorem aS {f:FuncId} {args:Array Value} {v:Value} (hw:Region.wanted o (yielded ops a.tmps)=tQ) (hr:∀ w,(execOp a.eval o).run P w=.ok (.enter f args) w)
  (hc:∀ s w,s.getD i tQ=fF -> Fu md ops i s -> C s w -> Calls P f args w (λe w''=>e=.returned v /\ C (s.setIfInBounds i tQ) w'')) (h:bS P md ops C Q (i+1) rest (a.put o.dst v)):bS P md ops C Q i (o :: rest) a:=by
 unfold bS
 rw [pG hw]
 exact ⟨v,λs w hs hW hC=>by rw [hr];exact hc s w hs hW hC,h⟩
theorem pc (h:Q a):bS P md ops C Q i [] a:=h
theorem qn (s:Array Bool) (i:Nat):(s.setIfInBounds i tQ).getD i tQ=tQ:=by
 simp only [Array.getD_eq_getD_getElem?,Array.getElem?_setIfInBounds]
 split<;>simp_all
 split<;>rfl
theorem jl (s:Array Bool) {i j:Nat} (h:i≠j):(s.setIfInBounds i tQ).getD j tQ=s.getD j tQ:=getD_set_ne tQ h
end
section
open Go.ChangeShapes Go.WideShapes Go.ChangeAt Go.RowKit Go.Deep
/-- A slice that came in: it has no elements; or element i lies in the n cells from off + i * n on of block b: the values of A i. -/
def xe {α:Type} (n:Nat) (vals:α -> List Value) (ok:α -> Prop) (w:wW) (a:Option Addr) (len cap:Nat) (A:Nat -> α):Prop:=
 len <= cap /\ cap <= maxLen /\ (len=0 \/ ∃ b off,a=sS ⟨b,off,nN⟩ /\ b<w.heap.size /\ ∀ i,i<len -> ok (A i) /\ ∀ j,j<n -> w.cell? ⟨b,off+(i * n+j),nN⟩=(vals (A i))[j]?)
/-- .. read later, in a world in which all old blocks are as they were. -/
theorem xe.later {α:Type} {n:Nat} {vals:α -> List Value} {ok:α -> Prop} {w w':wW} {a:Option Addr} {len cap:Nat} {A:Nat -> α} (h:xe n vals ok w a len cap A) (m:af [] w w'):xe n vals ok w' a len cap A:=by
 obtain ⟨h1,h2,h3⟩:=h
 refine ⟨h1,h2,?_⟩
 rcases h3 with h3|⟨b,off,h3,hb,h4⟩
 ·exact .inl h3
 ·refine .inr ⟨b,off,h3,Nat.lt_of_lt_of_le hb m.size,λi hi=>⟨(h4 i hi).1,λj hj=>?_⟩⟩
  rw [<- (h4 i hi).2 j hj]
  exact m.cell (p:=⟨b,off+(i * n+j),nN⟩) hb sM
section
variable {H:Type} {enc:TypeId × Value -> H} {P:Program} {w:wW} {spare:Nat -> Bool} {held:Bool}
theorem GH {α:Type} [Inhabited α] {t e:TypeId} {fuel:Nat} {a:Option Addr} {len cap:Nat} {x:DataW H × List MemPlace} (ht:P.underlying t=sS (.slice e)) {n:Nat} (hn:P.cellsOf e=n) (hpos:0<n)
  (vals:α -> List Value) (ok:α -> Prop) (elem:∀ m cs y,DataW.trod enc P w 0 spare held m e cs=sS y -> ∃ z,cs=vals z /\ ok z)
  (h:DataW.trod enc P w 0 spare held fuel t [.slice a len cap]=sS x):∃ A,xe n vals ok w a len cap A:=by
 rcases open_slice ht h with ⟨h0,_⟩|⟨a',len',cap',m,nf,D,Pl,hcs,_,hl,hm,hmm,_,hx⟩
 ·simp at h0
  obtain ⟨rfl,rfl,rfl⟩:=h0
  exact ⟨λ_=>default,Nat.le_refl _,Nat.zero_le _,.inl rfl⟩
 ·simp at hcs
  obtain ⟨rfl,rfl,rfl⟩:=hcs
  have hlm:len <= m:=by rw [hmm];split<;>omega
  obtain ⟨A,hA⟩:=choose_lt (α:=α) (p:=λi z=>ok z /\ ∀ j,j<n -> w.cell? ((a'.add (i * n)).add j)=(vals z)[j]?) (λi (hi:i<len)=>by
   obtain ⟨cs',h1,h2⟩:=hx i oM
   obtain ⟨z,rfl,hz⟩:=elem _ _ _ h2
   rw [hn] at h1
   obtain ⟨_,hlen,hcell⟩:=World.cells?_some h1
   refine ⟨z,hz,λj hj=>?_⟩
   have:=hcell j hj
   simpa using this)
  refine ⟨A,hl,hm,?_⟩
  by_cases h0:len=0
  ·exact .inl h0
  ·have hc0:=(hA 0 oM).2 0 hpos
   obtain ⟨cs',h1,h2⟩:=hx 0 oM
   obtain ⟨z,rfl,hz⟩:=elem _ _ _ h2
   rw [hn] at h1
   obtain ⟨_,hlen,hcell⟩:=World.cells?_some h1
   have hc:=hcell 0 hpos
   have hsome:∃ v,w.cell? a'=sS v:=by
    have:0<(vals z).length:=by omega
    refine ⟨(vals z)[0],?_⟩
    simp only [Nat.zero_mul,Addr.add,if_true] at hc
    rw [hc];simp [this]
   obtain ⟨v,hv⟩:=hsome
   have hspot:=World.cell?_spot hv
   obtain ⟨b,off,spot⟩:=a'
   simp only at hspot
   subst hspot
   have hb:b<w.heap.size:=by
    unfold World.cell? at hv
    split at hv
    ·rename_i hh;exact bY hh
    ·cases hv
   refine .inr ⟨b,off,rfl,hb,λi hi=>⟨(hA i hi).1,λj hj=>?_⟩⟩
   rw [<- (hA i hi).2 j hj,add_add]
   unfold Addr.add
   split<;>simp_all
end
/-- The kinds of fields that a Lh struct has. -/
inductive FK where
 | i (k:IntKind)
 | b
 | s
def FK.ok:FK -> Value -> Prop
 | .i k,v=>∃ n,v=.int k n /\ (Lit.int k n).wf=tQ
 | .b,v=>∃ x,v=vb x
 | .s,v=>∃ s:ByteArray,v=.string s /\ s.size <= maxLen
def FK.desc:FK -> TypeDesc -> Prop
 | .i k,d=>d=.int k
 | .b,d=>d=.bool
 | .s,d=>d=.string
/-- A struct all of whose fields are one cell each: its cells, one by one. -/
theorem Lh {H:Type} {enc:TypeId × Value -> H} {P:Program} {w:wW} {spare:Nat -> Bool} {held:Bool} {e:TypeId} {fs:Array Field} {m:Nat} {cs:List Value} {y:DataW H × List MemPlace} (he:P.underlying e=sS (.struct fs)) (ks:List FK)
  (hn:P.cellsOf e=ks.length) (hs:fs.size=ks.length) (hf:∀ (i:Nat) (k:FK),ks[i]?=sS k -> ∃ f:Field,fs[i]?=sS f /\ f.offset=i /\ P.cellsOf f.type=1 /\ ∃ d,P.underlying f.type=sS d /\ k.desc d)
  (h:DataW.trod enc P w 0 spare held m e cs=sS y):cs.length=ks.length /\ ∀ (i:Nat) (k:FK),ks[i]?=sS k -> ∃ v,cs[i]?=sS v /\ k.ok v:=by
 obtain ⟨xs,n,_,_,hl,hx,hg⟩:=DataW.trod_struct he h
 rw [hn] at hl
 refine ⟨hl,λi k hk=>?_⟩
 obtain ⟨f,hfi,ho,hc,d,hd,hkd⟩:=hf i k hk
 have hi:i<ks.length:=(List.getElem?_eq_some_iff.1 hk).1
 have hr:=hg i f hfi
 rw [ho,hc,List.getElem?_eq_getElem oM] at hr
 have hcs:(cs.drop i).take 1=[cs[i]'oM]:=by
  rw [List.drop_eq_getElem_cons (show i<cs.length by omega)];rfl
 rw [hcs] at hr
 refine ⟨cs[i]'oM,List.getElem?_eq_getElem oM,?_⟩
 cases k with
 | i k=>
  have hd':P.underlying f.type=sS (.int k):=by rw [hd,show d=.int k from hkd]
  obtain ⟨b,h1,_,h2⟩:=DataW.trod_int hd' hr
  exact ⟨b,by simpa using h1,h2⟩
 | b=>
  have hd':P.underlying f.type=sS .bool:=by rw [hd,show d=.bool from hkd]
  obtain ⟨b,h1,_⟩:=DataW.trod_bool hd' hr
  exact ⟨b,by simpa using h1⟩
 | s=>
  have hd':P.underlying f.type=sS .string:=by rw [hd,show d=.string from hkd]
  obtain ⟨b,h1,_,h2⟩:=DataW.trod_string hd' hr
  exact ⟨b,by simpa using h1,h2⟩
theorem KN {z:Int} (h:(Lit.int .u64 z).wf=tQ):0 <= z /\ z <= 18446744073709551615:=by
 simpa [Lit.wf,IntKind.min,IntKind.max,IntKind.signed,IntKind.bits] using h
end
/-- At address a lie n elements with the cells xs. -/
def xd (w:wW) (sz:Nat) (a:Option Addr) (n:Nat) (xs:List Value):Prop:=
 xs.length=n * sz /\ (∀ u∈xs,u.oneCell'=tQ) /\ ((a=nN /\ n=0) \/ ∃ b o,a=sS ⟨b,o,nN⟩ /\ ∀ j u,xs[j]?=sS u -> w.cell? ⟨b,o+j,nN⟩=sS u)
theorem xd.keep {S:List Nat} {w w':wW} {sz:Nat} {b:Nat} {o:Nat} {n:Nat} {xs:List Value} (h:xd w sz (sS ⟨b,o,nN⟩) n xs) (m:af S w w') (hS:b∉S):xd w' sz (sS ⟨b,o,nN⟩) n xs:=by
 obtain ⟨h1,h2,h3⟩:=h
 refine ⟨h1,h2,.inr ⟨b,o,rfl,λj u hj=>?_⟩⟩
 rcases h3 with ⟨e,_⟩|⟨b',o',e,h3⟩
 ·cases e
 ·cases e
  exact m.at (h3 j u hj) hS
/-- append of a part of a slice. -/
theorem lY.appendSrc {P:Program} {T tt:TypeId} {sz bytes:Nat} {w:wW} {g:Option Nat} {cap n:Nat} {xs:List Value} (h:lY T sz w g cap n xs) (hT:P.underlying tt=sS (.slice T)) {i:TypeInfo} {z:Value} (hi:P.info? T=sS i) (hz:i.zero=sS z) (hs:i.size=sz) (hb:i.bytes=bytes) (hzs:z.cells.size=sz) (hsz:0<sz) (hbb:bytes <= 1000)
  {a:Option Addr} {n2 c2:Nat} {ys:List Value} (hsrc:xd w sz a n2 ys) (hl:n+n2<1000000) (hc2:a=nN -> c2=0):
  ∃ g' cap' w',(∀ ty,(Builtin.append_ #[tt,tt] ty #[.slice (rA g) n cap,.slice a n2 c2]).run P w=.ok (.slice (rA g') (n+n2) cap') w') /\
   lY T sz w' g' cap' (n+n2) (xs++ys) /\ af (rF g) w w' /\ ∀ b,b∈rF g' -> b∈rF g \/ b=w.heap.size:=by
 obtain ⟨h1,h2,h3⟩:=hsrc
 have hbytes:(n+n2) * bytes <= 140737488355328:=by
  have:(n+n2) * bytes <= 1000000 * 1000:=Nat.mul_le_mul oM hbb
  omega
 rcases h3 with ⟨rfl,rfl⟩|⟨b2,o2,rfl,h3⟩
 ·have e:ys=[]:=List.eq_nil_of_length_eq_zero oM
  subst e
  have:=hc2 rfl
  subst this
  refine ⟨g,cap,w,λty=>?_,by simpa using h,af.refl _ _,λb hb=>.inl hb⟩
  exact run_append_owned_none (P:=P) w 0 tt ty T i sz hT hi _ _ _ h.owns
 ·obtain ⟨v',w',hr,x2,x3,x4,x5⟩:=run_append_own_at (P:=P) (w:=w) 0 tt 0 T i z sz bytes hT hi hz hs hb hzs hsz _ _ _ h.owns ⟨b2,o2,nN⟩ n2 c2 ys h1 (by
   intro j u hj
   have:=h3 j u hj
   rw [show Addr.add ⟨b2,o2,nN⟩ j=⟨b2,o2+j,nN⟩ by cases j<;>simp [Addr.add]]
   exact this) h2 (by unfold maxLen;omega) hbytes oM
  have hB:(Value.slice (rA g) n cap).ownBlock=g:=by cases g<;>rfl
  rw [hB] at x3 x5
  have hm:af (rF g) w w':=⟨x3.os,x3.tape,x3.output,x3.size,λk hk hS=>x3.block k hk (by rintro rfl;exact hS (by simp [rF]))⟩
  have hrun:∀ ty,(Builtin.append_ #[tt,tt] ty #[.slice (rA g) n cap,.slice (sS ⟨b2,o2,nN⟩) n2 c2]).run P w=.ok v' w':=by
   intro ty
   have:(Builtin.append_ #[tt,tt] ty #[.slice (rA g) n cap,.slice (sS ⟨b2,o2,nN⟩) n2 c2])=(Builtin.append_ #[tt,tt] 0 #[.slice (rA g) n cap,.slice (sS ⟨b2,o2,nN⟩) n2 c2]):=rfl
   rw [this];exact hr
  have hxl:=h.1
  rcases x2.2 with ⟨hv,h0⟩|⟨g3,cap3,cur,hv,_,q1,q2,q3,q4,q5⟩
  ·subst hv
   have e0:n=0:=by omega
   have e00:n2=0:=by omega
   subst e0 e00
   have e1:xs=[]:=List.eq_nil_of_length_eq_zero oM
   have e2:ys=[]:=List.eq_nil_of_length_eq_zero oM
   subst e1 e2
   exact ⟨nN,0,w',hrun,lY.nil _ _ _,hm,by simp [rF]⟩
  ·subst hv
   refine ⟨sS g3,cap3,w',hrun,⟨by rw [List.length_append,hxl,h1,Nat.add_mul],cur,q1,q2,q3,by omega,q5⟩,hm,?_⟩
   intro b hb
   simp [rF] at hb
   subst hb
   rcases x5 with e|e
   ·have e':sS b=g:=e
    left;rw [<- e'];simp [rF]
   ·have e':sS b=sS w.heap.size:=e
    right;simpa using e'
end Go.Proofs.YtmiapbgkphpgoaaGreatDoor