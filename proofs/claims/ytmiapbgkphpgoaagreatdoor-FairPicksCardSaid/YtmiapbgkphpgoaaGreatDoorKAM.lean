/- Walks and plain laws of the kernel. No condition. -/
import Derived.Test.YtmiapbgkphpgoaaGreatDoorBaseM
import Derived.Shelf.Lays7
import Derived.Test.YtmiapbgkphpgoaaGreatDoorProg
import Derived.Shelf.SlLaysZI
import Derived.Shelf.SlLaysH
import Derived.Laws.Externs
import Derived.Laws.CopyOwn
import Derived.Deep.OwnRows
import Derived.Laws.CopyRow
namespace Go.Proofs.YtmiapbgkphpgoaaGreatDoor
set_option linter.unusedVariables false
set_option linter.unusedSimpArgs false
set_option maxRecDepth 100000
set_option maxHeartbeats 20000000
open Go.RowKit
open Go.Proofs.Tryz renaming prog → tp
open List renaming setIfInBounds_toArray → sA, set_cons_zero → sB, set_cons_succ → sC
open Go renaming World → wW
open Go.Value renaming pointer → vp, bool → vb, int → vi
open Go.IntKind renaming i64 → iQ, u64 → uQ
open Option renaming none → nN, some → sS
open Bool renaming true → tQ, false → fF
open Int renaming eq_ofNat_of_zero_le → iN
theorem nO {m f i:Nat} (hf:f<m) (hi:i <= m):(f+i) % m=if f+i<m then f+i else f+i - m:=by
 split
 ·rename_i h;exact Nat.mod_eq_of_lt h
 ·rename_i h
  rw [Nat.mod_eq_sub_mod oM]
  by_cases e:f+i - m<m
  ·exact Nat.mod_eq_of_lt e
  ·omega
/-- The ring R of m places, from place f on, holds l. -/
structure mi (R:List Int) (m f:Nat) (l:List Int):Prop where
 len:R.length=m
 first:f<m
 fits:l.length <= m
 cell:∀ i,i<l.length -> ar R ((f+i) % m)=ar l i
theorem kO {l k:List Int} {i:Nat} (h:i<l.length):ar (l++k) i=ar l i:=by
 simp [ar,List.getD,List.getElem?_append_left h]
theorem pJ {l:List Int} {x:Int}:ar (l++[x]) l.length=x:=by
 simp [ar,List.getD]
theorem mi.push {R:List Int} {m f:Nat} {l:List Int} (h:mi R m f l) (hl:l.length<m) (x:Int):mi (R.set ((f+l.length) % m) x) m f (l++[x]):=by
 have hf:=h.first
 refine ⟨by rw [List.length_set];exact h.len,hf,by simp;omega,λi hi=>?_⟩
 simp only [List.length_append,List.length_cons,List.length_nil] at hi
 have hlt:(f+l.length) % m<R.length:=by rw [h.len];exact Nat.mod_lt _ oM
 rw [nY hlt]
 by_cases e:i=l.length
 ·subst e;rw [pG rfl,pJ]
 ·have e2:¬ ((f+l.length) % m=(f+i) % m):=by
   rw [nO hf oM,nO hf oM]
   split<;>split<;>omega
  rw [nG e2,kO oM]
  exact h.cell i oM
theorem mi.front {R:List Int} {m f:Nat} {l:List Int} (h:mi R m f l) (hl:l≠[]):ar R f=ar l 0:=by
 have:=h.cell 0 (List.length_pos_iff.2 hl)
 rwa [Nat.add_zero,Nat.mod_eq_of_lt h.first] at this
theorem mi.pop {R:List Int} {m f:Nat} {x:Int} {l:List Int} (h:mi R m f (x :: l)):mi R m ((f+1) % m) l:=by
 have hf:=h.first
 have hfit:=h.fits
 simp only [List.length_cons] at hfit
 refine ⟨h.len,Nat.mod_lt _ oM,by omega,λi hi=>?_⟩
 have:=h.cell (i+1) (by simp;omega)
 have e:((f+1) % m+i) % m=(f+(i+1)) % m:=by
  rw [Nat.mod_add_mod,Nat.add_assoc,Nat.add_comm 1 i]
 rw [e,this]
 simp [ar]
theorem nZ {l:List Int} {k j:Nat}:ar (l.eraseIdx k) j=if j<k then ar l j else ar l (j+1):=by
 simp only [ar,List.getD,List.getElem?_eraseIdx]
 split<;>rfl
/-- The places from k on are filled with what stood behind them, up to place i. -/
structure pn (R:List Int) (m f:Nat) (l:List Int) (k i:Nat):Prop where
 len:R.length=m
 cell:∀ j,j<i -> ar R ((f+j) % m)=ar (l.eraseIdx k) j
theorem pn.start {R:List Int} {m f:Nat} {l:List Int} (h:mi R m f l) {k:Nat} (hk:k<l.length):pn R m f l k k:=
 ⟨h.len,λj hj=>by rw [nZ,pG hj];exact h.cell j oM⟩
theorem pn.step {R:List Int} {m f:Nat} {l:List Int} {k i:Nat} (h:pn R m f l k i) (hf:f<m) (hm:l.length <= m) (hk:k <= i) (hi:i+1<l.length):pn (R.set ((f+i) % m) (ar l (i+1))) m f l k (i+1):=by
 have hlt:(f+i) % m<R.length:=by rw [h.len];exact Nat.mod_lt _ oM
 refine ⟨by rw [List.length_set];exact h.len,λj hj=>?_⟩
 rw [nY hlt]
 by_cases e:j=i
 ·subst e;rw [pG rfl,nZ,nG oM]
 ·have e2:¬ ((f+i) % m=(f+j) % m):=by
   rw [nO hf oM,nO hf oM]
   split<;>split<;>omega
  rw [nG e2]
  exact h.cell j oM
theorem pn.done {R:List Int} {m f:Nat} {l:List Int} {k i:Nat} (h:pn R m f l k i) (hf:f<m) (hm:l.length <= m) (hk:k<l.length) (hi:l.length <= i+1):mi R m f (l.eraseIdx k):=by
 have hl:(l.eraseIdx k).length=l.length - 1:=List.length_eraseIdx_of_lt hk
 exact ⟨h.len,hf,by omega,λj hj=>h.cell j oM⟩
/-- The list in two pieces of the ring. -/
theorem mi.two {R:List Int} {m f:Nat} {l:List Int} (h:mi R m f l):l=(R.drop f).take l.length++R.take (l.length - (m - f)):=by
 have hf:=h.first
 have hR:=h.len
 have hfit:=h.fits
 apply List.ext_getElem?
 intro i
 by_cases hi:i<l.length
 ·have hc:=h.cell i hi
  rw [nO hf oM] at hc
  have hl:l[i]?=sS (ar l i):=by simp [ar,List.getD,hi]
  rw [hl,<- hc]
  by_cases h1:f+i<m
  ·rw [pG h1,List.getElem?_append_left (by simp;omega),List.getElem?_take,pG hi,List.getElem?_drop]
   simp [ar,List.getD,show f+i<R.length by omega]
  ·have hl2:((R.drop f).take l.length).length=m - f:=by simp;omega
   rw [nG h1,List.getElem?_append_right oM,hl2,List.getElem?_take,pG oM]
   have e:i - (m - f)=f+i - m:=by omega
   rw [e]
   simp [ar,List.getD,show f+i - m<R.length by omega]
 ·have h1:l[i]?=none:=List.getElem?_eq_none oM
  rw [h1]
  symm
  apply List.getElem?_eq_none
  simp
  omega
end Go.Proofs.YtmiapbgkphpgoaaGreatDoor
namespace Go.Proofs
open Go.Shelf
def YtmiapbgkphpgoaaGreatDoor.tzL_ren:Go.Shelf.Ren:=⟨fun|29=>231|n=>n,fun|22=>32|3=>3|4=>4|25=>165|54=>350|0=>0|5=>5|n=>n,fun|1=>0|n=>n⟩
theorem YtmiapbgkphpgoaaGreatDoor.tzL:Go.Proofs.Lays7.n29 Tryz.prog YtmiapbgkphpgoaaGreatDoor.tzL_ren:={
 mixed:=by kernel_rfl
 f29:=Tryz.func231.trans (congrArg some (by kernel_rfl))
 t0:=Tryz.underlying0
 a0:=Tryz.isAgg0
 z0:=Tryz.sizeOf0
 v0:=Tryz.zeroValue0
 i0:=by kernel_rfl
 t3:=Tryz.underlying3
 a3:=Tryz.isAgg3
 z3:=Tryz.sizeOf3
 v3:=Tryz.zeroValue3
 i3:=by kernel_rfl
 t4:=Tryz.underlying4
 a4:=Tryz.isAgg4
 z4:=Tryz.sizeOf4
 v4:=Tryz.zeroValue4
 i4:=by kernel_rfl
 t5:=Tryz.underlying5
 a5:=Tryz.isAgg5
 z5:=Tryz.sizeOf5
 v5:=Tryz.zeroValue5
 i5:=by kernel_rfl
 t22:=Tryz.underlying32
 a22:=Tryz.isAgg32
 z22:=Tryz.sizeOf32
 v22:=Tryz.zeroValue32
 i22:=by kernel_rfl
 t25:=Tryz.underlying165
 a25:=Tryz.isAgg165
 z25:=Tryz.sizeOf165
 v25:=Tryz.zeroValue165
 i25:=by kernel_rfl
 t54:=Tryz.underlying350
 a54:=Tryz.isAgg350
 z54:=Tryz.sizeOf350
 g1:=by kernel_rfl }
end Go.Proofs
namespace Go.Proofs.YtmiapbgkphpgoaaGreatDoor
set_option linter.unusedVariables false
set_option linter.unusedSimpArgs false
set_option maxRecDepth 100000
set_option maxHeartbeats 20000000
open Go.RowKit
open Go.Proofs.Tryz renaming prog → tp
open List renaming setIfInBounds_toArray → sA, set_cons_zero → sB, set_cons_succ → sC
open Go renaming World → wW
open Go.Value renaming pointer → vp, bool → vb, int → vi
open Go.IntKind renaming i64 → iQ, u64 → uQ
open Option renaming none → nN, some → sS
open Bool renaming true → tQ, false → fF
open Int renaming eq_ofNat_of_zero_le → iN
def bp (v:Value) (w:wW) (e:Ending) (w':wW):Prop:=e=.returned v /\ af [] w w'
end Go.Proofs.YtmiapbgkphpgoaaGreatDoor
namespace Go.Proofs
open Go.Shelf
def YtmiapbgkphpgoaaGreatDoor.keysL_ren:Go.Shelf.Ren:=⟨fun|7=>370|10=>377|n=>n,fun|23=>275|26=>3|3=>2|28=>399|0=>0|27=>398|33=>155|4=>4|n=>n,fun|n=>n⟩
theorem YtmiapbgkphpgoaaGreatDoor.keysL:Go.Proofs.SlLaysZI.n7 Tryz.prog YtmiapbgkphpgoaaGreatDoor.keysL_ren:={
 mixed:=by kernel_rfl
 f7:=⟨Tryz.f370.name,by decide,Tryz.func370.trans (congrArg some (by kernel_rfl))⟩
 f10:=⟨Tryz.f377.name,by decide,Tryz.func377.trans (congrArg some (by kernel_rfl))⟩
 t0:=Tryz.underlying0
 a0:=Tryz.isAgg0
 z0:=Tryz.sizeOf0
 v0:=Tryz.zeroValue0
 t4:=Tryz.underlying4
 a4:=Tryz.isAgg4
 z4:=Tryz.sizeOf4
 v4:=Tryz.zeroValue4
 t23:=Tryz.underlying275
 a23:=Tryz.isAgg275
 z23:=Tryz.sizeOf275
 v23:=Tryz.zeroValue275
 t26:=Tryz.underlying3
 a26:=Tryz.isAgg3
 z26:=Tryz.sizeOf3
 v26:=Tryz.zeroValue3
 t27:=Tryz.underlying398
 a27:=Tryz.isAgg398
 z27:=Tryz.sizeOf398
 v27:=Tryz.zeroValue398
 t28:=Tryz.underlying399
 a28:=Tryz.isAgg399
 z28:=Tryz.sizeOf399
 v28:=Tryz.zeroValue399
 t33:=Tryz.underlying155
 a33:=Tryz.isAgg155
 z33:=Tryz.sizeOf155
 v33:=Tryz.zeroValue155 }
def YtmiapbgkphpgoaaGreatDoor.collectL_ren:Go.Shelf.Ren:=⟨fun|8=>369|11=>376|n=>n,fun|26=>3|28=>399|24=>30|0=>0|33=>155|4=>4|n=>n,fun|n=>n⟩
theorem YtmiapbgkphpgoaaGreatDoor.collectL:Go.Proofs.SlLaysZI.n8 Tryz.prog YtmiapbgkphpgoaaGreatDoor.collectL_ren:={
 mixed:=by kernel_rfl
 f8:=⟨Tryz.f369.name,by decide,Tryz.func369.trans (congrArg some (by kernel_rfl))⟩
 f11:=⟨Tryz.f376.name,by decide,Tryz.func376.trans (congrArg some (by kernel_rfl))⟩
 t0:=Tryz.underlying0
 a0:=Tryz.isAgg0
 z0:=Tryz.sizeOf0
 v0:=Tryz.zeroValue0
 t24:=Tryz.underlying30
 a24:=Tryz.isAgg30
 z24:=Tryz.sizeOf30
 v24:=Tryz.zeroValue30
 t26:=Tryz.underlying3
 a26:=Tryz.isAgg3
 z26:=Tryz.sizeOf3
 v26:=Tryz.zeroValue3
 t28:=Tryz.underlying399
 a28:=Tryz.isAgg399
 z28:=Tryz.sizeOf399
 v28:=Tryz.zeroValue399
 i26:=by kernel_rfl }
end Go.Proofs
namespace Go.Proofs.YtmiapbgkphpgoaaGreatDoor
set_option linter.unusedVariables false
set_option linter.unusedSimpArgs false
set_option maxRecDepth 100000
set_option maxHeartbeats 20000000
open Go.RowKit
open Go.Proofs.Tryz renaming prog → tp
open List renaming setIfInBounds_toArray → sA, set_cons_zero → sB, set_cons_succ → sC
open Go renaming World → wW
open Go.Value renaming pointer → vp, bool → vb, int → vi
open Go.IntKind renaming i64 → iQ, u64 → uQ
open Option renaming none → nN, some → sS
open Bool renaming true → tQ, false → fF
open Int renaming eq_ofNat_of_zero_le → iN
end Go.Proofs.YtmiapbgkphpgoaaGreatDoor
namespace Go.Proofs
open Go.Shelf
def YtmiapbgkphpgoaaGreatDoor.dropL_ren:Go.Shelf.Ren:=⟨fun|10=>325|6=>169|n=>n,fun|22=>30|23=>3|25=>155|3=>3|4=>4|0=>0|n=>n,fun|n=>n⟩
theorem YtmiapbgkphpgoaaGreatDoor.dropL:Go.Proofs.SlLaysH.n10 Tryz.prog YtmiapbgkphpgoaaGreatDoor.dropL_ren:={
 mixed:=by kernel_rfl
 f6:=⟨Tryz.f169.name,by decide,Tryz.func169.trans (congrArg some (by kernel_rfl))⟩
 f10:=⟨Tryz.f325.name,by decide,Tryz.func325.trans (congrArg some (by kernel_rfl))⟩
 t0:=Tryz.underlying0
 a0:=Tryz.isAgg0
 z0:=Tryz.sizeOf0
 v0:=Tryz.zeroValue0
 t3:=Tryz.underlying3
 a3:=Tryz.isAgg3
 z3:=Tryz.sizeOf3
 v3:=Tryz.zeroValue3
 t4:=Tryz.underlying4
 a4:=Tryz.isAgg4
 z4:=Tryz.sizeOf4
 v4:=Tryz.zeroValue4
 t22:=Tryz.underlying30
 a22:=Tryz.isAgg30
 z22:=Tryz.sizeOf30
 v22:=Tryz.zeroValue30
 a23:=Tryz.isAgg3
 z23:=Tryz.sizeOf3
 t25:=Tryz.underlying155
 a25:=Tryz.isAgg155
 z25:=Tryz.sizeOf155
 v25:=Tryz.zeroValue155 }
end Go.Proofs
namespace Go.Proofs.YtmiapbgkphpgoaaGreatDoor
set_option linter.unusedVariables false
set_option linter.unusedSimpArgs false
set_option maxRecDepth 100000
set_option maxHeartbeats 20000000
open Go.RowKit
open Go.Proofs.Tryz renaming prog → tp
open List renaming setIfInBounds_toArray → sA, set_cons_zero → sB, set_cons_succ → sC
open Go renaming World → wW
open Go.Value renaming pointer → vp, bool → vb, int → vi
open Go.IntKind renaming i64 → iQ, u64 → uQ
open Option renaming none → nN, some → sS
open Bool renaming true → tQ, false → fF
open Int renaming eq_ofNat_of_zero_le → iN
/-- A struct of type T at block b, whose one field is a slice over the row r of 64-bit numbers l. -/
structure bG (T:Nat) (w:wW) (b r:Nat) (l:List Int):Prop where
 hb:w.heap[b]?=sS (.cells #[.slice (sS ⟨r,0,nN⟩) l.length l.length] T (0,0))
 hr:w.heap[r]?=sS (.cells (eZ .i64 l) 2 (0,0))
 ne:r≠b
 pos:1 <= l.length
 le:l.length <= 64
 inb:∀ i,i<l.length -> bz (ar l i)
theorem bG.keep {T:Nat} {S:List Nat} {w w':wW} {b r:Nat} {l:List Int} (h:bG T w b r l) (m:af S w w') (hb:b∉S) (hr:r∉S):bG T w' b r l:=
 ⟨m.keep h.hb hb,m.keep h.hr hr,h.ne,h.pos,h.le,h.inb⟩
theorem bG.alloc {T:Nat} {w:wW} {b r:Nat} {l:List Int} (h:bG T w b r l) (o:Obj):bG T (w.alloc o) b r l:=h.keep ((af.refl [] w).alloc o) sM sM
def mayE (l:List Int) (c:Int):Int:=if 0 <= c /\ c<l.length then 0 else 3
def gW (l:List Int) (c n:Int):Int:=if 0 <= c /\ c<l.length then addE (ar l c.toNat) n else 3
def iF (l:List Int) (c n:Int):List Int:=if (0 <= c /\ c<l.length) /\ bz (ar l c.toNat+n) then l.set c.toNat (ar l c.toNat+n) else l
def uT (l:List Int) (c:Int):Int:=if 0 <= c /\ c<l.length then ar l c.toNat else 0
def fU (l:List Int) (f t:Int):Int:=if (0 <= f /\ f<l.length) /\ (0 <= t /\ t<l.length) then (if f=t then 2 else addE (ar l t.toNat) (ar l f.toNat)) else 3
def fq (l:List Int) (f t:Int):List Int:=
 if ((0 <= f /\ f<l.length) /\ (0 <= t /\ t<l.length)) /\ f≠t /\ bz (ar l t.toNat+ar l f.toNat) then (l.set t.toNat (ar l t.toNat+ar l f.toNat)).set f.toNat 0 else l
def qD (l:List Int):Int:=if bz l.sum then l.sum else 0
def sJ (l:List Int):Int:=if bz l.sum then 0 else 16
theorem yP (l:List Int) (c n:Int):(iF l c n).length=l.length:=by unfold iF;split<;>simp
theorem nI (l:List Int) (c n:Int):(fq l c n).length=l.length:=by unfold fq;split<;>simp
theorem bG.set {T:Nat} {w:wW} {b r:Nat} {l:List Int} (h:bG T w b r l) (i:Nat) (v:Int) (hv:bz v):bG T (w.setCell ⟨r,i,nN⟩ (vi iQ v)) b r (l.set i v):=by
 refine ⟨?_,?_,h.ne,by simpa using h.pos,by simpa using h.le,?_⟩
 ·rw [bq (Ne.symm h.ne),h.hb];simp
 ·rw [ba h.hr,sK]
 ·intro j hj
  rw [List.length_set] at hj
  by_cases e:i<l.length
  ·rw [nY e]
   split
   ·exact hv
   ·exact h.inb j hj
  ·rw [List.set_eq_of_length_le oM];exact h.inb j hj
theorem fS (b r:Nat) (l:List Int) (c:Int) (w:wW) (h:bG 208 w b r l):
  Calls tp 296 #[vp (sS ⟨b,0,nN⟩),vi iQ c] w (au (vi iQ (mayE l c)) w):=by
 have hlp:=h.pos
 have hll:=h.le
 have c0:w.cell? ⟨b,0,nN⟩=sS (.slice (sS ⟨r,0,nN⟩) l.length l.length):=ab h.hb 0
 clear h
 by_cases hc:0 <= c /\ c<l.length
 ·have hE:mayE l c=0:=by simp [mayE,hc]
  rw [hE]
  clear hE
  obtain ⟨hc0,hc1⟩:=hc
  go_in
  go_wp2
  go_ret
  exact au.of (rfl) dz
 ·have hE:mayE l c=3:=by simp [mayE,hc]
  rw [hE]
  clear hE
  have hc':c<0 \/ (0 <= c /\ (l.length:Int) <= c):=by omega
  clear hc
  rcases hc' with h1|⟨h1,h2⟩
  all_goals
   go_in
   go_wp2
   go_ret
   exact au.of (rfl) dz
theorem lI (b r:Nat) (l:List Int) (c n:Int) (hn:bz n) (w:wW) (h:bG 208 w b r l):
  Calls tp 240 #[vp (sS ⟨b,0,nN⟩),vi iQ c,vi iQ n] w (bL (vi iQ (gW l c n)) [r] w λw'=>bG 208 w' b r (iF l c n)):=by
 have hM:=fS b r l c w h
 have hlp:=h.pos
 have hll:=h.le
 have c0:w.cell? ⟨b,0,nN⟩=sS (.slice (sS ⟨r,0,nN⟩) l.length l.length):=ab h.hb 0
 by_cases hc:0 <= c /\ c<l.length
 ·have hc':=hc
  obtain ⟨hc0,hc1⟩:=hc
  obtain ⟨c,rfl⟩:=iN hc0
  have hM':mayE l c=0:=by simp [mayE,hc']
  rw [hM'] at hM
  have hc2:c<l.length:=by omega
  have cc:w.cell? ⟨r,c,nN⟩=sS (vi iQ (ar l c)):=(ab h.hr c).trans (bZ oM)
  have ff:w.frozen? ⟨r,c,nN⟩=fF:=ax h.hr c
  have hA:=λw=>Gm (ar l c) n w (h.inb c hc2) hn
  by_cases hI:bz (ar l c+n)
  ·have hE:gW l c n=0:=by simp [gW,addE,hc',hI]
   have hS:iF l c n=l.set c (ar l c+n):=by simp only [iF,Int.toNat_natCast];rw [pG ⟨hc',hI⟩]
   have e1:rD (ar l c) n=ar l c+n:=by simp [rD,hI]
   have e2:addE (ar l c) n=0:=by simp [addE,hI]
   rw [hE,hS]
   rw [e1,e2] at hA
   have hset:=λk=>bG.set (w:=w.drewN k) ⟨h.hb,h.hr,h.ne,h.pos,h.le,h.inb⟩ c _ hI
   clear e1 e2 hE hS hM' hI
   go_in
   go_wp2_with (go_at_call 296;refine hM.r λk=>?_)
   go_wp2_with (go_at_call 297;refine (hA _).r λk2=>?_)
   go_ret
   exact bL.of rfl ((mR.drewN _).setCell sM _) (hset _)
  ·have hE:gW l c n=16:=by simp [gW,addE,hc',hI]
   have hS:iF l c n=l:=by simp only [iF,Int.toNat_natCast];rw [nG (λx=>hI x.2)]
   have e1:rD (ar l c) n=0:=by simp [rD,hI]
   have e2:addE (ar l c) n=16:=by simp [addE,hI]
   rw [hE,hS]
   rw [e1,e2] at hA
   clear e1 e2 hE hS hM' hI
   go_in
   go_wp2_with (go_at_call 296;refine hM.r λk=>?_)
   go_wp2_with (go_at_call 297;refine (hA _).r λk2=>?_)
   go_ret
   exact bL.of rfl (mR.drewN _) ⟨h.hb,h.hr,h.ne,h.pos,h.le,h.inb⟩
 ·have hM':mayE l c=3:=by simp [mayE,hc]
  have hE:gW l c n=3:=by simp [gW,hc]
  have hS:iF l c n=l:=by unfold iF;rw [nG (λx=>hc x.1)]
  rw [hM'] at hM
  rw [hE,hS]
  clear hE hS hM' hc
  go_in
  go_wp2_with (go_at_call 296;refine hM.r λk=>?_)
  go_ret
  exact bL.of rfl (mR.drewN _) ⟨h.hb,h.hr,h.ne,h.pos,h.le,h.inb⟩
theorem bG.same {T:Nat} {w w':wW} {b r:Nat} {l:List Int} (h:bG T w b r l) (e:w'.heap=w.heap):bG T w' b r l:=
 ⟨by rw [e];exact h.hb,by rw [e];exact h.hr,h.ne,h.pos,h.le,h.inb⟩
theorem vE (b r:Nat) (l:List Int) (c:Int) (w:wW) (h:bG 208 w b r l):
  Calls tp 295 #[vp (sS ⟨b,0,nN⟩),vi iQ c] w (au (.tuple #[vi iQ (uT l c),vi iQ (mayE l c)]) w):=by
 have hM:=fS b r l c w h
 have hlp:=h.pos
 have hll:=h.le
 have c0:w.cell? ⟨b,0,nN⟩=sS (.slice (sS ⟨r,0,nN⟩) l.length l.length):=ab h.hb 0
 by_cases hc:0 <= c /\ c<l.length
 ·have hc':=hc
  obtain ⟨hc0,hc1⟩:=hc
  obtain ⟨c,rfl⟩:=iN hc0
  have hM':mayE l c=0:=by simp [mayE,hc']
  have hG:uT l c=ar l c:=by simp [uT,hc']
  rw [hM'] at hM ⊢
  rw [hG]
  have hc2:c<l.length:=by omega
  have cc:w.cell? ⟨r,c,nN⟩=sS (vi iQ (ar l c)):=(ab h.hr c).trans (bZ oM)
  have ff:w.frozen? ⟨r,c,nN⟩=fF:=ax h.hr c
  clear hM' hG
  go_in
  go_wp2_with (go_at_call 296;refine hM.r λk=>?_)
  go_ret2
  exact au.of (rfl) dz
 ·have hM':mayE l c=3:=by simp [mayE,hc]
  have hG:uT l c=0:=by simp [uT,hc]
  rw [hM'] at hM ⊢
  rw [hG]
  clear hM' hG hc
  go_in
  go_wp2_with (go_at_call 296;refine hM.r λk=>?_)
  go_ret2
  exact au.of (rfl) dz
theorem AY (b r:Nat) (l:List Int) (f t:Int) (w:wW) (h:bG 208 w b r l):
  Calls tp 313 #[vp (sS ⟨b,0,nN⟩),vi iQ f,vi iQ t] w (bL (vi iQ (fU l f t)) [r] w λw'=>bG 208 w' b r (fq l f t)):=by
 have hlp:=h.pos
 have hll:=h.le
 have c0:w.cell? ⟨b,0,nN⟩=sS (.slice (sS ⟨r,0,nN⟩) l.length l.length):=ab h.hb 0
 by_cases hf:0 <= f /\ f<l.length
 ·by_cases ht:0 <= t /\ t<l.length
  ·have hM:mayE l f=0:=by simp [mayE,hf]
   have hM2:mayE l t=0:=by simp [mayE,ht]
   have hf':=hf
   have ht':=ht
   obtain ⟨hf0,hf1⟩:=hf
   obtain ⟨ht0,ht1⟩:=ht
   obtain ⟨f,rfl⟩:=iN hf0
   obtain ⟨t,rfl⟩:=iN ht0
   by_cases e:f=t
   ·subst e
    rw [show fU l f f=2 by simp [fU,hf'],show fq l f f=l by unfold fq;rw [nG (λx=>x.2.1 rfl)]]
    go_in
    go_wp2_with (go_at_call 296;refine (fS b r l _ _ (by exact h.same rfl)).r λk=>?_)
    go_ret
    exact bL.of rfl (mR.drewN _) ⟨h.hb,h.hr,h.ne,h.pos,h.le,h.inb⟩
   ·have e':((f:Int)==(t:Int))=fF:=by simp;omega
    have hf2:f<l.length:=by omega
    have cc:w.cell? ⟨r,f,nN⟩=sS (vi iQ (ar l f)):=(ab h.hr f).trans (bZ oM)
    have ff:w.frozen? ⟨r,f,nN⟩=fF:=ax h.hr f
    have hA:=λk=>lI b r l t (ar l f) (h.inb f hf2) (w.drewN k) ⟨h.hb,h.hr,h.ne,h.pos,h.le,h.inb⟩
    by_cases hI:bz (ar l t+ar l f)
    ·rw [show fU l f t=0 by simp [fU,addE,hf',ht',hI];omega,show fq l f t=(l.set t (ar l t+ar l f)).set f 0 by unfold fq;rw [pG ⟨⟨hf',ht'⟩,by omega,hI⟩];rfl]
     rw [show gW l t (ar l f)=0 by simp [gW,addE,ht',hI],show iF l t (ar l f)=l.set t (ar l t+ar l f) by unfold iF;rw [pG ⟨ht',hI⟩];rfl] at hA
     clear hI
     go_in
     go_wp2_with (go_at_call 296;refine (fS b r l _ _ (by exact h.same rfl)).r λk=>?_)
     go_wp2_with (go_at_call 240;refine (hA _).mono ?_;rintro e w1 ⟨rfl,m1,x1⟩;have c1:w1.cell? ⟨b,0,nN⟩=sS (.slice (sS ⟨r,0,nN⟩) l.length l.length):=(by have:=ab x1.hb 0;simpa using this);have cc1:w1.cell? ⟨r,f,nN⟩=sS (vi iQ (ar (l.set t (ar l t+ar l f)) f)):=(ab x1.hr f).trans (bZ (by simpa using hf2));have ff1:w1.frozen? ⟨r,f,nN⟩=fF:=ax x1.hr f)
     go_ret
     exact bL.of rfl (((mR.drewN _).trans m1 sM).setCell sM _) (x1.set f 0 dE)
    ·rw [show fU l f t=16 by simp [fU,addE,hf',ht',hI];omega,show fq l f t=l by unfold fq;rw [nG (λx=>hI x.2.2)]]
     rw [show gW l t (ar l f)=16 by simp [gW,addE,ht',hI],show iF l t (ar l f)=l by unfold iF;rw [nG (λx=>hI x.2)]] at hA
     clear hI
     go_in
     go_wp2_with (go_at_call 296;refine (fS b r l _ _ (by exact h.same rfl)).r λk=>?_)
     go_wp2_with (go_at_call 240;refine (hA _).mono ?_;rintro e w1 ⟨rfl,m1,x1⟩)
     go_ret
     exact bL.of rfl ((mR.drewN _).trans m1 sM) x1
  ·have hM:mayE l f=0:=by simp [mayE,hf]
   have hM2:mayE l t=3:=by simp [mayE,ht]
   rw [show fU l f t=3 by unfold fU;rw [nG (λx=>ht x.2)],show fq l f t=l by unfold fq;rw [nG (λx=>ht x.1.2)]]
   clear hf ht
   go_in
   go_wp2_with (go_at_call 296;refine (fS b r l _ _ (by exact h.same rfl)).r λk=>?_)
   go_ret
   exact bL.of rfl (mR.drewN _) ⟨h.hb,h.hr,h.ne,h.pos,h.le,h.inb⟩
 ·have hM:mayE l f=3:=by simp [mayE,hf]
  rw [show fU l f t=3 by unfold fU;rw [nG (λx=>hf x.1)],show fq l f t=l by unfold fq;rw [nG (λx=>hf x.1.1)]]
  clear hf
  go_in
  go_wp2_with (go_at_call 296;refine (fS b r l _ _ (by exact h.same rfl)).r λk=>?_)
  go_ret
  exact bL.of rfl (mR.drewN _) ⟨h.hb,h.hr,h.ne,h.pos,h.le,h.inb⟩
theorem Jp:(tp.info? 2).map (λi=>(i.zero,i.size,i.bytes))=sS (sS (vi iQ 0),1,8):=by kernel_rfl
theorem GR (n:Nat):∀ i,i<(List.replicate n (0:Int)).length -> bz (ar (List.replicate n 0) i):=by
 intro i _
 rw [Cy];decide
theorem nE (n:Nat) (w:wW) (h1:1 <= n) (h2:n <= 64):
  Calls tp 57 #[vi iQ n] w (bL (.tuple #[vp (sS ⟨w.heap.size+1,0,nN⟩),vi iQ 0]) [] w λw'=>w.heap.size+1<w'.heap.size /\ bG 208 w' (w.heap.size+1) w.heap.size (List.replicate n 0)):=by
 have hmk:=λw=>Go.run_make_row' (P:=tp) 206 2 (vi iQ 0) 8 Tryz.underlying206 Jp rfl .i64 .i64 n oM oM w
 go_in
 go_wp2
 go_ret2
 refine bL.of ?_ (af.alloc (af.alloc mR _) _) ⟨?_,?_,?_,by omega,by simpa using h1,by simpa using h2,GR n⟩
 ·simp
 ·simp
 ·have:=ai (w.alloc (Obj.cells (madeCells #[vi iQ 0] n) 2)) (Obj.cells #[.slice (sS ⟨w.heap.size,0,nN⟩) n n] 208)
  simpa using this
 ·rw [<- pA];exact cS (ai _ _)
theorem Ft (x y:Int) (hx:0 <= x) (hy:0 <= y) (w:wW):
  (callFunc 163 #[vi uQ x,vi uQ y,vi uQ 0]).run tp w=.ok (.value (.tuple #[vi uQ ((x+y) % 18446744073709551616),vi uQ ((x+y) / 18446744073709551616)])) w:=by
 rw [run_callFunc_extern Tryz.func163 kz kz kz (e:=add64Entry) kz,run_add64 x y 0 hx hy oM oM]
 simp [Result.andThen]
theorem Cj (L x:Int) (hL:0 <= L) (hM:L<18446744073709551616) (hx:bz x) (w:wW):∃ L' C:Int,(0 <= L' /\ L'<18446744073709551616 /\ 0 <= C /\ C <= 1 /\ L'+C * 18446744073709551616=L+x+(if x<0 then 18446744073709551616 else 0)) /\
  (callFunc 163 #[vi uQ L,vi uQ (IntKind.u64.wrap x),vi uQ 0]).run tp w=.ok (.value (.tuple #[vi uQ L',vi uQ C])) w:=by
 have hw:IntKind.u64.wrap x=x % 18446744073709551616:=by simp [IntKind.wrap,IntKind.signed,IntKind.bits]
 obtain ⟨h1,h2⟩:=hx
 refine ⟨_,_,?_,Ft L (IntKind.u64.wrap x) hL (by rw [hw];omega) w⟩
 rw [hw]
 split<;>omega
theorem uR (l:List Int) (k:Nat) (h:k<l.length):(l.take (k+1)).sum=(l.take k).sum+ar l k:=by
 rw [List.take_succ_eq_append_getElem h,List.sum_append]
 simp [ar,List.getD,h]
theorem Dt (b r:Nat) (l:List Int) (w:wW) (h:bG 208 w b r l):
  Calls tp 78 #[vp (sS ⟨b,0,nN⟩)] w (au (.tuple #[vi iQ (qD l),vi iQ (sJ l)]) w):=by
 have hlp:=h.pos
 have hll:=h.le
 have c0:w.cell? ⟨b,0,nN⟩=sS (.slice (sS ⟨r,0,nN⟩) l.length l.length):=ab h.hb 0
 have cr:∀ i,i<l.length -> w.cell? ⟨r,i,nN⟩=sS (vi iQ (ar l i)):=λi hi=>(ab h.hr i).trans (bZ hi)
 have hin:=h.inb
 clear h
 go_in
 go_wp2
 go_loopg [4,5,17] l.length (λg hi lo i wr=>∃ (k:Nat) (H L:Int),i=vi iQ k /\ k+g=l.length /\ hi=vi iQ H /\ lo=vi uQ L /\ Hid (H * 18446744073709551616+L=(l.take k).sum) /\ 0 <= L /\ L<18446744073709551616 /\ -(k:Int) <= H /\ H <= k /\ w=wr)
 case atStart=>exact ⟨0,0,0,rfl,by omega,rfl,rfl,rfl,by omega,by omega,by omega,by omega,rfl⟩
 case round=>
  obtain ⟨k,H,L,rfl,hk,rfl,rfl,hS,hL0,hL1,hH0,hH1,rfl⟩:=hrel
  by_cases hkl:k<l.length
  ·have ck:=cr k hkl
   have hn:=hin k hkl
   have hT:=zh (uR l k hkl)
   clear cr hin
   obtain ⟨L',C,hB,hadd⟩:=Cj L (ar l k) hL0 hL1 hn w
   obtain ⟨hB1,hB2,hB3,hB4,hB5⟩:=hB
   have hB5:=zh hB5
   obtain ⟨hn1,hn2⟩:=hn
   generalize ar l k=x at *
   go_wp2
   go_roundg (gk - 1)
   case measure=>omega
   case rel=>
    have h5:=hB5.out
    have hT':=hT.out
    have hS':=hS.out
    refine ⟨k+1,_,L',by go_num,by omega,rfl,rfl,?_,by omega,by omega,?_,?_,rfl⟩
    ·show _=_
     rw [hT']
     split at h5<;>omega
    ·split at h5<;>omega
    ·split at h5<;>omega
  ·have hk':k=l.length:=by omega
   have hS':=hS.out
   rw [hk',List.take_length] at hS'
   clear cr hin hS
   by_cases hL:L<9223372036854775808
   ·by_cases hH:H=0
    ·subst hH
     have e1:qD l=L:=(pG (show bz l.sum by unfold bz;omega)).trans oM
     have e2:sJ l=0:=pG (show bz l.sum by unfold bz;omega)
     have E1:=zh e1
     have E2:=zh e2
     clear e1 e2 hS'
     have e3:L / 9223372036854775808=0:=by omega
     go_wp2
     go_ret2
     exact au.of (by rw [E1.out,E2.out];rfl) dz
    ·have e1:qD l=0:=nG (show ¬ bz l.sum by unfold bz;omega)
     have e2:sJ l=16:=nG (show ¬ bz l.sum by unfold bz;omega)
     have E1:=zh e1
     have E2:=zh e2
     clear e1 e2 hS'
     have e3:L / 9223372036854775808=0:=by omega
     go_wp2
     go_ret2
     exact au.of (by rw [E1.out,E2.out];rfl) dz
   ·have e4:wrap64 L=L - 18446744073709551616:=by unfold wrap64;omega
    by_cases hH:H=-1
    ·subst hH
     have e1:qD l=L - 18446744073709551616:=(pG (show bz l.sum by unfold bz;omega)).trans oM
     have e2:sJ l=0:=pG (show bz l.sum by unfold bz;omega)
     have E1:=zh e1
     have E2:=zh e2
     clear e1 e2 hS'
     have e3:(L - 18446744073709551616) / 9223372036854775808=-1:=by omega
     go_wp2
     go_ret2
     exact au.of (by rw [E1.out,E2.out];rfl) dz
    ·have e1:qD l=0:=nG (show ¬ bz l.sum by unfold bz;omega)
     have e2:sJ l=16:=nG (show ¬ bz l.sum by unfold bz;omega)
     have E1:=zh e1
     have E2:=zh e2
     clear e1 e2 hS'
     have e3:(L - 18446744073709551616) / 9223372036854775808=-1:=by omega
     go_wp2
     go_ret2
     exact au.of (by rw [E1.out,E2.out];rfl) dz
structure SG where
 l:List Int
 st:Int
structure SG.ok (s:SG):Prop where
 nn:∀ i,0 <= ar s.l i
 sum:s.l.sum <= 1000
 st0:0 <= s.st
 st1:s.st <= 2
def KL (l:List Int) (c:Int):Prop:=0 <= c /\ c<l.length
instance instGate1 (l:List Int) (c:Int):Decidable (KL l c):=by unfold KL;infer_instance
def SG.enterE (s:SG) (c:Int):Int:=if KL s.l c then (if s.st≠0 then 7 else if 1000 <= s.l.sum then 5 else 0) else 3
def SG.enter (s:SG) (c:Int):SG:=if s.enterE c=0 then { s with l:=s.l.set c.toNat (ar s.l c.toNat+1) } else s
def SG.leaveE (s:SG) (c:Int):Int:=if KL s.l c then (if ar s.l c.toNat=0 then 12 else 0) else 3
def SG.leave (s:SG) (c:Int):SG:=if s.leaveE c=0 then { s with l:=s.l.set c.toNat (ar s.l c.toNat - 1) } else s
def SG.wantE (s:SG):Int:=if s.st≠0 then 7 else 0
def SG.want (s:SG):SG:=if s.st≠0 then s else { s with st:=1 }
def SG.takeE (s:SG):Int:=if s.st≠1 then 6 else if 0<s.l.sum then 7 else 0
def SG.take (s:SG):SG:=if s.takeE=0 then { s with st:=2 } else s
def SG.freeE (s:SG):Int:=if s.st=0 then 6 else 0
def SG.free (s:SG):SG:=if s.st=0 then s else { s with st:=0 }
theorem sW (a:Int) (l:List Int):ar (a :: l) 0=a:=by simp [ar]
theorem nW (a:Int) (l:List Int) (i:Nat):ar (a :: l) (i+1)=ar l i:=by simp [ar]
theorem AR:∀ (l:List Int),(∀ i,0 <= ar l i) -> 0 <= l.sum
 | [],_=>by simp
 | a :: l,h=>by
  have h0:=h 0
  rw [sW] at h0
  have:=AR l (λi=>by have:=h (i+1);rwa [nW] at this)
  simp;omega
theorem ng:∀ (l:List Int),(∀ i,0 <= ar l i) -> ∀ i,ar l i <= l.sum
 | [],_,i=>by simp [ar]
 | a :: l,h,0=>by
  rw [sW]
  have:=AR l (λi=>by have:=h (i+1);rwa [nW] at this)
  simp;omega
 | a :: l,h,i+1=>by
  have h0:=h 0
  rw [sW] at h0
  rw [nW]
  have:=ng l (λi=>by have:=h (i+1);rwa [nW] at this) i
  simp;omega
theorem SG.enter_ok {s:SG} (h:s.ok) (c:Int):(s.enter c).ok:=by
 unfold SG.enter
 split
 ·rename_i e
  unfold SG.enterE at e
  split at e
  ·rename_i hc
   obtain ⟨h1,h2⟩:=hc
   split at e
   ·omega
   ·split at e
    ·omega
    ·refine ⟨λi=>?_,?_,h.st0,h.st1⟩
     ·have:=h.nn i
      have:=h.nn c.toNat
      rw [nY oM];split<;>omega
     ·simp only
      rw [lG _ _ _ oM];omega
  ·omega
 ·exact h
theorem SG.leave_ok {s:SG} (h:s.ok) (c:Int):(s.leave c).ok:=by
 unfold SG.leave
 split
 ·rename_i e
  unfold SG.leaveE at e
  split at e
  ·rename_i hc
   obtain ⟨h1,h2⟩:=hc
   split at e
   ·omega
   ·have hs:=h.sum
    refine ⟨λi=>?_,?_,h.st0,h.st1⟩
    ·have:=h.nn i
     have:=h.nn c.toNat
     rw [nY oM];split<;>omega
    ·simp only
     rw [lG _ _ _ oM];omega
  ·omega
 ·exact h
theorem SG.want_ok {s:SG} (h:s.ok):s.want.ok:=by
 unfold SG.want;split
 ·exact h
 ·exact ⟨h.nn,h.sum,by simp,by simp⟩
theorem SG.take_ok {s:SG} (h:s.ok):s.take.ok:=by
 unfold SG.take;split
 ·exact ⟨h.nn,h.sum,by simp,by simp⟩
 ·exact h
theorem SG.free_ok {s:SG} (h:s.ok):s.free.ok:=by
 unfold SG.free;split
 ·exact h
 ·exact ⟨h.nn,h.sum,by simp,by simp⟩
/-- A gate at block g, over a number in parts at block b with the row r. -/
structure cP (w:wW) (g b r:Nat) (s:SG):Prop where
 hg:w.heap[g]?=sS (.cells #[vp (sS ⟨b,0,nN⟩),vi iQ s.st] 148 (0,0))
 sp:bG 208 w b r s.l
 nb:g≠b
 nr:g≠r
 ok:s.ok
theorem cP.keep {S:List Nat} {w w':wW} {g b r:Nat} {s:SG} (h:cP w g b r s) (m:af S w w') (hg:g∉S) (hb:b∉S) (hr:r∉S):cP w' g b r s:=
 ⟨m.keep h.hg hg,h.sp.keep m hb hr,h.nb,h.nr,h.ok⟩
theorem cP.same {w w':wW} {g b r:Nat} {s:SG} (h:cP w g b r s) (e:w'.heap=w.heap):cP w' g b r s:=
 ⟨by rw [e];exact h.hg,h.sp.same e,h.nb,h.nr,h.ok⟩
theorem Au {s:SG} (h:s.ok):bz s.l.sum:=by
 have:=AR s.l h.nn
 have:=h.sum
 unfold bz;omega
theorem uG {s:SG} (h:s.ok) (i:Nat):0 <= ar s.l i /\ ar s.l i <= 1000:=by
 have:=ng s.l h.nn i
 have:=h.sum
 have:=h.nn i
 omega
theorem ib (g b r:Nat) (s:SG) (w:wW) (h:cP w g b r s):Calls tp 20 #[vp (sS ⟨g,0,nN⟩)] w (au (vi iQ s.l.sum) w):=by
 have hst0:=h.ok.st0
 have hst1:=h.ok.st1
 have c0:w.cell? ⟨g,0,nN⟩=sS (vp (sS ⟨b,0,nN⟩)):=ab h.hg 0
 have c1:w.cell? ⟨g,1,nN⟩=sS (vi iQ s.st):=ab h.hg 1
 have f1:w.frozen? ⟨g,1,nN⟩=fF:=ax h.hg 1
 have e1:qD s.l=s.l.sum:=pG (Au h.ok)
 have e2:=Au h.ok
 obtain ⟨e3,e4⟩:=e2
 go_in
 go_wp2_with (go_at_call 78;refine (Dt b r s.l _ (by exact h.sp.same rfl)).r λk=>?_)
 go_ret
 exact au.of (rfl) dz
theorem CJ (g b r:Nat) (s:SG) (c:Int) (w:wW) (h:cP w g b r s):Calls tp 247 #[vp (sS ⟨g,0,nN⟩),vi iQ c] w (au (vi iQ (uT s.l c)) w):=by
 have hst0:=h.ok.st0
 have hst1:=h.ok.st1
 have c0:w.cell? ⟨g,0,nN⟩=sS (vp (sS ⟨b,0,nN⟩)):=ab h.hg 0
 have c1:w.cell? ⟨g,1,nN⟩=sS (vi iQ s.st):=ab h.hg 1
 have f1:w.frozen? ⟨g,1,nN⟩=fF:=ax h.hg 1
 have hb:-9223372036854775808 <= uT s.l c /\ uT s.l c <= 9223372036854775807:=by
  have:=uG h.ok c.toNat
  unfold uT;split<;>omega
 obtain ⟨e3,e4⟩:=hb
 go_in
 go_wp2_with (go_at_call 295;refine (vE b r s.l _ _ (by exact h.sp.same rfl)).r λk=>?_)
 go_ret
 exact au.of (rfl) dz
theorem iK (g b r:Nat) (s:SG) (c:Int) (w:wW) (h:cP w g b r s):Calls tp 239 #[vp (sS ⟨g,0,nN⟩),vi iQ c] w (au (vi iQ (mayE s.l c)) w):=by
 have hst0:=h.ok.st0
 have hst1:=h.ok.st1
 have c0:w.cell? ⟨g,0,nN⟩=sS (vp (sS ⟨b,0,nN⟩)):=ab h.hg 0
 have c1:w.cell? ⟨g,1,nN⟩=sS (vi iQ s.st):=ab h.hg 1
 have f1:w.frozen? ⟨g,1,nN⟩=fF:=ax h.hg 1
 go_in
 go_wp2_with (go_at_call 295;refine (vE b r s.l _ _ (by exact h.sp.same rfl)).r λk=>?_)
 go_ret
 exact au.of (rfl) dz
theorem EM (g b r:Nat) (s:SG) (w:wW) (h:cP w g b r s):Calls tp 154 #[vp (sS ⟨g,0,nN⟩)] w (bL (vi iQ s.wantE) [g] w λw'=>cP w' g b r s.want):=by
 have hok:=SG.want_ok h.ok
 have hst0:=h.ok.st0
 have hst1:=h.ok.st1
 have c0:w.cell? ⟨g,0,nN⟩=sS (vp (sS ⟨b,0,nN⟩)):=ab h.hg 0
 have c1:w.cell? ⟨g,1,nN⟩=sS (vi iQ s.st):=ab h.hg 1
 have f1:w.frozen? ⟨g,1,nN⟩=fF:=ax h.hg 1
 by_cases e:s.st=0
 ·have hE:s.wantE=0:=by simp [SG.wantE,e]
  have hS:s.want={ s with st:=1 }:=by simp [SG.want,e]
  rw [hE,hS]
  rw [hS] at hok
  clear hE hS
  have e':(s.st==0)=tQ:=by simp [e]
  have HE:=zh e
  clear e
  go_in
  go_wp2
  go_ret
  refine bL.of rfl (af.setCell mR sM _) ⟨?_,?_,h.nb,h.nr,hok⟩
  ·rw [ba h.hg];simp
  ·exact h.sp.keep (af.setCell (S:=[g]) mR sM _) (by simp [Ne.symm h.nb]) (by simp [Ne.symm h.nr])
 ·have hE:s.wantE=7:=by simp [SG.wantE,e]
  have hS:s.want=s:=by simp [SG.want,e]
  rw [hE,hS]
  have e':(s.st==0)=fF:=by simp [e]
  clear hE hS
  go_in
  go_wp2
  go_ret
  exact bL.of rfl mR h
theorem EO (g b r:Nat) (s:SG) (w:wW) (h:cP w g b r s):Calls tp 190 #[vp (sS ⟨g,0,nN⟩)] w (bL (vi iQ s.freeE) [g] w λw'=>cP w' g b r s.free):=by
 have hok:=SG.free_ok h.ok
 have hst0:=h.ok.st0
 have hst1:=h.ok.st1
 have c0:w.cell? ⟨g,0,nN⟩=sS (vp (sS ⟨b,0,nN⟩)):=ab h.hg 0
 have c1:w.cell? ⟨g,1,nN⟩=sS (vi iQ s.st):=ab h.hg 1
 have f1:w.frozen? ⟨g,1,nN⟩=fF:=ax h.hg 1
 by_cases e:s.st=0
 ·have hE:s.freeE=6:=by simp [SG.freeE,e]
  have hS:s.free=s:=by simp [SG.free,e]
  rw [hE,hS]
  clear hE hS
  have e':(s.st==0)=tQ:=by simp [e]
  clear e
  go_in
  go_wp2
  go_ret
  exact bL.of rfl mR h
 ·have hE:s.freeE=0:=by simp [SG.freeE,e]
  have hS:s.free={ s with st:=0 }:=by simp [SG.free,e]
  rw [hE,hS]
  rw [hS] at hok
  have e':(s.st==0)=fF:=by simp [e]
  clear hE hS
  go_in
  go_wp2
  go_ret
  refine bL.of rfl (af.setCell mR sM _) ⟨?_,?_,h.nb,h.nr,hok⟩
  ·rw [ba h.hg];simp
  ·exact h.sp.keep (af.setCell (S:=[g]) mR sM _) (by simp [Ne.symm h.nb]) (by simp [Ne.symm h.nr])
theorem EN (g b r:Nat) (s:SG) (w:wW) (h:cP w g b r s):Calls tp 263 #[vp (sS ⟨g,0,nN⟩)] w (bL (vi iQ s.takeE) [g] w λw'=>cP w' g b r s.take):=by
 have hok:=SG.take_ok h.ok
 have hst0:=h.ok.st0
 have hst1:=h.ok.st1
 have c0:w.cell? ⟨g,0,nN⟩=sS (vp (sS ⟨b,0,nN⟩)):=ab h.hg 0
 have c1:w.cell? ⟨g,1,nN⟩=sS (vi iQ s.st):=ab h.hg 1
 have f1:w.frozen? ⟨g,1,nN⟩=fF:=ax h.hg 1
 by_cases e:s.st=1
 ·have e':(s.st==1)=tQ:=by simp [e]
  by_cases hp:0<s.l.sum
  ·have hE:s.takeE=7:=by simp [SG.takeE,e,hp]
   have hS:s.take=s:=by simp [SG.take,hE]
   rw [hE,hS]
   clear hE hS e
   go_in
   go_wp2_with (go_at_call 20;refine (ib g b r s _ (by exact h.same rfl)).r λk=>?_)
   go_ret
   exact bL.of rfl (mR.drewN _) (h.same rfl)
  ·have hE:s.takeE=0:=by simp [SG.takeE,e,hp]
   have hS:s.take={ s with st:=2 }:=by simp [SG.take,hE]
   rw [hE,hS]
   rw [hS] at hok
   clear hE hS e
   go_in
   go_wp2_with (go_at_call 20;refine (ib g b r s _ (by exact h.same rfl)).r λk=>?_)
   go_ret
   refine bL.of rfl (af.setCell (mR.drewN _) sM _) ⟨?_,?_,h.nb,h.nr,hok⟩
   ·rw [ba (w:=w.drewN k) h.hg];simp
   ·exact h.sp.keep (af.setCell (S:=[g]) (mR.drewN _) sM _) (by simp [Ne.symm h.nb]) (by simp [Ne.symm h.nr])
 ·have hE:s.takeE=6:=by simp [SG.takeE,e]
  have hS:s.take=s:=by simp [SG.take,hE]
  rw [hE,hS]
  have e':(s.st==1)=fF:=by simp [e]
  clear hE hS e
  go_in
  go_wp2
  go_ret
  exact bL.of rfl mR h
theorem BW (g b r:Nat) (s:SG) (c:Int) (w:wW) (h:cP w g b r s):Calls tp 149 #[vp (sS ⟨g,0,nN⟩),vi iQ c] w (bL (vi iQ (s.enterE c)) [r] w λw'=>cP w' g b r (s.enter c)):=by
 have hok:=SG.enter_ok h.ok c
 have hst0:=h.ok.st0
 have hst1:=h.ok.st1
 have c0:w.cell? ⟨g,0,nN⟩=sS (vp (sS ⟨b,0,nN⟩)):=ab h.hg 0
 have c1:w.cell? ⟨g,1,nN⟩=sS (vi iQ s.st):=ab h.hg 1
 have f1:w.frozen? ⟨g,1,nN⟩=fF:=ax h.hg 1
 by_cases hc:KL s.l c
 ·have hM:mayE s.l c=0:=pG hc
  by_cases e:s.st=0
  ·have e':(s.st==0)=tQ:=by simp [e]
   by_cases hs:1000 <= s.l.sum
   ·have hE:s.enterE c=5:=by simp [SG.enterE,hc,e,hs]
    have hS:s.enter c=s:=by simp [SG.enter,hE]
    rw [hE,hS]
    clear hE hS e hc
    go_in
    go_wp2_with (first|(go_at_call 239;refine (iK g b r s c _ (by exact h.same rfl)).r λk=>?_)|(go_at_call 20;refine (ib g b r s _ (by exact h.same rfl)).r λk2=>?_))
    go_ret
    exact bL.of rfl (mR.drewN _) (h.same rfl)
   ·have hE:s.enterE c=0:=by simp [SG.enterE,hc,e,hs]
    have hn:=uG h.ok c.toNat
    have hI:bz (ar s.l c.toNat+1):=by unfold bz;omega
    have hA:gW s.l c 1=0:=by unfold gW addE;rw [pG (show 0 <= c /\ c<s.l.length from hc),pG hI]
    have hL:iF s.l c 1=s.l.set c.toNat (ar s.l c.toNat+1):=pG ⟨hc,hI⟩
    have hS:s.enter c={ s with l:=iF s.l c 1 }:=by simp only [SG.enter,hE,if_true,hL]
    rw [hE,hS]
    rw [hS] at hok
    clear hE hS e hc hL hI
    go_in
    go_wp2_with (first|(go_at_call 239;refine (iK g b r s c _ (by exact h.same rfl)).r λk=>?_)|(go_at_call 20;refine (ib g b r s _ (by exact h.same rfl)).r λk2=>?_)|(go_at_call 240;refine (lI b r s.l c 1 dE _ (by exact h.sp.same rfl)).mono ?_;rintro e w1 ⟨rfl,m1,x1⟩))
    go_ret
    exact bL.of rfl ((mR.drewN _).trans m1 sM) ⟨m1.keep (w:=w.drewN _) h.hg (by simp [h.nr]),x1,h.nb,h.nr,hok⟩
  ·have e':(s.st==0)=fF:=by simp [e]
   have hE:s.enterE c=7:=by simp [SG.enterE,hc,e]
   have hS:s.enter c=s:=by simp [SG.enter,hE]
   rw [hE,hS]
   clear hE hS e hc
   go_in
   go_wp2_with (go_at_call 239;refine (iK g b r s c _ (by exact h.same rfl)).r λk=>?_)
   go_ret
   exact bL.of rfl (mR.drewN _) (h.same rfl)
 ·have hM:mayE s.l c=3:=nG hc
  have hE:s.enterE c=3:=by simp [SG.enterE,hc]
  have hS:s.enter c=s:=by simp [SG.enter,hE]
  rw [hE,hS]
  clear hE hS hc
  go_in
  go_wp2_with (go_at_call 239;refine (iK g b r s c _ (by exact h.same rfl)).r λk=>?_)
  go_ret
  exact bL.of rfl (mR.drewN _) (h.same rfl)
theorem BV (g b r:Nat) (s:SG) (c:Int) (w:wW) (h:cP w g b r s):Calls tp 159 #[vp (sS ⟨g,0,nN⟩),vi iQ c] w (bL (vi iQ (s.leaveE c)) [r] w λw'=>cP w' g b r (s.leave c)):=by
 have hok:=SG.leave_ok h.ok c
 have hst0:=h.ok.st0
 have hst1:=h.ok.st1
 have c0:w.cell? ⟨g,0,nN⟩=sS (vp (sS ⟨b,0,nN⟩)):=ab h.hg 0
 have c1:w.cell? ⟨g,1,nN⟩=sS (vi iQ s.st):=ab h.hg 1
 have f1:w.frozen? ⟨g,1,nN⟩=fF:=ax h.hg 1
 by_cases hc:KL s.l c
 ·have hM:mayE s.l c=0:=pG hc
  have hG:uT s.l c=ar s.l c.toNat:=pG hc
  by_cases e:ar s.l c.toNat=0
  ·have hE:s.leaveE c=12:=by simp [SG.leaveE,hc,e]
   have hS:s.leave c=s:=by simp [SG.leave,hE]
   rw [hE,hS]
   rw [e] at hG
   clear hE hS hc e
   go_in
   go_wp2_with (first|(go_at_call 239;refine (iK g b r s c _ (by exact h.same rfl)).r λk=>?_)|(go_at_call 247;refine (CJ g b r s c _ (by exact h.same rfl)).r λk2=>?_))
   go_ret
   exact bL.of rfl (mR.drewN _) (h.same rfl)
  ·have e':(ar s.l c.toNat==0)=fF:=by simp [e]
   have hE:s.leaveE c=0:=by simp [SG.leaveE,hc,e]
   have hn:=uG h.ok c.toNat
   have hI:bz (ar s.l c.toNat+-1):=by unfold bz;omega
   have hA:gW s.l c (-1)=0:=by unfold gW addE;rw [pG (show 0 <= c /\ c<s.l.length from hc),pG hI]
   have hL:iF s.l c (-1)=s.l.set c.toNat (ar s.l c.toNat+-1):=pG ⟨hc,hI⟩
   have hS:s.leave c={ s with l:=iF s.l c (-1) }:=by simp only [SG.leave,hE,if_true,hL];rfl
   rw [hE,hS]
   rw [hS] at hok
   clear hE hS e hc hL hI
   go_in
   go_wp2_with (first|(go_at_call 239;refine (iK g b r s c _ (by exact h.same rfl)).r λk=>?_)|(go_at_call 247;refine (CJ g b r s c _ (by exact h.same rfl)).r λk2=>?_)|(go_at_call 240;refine (lI b r s.l c (-1) dE _ (by exact h.sp.same rfl)).mono ?_;rintro e w1 ⟨rfl,m1,x1⟩))
   go_ret
   exact bL.of rfl ((mR.drewN _).trans m1 sM) ⟨m1.keep (w:=w.drewN _) h.hg (by simp [h.nr]),x1,h.nb,h.nr,hok⟩
 ·have hM:mayE s.l c=3:=nG hc
  have hE:s.leaveE c=3:=by simp [SG.leaveE,hc]
  have hS:s.leave c=s:=by simp [SG.leave,hE]
  rw [hE,hS]
  clear hE hS hc
  go_in
  go_wp2_with (go_at_call 239;refine (iK g b r s c _ (by exact h.same rfl)).r λk=>?_)
  go_ret
  exact bL.of rfl (mR.drewN _) (h.same rfl)
/-- A gate of n cores has been made, in new blocks. -/
def JM (n:Nat) (w:wW) (e:Ending) (w':wW):Prop:=
 ∃ g b r,e=.returned (.tuple #[vp (sS ⟨g,0,nN⟩),vi iQ 0]) /\ af [] w w' /\ (w.heap.size <= g /\ w.heap.size <= b /\ w.heap.size <= r) /\ cP w' g b r ⟨List.replicate n 0,0⟩
theorem Cp:∀ n,(List.replicate n (0:Int)).sum=0
 | 0=>rfl
 | n+1=>by rw [List.replicate_succ,List.sum_cons,Cp n];rfl
theorem Af (n:Nat) (w:wW) (h1:1 <= n) (h2:n <= 64):Calls tp 59 #[vi iQ n] w (JM n w):=by
 go_in
 go_wp2_with (go_at_call 57;refine (nE n _ h1 h2).mono ?_;rintro e w1 ⟨rfl,m1,hs1,x1⟩)
 go_ret2
 refine ⟨w1.heap.size,w.heap.size+1,w.heap.size,rfl,m1.alloc _,⟨by omega,by omega,by omega⟩,ai _ _,x1.alloc _,by omega,by omega,?_⟩
 exact ⟨λi=>by rw [Cy];omega,by rw [Cp];omega,by simp,by simp⟩
structure aT where
 n:Nat
 d:Nat
 back:Bool
def aT.ok (s:aT):Prop:=s.d <= s.n /\ s.n <= 64
def aT.over (s:aT):Bool:=(s.back&&s.d==0)||(!s.back&&s.d==s.n)
def aT.k (s:aT):Int:=if s.over then 0 else if s.back then s.d - 1 else s.d
def aT.doneE (s:aT):Int:=if s.over then 6 else 0
def aT.done (s:aT):aT:=if s.over then s else if s.back then { s with d:=s.d - 1 } else { s with d:=s.d+1 }
def aT.failE (s:aT):Int:=if s.back||s.over then 6 else 0
def aT.fail (s:aT):aT:=if s.back||s.over then s else { s with back:=true }
def aT.why (s:aT):Int:=if s.over then (if s.back then 11 else 0) else 7
theorem aT.done_ok {s:aT} (h:s.ok):s.done.ok:=by
 obtain ⟨n,d,back⟩:=s
 obtain ⟨h1,h2⟩:=h
 simp only at h1 h2
 unfold aT.done aT.over
 cases back<;>simp only<;>split<;>simp_all [aT.ok]<;>omega
theorem aT.fail_ok {s:aT} (h:s.ok):s.fail.ok:=by
 unfold aT.fail;split<;>exact h
def pj (w:wW) (b:Nat) (s:aT):Prop:=w.heap[b]?=sS (.cells #[vi iQ s.n,vi iQ s.d,vb s.back] 356 (0,0)) /\ s.ok
theorem pj.keep {S:List Nat} {w w':wW} {b:Nat} {s:aT} (h:pj w b s) (m:af S w w') (hb:b∉S):pj w' b s:=⟨m.keep h.1 hb,h.2⟩
theorem gz (b:Nat) (s:aT) (w:wW) (h:pj w b s):
  Calls tp 259 #[vp (sS ⟨b,0,nN⟩)] w (au (.tuple #[vi iQ s.k,vb s.back,vb s.over]) w):=by
 obtain ⟨h,h1,h2⟩:=h
 have c0:w.cell? ⟨b,0,nN⟩=sS (vi iQ s.n):=ab h 0
 have c1:w.cell? ⟨b,1,nN⟩=sS (vi iQ s.d):=ab h 1
 have c2:w.cell? ⟨b,2,nN⟩=sS (vb s.back):=ab h 2
 have f1:w.frozen? ⟨b,1,nN⟩=fF:=ax h 1
 have f2:w.frozen? ⟨b,2,nN⟩=fF:=ax h 2
 clear h f1 f2
 obtain ⟨n,d,back⟩:=s
 simp only at h1 h2 c0 c1 c2
 cases back
 ·by_cases e:d=n
  ·subst e
   have hd:((d:Int)==(d:Int))=tQ:=by simp
   go_in
   go_wp2
   go_quiet (fail)
   go_wp2
   go_quiet (fail)
   go_wp2
   go_ret3
   exact au.of (by simp [aT.k,aT.over]) dz
  ·have hd:((d:Int)==(n:Int))=fF:=by simp;omega
   have hd':(d==n)=fF:=by simp;omega
   go_in
   go_wp2
   go_quiet (fail)
   go_wp2
   go_ret3
   exact au.of (by simp [aT.k,aT.over,hd']) dz
 ·by_cases e:d=0
  ·subst e
   have hd:((0:Int)==(0:Int))=tQ:=by simp
   go_in
   go_wp2
   go_quiet (fail)
   go_wp2
   go_quiet (fail)
   go_wp2
   go_ret3
   exact au.of (by simp [aT.k,aT.over]) dz
  ·have hd:((d:Int)==(0:Int))=fF:=by simp;omega
   have hd':(d==0)=fF:=by simp;omega
   have hp:(1:Int) <= d:=by omega
   go_in
   go_wp2
   go_quiet (fail)
   go_wp2
   go_ret3
   exact au.of (by simp [aT.k,aT.over,hd']) dz
theorem JK (b:Nat) (s:aT) (w:wW) (h:pj w b s):
  Calls tp 267 #[vp (sS ⟨b,0,nN⟩)] w (au (vi iQ s.why) w):=by
 cases ho:s.over
 ·go_in
  go_wp2_with (go_at_call 259;refine (gz b s _ h).r λk=>?_)
  go_ret
  exact au.of (by simp [aT.why,ho]) dz
 ·cases hb:s.back
  all_goals
   go_in
   go_wp2_with (go_at_call 259;refine (gz b s _ h).r λk=>?_)
   go_ret
   exact au.of (by simp [aT.why,ho,hb]) dz
theorem Ij (b:Nat) (s:aT) (w:wW) (h:pj w b s):
  Calls tp 266 #[vp (sS ⟨b,0,nN⟩)] w (bL (vi iQ s.doneE) [b] w λw'=>pj w' b s.done):=by
 have hok:=aT.done_ok h.2
 have h':=h
 obtain ⟨h,h1,h2⟩:=h
 have c0:w.cell? ⟨b,0,nN⟩=sS (vi iQ s.n):=ab h 0
 have c1:w.cell? ⟨b,1,nN⟩=sS (vi iQ s.d):=ab h 1
 have c2:w.cell? ⟨b,2,nN⟩=sS (vb s.back):=ab h 2
 have f1:w.frozen? ⟨b,1,nN⟩=fF:=ax h 1
 have f2:w.frozen? ⟨b,2,nN⟩=fF:=ax h 2
 cases ho:s.over
 ·have hE:s.doneE=0:=by simp [aT.doneE,ho]
  have HE:=zh hE;clear hE
  cases hb:s.back
  ·have hD:s.done={ s with d:=s.d+1 }:=by simp [aT.done,ho,hb]
   have HD:=zh hD;clear hD
   go_in
   go_wp2_with (go_at_call 259;refine (gz b s _ h').r λk=>?_)
   go_ret
   refine bL.of (by rw [HE.out];rfl) (af.setCell (af.drewN mR _) sM _) ⟨?_,hok⟩
   rw [FL,ba (w:=w.drewN k) h 1,HD.out];simp [hb]
  ·have hD:s.done={ s with d:=s.d - 1 }:=by simp [aT.done,ho,hb]
   have HD:=zh hD;clear hD
   have hd:1 <= s.d:=by
    unfold aT.over at ho;rw [hb] at ho;simp at ho;omega
   have hd':(1:Int) <= s.d:=by omega
   go_in
   go_wp2_with (go_at_call 259;refine (gz b s _ h').r λk=>?_)
   go_ret
   refine bL.of (by rw [HE.out];rfl) (af.setCell (af.drewN mR _) sM _) ⟨?_,hok⟩
   rw [FJ hd,ba (w:=w.drewN k) h 1,HD.out];simp [hb]
 ·have hE:s.doneE=6:=by simp [aT.doneE,ho]
  have hD:s.done=s:=by simp [aT.done,ho]
  have HE:=zh hE;clear hE
  have HD:=zh hD;clear hD
  go_in
  go_wp2_with (go_at_call 259;refine (gz b s _ h').r λk=>?_)
  go_ret
  refine bL.of (by rw [HE.out];rfl) (af.drewN mR _) ?_
  rw [HD.out];exact ⟨h,h1,h2⟩
theorem Ii (b:Nat) (s:aT) (w:wW) (h:pj w b s):
  Calls tp 260 #[vp (sS ⟨b,0,nN⟩)] w (bL (vi iQ s.failE) [b] w λw'=>pj w' b s.fail):=by
 have hok:=aT.fail_ok h.2
 have h':=h
 obtain ⟨h,h1,h2⟩:=h
 have c0:w.cell? ⟨b,0,nN⟩=sS (vi iQ s.n):=ab h 0
 have c1:w.cell? ⟨b,1,nN⟩=sS (vi iQ s.d):=ab h 1
 have c2:w.cell? ⟨b,2,nN⟩=sS (vb s.back):=ab h 2
 have f1:w.frozen? ⟨b,1,nN⟩=fF:=ax h 1
 have f2:w.frozen? ⟨b,2,nN⟩=fF:=ax h 2
 cases hb:s.back
 ·cases ho:s.over
  ·have hE:s.failE=0:=by simp [aT.failE,ho,hb]
   have hD:s.fail={ s with back:=true }:=by simp [aT.fail,ho,hb]
   have HE:=zh hE;clear hE
   have HD:=zh hD;clear hD
   go_in
   go_wp2_with (go_at_call 259;refine (gz b s _ h').r λk=>?_)
   go_ret
   refine bL.of (by rw [HE.out];rfl) (af.setCell (af.drewN mR _) sM _) ⟨?_,hok⟩
   rw [ba (w:=w.drewN k) h 2,HD.out];simp
  ·have hE:s.failE=6:=by simp [aT.failE,ho,hb]
   have hD:s.fail=s:=by simp [aT.fail,ho,hb]
   have HE:=zh hE;clear hE
   have HD:=zh hD;clear hD
   go_in
   go_wp2_with (go_at_call 259;refine (gz b s _ h').r λk=>?_)
   go_ret
   refine bL.of (by rw [HE.out];rfl) (af.drewN mR _) ?_
   rw [HD.out];exact ⟨h,h1,h2⟩
 ·have hE:s.failE=6:=by simp [aT.failE,hb]
  have hD:s.fail=s:=by simp [aT.fail,hb]
  have HE:=zh hE;clear hE
  have HD:=zh hD;clear hD
  go_in
  go_wp2_with (go_at_call 259;refine (gz b s _ h').r λk=>?_)
  go_ret
  refine bL.of (by rw [HE.out];rfl) (af.drewN mR _) ?_
  rw [HD.out];exact ⟨h,h1,h2⟩
theorem Ih (n:Nat) (w:wW) (h1:1 <= n) (h2:n <= 64):
  Calls tp 243 #[vi iQ n] w (bL (.tuple #[vp (sS ⟨w.heap.size,0,nN⟩),vi iQ 0]) [] w λw'=>w.heap.size<w'.heap.size /\ pj w' w.heap.size ⟨n,0,fF⟩):=by
 go_in
 go_wp2
 go_ret2
 refine bL.of rfl (af.alloc mR _) ⟨by rw [cm];omega,ai _ _,?_,h2⟩
 simp
structure SH where
 run:Option aT
 up:Bool
 cpu:Int
 by_:Int
 told:Bool
 plan:List Int
structure SH.ok (s:SH):Prop where
 nd:s.plan.Nodup
 rg:∀ i,i∈s.plan -> 0 <= i /\ i<10
 r:∀ r,s.run=sS r -> r.ok
 none:s.run=nN -> s.up=fF /\ s.cpu=0 /\ s.by_=0
def SH.over (s:SH):Bool:=match s.run with|none=>fF|some r=>r.over
def SH.mayE (s:SH):Int:=match s.run with|none=>12|some r=>if r.over then 6 else 0
def planE (k:Int):Int:=if 0 <= k /\ k<10 then 0 else 3
def SH.doPlan (s:SH) (k:Int):SH:=if 0 <= k /\ k<10 /\ k∉s.plan then { s with plan:=s.plan++[k] } else s
def jr (c:Int):Prop:=0 <= c /\ c<64
instance instHot1 (c:Int):Decidable (jr c):=by unfold jr;infer_instance
def SH.beginE (s:SH) (cpu by_:Int):Int:=if s.run.isSome then 7 else if ¬ jr cpu \/ ¬ jr by_ then 3 else if cpu=by_ then 2 else 0
def SH.begin_ (s:SH) (up:Bool) (cpu by_:Int):SH:=if s.beginE cpu by_=0 then { s with run:=sS ⟨if up then 4 else 10,0,fF⟩,up:=up,cpu:=cpu,by_:=by_,told:=false } else s
def SH.failsNow (s:SH) (r:aT):Bool:=!r.back&&!s.told&&decide (r.k∈s.plan)
def SH.step (s:SH):Value:=match s.run with
 | none=>.agg #[vi iQ 0,vb fF,vb fF]
 | some r=>if r.over then .agg #[vi iQ 0,vb fF,vb fF] else .agg #[vi iQ r.k,vb r.back,vb (s.failsNow r)]
def SH.next (s:SH):SH:=match s.run with
 | none=>s
 | some r=>if r.over then s else if s.failsNow r then { s with run:=sS r.fail,told:=true,plan:=s.plan.erase r.k } else { s with told:=true }
def SH.done (s:SH):SH:=match s.run with
 | none=>s
 | some r=>if r.over then s else { s with run:=sS r.done,told:=false }
def SH.endE (s:SH):Int:=match s.run with|none=>12|some r=>if r.over then 0 else 6
def SH.endV (s:SH):Int:=match s.run with|none=>0|some r=>if r.over then r.why else 0
def SH.end_ (s:SH):SH:=match s.run with|none=>s|some r=>if r.over then { s with run:=nN,up:=false,cpu:=0,by_:=0,told:=s.told } else s
theorem SH.doPlan_ok {s:SH} (h:s.ok) (k:Int):(s.doPlan k).ok:=by
 unfold SH.doPlan
 split
 ·rename_i e
  refine ⟨?_,?_,h.r,h.none⟩
  ·refine List.nodup_append.2 ⟨h.nd,by simp,?_⟩
   intro a ha b hb
   simp only [List.mem_singleton] at hb
   subst hb
   exact λq=>e.2.2 (q ▸ ha)
  ·intro i hi
   simp only [List.mem_append,List.mem_singleton] at hi
   rcases hi with hi|rfl
   ·exact h.rg i hi
   ·exact ⟨e.1,e.2.1⟩
 ·exact h
theorem SH.begin_ok {s:SH} (h:s.ok) (up:Bool) (cpu by_:Int):(s.begin_ up cpu by_).ok:=by
 unfold SH.begin_
 split
 ·refine ⟨h.nd,h.rg,?_,by simp⟩
  intro r hr
  simp only [Option.some.injEq] at hr
  subst hr
  cases up<;>simp [aT.ok]
 ·exact h
theorem SH.next_ok {s:SH} (h:s.ok):s.next.ok:=by
 unfold SH.next
 split
 ·exact h
 ·rename_i r hr
  split
  ·exact h
  ·split
   ·refine ⟨h.nd.erase _,λi hi=>h.rg i (List.mem_of_mem_erase hi),?_,by simp⟩
    intro r' hr'
    simp only [Option.some.injEq] at hr'
    subst hr'
    exact aT.fail_ok (h.r r hr)
   ·exact ⟨h.nd,h.rg,h.r,h.none⟩
theorem SH.done_ok {s:SH} (h:s.ok):s.done.ok:=by
 unfold SH.done
 split
 ·exact h
 ·rename_i r hr
  split
  ·exact h
  ·refine ⟨h.nd,h.rg,?_,by simp⟩
   intro r' hr'
   simp only [Option.some.injEq] at hr'
   subst hr'
   exact aT.done_ok (h.r r hr)
theorem SH.end_ok {s:SH} (h:s.ok):s.end_.ok:=by
 unfold SH.end_
 split
 ·exact h
 ·split
  ·exact ⟨h.nd,h.rg,by simp,by simp⟩
  ·exact h
/-- The entries of what is planned. -/
def jb (l:List Int):List (Int × Value):=l.map λi=>(i,vb tQ)
theorem kg:∀ (l:List Int) (i:Int),bM (jb l) i 0=if i∈l then sS (l.idxOf i,vb tQ) else nN
 | [],i=>by simp [jb,bM]
 | a :: l,i=>by
  simp only [jb,List.map_cons]
  unfold bM
  by_cases e:i=a
  ·simp [e]
  ·simp only [e,if_false]
   rw [dL]
   have:=kg l i
   unfold jb at this
   rw [this]
   by_cases h:i∈l
   ·have e2:(a==i)=fF:=by simpa using Ne.symm e
    simp [h,e,List.idxOf_cons,e2]
   ·simp [h,e]
theorem DR (l:List Int) (i:Int):(gJ (jb l) i).getD (vb fF)=vb (decide (i∈l)):=by
 unfold gJ
 rw [kg]
 by_cases h:i∈l<;>simp [h]
theorem DQ (l:List Int) (i:Int):oe (jb l) i (vb tQ)=jb (if i∈l then l else l++[i]):=by
 unfold oe
 rw [kg]
 by_cases h:i∈l
 ·simp only [h,if_true]
  unfold jb
  apply List.ext_getElem?
  intro j
  rw [List.getElem?_set]
  split
  ·rename_i e
   subst e
   have hl:=List.idxOf_lt_length_iff.2 h
   simp [hl]
  ·rfl
 ·simp [h,jb]
theorem DS (l:List Int) (i:Int):pK (jb l) i=jb (l.erase i):=by
 unfold pK
 rw [kg]
 by_cases h:i∈l
 ·simp only [h,if_true]
  unfold jb
  rw [<- lq]
  congr 1
  exact (List.erase_eq_eraseIdx_of_idxOf rfl).symm
 ·simp only [h,if_false]
  rw [List.erase_of_not_mem h]
theorem pj.same {w w':wW} {b:Nat} {s:aT} (h:pj w b s) (e:w'.heap=w.heap):pj w' b s:=⟨by rw [e];exact h.1,h.2⟩
def gO (w:wW):Option (Nat × Nat) -> SH -> Prop
 | none,s=>s.run=nN
 | some (a,b),s=>∃ r,s.run=sS r /\ w.heap[a]?=sS (.cells #[vp (sS ⟨b,0,nN⟩),vb s.up,vi iQ s.cpu,vi iQ s.by_,vb s.told] 328 (0,0)) /\ pj w b r /\ a≠b
def kK (w:wW):Option Nat -> List Int -> Prop
 | none,l=>l=[]
 | some b,l=>bR .i64 w b (jb l)
def qF:Option (Nat × Nat) -> List Nat
 | none=>[]
 | some (a,b)=>[a,b]
def pF:Option Nat -> List Nat
 | none=>[]
 | some b=>[b]
def qP:Option (Nat × Nat) -> Option Addr
 | none=>nN
 | some (a,b)=>sS ⟨a,0,nN⟩
theorem gO.plan {w:wW} {q:Option (Nat × Nat)} {s:SH} (h:gO w q s) (l:List Int):gO w q { s with plan:=l }:=by rcases q with _|⟨a,b⟩<;>exact h
/-- A desk at block d. -/
structure cl (w:wW) (d:Nat) (q:Option (Nat × Nat)) (pm:Option Nat) (s:SH):Prop where
 hd:w.heap[d]?=sS (.cells #[vp (qP q),.map pm] 133 (0,0))
 hq:gO w q s
 hp:kK w pm s.plan
 nq:d∉qF q
 np:d∉pF pm
 nn:∀ k,k∈pF pm -> k∉qF q
 ok:s.ok
theorem gO.keep {S:List Nat} {w w':wW} {q:Option (Nat × Nat)} {s:SH} (h:gO w q s) (m:af S w w') (hS:∀ k,k∈qF q -> k∉S):gO w' q s:=by
 rcases q with _|⟨a,b⟩
 ·exact h
 ·obtain ⟨r,h1,h2,h3,h4⟩:=h
  exact ⟨r,h1,m.keep h2 (hS _ (by simp [qF])),h3.keep m (hS _ (by simp [qF])),h4⟩
theorem kK.keep {S:List Nat} {w w':wW} {pm:Option Nat} {l:List Int} (h:kK w pm l) (m:af S w w') (hS:∀ k,k∈pF pm -> k∉S):kK w' pm l:=by
 cases pm with
 | none=>exact h
 | some b=>exact bR.keep h m (hS _ (by simp [pF]))
theorem cl.keep {S:List Nat} {w w':wW} {d:Nat} {q:Option (Nat × Nat)} {pm:Option Nat} {s:SH} (h:cl w d q pm s) (m:af S w w') (hS:∀ k,k∈d :: (qF q++pF pm) -> k∉S):cl w' d q pm s:=
 ⟨m.keep h.hd (hS _ sM),h.hq.keep m (λk hk=>hS _ (by simp [hk])),h.hp.keep m (λk hk=>hS _ (by simp [hk])),h.nq,h.np,h.nn,h.ok⟩
theorem cl.same {w w':wW} {d:Nat} {q:Option (Nat × Nat)} {pm:Option Nat} {s:SH} (h:cl w d q pm s) (e:w'.heap=w.heap):cl w' d q pm s:=by
 refine ⟨by rw [e];exact h.hd,?_,?_,h.nq,h.np,h.nn,h.ok⟩
 ·rcases q with _|⟨a,b⟩
  ·exact h.hq
  ·obtain ⟨r,h1,h2,h3,h4⟩:=h.hq
   exact ⟨r,h1,by rw [e];exact h2,⟨by rw [e];exact h3.1,h3.2⟩,h4⟩
 ·cases pm with
  | none=>exact h.hp
  | some b=>exact bR.same h.hp e
theorem cl.lt {w:wW} {d:Nat} {q:Option (Nat × Nat)} {pm:Option Nat} {s:SH} (h:cl w d q pm s):∀ k,k∈d :: (qF q++pF pm) -> k<w.heap.size:=by
 intro k hk
 simp only [List.mem_cons,List.mem_append] at hk
 rcases hk with rfl|hk|hk
 ·exact bY h.hd
 ·rcases q with _|⟨a,b⟩
  ·simp [qF] at hk
  ·obtain ⟨r,h1,h2,h3,h4⟩:=h.hq
   simp [qF] at hk
   rcases hk with rfl|rfl
   ·exact bY h2
   ·exact bY h3.1
 ·cases pm with
  | none=>simp [pF] at hk
  | some b=>simp [pF] at hk;subst hk;exact bR.lt h.hp
/-- A call that turned a desk: what it returned, and that the desk has no one else's blocks. -/
def ny (d:Nat) (q:Option (Nat × Nat)) (pm:Option Nat) (v:Value) (s':SH) (w:wW) (e:Ending) (w':wW):Prop:=
 ∃ q' pm',e=.returned v /\ af (d :: (qF q++pF pm)) w w' /\ cl w' d q' pm' s' /\ ∀ k,k∈qF q'++pF pm' -> k∈qF q++pF pm \/ w.heap.size <= k
theorem lC (d:Nat) (q:Option (Nat × Nat)) (pm:Option Nat) (s:SH) (w:wW) (h:cl w d q pm s):Calls tp 26 #[vp (sS ⟨d,0,nN⟩)] w (au (vb s.run.isSome) w):=by
 obtain ⟨hd,hq,hp,nq,np,nn,ok⟩:=h
 have c0:w.cell? ⟨d,0,nN⟩=sS (vp (qP q)):=ab hd 0
 have c1:w.cell? ⟨d,1,nN⟩=sS (.map pm):=ab hd 1
 have f0:w.frozen? ⟨d,0,nN⟩=fF:=ax hd 0
 have f1:w.frozen? ⟨d,1,nN⟩=fF:=ax hd 1
 rcases q with _|⟨qa,qb⟩
 ·simp only [qP] at c0
  simp only [gO] at hq
  go_in
  go_wp2
  go_ret
  exact au.of (by simp [hq]) dz
 ·obtain ⟨r,hr,ha,hx,hab⟩:=hq
  have a0:w.cell? ⟨qa,0,nN⟩=sS (vp (sS ⟨qb,0,nN⟩)):=ab ha 0
  have a1:w.cell? ⟨qa,1,nN⟩=sS (vb s.up):=ab ha 1
  have a2:w.cell? ⟨qa,2,nN⟩=sS (vi iQ s.cpu):=ab ha 2
  have a3:w.cell? ⟨qa,3,nN⟩=sS (vi iQ s.by_):=ab ha 3
  have a4:w.cell? ⟨qa,4,nN⟩=sS (vb s.told):=ab ha 4
  have g4:w.frozen? ⟨qa,4,nN⟩=fF:=ax ha 4
  simp only [qP] at c0
  go_in
  go_wp2
  go_ret
  exact au.of (by simp [hr]) dz
theorem Ku (d:Nat) (q:Option (Nat × Nat)) (pm:Option Nat) (s:SH) (w:wW) (h:cl w d q pm s):Calls tp 261 #[vp (sS ⟨d,0,nN⟩)] w (au (vb s.up) w):=by
 have hB:=lC d q pm s w h
 obtain ⟨hd,hq,hp,nq,np,nn,ok⟩:=h
 have c0:w.cell? ⟨d,0,nN⟩=sS (vp (qP q)):=ab hd 0
 have c1:w.cell? ⟨d,1,nN⟩=sS (.map pm):=ab hd 1
 have f0:w.frozen? ⟨d,0,nN⟩=fF:=ax hd 0
 have f1:w.frozen? ⟨d,1,nN⟩=fF:=ax hd 1
 rcases q with _|⟨qa,qb⟩
 ·simp only [qP] at c0
  simp only [gO] at hq
  obtain ⟨z1,z2,z3⟩:=ok.none hq
  rw [hq] at hB
  simp only [Option.isSome] at hB
  have Z1:=zh z1
  have Z2:=zh z2
  have Z3:=zh z3
  clear z1 z2 z3
  go_in
  go_wp2_with (go_at_call 26;refine hB.r λk=>?_)
  go_ret
  exact au.of (by simp [Z1.out,Z2.out,Z3.out]) dz
 ·obtain ⟨r,hr,ha,hx,hab⟩:=hq
  have a0:w.cell? ⟨qa,0,nN⟩=sS (vp (sS ⟨qb,0,nN⟩)):=ab ha 0
  have a1:w.cell? ⟨qa,1,nN⟩=sS (vb s.up):=ab ha 1
  have a2:w.cell? ⟨qa,2,nN⟩=sS (vi iQ s.cpu):=ab ha 2
  have a3:w.cell? ⟨qa,3,nN⟩=sS (vi iQ s.by_):=ab ha 3
  have a4:w.cell? ⟨qa,4,nN⟩=sS (vb s.told):=ab ha 4
  have g4:w.frozen? ⟨qa,4,nN⟩=fF:=ax ha 4
  simp only [qP] at c0
  rw [hr] at hB
  simp only [Option.isSome] at hB
  go_in
  go_wp2_with (go_at_call 26;refine hB.r λk=>?_)
  go_ret
  exact au.of (rfl) dz
theorem Jt (d:Nat) (q:Option (Nat × Nat)) (pm:Option Nat) (s:SH) (w:wW) (h:cl w d q pm s):Calls tp 184 #[vp (sS ⟨d,0,nN⟩)] w (au (vi iQ s.cpu) w):=by
 have hB:=lC d q pm s w h
 obtain ⟨hd,hq,hp,nq,np,nn,ok⟩:=h
 have c0:w.cell? ⟨d,0,nN⟩=sS (vp (qP q)):=ab hd 0
 have c1:w.cell? ⟨d,1,nN⟩=sS (.map pm):=ab hd 1
 have f0:w.frozen? ⟨d,0,nN⟩=fF:=ax hd 0
 have f1:w.frozen? ⟨d,1,nN⟩=fF:=ax hd 1
 rcases q with _|⟨qa,qb⟩
 ·simp only [qP] at c0
  simp only [gO] at hq
  obtain ⟨z1,z2,z3⟩:=ok.none hq
  rw [hq] at hB
  simp only [Option.isSome] at hB
  have Z1:=zh z1
  have Z2:=zh z2
  have Z3:=zh z3
  clear z1 z2 z3
  go_in
  go_wp2_with (go_at_call 26;refine hB.r λk=>?_)
  go_ret
  exact au.of (by simp [Z1.out,Z2.out,Z3.out]) dz
 ·obtain ⟨r,hr,ha,hx,hab⟩:=hq
  have a0:w.cell? ⟨qa,0,nN⟩=sS (vp (sS ⟨qb,0,nN⟩)):=ab ha 0
  have a1:w.cell? ⟨qa,1,nN⟩=sS (vb s.up):=ab ha 1
  have a2:w.cell? ⟨qa,2,nN⟩=sS (vi iQ s.cpu):=ab ha 2
  have a3:w.cell? ⟨qa,3,nN⟩=sS (vi iQ s.by_):=ab ha 3
  have a4:w.cell? ⟨qa,4,nN⟩=sS (vb s.told):=ab ha 4
  have g4:w.frozen? ⟨qa,4,nN⟩=fF:=ax ha 4
  simp only [qP] at c0
  rw [hr] at hB
  simp only [Option.isSome] at hB
  go_in
  go_wp2_with (go_at_call 26;refine hB.r λk=>?_)
  go_ret
  exact au.of (rfl) dz
theorem Kv (d:Nat) (q:Option (Nat × Nat)) (pm:Option Nat) (s:SH) (w:wW) (h:cl w d q pm s):Calls tp 180 #[vp (sS ⟨d,0,nN⟩)] w (au (vi iQ s.by_) w):=by
 have hB:=lC d q pm s w h
 obtain ⟨hd,hq,hp,nq,np,nn,ok⟩:=h
 have c0:w.cell? ⟨d,0,nN⟩=sS (vp (qP q)):=ab hd 0
 have c1:w.cell? ⟨d,1,nN⟩=sS (.map pm):=ab hd 1
 have f0:w.frozen? ⟨d,0,nN⟩=fF:=ax hd 0
 have f1:w.frozen? ⟨d,1,nN⟩=fF:=ax hd 1
 rcases q with _|⟨qa,qb⟩
 ·simp only [qP] at c0
  simp only [gO] at hq
  obtain ⟨z1,z2,z3⟩:=ok.none hq
  rw [hq] at hB
  simp only [Option.isSome] at hB
  have Z1:=zh z1
  have Z2:=zh z2
  have Z3:=zh z3
  clear z1 z2 z3
  go_in
  go_wp2_with (go_at_call 26;refine hB.r λk=>?_)
  go_ret
  exact au.of (by simp [Z1.out,Z2.out,Z3.out]) dz
 ·obtain ⟨r,hr,ha,hx,hab⟩:=hq
  have a0:w.cell? ⟨qa,0,nN⟩=sS (vp (sS ⟨qb,0,nN⟩)):=ab ha 0
  have a1:w.cell? ⟨qa,1,nN⟩=sS (vb s.up):=ab ha 1
  have a2:w.cell? ⟨qa,2,nN⟩=sS (vi iQ s.cpu):=ab ha 2
  have a3:w.cell? ⟨qa,3,nN⟩=sS (vi iQ s.by_):=ab ha 3
  have a4:w.cell? ⟨qa,4,nN⟩=sS (vb s.told):=ab ha 4
  have g4:w.frozen? ⟨qa,4,nN⟩=fF:=ax ha 4
  simp only [qP] at c0
  rw [hr] at hB
  simp only [Option.isSome] at hB
  go_in
  go_wp2_with (go_at_call 26;refine hB.r λk=>?_)
  go_ret
  exact au.of (rfl) dz
theorem uh (d:Nat) (q:Option (Nat × Nat)) (pm:Option Nat) (s:SH) (w:wW) (h:cl w d q pm s):Calls tp 188 #[vp (sS ⟨d,0,nN⟩)] w (au (vb s.over) w):=by
 have hB:=lC d q pm s w h
 obtain ⟨hd,hq,hp,nq,np,nn,ok⟩:=h
 have c0:w.cell? ⟨d,0,nN⟩=sS (vp (qP q)):=ab hd 0
 have c1:w.cell? ⟨d,1,nN⟩=sS (.map pm):=ab hd 1
 have f0:w.frozen? ⟨d,0,nN⟩=fF:=ax hd 0
 have f1:w.frozen? ⟨d,1,nN⟩=fF:=ax hd 1
 rcases q with _|⟨qa,qb⟩
 ·simp only [qP] at c0
  simp only [gO] at hq
  have hO:s.over=fF:=by simp [SH.over,hq]
  rw [hq] at hB
  rw [hO]
  simp only [Option.isSome] at hB
  clear hq hO
  go_in
  go_wp2_with (go_at_call 26;refine hB.r λk=>?_)
  go_ret
  exact au.of (rfl) dz
 ·obtain ⟨r,hr,ha,hx,hab⟩:=hq
  have a0:w.cell? ⟨qa,0,nN⟩=sS (vp (sS ⟨qb,0,nN⟩)):=ab ha 0
  have a1:w.cell? ⟨qa,1,nN⟩=sS (vb s.up):=ab ha 1
  have a2:w.cell? ⟨qa,2,nN⟩=sS (vi iQ s.cpu):=ab ha 2
  have a3:w.cell? ⟨qa,3,nN⟩=sS (vi iQ s.by_):=ab ha 3
  have a4:w.cell? ⟨qa,4,nN⟩=sS (vb s.told):=ab ha 4
  have g4:w.frozen? ⟨qa,4,nN⟩=fF:=ax ha 4
  simp only [qP] at c0
  have hO:s.over=r.over:=by simp [SH.over,hr]
  rw [hr] at hB
  rw [hO]
  simp only [Option.isSome] at hB
  clear hr hO
  go_in
  go_wp2_with (first|(go_at_call 26;refine hB.r λk=>?_)|(go_at_call 259;refine (gz qb r _ (by exact hx.same rfl)).r λk2=>?_))
  go_ret
  exact au.of (rfl) dz
theorem kE (d:Nat) (q:Option (Nat × Nat)) (pm:Option Nat) (s:SH) (w:wW) (h:cl w d q pm s):Calls tp 258 #[vp (sS ⟨d,0,nN⟩)] w (au (vi iQ s.mayE) w):=by
 have hB:=uh d q pm s w h
 obtain ⟨hd,hq,hp,nq,np,nn,ok⟩:=h
 have c0:w.cell? ⟨d,0,nN⟩=sS (vp (qP q)):=ab hd 0
 have c1:w.cell? ⟨d,1,nN⟩=sS (.map pm):=ab hd 1
 have f0:w.frozen? ⟨d,0,nN⟩=fF:=ax hd 0
 have f1:w.frozen? ⟨d,1,nN⟩=fF:=ax hd 1
 rcases q with _|⟨qa,qb⟩
 ·simp only [qP] at c0
  simp only [gO] at hq
  have hO:s.mayE=12:=by simp [SH.mayE,hq]
  rw [hO]
  clear hq hO
  go_in
  go_wp2
  go_ret
  exact au.of (rfl) dz
 ·obtain ⟨r,hr,ha,hx,hab⟩:=hq
  have a0:w.cell? ⟨qa,0,nN⟩=sS (vp (sS ⟨qb,0,nN⟩)):=ab ha 0
  have a1:w.cell? ⟨qa,1,nN⟩=sS (vb s.up):=ab ha 1
  have a2:w.cell? ⟨qa,2,nN⟩=sS (vi iQ s.cpu):=ab ha 2
  have a3:w.cell? ⟨qa,3,nN⟩=sS (vi iQ s.by_):=ab ha 3
  have a4:w.cell? ⟨qa,4,nN⟩=sS (vb s.told):=ab ha 4
  have g4:w.frozen? ⟨qa,4,nN⟩=fF:=ax ha 4
  simp only [qP] at c0
  have hO:s.over=r.over:=by simp [SH.over,hr]
  have hM:s.mayE=if r.over then 6 else 0:=by simp [SH.mayE,hr]
  rw [hO] at hB
  rw [hM]
  clear hr hO hM
  cases ho:r.over
  all_goals
   rw [ho] at hB
   go_in
   go_wp2_with (go_at_call 188;refine hB.r λk=>?_)
   go_ret
   exact au.of (rfl) dz
theorem lB (c:Int) (w:wW):Calls tp 242 #[vi iQ c] w (au (vb (decide (jr c))) w):=by
 by_cases h0:0 <= c
 ·by_cases h1:c<64
  ·go_in
   go_wp2
   go_ret
   exact au.of (by simp [jr,h0,h1]) dz
  ·go_in
   go_wp2
   go_ret
   exact au.of (by simp [jr,h0,h1]) dz
 ·have hD:decide (jr c)=fF:=decide_eq_false (λx=>h0 x.1)
  rw [hD]
  clear hD
  go_in
  go_wp2
  go_ret
  exact au.of (rfl) dz
theorem EX (b:Nat) (w:wW):(binOp .eql 131 (.map (sS b)) (.map nN)).run tp w=.ok (vb fF) w:=by kernel_rfl
theorem Hm (w:wW):(binOp .eql 131 (.map nN) (.map nN)).run tp w=.ok (vb tQ) w:=by kernel_rfl
theorem GV (d:Nat) (q:Option (Nat × Nat)) (pm:Option Nat) (s:SH) (k:Int) (w:wW) (h:cl w d q pm s):Calls tp 246 #[vp (sS ⟨d,0,nN⟩),vi iQ k] w (ny d q pm (vi iQ (planE k)) (s.doPlan k) w):=by
 have hok:=SH.doPlan_ok h.ok k
 have h':=h
 obtain ⟨hd,hq,hp,nq,np,nn,ok⟩:=h
 have c0:w.cell? ⟨d,0,nN⟩=sS (vp (qP q)):=ab hd 0
 have c1:w.cell? ⟨d,1,nN⟩=sS (.map pm):=ab hd 1
 have f0:w.frozen? ⟨d,0,nN⟩=fF:=ax hd 0
 have f1:w.frozen? ⟨d,1,nN⟩=fF:=ax hd 1
 by_cases hk:0 <= k /\ k<10
 ·obtain ⟨hk1,hk2⟩:=hk
  have hE:planE k=0:=pG ⟨hk1,hk2⟩
  rw [hE]
  clear hE
  cases pm with
  | none=>
   simp only [kK] at hp
   have hD:s.doPlan k={ s with plan:=[k] }:=by simp [SH.doPlan,hk1,hk2,hp]
   rw [hD] at hok ⊢
   clear hD
   have hl:=h'.lt
   have hsz:(w.setCell ⟨d,1,nN⟩ (.map (sS w.heap.size))).heap.size=w.heap.size:=lL _ _ _
   have m0:=((af.refl [d] w).setCell (p:=⟨d,1,nN⟩) sM (.map (sS w.heap.size))).alloc (.map #[] 0)
   obtain ⟨w1,hrun,m1,x1⟩:=iI (m:=[]) (b:=w.heap.size) (w:=(w.setCell ⟨d,1,nN⟩ (.map (sS w.heap.size))).alloc (.map #[] 0)) (by
    have:=bR.new .i64 (w.setCell ⟨d,1,nN⟩ (.map (sS w.heap.size)))
    rw [hsz] at this
    exact this) Tryz.underlying131 Tryz.underlying3 k (vb tQ)
   clear hsz
   have hq':cl w1 d q (sS w.heap.size) { s with plan:=[k] }:=by
    have:=hl d sM
    refine ⟨?_,?_,x1,nq,by simp [pF];omega,?_,hok⟩
    ·refine m1.keep ?_ (by simp;omega)
     refine cS ?_
     rw [ba hd];simp
    ·refine ((hq.keep m0 ?_).keep m1 ?_).plan _
     ·intro k hk;simp;rintro rfl;exact nq hk
     ·intro k hk;have:=hl k (by simp [hk]);simp;omega
    ·intro k hk hk2
     simp [pF] at hk
     have:=hl k (by simp [hk2]);omega
   have m2:=m0.trans m1 sM
   clear x1 m0 m1
   have hE1:=Hm
   have hmk:=λw=>run_makeMap (P:=tp) 131 w
   go_in
   go_wp2
   go_ret
   refine ⟨q,sS w.heap.size,rfl,m2.mono sM,hq',?_⟩
   intro k hk
   simp [pF] at hk ⊢
   rcases hk with hk|rfl
   ·exact .inl hk
   ·exact .inr (Nat.le_refl _)
  | some b=>
   simp only [kK] at hp
   obtain ⟨w1,hrun,m1,x1⟩:=iI hp Tryz.underlying131 Tryz.underlying3 k (vb tQ)
   rw [DQ] at x1
   have hD:s.doPlan k={ s with plan:=if k∈s.plan then s.plan else s.plan++[k] }:=by
    unfold SH.doPlan
    by_cases e:k∈s.plan
    ·simp [hk1,hk2,e]
    ·simp [hk1,hk2,e]
   rw [hD] at hok ⊢
   clear hD
   have hbd:b≠d:=λe=>np (by simp [pF,e])
   have hq':cl w1 d q (sS b) { s with plan:=if k∈s.plan then s.plan else s.plan++[k] }:=by
    refine ⟨m1.keep hd (by simp;exact Ne.symm hbd),(hq.keep m1 ?_).plan _,x1,nq,np,nn,hok⟩
    intro k hk
    simp only [List.mem_singleton]
    rintro rfl
    exact nn _ (by simp [pF]) hk
   clear x1 hp
   generalize (if k∈s.plan then s.plan else s.plan++[k])=l at *
   have hE1:=EX b
   go_in
   go_wp2
   go_ret
   exact ⟨q,sS b,rfl,m1.mono (by simp [pF]),hq',λk hk=>.inl hk⟩
 ·have hE:planE k=3:=nG hk
  have hD:s.doPlan k=s:=by
   unfold SH.doPlan
   rw [nG (λx=>hk ⟨x.1,x.2.1⟩)]
  rw [hE,hD]
  clear hE hD
  have hne:k<0 \/ (0 <= k /\ 10 <= k):=by omega
  rcases hne with h1|⟨h1,h2⟩
  all_goals
   go_in
   go_wp2
   go_ret
   exact ⟨q,pm,rfl,af.refl _ _,h',λk hk=>.inl hk⟩
def ic (r m f n:Nat):Obj:=.cells #[.slice (sS ⟨r,0,nN⟩) m m,vi iQ (f:Nat),vi iQ (n:Nat)] 281 (0,0)
def cq (R:List Int):Obj:=.cells (eZ .i64 R) 3 (0,0)
/-- The numbers are such as ints can be. -/
def Ln (m:Nat) (l:List Int):Prop:=1 <= m /\ m <= 1024
def qR (b r m f:Nat) (R:List Int) (l:List Int):List ak:=[ak.blk b (ic r m f l.length),ak.blk r (cq R)]
def aQ (b m:Nat) (l:List Int):ak:=ak.ex λx:Nat × Nat × List Int=>ak.such (Ln m l /\ mi x.2.2 m x.2.1 l) (ak.star (qR b x.1 m x.2.1 x.2.2 l))
def cd (l:List Int):Int:=ar l 0
def dN (l:List Int):Int:=if l=[] then 12 else 0
section
variable {F:List Nat} {w u:wW} {b r m f:Nat} {R l:List Int}
theorem gl (h:(aQ b m l).holds F w):∃ r f R,Ln m l /\ mi R m f l /\ On F w (qR b r m f R l) w:=by
 obtain ⟨⟨r,f,R⟩,⟨h1,h2⟩,h3⟩:=h
 exact ⟨r,f,R,h1,h2,On.of h3⟩
theorem On.fifo (h:On F w (qR b r m f R l) u) (hq:Ln m l) (hr:mi R m f l):dt (aQ b m l) F w u:=h.gains.imp λF' h'=>⟨⟨r,f,R⟩,⟨hq,hr⟩,h'⟩
theorem uv (m:Nat) (h1:1 <= m) (h2:m <= 1024) (w:wW):Calls tp 102 #[vi iQ m] w (cN (λd:Nat=>.tuple #[vp (sS ⟨d,0,nN⟩),vi iQ 0]) (λd=>aQ d m []) [] w):=by
 have hmk:=λw=>Go.run_make_row' (P:=tp) 30 3 (vi iQ 0) 8 Tryz.underlying30 kz rfl .i64 .i64 m oM oM w
 have hlen:(w.alloc (.cells (madeCells #[vi iQ 0] m) 3)).heap.size=w.heap.size+1:=cm _ _
 go_in
 go_wp2
 go_ret2
 refine ⟨w.heap.size+1,by simp,?_⟩
 have x1:=(On.start w).alloc (cq (List.replicate m 0))
 have x2:=(x1.alloc (ic w.heap.size m 0 0)).front
 have e:(w.alloc (cq (List.replicate m 0))).heap.size=w.heap.size+1:=cm _ _
 rw [e] at x2
 rw [pA]
 exact On.fifo (R:=List.replicate m 0) (f:=0) x2 ⟨h1,h2⟩ ⟨by simp,by omega,by simp,λi hi=>by simp at hi⟩
theorem Hj (h:(aQ b m l).holds F w):Calls tp 347 #[vp (sS ⟨b,0,nN⟩)] w (au (vi iQ l.length) w):=by
 obtain ⟨r,f,R,hq,hr,hA⟩:=gl h
 have c2:w.cell? ⟨b,2,nN⟩=sS (vi iQ (l.length:Nat)):=hA.cell 0 rfl 2
 generalize l.length=n at *
 go_in
 go_wp2
 go_ret
 exact au.of (rfl) dz
theorem CM (hq:Ln m l) (hr:mi R m f l) (hA:On F w (qR b r m f R l) u) (i:Nat) (hi:i <= m):Calls tp 233 #[vp (sS ⟨b,0,nN⟩),vi iQ i] u (au (vi iQ ((f+i) % m:Nat)) u):=by
 have c0:u.cell? ⟨b,0,nN⟩=sS (.slice (sS ⟨r,0,nN⟩) m m):=hA.cell 0 rfl 0
 have c1:u.cell? ⟨b,1,nN⟩=sS (vi iQ (f:Nat)):=hA.cell 0 rfl 1
 have hf:=hr.first
 obtain ⟨h1,h2⟩:=hq
 clear hA hr
 have hm0:(m:Int)≠0:=by omega
 have hm1:(0:Int)<m:=by omega
 go_in
 go_wp2
 go_quiet (fail)
 go_wp2
 go_ret
 refine ⟨?_,by repeat (first|exact aA.refl _|apply aA.drewN|apply aA.drew)⟩
 show Ending.returned (vi iQ (((f:Int)+i) % m))=_
 simp
theorem nt (h:(aQ b m l).holds F w):Calls tp 272 #[vp (sS ⟨b,0,nN⟩)] w (au (.tuple #[vi iQ (cd l),vi iQ (dN l)]) w):=by
 obtain ⟨r,f,R,hq,hr,hA⟩:=gl h
 have c0:w.cell? ⟨b,0,nN⟩=sS (.slice (sS ⟨r,0,nN⟩) m m):=hA.cell 0 rfl 0
 have c1:w.cell? ⟨b,1,nN⟩=sS (vi iQ (f:Nat)):=hA.cell 0 rfl 1
 have c2:w.cell? ⟨b,2,nN⟩=sS (vi iQ (l.length:Nat)):=hA.cell 0 rfl 2
 have hf:=hr.first
 obtain ⟨h1,h2⟩:=hq
 by_cases hl:l=[]
 ·subst hl
  clear hA
  rw [show dN []=12 from rfl,show cd []=0 from rfl]
  simp only [List.length_nil] at c2
  go_in
  go_wp2
  go_ret2
  exact au.of (rfl) dz
 ·have hlen:0<l.length:=List.length_pos_iff.2 hl
  have d0:w.cell? ⟨r,f,nN⟩=sS (vi iQ (ar R f)):=by
   rw [hA.cell 1 rfl f];exact bZ (by rw [hr.len];exact hf)
  rw [hr.front hl] at d0
  rw [show dN l=0 from nG hl]
  unfold cd
  have hne:((l.length:Int)==0)=fF:=by simp;omega
  generalize ar l 0=x at *
  generalize l.length=n at *
  clear hA hr
  go_in
  go_wp2
  go_quiet (fail)
  go_wp2
  go_ret2
  exact au.of (rfl) dz
end
theorem oY (w:wW) (g o dl dc r f sl sc n:Nat) (D R:List Int) (hg:w.heap[g]?=sS (cq D)) (hr:w.heap[r]?=sS (cq R)) (hn:n=Nat.min sl dl) (hf:f+n <= R.length) (ho:o+n <= D.length):
  (Builtin.copy_ #[30,30] 3 #[.slice (sS ⟨g,o,nN⟩) dl dc,.slice (sS ⟨r,f,nN⟩) sl sc]).run tp w=.ok (vi iQ n) (w.setRow g (eZ .i64 (D.take o++(R.drop f).take n++D.drop (o+n)))):=by
 have hlen:(((R.drop f).take n).map (vi iQ)).length=n:=by simp;omega
 have h:=run_copy_row (P:=tp) w 30 30 3 3 g o dl dc ⟨r,f,nN⟩ sl sc (eZ .i64 D) 3 (((R.drop f).take n).map (vi iQ))
  Tryz.underlying30 kz hg (by rw [hlen];exact hn) ?_ (by rw [hlen,DA];exact ho) ?_
 ·rw [h,hlen]
  have e:((eZ .i64 D).toList.take o++((R.drop f).take n).map (vi iQ)++(eZ .i64 D).toList.drop (o+n)).toArray=eZ .i64 (D.take o++(R.drop f).take n++D.drop (o+n)):=by
   simp [eZ,List.map_take,List.map_drop]
  rw [e]
  simp [goInt]
 ·intro j v hj
  have hlt:j<n:=by have:=(List.getElem?_eq_some_iff.1 hj).1;omega
  have:=ab hr (f+j)
  rw [bZ oM] at this
  rw [List.getElem?_map,List.getElem?_take,pG hlt,List.getElem?_drop] at hj
  have e:R[f+j]?=sS (ar R (f+j)):=by
   simp [ar,List.getD,List.getElem?_eq_getElem (show f+j<R.length by omega)]
  rw [e] at hj
  simp at hj
  subst hj
  unfold Addr.add
  split
  ·rename_i e;subst e;simpa using this
  ·simpa using this
 ·intro v hv;obtain ⟨x,_,rfl⟩:=List.mem_map.1 hv;rfl
section
variable {F:List Nat} {w u:wW} {b r m f:Nat} {R l:List Int}
theorem jL (h:(aQ b m l).holds F w):Calls tp 172 #[vp (sS ⟨b,0,nN⟩)] w (λe w'=>∃ a c,e=.returned (.slice a l.length c) /\ af [] w w' /\ (l=[] /\ a=nN /\ c=0 \/ c=l.length /\ a=sS ⟨w.heap.size,0,nN⟩ /\ w'.heap[w.heap.size]?=sS (cq l))):=by
 obtain ⟨r,f,R,hq,hr,hA⟩:=gl h
 have c0:w.cell? ⟨b,0,nN⟩=sS (.slice (sS ⟨r,0,nN⟩) m m):=hA.cell 0 rfl 0
 have c1:w.cell? ⟨b,1,nN⟩=sS (vi iQ (f:Nat)):=hA.cell 0 rfl 1
 have c2:w.cell? ⟨b,2,nN⟩=sS (vi iQ (l.length:Nat)):=hA.cell 0 rfl 2
 have hf:=hr.first
 have hfit:=hr.fits
 obtain ⟨h1,h2⟩:=hq
 by_cases hl:l=[]
 ·subst hl
  clear hA
  simp only [List.length_nil] at c2
  go_in
  go_wp2
  go_ret
  exact ⟨nN,0,rfl,by first|exact mR|exact mR.drewN _,.inl sM⟩
 ·have hlen:0<l.length:=List.length_pos_iff.2 hl
  have hne:((l.length:Int)==0)=fF:=by simp;omega
  have hmk:=λw=>Go.run_make_row' (P:=tp) 30 3 (vi iQ 0) 8 Tryz.underlying30 kz rfl .i64 .i64 l.length oM oM w
  have q0:=ay (.cells (madeCells #[vi iQ 0] l.length) 3 (0,0)) c0
  have q1:=ay (.cells (madeCells #[vi iQ 0] l.length) 3 (0,0)) c1
  have htwo:=hr.two
  have hR:=hr.len
  have hrr:w.heap[r]?=sS (cq R):=hA.held 1 rfl
  obtain ⟨n,hn⟩:∃ n,l.length=n:=⟨_,rfl⟩
  rw [hn] at c2 hfit hlen hne hmk q0 q1 htwo ⊢
  have hmf:¬ m=f:=by omega
  have hfm:(f:Int) <= m:=by omega
  have m0:af [] w (w.alloc (.cells (madeCells #[vi iQ 0] n) 3 (0,0))).drew:=((af.refl [] w).alloc _).drew
  have g0:(w.alloc (.cells (madeCells #[vi iQ 0] n) 3 (0,0))).drew.heap[w.heap.size]?=sS (cq (List.replicate n 0)):=by
   show (w.alloc _).heap[w.heap.size]?=_
   rw [ai,pA];rfl
  have k0:=m0.keep hrr sM
  clear hA
  replace hrr:=zh hrr
  by_cases hs:n <= m - f
  ·have hC:=oY _ w.heap.size 0 n n r f (m - f) (m - f) n (List.replicate n 0) R g0 k0 (Nat.min_eq_right hs).symm oM sM
   have e1:List.take 0 (List.replicate n 0)++List.take n (List.drop f R)++List.drop (0+n) (List.replicate n 0)=l:=by
    rw [htwo,show n - (m - f)=0 by omega];simp
   rw [e1] at hC
   have m1:=m0.setRow (g:=w.heap.size) (.inr (Nat.le_refl _)) (eZ .i64 l)
   have g1:(((w.alloc (.cells (madeCells #[vi iQ 0] n) 3 (0,0))).drew).setRow w.heap.size (eZ .i64 l)).heap[w.heap.size]?=sS (cq l):=setRow_heap _ _ _ _ _ _ (by rw [g0];rfl)
   have p0:=m1.at c0 sM
   have p1:=m1.at c1 sM
   have hC2:=oY (((w.alloc (.cells (madeCells #[vi iQ 0] n) 3 (0,0))).drew).setRow w.heap.size (eZ .i64 l)).drew w.heap.size 0 0 0 r 0 m m 0 l R g1 (m1.keep hrr.out (by have:=bY hrr.out;simp)) sM oM oM
   have e2:List.take 0 l++List.take 0 (List.drop 0 R)++List.drop (0+0) l=l:=by simp
   rw [e2] at hC2
   have M2:=zh ((m1.drew).setRow (g:=w.heap.size) (.inr (Nat.le_refl _)) (eZ .i64 l))
   have g2:=zh (setRow_heap _ _ _ (eZ .i64 l) _ _ (show (((w.alloc (.cells (madeCells #[vi iQ 0] n) 3 (0,0))).drew).setRow w.heap.size (eZ .i64 l)).drew.heap[w.heap.size]?=_ from g1))
   replace htwo:=zh htwo
   replace hn:=zh hn
   clear g0 k0 m0 m1 e1 e2 g1
   go_in
   go_wp2
   go_region
   go_wp2
   go_region
   go_wp2
   go_ret
   exact ⟨sS ⟨w.heap.size,0,nN⟩,n,rfl,M2.out,.inr ⟨rfl,rfl,g2.out⟩⟩
  ·obtain ⟨n1,hn1⟩:∃ n1,m - f=n1:=⟨_,rfl⟩
   have hRl:(List.drop f R).length=n1:=by rw [List.length_drop];omega
   have hC:=oY _ w.heap.size 0 n n r f n1 n1 n1 (List.replicate n 0) R g0 k0 (Nat.min_eq_left oM).symm oM (by simp;omega)
   obtain ⟨D,hD⟩:∃ D,D=List.take 0 (List.replicate n 0)++List.take n1 (List.drop f R)++List.drop (0+n1) (List.replicate n (0:Int)):=⟨_,rfl⟩
   rw [<- hD] at hC
   have hDl:D.length=n:=by rw [hD];simp;omega
   have hT1:List.take n1 (List.drop f R)=List.drop f R:=List.take_of_length_le oM
   have hDt:D.take n1=List.drop f R:=by rw [hD,hT1,List.take_zero,List.nil_append,List.take_append_of_le_length oM];exact List.take_of_length_le oM
   have m1:=m0.setRow (g:=w.heap.size) (.inr (Nat.le_refl _)) (eZ .i64 D)
   have g1:(((w.alloc (.cells (madeCells #[vi iQ 0] n) 3 (0,0))).drew).setRow w.heap.size (eZ .i64 D)).heap[w.heap.size]?=sS (cq D):=setRow_heap _ _ _ _ _ _ (by rw [g0];rfl)
   have p0:=m1.at c0 sM
   have hC2:=oY (((w.alloc (.cells (madeCells #[vi iQ 0] n) 3 (0,0))).drew).setRow w.heap.size (eZ .i64 D)).drew w.heap.size n1 (n - n1) (n - n1) r 0 m m (n - n1) D R g1 (m1.keep hrr.out (by have:=bY hrr.out;simp)) (Nat.min_eq_right oM).symm oM oM
   have e2:List.take n1 D++List.take (n - n1) (List.drop 0 R)++List.drop (n1+(n - n1)) D=l:=by
    have e3:List.drop (n1+(n - n1)) D=[]:=List.drop_eq_nil_of_le oM
    have e4:List.take n (List.drop f R)=List.drop f R:=List.take_of_length_le oM
    rw [e3,hDt,htwo,hn1,e4];simp
   rw [e2] at hC2
   have M2:=zh ((m1.drew).setRow (g:=w.heap.size) (.inr (Nat.le_refl _)) (eZ .i64 l))
   have g2:=zh (setRow_heap _ _ _ (eZ .i64 l) _ _ (show (((w.alloc (.cells (madeCells #[vi iQ 0] n) 3 (0,0))).drew).setRow w.heap.size (eZ .i64 D)).drew.heap[w.heap.size]?=_ from g1))
   replace htwo:=zh htwo
   replace hn:=zh hn
   have hnn:¬ n=n1:=by omega
   have hnn2:(n1:Int) <= n:=by omega
   clear g0 k0 m0 m1 e2 g1 hD hDl hDt hRl hT1
   subst hn1
   go_in
   go_wp2
   go_region
   go_wp2
   go_region
   go_wp2
   go_ret
   exact ⟨sS ⟨w.heap.size,0,nN⟩,n,rfl,M2.out,.inr ⟨rfl,rfl,g2.out⟩⟩
end
def As (l:List Int) (x k:Int):Prop:=(k=-1 /\ ∀ i,i<l.length -> ar l i≠x) \/ ∃ j:Nat,k=j /\ j<l.length /\ ar l j=x /\ ∀ i,i<j -> ar l i≠x
theorem jd {l:List Int} {x:Int}:x∈l↔∃ i,i<l.length /\ ar l i=x:=by
 rw [List.mem_iff_getElem]
 constructor
 ·rintro ⟨i,h,e⟩;exact ⟨i,h,by simp [ar,List.getD,List.getElem?_eq_getElem h,e]⟩
 ·rintro ⟨i,h,e⟩;exact ⟨i,h,by simpa [ar,List.getD,List.getElem?_eq_getElem h] using e⟩
theorem As.mem {l:List Int} {x k:Int} (h:As l x k):decide (0 <= k)=decide (x∈l):=by
 rcases h with ⟨rfl,h⟩|⟨j,rfl,h1,h2,h3⟩
 ·have:x∉l:=λhm=>by obtain ⟨i,hi,e⟩:=jd.1 hm;exact h i hi e
  simp [this]
 ·have:x∈l:=jd.2 ⟨j,h1,h2⟩
  simp [this]
/-- The slice a holds l. -/
def Fv (w:wW) (a:Option Addr) (l:List Int):Prop:=l=[] \/ ∃ g,a=sS ⟨g,0,nN⟩ /\ ∀ j,j<l.length -> w.cell? ⟨g,j,nN⟩=sS (vi iQ (ar l j))
theorem qi (a:Option Addr) (cap:Nat) (l:List Int) (x:Int) (w:wW) (h:Fv w a l) (hm:l.length<1000000):Calls tp 327 #[.slice a l.length cap,vi iQ x] w (λe w'=>∃ k,e=.returned (vi iQ k) /\ aA w w' /\ As l x k):=by
 obtain ⟨n,hn⟩:∃ n,l.length=n:=⟨_,rfl⟩
 rw [hn] at hm ⊢
 go_in
 go_wp2
 go_loopg [8] n (λgg i wr=>∃ (j:Nat),i=vi iQ j /\ j+gg=n /\ wr=w /\ ∀ i,i<j -> ar l i≠x)
 case atStart=>exact ⟨0,rfl,by omega,rfl,by omega⟩
 case round=>
  obtain ⟨j,rfl,hj,rfl,hne⟩:=hrel
  by_cases hlt:j<n
  ·have hltI:(j:Int)<n:=by omega
   have hs:∃ g,a=sS ⟨g,0,nN⟩ /\ ∀ j,j<l.length -> wr.cell? ⟨g,j,nN⟩=sS (vi iQ (ar l j)):=by
    rcases h with h|h
    ·rw [h] at hn;simp at hn;omega
    ·exact h
   obtain ⟨g,rfl,hc⟩:=hs
   have cj:=hc j oM
   by_cases e:ar l j=x
   ·have hI:=zh (show As l x (j:Int) from .inr ⟨j,rfl,by omega,e,hne⟩)
    rw [e] at cj
    clear hc h e hne
    go_wp2
    go_ret
    exact ⟨j,rfl,by repeat (first|exact aA.refl _|apply aA.drewN|apply aA.drew),hI.out⟩
   ·have hI:=zh (show ∀ i,i<j+1 -> ar l i≠x from λi hi=>by
     rcases Nat.lt_or_ge i j with h1|h1
     ·exact hne i h1
     ·rw [show i=j by omega];exact e)
    have e2:(x==ar l j)=fF:=by simp;exact λh=>e h.symm
    generalize ar l j=y at *
    clear hc h hne
    go_wp2
    go_roundg (gk - 1)
    case measure=>omega
    case rel=>exact ⟨j+1,by go_num,by omega,rfl,hI.out⟩
  ·have hltI:¬ (j:Int)<n:=by omega
   obtain rfl:j=n:=by omega
   have hI:=zh (show As l x (-1) from .inl ⟨rfl,λi hi=>hne i oM⟩)
   clear h hne
   go_wp2
   go_ret
   exact ⟨-1,rfl,by repeat (first|exact aA.refl _|apply aA.drewN|apply aA.drew),hI.out⟩
theorem oZ (a:Option Addr) (cap:Nat) (l:List Int) (x:Int) (w:wW) (h:Fv w a l) (hm:l.length<1000000):Calls tp 288 #[.slice a l.length cap,vi iQ x] w (au (vb (decide (x∈l))) w):=by
 have hI:=qi a cap l x w h hm
 generalize l.length=n at *
 go_in
 go_wp2_with (go_at_call 327;refine hI.mono ?_;rintro e w' ⟨k,rfl,hD,hk⟩;have hK:=zh hk.mem;clear hk)
 go_ret
 refine ⟨?_,hD⟩
 rw [<- hK.out]
 simp
section
variable {F:List Nat} {w u:wW} {b r m f:Nat} {R l:List Int}
theorem Hk (h:(aQ b m l).holds F w) (x:Int):Calls tp 232 #[vp (sS ⟨b,0,nN⟩),vi iQ x] w (bp (vb (decide (x∈l))) w):=by
 have hL:=jL h
 have hlen:l.length<1000000:=by obtain ⟨r,f,R,hq,hr,_⟩:=gl h;have:=hr.fits;have:=hq.2;omega
 go_in
 go_wp2_with (first
  | (
   go_at_call 172
   refine hL.mono ?_
   rintro e w1 ⟨a,c,rfl,m1,hs⟩
   have hS:Fv w1 a l:=by
    rcases hs with ⟨h1,_⟩|⟨_,h2,h3⟩
    ·exact .inl h1
    ·exact .inr ⟨_,h2,λj hj=>by rw [ab h3 j];exact bZ hj⟩
   have hC:=oZ a c l x w1 hS hlen
   have HM:=zh m1
   clear hs hS m1
   )
  | (
   go_at_call 288
   refine hC.r λk=>?_
   ))
 go_ret
 exact ⟨rfl,HM.out.drewN _⟩
end
theorem uk {u:wW} {n:Nat} {o:Obj} (h:u.heap.size=n):(u.alloc o).heap[n]?=sS o:=h ▸ ai u o
theorem EF (d:Nat) (q:Option (Nat × Nat)) (pm:Option Nat) (s:SH) (up:Bool) (cpu by_:Int) (w:wW) (h:cl w d q pm s):Calls tp 155 #[vp (sS ⟨d,0,nN⟩),vb up,vi iQ cpu,vi iQ by_] w (ny d q pm (vi iQ (s.beginE cpu by_)) (s.begin_ up cpu by_) w):=by
 have hok:=SH.begin_ok h.ok up cpu by_
 have h':=h
 obtain ⟨hd,hq,hp,nq,np,nn,ok⟩:=h
 have c0:w.cell? ⟨d,0,nN⟩=sS (vp (qP q)):=ab hd 0
 have c1:w.cell? ⟨d,1,nN⟩=sS (.map pm):=ab hd 1
 have f0:w.frozen? ⟨d,0,nN⟩=fF:=ax hd 0
 have f1:w.frozen? ⟨d,1,nN⟩=fF:=ax hd 1
 rcases q with _|⟨qa,qb⟩
 ·simp only [qP] at c0
  simp only [gO] at hq
  by_cases e1:jr cpu
  ·by_cases e2:jr by_
   ·by_cases e3:cpu=by_
    ·have hE:s.beginE cpu by_=2:=by simp [SH.beginE,hq,e1,e2,e3]
     have hS:s.begin_ up cpu by_=s:=by simp [SH.begin_,hE]
     rw [hE,hS]
     have e3':(cpu==by_)=tQ:=by simpa using e3
     have hC1:=decide_eq_true e1
     have hC2:=decide_eq_true e2
     clear hE hS e1 e2 e3 hq
     go_in
     go_wp2_with (go_at_call 242;refine (lB _ _).r λk1=>?_)
     go_ret
     exact ⟨nN,pm,rfl,mR.drewN _,h'.same rfl,λk hk=>.inl hk⟩
    ·have hE:s.beginE cpu by_=0:=by simp [SH.beginE,hq,e1,e2,e3]
     have hS:s.begin_ up cpu by_={ s with run:=sS ⟨if up then 4 else 10,0,fF⟩,up:=up,cpu:=cpu,by_:=by_,told:=false }:=by simp [SH.begin_,hE]
     rw [hE,hS]
     rw [hS] at hok
     have e3':(cpu==by_)=fF:=by simpa using e3
     have hC1:=decide_eq_true e1
     have hC2:=decide_eq_true e2
     clear hE hS e1 e2 e3 hq
     have hl:=h'.lt
     cases up
     ·simp only [Bool.false_eq_true,if_false,if_true] at hok ⊢
      have hld:=hl d sM
      go_in
      go_wp2_with (first|(go_at_call 242;refine (lB _ _).r λk1=>?_)|(go_at_call 243;refine (Ih 10 _ oM oM).mono ?_;rintro e w1 ⟨rfl,m1,hs1,x1⟩;have hd1:=m1.keep (w:=w.drewN _) hd sM;have ff:=ax hd1 0;have hd2:=bY hd1;have fc:w1.cell? ⟨d,0,nN⟩=sS (vp nN):=ab hd1 0))
      go_ret
      have m1':=m1.undrewN
      have hs2:w.heap.size<w1.heap.size:=hs1
      have hlp:∀ k,k∈pF pm -> k<w.heap.size /\ k≠d:=λk hk=>⟨hl k (by simp [hk]),λe=>np (e ▸ hk)⟩
      have m2:∀ o v,af [d] w1 ((w1.setCell ⟨d,0,nN⟩ v).alloc o):=λo v=>(mR.setCell sM _).alloc _
      refine ⟨sS (w1.heap.size,w.heap.size),pm,rfl,?_,⟨?_,?_,?_,?_,np,?_,hok⟩,?_⟩
      ·exact ((m1'.mono sM).setCell sM _).alloc _
      ·refine cS ?_;rw [ba hd1];simp [qP]
      ·refine ⟨_,rfl,?_,?_,by omega⟩
       ·exact uk (lL _ _ _)
       ·exact x1.keep (m2 _ _) (by simp;omega)
      ·exact (hp.keep m1' sM).keep (m2 _ _) (λk hk=>by simp;exact (hlp k hk).2)
      ·simp [qF];omega
      ·intro k hk
       have:=hlp k hk
       simp [qF];omega
      ·intro k hk
       simp [qF] at hk ⊢
       rcases hk with rfl|rfl|hk
       ·exact .inr oM
       ·exact .inr oM
       ·exact .inl hk
     ·simp only [Bool.false_eq_true,if_false,if_true] at hok ⊢
      have hld:=hl d sM
      go_in
      go_wp2_with (first|(go_at_call 242;refine (lB _ _).r λk1=>?_)|(go_at_call 243;refine (Ih 4 _ oM oM).mono ?_;rintro e w1 ⟨rfl,m1,hs1,x1⟩;have hd1:=m1.keep (w:=w.drewN _) hd sM;have ff:=ax hd1 0;have hd2:=bY hd1;have fc:w1.cell? ⟨d,0,nN⟩=sS (vp nN):=ab hd1 0))
      go_ret
      have m1':=m1.undrewN
      have hs2:w.heap.size<w1.heap.size:=hs1
      have hlp:∀ k,k∈pF pm -> k<w.heap.size /\ k≠d:=λk hk=>⟨hl k (by simp [hk]),λe=>np (e ▸ hk)⟩
      have m2:∀ o v,af [d] w1 ((w1.setCell ⟨d,0,nN⟩ v).alloc o):=λo v=>(mR.setCell sM _).alloc _
      refine ⟨sS (w1.heap.size,w.heap.size),pm,rfl,?_,⟨?_,?_,?_,?_,np,?_,hok⟩,?_⟩
      ·exact ((m1'.mono sM).setCell sM _).alloc _
      ·refine cS ?_;rw [ba hd1];simp [qP]
      ·refine ⟨_,rfl,?_,?_,by omega⟩
       ·exact uk (lL _ _ _)
       ·exact x1.keep (m2 _ _) (by simp;omega)
      ·exact (hp.keep m1' sM).keep (m2 _ _) (λk hk=>by simp;exact (hlp k hk).2)
      ·simp [qF];omega
      ·intro k hk
       have:=hlp k hk
       simp [qF];omega
      ·intro k hk
       simp [qF] at hk ⊢
       rcases hk with rfl|rfl|hk
       ·exact .inr oM
       ·exact .inr oM
       ·exact .inl hk
   ·have hE:s.beginE cpu by_=3:=by simp [SH.beginE,hq,e2]
    have hS:s.begin_ up cpu by_=s:=by simp [SH.begin_,hE]
    rw [hE,hS]
    have hC1:=decide_eq_true e1
    have hC2:=decide_eq_false e2
    clear hE hS e1 e2 hq
    go_in
    go_wp2_with (go_at_call 242;refine (lB _ _).r λk1=>?_)
    go_ret
    exact ⟨nN,pm,rfl,mR.drewN _,h'.same rfl,λk hk=>.inl hk⟩
  ·have hE:s.beginE cpu by_=3:=by simp [SH.beginE,hq,e1]
   have hS:s.begin_ up cpu by_=s:=by simp [SH.begin_,hE]
   rw [hE,hS]
   have hC1:=decide_eq_false e1
   clear hE hS e1 hq
   go_in
   go_wp2_with (go_at_call 242;refine (lB _ _).r λk1=>?_)
   go_ret
   exact ⟨nN,pm,rfl,mR.drewN _,h'.same rfl,λk hk=>.inl hk⟩
 ·obtain ⟨r,hr,ha,hx,hab⟩:=hq
  have a0:w.cell? ⟨qa,0,nN⟩=sS (vp (sS ⟨qb,0,nN⟩)):=ab ha 0
  have a1:w.cell? ⟨qa,1,nN⟩=sS (vb s.up):=ab ha 1
  have a2:w.cell? ⟨qa,2,nN⟩=sS (vi iQ s.cpu):=ab ha 2
  have a3:w.cell? ⟨qa,3,nN⟩=sS (vi iQ s.by_):=ab ha 3
  have a4:w.cell? ⟨qa,4,nN⟩=sS (vb s.told):=ab ha 4
  have g4:w.frozen? ⟨qa,4,nN⟩=fF:=ax ha 4
  simp only [qP] at c0
  have hE:s.beginE cpu by_=7:=by simp [SH.beginE,hr]
  have hS:s.begin_ up cpu by_=s:=by simp [SH.begin_,hE]
  rw [hE,hS]
  clear hE hS hr
  go_in
  go_wp2
  go_ret
  exact ⟨sS (qa,qb),pm,rfl,af.refl _ _,h',λk hk=>.inl hk⟩
theorem zg {w:wW} {pm:Option Nat} {l:List Int} (h:kK w pm l) (k:Int):
  (Instr.lookup 131 (.map pm) (vi iQ k) fF).run tp w=.ok (vb (decide (k∈l))) w:=by
 have hz:∀ w,(zeroValue 4).run tp w=.ok (vb fF) w:=λw=>by kernel_rfl
 cases pm with
 | none=>
  simp only [kK] at h
  rw [td Tryz.underlying131 Tryz.underlying3 k hz w,h]
  simp
 | some b=>
  rw [kt h Tryz.underlying131 Tryz.underlying3 k hz,DR]
theorem GX (d:Nat) (q:Option (Nat × Nat)) (pm:Option Nat) (s:SH) (w:wW) (h:cl w d q pm s):Calls tp 187 #[vp (sS ⟨d,0,nN⟩)] w (ny d q pm (vi iQ s.mayE) s.done w):=by
 have hok:=SH.done_ok h.ok
 have h':=h
 have hM:=kE d q pm s w h
 obtain ⟨hd,hq,hp,nq,np,nn,ok⟩:=h
 have c0:w.cell? ⟨d,0,nN⟩=sS (vp (qP q)):=ab hd 0
 have c1:w.cell? ⟨d,1,nN⟩=sS (.map pm):=ab hd 1
 have f0:w.frozen? ⟨d,0,nN⟩=fF:=ax hd 0
 have f1:w.frozen? ⟨d,1,nN⟩=fF:=ax hd 1
 rcases q with _|⟨qa,qb⟩
 ·simp only [qP] at c0
  simp only [gO] at hq
  have hO:s.mayE=12:=by simp [SH.mayE,hq]
  have hD:s.done=s:=by simp [SH.done,hq]
  rw [hO] at hM
  rw [hO,hD]
  clear hO hD hq
  go_in
  go_wp2_with (go_at_call 258;refine hM.r λk1=>?_)
  go_ret
  exact ⟨nN,pm,rfl,mR.drewN _,h'.same rfl,λk hk=>.inl hk⟩
 ·obtain ⟨r,hr,ha,hx,hab⟩:=hq
  have a0:w.cell? ⟨qa,0,nN⟩=sS (vp (sS ⟨qb,0,nN⟩)):=ab ha 0
  have a1:w.cell? ⟨qa,1,nN⟩=sS (vb s.up):=ab ha 1
  have a2:w.cell? ⟨qa,2,nN⟩=sS (vi iQ s.cpu):=ab ha 2
  have a3:w.cell? ⟨qa,3,nN⟩=sS (vi iQ s.by_):=ab ha 3
  have a4:w.cell? ⟨qa,4,nN⟩=sS (vb s.told):=ab ha 4
  have g4:w.frozen? ⟨qa,4,nN⟩=fF:=ax ha 4
  simp only [qP] at c0
  cases ho:r.over
  ·have hO:s.mayE=0:=by simp [SH.mayE,hr,ho]
   have hD:s.done={ s with run:=sS r.done,told:=false }:=by simp [SH.done,hr,ho]
   have hE:r.doneE=0:=by simp [aT.doneE,ho]
   rw [hO] at hM
   rw [hO,hD]
   rw [hD] at hok
   clear hO hD hr
   have hl:=h'.lt
   have hqd:qa≠d /\ qb≠d:=by simp [qF] at nq;omega
   go_in
   go_wp2_with (first|(go_at_call 258;refine hM.r λk1=>?_)|(go_at_call 266;refine (Ij qb r _ (by exact hx.keep (w:=w) (((af.refl [qa] w).drewN _).setCell sM _) (by simp;omega))).mono ?_;rintro e w1 ⟨rfl,m1,x1⟩;rw [hE]))
   go_ret
   have m2:=(((af.refl [qa] w).drewN k1).setCell (p:=⟨qa,4,nN⟩) sM (vb fF))
   have hlp:∀ k,k∈pF pm -> k≠qa /\ k≠qb:=λk hk=>by have:=nn k hk;simp [qF] at this;omega
   refine ⟨sS (qa,qb),pm,rfl,?_,⟨?_,?_,?_,nq,np,nn,hok⟩,λk hk=>.inl hk⟩
   ·exact ((m2.mono (T:=[qa,qb]) sM).trans m1 sM).mono (by simp [qF])
   ·exact m1.keep (m2.keep hd (by simp;omega)) (by simp;omega)
   ·refine ⟨_,rfl,m1.keep ?_ (by simp;omega),x1,hab⟩
    rw [ba (w:=w.drewN k1) ha 4];simp
   ·exact (hp.keep m2 (λk hk=>by have:=hlp k hk;simp;omega)).keep m1 (λk hk=>by have:=hlp k hk;simp;omega)
  ·have hO:s.mayE=6:=by simp [SH.mayE,hr,ho]
   have hD:s.done=s:=by simp [SH.done,hr,ho]
   rw [hO] at hM
   rw [hO,hD]
   clear hO hD hr
   go_in
   go_wp2_with (go_at_call 258;refine hM.r λk1=>?_)
   go_ret
   exact ⟨sS (qa,qb),pm,rfl,mR.drewN _,h'.same rfl,λk hk=>.inl hk⟩
theorem Js (d:Nat) (q:Option (Nat × Nat)) (pm:Option Nat) (s:SH) (w:wW) (h:cl w d q pm s):Calls tp 189 #[vp (sS ⟨d,0,nN⟩)] w (ny d q pm (.tuple #[vi iQ s.endV,vi iQ s.endE]) s.end_ w):=by
 have hok:=SH.end_ok h.ok
 have h':=h
 have hM:=uh d q pm s w h
 obtain ⟨hd,hq,hp,nq,np,nn,ok⟩:=h
 have c0:w.cell? ⟨d,0,nN⟩=sS (vp (qP q)):=ab hd 0
 have c1:w.cell? ⟨d,1,nN⟩=sS (.map pm):=ab hd 1
 have f0:w.frozen? ⟨d,0,nN⟩=fF:=ax hd 0
 have f1:w.frozen? ⟨d,1,nN⟩=fF:=ax hd 1
 rcases q with _|⟨qa,qb⟩
 ·simp only [qP] at c0
  simp only [gO] at hq
  have hO:s.endE=12:=by simp [SH.endE,hq]
  have hV:s.endV=0:=by simp [SH.endV,hq]
  have hD:s.end_=s:=by simp [SH.end_,hq]
  rw [hO,hD,hV]
  clear hO hD hq hV
  go_in
  go_wp2
  go_ret2
  exact ⟨nN,pm,rfl,mR,h'.same rfl,λk hk=>.inl hk⟩
 ·obtain ⟨r,hr,ha,hx,hab⟩:=hq
  have a0:w.cell? ⟨qa,0,nN⟩=sS (vp (sS ⟨qb,0,nN⟩)):=ab ha 0
  have a1:w.cell? ⟨qa,1,nN⟩=sS (vb s.up):=ab ha 1
  have a2:w.cell? ⟨qa,2,nN⟩=sS (vi iQ s.cpu):=ab ha 2
  have a3:w.cell? ⟨qa,3,nN⟩=sS (vi iQ s.by_):=ab ha 3
  have a4:w.cell? ⟨qa,4,nN⟩=sS (vb s.told):=ab ha 4
  have g4:w.frozen? ⟨qa,4,nN⟩=fF:=ax ha 4
  simp only [qP] at c0
  have hOv:s.over=r.over:=by simp [SH.over,hr]
  rw [hOv] at hM
  clear hOv
  cases ho:r.over
  ·have hO:s.endE=6:=by simp [SH.endE,hr,ho]
   have hV:s.endV=0:=by simp [SH.endV,hr,ho]
   have hD:s.end_=s:=by simp [SH.end_,hr,ho]
   rw [ho] at hM
   rw [hO,hD,hV]
   clear hO hD hr hV
   go_in
   go_wp2_with (go_at_call 188;refine hM.r λk1=>?_)
   go_ret2
   exact ⟨sS (qa,qb),pm,rfl,mR.drewN _,h'.same rfl,λk hk=>.inl hk⟩
  ·have hO:s.endE=0:=by simp [SH.endE,hr,ho]
   have hV:s.endV=r.why:=by simp [SH.endV,hr,ho]
   have hD:s.end_={ s with run:=nN,up:=false,cpu:=0,by_:=0,told:=s.told }:=by simp [SH.end_,hr,ho]
   rw [ho] at hM
   rw [hO,hD,hV]
   rw [hD] at hok
   clear hO hD hr hV
   go_in
   go_wp2_with (first|(go_at_call 188;refine hM.r λk1=>?_)|(go_at_call 267;refine (JK qb r _ (by exact hx.same rfl)).r λk2=>?_))
   go_ret2
   have m2:=(((af.refl [d] w).drewN (k1+k2)).setCell (p:=⟨d,0,nN⟩) sM (vp nN))
   refine ⟨nN,pm,rfl,m2.mono sM,⟨?_,rfl,?_,by simp [qF],np,by simp [qF],hok⟩,λk hk=>.inl (by simp [qF] at hk ⊢;exact .inr (.inr hk))⟩
   ·rw [ba (w:=w.drewN _) hd 0];simp [qP]
   ·exact hp.keep m2 (λk hk=>by simp;rintro rfl;exact np hk)
/-- A call that returned a step and why not. -/
def eQ (s:SH):Value:=.tuple #[s.step,vi iQ s.mayE]
theorem GW (d:Nat) (q:Option (Nat × Nat)) (pm:Option Nat) (s:SH) (w:wW) (h:cl w d q pm s):Calls tp 185 #[vp (sS ⟨d,0,nN⟩)] w (ny d q pm (eQ s) s.next w):=by
 have hok:=SH.next_ok h.ok
 have h2:=h.keep ((af.refl [] w).alloc (Obj.cells #[vi iQ 0,vb fF,vb fF] 289)) sM
 have h':=h
 have hl:=h.lt
 obtain ⟨hd,hq,hp,nq,np,nn,ok⟩:=h
 have c0:w.cell? ⟨d,0,nN⟩=sS (vp (qP q)):=ab hd 0
 have c1:w.cell? ⟨d,1,nN⟩=sS (.map pm):=ab hd 1
 have f0:w.frozen? ⟨d,0,nN⟩=fF:=ax hd 0
 have f1:w.frozen? ⟨d,1,nN⟩=fF:=ax hd 1
 have hdl:=bY hd
 rcases q with _|⟨qa,qb⟩
 ·simp only [qP] at c0
  simp only [gO] at hq
  have hO:s.mayE=12:=by simp [SH.mayE,hq]
  have hD:s.next=s:=by simp [SH.next,hq]
  have hV:eQ s=.tuple #[.agg #[vi iQ 0,vb fF,vb fF],vi iQ 12]:=by simp [eQ,SH.step,hO,hq]
  rw [hD,hV]
  clear hD hq hV
  go_in
  go_wp2_with (go_at_call 258;refine (kE d _ pm s _ (by exact h2.same rfl)).mono ?_;rw [hO];rintro e w' ⟨rfl,k1,rfl⟩)
  refine bodyPost_ret_by (v:=.tuple #[.agg #[vi iQ 0,vb fF,vb fF],vi iQ 12]) ?_ rfl ?_
  ·rw [results_cell_tmp rfl];go_simp
  ·have m3:∀ u1 u2 u3:Value,af [] w ((((((w.alloc (Obj.cells #[vi iQ 0,vb fF,vb fF] 289)).drewN k1).setCell ⟨w.heap.size,0,nN⟩ u1).setCell ⟨w.heap.size,1,nN⟩ u2).setCell ⟨w.heap.size,2,nN⟩ u3)):=λ_ _ _=>((((mR.alloc _).drewN _).setCell sM _).setCell sM _).setCell sM _
   exact ⟨nN,pm,rfl,(m3 _ _ _).mono sM,h'.keep (m3 _ _ _) sM,λk hk=>.inl hk⟩
 ·obtain ⟨r,hr,ha,hx,hab⟩:=hq
  have a0:w.cell? ⟨qa,0,nN⟩=sS (vp (sS ⟨qb,0,nN⟩)):=ab ha 0
  have a1:w.cell? ⟨qa,1,nN⟩=sS (vb s.up):=ab ha 1
  have a2:w.cell? ⟨qa,2,nN⟩=sS (vi iQ s.cpu):=ab ha 2
  have a3:w.cell? ⟨qa,3,nN⟩=sS (vi iQ s.by_):=ab ha 3
  have a4:w.cell? ⟨qa,4,nN⟩=sS (vb s.told):=ab ha 4
  have g4:w.frozen? ⟨qa,4,nN⟩=fF:=ax ha 4
  simp only [qP] at c0
  have hx2:=hx.keep ((af.refl [] w).alloc (Obj.cells #[vi iQ 0,vb fF,vb fF] 289)) sM
  have hL:=λj=>zg (hp.keep (((af.refl [] w).alloc (Obj.cells #[vi iQ 0,vb fF,vb fF] 289)).drewN j) sM) r.k
  have hqd:qa≠d /\ qb≠d:=by simp [qF] at nq;omega
  have hql:=hl qa (by simp [qF])
  have hM:s.mayE=if r.over then 6 else 0:=by simp [SH.mayE,hr]
  cases ho:r.over
  ·rw [ho] at hM
   have hO:s.mayE=0:=hM
   cases hb:r.back
   ·cases ht:s.told
    ·by_cases hm:r.k∈s.plan
     ·cases pm with
      | none=>simp only [kK] at hp;rw [hp] at hm;simp at hm
      | some b=>
       have hF:s.failsNow r=tQ:=by simp [SH.failsNow,hb,ht,hm]
       have hm':=decide_eq_true hm
       have hD:s.next={ s with run:=sS r.fail,told:=true,plan:=s.plan.erase r.k }:=by simp [SH.next,hr,ho,hF]
       have hV:eQ s=.tuple #[.agg #[vi iQ r.k,vb r.back,vb tQ],vi iQ 0]:=by simp [eQ,SH.step,hO,hr,ho,hF]
       have hE:r.failE=0:=by simp [aT.failE,hb,ho]
       rw [hD] at hok
       rw [hD,hV]
       have HO:=zh hO
       clear hD hV hF hM hO
       go_in
       go_wp2_with (first|(go_at_call 258;refine (kE d _ _ s _ (by exact h2.same rfl)).mono ?_;rw [HO.out];rintro e w' ⟨rfl,k1,rfl⟩)|(go_at_call 259;refine (gz qb r _ (by exact hx2.same rfl)).r λk2=>?_))
       have mu:af [] w (((w.alloc (Obj.cells #[vi iQ 0,vb fF,vb fF] 289)).drewN (k1+k2)).alloc (Obj.cells #[vi iQ r.k,vb fF,vb tQ] 289)):=((mR.alloc _).drewN _).alloc _
       obtain ⟨w1,hrun,m1,x1⟩:=ku (m:=jb s.plan) (b:=b) (hp.keep mu sM) Tryz.underlying131 Tryz.underlying3 r.k
       rw [DS] at x1
       have nb:b≠d /\ b≠qa /\ b≠qb:=by have:=nn b (by simp [pF]);simp [pF] at np;simp [qF] at this;omega
       have hbl:=hl b (by simp [pF])
       have hql2:=hl qb (by simp [qF])
       have hd1:=m1.keep (mu.keep hd sM) (by simp;omega)
       have ha1:=m1.keep (mu.keep ha sM) (by simp;omega)
       have hx1:=(hx.keep mu sM).keep m1 (by simp;omega)
       have hz1:=m1.keep (k:=w.heap.size) (cS (ai w (Obj.cells #[vi iQ 0,vb fF,vb fF] 289))) (by simp;omega)
       have hz2:=m1.keep (k:=w.heap.size+1) (uk sM) (by simp;omega)
       have M1:=(mu.mono (T:=[b]) sM).trans m1 sM
       have d1:w1.cell? ⟨d,0,nN⟩=_:=ab hd1 0
       have d2:w1.cell? ⟨qa,0,nN⟩=_:=ab ha1 0
       simp only [List.getElem?_toArray,List.getElem?_cons_zero,qP] at d1 d2
       clear mu m1 a0 a1 a2 a3 a4 c0 c1 f0 f1 g4 hp hx2 h2 hL
       rw [hrun]
       go_wp2_with (go_at_call 260;refine (Ii qb r _ hx1).mono ?_;rw [hE];rintro e w2 ⟨rfl,m2,x2⟩;have hd2:=m2.keep hd1 (by simp;omega);have ha2:=m2.keep ha1 (by simp;omega);have hz3:=m2.keep hz1 (by simp;omega);have hz4:=m2.keep hz2 (by simp;omega);have e1:w2.cell? ⟨d,0,nN⟩=_:=ab hd2 0;have e2:w2.frozen? ⟨qa,4,nN⟩=fF:=ax ha2 4;have e3:w2.cell? ⟨qa,4,nN⟩=_:=ab ha2 4;have e4:=λi=>ax hz3 i;have e5:=λi=>ab hz4 i;have e6:=λi=>ab hz3 i;have p1:=e4 0;have p2:=e4 1;have p3:=e4 2;have p4:=e5 0;have p5:=e5 1;have p6:=e5 2;have p7:=e6 0;have p8:=e6 1;have p9:=e6 2;clear e4 e5 e6;simp only [List.getElem?_toArray,List.getElem?_cons_zero,List.getElem?_cons_succ,qP] at e1 e3 p1 p2 p3 p4 p5 p6 p7 p8 p9;clear d1 d2)
       refine bodyPost_ret_by (v:=.tuple #[.agg #[vi iQ r.k,vb fF,vb tQ],vi iQ 0]) ?_ rfl ?_
       ·rw [results_cell_tmp rfl];go_simp
       ·rw [hb]
        have M2:=(M1.mono (T:=[b,qb,qa]) sM).trans m2 sM
        have m3:∀ u1 u2 u3,af [qa,w.heap.size] w2 ((((w2.setCell ⟨qa,4,nN⟩ (vb tQ)).setCell ⟨w.heap.size,0,nN⟩ u1).setCell ⟨w.heap.size,1,nN⟩ u2).setCell ⟨w.heap.size,2,nN⟩ u3):=λ_ _ _=>(((mR.setCell sM _).setCell sM _).setCell sM _).setCell sM _
        refine ⟨sS (qa,qb),sS b,rfl,(M2.trans (m3 _ _ _) sM).mono (by simp [qF,pF]),⟨(m3 _ _ _).keep hd2 (by simp;omega),⟨_,rfl,?_,x2.keep (m3 _ _ _) (by simp;omega),hab⟩,(bR.keep x1 m2 (by simp;omega)).keep (m3 _ _ _) (by simp;omega),nq,np,nn,hok⟩,λk hk=>.inl hk⟩
        rw [bq oM,bq oM,bq oM,ba ha2]
        simp
     ·have hF:s.failsNow r=fF:=by simp [SH.failsNow,hb,ht,hm]
      have hm':=decide_eq_false hm
      have hD:s.next={ s with told:=true }:=by simp [SH.next,hr,ho,hF]
      have hV:eQ s=.tuple #[.agg #[vi iQ r.k,vb r.back,vb fF],vi iQ 0]:=by simp [eQ,SH.step,hO,hr,ho,hF]
      rw [hD] at hok
      rw [hD,hV]
      have HO:=zh hO
      replace hr:=zh hr
      clear hD hV hF hM hO
      go_in
      go_wp2_with (first|(go_at_call 258;refine (kE d _ pm s _ (by exact h2.same rfl)).mono ?_;rw [HO.out];rintro e w' ⟨rfl,k1,rfl⟩)|(go_at_call 259;refine (gz qb r _ (by exact hx2.same rfl)).r λk2=>?_))
      refine bodyPost_ret_by (v:=.tuple #[.agg #[vi iQ r.k,vb fF,vb fF],vi iQ 0]) ?_ rfl ?_
      ·rw [results_cell_tmp rfl];go_simp
      ·rw [hb]
       have m4:∀ o o' u1 u2 u3,af [qa] w (((((((w.alloc o).drewN (k1+k2)).setCell ⟨qa,4,nN⟩ (vb tQ)).setCell ⟨w.heap.size,0,nN⟩ u1).setCell ⟨w.heap.size,1,nN⟩ u2).setCell ⟨w.heap.size,2,nN⟩ u3).alloc o'):=λ_ _ _ _ _=>(((((mR.alloc _).drewN _).setCell sM _).setCell sM _).setCell sM _).setCell sM _ |>.alloc _
       refine ⟨sS (qa,qb),pm,rfl,(m4 _ _ _ _ _).mono (by simp [qF]),⟨(m4 _ _ _ _ _).keep hd (by simp;omega),⟨r,hr.out,?_,hx.keep (m4 _ _ _ _ _) (by simp;omega),hab⟩,hp.keep (m4 _ _ _ _ _) (λk hk=>by have:=nn k hk;simp [qF] at this ⊢;omega),nq,np,nn,hok⟩,λk hk=>.inl hk⟩
       refine cS ?_
       rw [bq oM,bq oM,bq oM]
       refine (ba (w:=(w.alloc _).drewN _) (cS ha) 4 _).trans ?_
       simp
    ·have hF:s.failsNow r=fF:=by simp [SH.failsNow,hb,ht]
     have hD:s.next={ s with told:=true }:=by simp [SH.next,hr,ho,hF]
     have hV:eQ s=.tuple #[.agg #[vi iQ r.k,vb r.back,vb fF],vi iQ 0]:=by simp [eQ,SH.step,hO,hr,ho,hF]
     rw [hD] at hok
     rw [hD,hV]
     have HO:=zh hO
     replace hr:=zh hr
     clear hD hV hF hM hO
     go_in
     go_wp2_with (first|(go_at_call 258;refine (kE d _ pm s _ (by exact h2.same rfl)).mono ?_;rw [HO.out];rintro e w' ⟨rfl,k1,rfl⟩)|(go_at_call 259;refine (gz qb r _ (by exact hx2.same rfl)).r λk2=>?_))
     refine bodyPost_ret_by (v:=.tuple #[.agg #[vi iQ r.k,vb fF,vb fF],vi iQ 0]) ?_ rfl ?_
     ·rw [results_cell_tmp rfl];go_simp
     ·rw [hb]
      have m4:∀ o o' u1 u2 u3,af [qa] w (((((((w.alloc o).drewN (k1+k2)).setCell ⟨qa,4,nN⟩ (vb tQ)).setCell ⟨w.heap.size,0,nN⟩ u1).setCell ⟨w.heap.size,1,nN⟩ u2).setCell ⟨w.heap.size,2,nN⟩ u3).alloc o'):=λ_ _ _ _ _=>(((((mR.alloc _).drewN _).setCell sM _).setCell sM _).setCell sM _).setCell sM _ |>.alloc _
      refine ⟨sS (qa,qb),pm,rfl,(m4 _ _ _ _ _).mono (by simp [qF]),⟨(m4 _ _ _ _ _).keep hd (by simp;omega),⟨r,hr.out,?_,hx.keep (m4 _ _ _ _ _) (by simp;omega),hab⟩,hp.keep (m4 _ _ _ _ _) (λk hk=>by have:=nn k hk;simp [qF] at this ⊢;omega),nq,np,nn,hok⟩,λk hk=>.inl hk⟩
      refine cS ?_
      rw [bq oM,bq oM,bq oM]
      refine (ba (w:=(w.alloc _).drewN _) (cS ha) 4 _).trans ?_
      simp
   ·have hF:s.failsNow r=fF:=by simp [SH.failsNow,hb]
    have hD:s.next={ s with told:=true }:=by simp [SH.next,hr,ho,hF]
    have hV:eQ s=.tuple #[.agg #[vi iQ r.k,vb r.back,vb fF],vi iQ 0]:=by simp [eQ,SH.step,hO,hr,ho,hF]
    rw [hD] at hok
    rw [hD,hV]
    have HO:=zh hO
    replace hr:=zh hr
    clear hD hV hF hM hO
    go_in
    go_wp2_with (first|(go_at_call 258;refine (kE d _ pm s _ (by exact h2.same rfl)).mono ?_;rw [HO.out];rintro e w' ⟨rfl,k1,rfl⟩)|(go_at_call 259;refine (gz qb r _ (by exact hx2.same rfl)).r λk2=>?_))
    refine bodyPost_ret_by (v:=.tuple #[.agg #[vi iQ r.k,vb tQ,vb fF],vi iQ 0]) ?_ rfl ?_
    ·rw [results_cell_tmp rfl];go_simp
    ·rw [hb]
     have m4:∀ o o' u1 u2 u3,af [qa] w (((((((w.alloc o).drewN (k1+k2)).setCell ⟨qa,4,nN⟩ (vb tQ)).setCell ⟨w.heap.size,0,nN⟩ u1).setCell ⟨w.heap.size,1,nN⟩ u2).setCell ⟨w.heap.size,2,nN⟩ u3).alloc o'):=λ_ _ _ _ _=>(((((mR.alloc _).drewN _).setCell sM _).setCell sM _).setCell sM _).setCell sM _ |>.alloc _
     refine ⟨sS (qa,qb),pm,rfl,(m4 _ _ _ _ _).mono (by simp [qF]),⟨(m4 _ _ _ _ _).keep hd (by simp;omega),⟨r,hr.out,?_,hx.keep (m4 _ _ _ _ _) (by simp;omega),hab⟩,hp.keep (m4 _ _ _ _ _) (λk hk=>by have:=nn k hk;simp [qF] at this ⊢;omega),nq,np,nn,hok⟩,λk hk=>.inl hk⟩
     refine cS ?_
     rw [bq oM,bq oM,bq oM]
     refine (ba (w:=(w.alloc _).drewN _) (cS ha) 4 _).trans ?_
     simp
  ·have hO:s.mayE=6:=by rw [hM,ho];rfl
   have hD:s.next=s:=by simp [SH.next,hr,ho]
   have hV:eQ s=.tuple #[.agg #[vi iQ 0,vb fF,vb fF],vi iQ 6]:=by simp [eQ,SH.step,hO,hr,ho]
   rw [hD,hV]
   clear hD hr hV hL hM
   go_in
   go_wp2_with (go_at_call 258;refine (kE d _ pm s _ (by exact h2.same rfl)).mono ?_;rw [hO];rintro e w' ⟨rfl,k1,rfl⟩)
   refine bodyPost_ret_by (v:=.tuple #[.agg #[vi iQ 0,vb fF,vb fF],vi iQ 6]) ?_ rfl ?_
   ·rw [results_cell_tmp rfl];go_simp
   ·have m3:∀ u1 u2 u3:Value,af [] w ((((((w.alloc (Obj.cells #[vi iQ 0,vb fF,vb fF] 289)).drewN k1).setCell ⟨w.heap.size,0,nN⟩ u1).setCell ⟨w.heap.size,1,nN⟩ u2).setCell ⟨w.heap.size,2,nN⟩ u3)):=λ_ _ _=>((((mR.alloc _).drewN _).setCell sM _).setCell sM _).setCell sM _
    exact ⟨sS (qa,qb),pm,rfl,(m3 _ _ _).mono sM,h'.keep (m3 _ _ _) sM,λk hk=>.inl hk⟩
structure qs where
 kind:Int
 cpu:Int
 id:Int
 mask:Int
 n:Int
deriving Inhabited
def qs.vals (a:qs):List Value:=[vi iQ a.kind,vi iQ a.cpu,vi iQ a.id,vi uQ a.mask,vi iQ a.n]
def qs.ok (a:qs):Prop:=(Lit.int .i64 a.kind).wf=tQ /\ (Lit.int .i64 a.cpu).wf=tQ /\ (Lit.int .i64 a.id).wf=tQ /\ (Lit.int .u64 a.mask).wf=tQ /\ (Lit.int .i64 a.n).wf=tQ
theorem elem_api_Ev {H:Type} {enc:TypeId × Value -> H} {w:wW} {spare:Nat -> Bool} {held:Bool}:∀ m cs y,DataW.trod enc tp w 0 spare held m 34 cs=sS y -> ∃ z:qs,cs=z.vals /\ z.ok:=by
 intro m cs y h
 obtain ⟨hl,hv⟩:=Lh Tryz.underlying34 [.i .i64,.i .i64,.i .i64,.i .u64,.i .i64] kz (by rfl) (λi k hk=>by
  match i,hk with
  | 0,hk=>simp at hk;subst hk;exact ⟨_,rfl,rfl,by kernel_rfl,_,Tryz.underlying3,rfl⟩
  | 1,hk=>simp at hk;subst hk;exact ⟨_,rfl,rfl,by kernel_rfl,_,Tryz.underlying3,rfl⟩
  | 2,hk=>simp at hk;subst hk;exact ⟨_,rfl,rfl,by kernel_rfl,_,Tryz.underlying3,rfl⟩
  | 3,hk=>simp at hk;subst hk;exact ⟨_,rfl,rfl,by kernel_rfl,_,Tryz.underlying32,rfl⟩
  | 4,hk=>simp at hk;subst hk;exact ⟨_,rfl,rfl,by kernel_rfl,_,Tryz.underlying2,rfl⟩
  | n+5,hk=>simp at hk) h
 match cs,hl with
 | [v0,v1,v2,v3,v4],_=>
  obtain ⟨_,e0,n0,rfl,w0⟩:=hv 0 _ rfl
  obtain ⟨_,e1,n1,rfl,w1⟩:=hv 1 _ rfl
  obtain ⟨_,e2,n2,rfl,w2⟩:=hv 2 _ rfl
  obtain ⟨_,e3,n3,rfl,w3⟩:=hv 3 _ rfl
  obtain ⟨_,e4,n4,rfl,w4⟩:=hv 4 _ rfl
  simp at e0 e1 e2 e3 e4
  subst e0 e1 e2 e3 e4
  exact ⟨⟨n0,n1,n2,n3,n4⟩,rfl,w0,w1,w2,w3,w4⟩
end Go.Proofs.YtmiapbgkphpgoaaGreatDoor