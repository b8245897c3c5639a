/- Walks and plain laws of the kernel. No condition. -/
import Derived.Test.YtaakgpnmfkmdoaaGreatDoorBaseM
import Derived.Shelf.Lays7
import Derived.Test.YtaakgpnmfkmdoaaGreatDoorProg
import Derived.Shelf.SlLaysZI
import Derived.Shelf.SlLaysH
import Derived.Laws.Externs
import Derived.Laws.CopyOwn
import Derived.Deep.OwnRows
import Derived.Laws.CopyRow
namespace Go.Proofs.YtaakgpnmfkmdoaaGreatDoor
set_option linter.unusedVariables false
set_option linter.unusedSimpArgs false
set_option maxRecDepth 100000
set_option maxHeartbeats 20000000
open Go.RowKit
open Go.Proofs.Tryz renaming prog → tp
open List renaming setIfInBounds_toArray → sA, set_cons_zero → sB, set_cons_succ → sC
open Go renaming World → wW
open Go.Value renaming pointer → vp, bool → vb, int → vi
open Go.IntKind renaming i64 → iQ, u64 → uQ
open Option renaming none → nN, some → sS
open Bool renaming true → tQ, false → fF
open Int renaming eq_ofNat_of_zero_le → iN
theorem oW {m f i:Nat} (hf:f<m) (hi:i <= m):(f+i) % m=if f+i<m then f+i else f+i - m:=by
 split
 ·rename_i h;exact Nat.mod_eq_of_lt h
 ·rename_i h
  rw [Nat.mod_eq_sub_mod oM]
  by_cases e:f+i - m<m
  ·exact Nat.mod_eq_of_lt e
  ·omega
/-- The ring R of m places, from place f on, holds l. -/
structure nF (R:List Int) (m f:Nat) (l:List Int):Prop where
 len:R.length=m
 first:f<m
 fits:l.length <= m
 cell:∀ i,i<l.length -> ax R ((f+i) % m)=ax l i
theorem lT {l k:List Int} {i:Nat} (h:i<l.length):ax (l++k) i=ax l i:=by
 simp [ax,List.getD,List.getElem?_append_left h]
theorem qV {l:List Int} {x:Int}:ax (l++[x]) l.length=x:=by
 simp [ax,List.getD]
theorem nF.push {R:List Int} {m f:Nat} {l:List Int} (h:nF R m f l) (hl:l.length<m) (x:Int):nF (R.set ((f+l.length) % m) x) m f (l++[x]):=by
 have hf:=h.first
 refine ⟨by rw [List.length_set];exact h.len,hf,by simp;omega,λi hi=>?_⟩
 simp only [List.length_append,List.length_cons,List.length_nil] at hi
 have hlt:(f+l.length) % m<R.length:=by rw [h.len];exact Nat.mod_lt _ oM
 rw [pn hlt]
 by_cases e:i=l.length
 ·subst e;rw [pG rfl,qV]
 ·have e2:¬ ((f+l.length) % m=(f+i) % m):=by
   rw [oW hf oM,oW hf oM]
   split<;>split<;>omega
  rw [nG e2,lT oM]
  exact h.cell i oM
theorem nF.front {R:List Int} {m f:Nat} {l:List Int} (h:nF R m f l) (hl:l≠[]):ax R f=ax l 0:=by
 have:=h.cell 0 (List.length_pos_iff.2 hl)
 rwa [Nat.add_zero,Nat.mod_eq_of_lt h.first] at this
theorem nF.pop {R:List Int} {m f:Nat} {x:Int} {l:List Int} (h:nF R m f (x :: l)):nF R m ((f+1) % m) l:=by
 have hf:=h.first
 have hfit:=h.fits
 simp only [List.length_cons] at hfit
 refine ⟨h.len,Nat.mod_lt _ oM,by omega,λi hi=>?_⟩
 have:=h.cell (i+1) (by simp;omega)
 have e:((f+1) % m+i) % m=(f+(i+1)) % m:=by
  rw [Nat.mod_add_mod,Nat.add_assoc,Nat.add_comm 1 i]
 rw [e,this]
 simp [ax]
theorem po {l:List Int} {k j:Nat}:ax (l.eraseIdx k) j=if j<k then ax l j else ax l (j+1):=by
 simp only [ax,List.getD,List.getElem?_eraseIdx]
 split<;>rfl
/-- The places from k on are filled with what stood behind them, up to place i. -/
structure qC (R:List Int) (m f:Nat) (l:List Int) (k i:Nat):Prop where
 len:R.length=m
 cell:∀ j,j<i -> ax R ((f+j) % m)=ax (l.eraseIdx k) j
theorem qC.start {R:List Int} {m f:Nat} {l:List Int} (h:nF R m f l) {k:Nat} (hk:k<l.length):qC R m f l k k:=
 ⟨h.len,λj hj=>by rw [po,pG hj];exact h.cell j oM⟩
theorem qC.step {R:List Int} {m f:Nat} {l:List Int} {k i:Nat} (h:qC R m f l k i) (hf:f<m) (hm:l.length <= m) (hk:k <= i) (hi:i+1<l.length):qC (R.set ((f+i) % m) (ax l (i+1))) m f l k (i+1):=by
 have hlt:(f+i) % m<R.length:=by rw [h.len];exact Nat.mod_lt _ oM
 refine ⟨by rw [List.length_set];exact h.len,λj hj=>?_⟩
 rw [pn hlt]
 by_cases e:j=i
 ·subst e;rw [pG rfl,po,nG oM]
 ·have e2:¬ ((f+i) % m=(f+j) % m):=by
   rw [oW hf oM,oW hf oM]
   split<;>split<;>omega
  rw [nG e2]
  exact h.cell j oM
theorem qC.done {R:List Int} {m f:Nat} {l:List Int} {k i:Nat} (h:qC R m f l k i) (hf:f<m) (hm:l.length <= m) (hk:k<l.length) (hi:l.length <= i+1):nF R m f (l.eraseIdx k):=by
 have hl:(l.eraseIdx k).length=l.length - 1:=List.length_eraseIdx_of_lt hk
 exact ⟨h.len,hf,by omega,λj hj=>h.cell j oM⟩
/-- The list in two pieces of the ring. -/
theorem nF.two {R:List Int} {m f:Nat} {l:List Int} (h:nF R m f l):l=(R.drop f).take l.length++R.take (l.length - (m - f)):=by
 have hf:=h.first
 have hR:=h.len
 have hfit:=h.fits
 apply List.ext_getElem?
 intro i
 by_cases hi:i<l.length
 ·have hc:=h.cell i hi
  rw [oW hf oM] at hc
  have hl:l[i]?=sS (ax l i):=by simp [ax,List.getD,hi]
  rw [hl,<- hc]
  by_cases h1:f+i<m
  ·rw [pG h1,List.getElem?_append_left (by simp;omega),List.getElem?_take,pG hi,List.getElem?_drop]
   simp [ax,List.getD,show f+i<R.length by omega]
  ·have hl2:((R.drop f).take l.length).length=m - f:=by simp;omega
   rw [nG h1,List.getElem?_append_right oM,hl2,List.getElem?_take,pG oM]
   have e:i - (m - f)=f+i - m:=by omega
   rw [e]
   simp [ax,List.getD,show f+i - m<R.length by omega]
 ·have h1:l[i]?=none:=List.getElem?_eq_none oM
  rw [h1]
  symm
  apply List.getElem?_eq_none
  simp
  omega
end Go.Proofs.YtaakgpnmfkmdoaaGreatDoor
namespace Go.Proofs
open Go.Shelf
def YtaakgpnmfkmdoaaGreatDoor.tzL_ren:Go.Shelf.Ren:=⟨fun|29=>217|n=>n,fun|22=>28|3=>3|4=>4|25=>150|54=>333|0=>0|5=>5|n=>n,fun|1=>0|n=>n⟩
theorem YtaakgpnmfkmdoaaGreatDoor.tzL:Go.Proofs.Lays7.n29 Tryz.prog YtaakgpnmfkmdoaaGreatDoor.tzL_ren:={
 mixed:=by kernel_rfl
 f29:=Tryz.func217.trans (congrArg some (by kernel_rfl))
 t0:=Tryz.underlying0
 a0:=Tryz.isAgg0
 z0:=Tryz.sizeOf0
 v0:=Tryz.zeroValue0
 i0:=by kernel_rfl
 t3:=Tryz.underlying3
 a3:=Tryz.isAgg3
 z3:=Tryz.sizeOf3
 v3:=Tryz.zeroValue3
 i3:=by kernel_rfl
 t4:=Tryz.underlying4
 a4:=Tryz.isAgg4
 z4:=Tryz.sizeOf4
 v4:=Tryz.zeroValue4
 i4:=by kernel_rfl
 t5:=Tryz.underlying5
 a5:=Tryz.isAgg5
 z5:=Tryz.sizeOf5
 v5:=Tryz.zeroValue5
 i5:=by kernel_rfl
 t22:=Tryz.underlying28
 a22:=Tryz.isAgg28
 z22:=Tryz.sizeOf28
 v22:=Tryz.zeroValue28
 i22:=by kernel_rfl
 t25:=Tryz.underlying150
 a25:=Tryz.isAgg150
 z25:=Tryz.sizeOf150
 v25:=Tryz.zeroValue150
 i25:=by kernel_rfl
 t54:=Tryz.underlying333
 a54:=Tryz.isAgg333
 z54:=Tryz.sizeOf333
 g1:=by kernel_rfl }
end Go.Proofs
namespace Go.Proofs.YtaakgpnmfkmdoaaGreatDoor
set_option linter.unusedVariables false
set_option linter.unusedSimpArgs false
set_option maxRecDepth 100000
set_option maxHeartbeats 20000000
open Go.RowKit
open Go.Proofs.Tryz renaming prog → tp
open List renaming setIfInBounds_toArray → sA, set_cons_zero → sB, set_cons_succ → sC
open Go renaming World → wW
open Go.Value renaming pointer → vp, bool → vb, int → vi
open Go.IntKind renaming i64 → iQ, u64 → uQ
open Option renaming none → nN, some → sS
open Bool renaming true → tQ, false → fF
open Int renaming eq_ofNat_of_zero_le → iN
def aK (v:Value) (w:wW) (e:Ending) (w':wW):Prop:=e=.returned v /\ af [] w w'
end Go.Proofs.YtaakgpnmfkmdoaaGreatDoor
namespace Go.Proofs
open Go.Shelf
def YtaakgpnmfkmdoaaGreatDoor.keysL_ren:Go.Shelf.Ren:=⟨fun|7=>361|10=>368|n=>n,fun|23=>254|26=>3|3=>2|28=>385|0=>0|27=>384|33=>38|4=>4|n=>n,fun|n=>n⟩
theorem YtaakgpnmfkmdoaaGreatDoor.keysL:Go.Proofs.SlLaysZI.n7 Tryz.prog YtaakgpnmfkmdoaaGreatDoor.keysL_ren:={
 mixed:=by kernel_rfl
 f7:=⟨Tryz.f361.name,by decide,Tryz.func361.trans (congrArg some (by kernel_rfl))⟩
 f10:=⟨Tryz.f368.name,by decide,Tryz.func368.trans (congrArg some (by kernel_rfl))⟩
 t0:=Tryz.underlying0
 a0:=Tryz.isAgg0
 z0:=Tryz.sizeOf0
 v0:=Tryz.zeroValue0
 t4:=Tryz.underlying4
 a4:=Tryz.isAgg4
 z4:=Tryz.sizeOf4
 v4:=Tryz.zeroValue4
 t23:=Tryz.underlying254
 a23:=Tryz.isAgg254
 z23:=Tryz.sizeOf254
 v23:=Tryz.zeroValue254
 t26:=Tryz.underlying3
 a26:=Tryz.isAgg3
 z26:=Tryz.sizeOf3
 v26:=Tryz.zeroValue3
 t27:=Tryz.underlying384
 a27:=Tryz.isAgg384
 z27:=Tryz.sizeOf384
 v27:=Tryz.zeroValue384
 t28:=Tryz.underlying385
 a28:=Tryz.isAgg385
 z28:=Tryz.sizeOf385
 v28:=Tryz.zeroValue385
 t33:=Tryz.underlying38
 a33:=Tryz.isAgg38
 z33:=Tryz.sizeOf38
 v33:=Tryz.zeroValue38 }
def YtaakgpnmfkmdoaaGreatDoor.collectL_ren:Go.Shelf.Ren:=⟨fun|8=>360|11=>367|n=>n,fun|26=>3|28=>385|24=>143|0=>0|33=>38|4=>4|n=>n,fun|n=>n⟩
theorem YtaakgpnmfkmdoaaGreatDoor.collectL:Go.Proofs.SlLaysZI.n8 Tryz.prog YtaakgpnmfkmdoaaGreatDoor.collectL_ren:={
 mixed:=by kernel_rfl
 f8:=⟨Tryz.f360.name,by decide,Tryz.func360.trans (congrArg some (by kernel_rfl))⟩
 f11:=⟨Tryz.f367.name,by decide,Tryz.func367.trans (congrArg some (by kernel_rfl))⟩
 t0:=Tryz.underlying0
 a0:=Tryz.isAgg0
 z0:=Tryz.sizeOf0
 v0:=Tryz.zeroValue0
 t24:=Tryz.underlying143
 a24:=Tryz.isAgg143
 z24:=Tryz.sizeOf143
 v24:=Tryz.zeroValue143
 t26:=Tryz.underlying3
 a26:=Tryz.isAgg3
 z26:=Tryz.sizeOf3
 v26:=Tryz.zeroValue3
 t28:=Tryz.underlying385
 a28:=Tryz.isAgg385
 z28:=Tryz.sizeOf385
 v28:=Tryz.zeroValue385
 i26:=by kernel_rfl }
end Go.Proofs
namespace Go.Proofs.YtaakgpnmfkmdoaaGreatDoor
set_option linter.unusedVariables false
set_option linter.unusedSimpArgs false
set_option maxRecDepth 100000
set_option maxHeartbeats 20000000
open Go.RowKit
open Go.Proofs.Tryz renaming prog → tp
open List renaming setIfInBounds_toArray → sA, set_cons_zero → sB, set_cons_succ → sC
open Go renaming World → wW
open Go.Value renaming pointer → vp, bool → vb, int → vi
open Go.IntKind renaming i64 → iQ, u64 → uQ
open Option renaming none → nN, some → sS
open Bool renaming true → tQ, false → fF
open Int renaming eq_ofNat_of_zero_le → iN
end Go.Proofs.YtaakgpnmfkmdoaaGreatDoor
namespace Go.Proofs
open Go.Shelf
def YtaakgpnmfkmdoaaGreatDoor.dropL_ren:Go.Shelf.Ren:=⟨fun|10=>314|6=>240|n=>n,fun|22=>143|23=>3|25=>38|3=>3|4=>4|0=>0|n=>n,fun|n=>n⟩
theorem YtaakgpnmfkmdoaaGreatDoor.dropL:Go.Proofs.SlLaysH.n10 Tryz.prog YtaakgpnmfkmdoaaGreatDoor.dropL_ren:={
 mixed:=by kernel_rfl
 f6:=⟨Tryz.f240.name,by decide,Tryz.func240.trans (congrArg some (by kernel_rfl))⟩
 f10:=⟨Tryz.f314.name,by decide,Tryz.func314.trans (congrArg some (by kernel_rfl))⟩
 t0:=Tryz.underlying0
 a0:=Tryz.isAgg0
 z0:=Tryz.sizeOf0
 v0:=Tryz.zeroValue0
 t3:=Tryz.underlying3
 a3:=Tryz.isAgg3
 z3:=Tryz.sizeOf3
 v3:=Tryz.zeroValue3
 t4:=Tryz.underlying4
 a4:=Tryz.isAgg4
 z4:=Tryz.sizeOf4
 v4:=Tryz.zeroValue4
 t22:=Tryz.underlying143
 a22:=Tryz.isAgg143
 z22:=Tryz.sizeOf143
 v22:=Tryz.zeroValue143
 a23:=Tryz.isAgg3
 z23:=Tryz.sizeOf3
 t25:=Tryz.underlying38
 a25:=Tryz.isAgg38
 z25:=Tryz.sizeOf38
 v25:=Tryz.zeroValue38 }
end Go.Proofs
namespace Go.Proofs.YtaakgpnmfkmdoaaGreatDoor
set_option linter.unusedVariables false
set_option linter.unusedSimpArgs false
set_option maxRecDepth 100000
set_option maxHeartbeats 20000000
open Go.RowKit
open Go.Proofs.Tryz renaming prog → tp
open List renaming setIfInBounds_toArray → sA, set_cons_zero → sB, set_cons_succ → sC
open Go renaming World → wW
open Go.Value renaming pointer → vp, bool → vb, int → vi
open Go.IntKind renaming i64 → iQ, u64 → uQ
open Option renaming none → nN, some → sS
open Bool renaming true → tQ, false → fF
open Int renaming eq_ofNat_of_zero_le → iN
/-- A struct of type T at block b, whose one field is a slice over the row r of 64-bit numbers l. -/
structure bM (T:Nat) (w:wW) (b r:Nat) (l:List Int):Prop where
 hb:w.heap[b]?=sS (.cells #[.slice (sS ⟨r,0,nN⟩) l.length l.length] T (0,0))
 hr:w.heap[r]?=sS (.cells (fG .i64 l) 2 (0,0))
 ne:r≠b
 pos:1 <= l.length
 le:l.length <= 64
 inb:∀ i,i<l.length -> bD (ax l i)
theorem bM.keep {T:Nat} {S:List Nat} {w w':wW} {b r:Nat} {l:List Int} (h:bM T w b r l) (m:af S w w') (hb:b∉S) (hr:r∉S):bM T w' b r l:=
 ⟨m.keep h.hb hb,m.keep h.hr hr,h.ne,h.pos,h.le,h.inb⟩
theorem bM.alloc {T:Nat} {w:wW} {b r:Nat} {l:List Int} (h:bM T w b r l) (o:Obj):bM T (w.alloc o) b r l:=h.keep ((af.refl [] w).alloc o) sM sM
def mayE (l:List Int) (c:Int):Int:=if 0 <= c /\ c<l.length then 0 else 3
def iC (l:List Int) (c n:Int):Int:=if 0 <= c /\ c<l.length then addE (ax l c.toNat) n else 3
def jd (l:List Int) (c n:Int):List Int:=if (0 <= c /\ c<l.length) /\ bD (ax l c.toNat+n) then l.set c.toNat (ax l c.toNat+n) else l
def wF (l:List Int) (c:Int):Int:=if 0 <= c /\ c<l.length then ax l c.toNat else 0
def gx (l:List Int) (f t:Int):Int:=if (0 <= f /\ f<l.length) /\ (0 <= t /\ t<l.length) then (if f=t then 2 else addE (ax l t.toNat) (ax l f.toNat)) else 3
def fN (l:List Int) (f t:Int):List Int:=
 if ((0 <= f /\ f<l.length) /\ (0 <= t /\ t<l.length)) /\ f≠t /\ bD (ax l t.toNat+ax l f.toNat) then (l.set t.toNat (ax l t.toNat+ax l f.toNat)).set f.toNat 0 else l
def oR (l:List Int):Int:=if bD l.sum then l.sum else 0
def sq (l:List Int):Int:=if bD l.sum then 0 else 16
theorem Aw (l:List Int) (c n:Int):(jd l c n).length=l.length:=by unfold jd;split<;>simp
theorem oS (l:List Int) (c n:Int):(fN l c n).length=l.length:=by unfold fN;split<;>simp
theorem bM.set {T:Nat} {w:wW} {b r:Nat} {l:List Int} (h:bM T w b r l) (i:Nat) (v:Int) (hv:bD v):bM T (w.setCell ⟨r,i,nN⟩ (vi iQ v)) b r (l.set i v):=by
 refine ⟨?_,?_,h.ne,by simpa using h.pos,by simpa using h.le,?_⟩
 ·rw [bw (Ne.symm h.ne),h.hb];simp
 ·rw [bm h.hr,uq]
 ·intro j hj
  rw [List.length_set] at hj
  by_cases e:i<l.length
  ·rw [pn e]
   split
   ·exact hv
   ·exact h.inb j hj
  ·rw [List.set_eq_of_length_le oM];exact h.inb j hj
theorem gq (b r:Nat) (l:List Int) (c:Int) (w:wW) (h:bM 147 w b r l):
  Calls tp 283 #[vp (sS ⟨b,0,nN⟩),vi iQ c] w (ay (vi iQ (mayE l c)) w):=by
 have hlp:=h.pos
 have hll:=h.le
 have c0:w.cell? ⟨b,0,nN⟩=sS (.slice (sS ⟨r,0,nN⟩) l.length l.length):=ad h.hb 0
 clear h
 by_cases hc:0 <= c /\ c<l.length
 ·have hE:mayE l c=0:=by simp [mayE,hc]
  rw [hE]
  clear hE
  obtain ⟨hc0,hc1⟩:=hc
  go_in
  go_wp2
  go_ret
  exact ay.of (rfl) dz
 ·have hE:mayE l c=3:=by simp [mayE,hc]
  rw [hE]
  clear hE
  have hc':c<0 \/ (0 <= c /\ (l.length:Int) <= c):=by omega
  clear hc
  rcases hc' with h1|⟨h1,h2⟩
  all_goals
   go_in
   go_wp2
   go_ret
   exact ay.of (rfl) dz
theorem mZ (b r:Nat) (l:List Int) (c n:Int) (hn:bD n) (w:wW) (h:bM 147 w b r l):
  Calls tp 226 #[vp (sS ⟨b,0,nN⟩),vi iQ c,vi iQ n] w (bG (vi iQ (iC l c n)) [r] w λw'=>bM 147 w' b r (jd l c n)):=by
 have hM:=gq b r l c w h
 have hlp:=h.pos
 have hll:=h.le
 have c0:w.cell? ⟨b,0,nN⟩=sS (.slice (sS ⟨r,0,nN⟩) l.length l.length):=ad h.hb 0
 by_cases hc:0 <= c /\ c<l.length
 ·have hc':=hc
  obtain ⟨hc0,hc1⟩:=hc
  obtain ⟨c,rfl⟩:=iN hc0
  have hM':mayE l c=0:=by simp [mayE,hc']
  rw [hM'] at hM
  have hc2:c<l.length:=by omega
  have cc:w.cell? ⟨r,c,nN⟩=sS (vi iQ (ax l c)):=(ad h.hr c).trans (cx oM)
  have ff:w.frozen? ⟨r,c,nN⟩=fF:=aD h.hr c
  have hA:=λw=>Je (ax l c) n w (h.inb c hc2) hn
  by_cases hI:bD (ax l c+n)
  ·have hE:iC l c n=0:=by simp [iC,addE,hc',hI]
   have hS:jd l c n=l.set c (ax l c+n):=by simp only [jd,Int.toNat_natCast];rw [pG ⟨hc',hI⟩]
   have e1:tw (ax l c) n=ax l c+n:=by simp [tw,hI]
   have e2:addE (ax l c) n=0:=by simp [addE,hI]
   rw [hE,hS]
   rw [e1,e2] at hA
   have hset:=λk=>bM.set (w:=w.drewN k) ⟨h.hb,h.hr,h.ne,h.pos,h.le,h.inb⟩ c _ hI
   clear e1 e2 hE hS hM' hI
   go_in
   go_wp2_with (go_at_call 283;refine hM.r λk=>?_)
   go_wp2_with (go_at_call 284;refine (hA _).r λk2=>?_)
   go_ret
   exact bG.of rfl ((mR.drewN _).setCell sM _) (hset _)
  ·have hE:iC l c n=16:=by simp [iC,addE,hc',hI]
   have hS:jd l c n=l:=by simp only [jd,Int.toNat_natCast];rw [nG (λx=>hI x.2)]
   have e1:tw (ax l c) n=0:=by simp [tw,hI]
   have e2:addE (ax l c) n=16:=by simp [addE,hI]
   rw [hE,hS]
   rw [e1,e2] at hA
   clear e1 e2 hE hS hM' hI
   go_in
   go_wp2_with (go_at_call 283;refine hM.r λk=>?_)
   go_wp2_with (go_at_call 284;refine (hA _).r λk2=>?_)
   go_ret
   exact bG.of rfl (mR.drewN _) ⟨h.hb,h.hr,h.ne,h.pos,h.le,h.inb⟩
 ·have hM':mayE l c=3:=by simp [mayE,hc]
  have hE:iC l c n=3:=by simp [iC,hc]
  have hS:jd l c n=l:=by unfold jd;rw [nG (λx=>hc x.1)]
  rw [hM'] at hM
  rw [hE,hS]
  clear hE hS hM' hc
  go_in
  go_wp2_with (go_at_call 283;refine hM.r λk=>?_)
  go_ret
  exact bG.of rfl (mR.drewN _) ⟨h.hb,h.hr,h.ne,h.pos,h.le,h.inb⟩
theorem bM.same {T:Nat} {w w':wW} {b r:Nat} {l:List Int} (h:bM T w b r l) (e:w'.heap=w.heap):bM T w' b r l:=
 ⟨by rw [e];exact h.hb,by rw [e];exact h.hr,h.ne,h.pos,h.le,h.inb⟩
theorem xm (b r:Nat) (l:List Int) (c:Int) (w:wW) (h:bM 147 w b r l):
  Calls tp 282 #[vp (sS ⟨b,0,nN⟩),vi iQ c] w (ay (.tuple #[vi iQ (wF l c),vi iQ (mayE l c)]) w):=by
 have hM:=gq b r l c w h
 have hlp:=h.pos
 have hll:=h.le
 have c0:w.cell? ⟨b,0,nN⟩=sS (.slice (sS ⟨r,0,nN⟩) l.length l.length):=ad h.hb 0
 by_cases hc:0 <= c /\ c<l.length
 ·have hc':=hc
  obtain ⟨hc0,hc1⟩:=hc
  obtain ⟨c,rfl⟩:=iN hc0
  have hM':mayE l c=0:=by simp [mayE,hc']
  have hG:wF l c=ax l c:=by simp [wF,hc']
  rw [hM'] at hM ⊢
  rw [hG]
  have hc2:c<l.length:=by omega
  have cc:w.cell? ⟨r,c,nN⟩=sS (vi iQ (ax l c)):=(ad h.hr c).trans (cx oM)
  have ff:w.frozen? ⟨r,c,nN⟩=fF:=aD h.hr c
  clear hM' hG
  go_in
  go_wp2_with (go_at_call 283;refine hM.r λk=>?_)
  go_ret2
  exact ay.of (rfl) dz
 ·have hM':mayE l c=3:=by simp [mayE,hc]
  have hG:wF l c=0:=by simp [wF,hc]
  rw [hM'] at hM ⊢
  rw [hG]
  clear hM' hG hc
  go_in
  go_wp2_with (go_at_call 283;refine hM.r λk=>?_)
  go_ret2
  exact ay.of (rfl) dz
theorem CK (b r:Nat) (l:List Int) (f t:Int) (w:wW) (h:bM 147 w b r l):
  Calls tp 302 #[vp (sS ⟨b,0,nN⟩),vi iQ f,vi iQ t] w (bG (vi iQ (gx l f t)) [r] w λw'=>bM 147 w' b r (fN l f t)):=by
 have hlp:=h.pos
 have hll:=h.le
 have c0:w.cell? ⟨b,0,nN⟩=sS (.slice (sS ⟨r,0,nN⟩) l.length l.length):=ad h.hb 0
 by_cases hf:0 <= f /\ f<l.length
 ·by_cases ht:0 <= t /\ t<l.length
  ·have hM:mayE l f=0:=by simp [mayE,hf]
   have hM2:mayE l t=0:=by simp [mayE,ht]
   have hf':=hf
   have ht':=ht
   obtain ⟨hf0,hf1⟩:=hf
   obtain ⟨ht0,ht1⟩:=ht
   obtain ⟨f,rfl⟩:=iN hf0
   obtain ⟨t,rfl⟩:=iN ht0
   by_cases e:f=t
   ·subst e
    rw [show gx l f f=2 by simp [gx,hf'],show fN l f f=l by unfold fN;rw [nG (λx=>x.2.1 rfl)]]
    go_in
    go_wp2_with (go_at_call 283;refine (gq b r l _ _ (by exact h.same rfl)).r λk=>?_)
    go_ret
    exact bG.of rfl (mR.drewN _) ⟨h.hb,h.hr,h.ne,h.pos,h.le,h.inb⟩
   ·have e':((f:Int)==(t:Int))=fF:=by simp;omega
    have hf2:f<l.length:=by omega
    have cc:w.cell? ⟨r,f,nN⟩=sS (vi iQ (ax l f)):=(ad h.hr f).trans (cx oM)
    have ff:w.frozen? ⟨r,f,nN⟩=fF:=aD h.hr f
    have hA:=λk=>mZ b r l t (ax l f) (h.inb f hf2) (w.drewN k) ⟨h.hb,h.hr,h.ne,h.pos,h.le,h.inb⟩
    by_cases hI:bD (ax l t+ax l f)
    ·rw [show gx l f t=0 by simp [gx,addE,hf',ht',hI];omega,show fN l f t=(l.set t (ax l t+ax l f)).set f 0 by unfold fN;rw [pG ⟨⟨hf',ht'⟩,by omega,hI⟩];rfl]
     rw [show iC l t (ax l f)=0 by simp [iC,addE,ht',hI],show jd l t (ax l f)=l.set t (ax l t+ax l f) by unfold jd;rw [pG ⟨ht',hI⟩];rfl] at hA
     clear hI
     go_in
     go_wp2_with (go_at_call 283;refine (gq b r l _ _ (by exact h.same rfl)).r λk=>?_)
     go_wp2_with (go_at_call 226;refine (hA _).mono ?_;rintro e w1 ⟨rfl,m1,x1⟩;have c1:w1.cell? ⟨b,0,nN⟩=sS (.slice (sS ⟨r,0,nN⟩) l.length l.length):=(by have:=ad x1.hb 0;simpa using this);have cc1:w1.cell? ⟨r,f,nN⟩=sS (vi iQ (ax (l.set t (ax l t+ax l f)) f)):=(ad x1.hr f).trans (cx (by simpa using hf2));have ff1:w1.frozen? ⟨r,f,nN⟩=fF:=aD x1.hr f)
     go_ret
     exact bG.of rfl (((mR.drewN _).trans m1 sM).setCell sM _) (x1.set f 0 dE)
    ·rw [show gx l f t=16 by simp [gx,addE,hf',ht',hI];omega,show fN l f t=l by unfold fN;rw [nG (λx=>hI x.2.2)]]
     rw [show iC l t (ax l f)=16 by simp [iC,addE,ht',hI],show jd l t (ax l f)=l by unfold jd;rw [nG (λx=>hI x.2)]] at hA
     clear hI
     go_in
     go_wp2_with (go_at_call 283;refine (gq b r l _ _ (by exact h.same rfl)).r λk=>?_)
     go_wp2_with (go_at_call 226;refine (hA _).mono ?_;rintro e w1 ⟨rfl,m1,x1⟩)
     go_ret
     exact bG.of rfl ((mR.drewN _).trans m1 sM) x1
  ·have hM:mayE l f=0:=by simp [mayE,hf]
   have hM2:mayE l t=3:=by simp [mayE,ht]
   rw [show gx l f t=3 by unfold gx;rw [nG (λx=>ht x.2)],show fN l f t=l by unfold fN;rw [nG (λx=>ht x.1.2)]]
   clear hf ht
   go_in
   go_wp2_with (go_at_call 283;refine (gq b r l _ _ (by exact h.same rfl)).r λk=>?_)
   go_ret
   exact bG.of rfl (mR.drewN _) ⟨h.hb,h.hr,h.ne,h.pos,h.le,h.inb⟩
 ·have hM:mayE l f=3:=by simp [mayE,hf]
  rw [show gx l f t=3 by unfold gx;rw [nG (λx=>hf x.1)],show fN l f t=l by unfold fN;rw [nG (λx=>hf x.1.1)]]
  clear hf
  go_in
  go_wp2_with (go_at_call 283;refine (gq b r l _ _ (by exact h.same rfl)).r λk=>?_)
  go_ret
  exact bG.of rfl (mR.drewN _) ⟨h.hb,h.hr,h.ne,h.pos,h.le,h.inb⟩
theorem LB:(tp.info? 2).map (λi=>(i.zero,i.size,i.bytes))=sS (sS (vi iQ 0),1,8):=by kernel_rfl
theorem JH (n:Nat):∀ i,i<(List.replicate n (0:Int)).length -> bD (ax (List.replicate n 0) i):=by
 intro i _
 rw [Ev];decide
theorem oN (n:Nat) (w:wW) (h1:1 <= n) (h2:n <= 64):
  Calls tp 60 #[vi iQ n] w (bG (.tuple #[vp (sS ⟨w.heap.size+1,0,nN⟩),vi iQ 0]) [] w λw'=>w.heap.size+1<w'.heap.size /\ bM 147 w' (w.heap.size+1) w.heap.size (List.replicate n 0)):=by
 have hmk:=λw=>Go.run_make_row' (P:=tp) 145 2 (vi iQ 0) 8 Tryz.underlying145 LB rfl .i64 .i64 n oM oM w
 go_in
 go_wp2
 go_ret2
 refine bG.of ?_ (af.alloc (af.alloc mR _) _) ⟨?_,?_,?_,by omega,by simpa using h1,by simpa using h2,JH n⟩
 ·simp
 ·simp
 ·have:=ai (w.alloc (Obj.cells (madeCells #[vi iQ 0] n) 2)) (Obj.cells #[.slice (sS ⟨w.heap.size,0,nN⟩) n n] 147)
  simpa using this
 ·rw [<- qL];exact dm (ai _ _)
theorem Ia (x y:Int) (hx:0 <= x) (hy:0 <= y) (w:wW):
  (callFunc 83 #[vi uQ x,vi uQ y,vi uQ 0]).run tp w=.ok (.value (.tuple #[vi uQ ((x+y) % 18446744073709551616),vi uQ ((x+y) / 18446744073709551616)])) w:=by
 rw [run_callFunc_extern Tryz.func83 kz kz kz (e:=add64Entry) kz,run_add64 x y 0 hx hy oM oM]
 simp [Result.andThen]
theorem DZ (L x:Int) (hL:0 <= L) (hM:L<18446744073709551616) (hx:bD x) (w:wW):∃ L' C:Int,(0 <= L' /\ L'<18446744073709551616 /\ 0 <= C /\ C <= 1 /\ L'+C * 18446744073709551616=L+x+(if x<0 then 18446744073709551616 else 0)) /\
  (callFunc 83 #[vi uQ L,vi uQ (IntKind.u64.wrap x),vi uQ 0]).run tp w=.ok (.value (.tuple #[vi uQ L',vi uQ C])) w:=by
 have hw:IntKind.u64.wrap x=x % 18446744073709551616:=by simp [IntKind.wrap,IntKind.signed,IntKind.bits]
 obtain ⟨h1,h2⟩:=hx
 refine ⟨_,_,?_,Ia L (IntKind.u64.wrap x) hL (by rw [hw];omega) w⟩
 rw [hw]
 split<;>omega
theorem wD (l:List Int) (k:Nat) (h:k<l.length):(l.take (k+1)).sum=(l.take k).sum+ax l k:=by
 rw [List.take_succ_eq_append_getElem h,List.sum_append]
 simp [ax,List.getD,h]
theorem xl (b r:Nat) (l:List Int) (w:wW) (h:bM 147 w b r l):
  Calls tp 21 #[vp (sS ⟨b,0,nN⟩)] w (ay (.tuple #[vi iQ (oR l),vi iQ (sq l)]) w):=by
 have hlp:=h.pos
 have hll:=h.le
 have c0:w.cell? ⟨b,0,nN⟩=sS (.slice (sS ⟨r,0,nN⟩) l.length l.length):=ad h.hb 0
 have cr:∀ i,i<l.length -> w.cell? ⟨r,i,nN⟩=sS (vi iQ (ax l i)):=λi hi=>(ad h.hr i).trans (cx hi)
 have hin:=h.inb
 clear h
 go_in
 go_wp2
 go_loopg [4,5,17] l.length (λg hi lo i wr=>∃ (k:Nat) (H L:Int),i=vi iQ k /\ k+g=l.length /\ hi=vi iQ H /\ lo=vi uQ L /\ Hid (H * 18446744073709551616+L=(l.take k).sum) /\ 0 <= L /\ L<18446744073709551616 /\ -(k:Int) <= H /\ H <= k /\ w=wr)
 case atStart=>exact ⟨0,0,0,rfl,by omega,rfl,rfl,rfl,by omega,by omega,by omega,by omega,rfl⟩
 case round=>
  obtain ⟨k,H,L,rfl,hk,rfl,rfl,hS,hL0,hL1,hH0,hH1,rfl⟩:=hrel
  by_cases hkl:k<l.length
  ·have ck:=cr k hkl
   have hn:=hin k hkl
   have hT:=zh (wD l k hkl)
   clear cr hin
   obtain ⟨L',C,hB,hadd⟩:=DZ L (ax l k) hL0 hL1 hn w
   obtain ⟨hB1,hB2,hB3,hB4,hB5⟩:=hB
   have hB5:=zh hB5
   obtain ⟨hn1,hn2⟩:=hn
   generalize ax l k=x at *
   go_wp2
   go_roundg (gk - 1)
   case measure=>omega
   case rel=>
    have h5:=hB5.out
    have hT':=hT.out
    have hS':=hS.out
    refine ⟨k+1,_,L',by go_num,by omega,rfl,rfl,?_,by omega,by omega,?_,?_,rfl⟩
    ·show _=_
     rw [hT']
     split at h5<;>omega
    ·split at h5<;>omega
    ·split at h5<;>omega
  ·have hk':k=l.length:=by omega
   have hS':=hS.out
   rw [hk',List.take_length] at hS'
   clear cr hin hS
   by_cases hL:L<9223372036854775808
   ·by_cases hH:H=0
    ·subst hH
     have e1:oR l=L:=(pG (show bD l.sum by unfold bD;omega)).trans oM
     have e2:sq l=0:=pG (show bD l.sum by unfold bD;omega)
     have E1:=zh e1
     have E2:=zh e2
     clear e1 e2 hS'
     have e3:L / 9223372036854775808=0:=by omega
     go_wp2
     go_ret2
     exact ay.of (by rw [E1.out,E2.out];rfl) dz
    ·have e1:oR l=0:=nG (show ¬ bD l.sum by unfold bD;omega)
     have e2:sq l=16:=nG (show ¬ bD l.sum by unfold bD;omega)
     have E1:=zh e1
     have E2:=zh e2
     clear e1 e2 hS'
     have e3:L / 9223372036854775808=0:=by omega
     go_wp2
     go_ret2
     exact ay.of (by rw [E1.out,E2.out];rfl) dz
   ·have e4:wrap64 L=L - 18446744073709551616:=by unfold wrap64;omega
    by_cases hH:H=-1
    ·subst hH
     have e1:oR l=L - 18446744073709551616:=(pG (show bD l.sum by unfold bD;omega)).trans oM
     have e2:sq l=0:=pG (show bD l.sum by unfold bD;omega)
     have E1:=zh e1
     have E2:=zh e2
     clear e1 e2 hS'
     have e3:(L - 18446744073709551616) / 9223372036854775808=-1:=by omega
     go_wp2
     go_ret2
     exact ay.of (by rw [E1.out,E2.out];rfl) dz
    ·have e1:oR l=0:=nG (show ¬ bD l.sum by unfold bD;omega)
     have e2:sq l=16:=nG (show ¬ bD l.sum by unfold bD;omega)
     have E1:=zh e1
     have E2:=zh e2
     clear e1 e2 hS'
     have e3:(L - 18446744073709551616) / 9223372036854775808=-1:=by omega
     go_wp2
     go_ret2
     exact ay.of (by rw [E1.out,E2.out];rfl) dz
structure SG where
 l:List Int
 st:Int
structure SG.ok (s:SG):Prop where
 nn:∀ i,0 <= ax s.l i
 sum:s.l.sum <= 1000
 st0:0 <= s.st
 st1:s.st <= 2
def MT (l:List Int) (c:Int):Prop:=0 <= c /\ c<l.length
instance instGate1 (l:List Int) (c:Int):Decidable (MT l c):=by unfold MT;infer_instance
def SG.enterE (s:SG) (c:Int):Int:=if MT s.l c then (if s.st≠0 then 7 else if 1000 <= s.l.sum then 5 else 0) else 3
def SG.enter (s:SG) (c:Int):SG:=if s.enterE c=0 then { s with l:=s.l.set c.toNat (ax s.l c.toNat+1) } else s
def SG.leaveE (s:SG) (c:Int):Int:=if MT s.l c then (if ax s.l c.toNat=0 then 12 else 0) else 3
def SG.leave (s:SG) (c:Int):SG:=if s.leaveE c=0 then { s with l:=s.l.set c.toNat (ax s.l c.toNat - 1) } else s
def SG.wantE (s:SG):Int:=if s.st≠0 then 7 else 0
def SG.want (s:SG):SG:=if s.st≠0 then s else { s with st:=1 }
def SG.takeE (s:SG):Int:=if s.st≠1 then 6 else if 0<s.l.sum then 7 else 0
def SG.take (s:SG):SG:=if s.takeE=0 then { s with st:=2 } else s
def SG.freeE (s:SG):Int:=if s.st=0 then 6 else 0
def SG.free (s:SG):SG:=if s.st=0 then s else { s with st:=0 }
theorem uF (a:Int) (l:List Int):ax (a :: l) 0=a:=by simp [ax]
theorem pj (a:Int) (l:List Int) (i:Nat):ax (a :: l) (i+1)=ax l i:=by simp [ax]
theorem CB:∀ (l:List Int),(∀ i,0 <= ax l i) -> 0 <= l.sum
 | [],_=>by simp
 | a :: l,h=>by
  have h0:=h 0
  rw [uF] at h0
  have:=CB l (λi=>by have:=h (i+1);rwa [pj] at this)
  simp;omega
theorem oq:∀ (l:List Int),(∀ i,0 <= ax l i) -> ∀ i,ax l i <= l.sum
 | [],_,i=>by simp [ax]
 | a :: l,h,0=>by
  rw [uF]
  have:=CB l (λi=>by have:=h (i+1);rwa [pj] at this)
  simp;omega
 | a :: l,h,i+1=>by
  have h0:=h 0
  rw [uF] at h0
  rw [pj]
  have:=oq l (λi=>by have:=h (i+1);rwa [pj] at this) i
  simp;omega
theorem SG.enter_ok {s:SG} (h:s.ok) (c:Int):(s.enter c).ok:=by
 unfold SG.enter
 split
 ·rename_i e
  unfold SG.enterE at e
  split at e
  ·rename_i hc
   obtain ⟨h1,h2⟩:=hc
   split at e
   ·omega
   ·split at e
    ·omega
    ·refine ⟨λi=>?_,?_,h.st0,h.st1⟩
     ·have:=h.nn i
      have:=h.nn c.toNat
      rw [pn oM];split<;>omega
     ·simp only
      rw [mX _ _ _ oM];omega
  ·omega
 ·exact h
theorem SG.leave_ok {s:SG} (h:s.ok) (c:Int):(s.leave c).ok:=by
 unfold SG.leave
 split
 ·rename_i e
  unfold SG.leaveE at e
  split at e
  ·rename_i hc
   obtain ⟨h1,h2⟩:=hc
   split at e
   ·omega
   ·have hs:=h.sum
    refine ⟨λi=>?_,?_,h.st0,h.st1⟩
    ·have:=h.nn i
     have:=h.nn c.toNat
     rw [pn oM];split<;>omega
    ·simp only
     rw [mX _ _ _ oM];omega
  ·omega
 ·exact h
theorem SG.want_ok {s:SG} (h:s.ok):s.want.ok:=by
 unfold SG.want;split
 ·exact h
 ·exact ⟨h.nn,h.sum,by simp,by simp⟩
theorem SG.take_ok {s:SG} (h:s.ok):s.take.ok:=by
 unfold SG.take;split
 ·exact ⟨h.nn,h.sum,by simp,by simp⟩
 ·exact h
theorem SG.free_ok {s:SG} (h:s.ok):s.free.ok:=by
 unfold SG.free;split
 ·exact h
 ·exact ⟨h.nn,h.sum,by simp,by simp⟩
/-- A gate at block g, over a number in parts at block b with the row r. -/
structure di (w:wW) (g b r:Nat) (s:SG):Prop where
 hg:w.heap[g]?=sS (.cells #[vp (sS ⟨b,0,nN⟩),vi iQ s.st] 200 (0,0))
 sp:bM 147 w b r s.l
 nb:g≠b
 nr:g≠r
 ok:s.ok
theorem di.keep {S:List Nat} {w w':wW} {g b r:Nat} {s:SG} (h:di w g b r s) (m:af S w w') (hg:g∉S) (hb:b∉S) (hr:r∉S):di w' g b r s:=
 ⟨m.keep h.hg hg,h.sp.keep m hb hr,h.nb,h.nr,h.ok⟩
theorem di.same {w w':wW} {g b r:Nat} {s:SG} (h:di w g b r s) (e:w'.heap=w.heap):di w' g b r s:=
 ⟨by rw [e];exact h.hg,h.sp.same e,h.nb,h.nr,h.ok⟩
theorem Ci {s:SG} (h:s.ok):bD s.l.sum:=by
 have:=CB s.l h.nn
 have:=h.sum
 unfold bD;omega
theorem wg {s:SG} (h:s.ok) (i:Nat):0 <= ax s.l i /\ ax s.l i <= 1000:=by
 have:=oq s.l h.nn i
 have:=h.sum
 have:=h.nn i
 omega
theorem iH (g b r:Nat) (s:SG) (w:wW) (h:di w g b r s):Calls tp 225 #[vp (sS ⟨g,0,nN⟩)] w (ay (vi iQ s.l.sum) w):=by
 have hst0:=h.ok.st0
 have hst1:=h.ok.st1
 have c0:w.cell? ⟨g,0,nN⟩=sS (vp (sS ⟨b,0,nN⟩)):=ad h.hg 0
 have c1:w.cell? ⟨g,1,nN⟩=sS (vi iQ s.st):=ad h.hg 1
 have f1:w.frozen? ⟨g,1,nN⟩=fF:=aD h.hg 1
 have e1:oR s.l=s.l.sum:=pG (Ci h.ok)
 have e2:=Ci h.ok
 obtain ⟨e3,e4⟩:=e2
 go_in
 go_wp2_with (go_at_call 21;refine (xl b r s.l _ (by exact h.sp.same rfl)).r λk=>?_)
 go_ret
 exact ay.of (rfl) dz
theorem EG (g b r:Nat) (s:SG) (c:Int) (w:wW) (h:di w g b r s):Calls tp 233 #[vp (sS ⟨g,0,nN⟩),vi iQ c] w (ay (vi iQ (wF s.l c)) w):=by
 have hst0:=h.ok.st0
 have hst1:=h.ok.st1
 have c0:w.cell? ⟨g,0,nN⟩=sS (vp (sS ⟨b,0,nN⟩)):=ad h.hg 0
 have c1:w.cell? ⟨g,1,nN⟩=sS (vi iQ s.st):=ad h.hg 1
 have f1:w.frozen? ⟨g,1,nN⟩=fF:=aD h.hg 1
 have hb:-9223372036854775808 <= wF s.l c /\ wF s.l c <= 9223372036854775807:=by
  have:=wg h.ok c.toNat
  unfold wF;split<;>omega
 obtain ⟨e3,e4⟩:=hb
 go_in
 go_wp2_with (go_at_call 282;refine (xm b r s.l _ _ (by exact h.sp.same rfl)).r λk=>?_)
 go_ret
 exact ay.of (rfl) dz
theorem jo (g b r:Nat) (s:SG) (c:Int) (w:wW) (h:di w g b r s):Calls tp 224 #[vp (sS ⟨g,0,nN⟩),vi iQ c] w (ay (vi iQ (mayE s.l c)) w):=by
 have hst0:=h.ok.st0
 have hst1:=h.ok.st1
 have c0:w.cell? ⟨g,0,nN⟩=sS (vp (sS ⟨b,0,nN⟩)):=ad h.hg 0
 have c1:w.cell? ⟨g,1,nN⟩=sS (vi iQ s.st):=ad h.hg 1
 have f1:w.frozen? ⟨g,1,nN⟩=fF:=aD h.hg 1
 go_in
 go_wp2_with (go_at_call 282;refine (xm b r s.l _ _ (by exact h.sp.same rfl)).r λk=>?_)
 go_ret
 exact ay.of (rfl) dz
theorem Hb (g b r:Nat) (s:SG) (w:wW) (h:di w g b r s):Calls tp 143 #[vp (sS ⟨g,0,nN⟩)] w (bG (vi iQ s.wantE) [g] w λw'=>di w' g b r s.want):=by
 have hok:=SG.want_ok h.ok
 have hst0:=h.ok.st0
 have hst1:=h.ok.st1
 have c0:w.cell? ⟨g,0,nN⟩=sS (vp (sS ⟨b,0,nN⟩)):=ad h.hg 0
 have c1:w.cell? ⟨g,1,nN⟩=sS (vi iQ s.st):=ad h.hg 1
 have f1:w.frozen? ⟨g,1,nN⟩=fF:=aD h.hg 1
 by_cases e:s.st=0
 ·have hE:s.wantE=0:=by simp [SG.wantE,e]
  have hS:s.want={ s with st:=1 }:=by simp [SG.want,e]
  rw [hE,hS]
  rw [hS] at hok
  clear hE hS
  have e':(s.st==0)=tQ:=by simp [e]
  have HE:=zh e
  clear e
  go_in
  go_wp2
  go_ret
  refine bG.of rfl (af.setCell mR sM _) ⟨?_,?_,h.nb,h.nr,hok⟩
  ·rw [bm h.hg];simp
  ·exact h.sp.keep (af.setCell (S:=[g]) mR sM _) (by simp [Ne.symm h.nb]) (by simp [Ne.symm h.nr])
 ·have hE:s.wantE=7:=by simp [SG.wantE,e]
  have hS:s.want=s:=by simp [SG.want,e]
  rw [hE,hS]
  have e':(s.st==0)=fF:=by simp [e]
  clear hE hS
  go_in
  go_wp2
  go_ret
  exact bG.of rfl mR h
theorem Hd (g b r:Nat) (s:SG) (w:wW) (h:di w g b r s):Calls tp 177 #[vp (sS ⟨g,0,nN⟩)] w (bG (vi iQ s.freeE) [g] w λw'=>di w' g b r s.free):=by
 have hok:=SG.free_ok h.ok
 have hst0:=h.ok.st0
 have hst1:=h.ok.st1
 have c0:w.cell? ⟨g,0,nN⟩=sS (vp (sS ⟨b,0,nN⟩)):=ad h.hg 0
 have c1:w.cell? ⟨g,1,nN⟩=sS (vi iQ s.st):=ad h.hg 1
 have f1:w.frozen? ⟨g,1,nN⟩=fF:=aD h.hg 1
 by_cases e:s.st=0
 ·have hE:s.freeE=6:=by simp [SG.freeE,e]
  have hS:s.free=s:=by simp [SG.free,e]
  rw [hE,hS]
  clear hE hS
  have e':(s.st==0)=tQ:=by simp [e]
  clear e
  go_in
  go_wp2
  go_ret
  exact bG.of rfl mR h
 ·have hE:s.freeE=0:=by simp [SG.freeE,e]
  have hS:s.free={ s with st:=0 }:=by simp [SG.free,e]
  rw [hE,hS]
  rw [hS] at hok
  have e':(s.st==0)=fF:=by simp [e]
  clear hE hS
  go_in
  go_wp2
  go_ret
  refine bG.of rfl (af.setCell mR sM _) ⟨?_,?_,h.nb,h.nr,hok⟩
  ·rw [bm h.hg];simp
  ·exact h.sp.keep (af.setCell (S:=[g]) mR sM _) (by simp [Ne.symm h.nb]) (by simp [Ne.symm h.nr])
theorem Hc (g b r:Nat) (s:SG) (w:wW) (h:di w g b r s):Calls tp 249 #[vp (sS ⟨g,0,nN⟩)] w (bG (vi iQ s.takeE) [g] w λw'=>di w' g b r s.take):=by
 have hok:=SG.take_ok h.ok
 have hst0:=h.ok.st0
 have hst1:=h.ok.st1
 have c0:w.cell? ⟨g,0,nN⟩=sS (vp (sS ⟨b,0,nN⟩)):=ad h.hg 0
 have c1:w.cell? ⟨g,1,nN⟩=sS (vi iQ s.st):=ad h.hg 1
 have f1:w.frozen? ⟨g,1,nN⟩=fF:=aD h.hg 1
 by_cases e:s.st=1
 ·have e':(s.st==1)=tQ:=by simp [e]
  by_cases hp:0<s.l.sum
  ·have hE:s.takeE=7:=by simp [SG.takeE,e,hp]
   have hS:s.take=s:=by simp [SG.take,hE]
   rw [hE,hS]
   clear hE hS e
   go_in
   go_wp2_with (go_at_call 225;refine (iH g b r s _ (by exact h.same rfl)).r λk=>?_)
   go_ret
   exact bG.of rfl (mR.drewN _) (h.same rfl)
  ·have hE:s.takeE=0:=by simp [SG.takeE,e,hp]
   have hS:s.take={ s with st:=2 }:=by simp [SG.take,hE]
   rw [hE,hS]
   rw [hS] at hok
   clear hE hS e
   go_in
   go_wp2_with (go_at_call 225;refine (iH g b r s _ (by exact h.same rfl)).r λk=>?_)
   go_ret
   refine bG.of rfl (af.setCell (mR.drewN _) sM _) ⟨?_,?_,h.nb,h.nr,hok⟩
   ·rw [bm (w:=w.drewN k) h.hg];simp
   ·exact h.sp.keep (af.setCell (S:=[g]) (mR.drewN _) sM _) (by simp [Ne.symm h.nb]) (by simp [Ne.symm h.nr])
 ·have hE:s.takeE=6:=by simp [SG.takeE,e]
  have hS:s.take=s:=by simp [SG.take,hE]
  rw [hE,hS]
  have e':(s.st==1)=fF:=by simp [e]
  clear hE hS e
  go_in
  go_wp2
  go_ret
  exact bG.of rfl mR h
theorem DM (g b r:Nat) (s:SG) (c:Int) (w:wW) (h:di w g b r s):Calls tp 140 #[vp (sS ⟨g,0,nN⟩),vi iQ c] w (bG (vi iQ (s.enterE c)) [r] w λw'=>di w' g b r (s.enter c)):=by
 have hok:=SG.enter_ok h.ok c
 have hst0:=h.ok.st0
 have hst1:=h.ok.st1
 have c0:w.cell? ⟨g,0,nN⟩=sS (vp (sS ⟨b,0,nN⟩)):=ad h.hg 0
 have c1:w.cell? ⟨g,1,nN⟩=sS (vi iQ s.st):=ad h.hg 1
 have f1:w.frozen? ⟨g,1,nN⟩=fF:=aD h.hg 1
 by_cases hc:MT s.l c
 ·have hM:mayE s.l c=0:=pG hc
  by_cases e:s.st=0
  ·have e':(s.st==0)=tQ:=by simp [e]
   by_cases hs:1000 <= s.l.sum
   ·have hE:s.enterE c=5:=by simp [SG.enterE,hc,e,hs]
    have hS:s.enter c=s:=by simp [SG.enter,hE]
    rw [hE,hS]
    clear hE hS e hc
    go_in
    go_wp2_with (first|(go_at_call 224;refine (jo g b r s c _ (by exact h.same rfl)).r λk=>?_)|(go_at_call 225;refine (iH g b r s _ (by exact h.same rfl)).r λk2=>?_))
    go_ret
    exact bG.of rfl (mR.drewN _) (h.same rfl)
   ·have hE:s.enterE c=0:=by simp [SG.enterE,hc,e,hs]
    have hn:=wg h.ok c.toNat
    have hI:bD (ax s.l c.toNat+1):=by unfold bD;omega
    have hA:iC s.l c 1=0:=by unfold iC addE;rw [pG (show 0 <= c /\ c<s.l.length from hc),pG hI]
    have hL:jd s.l c 1=s.l.set c.toNat (ax s.l c.toNat+1):=pG ⟨hc,hI⟩
    have hS:s.enter c={ s with l:=jd s.l c 1 }:=by simp only [SG.enter,hE,if_true,hL]
    rw [hE,hS]
    rw [hS] at hok
    clear hE hS e hc hL hI
    go_in
    go_wp2_with (first|(go_at_call 224;refine (jo g b r s c _ (by exact h.same rfl)).r λk=>?_)|(go_at_call 225;refine (iH g b r s _ (by exact h.same rfl)).r λk2=>?_)|(go_at_call 226;refine (mZ b r s.l c 1 dE _ (by exact h.sp.same rfl)).mono ?_;rintro e w1 ⟨rfl,m1,x1⟩))
    go_ret
    exact bG.of rfl ((mR.drewN _).trans m1 sM) ⟨m1.keep (w:=w.drewN _) h.hg (by simp [h.nr]),x1,h.nb,h.nr,hok⟩
  ·have e':(s.st==0)=fF:=by simp [e]
   have hE:s.enterE c=7:=by simp [SG.enterE,hc,e]
   have hS:s.enter c=s:=by simp [SG.enter,hE]
   rw [hE,hS]
   clear hE hS e hc
   go_in
   go_wp2_with (go_at_call 224;refine (jo g b r s c _ (by exact h.same rfl)).r λk=>?_)
   go_ret
   exact bG.of rfl (mR.drewN _) (h.same rfl)
 ·have hM:mayE s.l c=3:=nG hc
  have hE:s.enterE c=3:=by simp [SG.enterE,hc]
  have hS:s.enter c=s:=by simp [SG.enter,hE]
  rw [hE,hS]
  clear hE hS hc
  go_in
  go_wp2_with (go_at_call 224;refine (jo g b r s c _ (by exact h.same rfl)).r λk=>?_)
  go_ret
  exact bG.of rfl (mR.drewN _) (h.same rfl)
theorem DL (g b r:Nat) (s:SG) (c:Int) (w:wW) (h:di w g b r s):Calls tp 148 #[vp (sS ⟨g,0,nN⟩),vi iQ c] w (bG (vi iQ (s.leaveE c)) [r] w λw'=>di w' g b r (s.leave c)):=by
 have hok:=SG.leave_ok h.ok c
 have hst0:=h.ok.st0
 have hst1:=h.ok.st1
 have c0:w.cell? ⟨g,0,nN⟩=sS (vp (sS ⟨b,0,nN⟩)):=ad h.hg 0
 have c1:w.cell? ⟨g,1,nN⟩=sS (vi iQ s.st):=ad h.hg 1
 have f1:w.frozen? ⟨g,1,nN⟩=fF:=aD h.hg 1
 by_cases hc:MT s.l c
 ·have hM:mayE s.l c=0:=pG hc
  have hG:wF s.l c=ax s.l c.toNat:=pG hc
  by_cases e:ax s.l c.toNat=0
  ·have hE:s.leaveE c=12:=by simp [SG.leaveE,hc,e]
   have hS:s.leave c=s:=by simp [SG.leave,hE]
   rw [hE,hS]
   rw [e] at hG
   clear hE hS hc e
   go_in
   go_wp2_with (first|(go_at_call 224;refine (jo g b r s c _ (by exact h.same rfl)).r λk=>?_)|(go_at_call 233;refine (EG g b r s c _ (by exact h.same rfl)).r λk2=>?_))
   go_ret
   exact bG.of rfl (mR.drewN _) (h.same rfl)
  ·have e':(ax s.l c.toNat==0)=fF:=by simp [e]
   have hE:s.leaveE c=0:=by simp [SG.leaveE,hc,e]
   have hn:=wg h.ok c.toNat
   have hI:bD (ax s.l c.toNat+-1):=by unfold bD;omega
   have hA:iC s.l c (-1)=0:=by unfold iC addE;rw [pG (show 0 <= c /\ c<s.l.length from hc),pG hI]
   have hL:jd s.l c (-1)=s.l.set c.toNat (ax s.l c.toNat+-1):=pG ⟨hc,hI⟩
   have hS:s.leave c={ s with l:=jd s.l c (-1) }:=by simp only [SG.leave,hE,if_true,hL];rfl
   rw [hE,hS]
   rw [hS] at hok
   clear hE hS e hc hL hI
   go_in
   go_wp2_with (first|(go_at_call 224;refine (jo g b r s c _ (by exact h.same rfl)).r λk=>?_)|(go_at_call 233;refine (EG g b r s c _ (by exact h.same rfl)).r λk2=>?_)|(go_at_call 226;refine (mZ b r s.l c (-1) dE _ (by exact h.sp.same rfl)).mono ?_;rintro e w1 ⟨rfl,m1,x1⟩))
   go_ret
   exact bG.of rfl ((mR.drewN _).trans m1 sM) ⟨m1.keep (w:=w.drewN _) h.hg (by simp [h.nr]),x1,h.nb,h.nr,hok⟩
 ·have hM:mayE s.l c=3:=nG hc
  have hE:s.leaveE c=3:=by simp [SG.leaveE,hc]
  have hS:s.leave c=s:=by simp [SG.leave,hE]
  rw [hE,hS]
  clear hE hS hc
  go_in
  go_wp2_with (go_at_call 224;refine (jo g b r s c _ (by exact h.same rfl)).r λk=>?_)
  go_ret
  exact bG.of rfl (mR.drewN _) (h.same rfl)
/-- A gate of n cores has been made, in new blocks. -/
def LX (n:Nat) (w:wW) (e:Ending) (w':wW):Prop:=
 ∃ g b r,e=.returned (.tuple #[vp (sS ⟨g,0,nN⟩),vi iQ 0]) /\ af [] w w' /\ (w.heap.size <= g /\ w.heap.size <= b /\ w.heap.size <= r) /\ di w' g b r ⟨List.replicate n 0,0⟩
theorem Eh:∀ n,(List.replicate n (0:Int)).sum=0
 | 0=>rfl
 | n+1=>by rw [List.replicate_succ,List.sum_cons,Eh n];rfl
theorem BP (n:Nat) (w:wW) (h1:1 <= n) (h2:n <= 64):Calls tp 62 #[vi iQ n] w (LX n w):=by
 go_in
 go_wp2_with (go_at_call 60;refine (oN n _ h1 h2).mono ?_;rintro e w1 ⟨rfl,m1,hs1,x1⟩)
 go_ret2
 refine ⟨w1.heap.size,w.heap.size+1,w.heap.size,rfl,m1.alloc _,⟨by omega,by omega,by omega⟩,ai _ _,x1.alloc _,by omega,by omega,?_⟩
 exact ⟨λi=>by rw [Ev];omega,by rw [Eh];omega,by simp,by simp⟩
structure aR where
 n:Nat
 d:Nat
 back:Bool
def aR.ok (s:aR):Prop:=s.d <= s.n /\ s.n <= 64
def aR.over (s:aR):Bool:=(s.back&&s.d==0)||(!s.back&&s.d==s.n)
def aR.k (s:aR):Int:=if s.over then 0 else if s.back then s.d - 1 else s.d
def aR.doneE (s:aR):Int:=if s.over then 6 else 0
def aR.done (s:aR):aR:=if s.over then s else if s.back then { s with d:=s.d - 1 } else { s with d:=s.d+1 }
def aR.failE (s:aR):Int:=if s.back||s.over then 6 else 0
def aR.fail (s:aR):aR:=if s.back||s.over then s else { s with back:=true }
def aR.why (s:aR):Int:=if s.over then (if s.back then 11 else 0) else 7
theorem aR.done_ok {s:aR} (h:s.ok):s.done.ok:=by
 obtain ⟨n,d,back⟩:=s
 obtain ⟨h1,h2⟩:=h
 simp only at h1 h2
 unfold aR.done aR.over
 cases back<;>simp only<;>split<;>simp_all [aR.ok]<;>omega
theorem aR.fail_ok {s:aR} (h:s.ok):s.fail.ok:=by
 unfold aR.fail;split<;>exact h
def qA (w:wW) (b:Nat) (s:aR):Prop:=w.heap[b]?=sS (.cells #[vi iQ s.n,vi iQ s.d,vb s.back] 338 (0,0)) /\ s.ok
theorem qA.keep {S:List Nat} {w w':wW} {b:Nat} {s:aR} (h:qA w b s) (m:af S w w') (hb:b∉S):qA w' b s:=⟨m.keep h.1 hb,h.2⟩
theorem gS (b:Nat) (s:aR) (w:wW) (h:qA w b s):
  Calls tp 245 #[vp (sS ⟨b,0,nN⟩)] w (ay (.tuple #[vi iQ s.k,vb s.back,vb s.over]) w):=by
 obtain ⟨h,h1,h2⟩:=h
 have c0:w.cell? ⟨b,0,nN⟩=sS (vi iQ s.n):=ad h 0
 have c1:w.cell? ⟨b,1,nN⟩=sS (vi iQ s.d):=ad h 1
 have c2:w.cell? ⟨b,2,nN⟩=sS (vb s.back):=ad h 2
 have f1:w.frozen? ⟨b,1,nN⟩=fF:=aD h 1
 have f2:w.frozen? ⟨b,2,nN⟩=fF:=aD h 2
 clear h f1 f2
 obtain ⟨n,d,back⟩:=s
 simp only at h1 h2 c0 c1 c2
 cases back
 ·by_cases e:d=n
  ·subst e
   have hd:((d:Int)==(d:Int))=tQ:=by simp
   go_in
   go_wp2
   go_quiet (fail)
   go_wp2
   go_quiet (fail)
   go_wp2
   go_ret3
   exact ay.of (by simp [aR.k,aR.over]) dz
  ·have hd:((d:Int)==(n:Int))=fF:=by simp;omega
   have hd':(d==n)=fF:=by simp;omega
   go_in
   go_wp2
   go_quiet (fail)
   go_wp2
   go_ret3
   exact ay.of (by simp [aR.k,aR.over,hd']) dz
 ·by_cases e:d=0
  ·subst e
   have hd:((0:Int)==(0:Int))=tQ:=by simp
   go_in
   go_wp2
   go_quiet (fail)
   go_wp2
   go_quiet (fail)
   go_wp2
   go_ret3
   exact ay.of (by simp [aR.k,aR.over]) dz
  ·have hd:((d:Int)==(0:Int))=fF:=by simp;omega
   have hd':(d==0)=fF:=by simp;omega
   have hp:(1:Int) <= d:=by omega
   go_in
   go_wp2
   go_quiet (fail)
   go_wp2
   go_ret3
   exact ay.of (by simp [aR.k,aR.over,hd']) dz
theorem LV (b:Nat) (s:aR) (w:wW) (h:qA w b s):
  Calls tp 253 #[vp (sS ⟨b,0,nN⟩)] w (ay (vi iQ s.why) w):=by
 cases ho:s.over
 ·go_in
  go_wp2_with (go_at_call 245;refine (gS b s _ h).r λk=>?_)
  go_ret
  exact ay.of (by simp [aR.why,ho]) dz
 ·cases hb:s.back
  all_goals
   go_in
   go_wp2_with (go_at_call 245;refine (gS b s _ h).r λk=>?_)
   go_ret
   exact ay.of (by simp [aR.why,ho,hb]) dz
theorem Kv (b:Nat) (s:aR) (w:wW) (h:qA w b s):
  Calls tp 252 #[vp (sS ⟨b,0,nN⟩)] w (bG (vi iQ s.doneE) [b] w λw'=>qA w' b s.done):=by
 have hok:=aR.done_ok h.2
 have h':=h
 obtain ⟨h,h1,h2⟩:=h
 have c0:w.cell? ⟨b,0,nN⟩=sS (vi iQ s.n):=ad h 0
 have c1:w.cell? ⟨b,1,nN⟩=sS (vi iQ s.d):=ad h 1
 have c2:w.cell? ⟨b,2,nN⟩=sS (vb s.back):=ad h 2
 have f1:w.frozen? ⟨b,1,nN⟩=fF:=aD h 1
 have f2:w.frozen? ⟨b,2,nN⟩=fF:=aD h 2
 cases ho:s.over
 ·have hE:s.doneE=0:=by simp [aR.doneE,ho]
  have HE:=zh hE;clear hE
  cases hb:s.back
  ·have hD:s.done={ s with d:=s.d+1 }:=by simp [aR.done,ho,hb]
   have HD:=zh hD;clear hD
   go_in
   go_wp2_with (go_at_call 245;refine (gS b s _ h').r λk=>?_)
   go_ret
   refine bG.of (by rw [HE.out];rfl) (af.setCell (af.drewN mR _) sM _) ⟨?_,hok⟩
   rw [Iw,bm (w:=w.drewN k) h 1,HD.out];simp [hb]
  ·have hD:s.done={ s with d:=s.d - 1 }:=by simp [aR.done,ho,hb]
   have HD:=zh hD;clear hD
   have hd:1 <= s.d:=by
    unfold aR.over at ho;rw [hb] at ho;simp at ho;omega
   have hd':(1:Int) <= s.d:=by omega
   go_in
   go_wp2_with (go_at_call 245;refine (gS b s _ h').r λk=>?_)
   go_ret
   refine bG.of (by rw [HE.out];rfl) (af.setCell (af.drewN mR _) sM _) ⟨?_,hok⟩
   rw [Iv hd,bm (w:=w.drewN k) h 1,HD.out];simp [hb]
 ·have hE:s.doneE=6:=by simp [aR.doneE,ho]
  have hD:s.done=s:=by simp [aR.done,ho]
  have HE:=zh hE;clear hE
  have HD:=zh hD;clear hD
  go_in
  go_wp2_with (go_at_call 245;refine (gS b s _ h').r λk=>?_)
  go_ret
  refine bG.of (by rw [HE.out];rfl) (af.drewN mR _) ?_
  rw [HD.out];exact ⟨h,h1,h2⟩
theorem Ku (b:Nat) (s:aR) (w:wW) (h:qA w b s):
  Calls tp 246 #[vp (sS ⟨b,0,nN⟩)] w (bG (vi iQ s.failE) [b] w λw'=>qA w' b s.fail):=by
 have hok:=aR.fail_ok h.2
 have h':=h
 obtain ⟨h,h1,h2⟩:=h
 have c0:w.cell? ⟨b,0,nN⟩=sS (vi iQ s.n):=ad h 0
 have c1:w.cell? ⟨b,1,nN⟩=sS (vi iQ s.d):=ad h 1
 have c2:w.cell? ⟨b,2,nN⟩=sS (vb s.back):=ad h 2
 have f1:w.frozen? ⟨b,1,nN⟩=fF:=aD h 1
 have f2:w.frozen? ⟨b,2,nN⟩=fF:=aD h 2
 cases hb:s.back
 ·cases ho:s.over
  ·have hE:s.failE=0:=by simp [aR.failE,ho,hb]
   have hD:s.fail={ s with back:=true }:=by simp [aR.fail,ho,hb]
   have HE:=zh hE;clear hE
   have HD:=zh hD;clear hD
   go_in
   go_wp2_with (go_at_call 245;refine (gS b s _ h').r λk=>?_)
   go_ret
   refine bG.of (by rw [HE.out];rfl) (af.setCell (af.drewN mR _) sM _) ⟨?_,hok⟩
   rw [bm (w:=w.drewN k) h 2,HD.out];simp
  ·have hE:s.failE=6:=by simp [aR.failE,ho,hb]
   have hD:s.fail=s:=by simp [aR.fail,ho,hb]
   have HE:=zh hE;clear hE
   have HD:=zh hD;clear hD
   go_in
   go_wp2_with (go_at_call 245;refine (gS b s _ h').r λk=>?_)
   go_ret
   refine bG.of (by rw [HE.out];rfl) (af.drewN mR _) ?_
   rw [HD.out];exact ⟨h,h1,h2⟩
 ·have hE:s.failE=6:=by simp [aR.failE,hb]
  have hD:s.fail=s:=by simp [aR.fail,hb]
  have HE:=zh hE;clear hE
  have HD:=zh hD;clear hD
  go_in
  go_wp2_with (go_at_call 245;refine (gS b s _ h').r λk=>?_)
  go_ret
  refine bG.of (by rw [HE.out];rfl) (af.drewN mR _) ?_
  rw [HD.out];exact ⟨h,h1,h2⟩
theorem Kt (n:Nat) (w:wW) (h1:1 <= n) (h2:n <= 64):
  Calls tp 229 #[vi iQ n] w (bG (.tuple #[vp (sS ⟨w.heap.size,0,nN⟩),vi iQ 0]) [] w λw'=>w.heap.size<w'.heap.size /\ qA w' w.heap.size ⟨n,0,fF⟩):=by
 go_in
 go_wp2
 go_ret2
 refine bG.of rfl (af.alloc mR _) ⟨by rw [cH];omega,ai _ _,?_,h2⟩
 simp
structure SH where
 run:Option aR
 up:Bool
 cpu:Int
 by_:Int
 told:Bool
 plan:List Int
structure SH.ok (s:SH):Prop where
 nd:s.plan.Nodup
 rg:∀ i,i∈s.plan -> 0 <= i /\ i<10
 r:∀ r,s.run=sS r -> r.ok
 none:s.run=nN -> s.up=fF /\ s.cpu=0 /\ s.by_=0
def SH.over (s:SH):Bool:=match s.run with|none=>fF|some r=>r.over
def SH.mayE (s:SH):Int:=match s.run with|none=>12|some r=>if r.over then 6 else 0
def planE (k:Int):Int:=if 0 <= k /\ k<10 then 0 else 3
def SH.doPlan (s:SH) (k:Int):SH:=if 0 <= k /\ k<10 /\ k∉s.plan then { s with plan:=s.plan++[k] } else s
def jV (c:Int):Prop:=0 <= c /\ c<64
instance instHot1 (c:Int):Decidable (jV c):=by unfold jV;infer_instance
def SH.beginE (s:SH) (cpu by_:Int):Int:=if s.run.isSome then 7 else if ¬ jV cpu \/ ¬ jV by_ then 3 else if cpu=by_ then 2 else 0
def SH.begin_ (s:SH) (up:Bool) (cpu by_:Int):SH:=if s.beginE cpu by_=0 then { s with run:=sS ⟨if up then 4 else 10,0,fF⟩,up:=up,cpu:=cpu,by_:=by_,told:=false } else s
def SH.failsNow (s:SH) (r:aR):Bool:=!r.back&&!s.told&&decide (r.k∈s.plan)
def SH.step (s:SH):Value:=match s.run with
 | none=>.agg #[vi iQ 0,vb fF,vb fF]
 | some r=>if r.over then .agg #[vi iQ 0,vb fF,vb fF] else .agg #[vi iQ r.k,vb r.back,vb (s.failsNow r)]
def SH.next (s:SH):SH:=match s.run with
 | none=>s
 | some r=>if r.over then s else if s.failsNow r then { s with run:=sS r.fail,told:=true,plan:=s.plan.erase r.k } else { s with told:=true }
def SH.done (s:SH):SH:=match s.run with
 | none=>s
 | some r=>if r.over then s else { s with run:=sS r.done,told:=false }
def SH.endE (s:SH):Int:=match s.run with|none=>12|some r=>if r.over then 0 else 6
def SH.endV (s:SH):Int:=match s.run with|none=>0|some r=>if r.over then r.why else 0
def SH.end_ (s:SH):SH:=match s.run with|none=>s|some r=>if r.over then { s with run:=nN,up:=false,cpu:=0,by_:=0,told:=s.told } else s
theorem SH.doPlan_ok {s:SH} (h:s.ok) (k:Int):(s.doPlan k).ok:=by
 unfold SH.doPlan
 split
 ·rename_i e
  refine ⟨?_,?_,h.r,h.none⟩
  ·refine List.nodup_append.2 ⟨h.nd,by simp,?_⟩
   intro a ha b hb
   simp only [List.mem_singleton] at hb
   subst hb
   exact λq=>e.2.2 (q ▸ ha)
  ·intro i hi
   simp only [List.mem_append,List.mem_singleton] at hi
   rcases hi with hi|rfl
   ·exact h.rg i hi
   ·exact ⟨e.1,e.2.1⟩
 ·exact h
theorem SH.begin_ok {s:SH} (h:s.ok) (up:Bool) (cpu by_:Int):(s.begin_ up cpu by_).ok:=by
 unfold SH.begin_
 split
 ·refine ⟨h.nd,h.rg,?_,by simp⟩
  intro r hr
  simp only [Option.some.injEq] at hr
  subst hr
  cases up<;>simp [aR.ok]
 ·exact h
theorem SH.next_ok {s:SH} (h:s.ok):s.next.ok:=by
 unfold SH.next
 split
 ·exact h
 ·rename_i r hr
  split
  ·exact h
  ·split
   ·refine ⟨h.nd.erase _,λi hi=>h.rg i (List.mem_of_mem_erase hi),?_,by simp⟩
    intro r' hr'
    simp only [Option.some.injEq] at hr'
    subst hr'
    exact aR.fail_ok (h.r r hr)
   ·exact ⟨h.nd,h.rg,h.r,h.none⟩
theorem SH.done_ok {s:SH} (h:s.ok):s.done.ok:=by
 unfold SH.done
 split
 ·exact h
 ·rename_i r hr
  split
  ·exact h
  ·refine ⟨h.nd,h.rg,?_,by simp⟩
   intro r' hr'
   simp only [Option.some.injEq] at hr'
   subst hr'
   exact aR.done_ok (h.r r hr)
theorem SH.end_ok {s:SH} (h:s.ok):s.end_.ok:=by
 unfold SH.end_
 split
 ·exact h
 ·split
  ·exact ⟨h.nd,h.rg,by simp,by simp⟩
  ·exact h
/-- The entries of what is planned. -/
def jG (l:List Int):List (Int × Value):=l.map λi=>(i,vb tQ)
theorem lr:∀ (l:List Int) (i:Int),bP (jG l) i 0=if i∈l then sS (l.idxOf i,vb tQ) else nN
 | [],i=>by simp [jG,bP]
 | a :: l,i=>by
  simp only [jG,List.map_cons]
  unfold bP
  by_cases e:i=a
  ·simp [e]
  ·simp only [e,if_false]
   rw [dY]
   have:=lr l i
   unfold jG at this
   rw [this]
   by_cases h:i∈l
   ·have e2:(a==i)=fF:=by simpa using Ne.symm e
    simp [h,e,List.idxOf_cons,e2]
   ·simp [h,e]
theorem FX (l:List Int) (i:Int):(ic (jG l) i).getD (vb fF)=vb (decide (i∈l)):=by
 unfold ic
 rw [lr]
 by_cases h:i∈l<;>simp [h]
theorem FW (l:List Int) (i:Int):px (jG l) i (vb tQ)=jG (if i∈l then l else l++[i]):=by
 unfold px
 rw [lr]
 by_cases h:i∈l
 ·simp only [h,if_true]
  unfold jG
  apply List.ext_getElem?
  intro j
  rw [List.getElem?_set]
  split
  ·rename_i e
   subst e
   have hl:=List.idxOf_lt_length_iff.2 h
   simp [hl]
  ·rfl
 ·simp [h,jG]
theorem FY (l:List Int) (i:Int):qW (jG l) i=jG (l.erase i):=by
 unfold qW
 rw [lr]
 by_cases h:i∈l
 ·simp only [h,if_true]
  unfold jG
  rw [<- mI]
  congr 1
  exact (List.erase_eq_eraseIdx_of_idxOf rfl).symm
 ·simp only [h,if_false]
  rw [List.erase_of_not_mem h]
theorem qA.same {w w':wW} {b:Nat} {s:aR} (h:qA w b s) (e:w'.heap=w.heap):qA w' b s:=⟨by rw [e];exact h.1,h.2⟩
def ik (w:wW):Option (Nat × Nat) -> SH -> Prop
 | none,s=>s.run=nN
 | some (a,b),s=>∃ r,s.run=sS r /\ w.heap[a]?=sS (.cells #[vp (sS ⟨b,0,nN⟩),vb s.up,vi iQ s.cpu,vi iQ s.by_,vb s.told] 306 (0,0)) /\ qA w b r /\ a≠b
def lP (w:wW):Option Nat -> List Int -> Prop
 | none,l=>l=[]
 | some b,l=>bV .i64 w b (jG l)
def qF:Option (Nat × Nat) -> List Nat
 | none=>[]
 | some (a,b)=>[a,b]
def pF:Option Nat -> List Nat
 | none=>[]
 | some b=>[b]
def qP:Option (Nat × Nat) -> Option Addr
 | none=>nN
 | some (a,b)=>sS ⟨a,0,nN⟩
theorem ik.plan {w:wW} {q:Option (Nat × Nat)} {s:SH} (h:ik w q s) (l:List Int):ik w q { s with plan:=l }:=by rcases q with _|⟨a,b⟩<;>exact h
/-- A desk at block d. -/
structure cG (w:wW) (d:Nat) (q:Option (Nat × Nat)) (pm:Option Nat) (s:SH):Prop where
 hd:w.heap[d]?=sS (.cells #[vp (qP q),.map pm] 129 (0,0))
 hq:ik w q s
 hp:lP w pm s.plan
 nq:d∉qF q
 np:d∉pF pm
 nn:∀ k,k∈pF pm -> k∉qF q
 ok:s.ok
theorem ik.keep {S:List Nat} {w w':wW} {q:Option (Nat × Nat)} {s:SH} (h:ik w q s) (m:af S w w') (hS:∀ k,k∈qF q -> k∉S):ik w' q s:=by
 rcases q with _|⟨a,b⟩
 ·exact h
 ·obtain ⟨r,h1,h2,h3,h4⟩:=h
  exact ⟨r,h1,m.keep h2 (hS _ (by simp [qF])),h3.keep m (hS _ (by simp [qF])),h4⟩
theorem lP.keep {S:List Nat} {w w':wW} {pm:Option Nat} {l:List Int} (h:lP w pm l) (m:af S w w') (hS:∀ k,k∈pF pm -> k∉S):lP w' pm l:=by
 cases pm with
 | none=>exact h
 | some b=>exact bV.keep h m (hS _ (by simp [pF]))
theorem cG.keep {S:List Nat} {w w':wW} {d:Nat} {q:Option (Nat × Nat)} {pm:Option Nat} {s:SH} (h:cG w d q pm s) (m:af S w w') (hS:∀ k,k∈d :: (qF q++pF pm) -> k∉S):cG w' d q pm s:=
 ⟨m.keep h.hd (hS _ sM),h.hq.keep m (λk hk=>hS _ (by simp [hk])),h.hp.keep m (λk hk=>hS _ (by simp [hk])),h.nq,h.np,h.nn,h.ok⟩
theorem cG.same {w w':wW} {d:Nat} {q:Option (Nat × Nat)} {pm:Option Nat} {s:SH} (h:cG w d q pm s) (e:w'.heap=w.heap):cG w' d q pm s:=by
 refine ⟨by rw [e];exact h.hd,?_,?_,h.nq,h.np,h.nn,h.ok⟩
 ·rcases q with _|⟨a,b⟩
  ·exact h.hq
  ·obtain ⟨r,h1,h2,h3,h4⟩:=h.hq
   exact ⟨r,h1,by rw [e];exact h2,⟨by rw [e];exact h3.1,h3.2⟩,h4⟩
 ·cases pm with
  | none=>exact h.hp
  | some b=>exact bV.same h.hp e
theorem cG.lt {w:wW} {d:Nat} {q:Option (Nat × Nat)} {pm:Option Nat} {s:SH} (h:cG w d q pm s):∀ k,k∈d :: (qF q++pF pm) -> k<w.heap.size:=by
 intro k hk
 simp only [List.mem_cons,List.mem_append] at hk
 rcases hk with rfl|hk|hk
 ·exact cq h.hd
 ·rcases q with _|⟨a,b⟩
  ·simp [qF] at hk
  ·obtain ⟨r,h1,h2,h3,h4⟩:=h.hq
   simp [qF] at hk
   rcases hk with rfl|rfl
   ·exact cq h2
   ·exact cq h3.1
 ·cases pm with
  | none=>simp [pF] at hk
  | some b=>simp [pF] at hk;subst hk;exact bV.lt h.hp
/-- A call that turned a desk: what it returned, and that the desk has no one else's blocks. -/
def oG (d:Nat) (q:Option (Nat × Nat)) (pm:Option Nat) (v:Value) (s':SH) (w:wW) (e:Ending) (w':wW):Prop:=
 ∃ q' pm',e=.returned v /\ af (d :: (qF q++pF pm)) w w' /\ cG w' d q' pm' s' /\ ∀ k,k∈qF q'++pF pm' -> k∈qF q++pF pm \/ w.heap.size <= k
theorem mU (d:Nat) (q:Option (Nat × Nat)) (pm:Option Nat) (s:SH) (w:wW) (h:cG w d q pm s):Calls tp 19 #[vp (sS ⟨d,0,nN⟩)] w (ay (vb s.run.isSome) w):=by
 obtain ⟨hd,hq,hp,nq,np,nn,ok⟩:=h
 have c0:w.cell? ⟨d,0,nN⟩=sS (vp (qP q)):=ad hd 0
 have c1:w.cell? ⟨d,1,nN⟩=sS (.map pm):=ad hd 1
 have f0:w.frozen? ⟨d,0,nN⟩=fF:=aD hd 0
 have f1:w.frozen? ⟨d,1,nN⟩=fF:=aD hd 1
 rcases q with _|⟨qa,qb⟩
 ·simp only [qP] at c0
  simp only [ik] at hq
  go_in
  go_wp2
  go_ret
  exact ay.of (by simp [hq]) dz
 ·obtain ⟨r,hr,ha,hx,hab⟩:=hq
  have a0:w.cell? ⟨qa,0,nN⟩=sS (vp (sS ⟨qb,0,nN⟩)):=ad ha 0
  have a1:w.cell? ⟨qa,1,nN⟩=sS (vb s.up):=ad ha 1
  have a2:w.cell? ⟨qa,2,nN⟩=sS (vi iQ s.cpu):=ad ha 2
  have a3:w.cell? ⟨qa,3,nN⟩=sS (vi iQ s.by_):=ad ha 3
  have a4:w.cell? ⟨qa,4,nN⟩=sS (vb s.told):=ad ha 4
  have g4:w.frozen? ⟨qa,4,nN⟩=fF:=aD ha 4
  simp only [qP] at c0
  go_in
  go_wp2
  go_ret
  exact ay.of (by simp [hr]) dz
theorem MD (d:Nat) (q:Option (Nat × Nat)) (pm:Option Nat) (s:SH) (w:wW) (h:cG w d q pm s):Calls tp 247 #[vp (sS ⟨d,0,nN⟩)] w (ay (vb s.up) w):=by
 have hB:=mU d q pm s w h
 obtain ⟨hd,hq,hp,nq,np,nn,ok⟩:=h
 have c0:w.cell? ⟨d,0,nN⟩=sS (vp (qP q)):=ad hd 0
 have c1:w.cell? ⟨d,1,nN⟩=sS (.map pm):=ad hd 1
 have f0:w.frozen? ⟨d,0,nN⟩=fF:=aD hd 0
 have f1:w.frozen? ⟨d,1,nN⟩=fF:=aD hd 1
 rcases q with _|⟨qa,qb⟩
 ·simp only [qP] at c0
  simp only [ik] at hq
  obtain ⟨z1,z2,z3⟩:=ok.none hq
  rw [hq] at hB
  simp only [Option.isSome] at hB
  have Z1:=zh z1
  have Z2:=zh z2
  have Z3:=zh z3
  clear z1 z2 z3
  go_in
  go_wp2_with (go_at_call 19;refine hB.r λk=>?_)
  go_ret
  exact ay.of (by simp [Z1.out,Z2.out,Z3.out]) dz
 ·obtain ⟨r,hr,ha,hx,hab⟩:=hq
  have a0:w.cell? ⟨qa,0,nN⟩=sS (vp (sS ⟨qb,0,nN⟩)):=ad ha 0
  have a1:w.cell? ⟨qa,1,nN⟩=sS (vb s.up):=ad ha 1
  have a2:w.cell? ⟨qa,2,nN⟩=sS (vi iQ s.cpu):=ad ha 2
  have a3:w.cell? ⟨qa,3,nN⟩=sS (vi iQ s.by_):=ad ha 3
  have a4:w.cell? ⟨qa,4,nN⟩=sS (vb s.told):=ad ha 4
  have g4:w.frozen? ⟨qa,4,nN⟩=fF:=aD ha 4
  simp only [qP] at c0
  rw [hr] at hB
  simp only [Option.isSome] at hB
  go_in
  go_wp2_with (go_at_call 19;refine hB.r λk=>?_)
  go_ret
  exact ay.of (rfl) dz
theorem LG (d:Nat) (q:Option (Nat × Nat)) (pm:Option Nat) (s:SH) (w:wW) (h:cG w d q pm s):Calls tp 171 #[vp (sS ⟨d,0,nN⟩)] w (ay (vi iQ s.cpu) w):=by
 have hB:=mU d q pm s w h
 obtain ⟨hd,hq,hp,nq,np,nn,ok⟩:=h
 have c0:w.cell? ⟨d,0,nN⟩=sS (vp (qP q)):=ad hd 0
 have c1:w.cell? ⟨d,1,nN⟩=sS (.map pm):=ad hd 1
 have f0:w.frozen? ⟨d,0,nN⟩=fF:=aD hd 0
 have f1:w.frozen? ⟨d,1,nN⟩=fF:=aD hd 1
 rcases q with _|⟨qa,qb⟩
 ·simp only [qP] at c0
  simp only [ik] at hq
  obtain ⟨z1,z2,z3⟩:=ok.none hq
  rw [hq] at hB
  simp only [Option.isSome] at hB
  have Z1:=zh z1
  have Z2:=zh z2
  have Z3:=zh z3
  clear z1 z2 z3
  go_in
  go_wp2_with (go_at_call 19;refine hB.r λk=>?_)
  go_ret
  exact ay.of (by simp [Z1.out,Z2.out,Z3.out]) dz
 ·obtain ⟨r,hr,ha,hx,hab⟩:=hq
  have a0:w.cell? ⟨qa,0,nN⟩=sS (vp (sS ⟨qb,0,nN⟩)):=ad ha 0
  have a1:w.cell? ⟨qa,1,nN⟩=sS (vb s.up):=ad ha 1
  have a2:w.cell? ⟨qa,2,nN⟩=sS (vi iQ s.cpu):=ad ha 2
  have a3:w.cell? ⟨qa,3,nN⟩=sS (vi iQ s.by_):=ad ha 3
  have a4:w.cell? ⟨qa,4,nN⟩=sS (vb s.told):=ad ha 4
  have g4:w.frozen? ⟨qa,4,nN⟩=fF:=aD ha 4
  simp only [qP] at c0
  rw [hr] at hB
  simp only [Option.isSome] at hB
  go_in
  go_wp2_with (go_at_call 19;refine hB.r λk=>?_)
  go_ret
  exact ay.of (rfl) dz
theorem ME (d:Nat) (q:Option (Nat × Nat)) (pm:Option Nat) (s:SH) (w:wW) (h:cG w d q pm s):Calls tp 167 #[vp (sS ⟨d,0,nN⟩)] w (ay (vi iQ s.by_) w):=by
 have hB:=mU d q pm s w h
 obtain ⟨hd,hq,hp,nq,np,nn,ok⟩:=h
 have c0:w.cell? ⟨d,0,nN⟩=sS (vp (qP q)):=ad hd 0
 have c1:w.cell? ⟨d,1,nN⟩=sS (.map pm):=ad hd 1
 have f0:w.frozen? ⟨d,0,nN⟩=fF:=aD hd 0
 have f1:w.frozen? ⟨d,1,nN⟩=fF:=aD hd 1
 rcases q with _|⟨qa,qb⟩
 ·simp only [qP] at c0
  simp only [ik] at hq
  obtain ⟨z1,z2,z3⟩:=ok.none hq
  rw [hq] at hB
  simp only [Option.isSome] at hB
  have Z1:=zh z1
  have Z2:=zh z2
  have Z3:=zh z3
  clear z1 z2 z3
  go_in
  go_wp2_with (go_at_call 19;refine hB.r λk=>?_)
  go_ret
  exact ay.of (by simp [Z1.out,Z2.out,Z3.out]) dz
 ·obtain ⟨r,hr,ha,hx,hab⟩:=hq
  have a0:w.cell? ⟨qa,0,nN⟩=sS (vp (sS ⟨qb,0,nN⟩)):=ad ha 0
  have a1:w.cell? ⟨qa,1,nN⟩=sS (vb s.up):=ad ha 1
  have a2:w.cell? ⟨qa,2,nN⟩=sS (vi iQ s.cpu):=ad ha 2
  have a3:w.cell? ⟨qa,3,nN⟩=sS (vi iQ s.by_):=ad ha 3
  have a4:w.cell? ⟨qa,4,nN⟩=sS (vb s.told):=ad ha 4
  have g4:w.frozen? ⟨qa,4,nN⟩=fF:=aD ha 4
  simp only [qP] at c0
  rw [hr] at hB
  simp only [Option.isSome] at hB
  go_in
  go_wp2_with (go_at_call 19;refine hB.r λk=>?_)
  go_ret
  exact ay.of (rfl) dz
theorem vG (d:Nat) (q:Option (Nat × Nat)) (pm:Option Nat) (s:SH) (w:wW) (h:cG w d q pm s):Calls tp 175 #[vp (sS ⟨d,0,nN⟩)] w (ay (vb s.over) w):=by
 have hB:=mU d q pm s w h
 obtain ⟨hd,hq,hp,nq,np,nn,ok⟩:=h
 have c0:w.cell? ⟨d,0,nN⟩=sS (vp (qP q)):=ad hd 0
 have c1:w.cell? ⟨d,1,nN⟩=sS (.map pm):=ad hd 1
 have f0:w.frozen? ⟨d,0,nN⟩=fF:=aD hd 0
 have f1:w.frozen? ⟨d,1,nN⟩=fF:=aD hd 1
 rcases q with _|⟨qa,qb⟩
 ·simp only [qP] at c0
  simp only [ik] at hq
  have hO:s.over=fF:=by simp [SH.over,hq]
  rw [hq] at hB
  rw [hO]
  simp only [Option.isSome] at hB
  clear hq hO
  go_in
  go_wp2_with (go_at_call 19;refine hB.r λk=>?_)
  go_ret
  exact ay.of (rfl) dz
 ·obtain ⟨r,hr,ha,hx,hab⟩:=hq
  have a0:w.cell? ⟨qa,0,nN⟩=sS (vp (sS ⟨qb,0,nN⟩)):=ad ha 0
  have a1:w.cell? ⟨qa,1,nN⟩=sS (vb s.up):=ad ha 1
  have a2:w.cell? ⟨qa,2,nN⟩=sS (vi iQ s.cpu):=ad ha 2
  have a3:w.cell? ⟨qa,3,nN⟩=sS (vi iQ s.by_):=ad ha 3
  have a4:w.cell? ⟨qa,4,nN⟩=sS (vb s.told):=ad ha 4
  have g4:w.frozen? ⟨qa,4,nN⟩=fF:=aD ha 4
  simp only [qP] at c0
  have hO:s.over=r.over:=by simp [SH.over,hr]
  rw [hr] at hB
  rw [hO]
  simp only [Option.isSome] at hB
  clear hr hO
  go_in
  go_wp2_with (first|(go_at_call 19;refine hB.r λk=>?_)|(go_at_call 245;refine (gS qb r _ (by exact hx.same rfl)).r λk2=>?_))
  go_ret
  exact ay.of (rfl) dz
theorem lJ (d:Nat) (q:Option (Nat × Nat)) (pm:Option Nat) (s:SH) (w:wW) (h:cG w d q pm s):Calls tp 244 #[vp (sS ⟨d,0,nN⟩)] w (ay (vi iQ s.mayE) w):=by
 have hB:=vG d q pm s w h
 obtain ⟨hd,hq,hp,nq,np,nn,ok⟩:=h
 have c0:w.cell? ⟨d,0,nN⟩=sS (vp (qP q)):=ad hd 0
 have c1:w.cell? ⟨d,1,nN⟩=sS (.map pm):=ad hd 1
 have f0:w.frozen? ⟨d,0,nN⟩=fF:=aD hd 0
 have f1:w.frozen? ⟨d,1,nN⟩=fF:=aD hd 1
 rcases q with _|⟨qa,qb⟩
 ·simp only [qP] at c0
  simp only [ik] at hq
  have hO:s.mayE=12:=by simp [SH.mayE,hq]
  rw [hO]
  clear hq hO
  go_in
  go_wp2
  go_ret
  exact ay.of (rfl) dz
 ·obtain ⟨r,hr,ha,hx,hab⟩:=hq
  have a0:w.cell? ⟨qa,0,nN⟩=sS (vp (sS ⟨qb,0,nN⟩)):=ad ha 0
  have a1:w.cell? ⟨qa,1,nN⟩=sS (vb s.up):=ad ha 1
  have a2:w.cell? ⟨qa,2,nN⟩=sS (vi iQ s.cpu):=ad ha 2
  have a3:w.cell? ⟨qa,3,nN⟩=sS (vi iQ s.by_):=ad ha 3
  have a4:w.cell? ⟨qa,4,nN⟩=sS (vb s.told):=ad ha 4
  have g4:w.frozen? ⟨qa,4,nN⟩=fF:=aD ha 4
  simp only [qP] at c0
  have hO:s.over=r.over:=by simp [SH.over,hr]
  have hM:s.mayE=if r.over then 6 else 0:=by simp [SH.mayE,hr]
  rw [hO] at hB
  rw [hM]
  clear hr hO hM
  cases ho:r.over
  all_goals
   rw [ho] at hB
   go_in
   go_wp2_with (go_at_call 175;refine hB.r λk=>?_)
   go_ret
   exact ay.of (rfl) dz
theorem mT (c:Int) (w:wW):Calls tp 228 #[vi iQ c] w (ay (vb (decide (jV c))) w):=by
 by_cases h0:0 <= c
 ·by_cases h1:c<64
  ·go_in
   go_wp2
   go_ret
   exact ay.of (by simp [jV,h0,h1]) dz
  ·go_in
   go_wp2
   go_ret
   exact ay.of (by simp [jV,h0,h1]) dz
 ·have hD:decide (jV c)=fF:=decide_eq_false (λx=>h0 x.1)
  rw [hD]
  clear hD
  go_in
  go_wp2
  go_ret
  exact ay.of (rfl) dz
theorem Hl (b:Nat) (w:wW):(binOp .eql 127 (.map (sS b)) (.map nN)).run tp w=.ok (vb fF) w:=by kernel_rfl
theorem Kc (w:wW):(binOp .eql 127 (.map nN) (.map nN)).run tp w=.ok (vb tQ) w:=by kernel_rfl
theorem JL (d:Nat) (q:Option (Nat × Nat)) (pm:Option Nat) (s:SH) (k:Int) (w:wW) (h:cG w d q pm s):Calls tp 232 #[vp (sS ⟨d,0,nN⟩),vi iQ k] w (oG d q pm (vi iQ (planE k)) (s.doPlan k) w):=by
 have hok:=SH.doPlan_ok h.ok k
 have h':=h
 obtain ⟨hd,hq,hp,nq,np,nn,ok⟩:=h
 have c0:w.cell? ⟨d,0,nN⟩=sS (vp (qP q)):=ad hd 0
 have c1:w.cell? ⟨d,1,nN⟩=sS (.map pm):=ad hd 1
 have f0:w.frozen? ⟨d,0,nN⟩=fF:=aD hd 0
 have f1:w.frozen? ⟨d,1,nN⟩=fF:=aD hd 1
 by_cases hk:0 <= k /\ k<10
 ·obtain ⟨hk1,hk2⟩:=hk
  have hE:planE k=0:=pG ⟨hk1,hk2⟩
  rw [hE]
  clear hE
  cases pm with
  | none=>
   simp only [lP] at hp
   have hD:s.doPlan k={ s with plan:=[k] }:=by simp [SH.doPlan,hk1,hk2,hp]
   rw [hD] at hok ⊢
   clear hD
   have hl:=h'.lt
   have hsz:(w.setCell ⟨d,1,nN⟩ (.map (sS w.heap.size))).heap.size=w.heap.size:=ni _ _ _
   have m0:=((af.refl [d] w).setCell (p:=⟨d,1,nN⟩) sM (.map (sS w.heap.size))).alloc (.map #[] 0)
   obtain ⟨w1,hrun,m1,x1⟩:=ji (m:=[]) (b:=w.heap.size) (w:=(w.setCell ⟨d,1,nN⟩ (.map (sS w.heap.size))).alloc (.map #[] 0)) (by
    have:=bV.new .i64 (w.setCell ⟨d,1,nN⟩ (.map (sS w.heap.size)))
    rw [hsz] at this
    exact this) Tryz.underlying127 Tryz.underlying3 k (vb tQ)
   clear hsz
   have hq':cG w1 d q (sS w.heap.size) { s with plan:=[k] }:=by
    have:=hl d sM
    refine ⟨?_,?_,x1,nq,by simp [pF];omega,?_,hok⟩
    ·refine m1.keep ?_ (by simp;omega)
     refine dm ?_
     rw [bm hd];simp
    ·refine ((hq.keep m0 ?_).keep m1 ?_).plan _
     ·intro k hk;simp;rintro rfl;exact nq hk
     ·intro k hk;have:=hl k (by simp [hk]);simp;omega
    ·intro k hk hk2
     simp [pF] at hk
     have:=hl k (by simp [hk2]);omega
   have m2:=m0.trans m1 sM
   clear x1 m0 m1
   have hE1:=Kc
   have hmk:=λw=>run_makeMap (P:=tp) 127 w
   go_in
   go_wp2
   go_ret
   refine ⟨q,sS w.heap.size,rfl,m2.mono sM,hq',?_⟩
   intro k hk
   simp [pF] at hk ⊢
   rcases hk with hk|rfl
   ·exact .inl hk
   ·exact .inr (Nat.le_refl _)
  | some b=>
   simp only [lP] at hp
   obtain ⟨w1,hrun,m1,x1⟩:=ji hp Tryz.underlying127 Tryz.underlying3 k (vb tQ)
   rw [FW] at x1
   have hD:s.doPlan k={ s with plan:=if k∈s.plan then s.plan else s.plan++[k] }:=by
    unfold SH.doPlan
    by_cases e:k∈s.plan
    ·simp [hk1,hk2,e]
    ·simp [hk1,hk2,e]
   rw [hD] at hok ⊢
   clear hD
   have hbd:b≠d:=λe=>np (by simp [pF,e])
   have hq':cG w1 d q (sS b) { s with plan:=if k∈s.plan then s.plan else s.plan++[k] }:=by
    refine ⟨m1.keep hd (by simp;exact Ne.symm hbd),(hq.keep m1 ?_).plan _,x1,nq,np,nn,hok⟩
    intro k hk
    simp only [List.mem_singleton]
    rintro rfl
    exact nn _ (by simp [pF]) hk
   clear x1 hp
   generalize (if k∈s.plan then s.plan else s.plan++[k])=l at *
   have hE1:=Hl b
   go_in
   go_wp2
   go_ret
   exact ⟨q,sS b,rfl,m1.mono (by simp [pF]),hq',λk hk=>.inl hk⟩
 ·have hE:planE k=3:=nG hk
  have hD:s.doPlan k=s:=by
   unfold SH.doPlan
   rw [nG (λx=>hk ⟨x.1,x.2.1⟩)]
  rw [hE,hD]
  clear hE hD
  have hne:k<0 \/ (0 <= k /\ 10 <= k):=by omega
  rcases hne with h1|⟨h1,h2⟩
  all_goals
   go_in
   go_wp2
   go_ret
   exact ⟨q,pm,rfl,af.refl _ _,h',λk hk=>.inl hk⟩
def iI (r m f n:Nat):Obj:=.cells #[.slice (sS ⟨r,0,nN⟩) m m,vi iQ (f:Nat),vi iQ (n:Nat)] 260 (0,0)
def cI (R:List Int):Obj:=.cells (fG .i64 R) 3 (0,0)
/-- The numbers are such as ints can be. -/
def Ny (m:Nat) (l:List Int):Prop:=1 <= m /\ m <= 1024
def sJ (b r m f:Nat) (R:List Int) (l:List Int):List ao:=[ao.blk b (iI r m f l.length),ao.blk r (cI R)]
def aV (b m:Nat) (l:List Int):ao:=ao.ex λx:Nat × Nat × List Int=>ao.such (Ny m l /\ nF x.2.2 m x.2.1 l) (ao.star (sJ b x.1 m x.2.1 x.2.2 l))
def cA (l:List Int):Int:=ax l 0
def ea (l:List Int):Int:=if l=[] then 12 else 0
section
variable {F:List Nat} {w u:wW} {b r m f:Nat} {R l:List Int}
theorem gO (h:(aV b m l).holds F w):∃ r f R,Ny m l /\ nF R m f l /\ On F w (sJ b r m f R l) w:=by
 obtain ⟨⟨r,f,R⟩,⟨h1,h2⟩,h3⟩:=h
 exact ⟨r,f,R,h1,h2,On.of h3⟩
theorem On.fifo (h:On F w (sJ b r m f R l) u) (hq:Ny m l) (hr:nF R m f l):dN (aV b m l) F w u:=h.gains.imp λF' h'=>⟨⟨r,f,R⟩,⟨hq,hr⟩,h'⟩
theorem vR (m:Nat) (h1:1 <= m) (h2:m <= 1024) (w:wW):Calls tp 94 #[vi iQ m] w (dd (λd:Nat=>.tuple #[vp (sS ⟨d,0,nN⟩),vi iQ 0]) (λd=>aV d m []) [] w):=by
 have hmk:=λw=>Go.run_make_row' (P:=tp) 143 3 (vi iQ 0) 8 Tryz.underlying143 kz rfl .i64 .i64 m oM oM w
 have hlen:(w.alloc (.cells (madeCells #[vi iQ 0] m) 3)).heap.size=w.heap.size+1:=cH _ _
 go_in
 go_wp2
 go_ret2
 refine ⟨w.heap.size+1,by simp,?_⟩
 have x1:=(On.start w).alloc (cI (List.replicate m 0))
 have x2:=(x1.alloc (iI w.heap.size m 0 0)).front
 have e:(w.alloc (cI (List.replicate m 0))).heap.size=w.heap.size+1:=cH _ _
 rw [e] at x2
 rw [qL]
 exact On.fifo (R:=List.replicate m 0) (f:=0) x2 ⟨h1,h2⟩ ⟨by simp,by omega,by simp,λi hi=>by simp at hi⟩
theorem Ka (h:(aV b m l).holds F w):Calls tp 337 #[vp (sS ⟨b,0,nN⟩)] w (ay (vi iQ l.length) w):=by
 obtain ⟨r,f,R,hq,hr,hA⟩:=gO h
 have c2:w.cell? ⟨b,2,nN⟩=sS (vi iQ (l.length:Nat)):=hA.cell 0 rfl 2
 generalize l.length=n at *
 go_in
 go_wp2
 go_ret
 exact ay.of (rfl) dz
theorem EJ (hq:Ny m l) (hr:nF R m f l) (hA:On F w (sJ b r m f R l) u) (i:Nat) (hi:i <= m):Calls tp 219 #[vp (sS ⟨b,0,nN⟩),vi iQ i] u (ay (vi iQ ((f+i) % m:Nat)) u):=by
 have c0:u.cell? ⟨b,0,nN⟩=sS (.slice (sS ⟨r,0,nN⟩) m m):=hA.cell 0 rfl 0
 have c1:u.cell? ⟨b,1,nN⟩=sS (vi iQ (f:Nat)):=hA.cell 0 rfl 1
 have hf:=hr.first
 obtain ⟨h1,h2⟩:=hq
 clear hA hr
 have hm0:(m:Int)≠0:=by omega
 have hm1:(0:Int)<m:=by omega
 go_in
 go_wp2
 go_quiet (fail)
 go_wp2
 go_ret
 refine ⟨?_,by repeat (first|exact aG.refl _|apply aG.drewN|apply aG.drew)⟩
 show Ending.returned (vi iQ (((f:Int)+i) % m))=_
 simp
theorem oB (h:(aV b m l).holds F w):Calls tp 258 #[vp (sS ⟨b,0,nN⟩)] w (ay (.tuple #[vi iQ (cA l),vi iQ (ea l)]) w):=by
 obtain ⟨r,f,R,hq,hr,hA⟩:=gO h
 have c0:w.cell? ⟨b,0,nN⟩=sS (.slice (sS ⟨r,0,nN⟩) m m):=hA.cell 0 rfl 0
 have c1:w.cell? ⟨b,1,nN⟩=sS (vi iQ (f:Nat)):=hA.cell 0 rfl 1
 have c2:w.cell? ⟨b,2,nN⟩=sS (vi iQ (l.length:Nat)):=hA.cell 0 rfl 2
 have hf:=hr.first
 obtain ⟨h1,h2⟩:=hq
 by_cases hl:l=[]
 ·subst hl
  clear hA
  rw [show ea []=12 from rfl,show cA []=0 from rfl]
  simp only [List.length_nil] at c2
  go_in
  go_wp2
  go_ret2
  exact ay.of (rfl) dz
 ·have hlen:0<l.length:=List.length_pos_iff.2 hl
  have d0:w.cell? ⟨r,f,nN⟩=sS (vi iQ (ax R f)):=by
   rw [hA.cell 1 rfl f];exact cx (by rw [hr.len];exact hf)
  rw [hr.front hl] at d0
  rw [show ea l=0 from nG hl]
  unfold cA
  have hne:((l.length:Int)==0)=fF:=by simp;omega
  generalize ax l 0=x at *
  generalize l.length=n at *
  clear hA hr
  go_in
  go_wp2
  go_quiet (fail)
  go_wp2
  go_ret2
  exact ay.of (rfl) dz
end
theorem qs (w:wW) (g o dl dc r f sl sc n:Nat) (D R:List Int) (hg:w.heap[g]?=sS (cI D)) (hr:w.heap[r]?=sS (cI R)) (hn:n=Nat.min sl dl) (hf:f+n <= R.length) (ho:o+n <= D.length):
  (Builtin.copy_ #[143,143] 3 #[.slice (sS ⟨g,o,nN⟩) dl dc,.slice (sS ⟨r,f,nN⟩) sl sc]).run tp w=.ok (vi iQ n) (w.setRow g (fG .i64 (D.take o++(R.drop f).take n++D.drop (o+n)))):=by
 have hlen:(((R.drop f).take n).map (vi iQ)).length=n:=by simp;omega
 have h:=run_copy_row (P:=tp) w 143 143 3 3 g o dl dc ⟨r,f,nN⟩ sl sc (fG .i64 D) 3 (((R.drop f).take n).map (vi iQ))
  Tryz.underlying143 kz hg (by rw [hlen];exact hn) ?_ (by rw [hlen,FF];exact ho) ?_
 ·rw [h,hlen]
  have e:((fG .i64 D).toList.take o++((R.drop f).take n).map (vi iQ)++(fG .i64 D).toList.drop (o+n)).toArray=fG .i64 (D.take o++(R.drop f).take n++D.drop (o+n)):=by
   simp [fG,List.map_take,List.map_drop]
  rw [e]
  simp [goInt]
 ·intro j v hj
  have hlt:j<n:=by have:=(List.getElem?_eq_some_iff.1 hj).1;omega
  have:=ad hr (f+j)
  rw [cx oM] at this
  rw [List.getElem?_map,List.getElem?_take,pG hlt,List.getElem?_drop] at hj
  have e:R[f+j]?=sS (ax R (f+j)):=by
   simp [ax,List.getD,List.getElem?_eq_getElem (show f+j<R.length by omega)]
  rw [e] at hj
  simp at hj
  subst hj
  unfold Addr.add
  split
  ·rename_i e;subst e;simpa using this
  ·simpa using this
 ·intro v hv;obtain ⟨x,_,rfl⟩:=List.mem_map.1 hv;rfl
section
variable {F:List Nat} {w u:wW} {b r m f:Nat} {R l:List Int}
theorem kK (h:(aV b m l).holds F w):Calls tp 239 #[vp (sS ⟨b,0,nN⟩)] w (λe w'=>∃ a c,e=.returned (.slice a l.length c) /\ af [] w w' /\ (l=[] /\ a=nN /\ c=0 \/ c=l.length /\ a=sS ⟨w.heap.size,0,nN⟩ /\ w'.heap[w.heap.size]?=sS (cI l))):=by
 obtain ⟨r,f,R,hq,hr,hA⟩:=gO h
 have c0:w.cell? ⟨b,0,nN⟩=sS (.slice (sS ⟨r,0,nN⟩) m m):=hA.cell 0 rfl 0
 have c1:w.cell? ⟨b,1,nN⟩=sS (vi iQ (f:Nat)):=hA.cell 0 rfl 1
 have c2:w.cell? ⟨b,2,nN⟩=sS (vi iQ (l.length:Nat)):=hA.cell 0 rfl 2
 have hf:=hr.first
 have hfit:=hr.fits
 obtain ⟨h1,h2⟩:=hq
 by_cases hl:l=[]
 ·subst hl
  clear hA
  simp only [List.length_nil] at c2
  go_in
  go_wp2
  go_ret
  exact ⟨nN,0,rfl,by first|exact mR|exact mR.drewN _,.inl sM⟩
 ·have hlen:0<l.length:=List.length_pos_iff.2 hl
  have hne:((l.length:Int)==0)=fF:=by simp;omega
  have hmk:=λw=>Go.run_make_row' (P:=tp) 143 3 (vi iQ 0) 8 Tryz.underlying143 kz rfl .i64 .i64 l.length oM oM w
  have q0:=au (.cells (madeCells #[vi iQ 0] l.length) 3 (0,0)) c0
  have q1:=au (.cells (madeCells #[vi iQ 0] l.length) 3 (0,0)) c1
  have htwo:=hr.two
  have hR:=hr.len
  have hrr:w.heap[r]?=sS (cI R):=hA.held 1 rfl
  obtain ⟨n,hn⟩:∃ n,l.length=n:=⟨_,rfl⟩
  rw [hn] at c2 hfit hlen hne hmk q0 q1 htwo ⊢
  have hmf:¬ m=f:=by omega
  have hfm:(f:Int) <= m:=by omega
  have m0:af [] w (w.alloc (.cells (madeCells #[vi iQ 0] n) 3 (0,0))).drew:=((af.refl [] w).alloc _).drew
  have g0:(w.alloc (.cells (madeCells #[vi iQ 0] n) 3 (0,0))).drew.heap[w.heap.size]?=sS (cI (List.replicate n 0)):=by
   show (w.alloc _).heap[w.heap.size]?=_
   rw [ai,qL];rfl
  have k0:=m0.keep hrr sM
  clear hA
  replace hrr:=zh hrr
  by_cases hs:n <= m - f
  ·have hC:=qs _ w.heap.size 0 n n r f (m - f) (m - f) n (List.replicate n 0) R g0 k0 (Nat.min_eq_right hs).symm oM sM
   have e1:List.take 0 (List.replicate n 0)++List.take n (List.drop f R)++List.drop (0+n) (List.replicate n 0)=l:=by
    rw [htwo,show n - (m - f)=0 by omega];simp
   rw [e1] at hC
   have m1:=m0.setRow (g:=w.heap.size) (.inr (Nat.le_refl _)) (fG .i64 l)
   have g1:(((w.alloc (.cells (madeCells #[vi iQ 0] n) 3 (0,0))).drew).setRow w.heap.size (fG .i64 l)).heap[w.heap.size]?=sS (cI l):=setRow_heap _ _ _ _ _ _ (by rw [g0];rfl)
   have p0:=m1.at c0 sM
   have p1:=m1.at c1 sM
   have hC2:=qs (((w.alloc (.cells (madeCells #[vi iQ 0] n) 3 (0,0))).drew).setRow w.heap.size (fG .i64 l)).drew w.heap.size 0 0 0 r 0 m m 0 l R g1 (m1.keep hrr.out (by have:=cq hrr.out;simp)) sM oM oM
   have e2:List.take 0 l++List.take 0 (List.drop 0 R)++List.drop (0+0) l=l:=by simp
   rw [e2] at hC2
   have M2:=zh ((m1.drew).setRow (g:=w.heap.size) (.inr (Nat.le_refl _)) (fG .i64 l))
   have g2:=zh (setRow_heap _ _ _ (fG .i64 l) _ _ (show (((w.alloc (.cells (madeCells #[vi iQ 0] n) 3 (0,0))).drew).setRow w.heap.size (fG .i64 l)).drew.heap[w.heap.size]?=_ from g1))
   replace htwo:=zh htwo
   replace hn:=zh hn
   clear g0 k0 m0 m1 e1 e2 g1
   go_in
   go_wp2
   go_region
   go_wp2
   go_region
   go_wp2
   go_ret
   exact ⟨sS ⟨w.heap.size,0,nN⟩,n,rfl,M2.out,.inr ⟨rfl,rfl,g2.out⟩⟩
  ·obtain ⟨n1,hn1⟩:∃ n1,m - f=n1:=⟨_,rfl⟩
   have hRl:(List.drop f R).length=n1:=by rw [List.length_drop];omega
   have hC:=qs _ w.heap.size 0 n n r f n1 n1 n1 (List.replicate n 0) R g0 k0 (Nat.min_eq_left oM).symm oM (by simp;omega)
   obtain ⟨D,hD⟩:∃ D,D=List.take 0 (List.replicate n 0)++List.take n1 (List.drop f R)++List.drop (0+n1) (List.replicate n (0:Int)):=⟨_,rfl⟩
   rw [<- hD] at hC
   have hDl:D.length=n:=by rw [hD];simp;omega
   have hT1:List.take n1 (List.drop f R)=List.drop f R:=List.take_of_length_le oM
   have hDt:D.take n1=List.drop f R:=by rw [hD,hT1,List.take_zero,List.nil_append,List.take_append_of_le_length oM];exact List.take_of_length_le oM
   have m1:=m0.setRow (g:=w.heap.size) (.inr (Nat.le_refl _)) (fG .i64 D)
   have g1:(((w.alloc (.cells (madeCells #[vi iQ 0] n) 3 (0,0))).drew).setRow w.heap.size (fG .i64 D)).heap[w.heap.size]?=sS (cI D):=setRow_heap _ _ _ _ _ _ (by rw [g0];rfl)
   have p0:=m1.at c0 sM
   have hC2:=qs (((w.alloc (.cells (madeCells #[vi iQ 0] n) 3 (0,0))).drew).setRow w.heap.size (fG .i64 D)).drew w.heap.size n1 (n - n1) (n - n1) r 0 m m (n - n1) D R g1 (m1.keep hrr.out (by have:=cq hrr.out;simp)) (Nat.min_eq_right oM).symm oM oM
   have e2:List.take n1 D++List.take (n - n1) (List.drop 0 R)++List.drop (n1+(n - n1)) D=l:=by
    have e3:List.drop (n1+(n - n1)) D=[]:=List.drop_eq_nil_of_le oM
    have e4:List.take n (List.drop f R)=List.drop f R:=List.take_of_length_le oM
    rw [e3,hDt,htwo,hn1,e4];simp
   rw [e2] at hC2
   have M2:=zh ((m1.drew).setRow (g:=w.heap.size) (.inr (Nat.le_refl _)) (fG .i64 l))
   have g2:=zh (setRow_heap _ _ _ (fG .i64 l) _ _ (show (((w.alloc (.cells (madeCells #[vi iQ 0] n) 3 (0,0))).drew).setRow w.heap.size (fG .i64 D)).drew.heap[w.heap.size]?=_ from g1))
   replace htwo:=zh htwo
   replace hn:=zh hn
   have hnn:¬ n=n1:=by omega
   have hnn2:(n1:Int) <= n:=by omega
   clear g0 k0 m0 m1 e2 g1 hD hDl hDt hRl hT1
   subst hn1
   go_in
   go_wp2
   go_region
   go_wp2
   go_region
   go_wp2
   go_ret
   exact ⟨sS ⟨w.heap.size,0,nN⟩,n,rfl,M2.out,.inr ⟨rfl,rfl,g2.out⟩⟩
end
def Cg (l:List Int) (x k:Int):Prop:=(k=-1 /\ ∀ i,i<l.length -> ax l i≠x) \/ ∃ j:Nat,k=j /\ j<l.length /\ ax l j=x /\ ∀ i,i<j -> ax l i≠x
theorem jI {l:List Int} {x:Int}:x∈l↔∃ i,i<l.length /\ ax l i=x:=by
 rw [List.mem_iff_getElem]
 constructor
 ·rintro ⟨i,h,e⟩;exact ⟨i,h,by simp [ax,List.getD,List.getElem?_eq_getElem h,e]⟩
 ·rintro ⟨i,h,e⟩;exact ⟨i,h,by simpa [ax,List.getD,List.getElem?_eq_getElem h] using e⟩
theorem Cg.mem {l:List Int} {x k:Int} (h:Cg l x k):decide (0 <= k)=decide (x∈l):=by
 rcases h with ⟨rfl,h⟩|⟨j,rfl,h1,h2,h3⟩
 ·have:x∉l:=λhm=>by obtain ⟨i,hi,e⟩:=jI.1 hm;exact h i hi e
  simp [this]
 ·have:x∈l:=jI.2 ⟨j,h1,h2⟩
  simp [this]
/-- The slice a holds l. -/
def Ic (w:wW) (a:Option Addr) (l:List Int):Prop:=l=[] \/ ∃ g,a=sS ⟨g,0,nN⟩ /\ ∀ j,j<l.length -> w.cell? ⟨g,j,nN⟩=sS (vi iQ (ax l j))
theorem rN (a:Option Addr) (cap:Nat) (l:List Int) (x:Int) (w:wW) (h:Ic w a l) (hm:l.length<1000000):Calls tp 316 #[.slice a l.length cap,vi iQ x] w (λe w'=>∃ k,e=.returned (vi iQ k) /\ aG w w' /\ Cg l x k):=by
 obtain ⟨n,hn⟩:∃ n,l.length=n:=⟨_,rfl⟩
 rw [hn] at hm ⊢
 go_in
 go_wp2
 go_loopg [8] n (λgg i wr=>∃ (j:Nat),i=vi iQ j /\ j+gg=n /\ wr=w /\ ∀ i,i<j -> ax l i≠x)
 case atStart=>exact ⟨0,rfl,by omega,rfl,by omega⟩
 case round=>
  obtain ⟨j,rfl,hj,rfl,hne⟩:=hrel
  by_cases hlt:j<n
  ·have hltI:(j:Int)<n:=by omega
   have hs:∃ g,a=sS ⟨g,0,nN⟩ /\ ∀ j,j<l.length -> wr.cell? ⟨g,j,nN⟩=sS (vi iQ (ax l j)):=by
    rcases h with h|h
    ·rw [h] at hn;simp at hn;omega
    ·exact h
   obtain ⟨g,rfl,hc⟩:=hs
   have cj:=hc j oM
   by_cases e:ax l j=x
   ·have hI:=zh (show Cg l x (j:Int) from .inr ⟨j,rfl,by omega,e,hne⟩)
    rw [e] at cj
    clear hc h e hne
    go_wp2
    go_ret
    exact ⟨j,rfl,by repeat (first|exact aG.refl _|apply aG.drewN|apply aG.drew),hI.out⟩
   ·have hI:=zh (show ∀ i,i<j+1 -> ax l i≠x from λi hi=>by
     rcases Nat.lt_or_ge i j with h1|h1
     ·exact hne i h1
     ·rw [show i=j by omega];exact e)
    have e2:(x==ax l j)=fF:=by simp;exact λh=>e h.symm
    generalize ax l j=y at *
    clear hc h hne
    go_wp2
    go_roundg (gk - 1)
    case measure=>omega
    case rel=>exact ⟨j+1,by go_num,by omega,rfl,hI.out⟩
  ·have hltI:¬ (j:Int)<n:=by omega
   obtain rfl:j=n:=by omega
   have hI:=zh (show Cg l x (-1) from .inl ⟨rfl,λi hi=>hne i oM⟩)
   clear h hne
   go_wp2
   go_ret
   exact ⟨-1,rfl,by repeat (first|exact aG.refl _|apply aG.drewN|apply aG.drew),hI.out⟩
theorem qt (a:Option Addr) (cap:Nat) (l:List Int) (x:Int) (w:wW) (h:Ic w a l) (hm:l.length<1000000):Calls tp 276 #[.slice a l.length cap,vi iQ x] w (ay (vb (decide (x∈l))) w):=by
 have hI:=rN a cap l x w h hm
 generalize l.length=n at *
 go_in
 go_wp2_with (go_at_call 316;refine hI.mono ?_;rintro e w' ⟨k,rfl,hD,hk⟩;have hK:=zh hk.mem;clear hk)
 go_ret
 refine ⟨?_,hD⟩
 rw [<- hK.out]
 simp
section
variable {F:List Nat} {w u:wW} {b r m f:Nat} {R l:List Int}
theorem Kb (h:(aV b m l).holds F w) (x:Int):Calls tp 218 #[vp (sS ⟨b,0,nN⟩),vi iQ x] w (aK (vb (decide (x∈l))) w):=by
 have hL:=kK h
 have hlen:l.length<1000000:=by obtain ⟨r,f,R,hq,hr,_⟩:=gO h;have:=hr.fits;have:=hq.2;omega
 go_in
 go_wp2_with (first
  | (
   go_at_call 239
   refine hL.mono ?_
   rintro e w1 ⟨a,c,rfl,m1,hs⟩
   have hS:Ic w1 a l:=by
    rcases hs with ⟨h1,_⟩|⟨_,h2,h3⟩
    ·exact .inl h1
    ·exact .inr ⟨_,h2,λj hj=>by rw [ad h3 j];exact cx hj⟩
   have hC:=qt a c l x w1 hS hlen
   have HM:=zh m1
   clear hs hS m1
   )
  | (
   go_at_call 276
   refine hC.r λk=>?_
   ))
 go_ret
 exact ⟨rfl,HM.out.drewN _⟩
end
theorem vJ {u:wW} {n:Nat} {o:Obj} (h:u.heap.size=n):(u.alloc o).heap[n]?=sS o:=h ▸ ai u o
theorem GU (d:Nat) (q:Option (Nat × Nat)) (pm:Option Nat) (s:SH) (up:Bool) (cpu by_:Int) (w:wW) (h:cG w d q pm s):Calls tp 144 #[vp (sS ⟨d,0,nN⟩),vb up,vi iQ cpu,vi iQ by_] w (oG d q pm (vi iQ (s.beginE cpu by_)) (s.begin_ up cpu by_) w):=by
 have hok:=SH.begin_ok h.ok up cpu by_
 have h':=h
 obtain ⟨hd,hq,hp,nq,np,nn,ok⟩:=h
 have c0:w.cell? ⟨d,0,nN⟩=sS (vp (qP q)):=ad hd 0
 have c1:w.cell? ⟨d,1,nN⟩=sS (.map pm):=ad hd 1
 have f0:w.frozen? ⟨d,0,nN⟩=fF:=aD hd 0
 have f1:w.frozen? ⟨d,1,nN⟩=fF:=aD hd 1
 rcases q with _|⟨qa,qb⟩
 ·simp only [qP] at c0
  simp only [ik] at hq
  by_cases e1:jV cpu
  ·by_cases e2:jV by_
   ·by_cases e3:cpu=by_
    ·have hE:s.beginE cpu by_=2:=by simp [SH.beginE,hq,e1,e2,e3]
     have hS:s.begin_ up cpu by_=s:=by simp [SH.begin_,hE]
     rw [hE,hS]
     have e3':(cpu==by_)=tQ:=by simpa using e3
     have hC1:=decide_eq_true e1
     have hC2:=decide_eq_true e2
     clear hE hS e1 e2 e3 hq
     go_in
     go_wp2_with (go_at_call 228;refine (mT _ _).r λk1=>?_)
     go_ret
     exact ⟨nN,pm,rfl,mR.drewN _,h'.same rfl,λk hk=>.inl hk⟩
    ·have hE:s.beginE cpu by_=0:=by simp [SH.beginE,hq,e1,e2,e3]
     have hS:s.begin_ up cpu by_={ s with run:=sS ⟨if up then 4 else 10,0,fF⟩,up:=up,cpu:=cpu,by_:=by_,told:=false }:=by simp [SH.begin_,hE]
     rw [hE,hS]
     rw [hS] at hok
     have e3':(cpu==by_)=fF:=by simpa using e3
     have hC1:=decide_eq_true e1
     have hC2:=decide_eq_true e2
     clear hE hS e1 e2 e3 hq
     have hl:=h'.lt
     cases up
     ·simp only [Bool.false_eq_true,if_false,if_true] at hok ⊢
      have hld:=hl d sM
      go_in
      go_wp2_with (first|(go_at_call 228;refine (mT _ _).r λk1=>?_)|(go_at_call 229;refine (Kt 10 _ oM oM).mono ?_;rintro e w1 ⟨rfl,m1,hs1,x1⟩;have hd1:=m1.keep (w:=w.drewN _) hd sM;have ff:=aD hd1 0;have hd2:=cq hd1;have fc:w1.cell? ⟨d,0,nN⟩=sS (vp nN):=ad hd1 0))
      go_ret
      have m1':=m1.undrewN
      have hs2:w.heap.size<w1.heap.size:=hs1
      have hlp:∀ k,k∈pF pm -> k<w.heap.size /\ k≠d:=λk hk=>⟨hl k (by simp [hk]),λe=>np (e ▸ hk)⟩
      have m2:∀ o v,af [d] w1 ((w1.setCell ⟨d,0,nN⟩ v).alloc o):=λo v=>(mR.setCell sM _).alloc _
      refine ⟨sS (w1.heap.size,w.heap.size),pm,rfl,?_,⟨?_,?_,?_,?_,np,?_,hok⟩,?_⟩
      ·exact ((m1'.mono sM).setCell sM _).alloc _
      ·refine dm ?_;rw [bm hd1];simp [qP]
      ·refine ⟨_,rfl,?_,?_,by omega⟩
       ·exact vJ (ni _ _ _)
       ·exact x1.keep (m2 _ _) (by simp;omega)
      ·exact (hp.keep m1' sM).keep (m2 _ _) (λk hk=>by simp;exact (hlp k hk).2)
      ·simp [qF];omega
      ·intro k hk
       have:=hlp k hk
       simp [qF];omega
      ·intro k hk
       simp [qF] at hk ⊢
       rcases hk with rfl|rfl|hk
       ·exact .inr oM
       ·exact .inr oM
       ·exact .inl hk
     ·simp only [Bool.false_eq_true,if_false,if_true] at hok ⊢
      have hld:=hl d sM
      go_in
      go_wp2_with (first|(go_at_call 228;refine (mT _ _).r λk1=>?_)|(go_at_call 229;refine (Kt 4 _ oM oM).mono ?_;rintro e w1 ⟨rfl,m1,hs1,x1⟩;have hd1:=m1.keep (w:=w.drewN _) hd sM;have ff:=aD hd1 0;have hd2:=cq hd1;have fc:w1.cell? ⟨d,0,nN⟩=sS (vp nN):=ad hd1 0))
      go_ret
      have m1':=m1.undrewN
      have hs2:w.heap.size<w1.heap.size:=hs1
      have hlp:∀ k,k∈pF pm -> k<w.heap.size /\ k≠d:=λk hk=>⟨hl k (by simp [hk]),λe=>np (e ▸ hk)⟩
      have m2:∀ o v,af [d] w1 ((w1.setCell ⟨d,0,nN⟩ v).alloc o):=λo v=>(mR.setCell sM _).alloc _
      refine ⟨sS (w1.heap.size,w.heap.size),pm,rfl,?_,⟨?_,?_,?_,?_,np,?_,hok⟩,?_⟩
      ·exact ((m1'.mono sM).setCell sM _).alloc _
      ·refine dm ?_;rw [bm hd1];simp [qP]
      ·refine ⟨_,rfl,?_,?_,by omega⟩
       ·exact vJ (ni _ _ _)
       ·exact x1.keep (m2 _ _) (by simp;omega)
      ·exact (hp.keep m1' sM).keep (m2 _ _) (λk hk=>by simp;exact (hlp k hk).2)
      ·simp [qF];omega
      ·intro k hk
       have:=hlp k hk
       simp [qF];omega
      ·intro k hk
       simp [qF] at hk ⊢
       rcases hk with rfl|rfl|hk
       ·exact .inr oM
       ·exact .inr oM
       ·exact .inl hk
   ·have hE:s.beginE cpu by_=3:=by simp [SH.beginE,hq,e2]
    have hS:s.begin_ up cpu by_=s:=by simp [SH.begin_,hE]
    rw [hE,hS]
    have hC1:=decide_eq_true e1
    have hC2:=decide_eq_false e2
    clear hE hS e1 e2 hq
    go_in
    go_wp2_with (go_at_call 228;refine (mT _ _).r λk1=>?_)
    go_ret
    exact ⟨nN,pm,rfl,mR.drewN _,h'.same rfl,λk hk=>.inl hk⟩
  ·have hE:s.beginE cpu by_=3:=by simp [SH.beginE,hq,e1]
   have hS:s.begin_ up cpu by_=s:=by simp [SH.begin_,hE]
   rw [hE,hS]
   have hC1:=decide_eq_false e1
   clear hE hS e1 hq
   go_in
   go_wp2_with (go_at_call 228;refine (mT _ _).r λk1=>?_)
   go_ret
   exact ⟨nN,pm,rfl,mR.drewN _,h'.same rfl,λk hk=>.inl hk⟩
 ·obtain ⟨r,hr,ha,hx,hab⟩:=hq
  have a0:w.cell? ⟨qa,0,nN⟩=sS (vp (sS ⟨qb,0,nN⟩)):=ad ha 0
  have a1:w.cell? ⟨qa,1,nN⟩=sS (vb s.up):=ad ha 1
  have a2:w.cell? ⟨qa,2,nN⟩=sS (vi iQ s.cpu):=ad ha 2
  have a3:w.cell? ⟨qa,3,nN⟩=sS (vi iQ s.by_):=ad ha 3
  have a4:w.cell? ⟨qa,4,nN⟩=sS (vb s.told):=ad ha 4
  have g4:w.frozen? ⟨qa,4,nN⟩=fF:=aD ha 4
  simp only [qP] at c0
  have hE:s.beginE cpu by_=7:=by simp [SH.beginE,hr]
  have hS:s.begin_ up cpu by_=s:=by simp [SH.begin_,hE]
  rw [hE,hS]
  clear hE hS hr
  go_in
  go_wp2
  go_ret
  exact ⟨sS (qa,qb),pm,rfl,af.refl _ _,h',λk hk=>.inl hk⟩
theorem AM {w:wW} {pm:Option Nat} {l:List Int} (h:lP w pm l) (k:Int):
  (Instr.lookup 127 (.map pm) (vi iQ k) fF).run tp w=.ok (vb (decide (k∈l))) w:=by
 have hz:∀ w,(zeroValue 4).run tp w=.ok (vb fF) w:=λw=>by kernel_rfl
 cases pm with
 | none=>
  simp only [lP] at h
  rw [uL Tryz.underlying127 Tryz.underlying3 k hz w,h]
  simp
 | some b=>
  rw [lD h Tryz.underlying127 Tryz.underlying3 k hz,FX]
theorem JN (d:Nat) (q:Option (Nat × Nat)) (pm:Option Nat) (s:SH) (w:wW) (h:cG w d q pm s):Calls tp 174 #[vp (sS ⟨d,0,nN⟩)] w (oG d q pm (vi iQ s.mayE) s.done w):=by
 have hok:=SH.done_ok h.ok
 have h':=h
 have hM:=lJ d q pm s w h
 obtain ⟨hd,hq,hp,nq,np,nn,ok⟩:=h
 have c0:w.cell? ⟨d,0,nN⟩=sS (vp (qP q)):=ad hd 0
 have c1:w.cell? ⟨d,1,nN⟩=sS (.map pm):=ad hd 1
 have f0:w.frozen? ⟨d,0,nN⟩=fF:=aD hd 0
 have f1:w.frozen? ⟨d,1,nN⟩=fF:=aD hd 1
 rcases q with _|⟨qa,qb⟩
 ·simp only [qP] at c0
  simp only [ik] at hq
  have hO:s.mayE=12:=by simp [SH.mayE,hq]
  have hD:s.done=s:=by simp [SH.done,hq]
  rw [hO] at hM
  rw [hO,hD]
  clear hO hD hq
  go_in
  go_wp2_with (go_at_call 244;refine hM.r λk1=>?_)
  go_ret
  exact ⟨nN,pm,rfl,mR.drewN _,h'.same rfl,λk hk=>.inl hk⟩
 ·obtain ⟨r,hr,ha,hx,hab⟩:=hq
  have a0:w.cell? ⟨qa,0,nN⟩=sS (vp (sS ⟨qb,0,nN⟩)):=ad ha 0
  have a1:w.cell? ⟨qa,1,nN⟩=sS (vb s.up):=ad ha 1
  have a2:w.cell? ⟨qa,2,nN⟩=sS (vi iQ s.cpu):=ad ha 2
  have a3:w.cell? ⟨qa,3,nN⟩=sS (vi iQ s.by_):=ad ha 3
  have a4:w.cell? ⟨qa,4,nN⟩=sS (vb s.told):=ad ha 4
  have g4:w.frozen? ⟨qa,4,nN⟩=fF:=aD ha 4
  simp only [qP] at c0
  cases ho:r.over
  ·have hO:s.mayE=0:=by simp [SH.mayE,hr,ho]
   have hD:s.done={ s with run:=sS r.done,told:=false }:=by simp [SH.done,hr,ho]
   have hE:r.doneE=0:=by simp [aR.doneE,ho]
   rw [hO] at hM
   rw [hO,hD]
   rw [hD] at hok
   clear hO hD hr
   have hl:=h'.lt
   have hqd:qa≠d /\ qb≠d:=by simp [qF] at nq;omega
   go_in
   go_wp2_with (first|(go_at_call 244;refine hM.r λk1=>?_)|(go_at_call 252;refine (Kv qb r _ (by exact hx.keep (w:=w) (((af.refl [qa] w).drewN _).setCell sM _) (by simp;omega))).mono ?_;rintro e w1 ⟨rfl,m1,x1⟩;rw [hE]))
   go_ret
   have m2:=(((af.refl [qa] w).drewN k1).setCell (p:=⟨qa,4,nN⟩) sM (vb fF))
   have hlp:∀ k,k∈pF pm -> k≠qa /\ k≠qb:=λk hk=>by have:=nn k hk;simp [qF] at this;omega
   refine ⟨sS (qa,qb),pm,rfl,?_,⟨?_,?_,?_,nq,np,nn,hok⟩,λk hk=>.inl hk⟩
   ·exact ((m2.mono (T:=[qa,qb]) sM).trans m1 sM).mono (by simp [qF])
   ·exact m1.keep (m2.keep hd (by simp;omega)) (by simp;omega)
   ·refine ⟨_,rfl,m1.keep ?_ (by simp;omega),x1,hab⟩
    rw [bm (w:=w.drewN k1) ha 4];simp
   ·exact (hp.keep m2 (λk hk=>by have:=hlp k hk;simp;omega)).keep m1 (λk hk=>by have:=hlp k hk;simp;omega)
  ·have hO:s.mayE=6:=by simp [SH.mayE,hr,ho]
   have hD:s.done=s:=by simp [SH.done,hr,ho]
   rw [hO] at hM
   rw [hO,hD]
   clear hO hD hr
   go_in
   go_wp2_with (go_at_call 244;refine hM.r λk1=>?_)
   go_ret
   exact ⟨sS (qa,qb),pm,rfl,mR.drewN _,h'.same rfl,λk hk=>.inl hk⟩
theorem LF (d:Nat) (q:Option (Nat × Nat)) (pm:Option Nat) (s:SH) (w:wW) (h:cG w d q pm s):Calls tp 176 #[vp (sS ⟨d,0,nN⟩)] w (oG d q pm (.tuple #[vi iQ s.endV,vi iQ s.endE]) s.end_ w):=by
 have hok:=SH.end_ok h.ok
 have h':=h
 have hM:=vG d q pm s w h
 obtain ⟨hd,hq,hp,nq,np,nn,ok⟩:=h
 have c0:w.cell? ⟨d,0,nN⟩=sS (vp (qP q)):=ad hd 0
 have c1:w.cell? ⟨d,1,nN⟩=sS (.map pm):=ad hd 1
 have f0:w.frozen? ⟨d,0,nN⟩=fF:=aD hd 0
 have f1:w.frozen? ⟨d,1,nN⟩=fF:=aD hd 1
 rcases q with _|⟨qa,qb⟩
 ·simp only [qP] at c0
  simp only [ik] at hq
  have hO:s.endE=12:=by simp [SH.endE,hq]
  have hV:s.endV=0:=by simp [SH.endV,hq]
  have hD:s.end_=s:=by simp [SH.end_,hq]
  rw [hO,hD,hV]
  clear hO hD hq hV
  go_in
  go_wp2
  go_ret2
  exact ⟨nN,pm,rfl,mR,h'.same rfl,λk hk=>.inl hk⟩
 ·obtain ⟨r,hr,ha,hx,hab⟩:=hq
  have a0:w.cell? ⟨qa,0,nN⟩=sS (vp (sS ⟨qb,0,nN⟩)):=ad ha 0
  have a1:w.cell? ⟨qa,1,nN⟩=sS (vb s.up):=ad ha 1
  have a2:w.cell? ⟨qa,2,nN⟩=sS (vi iQ s.cpu):=ad ha 2
  have a3:w.cell? ⟨qa,3,nN⟩=sS (vi iQ s.by_):=ad ha 3
  have a4:w.cell? ⟨qa,4,nN⟩=sS (vb s.told):=ad ha 4
  have g4:w.frozen? ⟨qa,4,nN⟩=fF:=aD ha 4
  simp only [qP] at c0
  have hOv:s.over=r.over:=by simp [SH.over,hr]
  rw [hOv] at hM
  clear hOv
  cases ho:r.over
  ·have hO:s.endE=6:=by simp [SH.endE,hr,ho]
   have hV:s.endV=0:=by simp [SH.endV,hr,ho]
   have hD:s.end_=s:=by simp [SH.end_,hr,ho]
   rw [ho] at hM
   rw [hO,hD,hV]
   clear hO hD hr hV
   go_in
   go_wp2_with (go_at_call 175;refine hM.r λk1=>?_)
   go_ret2
   exact ⟨sS (qa,qb),pm,rfl,mR.drewN _,h'.same rfl,λk hk=>.inl hk⟩
  ·have hO:s.endE=0:=by simp [SH.endE,hr,ho]
   have hV:s.endV=r.why:=by simp [SH.endV,hr,ho]
   have hD:s.end_={ s with run:=nN,up:=false,cpu:=0,by_:=0,told:=s.told }:=by simp [SH.end_,hr,ho]
   rw [ho] at hM
   rw [hO,hD,hV]
   rw [hD] at hok
   clear hO hD hr hV
   go_in
   go_wp2_with (first|(go_at_call 175;refine hM.r λk1=>?_)|(go_at_call 253;refine (LV qb r _ (by exact hx.same rfl)).r λk2=>?_))
   go_ret2
   have m2:=(((af.refl [d] w).drewN (k1+k2)).setCell (p:=⟨d,0,nN⟩) sM (vp nN))
   refine ⟨nN,pm,rfl,m2.mono sM,⟨?_,rfl,?_,by simp [qF],np,by simp [qF],hok⟩,λk hk=>.inl (by simp [qF] at hk ⊢;exact .inr (.inr hk))⟩
   ·rw [bm (w:=w.drewN _) hd 0];simp [qP]
   ·exact hp.keep m2 (λk hk=>by simp;rintro rfl;exact np hk)
/-- A call that returned a step and why not. -/
def fx (s:SH):Value:=.tuple #[s.step,vi iQ s.mayE]
theorem JM (d:Nat) (q:Option (Nat × Nat)) (pm:Option Nat) (s:SH) (w:wW) (h:cG w d q pm s):Calls tp 172 #[vp (sS ⟨d,0,nN⟩)] w (oG d q pm (fx s) s.next w):=by
 have hok:=SH.next_ok h.ok
 have h2:=h.keep ((af.refl [] w).alloc (Obj.cells #[vi iQ 0,vb fF,vb fF] 265)) sM
 have h':=h
 have hl:=h.lt
 obtain ⟨hd,hq,hp,nq,np,nn,ok⟩:=h
 have c0:w.cell? ⟨d,0,nN⟩=sS (vp (qP q)):=ad hd 0
 have c1:w.cell? ⟨d,1,nN⟩=sS (.map pm):=ad hd 1
 have f0:w.frozen? ⟨d,0,nN⟩=fF:=aD hd 0
 have f1:w.frozen? ⟨d,1,nN⟩=fF:=aD hd 1
 have hdl:=cq hd
 rcases q with _|⟨qa,qb⟩
 ·simp only [qP] at c0
  simp only [ik] at hq
  have hO:s.mayE=12:=by simp [SH.mayE,hq]
  have hD:s.next=s:=by simp [SH.next,hq]
  have hV:fx s=.tuple #[.agg #[vi iQ 0,vb fF,vb fF],vi iQ 12]:=by simp [fx,SH.step,hO,hq]
  rw [hD,hV]
  clear hD hq hV
  go_in
  go_wp2_with (go_at_call 244;refine (lJ d _ pm s _ (by exact h2.same rfl)).mono ?_;rw [hO];rintro e w' ⟨rfl,k1,rfl⟩)
  refine bodyPost_ret_by (v:=.tuple #[.agg #[vi iQ 0,vb fF,vb fF],vi iQ 12]) ?_ rfl ?_
  ·rw [results_cell_tmp rfl];go_simp
  ·have m3:∀ u1 u2 u3:Value,af [] w ((((((w.alloc (Obj.cells #[vi iQ 0,vb fF,vb fF] 265)).drewN k1).setCell ⟨w.heap.size,0,nN⟩ u1).setCell ⟨w.heap.size,1,nN⟩ u2).setCell ⟨w.heap.size,2,nN⟩ u3)):=λ_ _ _=>((((mR.alloc _).drewN _).setCell sM _).setCell sM _).setCell sM _
   exact ⟨nN,pm,rfl,(m3 _ _ _).mono sM,h'.keep (m3 _ _ _) sM,λk hk=>.inl hk⟩
 ·obtain ⟨r,hr,ha,hx,hab⟩:=hq
  have a0:w.cell? ⟨qa,0,nN⟩=sS (vp (sS ⟨qb,0,nN⟩)):=ad ha 0
  have a1:w.cell? ⟨qa,1,nN⟩=sS (vb s.up):=ad ha 1
  have a2:w.cell? ⟨qa,2,nN⟩=sS (vi iQ s.cpu):=ad ha 2
  have a3:w.cell? ⟨qa,3,nN⟩=sS (vi iQ s.by_):=ad ha 3
  have a4:w.cell? ⟨qa,4,nN⟩=sS (vb s.told):=ad ha 4
  have g4:w.frozen? ⟨qa,4,nN⟩=fF:=aD ha 4
  simp only [qP] at c0
  have hx2:=hx.keep ((af.refl [] w).alloc (Obj.cells #[vi iQ 0,vb fF,vb fF] 265)) sM
  have hL:=λj=>AM (hp.keep (((af.refl [] w).alloc (Obj.cells #[vi iQ 0,vb fF,vb fF] 265)).drewN j) sM) r.k
  have hqd:qa≠d /\ qb≠d:=by simp [qF] at nq;omega
  have hql:=hl qa (by simp [qF])
  have hM:s.mayE=if r.over then 6 else 0:=by simp [SH.mayE,hr]
  cases ho:r.over
  ·rw [ho] at hM
   have hO:s.mayE=0:=hM
   cases hb:r.back
   ·cases ht:s.told
    ·by_cases hm:r.k∈s.plan
     ·cases pm with
      | none=>simp only [lP] at hp;rw [hp] at hm;simp at hm
      | some b=>
       have hF:s.failsNow r=tQ:=by simp [SH.failsNow,hb,ht,hm]
       have hm':=decide_eq_true hm
       have hD:s.next={ s with run:=sS r.fail,told:=true,plan:=s.plan.erase r.k }:=by simp [SH.next,hr,ho,hF]
       have hV:fx s=.tuple #[.agg #[vi iQ r.k,vb r.back,vb tQ],vi iQ 0]:=by simp [fx,SH.step,hO,hr,ho,hF]
       have hE:r.failE=0:=by simp [aR.failE,hb,ho]
       rw [hD] at hok
       rw [hD,hV]
       have HO:=zh hO
       clear hD hV hF hM hO
       go_in
       go_wp2_with (first|(go_at_call 244;refine (lJ d _ _ s _ (by exact h2.same rfl)).mono ?_;rw [HO.out];rintro e w' ⟨rfl,k1,rfl⟩)|(go_at_call 245;refine (gS qb r _ (by exact hx2.same rfl)).r λk2=>?_))
       have mu:af [] w (((w.alloc (Obj.cells #[vi iQ 0,vb fF,vb fF] 265)).drewN (k1+k2)).alloc (Obj.cells #[vi iQ r.k,vb fF,vb tQ] 265)):=((mR.alloc _).drewN _).alloc _
       obtain ⟨w1,hrun,m1,x1⟩:=lE (m:=jG s.plan) (b:=b) (hp.keep mu sM) Tryz.underlying127 Tryz.underlying3 r.k
       rw [FY] at x1
       have nb:b≠d /\ b≠qa /\ b≠qb:=by have:=nn b (by simp [pF]);simp [pF] at np;simp [qF] at this;omega
       have hbl:=hl b (by simp [pF])
       have hql2:=hl qb (by simp [qF])
       have hd1:=m1.keep (mu.keep hd sM) (by simp;omega)
       have ha1:=m1.keep (mu.keep ha sM) (by simp;omega)
       have hx1:=(hx.keep mu sM).keep m1 (by simp;omega)
       have hz1:=m1.keep (k:=w.heap.size) (dm (ai w (Obj.cells #[vi iQ 0,vb fF,vb fF] 265))) (by simp;omega)
       have hz2:=m1.keep (k:=w.heap.size+1) (vJ sM) (by simp;omega)
       have M1:=(mu.mono (T:=[b]) sM).trans m1 sM
       have d1:w1.cell? ⟨d,0,nN⟩=_:=ad hd1 0
       have d2:w1.cell? ⟨qa,0,nN⟩=_:=ad ha1 0
       simp only [List.getElem?_toArray,List.getElem?_cons_zero,qP] at d1 d2
       clear mu m1 a0 a1 a2 a3 a4 c0 c1 f0 f1 g4 hp hx2 h2 hL
       rw [hrun]
       go_wp2_with (go_at_call 246;refine (Ku qb r _ hx1).mono ?_;rw [hE];rintro e w2 ⟨rfl,m2,x2⟩;have hd2:=m2.keep hd1 (by simp;omega);have ha2:=m2.keep ha1 (by simp;omega);have hz3:=m2.keep hz1 (by simp;omega);have hz4:=m2.keep hz2 (by simp;omega);have e1:w2.cell? ⟨d,0,nN⟩=_:=ad hd2 0;have e2:w2.frozen? ⟨qa,4,nN⟩=fF:=aD ha2 4;have e3:w2.cell? ⟨qa,4,nN⟩=_:=ad ha2 4;have e4:=λi=>aD hz3 i;have e5:=λi=>ad hz4 i;have e6:=λi=>ad hz3 i;have p1:=e4 0;have p2:=e4 1;have p3:=e4 2;have p4:=e5 0;have p5:=e5 1;have p6:=e5 2;have p7:=e6 0;have p8:=e6 1;have p9:=e6 2;clear e4 e5 e6;simp only [List.getElem?_toArray,List.getElem?_cons_zero,List.getElem?_cons_succ,qP] at e1 e3 p1 p2 p3 p4 p5 p6 p7 p8 p9;clear d1 d2)
       refine bodyPost_ret_by (v:=.tuple #[.agg #[vi iQ r.k,vb fF,vb tQ],vi iQ 0]) ?_ rfl ?_
       ·rw [results_cell_tmp rfl];go_simp
       ·rw [hb]
        have M2:=(M1.mono (T:=[b,qb,qa]) sM).trans m2 sM
        have m3:∀ u1 u2 u3,af [qa,w.heap.size] w2 ((((w2.setCell ⟨qa,4,nN⟩ (vb tQ)).setCell ⟨w.heap.size,0,nN⟩ u1).setCell ⟨w.heap.size,1,nN⟩ u2).setCell ⟨w.heap.size,2,nN⟩ u3):=λ_ _ _=>(((mR.setCell sM _).setCell sM _).setCell sM _).setCell sM _
        refine ⟨sS (qa,qb),sS b,rfl,(M2.trans (m3 _ _ _) sM).mono (by simp [qF,pF]),⟨(m3 _ _ _).keep hd2 (by simp;omega),⟨_,rfl,?_,x2.keep (m3 _ _ _) (by simp;omega),hab⟩,(bV.keep x1 m2 (by simp;omega)).keep (m3 _ _ _) (by simp;omega),nq,np,nn,hok⟩,λk hk=>.inl hk⟩
        rw [bw oM,bw oM,bw oM,bm ha2]
        simp
     ·have hF:s.failsNow r=fF:=by simp [SH.failsNow,hb,ht,hm]
      have hm':=decide_eq_false hm
      have hD:s.next={ s with told:=true }:=by simp [SH.next,hr,ho,hF]
      have hV:fx s=.tuple #[.agg #[vi iQ r.k,vb r.back,vb fF],vi iQ 0]:=by simp [fx,SH.step,hO,hr,ho,hF]
      rw [hD] at hok
      rw [hD,hV]
      have HO:=zh hO
      replace hr:=zh hr
      clear hD hV hF hM hO
      go_in
      go_wp2_with (first|(go_at_call 244;refine (lJ d _ pm s _ (by exact h2.same rfl)).mono ?_;rw [HO.out];rintro e w' ⟨rfl,k1,rfl⟩)|(go_at_call 245;refine (gS qb r _ (by exact hx2.same rfl)).r λk2=>?_))
      refine bodyPost_ret_by (v:=.tuple #[.agg #[vi iQ r.k,vb fF,vb fF],vi iQ 0]) ?_ rfl ?_
      ·rw [results_cell_tmp rfl];go_simp
      ·rw [hb]
       have m4:∀ o o' u1 u2 u3,af [qa] w (((((((w.alloc o).drewN (k1+k2)).setCell ⟨qa,4,nN⟩ (vb tQ)).setCell ⟨w.heap.size,0,nN⟩ u1).setCell ⟨w.heap.size,1,nN⟩ u2).setCell ⟨w.heap.size,2,nN⟩ u3).alloc o'):=λ_ _ _ _ _=>(((((mR.alloc _).drewN _).setCell sM _).setCell sM _).setCell sM _).setCell sM _ |>.alloc _
       refine ⟨sS (qa,qb),pm,rfl,(m4 _ _ _ _ _).mono (by simp [qF]),⟨(m4 _ _ _ _ _).keep hd (by simp;omega),⟨r,hr.out,?_,hx.keep (m4 _ _ _ _ _) (by simp;omega),hab⟩,hp.keep (m4 _ _ _ _ _) (λk hk=>by have:=nn k hk;simp [qF] at this ⊢;omega),nq,np,nn,hok⟩,λk hk=>.inl hk⟩
       refine dm ?_
       rw [bw oM,bw oM,bw oM]
       refine (bm (w:=(w.alloc _).drewN _) (dm ha) 4 _).trans ?_
       simp
    ·have hF:s.failsNow r=fF:=by simp [SH.failsNow,hb,ht]
     have hD:s.next={ s with told:=true }:=by simp [SH.next,hr,ho,hF]
     have hV:fx s=.tuple #[.agg #[vi iQ r.k,vb r.back,vb fF],vi iQ 0]:=by simp [fx,SH.step,hO,hr,ho,hF]
     rw [hD] at hok
     rw [hD,hV]
     have HO:=zh hO
     replace hr:=zh hr
     clear hD hV hF hM hO
     go_in
     go_wp2_with (first|(go_at_call 244;refine (lJ d _ pm s _ (by exact h2.same rfl)).mono ?_;rw [HO.out];rintro e w' ⟨rfl,k1,rfl⟩)|(go_at_call 245;refine (gS qb r _ (by exact hx2.same rfl)).r λk2=>?_))
     refine bodyPost_ret_by (v:=.tuple #[.agg #[vi iQ r.k,vb fF,vb fF],vi iQ 0]) ?_ rfl ?_
     ·rw [results_cell_tmp rfl];go_simp
     ·rw [hb]
      have m4:∀ o o' u1 u2 u3,af [qa] w (((((((w.alloc o).drewN (k1+k2)).setCell ⟨qa,4,nN⟩ (vb tQ)).setCell ⟨w.heap.size,0,nN⟩ u1).setCell ⟨w.heap.size,1,nN⟩ u2).setCell ⟨w.heap.size,2,nN⟩ u3).alloc o'):=λ_ _ _ _ _=>(((((mR.alloc _).drewN _).setCell sM _).setCell sM _).setCell sM _).setCell sM _ |>.alloc _
      refine ⟨sS (qa,qb),pm,rfl,(m4 _ _ _ _ _).mono (by simp [qF]),⟨(m4 _ _ _ _ _).keep hd (by simp;omega),⟨r,hr.out,?_,hx.keep (m4 _ _ _ _ _) (by simp;omega),hab⟩,hp.keep (m4 _ _ _ _ _) (λk hk=>by have:=nn k hk;simp [qF] at this ⊢;omega),nq,np,nn,hok⟩,λk hk=>.inl hk⟩
      refine dm ?_
      rw [bw oM,bw oM,bw oM]
      refine (bm (w:=(w.alloc _).drewN _) (dm ha) 4 _).trans ?_
      simp
   ·have hF:s.failsNow r=fF:=by simp [SH.failsNow,hb]
    have hD:s.next={ s with told:=true }:=by simp [SH.next,hr,ho,hF]
    have hV:fx s=.tuple #[.agg #[vi iQ r.k,vb r.back,vb fF],vi iQ 0]:=by simp [fx,SH.step,hO,hr,ho,hF]
    rw [hD] at hok
    rw [hD,hV]
    have HO:=zh hO
    replace hr:=zh hr
    clear hD hV hF hM hO
    go_in
    go_wp2_with (first|(go_at_call 244;refine (lJ d _ pm s _ (by exact h2.same rfl)).mono ?_;rw [HO.out];rintro e w' ⟨rfl,k1,rfl⟩)|(go_at_call 245;refine (gS qb r _ (by exact hx2.same rfl)).r λk2=>?_))
    refine bodyPost_ret_by (v:=.tuple #[.agg #[vi iQ r.k,vb tQ,vb fF],vi iQ 0]) ?_ rfl ?_
    ·rw [results_cell_tmp rfl];go_simp
    ·rw [hb]
     have m4:∀ o o' u1 u2 u3,af [qa] w (((((((w.alloc o).drewN (k1+k2)).setCell ⟨qa,4,nN⟩ (vb tQ)).setCell ⟨w.heap.size,0,nN⟩ u1).setCell ⟨w.heap.size,1,nN⟩ u2).setCell ⟨w.heap.size,2,nN⟩ u3).alloc o'):=λ_ _ _ _ _=>(((((mR.alloc _).drewN _).setCell sM _).setCell sM _).setCell sM _).setCell sM _ |>.alloc _
     refine ⟨sS (qa,qb),pm,rfl,(m4 _ _ _ _ _).mono (by simp [qF]),⟨(m4 _ _ _ _ _).keep hd (by simp;omega),⟨r,hr.out,?_,hx.keep (m4 _ _ _ _ _) (by simp;omega),hab⟩,hp.keep (m4 _ _ _ _ _) (λk hk=>by have:=nn k hk;simp [qF] at this ⊢;omega),nq,np,nn,hok⟩,λk hk=>.inl hk⟩
     refine dm ?_
     rw [bw oM,bw oM,bw oM]
     refine (bm (w:=(w.alloc _).drewN _) (dm ha) 4 _).trans ?_
     simp
  ·have hO:s.mayE=6:=by rw [hM,ho];rfl
   have hD:s.next=s:=by simp [SH.next,hr,ho]
   have hV:fx s=.tuple #[.agg #[vi iQ 0,vb fF,vb fF],vi iQ 6]:=by simp [fx,SH.step,hO,hr,ho]
   rw [hD,hV]
   clear hD hr hV hL hM
   go_in
   go_wp2_with (go_at_call 244;refine (lJ d _ pm s _ (by exact h2.same rfl)).mono ?_;rw [hO];rintro e w' ⟨rfl,k1,rfl⟩)
   refine bodyPost_ret_by (v:=.tuple #[.agg #[vi iQ 0,vb fF,vb fF],vi iQ 6]) ?_ rfl ?_
   ·rw [results_cell_tmp rfl];go_simp
   ·have m3:∀ u1 u2 u3:Value,af [] w ((((((w.alloc (Obj.cells #[vi iQ 0,vb fF,vb fF] 265)).drewN k1).setCell ⟨w.heap.size,0,nN⟩ u1).setCell ⟨w.heap.size,1,nN⟩ u2).setCell ⟨w.heap.size,2,nN⟩ u3)):=λ_ _ _=>((((mR.alloc _).drewN _).setCell sM _).setCell sM _).setCell sM _
    exact ⟨sS (qa,qb),pm,rfl,(m3 _ _ _).mono sM,h'.keep (m3 _ _ _) sM,λk hk=>.inl hk⟩
structure jY where
 kind:Int
 cpu:Int
 id:Int
 mask:Int
 n:Int
deriving Inhabited
def jY.vals (a:jY):List Value:=[vi iQ a.kind,vi iQ a.cpu,vi iQ a.id,vi uQ a.mask,vi iQ a.n]
def jY.ok (a:jY):Prop:=(Lit.int .i64 a.kind).wf=tQ /\ (Lit.int .i64 a.cpu).wf=tQ /\ (Lit.int .i64 a.id).wf=tQ /\ (Lit.int .u64 a.mask).wf=tQ /\ (Lit.int .i64 a.n).wf=tQ
theorem elem_api_Ev {H:Type} {enc:TypeId × Value -> H} {w:wW} {spare:Nat -> Bool} {held:Bool}:∀ m cs y,DataW.trod enc tp w 0 spare held m 34 cs=sS y -> ∃ z:jY,cs=z.vals /\ z.ok:=by
 intro m cs y h
 obtain ⟨hl,hv⟩:=Nr Tryz.underlying34 [.i .i64,.i .i64,.i .i64,.i .u64,.i .i64] kz (by rfl) (λi k hk=>by
  match i,hk with
  | 0,hk=>simp at hk;subst hk;exact ⟨_,rfl,rfl,by kernel_rfl,_,Tryz.underlying3,rfl⟩
  | 1,hk=>simp at hk;subst hk;exact ⟨_,rfl,rfl,by kernel_rfl,_,Tryz.underlying3,rfl⟩
  | 2,hk=>simp at hk;subst hk;exact ⟨_,rfl,rfl,by kernel_rfl,_,Tryz.underlying3,rfl⟩
  | 3,hk=>simp at hk;subst hk;exact ⟨_,rfl,rfl,by kernel_rfl,_,Tryz.underlying28,rfl⟩
  | 4,hk=>simp at hk;subst hk;exact ⟨_,rfl,rfl,by kernel_rfl,_,Tryz.underlying2,rfl⟩
  | n+5,hk=>simp at hk) h
 match cs,hl with
 | [v0,v1,v2,v3,v4],_=>
  obtain ⟨_,e0,n0,rfl,w0⟩:=hv 0 _ rfl
  obtain ⟨_,e1,n1,rfl,w1⟩:=hv 1 _ rfl
  obtain ⟨_,e2,n2,rfl,w2⟩:=hv 2 _ rfl
  obtain ⟨_,e3,n3,rfl,w3⟩:=hv 3 _ rfl
  obtain ⟨_,e4,n4,rfl,w4⟩:=hv 4 _ rfl
  simp at e0 e1 e2 e3 e4
  subst e0 e1 e2 e3 e4
  exact ⟨⟨n0,n1,n2,n3,n4⟩,rfl,w0,w1,w2,w3,w4⟩
end Go.Proofs.YtaakgpnmfkmdoaaGreatDoor