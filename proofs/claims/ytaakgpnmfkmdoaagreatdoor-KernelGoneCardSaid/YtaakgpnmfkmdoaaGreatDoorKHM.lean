/- Walks and plain laws of the kernel. No condition. -/
import Derived.Test.YtaakgpnmfkmdoaaGreatDoorKGM
import Derived.Test.YtaakgpnmfkmdoaaGreatDoorKNM
import Derived.Test.YtaakgpnmfkmdoaaGreatDoorKEM
namespace Go.Proofs.YtaakgpnmfkmdoaaGreatDoor
set_option linter.unusedVariables false
set_option linter.unusedSimpArgs false
set_option maxRecDepth 100000
set_option maxHeartbeats 20000000
open Go.RowKit
open Go.Proofs.Tryz renaming prog → tp
open List renaming setIfInBounds_toArray → sA, set_cons_zero → sB, set_cons_succ → sC
open Go renaming World → wW
open Go.Value renaming pointer → vp, bool → vb, int → vi
open Go.IntKind renaming i64 → iQ, u64 → uQ
open Option renaming none → nN, some → sS
open Bool renaming true → tQ, false → fF
open Int renaming eq_ofNat_of_zero_le → iN
def DQ (e:oH):Array Value:=#[vi iQ e.kind,vi iQ e.cpu,vi iQ e.id,vi uQ (e.mask:Nat),vi iQ e.n]
section
variable {F:List Nat} {w u:wW} {b:Nat} {p:KP} {k:KT} {l:List dS}
theorem lV (h:(aa b k).holds F w) (hT:bK w) (hF:tzL_ren.g 1∉F) (cpu id:Int) (m:Nat) (hm:m<2 ^ 64) (n:Int):Calls tp 11 #[vp (sS ⟨b,0,nN⟩),.agg #[vi iQ 3,vi iQ cpu,vi iQ id,vi uQ (m:Nat),vi iQ n]] w (bp b (k.spawn id m) (aW (k.th.spawnV id m) (k.th.spawnE id m)) F w):=by
 have hA:=(On.one h).keep (u':=w.alloc (.cells #[vi iQ 3,vi iQ cpu,vi iQ id,vi uQ (m:Nat),vi iQ n] 34 (0,0))) (mR.alloc _)
 have hS:=hA.callU (P:=tp) (f:=74) hT hF 0 rfl (λF1 h1 hT1 hF1=>pN h1 hT1 hF1 id m hm)
 have hS2:=λj=>(hA.keep (u':=(w.alloc (.cells #[vi iQ 3,vi iQ cpu,vi iQ id,vi uQ (m:Nat),vi iQ n] 34 (0,0))).drewN j) (mR.drewN j)).callU (P:=tp) (f:=74) hT hF 0 rfl (λF1 h1 hT1 hF1=>pN h1 hT1 hF1 id m hm)
 generalize k.th.spawnV id m=v at *
 generalize k.th.spawnE id m=ee at *
 have x0:=ad (ai w (.cells #[vi iQ 3,vi iQ cpu,vi iQ id,vi uQ (m:Nat),vi iQ n] 34 (0,0))) 0
 have x2:=ad (ai w (.cells #[vi iQ 3,vi iQ cpu,vi iQ id,vi uQ (m:Nat),vi iQ n] 34 (0,0))) 2
 have x3:=ad (ai w (.cells #[vi iQ 3,vi iQ cpu,vi iQ id,vi uQ (m:Nat),vi iQ n] 34 (0,0))) 3
 have hAn:=λu=>bB v ee u
 clear h hA
 go_in
 go_wp2_with (first
  | (
   go_at_call 74
   first|refine hS.mono ?_|refine (hS2 _).mono ?_
   rintro e w1 ⟨rfl,hB⟩
   have HB:=zh (show On F w [aa b (k.spawn id m)] w1 from hB)
   clear hB hS hS2)
  | (
   go_at_call 73
   refine (hAn _).mono ?_
   intro e w2 hN
   obtain ⟨a,c,rfl,hE⟩:=hN.does HB.out))
 go_ret
 exact ⟨a,c,rfl,hE⟩
theorem tl (h:(aa b k).holds F w) (cpu:Int) (hi:k.is cpu) (hw:k.what cpu=8) (id n:Int) (m:Nat):Calls tp 11 #[vp (sS ⟨b,0,nN⟩),.agg #[vi iQ 1,vi iQ cpu,vi iQ id,vi uQ (m:Nat),vi iQ n]] w (bp b (k.step cpu) (k.stepL cpu) F w):=by
 obtain ⟨hok,p,hK⟩:=ab h
 have c15:=au (.cells #[vi iQ 1,vi iQ cpu,vi iQ id,vi uQ (m:Nat),vi iQ n] 34 (0,0)) (hK.kC 15)
 simp only [rM,List.getElem?_toArray,List.getElem?_cons_zero,List.getElem?_cons_succ] at c15
 have hS:=λj=>zm ((aa b k).keep h (((af.refl [] w).alloc (.cells #[vi iQ 1,vi iQ cpu,vi iQ id,vi uQ (m:Nat),vi iQ n] 34 (0,0))).drewN j) sM) cpu hw
 have hMo:=λj=>((af.refl [] w).alloc (.cells #[vi iQ 1,vi iQ cpu,vi iQ id,vi uQ (m:Nat),vi iQ n] 34 (0,0))).drewN j
 have x0:=ad (ai w (.cells #[vi iQ 1,vi iQ cpu,vi iQ id,vi uQ (m:Nat),vi iQ n] 34 (0,0))) 0
 have x1:=ad (ai w (.cells #[vi iQ 1,vi iQ cpu,vi iQ id,vi uQ (m:Nat),vi iQ n] 34 (0,0))) 1
 obtain ⟨h1,h2⟩:=hi
 have h3:¬ cpu<0:=by omega
 have h4:¬ (k.n:Int) <= cpu:=by omega
 have hb:=zh ((aa b k).lt h)
 generalize k.stepL cpu=L at *
 generalize k.step cpu=K at *
 clear h hK hok hw
 go_in
 go_wp2
 go_quiet (fail)
 go_wp2_with (
   go_at_call 71
   refine (hS _).mono ?_
   rintro e w1 ⟨a,c,rfl,hE⟩)
 go_ret
 obtain ⟨F1,g1,g2,g3⟩:=hE
 exact ⟨a,c,rfl,F1,g1,(hMo _).mono sM |>.trans g2 (by intro x hx;exact .inl hx),λx hx=>(g3 x hx).imp (λy=>y) (λh=>Nat.le_trans (hMo _).size h)⟩
end
theorem cm {F:List Nat} {w:wW} {b:Nat} {k:KT} (h:(aa b k).holds F w):Calls tp 15 #[vp (sS ⟨b,0,nN⟩)] w (aK (vi uQ (k.online:Nat)) w):=by
 obtain ⟨hok,p,hA⟩:=ab h
 have c16:w.cell? ⟨b,16,nN⟩=sS (vi uQ (k.online:Nat)):=hA.kC 16
 clear hA h
 go_in
 go_wp2
 go_ret
 exact ⟨rfl,af.refl _ _⟩
section
variable {F:List Nat} {w u:wW}
end
/-- The first thing becomes things; what stands behind it Ei. -/
theorem On.splice {F:List Nat} {w u:wW} {R:ao} {rest L:List ao} (h:On F w (R :: rest) u):∃ F1,R.holds F1 u /\ (∀ b,b∈F1 -> b∈F \/ w.heap.size <= b) /\ ∀ {u2:wW} {L:List ao},On F1 u L u2 -> On F w (L++rest) u2:=by
 obtain ⟨Fa,⟨F1,F2,rfl,h1,h2,h3⟩,hm,hb⟩:=h
 refine ⟨F1,h1,λb hb1=>hb b (List.mem_append.2 (.inl hb1)),?_⟩
 rintro u2 L ⟨F3,g1,g2,g3⟩
 refine ⟨F3++F2,aZ.append.2 ⟨F3,F2,rfl,g1,h2.keep g2 (λb hb2 hb1=>h3 b hb1 hb2),λb hb3 hb2=>?_⟩,hm.trans g2 (λb hb1=>hb b (List.mem_append.2 (.inl hb1))),λb hb4=>?_⟩
 ·rcases g3 b hb3 with h|h
  ·exact h3 b h hb2
  ·have:=h2.lt b hb2;omega
 ·rcases List.mem_append.1 hb4 with h|h
  ·rcases g3 b h with h|h
   ·exact hb b (List.mem_append.2 (.inl h))
   ·have:=hm.size;exact .inr oM
  ·exact hb b (List.mem_append.2 (.inr h))
def ka:KT:=(k0 2).spawn 3 1
theorem Lw:ka.what 0=8:=by kernel_rfl
theorem Lx:aW ((k0 2).th.spawnV 3 1) ((k0 2).th.spawnE 3 1)=[⟨1,0,1,0,0⟩]:=by kernel_rfl
theorem Lu:ka.stepL 0=[⟨2,0,1,0,0⟩]:=by kernel_rfl
theorem GI:(ka.step 0).online=3:=by kernel_rfl
theorem Nh:ka.is 0:=⟨by decide,by show (0:Int)<((2:Nat):Int);decide⟩
theorem IG (ga gb:Nat) (ca cb:Nat) (w:wW) (a0:w.cell? ⟨ga,0,nN⟩=sS (vi iQ 1)) (a1:w.cell? ⟨ga,1,nN⟩=sS (vi iQ 0)) (a2:w.cell? ⟨ga,2,nN⟩=sS (vi iQ 1)) (a3:w.cell? ⟨ga,3,nN⟩=sS (vi iQ 0)) (a4:w.cell? ⟨ga,4,nN⟩=sS (vi iQ 0))
  (b0:w.cell? ⟨gb,0,nN⟩=sS (vi iQ 1)) (b1:w.cell? ⟨gb,1,nN⟩=sS (vi iQ 0)) (b2:w.cell? ⟨gb,2,nN⟩=sS (vi iQ 1)) (b3:w.cell? ⟨gb,3,nN⟩=sS (vi iQ 0)) (b4:w.cell? ⟨gb,4,nN⟩=sS (vi iQ 0)):
  Calls tp 69 #[.slice (sS ⟨ga,0,nN⟩) 1 ca,.slice (sS ⟨gb,0,nN⟩) 1 cb] w (ay (vb tQ) w):=by
 have hne:∀ w,(binOp .neq 37 (.agg #[vi iQ 1,vi iQ 0,vi iQ 1,vi iQ 0,vi iQ 0]) (.agg #[vi iQ 1,vi iQ 0,vi iQ 1,vi iQ 0,vi iQ 0])).run tp w=.ok (vb fF) w:=λw=>by kernel_rfl
 go_in
 go_wp2
 go_loopg [5] 1 (λgg i wr=>∃ (j:Nat),i=vi iQ j /\ j+gg=1 /\ aG w wr)
 case atStart=>exact ⟨0,rfl,by omega,aG.refl _⟩
 case round=>
  obtain ⟨j,rfl,hj,hD⟩:=hrel
  have m:=hD.mod (S:=[])
  by_cases hlt:j<1
  ·obtain rfl:j=0:=by omega
   have x0:=m.at a0 sM
   have x1:=m.at a1 sM
   have x2:=m.at a2 sM
   have x3:=m.at a3 sM
   have x4:=m.at a4 sM
   have y0:=m.at b0 sM
   have y1:=m.at b1 sM
   have y2:=m.at b2 sM
   have y3:=m.at b3 sM
   have y4:=m.at b4 sM
   clear a0 a1 a2 a3 a4 b0 b1 b2 b3 b4 m
   go_wp2
   go_quiet (fail)
   go_wp2
   go_roundg (gk - 1)
   case measure=>omega
   case rel=>exact ⟨1,rfl,by omega,by repeat (first|exact hD|apply aG.drewN|apply aG.drew)⟩
  ·obtain rfl:j=1:=by omega
   go_wp2
   go_ret
   exact ⟨rfl,hD⟩
theorem IF (ga gb:Nat) (ca cb:Nat) (w:wW) (a0:w.cell? ⟨ga,0,nN⟩=sS (vi iQ 2)) (a1:w.cell? ⟨ga,1,nN⟩=sS (vi iQ 0)) (a2:w.cell? ⟨ga,2,nN⟩=sS (vi iQ 1)) (a3:w.cell? ⟨ga,3,nN⟩=sS (vi iQ 0)) (a4:w.cell? ⟨ga,4,nN⟩=sS (vi iQ 0))
  (b0:w.cell? ⟨gb,0,nN⟩=sS (vi iQ 2)) (b1:w.cell? ⟨gb,1,nN⟩=sS (vi iQ 0)) (b2:w.cell? ⟨gb,2,nN⟩=sS (vi iQ 1)) (b3:w.cell? ⟨gb,3,nN⟩=sS (vi iQ 0)) (b4:w.cell? ⟨gb,4,nN⟩=sS (vi iQ 0)):
  Calls tp 69 #[.slice (sS ⟨ga,0,nN⟩) 1 ca,.slice (sS ⟨gb,0,nN⟩) 1 cb] w (ay (vb tQ) w):=by
 have hne:∀ w,(binOp .neq 37 (.agg #[vi iQ 2,vi iQ 0,vi iQ 1,vi iQ 0,vi iQ 0]) (.agg #[vi iQ 2,vi iQ 0,vi iQ 1,vi iQ 0,vi iQ 0])).run tp w=.ok (vb fF) w:=λw=>by kernel_rfl
 go_in
 go_wp2
 go_loopg [5] 1 (λgg i wr=>∃ (j:Nat),i=vi iQ j /\ j+gg=1 /\ aG w wr)
 case atStart=>exact ⟨0,rfl,by omega,aG.refl _⟩
 case round=>
  obtain ⟨j,rfl,hj,hD⟩:=hrel
  have m:=hD.mod (S:=[])
  by_cases hlt:j<1
  ·obtain rfl:j=0:=by omega
   have x0:=m.at a0 sM
   have x1:=m.at a1 sM
   have x2:=m.at a2 sM
   have x3:=m.at a3 sM
   have x4:=m.at a4 sM
   have y0:=m.at b0 sM
   have y1:=m.at b1 sM
   have y2:=m.at b2 sM
   have y3:=m.at b3 sM
   have y4:=m.at b4 sM
   clear a0 a1 a2 a3 a4 b0 b1 b2 b3 b4 m
   go_wp2
   go_quiet (fail)
   go_wp2
   go_roundg (gk - 1)
   case measure=>omega
   case rel=>exact ⟨1,rfl,by omega,by repeat (first|exact hD|apply aG.drewN|apply aG.drew)⟩
  ·obtain rfl:j=1:=by omega
   go_wp2
   go_ret
   exact ⟨rfl,hD⟩
theorem lh {a:Option Addr} {r:dS} {F:List Nat} {w:wW} (h:(nM a [r]).holds F w):∃ g,a=sS ⟨g,0,nN⟩ /\ w.cell? ⟨g,0,nN⟩=sS (vi iQ r.kind) /\ w.cell? ⟨g,1,nN⟩=sS (vi iQ r.cpu) /\ w.cell? ⟨g,2,nN⟩=sS (vi iQ r.id) /\ w.cell? ⟨g,3,nN⟩=sS (vi iQ r.n) /\ w.cell? ⟨g,4,nN⟩=sS (vi iQ r.why):=by
 rcases h with ⟨h,_⟩|⟨g,rfl,_,hb⟩
 ·cases h
 ·exact ⟨g,rfl,ad hb 0,ad hb 1,ad hb 2,ad hb 3,ad hb 4⟩
theorem cT (w:wW) (hT:bK w):Calls tp 9 #[] w (aK (vb tQ) w):=by
 have hN:=jk 2 oM oM w
 go_in
 go_wp2_with (first
  | (
   go_at_call 8
   refine hN.mono ?_
   rintro e w1 ⟨d,rfl,hG⟩
   have hA:=hG.on
   have hT1:=hA.tab hT sM
   obtain ⟨F1,g1,g2,g3⟩:=hA.splice (L:=[])
   have tz:tzL_ren.g 1∉F1:=λh=>by
    have:=hT.lt
    rcases g2 _ h with h|h
    ·cases h
    ·omega
   have hD:Calls tp 11 #[vp (sS ⟨d,0,nN⟩),.agg #[vi iQ 3,vi iQ 0,vi iQ 3,vi uQ 1,vi iQ 0]] w1 (bp d ka [⟨1,0,1,0,0⟩] F1 w1):=by rw [<- Lx];exact lV g1 hT1 tz 0 3 1 dE 0
   have hg3:=λ{u2:wW} {L:List ao}=>@g3 u2 L
   clear hA hG hN g3 tz g1 g2)
  | (
   go_at_call 11
   refine hD.mono ?_
   rintro e w2 ⟨a1,k1,rfl,hE⟩
   have hB:=hg3 hE
   clear hD hE hg3
   obtain ⟨F2,q1,q2,q3⟩:=hB.splice (L:=[])
   have hS:Calls tp 11 #[vp (sS ⟨d,0,nN⟩),.agg #[vi iQ 1,vi iQ 0,vi iQ 0,vi uQ 0,vi iQ 0]] w2 (bp d (ka.step 0) [⟨2,0,1,0,0⟩] F2 w2):=by rw [<- Lu];exact tl q1 0 Nh Lw 0 0 0
   have hq3:=λ{u2:wW} {L:List ao}=>@q3 u2 L
   clear hB q1 q2 q3)
  | (
   go_at_call 11
   refine hS.mono ?_
   rintro e w3 ⟨a2,k2,rfl,hE⟩
   have hC:=hq3 hE
   clear hS hE hq3
   obtain ⟨Fk,hk⟩:=hC.get 0 rfl
   obtain ⟨Fx,hx⟩:=hC.get 1 rfl
   obtain ⟨Fy,hy⟩:=hC.get 2 rfl
   obtain ⟨gr,rfl,x0,x1,x2,x3,x4⟩:=lh hx
   obtain ⟨ga,rfl,y0,y1,y2,y3,y4⟩:=lh hy
   have hOn:=λw' (m:af [] w3 w')=>cm ((aa d (ka.step 0)).keep hk m sM)
   rw [GI] at hOn
   have mw:=hC.mod
   have z1:=ad (ai w3 (.cells #[vi iQ 1,vi iQ 0,vi iQ 1,vi iQ 0,vi iQ 0] 37 (0,0)))
   clear hC hk hx hy)
  | (
   go_at_call 69
   refine (IG _ _ _ _ _ (au _ y0) (au _ y1) (au _ y2) (au _ y3) (au _ y4) (z1 0) (z1 1) (z1 2) (z1 3) (z1 4)).r λkk=>?_
   have z2:=ad (yl (w:=(w3.alloc (.cells #[vi iQ 1,vi iQ 0,vi iQ 1,vi iQ 0,vi iQ 0] 37 (0,0))).drewN kk) (n:=w3.heap.size+1) (.cells #[vi iQ 2,vi iQ 0,vi iQ 1,vi iQ 0,vi iQ 0] 37 (0,0)) sM)
   clear z1 y0 y1 y2 y3 y4)
  | (
   go_at_call 69
   refine (IF _ _ _ _ _ (au _ (qw (au _ x0) _)) (au _ (qw (au _ x1) _)) (au _ (qw (au _ x2) _)) (au _ (qw (au _ x3) _)) (au _ (qw (au _ x4) _)) (z2 0) (z2 1) (z2 2) (z2 3) (z2 4)).r λkk2=>?_
   clear z2 x0 x1 x2 x3 x4)
  | (
   go_at_call 15
   refine (hOn _ ((((mR.alloc _).drewN _).alloc _).drewN _)).s λv3 m3=>?_))
 go_ret
 exact ⟨rfl,(mw.trans (((((af.refl [] w3).alloc _).drewN _).alloc _).drewN _) sM).trans m3 sM⟩
end Go.Proofs.YtaakgpnmfkmdoaaGreatDoor