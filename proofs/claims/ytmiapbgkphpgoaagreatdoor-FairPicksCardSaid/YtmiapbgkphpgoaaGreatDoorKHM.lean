/- Walks and plain laws of the kernel. No condition. -/
import Derived.Test.YtmiapbgkphpgoaaGreatDoorKGM
import Derived.Test.YtmiapbgkphpgoaaGreatDoorKNM
import Derived.Test.YtmiapbgkphpgoaaGreatDoorKEM
namespace Go.Proofs.YtmiapbgkphpgoaaGreatDoor
set_option linter.unusedVariables false
set_option linter.unusedSimpArgs false
set_option maxRecDepth 100000
set_option maxHeartbeats 20000000
open Go.RowKit
open Go.Proofs.Tryz renaming prog → tp
open List renaming setIfInBounds_toArray → sA, set_cons_zero → sB, set_cons_succ → sC
open Go renaming World → wW
open Go.Value renaming pointer → vp, bool → vb, int → vi
open Go.IntKind renaming i64 → iQ, u64 → uQ
open Option renaming none → nN, some → sS
open Bool renaming true → tQ, false → fF
open Int renaming eq_ofNat_of_zero_le → iN
def vq (e:jR):Array Value:=#[vi iQ e.kind,vi iQ e.cpu,vi iQ e.id,vi uQ (e.mask:Nat),vi iQ e.n]
section
variable {F:List Nat} {w u:wW} {b:Nat} {p:KP} {k:KT} {l:List cX}
theorem rz (h:(aa b k).holds F w) (hT:bA w) (hF:tzL_ren.g 1∉F) (cpu id:Int) (m:Nat) (hm:m<2 ^ 64) (n:Int):Calls tp 18 #[vp (sS ⟨b,0,nN⟩),.agg #[vi iQ 3,vi iQ cpu,vi iQ id,vi uQ (m:Nat),vi iQ n]] w (bo b (k.spawn id m) (aX (k.th.spawnV id m) (k.th.spawnE id m)) F w):=by
 have hA:=(On.one h).keep (u':=w.alloc (.cells #[vi iQ 3,vi iQ cpu,vi iQ id,vi uQ (m:Nat),vi iQ n] 34 (0,0))) (mR.alloc _)
 have hS:=hA.callU (P:=tp) (f:=70) hT hF 0 rfl (λF1 h1 hT1 hF1=>oC h1 hT1 hF1 id m hm)
 have hS2:=λj=>(hA.keep (u':=(w.alloc (.cells #[vi iQ 3,vi iQ cpu,vi iQ id,vi uQ (m:Nat),vi iQ n] 34 (0,0))).drewN j) (mR.drewN j)).callU (P:=tp) (f:=70) hT hF 0 rfl (λF1 h1 hT1 hF1=>oC h1 hT1 hF1 id m hm)
 generalize k.th.spawnV id m=v at *
 generalize k.th.spawnE id m=ee at *
 have x0:=ab (ai w (.cells #[vi iQ 3,vi iQ cpu,vi iQ id,vi uQ (m:Nat),vi iQ n] 34 (0,0))) 0
 have x2:=ab (ai w (.cells #[vi iQ 3,vi iQ cpu,vi iQ id,vi uQ (m:Nat),vi iQ n] 34 (0,0))) 2
 have x3:=ab (ai w (.cells #[vi iQ 3,vi iQ cpu,vi iQ id,vi uQ (m:Nat),vi iQ n] 34 (0,0))) 3
 have hAn:=λu=>bs v ee u
 clear h hA
 go_in
 go_wp2_with (first
  | (
   go_at_call 70
   first|refine hS.mono ?_|refine (hS2 _).mono ?_
   rintro e w1 ⟨rfl,hB⟩
   have HB:=zh (show On F w [aa b (k.spawn id m)] w1 from hB)
   clear hB hS hS2)
  | (
   go_at_call 69
   refine (hAn _).mono ?_
   intro e w2 hN
   obtain ⟨a,c,rfl,hE⟩:=hN.does HB.out))
 go_ret
 exact ⟨a,c,rfl,hE⟩
end
section
variable {F:List Nat} {w u:wW}
end
/-- The first thing becomes things; what stands behind it Cq. -/
theorem On.splice {F:List Nat} {w u:wW} {R:ak} {rest L:List ak} (h:On F w (R :: rest) u):∃ F1,R.holds F1 u /\ (∀ b,b∈F1 -> b∈F \/ w.heap.size <= b) /\ ∀ {u2:wW} {L:List ak},On F1 u L u2 -> On F w (L++rest) u2:=by
 obtain ⟨Fa,⟨F1,F2,rfl,h1,h2,h3⟩,hm,hb⟩:=h
 refine ⟨F1,h1,λb hb1=>hb b (List.mem_append.2 (.inl hb1)),?_⟩
 rintro u2 L ⟨F3,g1,g2,g3⟩
 refine ⟨F3++F2,aR.append.2 ⟨F3,F2,rfl,g1,h2.keep g2 (λb hb2 hb1=>h3 b hb1 hb2),λb hb3 hb2=>?_⟩,hm.trans g2 (λb hb1=>hb b (List.mem_append.2 (.inl hb1))),λb hb4=>?_⟩
 ·rcases g3 b hb3 with h|h
  ·exact h3 b h hb2
  ·have:=h2.lt b hb2;omega
 ·rcases List.mem_append.1 hb4 with h|h
  ·rcases g3 b h with h|h
   ·exact hb b (List.mem_append.2 (.inl h))
   ·have:=hm.size;exact .inr oM
  ·exact hb b (List.mem_append.2 (.inr h))
end Go.Proofs.YtmiapbgkphpgoaaGreatDoor