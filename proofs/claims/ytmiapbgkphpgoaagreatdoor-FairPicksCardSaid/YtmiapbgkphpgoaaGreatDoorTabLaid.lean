/- Walks and plain laws of the kernel. No condition. -/
import Derived.Test.YtmiapbgkphpgoaaGreatDoorTimerM
import Derived.Test.YtmiapbgkphpgoaaGreatDoorRows
import Derived.ProofKit
import Derived.LaidMore
import Derived.OpenShut
import Derived.FnData
import Derived.MakeChecks
namespace Go.Proofs.YtmiapbgkphpgoaaGreatDoor
set_option linter.unusedVariables false
set_option linter.unusedSimpArgs false
set_option maxRecDepth 100000
set_option maxHeartbeats 20000000
open Go.RowKit
open Go.Proofs.Tryz renaming prog → tp
open List renaming setIfInBounds_toArray → sA, set_cons_zero → sB, set_cons_succ → sC
open Go renaming World → wW
open Go.Value renaming pointer → vp, bool → vb, int → vi
open Go.IntKind renaming i64 → iQ, u64 → uQ
open Option renaming none → nN, some → sS
open Bool renaming true → tQ, false → fF
open Int renaming eq_ofNat_of_zero_le → iN
theorem yI {H:Type} {enc:TypeId × Value -> H} {P:Program} {W:wW} {base:Nat} {sp:Nat -> Bool} {fuel n:Nat} {t e:TypeId} {cs:List Value} {p:List MemPlace} (ht:P.underlying t=sS (.array n e)) (he:P.underlying e=sS (.int .u8)) (hc:P.cellsOf e=1) {tab:List Nat} (hl:tab.length=n)
  (h:DataW.trod enc P W base sp fF fuel t cs=sS (.agg (tab.map λk:Nat=>.lit (.int .u8 (k:Int))),p)) (j:Nat) (hj:j<n):cs[j]?=sS (.int .u8 (tab.getD j 0:Nat)):=by
 obtain ⟨xs,m,rfl,hx,hcl,hn,hel⟩:=DataW.trod_array ht h
 have h1:=hel j hj
 rw [hc,Nat.mul_one,List.getElem?_eq_getElem oM] at h1
 obtain ⟨k,e1,e2,_⟩:=DataW.trod_int he h1
 simp only [Prod.mk.injEq,DataW.agg.injEq] at hx
 have h2:=congrArg (λl=>l[j]?) hx.1
 simp only [List.getElem?_map,List.getElem?_eq_getElem (show j<tab.length by omega),List.getElem?_eq_getElem (show j<xs.length by omega),Option.map_some,e2,Option.some.injEq,DataW.lit.injEq,Lit.int.injEq,true_and] at h2
 have h3:cs[j]?=sS (.int .u8 k):=by
  have:=congrArg (λl=>l[0]?) e1
  simpa [List.getElem?_take,List.getElem?_drop] using this
 rw [h3,<- h2,List.getD_eq_getElem?_getD,List.getElem?_eq_getElem (show j<tab.length by omega)]
 rfl
theorem yJ {W : wW} (h : laidMetH tp [("math/bits.deBruijn64tab", Rows.laid_math_bits_deBruijn64tab)] W) : bA W := by
 rw [MakeChecks.laidMetH_plain _ _ _ kz] at h
 obtain ⟨ps,⟨g0,t0,cs0,f0,p0,q0,hg0,ht0,hv0,hd0,_,_⟩,_,_⟩:=h
 obtain rfl := Option.some.inj ((show tp.globalNamed "math/bits.deBruijn64tab" = sS (tzL_ren.g 1) by kernel_rfl).symm.trans hg0)
 obtain rfl:=Option.some.inj ((show (tp.globals[tzL_ren.g 1]?).map (·.type)=sS 350 by kernel_rfl).symm.trans ht0)
 intro j hj
 refine (World.var?_cell hg0 hv0 j).trans ?_
 have:=yI (n:=64) Tryz.underlying350 Tryz.underlying5 kz (tab:=Lib.deBruijn64tab) dE hd0 j hj
 simpa using this
end Go.Proofs.YtmiapbgkphpgoaaGreatDoor