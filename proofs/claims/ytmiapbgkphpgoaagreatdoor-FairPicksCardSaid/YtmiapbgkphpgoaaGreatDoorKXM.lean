/- Walks and plain laws of the kernel. No condition. -/
import Derived.Test.YtmiapbgkphpgoaaGreatDoorBaseM
import Derived.Test.YtmiapbgkphpgoaaGreatDoorKZM
namespace Go.Proofs.YtmiapbgkphpgoaaGreatDoor
set_option linter.unusedVariables false
set_option linter.unusedSimpArgs false
set_option maxRecDepth 100000
set_option maxHeartbeats 20000000
open Go.RowKit
open Go.Proofs.Tryz renaming prog → tp
open List renaming setIfInBounds_toArray → sA, set_cons_zero → sB, set_cons_succ → sC
open Go renaming World → wW
open Go.Value renaming pointer → vp, bool → vb, int → vi
open Go.IntKind renaming i64 → iQ, u64 → uQ
open Option renaming none → nN, some → sS
open Bool renaming true → tQ, false → fF
open Int renaming eq_ofNat_of_zero_le → iN
theorem testBit_int (a i:Nat):(((a:Int) / 2 ^ i).tmod 2==1)=a.testBit i:=by
 rw [Nat.testBit_eq_decide_div_mod_eq]
 have h:((a:Int) / 2 ^ i)=((a / 2 ^ i:Nat):Int):=by simp
 rw [h]
 generalize a / 2 ^ i=q
 rw [Int.tmod_eq_emod_of_nonneg oM]
 by_cases e:q % 2=1
 ·simp only [e,decide_true]
  have:(q:Int) % 2=1:=by omega
  rw [this];rfl
 ·simp only [e,decide_false]
  have:(q:Int) % 2=0:=by omega
  rw [this];rfl
theorem rmask_Has (a i:Nat) (w:wW) (hi:i<64):Calls tp 97 #[vi uQ a,vi iQ i] w (au (vb (a.testBit i)) w):=by
 have HT:=zh (testBit_int a i)
 go_in
 go_wp2
 go_ret
 exact au.of (by rw [<- HT.out];rfl) dz
theorem add_pow {a i:Nat} (h:a.testBit i=fF):a+2 ^ i=a ||| 2 ^ i:=by
 have h0:a / 2 ^ i % 2=0:=by
  rw [Nat.testBit_eq_decide_div_mod_eq] at h
  have:=of_decide_eq_false h
  omega
 have hp:0<2 ^ i:=Nat.pow_pos oM
 have hlo:a % 2 ^ i<2 ^ i:=Nat.mod_lt _ hp
 have ha:a=2 ^ (i+1) * (a / 2 ^ i / 2)+a % 2 ^ i:=by
  have h1:=Nat.div_add_mod a (2 ^ i)
  have h2:=Nat.div_add_mod (a / 2 ^ i) 2
  rw [Nat.pow_succ,Nat.mul_assoc]
  rw [h0] at h2
  have h3:2 * (a / 2 ^ i / 2)=a / 2 ^ i:=by omega
  rw [h3];omega
 generalize a % 2 ^ i=lo at *
 generalize a / 2 ^ i / 2=hi at *
 subst ha
 have h1:2 ^ i+lo=2 ^ i ||| lo:=by have:=Nat.two_pow_add_eq_or_of_lt hlo 1;simpa using this
 have h2:lo<2 ^ (i+1):=by rw [Nat.pow_succ];omega
 have h3:2 ^ i+lo<2 ^ (i+1):=by rw [Nat.pow_succ];omega
 rw [Nat.add_assoc,Nat.add_comm lo,Nat.two_pow_add_eq_or_of_lt h3,Nat.two_pow_add_eq_or_of_lt h2,h1,Nat.or_assoc,Nat.or_comm lo]
theorem rmask_With (a i:Nat) (w:wW) (ha:a<2 ^ 64) (hi:i<64):Calls tp 38 #[vi uQ a,vi iQ i] w (au (vi uQ (a ||| 2 ^ i:Nat)) w):=by
 cases hb:a.testBit i
 ·have h1:IntKind.u64.wrap ((a:Int)+IntKind.u64.wrap (2 ^ i))=((a ||| 2 ^ i:Nat):Int):=by
   have h2:=nz (2 ^ i) (jq hi)
   rw [Int.natCast_pow] at h2
   rw [show (2:Int) ^ i=((2:Nat):Int) ^ i from rfl,h2,<- Int.natCast_pow,<- Int.natCast_add,add_pow hb]
   exact nz _ (Nat.or_lt_two_pow ha (jq hi))
  have H1:=zh h1
  clear h1
  go_in
  go_wp2_with (go_at_call 97;refine (rmask_Has a i _ hi).mono ?_;rw [hb];rintro e w' ⟨rfl,k,rfl⟩)
  go_ret
  exact au.of (by rw [<- H1.out];rfl) dz
 ·have h1:a ||| 2 ^ i=a:=by
   apply Nat.eq_of_testBit_eq
   intro j
   rw [Nat.testBit_or,Nat.testBit_two_pow]
   by_cases e:i=j
   ·subst e;simp [hb]
   ·simp [e]
  rw [h1]
  clear h1
  go_in
  go_wp2_with (go_at_call 97;refine (rmask_Has a i _ hi).mono ?_;rw [hb];rintro e w' ⟨rfl,k,rfl⟩)
  go_ret
  exact au.of (rfl) dz
section
open Go.ChangeShapes Go.WideShapes Go.ChangeAt Go.RowKit Go.Deep
section
variable {H:Type} {enc:TypeId × Value -> H} {P:Program} {w:wW} {spare:Nat -> Bool} {held:Bool}
theorem elem_int {e:TypeId} {k:IntKind} (he:P.underlying e=sS (.int k)):∀ m cs y,DataW.trod enc P w 0 spare held m e cs=sS y -> ∃ z:Int,cs=[.int k z] /\ (Lit.int k z).wf=tQ:=λ_ _ _ h=>by
 obtain ⟨b,h1,_,h2⟩:=DataW.trod_int he h
 exact ⟨b,h1,h2⟩
end
end
section
variable {F:List Nat} {w u:wW} {b:Nat} {p:KP} {k:KT}
theorem kernel_Timers_at (h:On F w (ag b p k) u):Calls tp 167 #[vp (sS ⟨b,0,nN⟩)] u (bp (vp (sS ⟨p.tm,0,nN⟩)) u):=by
 have hfl:∀ w,(Instr.field 89 (xx p k.n) 2).run tp w=.ok (vp (sS ⟨p.tm,0,nN⟩)) w:=λw=>by kernel_rfl
 have hO:=vj h
 unfold xx at *
 generalize k.n=kn at *
 clear h
 go_in
 go_wp2_with (go_at_call 77;refine hO.s λw1 m=>?_)
 go_ret
 exact ⟨rfl,m⟩
theorem kernel_Irqs_at (h:On F w (ag b p k) u):Calls tp 85 #[vp (sS ⟨b,0,nN⟩)] u (bp (vp (sS ⟨p.iq,0,nN⟩)) u):=by
 have hfl:∀ w,(Instr.field 89 (xx p k.n) 3).run tp w=.ok (vp (sS ⟨p.iq,0,nN⟩)) w:=λw=>by kernel_rfl
 have hO:=vj h
 unfold xx at *
 generalize k.n=kn at *
 clear h
 go_in
 go_wp2_with (go_at_call 77;refine hO.s λw1 m=>?_)
 go_ret
 exact ⟨rfl,m⟩
theorem kernel_Works_at (h:On F w (ag b p k) u):Calls tp 80 #[vp (sS ⟨b,0,nN⟩)] u (bp (vp (sS ⟨p.wk,0,nN⟩)) u):=by
 have hfl:∀ w,(Instr.field 89 (xx p k.n) 5).run tp w=.ok (vp (sS ⟨p.wk,0,nN⟩)) w:=λw=>by kernel_rfl
 have hO:=vj h
 unfold xx at *
 generalize k.n=kn at *
 clear h
 go_in
 go_wp2_with (go_at_call 77;refine hO.s λw1 m=>?_)
 go_ret
 exact ⟨rfl,m⟩
theorem kernel_Calls_at (h:On F w (ag b p k) u):Calls tp 165 #[vp (sS ⟨b,0,nN⟩)] u (bp (vp (sS ⟨p.cb,0,nN⟩)) u):=by
 have hfl:∀ w,(Instr.field 89 (xx p k.n) 6).run tp w=.ok (vp (sS ⟨p.cb,0,nN⟩)) w:=λw=>by kernel_rfl
 have hO:=vj h
 unfold xx at *
 generalize k.n=kn at *
 clear h
 go_in
 go_wp2_with (go_at_call 77;refine hO.s λw1 m=>?_)
 go_ret
 exact ⟨rfl,m⟩
theorem kernel_Desk_at (h:On F w (ag b p k) u):Calls tp 25 #[vp (sS ⟨b,0,nN⟩)] u (bp (vp (sS ⟨p.dk,0,nN⟩)) u):=by
 have hfl:∀ w,(Instr.field 89 (xx p k.n) 11).run tp w=.ok (vp (sS ⟨p.dk,0,nN⟩)) w:=λw=>by kernel_rfl
 have hO:=vj h
 unfold xx at *
 generalize k.n=kn at *
 clear h
 go_in
 go_wp2_with (go_at_call 77;refine hO.s λw1 m=>?_)
 go_ret
 exact ⟨rfl,m⟩
end
end Go.Proofs.YtmiapbgkphpgoaaGreatDoor