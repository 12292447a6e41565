/-
  Own text ClA of this claim: what functions of the given program compute, in plain Lean, and the proof; no condition.
-/
import Derived.Test.YtjkfnbjgpilokaaGreatDoorLaw1
import Derived.Test.YtjkfnbjgpilokaaGreatDoorRows
import Derived.WalkKit
import Derived.ProofKit
import Derived.OpenShut
import Derived.SizedLaws
import Derived.Lay
import Derived.LaidOnce
import Derived.SevenTiedAt
import Derived.MakeChecks
import Derived.Test.YtjkfnbjgpilokaaGreatDoorCards
import Derived.Test.YtjkfnbjgpilokaaGreatDoorTie
namespace Go.Proofs.YtjkfnbjgpilokaaGreatDoor
open Go.ChangeShapes Go.WideShapes Go.ChangeAt Go.RowKit Go.Fx
set_option linter.unusedVariables false
theorem own:ownKnob Tryz.prog.godebug=none:=by kernel_rfl
theorem zet:laidOutB Tryz.prog=true:=by kernel_rfl
set_option maxRecDepth 100000 in
theorem lifted(os:Os)(started:os.Started)(H:Type)(enc:TypeId×Value→H) :
 ReturnsInHanded Rows.extractFirstEvaluatedEqualsReferenceRow.assume Tryz.checked os 5 .any (fun w args=>(Rows.extractFirstEvaluatedEqualsReferenceSpec.pre enc Tryz.prog Tryz.f5 Rows.extractFirstEvaluatedEqualsReferenceRow.domain false w args∧laidMetH Tryz.prog Rows.extractFirstEvaluatedEqualsReferenceRow.laid w)∧sizedMet enc Tryz.prog Tryz.f5 (OpenSpec.ofChange Rows.extractFirstEvaluatedEqualsReferenceSpec) false w args) (Rows.extractFirstEvaluatedEqualsReferenceSpec.post enc Tryz.prog Tryz.f5 false true false false):=by
 refine returnsInHanded_of_change_and (C:=Tryz.checked) (X:=fun w _=>laidMetH Tryz.prog Rows.extractFirstEvaluatedEqualsReferenceRow.laid w) (fun _ _ _ hh h=>h.of_heap hh) own started (by kernel_rfl) Tryz.func5
  (ChangeSpec.witness_shaped (enc:=enc) (C:=Tryz.checked) (os:=os) (X:=fun w _=>laidMetH Tryz.prog Rows.extractFirstEvaluatedEqualsReferenceRow.laid w) false (World.laidAll Tryz.prog os Rows.extractFirstEvaluatedEqualsReferenceRow.laid) #[.agg #[.int .i64 0,.int .i64 0,.string ⟨#[]⟩,.int .i64 0,.int .i64 0,.int .i64 0,.slice none 0 0],.int .i64 0,.int .i64 0] 8 (World.laidAll_os _ _ _)
   (World.shaped_of_ZipB (by kernel_rfl) (by kernel_rfl)) (by kernel_rfl) (by kernel_rfl) (by kernel_rfl)
   (by rw[MakeChecks.laidMetH_plain _ _ _ (by kernel_rfl)];exact laidMet_laidAll _ (by kernel_rfl) (by kernel_rfl))) ?_
 intro W base args ds gs before hval hW _ hsz hL _
 refine Ka (s:=Rows.extractFirstEvaluatedEqualsReferenceSpec) (tb:=4) zet [45,3,3] (by rw[Tryz.params5]) rfl rfl Tryz.underlying4 (by kernel_rfl) ?_ hval hW hsz (zd0 (by kernel_rfl) (by simp[Rows.extractFirstEvaluatedEqualsReferenceRow]) hL) ?_
 ·intro ds hlen
  match ds,hlen with
  |[_,_,_],_=>exact⟨rfl,rfl,rfl⟩
 ·intro ps h1 h2 h3
  obtain⟨⟨n,s,e,u⟩,_,hlen,hrep⟩:=zk6 h1 h2 h3
  exact⟨_,ziw (zk3 n s e),hlen,hrep⟩
end Go.Proofs.YtjkfnbjgpilokaaGreatDoor
