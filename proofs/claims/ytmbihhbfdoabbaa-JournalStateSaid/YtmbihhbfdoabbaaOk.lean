/-
  Own text Ok of this claim: what functions of the given program compute, in plain Lean, and the proof; no condition.
-/
import Derived.Test.YtmbihhbfdoabbaaGenB
namespace Go.Proofs.Ytmbihhbfdoabbaa
open Go.Fx
set_option linter.unusedVariables false
def ok_QRecord (x : G_QRecord) : Prop := x.f_Key.length ≤ reachBytes ∧ x.f_Value.length ≤ reachBytes ∧ True
def ok_sl_QRecord (x : List G_QRecord) : Prop := (x.length ≤ maxLen ∧ x.length * 40 ≤ reachBytes ∧ ∀ y ∈ x, ok_QRecord y)
def ok_str (x : List UInt8) : Prop := x.length ≤ reachBytes
def ok_bool (x : Bool) : Prop := True
/-- what is known of the arguments -/
def okA3 (a0 : List G_QRecord) : Prop := ((a0.length ≤ maxLen ∧ a0.length * 40 ≤ reachBytes ∧ ∀ y ∈ a0, ok_QRecord y))
end Go.Proofs.Ytmbihhbfdoabbaa
