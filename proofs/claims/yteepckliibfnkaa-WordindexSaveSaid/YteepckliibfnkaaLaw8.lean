/-
  Own text Law8 of this claim: what functions of the given program compute, in plain Lean, and the proof; no condition.
-/
import Derived.Test.YteepckliibfnkaaOk
import Derived.Test.YteepckliibfnkaaLaw7
namespace Go.Proofs.Yteepckliibfnkaa
open Go.Fx Go.Sort
set_option linter.unusedVariables false
theorem lawS {a0 : List G_QIndexEntry} (h : okA4 a0) : S_glossatorlaw3_WordindexSave none a0 = some true := by
  obtain ⟨_, hl, hE⟩ := h
  unfold reachBytes at hl
  refine save_law (by omega) fun e he => ?_
  obtain ⟨_, ⟨h1, h2⟩, _, h3, h4⟩ := hE e he
  unfold reachBytes at h3
  refine ⟨by omega, fun w hw => ?_, h1, ?_⟩
  · have := h4 w hw
    unfold ok_str reachBytes at this
    omega
  · have : IntKind.max .u32 = 4294967295 := by decide
    omega
end Go.Proofs.Yteepckliibfnkaa
