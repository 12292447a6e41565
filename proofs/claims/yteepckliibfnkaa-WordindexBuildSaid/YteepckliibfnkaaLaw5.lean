/-
  Own text Law5 of this claim: what functions of the given program compute, in plain Lean, and the proof; no condition.
-/
import Derived.Test.YteepckliibfnkaaOk
import Derived.Test.YteepckliibfnkaaLaw4
namespace Go.Proofs.Yteepckliibfnkaa
open Go.Fx Go.Sort
set_option linter.unusedVariables false
theorem lawB {a0 : List G_QDocument} {a1 : List UInt8} (h : okA3 a0 a1) : S_glossatorlaw3_WordindexBuild none a0 a1 = some true := by
  obtain ⟨⟨_, hl, _⟩, _⟩ := h
  have hl' : a0.length ≤ 4000000000000 := by unfold reachBytes at hl; omega
  unfold S_glossatorlaw3_WordindexBuild
  rw [example_true, Option.bind_some, if_neg (by simp), if_pos (by split <;> omega), build_prog hl', Option.bind_some, check_eq hl', Option.bind_some, List.drop_zero]
  have ht : (a1.take (if 300 < (a1.length : Int) then 300 else (a1.length : Int)).toNat).length ≤ 300 := by rw [List.length_take]; split <;> omega
  generalize a1.take (if 300 < (a1.length : Int) then 300 else (a1.length : Int)).toNat = t at ht
  have hw := words_len t
  rw [words_prog (by omega), Option.bind_some, words_ref (by omega), Option.bind_some, equalS (by omega), Option.bind_some]
  by_cases hc : chk a0 = 0
  · obtain ⟨b1, b2⟩ := bld_len hc
    rw [if_pos hc, hc, if_neg (by simp), if_neg (by simp), Option.bind_some, if_pos (by rfl), index_ref hc, Option.bind_some, if_pos (by rfl), equalX (by omega) (fun b hb => Nat.le_trans (b2 b hb) (by omega)), Option.bind_some]
    rfl
  · rw [if_neg hc, if_neg (by simp), if_pos (by simpa using hc), Option.bind_some]
    rfl
end Go.Proofs.Yteepckliibfnkaa
