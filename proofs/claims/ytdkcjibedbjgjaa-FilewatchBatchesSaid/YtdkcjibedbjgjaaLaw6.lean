/-
  Own text Law6 of this claim: what functions of the given program compute, in plain Lean, and the proof; no condition.
-/
import Derived.Test.YtdkcjibedbjgjaaLaw5
namespace Go.Proofs.Ytdkcjibedbjgjaa
open Go.Fx Go.Sort
set_option linter.unusedVariables false
theorem reach_max : reachBytes ≤ maxLen := by decide
def exE : List Ev := [⟨0, [97], 1⟩, ⟨50, [97], 2⟩, ⟨200, [98], 3⟩]
theorem ex_vld : vld exE 100 = 0 := by rfl
theorem ex_bs : bs exE 100 exE.length 0 0 [] = [⟨150, [⟨50, [97], 1⟩]⟩, ⟨300, [⟨200, [98], 3⟩]⟩] := by rfl
theorem example_true : S_glossatorlaw3_watchExample none = some true := by
  unfold S_glossatorlaw3_watchExample
  have h := prog_batches (a0 := exE) (d := 100) (by decide) (by intro e he; simp only [exE, List.mem_cons, List.not_mem_nil, or_false] at he; rcases he with rfl | rfl | rfl <;> decide)
  rw [if_pos ex_vld, ex_bs] at h
  refine (congrArg (fun o => Option.bind o _) h).trans ?_
  rw [Option.bind_some]
  simp only [List.length_map, List.length_cons, List.length_nil]
  rw [if_pos (by intro _; decide), if_pos (by intro _; decide), if_pos (by rfl)]
  rw [show (([⟨150, [⟨50, [97], 1⟩]⟩, ⟨300, [⟨200, [98], 3⟩]⟩] : List Bt).getD ((0 : Int).toNat) default).f_Events = [⟨50, [97], 1⟩] from rfl, equalE (by decide), Option.bind_some, if_pos (by intro _; decide)]
  rfl
end Go.Proofs.Ytdkcjibedbjgjaa
