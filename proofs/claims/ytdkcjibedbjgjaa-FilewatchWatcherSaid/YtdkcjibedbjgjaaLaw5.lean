/-
  Own text Law5 of this claim: what functions of the given program compute, in plain Lean, and the proof; no condition.
-/
import Derived.Test.YtdkcjibedbjgjaaLaw4
namespace Go.Proofs.Ytdkcjibedbjgjaa
open Go.Fx Go.Sort
set_option linter.unusedVariables false

theorem eqE {l : List Ev} (hl : l.length ≤ 100000) : ∀ (k i : Nat), i + k = l.length → S_glossatorref3_Equal_api_QFileEvent_l1 none l l (i : Int) = some true
  | 0, i, h => by
    have hi : i = l.length := by omega
    subst hi
    unfold S_glossatorref3_Equal_api_QFileEvent_l1
    refine loopM_out ?_
    unfold S_glossatorref3_Equal_api_QFileEvent_b1
    rw [if_neg (by simp)]
    rfl
  | k + 1, i, h => by
    unfold S_glossatorref3_Equal_api_QFileEvent_l1
    rw [loopM_inl (s' := ((i + 1 : Nat) : Int)) ?_]
    · exact eqE hl k (i + 1) (by omega)
    · unfold S_glossatorref3_Equal_api_QFileEvent_b1
      rw [if_pos (by simp; omega), if_pos (by simp; omega), if_pos (by simp; omega), if_neg (by simp), Wi (by omega)]
theorem equalE {l : List Ev} (hl : l.length ≤ 100000) : S_glossatorref3_Equal_api_QFileEvent none l l = some true := by
  unfold S_glossatorref3_Equal_api_QFileEvent
  rw [if_neg (by simp)]
  exact eqE hl l.length 0 (by omega)
theorem eqB {l : List Bt} (hl : l.length ≤ 100000) (hb : ∀ b ∈ l, b.f_Events.length ≤ 100000) : ∀ (k i : Nat), i + k = l.length → S_glossatorref3_EqualBatches_l1 none l l (i : Int) = some true
  | 0, i, h => by
    have hi : i = l.length := by omega
    subst hi
    unfold S_glossatorref3_EqualBatches_l1
    refine loopM_out ?_
    unfold S_glossatorref3_EqualBatches_b1
    rw [if_neg (by simp)]
    rfl
  | k + 1, i, h => by
    have hi : i < l.length := by omega
    unfold S_glossatorref3_EqualBatches_l1
    rw [loopM_inl (s' := ((i + 1 : Nat) : Int)) ?_]
    · exact eqB hl hb k (i + 1) (by omega)
    · unfold S_glossatorref3_EqualBatches_b1
      simp only [List.length_map, Int.toNat_natCast, getD_at hi]
      rw [if_pos (by simp; omega), if_pos (by omega), if_pos (by omega), if_pos (by intro _; omega), if_pos (by intro _; omega), if_pos (by simp), equalE (hb _ (List.getElem_mem hi)), Option.bind_some, if_neg (by simp), Wi (by omega)]
theorem equalB {l : List Bt} (hl : l.length ≤ 100000) (hb : ∀ b ∈ l, b.f_Events.length ≤ 100000) : S_glossatorref3_EqualBatches none l l = some true := by
  unfold S_glossatorref3_EqualBatches
  rw [if_neg (by simp)]
  exact eqB hl hb l.length 0 (by omega)
theorem reach_max : reachBytes ≤ maxLen := by decide
def exE : List Ev := [⟨0, [97], 1⟩, ⟨50, [97], 2⟩, ⟨200, [98], 3⟩]
theorem ex_vld : vld exE 100 = 0 := by rfl
theorem ex_bs : bs exE 100 exE.length 0 0 [] = [⟨150, [⟨50, [97], 1⟩]⟩, ⟨300, [⟨200, [98], 3⟩]⟩] := by rfl
theorem example_true : S_glossatorlaw3_watchExample none = some true := by
  unfold S_glossatorlaw3_watchExample
  have h := prog_batches (a0 := exE) (d := 100) (by decide) (by intro e he; simp only [exE, List.mem_cons, List.not_mem_nil, or_false] at he; rcases he with rfl | rfl | rfl <;> decide)
  rw [if_pos ex_vld, ex_bs] at h
  refine (congrArg (fun o => Option.bind o _) h).trans ?_
  rw [Option.bind_some]
  simp only [List.length_map, List.length_cons, List.length_nil]
  rw [if_pos (by intro _; decide), if_pos (by intro _; decide), if_pos (by rfl)]
  rw [show (([⟨150, [⟨50, [97], 1⟩]⟩, ⟨300, [⟨200, [98], 3⟩]⟩] : List Bt).getD ((0 : Int).toNat) default).f_Events = [⟨50, [97], 1⟩] from rfl, equalE (by decide), Option.bind_some, if_pos (by intro _; decide)]
  rfl
end Go.Proofs.Ytdkcjibedbjgjaa
