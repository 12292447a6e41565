/-
  Own text Law7 of this claim: what functions of the given program compute, in plain Lean, and the proof; no condition.
-/
import Derived.Test.YtdkcjibedbjgjaaOk
import Derived.Test.YtdkcjibedbjgjaaLaw6
namespace Go.Proofs.Ytdkcjibedbjgjaa
open Go.Fx Go.Sort
set_option linter.unusedVariables false
theorem lawB {a0 : List G_QFileEvent} {a1 : Int} {a2 : List (List UInt8)} {a3 a4 : Int} (h : okA3 a0 a1 a2 a3 a4) : S_glossatorlaw3_FilewatchBatches none a0 a1 a2 a3 a4 = some true := by
  obtain ⟨⟨_, _, hE⟩, _, ⟨_, _, hF⟩, _, _⟩ := h
  have hE' : ∀ e ∈ a0, e.f_Path.length ≤ maxLen := fun e he => Nat.le_trans (hE e he).2.1 reach_max
  have hF' : ∀ f ∈ a2, f.length ≤ maxLen := fun f hf => Nat.le_trans (hF f hf) reach_max
  unfold S_glossatorlaw3_FilewatchBatches
  rw [example_true, Option.bind_some, if_neg (by simp)]
  simp only [List.length_map]
  rw [if_pos (by split <;> omega), if_pos (by split <;> omega)]
  have hl : (a0.take (if 40 < (a0.length : Int) then 40 else (a0.length : Int)).toNat).length ≤ 40 := by rw [List.length_take]; split <;> omega
  have hl2 : (a2.take (if 10 < (a2.length : Int) then 10 else (a2.length : Int)).toNat).length ≤ 10 := by rw [List.length_take]; split <;> omega
  have hE2 : ∀ e ∈ a0.take (if 40 < (a0.length : Int) then 40 else (a0.length : Int)).toNat, e.f_Path.length ≤ maxLen := fun e he => hE' e (List.mem_of_mem_take he)
  have hF2 : ∀ f ∈ a2.take (if 10 < (a2.length : Int) then 10 else (a2.length : Int)).toNat, f.length ≤ maxLen := fun f hf => hF' f (List.mem_of_mem_take hf)
  generalize a0.take (if 40 < (a0.length : Int) then 40 else (a0.length : Int)).toNat = E at hl hE2 ⊢
  generalize a2.take (if 10 < (a2.length : Int) then 10 else (a2.length : Int)).toNat = F at hl2 hF2 ⊢
  rw [prog_batches (by omega) hE2, check_eq (by omega)]
  simp only [Option.bind_some]
  obtain ⟨b1, b2⟩ := bs_ok (a0 := E) (d := a1) (by omega) E.length 0 0 [] (by simp)
  obtain ⟨f1, f2, f3⟩ := filesR_inv F E
  have tail : ((if (true == true) = true then S_filewatch_Merge none a3 a4 else some default).bind fun v7 =>
      (if (true == true) = true then S_glossatorref3_Merge none a3 a4 else some default).bind fun v8 =>
      (if ((true && (v7 == v8)) == true) = true then S_filewatch_Apply none F E else some default).bind fun v9 =>
      (if ((true && (v7 == v8)) == true) = true then S_glossatorref3_Files none F E else some default).bind fun v10 =>
      (if ((true && (v7 == v8)) == true) = true then S_glossatorref3_Equal_string none v9 v10 else some default).bind fun v11 =>
      (if (((true && (v7 == v8)) && v11) == true) = true then S_filewatch_Consistent none F E else some default).bind fun v12 =>
      (if (((true && (v7 == v8)) && v11) == true) = true then S_glossatorref3_Consistent none F E else some default).bind fun v13 =>
      some (((true && (v7 == v8)) && v11) && (v12 == v13))) = some true := by
    rw [if_pos (by rfl), merge_eq, Option.bind_some, if_pos (by rfl), rmerge_eq, Option.bind_some]
    have e : ((true && (mrg a3 a4 == mrg a3 a4)) == true) = true := by simp
    rw [if_pos e, if_pos e]
    rw [apply_eq (by omega) (by omega) hF2 hE2 f1 f3, Option.bind_some, files_eq (by omega) (by omega), Option.bind_some, if_pos e, equalS (by omega), Option.bind_some, if_pos (by simp), prog_cons (by omega) (by omega), Option.bind_some, if_pos (by simp), ref_cons (by omega) (by omega), Option.bind_some]
    simp
  by_cases hv : vld E a1 = 0
  · rw [if_pos hv, hv, if_pos (by simp), ref_batches (by omega), Option.bind_some, if_pos (by simp), equalB (by simp at b1; omega) b2, Option.bind_some, if_neg (by simp)]
    exact tail
  · have h1 : (vld E a1 == 0) = false := by simpa using hv
    rw [if_neg hv, if_neg (by simp [h1]), Option.bind_some, if_neg (by simp [h1]), Option.bind_some, if_neg (by simp [h1])]
    exact tail
end Go.Proofs.Ytdkcjibedbjgjaa
