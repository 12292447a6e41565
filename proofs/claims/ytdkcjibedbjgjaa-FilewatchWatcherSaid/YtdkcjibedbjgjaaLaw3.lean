/-
  Own text Law3 of this claim: what functions of the given program compute, in plain Lean, and the proof; no condition.
-/
import Derived.Test.YtdkcjibedbjgjaaLaw2
namespace Go.Proofs.Ytdkcjibedbjgjaa
open Go.Fx Go.Sort
set_option linter.unusedVariables false

abbrev Bt := G_QFileBatch
def seg (a0 : List Ev) (s e : Nat) : List Ev := (a0.take e).drop s
theorem seg_len {a0 : List Ev} {s e : Nat} (h : e ≤ a0.length) : (seg a0 s e).length = e - s := by unfold seg; rw [List.length_drop, List.length_take, Nat.min_eq_left h]
theorem seg_mem {a0 : List Ev} {s e : Nat} {x : Ev} (h : x ∈ seg a0 s e) : x ∈ a0 := List.mem_of_mem_take (List.mem_of_mem_drop h)
def one (X : List Ev) (t : Int) : List Bt := if evs X = [] then [] else [⟨t, evs X⟩]
theorem one_len (X : List Ev) (t : Int) : (one X t).length ≤ 1 := by unfold one; split <;> simp
def cont (a0 : List Ev) (d : Int) (i : Nat) : Bool := decide (i + 1 < a0.length) && decide (W ((a0.getD (i + 1) default).f_Time - (a0.getD i default).f_Time) < d)
def bs (a0 : List Ev) (d : Int) : Nat → Nat → Nat → List Bt → List Bt
  | 0, _, _, acc => acc
  | k + 1, i, s, acc => if cont a0 d i = true then bs a0 d k (i + 1) s acc else bs a0 d k (i + 1) (i + 1) (acc ++ one (seg a0 s (i + 1)) (W ((a0.getD i default).f_Time + d)))
theorem pr_loop {a0 : List Ev} {d : Int} (ha : a0.length ≤ 100000) (hp : ∀ e ∈ a0, e.f_Path.length ≤ maxLen) : ∀ (k i s : Nat) (acc : List Bt), i + k = a0.length → s ≤ i → acc.length ≤ i →
    S_filewatch_Batches_l1 none a0 d acc (s : Int) (i : Int) = some (bs a0 d k i s acc, 0)
  | 0, i, s, acc, h, hs, hl => by
    have hi : i = a0.length := by omega
    subst hi
    unfold S_filewatch_Batches_l1 bs
    refine loopM_out ?_
    unfold S_filewatch_Batches_b1
    rw [if_neg (by simp)]
    rfl
  | k + 1, i, s, acc, h, hs, hl => by
    have hi : i < a0.length := by omega
    unfold S_filewatch_Batches_l1 bs
    by_cases hc : cont a0 d i = true
    · rw [if_pos hc, loopM_inl (s' := (acc, (s : Int), ((i + 1 : Nat) : Int))) ?_]
      · exact pr_loop ha hp k (i + 1) s acc (by omega) (by omega) (by omega)
      · unfold S_filewatch_Batches_b1 S_filewatch_Batches_j6
        simp only [List.length_map, Int.toNat_natCast, Wi (show i ≤ 4611686018427387904 by omega)]
        unfold cont at hc
        simp only [Bool.and_eq_true, decide_eq_true_eq] at hc
        rw [if_pos (by simp; omega), if_pos (by intro _; omega), if_pos (by intro _; omega), if_pos (by simp only [Bool.and_eq_true, decide_eq_true_eq]; exact ⟨by omega, hc.2⟩)]
    · rw [if_neg hc]
      have ho := one_len (seg a0 s (i + 1)) (W ((a0.getD i default).f_Time + d))
      rw [loopM_inl (s' := (acc ++ one (seg a0 s (i + 1)) (W ((a0.getD i default).f_Time + d)), ((i + 1 : Nat) : Int), ((i + 1 : Nat) : Int))) ?_]
      · exact pr_loop ha hp k (i + 1) (i + 1) _ (by omega) (by omega) (by rw [List.length_append]; omega)
      · unfold S_filewatch_Batches_b1 S_filewatch_Batches_j5 S_filewatch_Batches_j6
        simp only [List.length_map, Int.toNat_natCast, Wi (show i ≤ 4611686018427387904 by omega)]
        unfold cont at hc
        have hsl := seg_len (a0 := a0) (s := s) (e := i + 1) (by omega)
        rw [if_pos (by simp; omega), if_pos (by simp only [beq_iff_eq, decide_eq_true_eq]; omega), if_pos (by intro _; omega), if_neg (by intro h2; refine hc ?_; simp only [Bool.and_eq_true, decide_eq_true_eq] at h2 ⊢; exact ⟨by omega, h2.2⟩), if_pos (by omega)]
        have hnb := newBatch_eq (a0 := seg a0 s (i + 1)) (d := d) (by omega) (by omega) (fun e he => hp e (seg_mem he))
        rw [show (a0.take (i + 1)).drop s = seg a0 s (i + 1) from rfl, hnb, Option.bind_some]
        have hlast : (seg a0 s (i + 1))[(seg a0 s (i + 1)).length - 1]'(by omega) = a0.getD i default := by
          rw [getD_at hi]
          unfold seg
          simp only [List.getElem_drop, List.getElem_take]
          congr 1
          rw [List.length_drop, List.length_take]; omega
        rw [hlast]
        unfold one
        by_cases he : evs (seg a0 s (i + 1)) = []
        · rw [if_neg (by simp [he]), if_pos he, List.append_nil]
        · rw [if_pos (by have := List.length_pos_iff.2 he; simp only [decide_eq_true_eq]; omega), if_pos (by simp; omega), if_neg he]

theorem pa_coll {a0 : List Ev} (ha : a0.length ≤ 100000) : ∀ (k i : Nat) (acc : List (List UInt8)), i + k = a0.length → acc.length = i →
    S_glossatorref3_paths_l1 none a0 acc (i : Int) = S_glossatorref3_paths_j1 none (acc ++ (a0.drop i).map (·.f_Path))
  | 0, i, acc, h, hl => by
    have hi : i = a0.length := by omega
    subst hi
    unfold S_glossatorref3_paths_l1
    rw [List.drop_length, List.map_nil, List.append_nil]
    refine loopM_out ?_
    unfold S_glossatorref3_paths_b1
    rw [if_neg (by simp)]
  | k + 1, i, acc, h, hl => by
    have hi : i < a0.length := by omega
    unfold S_glossatorref3_paths_l1
    rw [loopM_inl (s' := (acc ++ [a0[i].f_Path], ((i + 1 : Nat) : Int))) ?_]
    · have ih := pa_coll ha k (i + 1) (acc ++ [a0[i].f_Path]) (by omega) (by simp; omega)
      rw [List.drop_eq_getElem_cons hi, List.map_cons, show acc ++ a0[i].f_Path :: List.map (·.f_Path) (List.drop (i+1) a0) = (acc ++ [a0[i].f_Path]) ++ List.map (·.f_Path) (List.drop (i+1) a0) by simp]
      exact ih
    · unfold S_glossatorref3_paths_b1
      simp only [List.length_map, Int.toNat_natCast, getD_at hi]
      rw [if_pos (by simp; omega), if_pos (by omega), if_pos (by simp; omega), Wi (by omega)]
theorem paths_eq {a0 : List Ev} (ha : a0.length ≤ 100000) : S_glossatorref3_paths none a0 = some (sortS (a0.map (·.f_Path))) := by
  have h := pa_coll ha a0.length 0 [] (by omega) rfl
  unfold S_glossatorref3_paths
  rw [show (0 : Int) = ((0 : Nat) : Int) from rfl, h, List.drop_zero, List.nil_append]
  unfold S_glossatorref3_paths_j1
  rw [ss_eq (by simpa using ha), Option.bind_some]
end Go.Proofs.Ytdkcjibedbjgjaa
