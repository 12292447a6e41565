/-
  Own text Law1 of this claim: what functions of the given program compute, in plain Lean, and the proof; no condition.
-/
import Derived.Test.YtdkcjibedbjgjaaGenB
import Derived.Test.YtdkcjibedbjgjaaFxLt
import Derived.Sort.Walk0
namespace Go.Proofs.Ytdkcjibedbjgjaa
open Go.Fx Go.Sort
set_option linter.unusedVariables false

theorem ss_ins {a0 v3 : List (List UInt8)} {v4 : Int} (hl : v3.length ≤ 100000) :
    S_glossatorref3_SortStrings_j5 none a0 v3 v4 ((lowr (a0.getD v4.toNat default) v3).length : Int) = some (.inl (insS v3 (a0.getD v4.toNat default), W (v4 + 1))) := by
  generalize hx : a0.getD v4.toNat default = x
  have hle : (lowr x v3).length ≤ v3.length := by
    have := congrArg List.length (low_up x v3); rw [List.length_append] at this; omega
  unfold S_glossatorref3_SortStrings_j5 S_glossatorref3_SortStrings_j6
  simp only [hx, List.length_map, Int.toNat_natCast]
  rw [if_pos (by intro h; simp at h; omega)]
  by_cases hn : (lowr x v3).length = v3.length
  · have hu : uppr x v3 = [] := by rw [← low_drop, hn]; simp
    rw [if_pos (by simp [hn]), if_pos (by omega), if_pos (by omega), if_pos (by simp; omega), if_pos (by simp), if_pos (by simp; omega), low_take, low_drop, hu]
    unfold insS
    rw [hu]
    rfl
  · obtain ⟨h1, h2⟩ := scan_up (x := x) (l := v3) (by omega)
    have hg : v3.getD (lowr x v3).length default = v3[(lowr x v3).length]'(by omega) := getD_at (by omega)
    by_cases he : v3[(lowr x v3).length]'(by omega) = x
    · rw [if_neg (by rw [hg, he]; simp; omega)]
      unfold insS
      rw [h2]
      simp only [he, if_true]
    · rw [if_pos (by rw [hg]; simp [he]), if_pos (by omega), if_pos (by omega), if_pos (by simp; omega), if_pos (by simp), if_pos (by simp; omega), low_take, low_drop]
      have hi : insS v3 x = lowr x v3 ++ (x :: uppr x v3) := by
        unfold insS
        rw [h2]
        simp only [he, if_false]
      rw [hi]
      rfl
theorem ss_scan {a0 v3 : List (List UInt8)} {v4 : Int} (hl : v3.length ≤ 100000) : ∀ (k i : Nat), i + k = (lowr (a0.getD v4.toNat default) v3).length →
    S_glossatorref3_SortStrings_l4 none a0 v3 v4 (i : Int) = some (.inl (insS v3 (a0.getD v4.toNat default), W (v4 + 1)))
  | 0, i, h => by
    have hi : i = (lowr (a0.getD v4.toNat default) v3).length := by omega
    unfold S_glossatorref3_SortStrings_l4
    rw [← ss_ins hl, hi]
    refine loopM_out ?_
    unfold S_glossatorref3_SortStrings_b4
    simp only [List.length_map, Int.toNat_natCast]
    rw [if_pos (by intro h; simp only [beq_iff_eq, decide_eq_true_eq] at h; omega), if_neg]
    rw [bytesLess_eq]
    by_cases hn : (lowr (a0.getD v4.toNat default) v3).length < v3.length
    · obtain ⟨h1, _⟩ := scan_up (x := a0.getD v4.toNat default) (l := v3) hn
      rw [getD_at hn]
      simp only [Bool.and_eq_true, decide_eq_true_eq]
      exact fun h => h1 h.2
    · simp only [Bool.and_eq_true, decide_eq_true_eq]
      exact fun h => hn (by omega)
  | k + 1, i, h => by
    obtain ⟨hi, hlt⟩ := scan_low (x := a0.getD v4.toNat default) (l := v3) (i := i) (by omega)
    unfold S_glossatorref3_SortStrings_l4
    rw [loopM_inl (s' := ((i + 1 : Nat) : Int)) ?_]
    · exact ss_scan hl k (i + 1) (by omega)
    · unfold S_glossatorref3_SortStrings_b4
      simp only [List.length_map, Int.toNat_natCast]
      rw [if_pos (by intro h; simp only [beq_iff_eq, decide_eq_true_eq] at h; omega), if_pos, Wi (by omega)]
      rw [bytesLess_eq, getD_at hi]
      simp only [Bool.and_eq_true, decide_eq_true_eq]
      exact ⟨by omega, hlt⟩
theorem ss_loop {a0 : List (List UInt8)} (ha : a0.length ≤ 100000) : ∀ (k i : Nat) (v : List (List UInt8)), i + k = a0.length → v.length ≤ i →
    S_glossatorref3_SortStrings_l3 none a0 v (i : Int) = some ((a0.drop i).foldl insS v)
  | 0, i, v, h, hv => by
    have hi : i = a0.length := by omega
    subst hi
    unfold S_glossatorref3_SortStrings_l3
    rw [List.drop_length, List.foldl_nil]
    refine loopM_out ?_
    unfold S_glossatorref3_SortStrings_b3
    rw [if_neg (by simp)]
    rfl
  | k + 1, i, v, h, hv => by
    have hi : i < a0.length := by omega
    unfold S_glossatorref3_SortStrings_l3
    rw [loopM_inl (s' := (insS v a0[i], ((i + 1 : Nat) : Int))) ?_]
    · have := insS_len v a0[i]
      have ih := ss_loop ha k (i + 1) (insS v a0[i]) (by omega) (by omega)
      rw [List.drop_eq_getElem_cons hi, List.foldl_cons]
      exact ih
    · unfold S_glossatorref3_SortStrings_b3
      dsimp only
      rw [if_pos (by simp; omega), if_pos (by simp; omega)]
      have hs := ss_scan (a0 := a0) (v3 := v) (v4 := (i : Int)) (by omega) _ 0 (Nat.zero_add _)
      rw [Int.toNat_natCast, getD_at hi, Wi (by omega)] at hs
      exact hs
theorem ss_eq {a0 : List (List UInt8)} (ha : a0.length ≤ 100000) : S_glossatorref3_SortStrings none a0 = some (sortS a0) := by
  have := ss_loop ha a0.length 0 [] (by omega) (by simp)
  rwa [List.drop_zero] at this


theorem q_str_iff (x y : List UInt8) : q_str x y = true ↔ x = y := by simp [q_str]

def V (k : Int) : Bool := decide (1 ≤ k) && decide (k ≤ 3)
def mrg (a b : Int) : Int := if V a = false ∧ V b = false then 0 else if V b = false then a else if V a = false then b else if a = 1 ∧ b = 3 then 0 else if a = 1 then 1 else if b = 3 then 3 else 2
theorem vk_eq (a : Int) : S_filewatch_validKind none a = some (V a) := rfl
theorem merge_eq (a b : Int) : S_filewatch_Merge none a b = some (mrg a b) := by
  unfold S_filewatch_Merge mrg
  simp only [vk_eq, Option.bind_some]
  cases ha : V a <;> cases hb : V b <;> simp
  by_cases h1 : a = 1 <;> by_cases h3 : b = 3 <;> simp [h1, h3]
theorem v_iff {a : Int} : V a = true ↔ a = 1 ∨ a = 2 ∨ a = 3 := by simp only [V, Bool.and_eq_true, decide_eq_true_eq]; omega
theorem rv_eq (a : Int) : S_glossatorref3_Merge_1 none a = some (V a) := by
  unfold S_glossatorref3_Merge_1
  congr 1
  rw [Bool.eq_iff_iff, v_iff]
  simp only [Bool.or_eq_true, beq_iff_eq]
  omega
theorem W1 : W 0 = 0 := by decide
theorem W2 : W 1 = 1 := by decide
theorem W3 : W 2 = 2 := by decide
theorem rmerge_eq (a b : Int) : S_glossatorref3_Merge none a b = some (mrg a b) := by
  unfold S_glossatorref3_Merge S_glossatorref3_Merge_j1 mrg
  simp only [rv_eq, Option.bind_some]
  cases ha : V a <;> cases hb : V b <;> simp
  rcases v_iff.1 ha with rfl | rfl | rfl <;> rcases v_iff.1 hb with rfl | rfl | rfl <;> simp [W1, W2, W3]
end Go.Proofs.Ytdkcjibedbjgjaa
