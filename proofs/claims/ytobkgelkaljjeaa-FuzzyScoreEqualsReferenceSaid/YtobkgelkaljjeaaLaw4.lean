/-
  Own text Law4 of this claim: what functions of the given program compute, in plain Lean, and the proof; no condition.
-/
import Derived.Test.YtobkgelkaljjeaaLaw3
import Derived.Test.YtobkgelkaljjeaaOk
namespace Go.Proofs.Ytobkgelkaljjeaa
open Go.Fx
set_option linter.unusedVariables false
theorem eqi_loop {l : List Int} (hl : l.length ≤ 1000000) : ∀ (k i : Nat), i + k = l.length → S_glossatorref4_EqualInts_l1 none l l (i : Int) = some true
  | 0, i, h => by
    unfold S_glossatorref4_EqualInts_l1
    refine loopM_out (x := some true) ?_
    unfold S_glossatorref4_EqualInts_b1 S_glossatorref4_EqualInts_j1
    rw [if_neg (by simp; omega)]
  | k + 1, i, h => by
    have ih := eqi_loop hl k (i + 1) (by omega)
    unfold S_glossatorref4_EqualInts_l1 at ih ⊢
    rw [loopM_inl (s' := ((i + 1 : Nat) : Int)) ?_]
    · exact ih
    · unfold S_glossatorref4_EqualInts_b1
      rw [if_pos (by simp; omega), if_pos (by simp; omega), if_pos (by simp; omega), if_neg (by simp), Wi (by omega)]
theorem eqi_same {l : List Int} (hl : l.length ≤ 1000000) : S_glossatorref4_EqualInts none l l = some true := by
  unfold S_glossatorref4_EqualInts
  rw [if_neg (by simp)]
  exact eqi_loop hl l.length 0 (by omega)
theorem fm_mem (L : List Bst) : fm L = nb ∨ fm L ∈ L := by
  have gen : ∀ (L : List Bst) (s : Bst), L.foldl cmb s = s ∨ L.foldl cmb s ∈ L := by
    intro L
    induction L with
    | nil => intro s; exact .inl rfl
    | cons x L ih =>
      intro s
      rw [List.foldl_cons]
      rcases ih (cmb s x) with h | h
      · rw [h]
        unfold cmb
        split
        · exact .inr (List.mem_cons_self ..)
        · exact .inl rfl
      · exact .inr (List.mem_cons_of_mem _ h)
  exact gen L nb
theorem res_len (P N : List UInt8) : (res P N).2.1.length ≤ P.length := by
  unfold res
  split
  · simp
  · show (F P N P.length 0 0).2.length ≤ _
    unfold F
    rcases fm_mem (al P N 0 0 (E P N P.length 0 0)) with h | h
    · rw [h]; simp [nb]
    · obtain ⟨l, hl, he⟩ := List.mem_map.1 h
      rw [← he]
      have := (E_mem P N _ _ _ l hl).1
      show l.length ≤ _
      omega
theorem lo_wrap {c : Int} (h : 0 ≤ c ∧ c < 256) : (if ((decide (c ≥ 65)) && (decide (c ≤ 90))) = true then IntKind.wrap .u8 (c + 32) else c) = lo c := by
  unfold lo
  by_cases hc : 65 ≤ c ∧ c ≤ 90
  · rw [if_pos (by simp; omega), if_pos hc]
    have : ∀ n : Nat, n < 256 → 65 ≤ n ∧ n ≤ 90 → IntKind.wrap .u8 ((n : Int) + 32) = (n : Int) + 32 := by decide +kernel
    have h2 := this c.toNat (by omega) (by omega)
    rw [Int.toNat_of_nonneg h.1] at h2
    exact h2
  · rw [if_neg (by simp; omega), if_neg hc]
theorem j1_eq {P N : List UInt8} {a b : Int} (ha : 0 ≤ a ∧ a < 256) (hb : 0 ≤ b ∧ b < 256) {r : Int × List Int × Bool} (hr : r.2.1.length ≤ 1000000) (h1 : S_fuzzy_Score none P N = some r) (h2 : S_glossatorref4_FuzzyScore none P N = some r) :
    S_glossatorlaw4_FuzzyScoreEqualsReference_j1 none a b P N = some true := by
  have j3 : ∀ x y : Int, x = lo a → y = lo b → S_glossatorlaw4_FuzzyScoreEqualsReference_j3 none a b r r x y = some true := fun x y hx hy => by
    unfold S_glossatorlaw4_FuzzyScoreEqualsReference_j3
    rw [if_pos (by simp), eqi_same hr, Option.bind_some, if_pos (by simp), equalFold_eq ha hb, Option.bind_some, hx, hy]
    simp
  have j2 : ∀ x : Int, x = lo a → S_glossatorlaw4_FuzzyScoreEqualsReference_j2 none a b r r x = some true := fun x hx => by
    unfold S_glossatorlaw4_FuzzyScoreEqualsReference_j2
    have := lo_wrap hb
    split
    · rename_i hc; rw [if_pos hc] at this; exact j3 _ _ hx this
    · rename_i hc; rw [if_neg hc] at this; exact j3 _ _ hx this
  unfold S_glossatorlaw4_FuzzyScoreEqualsReference_j1
  rw [h1, Option.bind_some, h2, Option.bind_some]
  have := lo_wrap ha
  split
  · rename_i hc; rw [if_pos hc] at this; exact j2 _ this
  · rename_i hc; rw [if_neg hc] at this; exact j2 _ this
theorem lawS {a0 a1 : List UInt8} {a2 a3 : Int} (h : okA3 a0 a1 a2 a3) : S_glossatorlaw4_FuzzyScoreEqualsReference none a0 a1 a2 a3 = some true := by
  obtain ⟨h0, h1, h2, h3⟩ := h
  have hr : reachBytes ≤ 4611686018427387904 := by decide
  have e1 : IntKind.min .u8 = 0 := by decide
  have e2 : IntKind.max .u8 = 255 := by decide
  rw [e1, e2] at h2 h3
  unfold S_glossatorlaw4_FuzzyScoreEqualsReference
  rw [example_ok, Option.bind_some, if_neg (by simp)]
  by_cases hs : a0.length ≤ 30 ∧ a1.length ≤ 30
  · rw [if_pos (by simp; omega)]
    have m6 : (if 6 < (a0.length : Int) then 6 else (a0.length : Int)) = ((min a0.length 6 : Nat) : Int) := by split <;> omega
    have m14 : (if 14 < (a1.length : Int) then 14 else (a1.length : Int)) = ((min a1.length 14 : Nat) : Int) := by split <;> omega
    rw [m6, m14, if_pos (by omega), if_pos (by omega), Int.toNat_natCast, Int.toNat_natCast, List.drop_zero, List.drop_zero]
    have p6 : (a0.take (min a0.length 6)).length ≤ 6 := by rw [List.length_take]; omega
    have n14 : (a1.take (min a1.length 14)).length ≤ 14 := by rw [List.length_take]; omega
    exact j1_eq (by omega) (by omega) (Nat.le_trans (res_len _ _) (by omega)) (score_eq _ _ (by omega) (by omega)) (ref_eq _ _ n14 p6)
  · rw [if_neg (by simp; omega)]
    refine j1_eq (r := (0, [], false)) (by omega) (by omega) (by simp) ?_ ?_
    · unfold S_fuzzy_Score
      rw [if_pos (by simp; omega)]
    · unfold S_glossatorref4_FuzzyScore
      rw [if_pos (by simp; omega)]
end Go.Proofs.Ytobkgelkaljjeaa
