/-
  Own text Law2 of this claim: what functions of the given program compute, in plain Lean, and the proof; no condition.
-/
import Derived.Test.YteepckliibfnkaaLaw1
namespace Go.Proofs.Yteepckliibfnkaa
open Go.Fx Go.Sort
set_option linter.unusedVariables false

theorem wb_all : ∀ n < 256, (((((n : Nat) : Int) == 95) || ((decide (((n : Nat) : Int) ≥ 48)) && (decide (((n : Nat) : Int) ≤ 57)))) || ((decide ((ibits .or .u8 ((n : Nat) : Int) 32) ≥ 97)) && (decide ((ibits .or .u8 ((n : Nat) : Int) 32) ≤ 122)))) = wbI ((n : Nat) : Int) := by decide +kernel
theorem isw_eq (c : UInt8) : S_wordindex_isWordByte none ((c.toNat : Nat) : Int) = some (wb c) := congrArg some (wb_all c.toNat c.toNat_lt)
theorem rwb_eq (c : UInt8) : S_glossatorref3_wordByte none ((c.toNat : Nat) : Int) = some (wb c) := rfl
theorem getD0 {l : List UInt8} {i : Nat} (h : i < l.length) : l.getD i 0 = l[i] := by simp [List.getD_eq_getElem?_getD, h]
theorem cur_succ {t : List UInt8} {s j : Nat} (hs : s ≤ j) (hj : j < t.length) : (t.take (j + 1)).drop s = (t.take j).drop s ++ [t[j]] := by
  rw [List.take_succ_eq_append_getElem hj, List.drop_append_of_le_length (by rw [List.length_take]; omega)]
theorem cur_nil {t : List UInt8} {s j : Nat} (hj : j ≤ t.length) : (t.take j).drop s = [] ↔ j ≤ s := by
  rw [List.drop_eq_nil_iff, List.length_take]; omega
theorem pw_scan {t : List UInt8} (ht : t.length ≤ 1000000) {s : Nat} {acc : List (List UInt8)} (ha : acc.length ≤ s) : ∀ (k j : Nat), j + k = t.length → s ≤ j →
    ∃ e, j ≤ e ∧ e ≤ t.length ∧ ∃ acc', acc'.length ≤ acc.length + 1 ∧ S_wordindex_Words_l4 none t (s : Int) acc (j : Int) = some (.inl (((e + 1 : Nat) : Int), acc')) ∧ tk ((t.take j).drop s) acc (t.drop j) = tk [] acc' (t.drop (e + 1))
  | k, j, h, hs => by
    have out : (¬ (j < t.length)) ∨ (∃ hj : j < t.length, wb t[j] = false) → ∃ acc', acc'.length ≤ acc.length + 1 ∧ S_wordindex_Words_j5 none t (s : Int) acc (j : Int) = some (.inl (((j + 1 : Nat) : Int), acc')) ∧ tk ((t.take j).drop s) acc (t.drop j) = tk [] acc' (t.drop (j + 1)) := fun hq => by
      refine ⟨fin ((t.take j).drop s) acc, fin_len _ _, ?_, ?_⟩
      · unfold S_wordindex_Words_j5 S_wordindex_Words_j6 fin
        simp only [Int.toNat_natCast]
        by_cases hc : j ≤ s
        · rw [if_neg (show ¬ (decide ((j : Int) > (s : Int)) = true) by simp; omega), if_pos ((cur_nil (by omega)).2 hc), Wi (by omega)]
        · rw [if_pos (show decide ((j : Int) > (s : Int)) = true by simp; omega), if_pos (by omega), if_neg (fun e => hc ((cur_nil (by omega)).1 e)), if_pos (by simp; omega), Wi (by omega)]
      · rcases hq with hq | ⟨hj, hq⟩
        · rw [show t.drop j = [] from List.drop_eq_nil_of_le (by omega), show t.drop (j + 1) = [] from List.drop_eq_nil_of_le (by omega)]
          rfl
        · rw [List.drop_eq_getElem_cons hj]
          conv => lhs; unfold tk
          rw [if_neg (by rw [hq]; simp)]
    by_cases hj : j < t.length
    · cases hw : wb t[j] with
      | false =>
        obtain ⟨acc', h1, h2, h3⟩ := out (.inr ⟨hj, hw⟩)
        refine ⟨j, Nat.le_refl _, by omega, acc', h1, ?_, h3⟩
        unfold S_wordindex_Words_l4
        rw [← h2]
        refine loopM_out ?_
        unfold S_wordindex_Words_b4
        simp only [Int.toNat_natCast]
        rw [if_pos (by intro _; omega), if_pos (by simp; omega), getD0 hj, isw_eq, Option.bind_some, hw, if_neg (by simp)]
      | true =>
        match k, h with
        | 0, h => omega
        | k + 1, h =>
          obtain ⟨e, h1, h2, acc', h3, h4, h5⟩ := pw_scan ht (s := s) ha k (j + 1) (by omega) (by omega)
          refine ⟨e, by omega, h2, acc', h3, ?_, ?_⟩
          · unfold S_wordindex_Words_l4
            rw [loopM_inl (s' := ((j + 1 : Nat) : Int)) ?_]
            · exact h4
            · unfold S_wordindex_Words_b4
              simp only [Int.toNat_natCast]
              rw [if_pos (by intro _; omega), if_pos (by simp; omega), getD0 hj, isw_eq, Option.bind_some, hw, if_pos (by simp; omega), Wi (by omega)]
          · rw [← h5, cur_succ hs hj, List.drop_eq_getElem_cons hj]
            conv => lhs; unfold tk
            rw [if_pos hw]
    · obtain ⟨acc', h1, h2, h3⟩ := out (.inl hj)
      refine ⟨j, Nat.le_refl _, by omega, acc', h1, ?_, h3⟩
      unfold S_wordindex_Words_l4
      rw [← h2]
      refine loopM_out ?_
      unfold S_wordindex_Words_b4
      rw [if_pos (by simp <;> omega), if_neg (by simp <;> omega), Option.bind_some, if_neg (by simp <;> omega)]
theorem pw_loop {t : List UInt8} (ht : t.length ≤ 1000000) : ∀ (N i : Nat) (acc : List (List UInt8)), t.length + 1 - i ≤ N → i ≤ t.length + 1 → acc.length ≤ i →
    S_wordindex_Words_l3 none t (i : Int) acc = S_wordindex_Words_j7 none (tk [] acc (t.drop i))
  | N, i, acc, hN, hi, ha => by
    by_cases hlt : i < t.length
    · match N, hN with
      | 0, hN => omega
      | N + 1, hN =>
        obtain ⟨e, h1, h2, acc', h3, h4, h5⟩ := pw_scan ht (s := i) (acc := acc) ha (t.length - i) i (by omega) (Nat.le_refl _)
        have hn : (t.take i).drop i = [] := (cur_nil (by omega)).2 (Nat.le_refl _)
        rw [hn] at h5
        unfold S_wordindex_Words_l3
        rw [loopM_inl (s' := (((e + 1 : Nat) : Int), acc')) ?_]
        · rw [h5]
          exact pw_loop ht N (e + 1) acc' (by omega) (by omega) (by omega)
        · unfold S_wordindex_Words_b3
          rw [if_pos (by simp; omega)]
          exact h4
    · unfold S_wordindex_Words_l3
      rw [List.drop_eq_nil_of_le (by omega)]
      refine loopM_out ?_
      unfold S_wordindex_Words_b3
      rw [if_neg (by simp; omega)]
      rfl
theorem tk_len : ∀ (t cur : List UInt8) (acc : List (List UInt8)), (tk cur acc t).length ≤ acc.length + 1 + t.length
  | [], cur, acc => by unfold tk; have := fin_len cur acc; simp; omega
  | c :: t, cur, acc => by
    unfold tk
    split
    · have := tk_len t (cur ++ [c]) acc; simp only [List.length_cons]; omega
    · have := tk_len t [] (fin cur acc); have h2 := fin_len cur acc; simp only [List.length_cons]; omega
theorem min400 (n : Nat) : (if 400 < (n : Int) then (400 : Int) else (n : Int)).toNat = min 400 n := by split <;> omega
theorem words_prog {t : List UInt8} (ht : t.length ≤ 1000000) : S_wordindex_Words none t = some (wordsOf t) := by
  have h := pw_loop ht (t.length + 1) 0 [] (by omega) (by omega) (by simp)
  unfold S_wordindex_Words
  rw [show (0 : Int) = ((0 : Nat) : Int) from rfl, h, List.drop_zero]
  have hl := tk_len t [] []
  simp only [List.length_nil] at hl
  unfold wordsOf
  generalize tk [] [] t = L at hl
  unfold S_wordindex_Words_j7 S_slices_Sort_string_29 S_slices_Compact_string
  have hs : (sortL L).length = L.length := (sortL_perm L).length_eq
  have hc : (compR (sortL L)).length = (sortL L).length := compR_len _
  have hcl := comp_len (sortL L)
  rw [if_pos (by omega), Option.bind_some, if_pos hs, if_pos (by omega), Option.bind_some, if_pos hc, compact_sortL]
  rw [compact_sortL] at hcl
  rw [min400, if_pos (by split <;> omega), if_pos (by omega)]
  unfold compR
  rw [compact_sortL, List.drop_zero, List.take_append_of_le_length (Nat.min_le_right _ _)]
  congr 1
  rw [← List.take_take, List.take_length]
theorem rw_loop {t : List UInt8} (ht : t.length ≤ 1000000) : ∀ (k i : Nat) (cur : List UInt8) (acc : List (List UInt8)), i + k = t.length → acc.length ≤ i → cur.length ≤ i →
    S_glossatorref3_Words_l1 none t acc cur (i : Int) = S_glossatorref3_Words_j7 none (tk cur acc (t.drop i))
  | k, i, cur, acc, h, ha, hc => by
    have hw1 : W ((t.length : Int) + 1) = ((t.length + 1 : Nat) : Int) := Wi (by omega)
    have fl := fin_len cur acc
    have endp : ∀ v : Bool, (decide ((i : Int) < (t.length : Int)) && v) = false → (if ((decide ((i : Int) < (t.length : Int))) && v) = true then
      if (0 : Int) ≤ (i : Int) ∧ (i : Int) ≤ (W ((i : Int) + 1)) ∧ (W ((i : Int) + 1)) ≤ (t.length : Int) then
      if (((cur.length + ((t.take (W ((i : Int) + 1)).toNat).drop ((i : Int)).toNat).length : Nat) : Int) ≤ 9223372036854775807) then
      S_glossatorref3_Words_j6 none t (i : Int) acc (cur ++ ((t.take (W ((i : Int) + 1)).toNat).drop ((i : Int)).toNat))
      else none
      else none
    else
      if (!(cur == ([] : List UInt8))) = true then
        if ((acc ++ ([cur] : List (List UInt8))).map e_str).length * 16 ≤ 140737488355328 then
        S_glossatorref3_Words_j5 none t (i : Int) (acc ++ ([cur] : List (List UInt8)))
        else none
      else
        S_glossatorref3_Words_j5 none t (i : Int) acc) = some (.inl (fin cur acc, ([] : List UInt8), ((i + 1 : Nat) : Int))) := fun v hv => by
      rw [if_neg (by rw [hv]; simp)]
      unfold S_glossatorref3_Words_j5 S_glossatorref3_Words_j6 fin
      rw [Wi (by omega)]
      by_cases hn : cur = []
      · rw [if_neg (by simp [hn]), if_pos hn]
      · rw [if_pos (by simp [hn]), if_pos (by simp; omega), if_neg hn]
    match k, h with
    | 0, h =>
      have hi : i = t.length := by omega
      subst hi
      unfold S_glossatorref3_Words_l1
      rw [loopM_inl (s' := (fin cur acc, ([] : List UInt8), ((t.length + 1 : Nat) : Int))) ?_]
      · rw [List.drop_length]
        refine loopM_out ?_
        unfold S_glossatorref3_Words_b1
        dsimp only
        rw [hw1, if_neg (by simp)]
        rfl
      · unfold S_glossatorref3_Words_b1
        dsimp only
        rw [if_pos (show decide ((t.length : Int) < W ((t.length : Int) + 1)) = true by rw [hw1]; simp; omega), if_pos (by simp), if_neg (by simp), Option.bind_some]
        exact endp _ (by simp)
    | k + 1, h =>
      have hi : i < t.length := by omega
      unfold S_glossatorref3_Words_l1
      rw [List.drop_eq_getElem_cons hi]
      conv => rhs; unfold tk
      cases hw : wb t[i] with
      | false =>
        rw [if_neg (by simp), loopM_inl (s' := (fin cur acc, ([] : List UInt8), ((i + 1 : Nat) : Int))) ?_]
        · exact rw_loop ht k (i + 1) [] (fin cur acc) (by omega) (by omega) (by simp)
        · unfold S_glossatorref3_Words_b1
          dsimp only
          rw [hw1, if_pos (by simp; omega), if_pos (by intro _; omega), if_pos (by simp; omega), Int.toNat_natCast, getD0 hi, rwb_eq, Option.bind_some, hw]
          exact endp _ (by simp)
      | true =>
        rw [if_pos (by simp), loopM_inl (s' := (acc, cur ++ [t[i]], ((i + 1 : Nat) : Int))) ?_]
        · exact rw_loop ht k (i + 1) (cur ++ [t[i]]) acc (by omega) (by omega) (by simp; omega)
        · unfold S_glossatorref3_Words_b1 S_glossatorref3_Words_j6
          dsimp only
          have hd : (t.take (i + 1)).drop i = [t[i]] := by
            rw [cur_succ (Nat.le_refl _) hi, (cur_nil (by omega)).2 (Nat.le_refl _)]; rfl
          rw [hw1, if_pos (by simp; omega), if_pos (by intro _; omega), if_pos (by simp; omega), Int.toNat_natCast, getD0 hi, rwb_eq, Option.bind_some, hw, Wi (by omega), if_pos (by simp; omega), if_pos (by omega), Int.toNat_natCast, hd, if_pos (by simp; omega)]
theorem words_ref {t : List UInt8} (ht : t.length ≤ 1000000) : S_glossatorref3_Words none t = some (wordsOf t) := by
  have h := rw_loop ht t.length 0 [] [] (by omega) (by simp) (by simp)
  unfold S_glossatorref3_Words
  rw [show (0 : Int) = ((0 : Nat) : Int) from rfl, h, List.drop_zero]
  have hl := tk_len t [] []
  simp only [List.length_nil] at hl
  unfold wordsOf
  generalize tk [] [] t = L at hl
  unfold S_glossatorref3_Words_j7
  have hs := sortS_len L
  rw [ss_eq (by omega), Option.bind_some]
  simp only [List.length_map]
  rw [min400, if_pos (by split <;> omega)]
  congr 1
  rw [← List.take_take, List.take_length]
end Go.Proofs.Yteepckliibfnkaa
