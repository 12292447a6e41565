/-
  Own text Law3 of this claim: what functions of the given program compute, in plain Lean, and the proof; no condition.
-/
import Derived.Test.YtcllpgaaoiccgaaLaw2
namespace Go.Proofs.Ytcllpgaaoiccgaa
open Go.Fx
set_option linter.unusedVariables false
/-- the percentage -/
def pc (tot n : Int) : Int := if n ≥ tot then 100 else if n > 0 then (n * 100).tdiv tot else 0
/-- what is reported -/
def Pc (tot step : Int) : Int → List Int → List Int
  | _, [] => []
  | last, n :: r => if pc tot n = 100 ∧ last < 100 ∨ pc tot n ≥ last + step then pc tot n :: Pc tot step (pc tot n) r else Pc tot step last r
theorem pc_in {tot n : Int} (h : 1 ≤ tot) (h2 : tot ≤ 2147483647) : 0 ≤ pc tot n ∧ pc tot n ≤ 100 := by
  unfold pc
  split
  · omega
  · split
    · rw [Int.tdiv_eq_ediv_of_nonneg (by omega)]
      constructor
      · exact Int.ediv_nonneg (by omega) (by omega)
      · have : n * 100 / tot < 101 := Int.ediv_lt_of_lt_mul (by omega) (by omega)
        omega
    · omega
theorem pcC {tot n : Int} (h : 1 ≤ tot) (h2 : tot ≤ 2147483647) : (W ((W ((if tot < (if 0 > n then 0 else n) then tot else (if 0 > n then 0 else n)) * 100)).tdiv tot)) = pc tot n := by
  have hp := pc_in (n := n) h h2
  unfold pc at hp ⊢
  by_cases h1 : n ≥ tot
  · rw [if_pos h1] at hp ⊢
    have : (if tot < (if 0 > n then 0 else n) then tot else (if 0 > n then 0 else n)) = tot := by split <;> split <;> omega
    rw [this, W_in (show inR (tot * 100) by unfold inR; omega), Int.mul_tdiv_cancel_left _ (by omega), W_in (by unfold inR; omega)]
  · rw [if_neg h1] at hp ⊢
    by_cases h3 : n > 0
    · rw [if_pos h3] at hp ⊢
      have : (if tot < (if 0 > n then 0 else n) then tot else (if 0 > n then 0 else n)) = n := by split <;> split <;> omega
      rw [this, W_in (show inR (n * 100) by unfold inR; omega), W_in (by unfold inR; omega)]
    · rw [if_neg h3]
      have : (if tot < (if 0 > n then 0 else n) then tot else (if 0 > n then 0 else n)) = 0 := by split <;> split <;> omega
      rw [this, show (0 : Int) * 100 = 0 by omega, W_in (show inR 0 by unfold inR; omega), Int.zero_tdiv, W_in (show inR 0 by unfold inR; omega)]
section
variable {a0 : List Int} {tot step : Int} (hl : a0.length ≤ 1000) (h1 : 1 ≤ tot) (h2 : tot ≤ 2147483647) (h3 : 1 ≤ step) (h4 : step ≤ 100)
include hl h1 h2 h3 h4
theorem pc_loop : ∀ (k i : Nat) (acc : List Int) (last : Int), i + k = a0.length → acc.length ≤ i → 0 ≤ last → last ≤ 100 →
    S_progress_Percentages_l1 none a0 tot step acc last (i : Int) = some (acc ++ Pc tot step last (a0.drop i), 0)
  | 0, i, acc, last, h, ha, g1, g2 => by
    have : i = a0.length := by omega
    subst this
    unfold S_progress_Percentages_l1
    refine loopM_out ?_
    unfold S_progress_Percentages_b1 S_progress_Percentages_j4
    rw [if_neg (by simp)]
    simp [Pc]
  | k + 1, i, acc, last, h, ha, g1, g2 => by
    have hi : i < a0.length := by omega
    have e1 := Wi (show i ≤ 4611686018427387904 by omega)
    have hp := pc_in (n := a0[i]) h1 h2
    have hw : W (last + step) = last + step := W_in (by unfold inR; omega)
    have hb : S_progress_Percentages_b1 none a0 tot step acc last (i : Int) = if pc tot a0[i] = 100 ∧ last < 100 ∨ pc tot a0[i] ≥ last + step then some (.inl (acc ++ [pc tot a0[i]], pc tot a0[i], ((i + 1 : Nat) : Int))) else some (.inl (acc, last, ((i + 1 : Nat) : Int))) := by
      unfold S_progress_Percentages_b1 S_progress_Percentages_j3
      simp only [Int.toNat_natCast, getD_at hi, pcC h1 h2, hw, e1]
      rw [if_pos (by simpa using hi), if_pos (by simpa using hi), if_pos (by omega)]
      by_cases hc : pc tot a0[i] = 100 ∧ last < 100 ∨ pc tot a0[i] ≥ last + step
      · rw [if_pos (by simpa using hc), if_pos (by simp; omega), if_pos hc]
      · rw [if_neg (by simpa using hc), if_neg hc]
    rw [List.drop_eq_getElem_cons hi, Pc]
    unfold S_progress_Percentages_l1
    by_cases hc : pc tot a0[i] = 100 ∧ last < 100 ∨ pc tot a0[i] ≥ last + step
    · rw [if_pos hc] at hb
      have ih := pc_loop k (i + 1) (acc ++ [pc tot a0[i]]) (pc tot a0[i]) (by omega) (by simp; omega) hp.1 hp.2
      unfold S_progress_Percentages_l1 at ih
      rw [loopM_inl hb, ih, if_pos hc]
      simp
    · rw [if_neg hc] at hb
      have ih := pc_loop k (i + 1) acc last (by omega) (by omega) g1 g2
      unfold S_progress_Percentages_l1 at ih
      rw [loopM_inl hb, ih, if_neg hc]
theorem rpc_loop : ∀ (k i : Nat) (acc : List Int) (last : Int), i + k = a0.length → acc.length ≤ i + 1 → acc ≠ [] → acc.getD (acc.length - 1) default = last → 0 ≤ last → last ≤ 100 →
    S_glossatorref3_Percentages_l1 none a0 tot step acc (i : Int) = some ((acc ++ Pc tot step last (a0.drop i)).drop 1)
  | 0, i, acc, last, h, ha, hne, hla, g1, g2 => by
    have : i = a0.length := by omega
    subst this
    have _ := h3; have _ := h4
    have := List.length_pos_iff.2 hne
    unfold S_glossatorref3_Percentages_l1
    refine loopM_out ?_
    unfold S_glossatorref3_Percentages_b1 S_glossatorref3_Percentages_j7
    rw [if_neg (by simp), if_pos (by simp; omega)]
    simp [Pc]
  | k + 1, i, acc, last, h, ha, hne, hla, g1, g2 => by
    have _ := h3; have _ := h4
    have hi : i < a0.length := by omega
    have hpos := List.length_pos_iff.2 hne
    have e1 := Wi (show i ≤ 4611686018427387904 by omega)
    have hp := pc_in (n := a0[i]) h1 h2
    have hwl : W ((acc.length : Int) - 1) = ((acc.length - 1 : Nat) : Int) := by rw [W_in (by unfold inR; omega)]; omega
    have hws : W (pc tot a0[i] - last) = pc tot a0[i] - last := W_in (by unfold inR; omega)
    have hj5 : S_glossatorref3_Percentages_j5 none a0 tot step acc (i : Int) (pc tot a0[i]) = if pc tot a0[i] = 100 ∧ last < 100 ∨ pc tot a0[i] ≥ last + step then some (.inl (acc ++ [pc tot a0[i]], ((i + 1 : Nat) : Int))) else some (.inl (acc, ((i + 1 : Nat) : Int))) := by
      unfold S_glossatorref3_Percentages_j5 S_glossatorref3_Percentages_j6
      simp only [List.length_map, hwl, Int.toNat_natCast, hla, hws, e1]
      rw [if_pos (by omega)]
      by_cases hc : pc tot a0[i] = 100 ∧ last < 100 ∨ pc tot a0[i] ≥ last + step
      · rw [if_pos (by simp; omega), if_pos (by simp; omega), if_pos hc]
      · rw [if_neg (by simp; omega), if_neg hc]
    have hb : S_glossatorref3_Percentages_b1 none a0 tot step acc (i : Int) = S_glossatorref3_Percentages_j5 none a0 tot step acc (i : Int) (pc tot a0[i]) := by
      unfold S_glossatorref3_Percentages_b1
      simp only [Int.toNat_natCast, getD_at hi]
      rw [if_pos (by simpa using hi), if_pos (by simpa using hi)]
      unfold pc at hp ⊢
      by_cases c1 : a0[i] ≥ tot
      · rw [if_pos (by simpa using c1), if_pos c1]
      · rw [if_neg (by simpa using c1), if_neg c1]
        rw [if_neg c1] at hp
        by_cases c2 : a0[i] > 0
        · rw [if_pos c2] at hp
          rw [if_pos (by simpa using c2), if_pos (by omega), if_pos c2, W_in (show inR (a0[i] * 100) by unfold inR; omega), W_in (by unfold inR; omega)]
        · rw [if_neg (by simpa using c2), if_neg c2]
    rw [hj5] at hb
    rw [List.drop_eq_getElem_cons hi, Pc]
    unfold S_glossatorref3_Percentages_l1
    by_cases hc : pc tot a0[i] = 100 ∧ last < 100 ∨ pc tot a0[i] ≥ last + step
    · rw [if_pos hc] at hb
      have ih := rpc_loop k (i + 1) (acc ++ [pc tot a0[i]]) (pc tot a0[i]) (by omega) (by simp; omega) (by simp) (by simp) hp.1 hp.2
      unfold S_glossatorref3_Percentages_l1 at ih
      rw [loopM_inl hb, ih, if_pos hc]
      simp
    · rw [if_neg hc] at hb
      have ih := rpc_loop k (i + 1) acc last (by omega) (by omega) hne hla g1 g2
      unfold S_glossatorref3_Percentages_l1 at ih
      rw [loopM_inl hb, ih, if_neg hc]
end
theorem Pc_len (tot step : Int) : ∀ (l : List Int) (last : Int), (Pc tot step last l).length ≤ l.length
  | [], _ => by simp [Pc]
  | n :: r, last => by
    rw [Pc]
    split
    · have := Pc_len tot step r (pc tot n); simp; omega
    · have := Pc_len tot step r last; simp; omega
theorem examples_ok : S_glossatorlaw3_chunkExample (some 4096) = some true := by kernel_rfl
section
variable {tok size tot step : Int} {l : List Int} (hs : size ≤ 9223372036854775807) (hl : l.length ≤ 140737488355328)
include hs hl
theorem split_bad1 (h : tok < 0 ∨ size < 1) : S_progress_Split none tok l size = some ([], 1) := by
  have _ := hs; have _ := hl
  unfold S_progress_Split
  rw [if_pos (by simpa using h)]
theorem split_bad2 (h : ¬(tok < 0 ∨ size < 1)) (h2 : l.length > 1000) : S_progress_Split none tok l size = some ([], 2) := by
  have _ := hs; have _ := hl
  unfold S_progress_Split
  rw [if_neg (by simpa using h), if_pos (by simp; omega)]
theorem j2_ok (x : Int) : ∀ (p : List Int × Int), p.2 = x → (x = 0 → S_glossatorref3_Percentages none l tot step = some p.1 ∧ p.1.length ≤ 100000) → (x ≠ 0 → p.1 = []) →
    S_glossatorlaw3_ProgressSplit_j2 none l tot step p x = some true := by
  have _ := hs; have _ := hl
  intro p hp h0 h1
  unfold S_glossatorlaw3_ProgressSplit_j2
  rw [examples_ok]
  simp only [Option.bind_some, Bool.true_and, hp, beq_self_eq_true]
  by_cases hx : x = 0
  · obtain ⟨h2, h3⟩ := h0 hx
    rw [if_pos (by simp [hx]), h2]
    simp only [Option.bind_some]
    rw [if_pos (by simp [hx]), eqI h3]
    simp [hx]
  · rw [if_neg (by simp [hx])]
    simp only [Option.bind_some]
    rw [if_neg (by simp [hx])]
    simp [hx, h1 hx]
theorem rest_ok : ((S_progress_Percentages none l tot step).bind fun v6 =>
    if ((((decide (tot < 1)) || (decide (tot > 2147483647))) || (decide (step < 1))) || (decide (step > 100))) = true then
      S_glossatorlaw3_ProgressSplit_j2 none l tot step v6 1
    else
      if (decide (((l.map e_i64).length : Int) > 1000)) = true then
        S_glossatorlaw3_ProgressSplit_j2 none l tot step v6 2
      else
        S_glossatorlaw3_ProgressSplit_j2 none l tot step v6 0) = some true := by
  by_cases hc : ((((decide (tot < 1)) || (decide (tot > 2147483647))) || (decide (step < 1))) || (decide (step > 100))) = true
  · unfold S_progress_Percentages
    rw [if_pos hc]
    simp only [Option.bind_some]
    rw [if_pos hc]
    exact j2_ok hs hl 1 _ rfl (fun h => by omega) (fun _ => rfl)
  · have hc' := hc
    simp only [Bool.or_eq_true, decide_eq_true_eq, not_or] at hc'
    by_cases hg : l.length > 1000
    · unfold S_progress_Percentages
      rw [if_neg hc, if_pos (by simp; omega)]
      simp only [Option.bind_some]
      rw [if_neg hc, if_pos (by simp; omega)]
      exact j2_ok hs hl 2 _ rfl (fun h => by omega) (fun _ => rfl)
    · have e1 := pc_loop (a0 := l) (tot := tot) (step := step) (by omega) (by omega) (by omega) (by omega) (by omega) l.length 0 [] 0 (by omega) (by simp) (by omega) (by omega)
      have e2 := rpc_loop (a0 := l) (tot := tot) (step := step) (by omega) (by omega) (by omega) (by omega) (by omega) l.length 0 [0] 0 (by omega) (by simp) (by simp) (by simp) (by omega) (by omega)
      have hln := Pc_len tot step l 0
      unfold S_progress_Percentages
      rw [if_neg hc, if_neg (by simp; omega)]
      rw [show ((0 : Nat) : Int) = 0 from rfl] at e1 e2
      rw [e1]
      simp only [Option.bind_some, List.nil_append, List.drop_zero]
      rw [if_neg hc, if_neg (by simp; omega)]
      refine j2_ok hs hl 0 _ rfl (fun _ => ⟨?_, by dsimp only; omega⟩) (fun h => absurd rfl h)
      unfold S_glossatorref3_Percentages
      rw [e2]
      simp
theorem j1_ok (x : Int) : ∀ (p : List G_QChunk × Int), p.2 = x → (x = 0 → S_glossatorref3_Split none tok l size = some p.1 ∧ p.1.length ≤ 100000 ∧ ∀ c ∈ p.1, c.f_Items.length ≤ 100000) → (x ≠ 0 → p.1 = []) →
    S_glossatorlaw3_ProgressSplit_j1 none tok l size tot step p x = some true := by
  intro p hp h0 h1
  unfold S_glossatorlaw3_ProgressSplit_j1
  simp only [hp, bne_self_eq_false, beq_self_eq_true, Bool.true_and, Bool.false_or]
  by_cases hx : x = 0
  · obtain ⟨h2, h3, h4⟩ := h0 hx
    rw [if_pos (by simp [hx]), h2]
    simp only [Option.bind_some]
    rw [if_pos (by simp [hx]), eqC h3 h4]
    simp only [Option.bind_some]
    rw [if_neg (by simp [hx])]
    exact rest_ok hs hl
  · rw [if_neg (by simp [hx])]
    simp only [Option.bind_some]
    rw [if_neg (by simp [hx])]
    simp only [Option.bind_some]
    rw [if_neg (by simp [hx, h1 hx])]
    exact rest_ok hs hl
theorem law_split : S_glossatorlaw3_ProgressSplit none tok l size tot step = some true := by
  unfold S_glossatorlaw3_ProgressSplit
  rw [examples_ok]
  simp only [Option.bind_some, Bool.not_true, Bool.false_eq_true, if_false]
  by_cases h1 : tok < 0 ∨ size < 1
  · rw [split_bad1 hs hl h1]
    simp only [Option.bind_some]
    rw [if_pos (by simpa using h1)]
    exact j1_ok hs hl 1 _ rfl (fun h => by omega) (fun _ => rfl)
  · by_cases h2 : l.length > 1000
    · rw [split_bad2 hs hl h1 h2]
      simp only [Option.bind_some]
      rw [if_neg (by simpa using h1), if_pos (by simp; omega)]
      exact j1_ok hs hl 2 _ rfl (fun h => by omega) (fun _ => rfl)
    · rw [split_eq (by omega) (by omega) hs (by omega)]
      simp only [Option.bind_some]
      rw [if_neg (by simpa using h1), if_neg (by simp; omega)]
      refine j1_ok hs hl 0 _ rfl (fun _ => ⟨rsplit_eq (by omega) (by omega), ?_, fun c hc => ?_⟩) (fun h => absurd rfl h)
      · have := Ck_len true tok size.toNat (l.length + 1) 0 l
        dsimp only; omega
      · have := Ck_items true tok size.toNat (l.length + 1) 0 l c hc
        omega
end
end Go.Proofs.Ytcllpgaaoiccgaa
