/-
  Own text Law2 of this claim: what functions of the given program compute, in plain Lean, and the proof; no condition.
-/
import Derived.Test.YtobkgelkaljjeaaLaw1
namespace Go.Proofs.Ytobkgelkaljjeaa
open Go.Fx
set_option linter.unusedVariables false
theorem lower_eq {c : Int} (h : 0 ≤ c ∧ c < 256) : S_fuzzy_lower none c = some (lo c) := by
  unfold S_fuzzy_lower S_fuzzy_isUpper lo
  rw [Option.bind_some]
  by_cases hc : 65 ≤ c ∧ c ≤ 90
  · rw [if_pos (by simp; omega), if_pos hc]
    have : ∀ n : Nat, n < 256 → 65 ≤ n ∧ n ≤ 90 → IntKind.wrap .u8 ((IntKind.wrap .u8 ((n : Int) + 97)) - 65) = (n : Int) + 32 := by decide +kernel
    have h2 := this c.toNat (by omega) (by omega)
    rw [Int.toNat_of_nonneg h.1] at h2
    rw [h2]
  · rw [if_neg (by simp; omega), if_neg hc]
theorem equalFold_eq {c d : Int} (h : 0 ≤ c ∧ c < 256) (h' : 0 ≤ d ∧ d < 256) : S_fuzzy_EqualFold none c d = some (lo c == lo d) := by
  unfold S_fuzzy_EqualFold
  rw [lower_eq h, Option.bind_some, lower_eq h', Option.bind_some]
theorem Wm {i : Nat} (h : i ≤ 4611686018427387904) : W ((i : Int) - 1) = (i : Int) - 1 := Wz (by omega)
theorem sw_eq {N : List UInt8} {k : Nat} (hN : N.length ≤ 1000) (hk : k < N.length) : S_fuzzy_startsWord none N (k : Int) = some (sw N k) := by
  unfold S_fuzzy_startsWord S_fuzzy_isUpper
  by_cases h0 : k = 0
  · subst h0
    simp [sw]
  · have e : (W ((k : Int) - 1)).toNat = k - 1 := by rw [Wm (by omega)]; omega
    have hb : ((k : Int) == 0) = false := by simp; omega
    have hs : sw N k = ((cb N (k - 1) == 95) || (up8 (cb N k) && !(up8 (cb N (k - 1))))) := by
      unfold sw; rw [show (k == 0) = false by simp; omega, Bool.false_or]
    rw [hs, hb, e, Wm (by omega)]
    simp only [Bool.false_or, Int.toNat_natCast]
    rw [if_pos (by intro _; omega), if_pos (by intro _; omega)]
    change ((if ((cb N (k - 1) == 95) == false) = true then some (up8 (cb N k)) else some default).bind fun v1 => _) = _
    cases h1 : (cb N (k - 1) == 95) with
    | true =>
      simp only [Bool.true_or]
      rw [if_neg (by simp), Option.bind_some, if_pos (by intro h; simp at h), if_neg (by simp), Option.bind_some]
      change some ((cb N (k - 1) == 95) || _) = _
      rw [h1, Bool.true_or]
    | false =>
      rw [if_pos (by simp), Option.bind_some, if_pos (by intro _; omega)]
      cases h2 : up8 (cb N k) with
      | true =>
        rw [if_pos (by change (((cb N (k - 1) == 95) == false) && (true == true)) = true; rw [h1]; rfl), Option.bind_some]
        change some ((cb N (k - 1) == 95) || (true && !(up8 (cb N (k - 1))))) = _
        rw [h1]
      | false =>
        rw [if_neg (by simp), Option.bind_some]
        change some ((cb N (k - 1) == 95) || _) = _
        rw [h1]
        rfl
theorem points_eq {c : Int} {N : List UInt8} {k : Nat} (hN : N.length ≤ 1000) (hk : k < N.length) : S_fuzzy_points none c N (k : Int) = some (pts c N k) := by
  have hw : ∀ v : Int, 1 ≤ v → v ≤ 2 → S_fuzzy_points_j1 none N (k : Int) v = some (v + (if sw N k then 4 else 0)) := fun v h1 h2 => by
    unfold S_fuzzy_points_j1 S_fuzzy_points_j2
    rw [sw_eq hN hk, Option.bind_some]
    cases sw N k with
    | true => rw [if_pos rfl, Wz (by omega)]; rfl
    | false => rw [if_neg (by simp)]; simp
  unfold S_fuzzy_points pts
  rw [if_pos (by omega)]
  simp only [Int.toNat_natCast]
  by_cases h : c = cb N k
  · rw [if_pos (by change (c == cb N k) = true; simp [h]), hw _ (by decide) (by decide), if_pos h]
    congr 1
  · rw [if_neg (by change ¬ (c == cb N k) = true; simp [h]), hw _ (by omega) (by omega), if_neg h]
    congr 1
def Small (R : List Int) : Prop := R.length ≤ 1000 ∧ ∀ k, k < R.length → -1 ≤ R.getD k default ∧ R.getD k default ≤ 100000
theorem best_loop {R : List Int} {nx : Nat} (hR : Small R) (hn : nx ≤ 2000) : ∀ (k i : Nat) (s : Int × Int), k = R.length - i → nx ≤ i →
    S_fuzzy_best_l1 none R ((nx : Int) - 1) s.1 s.2 (i : Int) = some ((List.range' i k).foldl (bstep R nx) s)
  | 0, i, s, h, hi => by
    unfold S_fuzzy_best_l1
    refine loopM_out (x := some s) ?_
    unfold S_fuzzy_best_b1 S_fuzzy_best_j7
    rw [if_neg (by simp; omega)]
  | k + 1, i, s, h, hi => by
    have ih := best_loop hR hn k (i + 1) (bstep R nx s i) (by omega) (by omega)
    have hlt : i < R.length := by omega
    obtain ⟨h1, h2⟩ := hR.2 i hlt
    have hl := hR.1
    unfold S_fuzzy_best_l1
    rw [loopM_inl (s' := ((bstep R nx s i).1, (bstep R nx s i).2, ((i + 1 : Nat) : Int))) ?_]
    · rw [List.range'_succ, List.foldl_cons]
      exact ih
    · unfold S_fuzzy_best_b1
      simp only [List.length_map, Int.toNat_natCast]
      have e1 : W ((nx : Int) - 1 + 1) = (nx : Int) := by rw [Wz (by omega)]; omega
      have j5 : ∀ v : Int, S_fuzzy_best_j5 none R ((nx : Int) - 1) s.1 s.2 (i : Int) v = some (.inl (if v > s.1 then (v, (i : Int), ((i + 1 : Nat) : Int)) else (s.1, s.2, ((i + 1 : Nat) : Int)))) := fun v => by
        unfold S_fuzzy_best_j5 S_fuzzy_best_j6
        rw [Wi (by omega)]
        by_cases hv : v > s.1
        · rw [if_pos (by simpa using hv), if_pos hv]
        · rw [if_neg (by simpa using hv), if_neg hv]
      rw [if_pos (by simp; omega), if_pos (by omega), e1, j5, j5]
      unfold bstep
      simp only
      by_cases hc : R.getD i default ≠ -1 ∧ 0 < nx ∧ i = nx
      · rw [if_pos (by simp only [Bool.and_eq_true, bne_iff_ne, decide_eq_true_eq, beq_iff_eq]; omega), if_pos hc, Wz (by omega)]
        congr 2
        split <;> rfl
      · rw [if_neg (by simp only [Bool.and_eq_true, bne_iff_ne, decide_eq_true_eq, beq_iff_eq]; omega), if_neg hc]
        congr 2
        split <;> rfl
theorem best_eq {R : List Int} {nx : Nat} (hR : Small R) (hn : nx ≤ 2000) : S_fuzzy_best none R ((nx : Int) - 1) = some (bst R nx) := by
  unfold S_fuzzy_best bst
  have e1 : W ((nx : Int) - 1 + 1) = (nx : Int) := by rw [Wz (by omega)]; omega
  rw [e1]
  exact best_loop hR hn _ nx (-1, -1) rfl (Nat.le_refl _)
theorem mul_eq : ∀ n : Nat, n < 31 → S_bits_Mul none (IntKind.wrap .u64 1) (IntKind.wrap .u64 (n : Int)) = some (0, (n : Int)) := by decide +kernel
theorem rep_loop {n : Nat} (hn : n ≤ 1000) : ∀ (k i : Nat), n - i ≤ k → 1 ≤ i → i ≤ n → S_slices_Repeat_int_l1 none (i : Int) (List.replicate i (-1) ++ List.replicate (n - i) 0) = some (List.replicate n (-1)) := by
  intro k
  induction k with
  | zero =>
    intro i h h1 h2
    have : i = n := by omega
    subst this
    unfold S_slices_Repeat_int_l1
    refine loopM_out (x := some (List.replicate i (-1))) ?_
    unfold S_slices_Repeat_int_b1 S_slices_Repeat_int_j3
    rw [if_neg (by simp)]
    simp
  | succ k ih =>
    intro i h h1 h2
    by_cases hi : i = n
    · subst hi
      unfold S_slices_Repeat_int_l1
      refine loopM_out (x := some (List.replicate i (-1))) ?_
      unfold S_slices_Repeat_int_b1 S_slices_Repeat_int_j3
      rw [if_neg (by simp)]
      simp
    · have hL : (List.replicate i (-1 : Int) ++ List.replicate (n - i) 0).length = n := by simp; omega
      have hT : (List.replicate i (-1 : Int) ++ List.replicate (n - i) 0).take i = List.replicate i (-1) := by
        rw [List.take_append_of_le_length (by simp), List.take_of_length_le (by simp)]
      have hD : (List.replicate i (-1 : Int) ++ List.replicate (n - i) 0).drop (i + min i (n - i)) = List.replicate (n - (i + min i (n - i))) 0 := by
        rw [List.drop_append, List.drop_eq_nil_of_le (by simp), List.nil_append, List.drop_replicate, List.length_replicate]
        congr 1; omega
      have hM : min (List.replicate i (-1 : Int)).length (n - i) = min i (n - i) := by simp
      have hX : (List.replicate i (-1 : Int) ++ (List.replicate i (-1)).take (n - i)) ++ List.replicate (n - (i + min i (n - i))) 0 = List.replicate (i + min i (n - i)) (-1) ++ List.replicate (n - (i + min i (n - i))) 0 := by
        rw [List.take_replicate, List.replicate_append_replicate, Nat.min_comm]
      unfold S_slices_Repeat_int_l1
      rw [loopM_inl (s' := (((i + min i (n - i) : Nat) : Int), List.replicate (i + min i (n - i)) (-1) ++ List.replicate (n - (i + min i (n - i))) 0)) ?_]
      · exact ih (i + min i (n - i)) (by omega) (by omega) (by omega)
      · unfold S_slices_Repeat_int_b1
        simp only [Int.toNat_natCast, Nat.zero_add, List.drop_zero, List.length_map, List.length_take, hL, hT, hM, hD, hX]
        have e : min (min i n) (n - i) = min i (n - i) := by omega
        rw [if_pos (by simp; omega), if_pos (by omega), if_pos (by omega), if_pos (by omega), if_pos (by omega), if_pos (by simp; omega), e]
        congr 3
        rw [Wz (by omega)]; omega
theorem repeat_eq {n : Nat} (hn : n ≤ 30) : S_slices_Repeat_int none ([(-1)] : List Int) (n : Int) = some (List.replicate n (-1)) := by
  unfold S_slices_Repeat_int S_slices_Repeat_int_j1
  rw [if_neg (by simp <;> omega)]
  have := mul_eq n (by omega)
  rw [show (IntKind.wrap .u64 (([(-1)] : List Int).map e_i64).length) = IntKind.wrap .u64 1 from rfl, this, Option.bind_some, if_neg (by simp; omega)]
  unfold S_slices_Repeat_int_j2
  simp only
  rw [Wz (by omega)]
  simp only [Int.toNat_natCast, List.length_map, List.length_replicate, Nat.zero_add, List.take_zero, List.nil_append]
  rw [if_pos (by omega), if_pos (Nat.le_refl _)]
  match n, hn with
  | 0, _ =>
    rw [if_pos (by simp)]
    unfold S_slices_Repeat_int_l1
    refine loopM_out (x := some []) ?_
    unfold S_slices_Repeat_int_b1
    rfl
  | n + 1, hn =>
    have := rep_loop (n := n + 1) (by omega) (n + 1) 1 (by omega) (Nat.le_refl _) (by omega)
    have e : List.take (n + 1) ([(-1)] : List Int) ++ List.drop (min ([(-1)] : List Int).length (n + 1)) (List.replicate (n + 1) 0) = List.replicate 1 (-1) ++ List.replicate (n + 1 - 1) 0 := by
      rw [show min ([(-1)] : List Int).length (n + 1) = 1 by simp]
      simp
    rw [e, if_pos (by simp), show min ([(-1)] : List Int).length (n + 1) = 1 by simp]
    exact this
section
variable (P N : List UInt8)
theorem T_small {d j k : Nat} (hd : d ≤ 30) : -1 ≤ T P N d j k ∧ T P N d j k ≤ 1000 := ⟨T_rng P N d j k, by have := T_le P N d j k; omega⟩
theorem row_small {d j : Nat} (hd : d ≤ 30) (hN : N.length ≤ 30) : Small (row P N d j) := ⟨by rw [row_len]; omega, fun k hk => by rw [row_len] at hk; rw [row_get P N hk]; have := T_small P N (j := j) (k := k) hd; omega⟩
def Tab (tab : List (List Int)) (i : Nat) : Prop := tab.length = P.length ∧ ∀ j, i ≤ j → j < P.length → tab.getD j default = row P N (P.length - 1 - j) j
theorem round_loop {tab : List (List Int)} {i : Nat} (hP : P.length ≤ 30) (hN : N.length ≤ 30) (hi : i < P.length) (ht : Tab P N tab (i + 1)) : ∀ (k o : Nat) (v : List Int), o + k = N.length → v.length = N.length →
    (∀ x, x < o → v.getD x default = T P N (P.length - 1 - i) i x) → (∀ x, o ≤ x → x < N.length → v.getD x default = -1) →
    S_fuzzy_suffixScores_round_l1 none (i : Int) P N tab (o : Int) v = some (true, tab.set i (row P N (P.length - 1 - i) i))
  | 0, o, v, h, hv, h1, h2 => by
    have hvr : v = row P N (P.length - 1 - i) i := by
      refine List.ext_getElem (by rw [row_len]; exact hv) fun x g1 g2 => ?_
      have := h1 x (by omega)
      rw [getD_at g1] at this
      rw [this, ← row_get P N (by omega), getD_at g2]
    unfold S_fuzzy_suffixScores_round_l1
    refine loopM_out ?_
    unfold S_fuzzy_suffixScores_round_b1
    rw [if_neg (by simp; omega)]
    simp only [Int.toNat_natCast, Nat.zero_add, hvr]
  | k + 1, o, v, h, hv, h1, h2 => by
    have ho : o < N.length := by omega
    have hl := ht.1
    have hnext : ∀ v', v'.length = N.length → (v' = v ∨ ∃ y, v' = v.set o y) → v'.getD o default = T P N (P.length - 1 - i) i o → S_fuzzy_suffixScores_round_l1 none (i : Int) P N tab ((o + 1 : Nat) : Int) v' = some (true, tab.set i (row P N (P.length - 1 - i) i)) := by
      intro v' g1 g2 g3
      refine round_loop hP hN hi ht k (o + 1) v' (by omega) g1 (fun x hx => ?_) (fun x hx hx2 => ?_)
      · by_cases hxo : x = o
        · rw [hxo]; exact g3
        · rcases g2 with rfl | ⟨y, rfl⟩
          · exact h1 x (by omega)
          · rw [List.getD_eq_getElem?_getD, List.getElem?_set_ne (by omega), ← List.getD_eq_getElem?_getD]
            exact h1 x (by omega)
      · rcases g2 with rfl | ⟨y, rfl⟩
        · exact h2 x (by omega) hx2
        · rw [List.getD_eq_getElem?_getD, List.getElem?_set_ne (by omega), ← List.getD_eq_getElem?_getD]
          exact h2 x (by omega) hx2
    -- what the round gives
    have hb : ∃ v', v'.length = N.length ∧ (v' = v ∨ ∃ y, v' = v.set o y) ∧ v'.getD o default = T P N (P.length - 1 - i) i o ∧ S_fuzzy_suffixScores_round_b1 none (i : Int) P N tab (o : Int) v = some (.inl (((o + 1 : Nat) : Int), v')) := by
      unfold S_fuzzy_suffixScores_round_b1
      simp only [Int.toNat_natCast]
      rw [if_pos (by simp; omega), if_pos (by omega), if_pos (by omega)]
      change ∃ v', _ ∧ _ ∧ _ ∧ ((S_fuzzy_EqualFold none (cb P i) (cb N o)).bind fun v14 => _) = _
      rw [equalFold_eq (cb_rng _ _) (cb_rng _ _), Option.bind_some]
      have j6 : ∀ v', S_fuzzy_suffixScores_round_j6 none (i : Int) P N tab (o : Int) v' = some (.inl (((o + 1 : Nat) : Int), v')) := fun v' => by
        unfold S_fuzzy_suffixScores_round_j6; rw [Wi (by omega)]
      have j5 : ∀ r : Int, -1 ≤ r → r ≤ 1000 → S_fuzzy_suffixScores_round_j5 none (i : Int) P N tab (o : Int) v r = some (.inl (((o + 1 : Nat) : Int), if r ≠ -1 then v.set o (pts (cb P i) N o + r) else v)) := fun r hr hr2 => by
        unfold S_fuzzy_suffixScores_round_j5
        simp only [Int.toNat_natCast, Nat.zero_add]
        by_cases hr3 : r = -1
        · subst hr3; rw [if_neg (by simp), j6]; simp
        · rw [if_pos (by simpa using hr3), if_pos (by omega), if_pos (by omega), if_pos (by omega)]
          change ((S_fuzzy_points none (cb P i) N (o : Int)).bind fun v17 => _) = _
          have hp := pts_rng (cb P i) N o
          rw [points_eq (by omega) ho, Option.bind_some, if_pos (by omega), if_pos (by omega), j6, Wz (by omega), if_pos hr3]
      cases hm : mt P N i o with
      | false =>
        have hm' := hm
        unfold mt at hm'
        rw [hm', if_pos (by simp), j6]
        refine ⟨v, hv, .inl rfl, ?_, rfl⟩
        rw [h2 o (Nat.le_refl _) ho]
        unfold T
        rw [hm]
        simp
      | true =>
        have hm' := hm
        unfold mt at hm'
        rw [hm', if_neg (by simp)]
        have fin : ∀ r : Int, r = (F P N (P.length - 1 - i) (i + 1) (o + 1)).1 → ∃ v', v'.length = N.length ∧ (v' = v ∨ ∃ y, v' = v.set o y) ∧ v'.getD o default = T P N (P.length - 1 - i) i o ∧ S_fuzzy_suffixScores_round_j5 none (i : Int) P N tab (o : Int) v r = some (.inl (((o + 1 : Nat) : Int), v')) := fun r hr => by
          have b1 := F_le P N (P.length - 1 - i) (i + 1) (o + 1)
          have b2 : -1 ≤ (F P N (P.length - 1 - i) (i + 1) (o + 1)).1 := by
            rcases F_good P N (P.length - 1 - i) (i + 1) (o + 1) with g | g
            · omega
            · rw [g]; decide
          rw [j5 r (by omega) (by omega)]
          by_cases hr3 : r = -1
          · rw [if_neg (by simpa using hr3)]
            refine ⟨v, hv, .inl rfl, ?_, rfl⟩
            rw [h2 o (Nat.le_refl _) ho]
            unfold T
            rw [if_neg (fun h => h.2 (by omega))]
          · rw [if_pos (by simpa using hr3)]
            refine ⟨_, by simpa using hv, .inr ⟨_, rfl⟩, ?_, rfl⟩
            rw [getD_at (by simpa [hv] using ho), List.getElem_set_self]
            unfold T
            rw [if_pos ⟨hm, by omega⟩, hr]
        by_cases hl2 : i + 1 < P.length
        · rw [Wi (by omega)]
          simp only [Int.toNat_natCast, Nat.zero_add]
          rw [if_pos (by simp; omega), if_pos (by omega), if_pos (by omega), if_pos (by omega), ht.2 (i + 1) (Nat.le_refl _) hl2]
          have e : P.length - 1 - i = P.length - 1 - (i + 1) + 1 := by omega
          have hbq := best_eq (R := row P N (P.length - 1 - (i + 1)) (i + 1)) (nx := o + 1) (row_small P N (by omega) hN) (by omega)
          rw [show (((o + 1 : Nat) : Int) - 1) = (o : Int) by omega] at hbq
          rw [hbq, Option.bind_some]
          exact fin _ (by rw [bst_fst, ← e])
        · rw [Wi (by omega), if_neg (by simp; omega)]
          refine fin 0 ?_
          have e : P.length - 1 - i = 0 := by omega
          rw [e]
          rfl
    obtain ⟨v', g1, g2, g3, g4⟩ := hb
    unfold S_fuzzy_suffixScores_round_l1
    rw [loopM_inl (s' := (((o + 1 : Nat) : Int), v')) g4]
    exact hnext v' g1 g2 g3
theorem back_loop (hP : P.length ≤ 30) (hN : N.length ≤ 30) : ∀ (i : Nat) (tab : List (List Int)), i ≤ P.length → Tab P N tab i → ∃ tab', Tab P N tab' 0 ∧ S_slices_Backward_int_1_l1 none P N tab ((i : Int) - 1) = some tab'
  | 0, tab, h, ht => by
    refine ⟨tab, ht, ?_⟩
    unfold S_slices_Backward_int_1_l1
    refine loopM_out (x := some tab) ?_
    unfold S_slices_Backward_int_1_b1
    rw [if_neg (by simp)]
  | i + 1, tab, h, ht => by
    have hl := ht.1
    have hset : Tab P N (tab.set i (row P N (P.length - 1 - i) i)) i := by
      refine ⟨by simpa using hl, fun j hj hj2 => ?_⟩
      by_cases hji : j = i
      · subst hji
        rw [getD_at (by simpa using (by omega : j < tab.length)), List.getElem_set_self]
      · rw [List.getD_eq_getElem?_getD, List.getElem?_set_ne (by omega), ← List.getD_eq_getElem?_getD]
        exact ht.2 j (by omega) hj2
    obtain ⟨tab', h1, h2⟩ := back_loop hP hN i _ (by omega) hset
    refine ⟨tab', h1, ?_⟩
    unfold S_slices_Backward_int_1_l1
    rw [show (((i + 1 : Nat) : Int) - 1) = (i : Int) by omega, loopM_inl (s' := (tab.set i (row P N (P.length - 1 - i) i), (i : Int) - 1)) ?_]
    · exact h2
    · unfold S_slices_Backward_int_1_b1 S_fuzzy_suffixScores_round
      simp only [Int.toNat_natCast, Nat.zero_add]
      rw [if_pos (by simp), if_pos (by omega), if_pos (by omega), repeat_eq hN, Option.bind_some, if_pos (by omega), if_pos (by omega),
        show (0 : Int) = ((0 : Nat) : Int) from rfl, round_loop P N hP hN (by omega) ht N.length 0 (List.replicate N.length (-1)) (by omega) (by simp) (fun x hx => by omega) (fun x _ hx => by rw [getD_at (by simpa using hx)]; simp), Option.bind_some]
      simp only
      rw [if_pos (by simp), if_neg (by simp), Wm (by omega)]
theorem suffix_eq (hP : P.length ≤ 30) (hN : N.length ≤ 30) : ∃ tab, Tab P N tab 0 ∧ S_fuzzy_suffixScores none P N = some tab := by
  obtain ⟨tab, h1, h2⟩ := back_loop P N hP hN P.length (List.replicate P.length []) (Nat.le_refl _) ⟨by simp, fun j hj hj2 => by omega⟩
  refine ⟨tab, h1, ?_⟩
  unfold S_fuzzy_suffixScores S_slices_Backward_int S_slices_Backward_int_1 S_fuzzy_suffixScores_j1
  simp only [Int.toNat_natCast, List.length_replicate]
  rw [if_pos (by omega), Option.bind_some, Wm (by omega), h2, Option.bind_some, if_pos h1.1]
def res : Int × List Int × Bool := if (F P N P.length 0 0).1 = -1 then (0, [], false) else ((F P N P.length 0 0).1, (F P N P.length 0 0).2, true)
theorem score_loop (hP : P.length ≤ 30) (hN : N.length ≤ 30) {tab : List (List Int)} (ht : Tab P N tab 0) : ∀ (d i nx : Nat) (os : List Int) (tot : Int), i + d = P.length → nx ≤ 30 → os.length = i → (F P N d i nx).1 ≠ -1 → 0 < i →
    S_fuzzy_Score_l1 none tab os tot ((nx : Int) - 1) (i : Int) = some (tot, os ++ (F P N d i nx).2, true)
  | 0, i, nx, os, tot, h, hx, ho, hF, hi => by
    have hl := ht.1
    unfold S_fuzzy_Score_l1
    refine loopM_out (x := some (tot, os ++ (F P N 0 i nx).2, true)) ?_
    unfold S_fuzzy_Score_b1 S_fuzzy_Score_j4
    rw [if_neg (by simp; omega)]
    have : (F P N 0 i nx).2 = [] := rfl
    rw [this, List.append_nil]
  | d + 1, i, nx, os, tot, h, hx, ho, hF, hi => by
    have hl := ht.1
    obtain ⟨k, h1, h2, h3, h4⟩ := bst_some P N hF
    have hb := best_eq (R := row P N d i) (nx := nx) (row_small P N (by omega) hN) (by omega)
    have ih := score_loop hP hN ht d (i + 1) (k + 1) (os ++ [(k : Int)]) tot (by omega) (by omega) (by simp; omega) h3 (by omega)
    unfold S_fuzzy_Score_l1
    rw [loopM_inl (s' := (os ++ [(k : Int)], tot, (k : Int), ((i + 1 : Nat) : Int))) ?_]
    · rw [show (((k + 1 : Nat) : Int) - 1) = (k : Int) by omega] at ih
      rw [h4, show os ++ (k : Int) :: (F P N d (i + 1) (k + 1)).2 = (os ++ [(k : Int)]) ++ (F P N d (i + 1) (k + 1)).2 by simp]
      exact ih
    · unfold S_fuzzy_Score_b1 S_fuzzy_Score_j3
      simp only [List.length_map, Int.toNat_natCast]
      rw [if_pos (by simp; omega), if_pos (by omega), ht.2 i (by omega) (by omega), show P.length - 1 - i = d by omega, hb, Option.bind_some,
        if_neg (by rw [bst_fst]; simpa using hF), if_neg (by simp; omega), h2, if_pos (by simp; omega), Wi (by omega)]
theorem score_eq (hP : P.length ≤ 30) (hN : N.length ≤ 30) : S_fuzzy_Score none P N = some (res P N) := by
  obtain ⟨tab, ht, hs⟩ := suffix_eq P N hP hN
  have hl := ht.1
  unfold S_fuzzy_Score
  rw [if_neg (by simp; omega), hs, Option.bind_some]
  match hd : P.length with
  | 0 =>
    unfold S_fuzzy_Score_l1
    refine loopM_out (x := some (res P N)) ?_
    unfold S_fuzzy_Score_b1 S_fuzzy_Score_j4
    rw [if_neg (by rw [List.length_map, hl, hd]; simp)]
    unfold res
    rw [hd]
    rfl
  | d + 1 =>
    have hb := best_eq (R := row P N d 0) (nx := 0) (row_small P N (by omega) hN) (by omega)
    rw [show (((0 : Nat) : Int) - 1) = (-1 : Int) by decide] at hb
    unfold S_fuzzy_Score_l1
    by_cases hF : (F P N (d + 1) 0 0).1 = -1
    · refine loopM_out (x := some (res P N)) ?_
      unfold S_fuzzy_Score_b1
      rw [if_pos (by simp; omega), if_pos (by simp; omega), show (0 : Int).toNat = 0 from rfl, ht.2 0 (Nat.le_refl _) (by omega), show P.length - 1 - 0 = d by omega, hb, Option.bind_some, if_pos (by rw [bst_fst]; simpa using hF)]
      unfold res
      rw [hd, if_pos hF]
    · obtain ⟨k, h1, h2, h3, h4⟩ := bst_some P N hF
      have ih := score_loop P N hP hN ht d 1 (k + 1) [(k : Int)] (F P N (d + 1) 0 0).1 (by omega) (by omega) rfl h3 (by omega)
      rw [loopM_inl (s' := ([(k : Int)], (F P N (d + 1) 0 0).1, (k : Int), ((1 : Nat) : Int))) ?_]
      · rw [show (((k + 1 : Nat) : Int) - 1) = (k : Int) by omega] at ih
        unfold res
        rw [hd, if_neg hF, h4]
        exact ih
      · unfold S_fuzzy_Score_b1 S_fuzzy_Score_j3
        rw [if_pos (by simp; omega), if_pos (by simp; omega), show (0 : Int).toNat = 0 from rfl, ht.2 0 (Nat.le_refl _) (by omega), show P.length - 1 - 0 = d by omega, hb, Option.bind_some, if_neg (by rw [bst_fst]; simpa using hF), if_pos (by decide), h2, bst_fst]
        simp only [List.nil_append]
        rw [if_pos (by simp)]
        rfl
end
end Go.Proofs.Ytobkgelkaljjeaa
