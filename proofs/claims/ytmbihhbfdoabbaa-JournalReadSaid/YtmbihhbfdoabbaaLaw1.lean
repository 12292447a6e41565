/-
  Own text Law1 of this claim: what functions of the given program compute, in plain Lean, and the proof; no condition.
-/
import Derived.Test.YtmbihhbfdoabbaaGenB
import Derived.Test.YtmbihhbfdoabbaaFxLs
namespace Go.Proofs.Ytmbihhbfdoabbaa
open Go.Fx Go.Sort
set_option linter.unusedVariables false

/-! ### the reference's sorted keys -/
theorem ss_ins {a0 v3 : List (List UInt8)} {v4 : Int} (hl : v3.length ≤ 100000) :
    S_glossatorref3_SortStrings_j5 none a0 v3 v4 ((lowr (a0.getD v4.toNat default) v3).length : Int) = some (.inl (insS v3 (a0.getD v4.toNat default), W (v4 + 1))) := by
  generalize hx : a0.getD v4.toNat default = x
  have hle : (lowr x v3).length ≤ v3.length := by
    have := congrArg List.length (low_up x v3); rw [List.length_append] at this; omega
  unfold S_glossatorref3_SortStrings_j5 S_glossatorref3_SortStrings_j6
  simp only [hx, List.length_map, Int.toNat_natCast]
  rw [if_pos (by intro h; simp at h; omega)]
  by_cases hn : (lowr x v3).length = v3.length
  · have hu : uppr x v3 = [] := by rw [← low_drop, hn]; simp
    rw [if_pos (by simp [hn]), if_pos (by omega), if_pos (by omega), if_pos (by simp; omega), if_pos (by simp), if_pos (by simp; omega), low_take, low_drop, hu]
    unfold insS
    rw [hu]
    rfl
  · obtain ⟨h1, h2⟩ := scan_up (x := x) (l := v3) (by omega)
    have hg : v3.getD (lowr x v3).length default = v3[(lowr x v3).length]'(by omega) := getD_at (by omega)
    by_cases he : v3[(lowr x v3).length]'(by omega) = x
    · rw [if_neg (by rw [hg, he]; simp; omega)]
      unfold insS
      rw [h2]
      simp only [he, if_true]
    · rw [if_pos (by rw [hg]; simp [he]), if_pos (by omega), if_pos (by omega), if_pos (by simp; omega), if_pos (by simp), if_pos (by simp; omega), low_take, low_drop]
      have hi : insS v3 x = lowr x v3 ++ (x :: uppr x v3) := by
        unfold insS
        rw [h2]
        simp only [he, if_false]
      rw [hi]
      rfl
theorem ss_scan {a0 v3 : List (List UInt8)} {v4 : Int} (hl : v3.length ≤ 100000) : ∀ (k i : Nat), i + k = (lowr (a0.getD v4.toNat default) v3).length →
    S_glossatorref3_SortStrings_l4 none a0 v3 v4 (i : Int) = some (.inl (insS v3 (a0.getD v4.toNat default), W (v4 + 1)))
  | 0, i, h => by
    have hi : i = (lowr (a0.getD v4.toNat default) v3).length := by omega
    unfold S_glossatorref3_SortStrings_l4
    rw [← ss_ins hl, hi]
    refine loopM_out ?_
    unfold S_glossatorref3_SortStrings_b4
    simp only [List.length_map, Int.toNat_natCast]
    rw [if_pos (by intro h; simp only [beq_iff_eq, decide_eq_true_eq] at h; omega), if_neg]
    rw [bytesLess_eq]
    by_cases hn : (lowr (a0.getD v4.toNat default) v3).length < v3.length
    · obtain ⟨h1, _⟩ := scan_up (x := a0.getD v4.toNat default) (l := v3) hn
      rw [getD_at hn]
      simp only [Bool.and_eq_true, decide_eq_true_eq]
      exact fun h => h1 h.2
    · simp only [Bool.and_eq_true, decide_eq_true_eq]
      exact fun h => hn (by omega)
  | k + 1, i, h => by
    obtain ⟨hi, hlt⟩ := scan_low (x := a0.getD v4.toNat default) (l := v3) (i := i) (by omega)
    unfold S_glossatorref3_SortStrings_l4
    rw [loopM_inl (s' := ((i + 1 : Nat) : Int)) ?_]
    · exact ss_scan hl k (i + 1) (by omega)
    · unfold S_glossatorref3_SortStrings_b4
      simp only [List.length_map, Int.toNat_natCast]
      rw [if_pos (by intro h; simp only [beq_iff_eq, decide_eq_true_eq] at h; omega), if_pos, Wi (by omega)]
      rw [bytesLess_eq, getD_at hi]
      simp only [Bool.and_eq_true, decide_eq_true_eq]
      exact ⟨by omega, hlt⟩
theorem ss_loop {a0 : List (List UInt8)} (ha : a0.length ≤ 100000) : ∀ (k i : Nat) (v : List (List UInt8)), i + k = a0.length → v.length ≤ i →
    S_glossatorref3_SortStrings_l3 none a0 v (i : Int) = some ((a0.drop i).foldl insS v)
  | 0, i, v, h, hv => by
    have hi : i = a0.length := by omega
    subst hi
    unfold S_glossatorref3_SortStrings_l3
    rw [List.drop_length, List.foldl_nil]
    refine loopM_out ?_
    unfold S_glossatorref3_SortStrings_b3
    rw [if_neg (by simp)]
    rfl
  | k + 1, i, v, h, hv => by
    have hi : i < a0.length := by omega
    unfold S_glossatorref3_SortStrings_l3
    rw [loopM_inl (s' := (insS v a0[i], ((i + 1 : Nat) : Int))) ?_]
    · have := insS_len v a0[i]
      have ih := ss_loop ha k (i + 1) (insS v a0[i]) (by omega) (by omega)
      rw [List.drop_eq_getElem_cons hi, List.foldl_cons]
      exact ih
    · unfold S_glossatorref3_SortStrings_b3
      dsimp only
      rw [if_pos (by simp; omega), if_pos (by simp; omega)]
      have hs := ss_scan (a0 := a0) (v3 := v) (v4 := (i : Int)) (by omega) _ 0 (Nat.zero_add _)
      rw [Int.toNat_natCast, getD_at hi, Wi (by omega)] at hs
      exact hs
theorem ss_eq {a0 : List (List UInt8)} (ha : a0.length ≤ 100000) : S_glossatorref3_SortStrings none a0 = some (sortS a0) := by
  have := ss_loop ha a0.length 0 [] (by omega) (by simp)
  rwa [List.drop_zero] at this

/-! ### the reference's state -/
def nul : G_QRecord := ⟨[], [], false⟩
def lastR (k : List UInt8) (acc : G_QRecord) (r : G_QRecord) : G_QRecord := if r.f_Key = k then r else acc
def lastOf (a0 : List G_QRecord) (k : List UInt8) : G_QRecord := a0.foldl (lastR k) nul
def keepR (a0 : List G_QRecord) (k : List UInt8) : List G_QRecord := if (lastOf a0 k).f_Deleted then [] else [lastOf a0 k]
def stateR (a0 : List G_QRecord) : List G_QRecord := (sortS (a0.map (·.f_Key))).flatMap (keepR a0)
theorem rs_last {a0 : List G_QRecord} {K : List (List UInt8)} {acc : List G_QRecord} {j : Nat} (ha : a0.length ≤ 100000) (hj : j < K.length) : ∀ (k i : Nat) (r : G_QRecord), i + k = a0.length →
    S_glossatorref3_State_l5 none a0 K acc (j : Int) (i : Int) r.f_Key r.f_Value r.f_Deleted = (fun r : G_QRecord => S_glossatorref3_State_j15 none a0 K acc (j : Int) r.f_Key r.f_Value r.f_Deleted) ((a0.drop i).foldl (lastR K[j]) r)
  | 0, i, r, h => by
    have hi : i = a0.length := by omega
    subst hi
    unfold S_glossatorref3_State_l5
    rw [List.drop_length, List.foldl_nil]
    refine loopM_out ?_
    unfold S_glossatorref3_State_b5
    rw [if_neg (by simp)]
  | k + 1, i, r, h => by
    have hi : i < a0.length := by omega
    unfold S_glossatorref3_State_l5
    rw [loopM_inl (s' := (((i + 1 : Nat) : Int), (lastR K[j] r a0[i]).f_Key, (lastR K[j] r a0[i]).f_Value, (lastR K[j] r a0[i]).f_Deleted)) ?_]
    · have ih := rs_last (K := K) (acc := acc) ha hj k (i + 1) (lastR K[j] r a0[i]) (by omega)
      rw [List.drop_eq_getElem_cons hi, List.foldl_cons]
      exact ih
    · unfold S_glossatorref3_State_b5 S_glossatorref3_State_j14
      simp only [List.length_map, Int.toNat_natCast, getD_at hi, getD_at hj]
      rw [if_pos (by simp; omega), if_pos (by omega), Wi (by omega)]
      unfold lastR
      by_cases he : a0[i].f_Key = K[j]
      · rw [if_pos (by simpa using he), if_pos he]
      · rw [if_neg (by simpa using he), if_neg he]
theorem rs_keys {a0 : List G_QRecord} {K : List (List UInt8)} (ha : a0.length ≤ 100000) (hK : K.length ≤ 100000) : ∀ (k i : Nat) (acc : List G_QRecord), i + k = K.length → acc.length ≤ i →
    S_glossatorref3_State_l4 none a0 K acc (i : Int) = some (acc ++ (K.drop i).flatMap (keepR a0))
  | 0, i, acc, h, hl => by
    have hi : i = K.length := by omega
    subst hi
    unfold S_glossatorref3_State_l4
    rw [List.drop_length, List.flatMap_nil, List.append_nil]
    refine loopM_out ?_
    unfold S_glossatorref3_State_b4
    rw [if_neg (by simp)]
    rfl
  | k + 1, i, acc, h, hl => by
    have hi : i < K.length := by omega
    have hk : (keepR a0 K[i]).length ≤ 1 := by unfold keepR; split <;> simp
    unfold S_glossatorref3_State_l4
    rw [loopM_inl (s' := (acc ++ keepR a0 K[i], ((i + 1 : Nat) : Int))) ?_]
    · have ih := rs_keys (a0 := a0) ha hK k (i + 1) (acc ++ keepR a0 K[i]) (by omega) (by simp; omega)
      rw [List.drop_eq_getElem_cons hi, List.flatMap_cons, ← List.append_assoc]
      exact ih
    · unfold S_glossatorref3_State_b4
      dsimp only
      rw [if_pos (by simp; omega), if_pos (by simp; omega)]
      have := rs_last (K := K) (acc := acc) ha hi a0.length 0 nul (by omega)
      rw [List.drop_zero] at this
      refine this.trans ?_
      show S_glossatorref3_State_j15 none a0 K acc (i : Int) (lastOf a0 K[i]).f_Key (lastOf a0 K[i]).f_Value (lastOf a0 K[i]).f_Deleted = _
      unfold S_glossatorref3_State_j15 S_glossatorref3_State_j16 keepR
      rw [Wi (by omega)]
      cases hd : (lastOf a0 K[i]).f_Deleted with
      | true => simp
      | false =>
        rw [if_pos (by simp), if_pos (by simp; omega)]
        simp only [Bool.false_eq_true, if_false]
        rw [← hd]
theorem rs_coll {a0 : List G_QRecord} (ha : a0.length ≤ 100000) : ∀ (k i : Nat) (acc : List (List UInt8)), i + k = a0.length → acc.length = i →
    S_glossatorref3_State_l1 none a0 acc (i : Int) = S_glossatorref3_State_j1 none a0 (acc ++ (a0.drop i).map (·.f_Key))
  | 0, i, acc, h, hl => by
    have hi : i = a0.length := by omega
    subst hi
    unfold S_glossatorref3_State_l1
    rw [List.drop_length, List.map_nil, List.append_nil]
    refine loopM_out ?_
    unfold S_glossatorref3_State_b1
    rw [if_neg (by simp)]
  | k + 1, i, acc, h, hl => by
    have hi : i < a0.length := by omega
    unfold S_glossatorref3_State_l1
    rw [loopM_inl (s' := (acc ++ [a0[i].f_Key], ((i + 1 : Nat) : Int))) ?_]
    · have ih := rs_coll ha k (i + 1) (acc ++ [a0[i].f_Key]) (by omega) (by simp; omega)
      rw [List.drop_eq_getElem_cons hi, List.map_cons, show acc ++ a0[i].f_Key :: List.map (·.f_Key) (List.drop (i+1) a0) = (acc ++ [a0[i].f_Key]) ++ List.map (·.f_Key) (List.drop (i+1) a0) by simp]
      exact ih
    · unfold S_glossatorref3_State_b1
      simp only [List.length_map, Int.toNat_natCast, getD_at hi]
      rw [if_pos (by simp; omega), if_pos (by omega), if_pos (by simp; omega), Wi (by omega)]
theorem ref_state {a0 : List G_QRecord} (ha : a0.length ≤ 100000) : S_glossatorref3_State none a0 = some (stateR a0) := by
  have h := rs_coll ha a0.length 0 [] (by omega) rfl
  unfold S_glossatorref3_State
  rw [show (0 : Int) = ((0 : Nat) : Int) from rfl, h, List.drop_zero, List.nil_append]
  unfold S_glossatorref3_State_j1
  have hs := sortS_len (a0.map (·.f_Key))
  rw [ss_eq (by simpa using ha), Option.bind_some]
  have h2 := rs_keys (K := sortS (a0.map (·.f_Key))) ha (by simp at hs; omega) _ 0 [] (Nat.zero_add _) (by simp)
  rw [show (0 : Int) = ((0 : Nat) : Int) from rfl, h2, List.drop_zero, List.nil_append]
  rfl
end Go.Proofs.Ytmbihhbfdoabbaa
