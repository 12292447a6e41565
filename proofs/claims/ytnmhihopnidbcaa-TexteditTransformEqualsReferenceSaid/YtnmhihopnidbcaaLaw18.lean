/-
  Own text Law18 of this claim: what functions of the given program compute, in plain Lean, and the proof; no condition.
-/
import Derived.Test.YtnmhihopnidbcaaLaw17
namespace Go.Proofs.Ytnmhihopnidbcaa
open Go.Fx
set_option linter.unusedVariables false
section
variable {s : List UInt8} {L R : List G_TextEdit} {fl : Bool} {v1 : List G_TextEdit} (hL : Ok s.length (-1) L) (hR : Ok s.length (-1) R) (hn : s.length ≤ 2000) (l1 : L.length ≤ 50) (l2 : R.length ≤ 50)
  (b1 : (s.length : Int) + D L ≤ 2000) (b2 : (s.length : Int) + D R ≤ 2000) (hv : v1 = ownE fl L R)
include hL hR hn l1 l2 b1 b2 hv
/-- the two sides at a place -/
theorem mg_sides (i : Nat) (hi : i ≤ s.length) (o : List G_TracedByte × Int) (ho : o = It G_TracedByte.mk fl s L R i) :
    S_glossatorref4_MergeEdits_l12 none s L R fl v1 (i : Int) o.1 o.2 0 = S_glossatorref4_MergeEdits_j53 none s L R fl v1 (i : Int) (tx G_TracedByte.mk fl L R i o).1 (tx G_TracedByte.mk fl L R i o).2 := by
  have _ := hn
  have hln := It_len (mk := G_TracedByte.mk) hL hR fl i
  have hof := It_off (mk := G_TracedByte.mk) hL hR fl i
  rw [← ho] at hln hof
  have p1 := Of_le hL (s.length - i) i (by omega)
  have p2 := Of_le hR (s.length - i) i (by omega)
  have q1 := Of_pos hL i
  have q2 := Of_pos hR i
  have hO : 0 ≤ o.2 ∧ o.2 ≤ 2000 := by
    rw [hof]; unfold ownE; split <;> omega
  unfold S_glossatorref4_MergeEdits_l12
  rw [loopM_inl (s' := (o.1 ++ txt G_TracedByte.mk fl o.2 (insA L i), o.2 + (if fl = true then ((insA L i).length : Int) else 0), (1 : Int))) ?_]
  · rw [loopM_inl (s' := (o.1 ++ txt G_TracedByte.mk fl o.2 (insA L i) ++ txt G_TracedByte.mk (!fl) o.2 (insA R i), o.2 + ((insA (ownE fl L R) i).length : Int), (2 : Int))) ?_]
    · refine loopM_out ?_
      unfold S_glossatorref4_MergeEdits_b12
      rw [if_neg (by simp)]
      rfl
    · unfold S_glossatorref4_MergeEdits_b12
      dsimp only
      rw [if_pos (by simp), if_neg (by simp)]
      unfold S_glossatorref4_MergeEdits_j48
      rw [insAt_eq l2]
      simp only [Option.bind_some]
      have := mg_bytes (a0 := s) (a1 := L) (a2 := R) (v1 := v1) (a3 := fl) (v45 := (i : Int)) (v100 := 1) (t := insA R i) (insA R i).length 0 (o.2 + (if fl = true then ((insA L i).length : Int) else 0)) (o.1 ++ txt G_TracedByte.mk fl o.2 (insA L i)) (by omega) (by omega)
        (by rw [List.length_append, txt_len]; omega) (by split <;> omega) (by split <;> omega)
      rw [show ((0 : Nat) : Int) = 0 from rfl] at this
      rw [this]
      cases fl
      · simp [txt, ownE, show W 2 = 2 from W_in (by unfold inR; omega)]
      · simp [txt, ownE, show W 2 = 2 from W_in (by unfold inR; omega)]
  · unfold S_glossatorref4_MergeEdits_b12
    dsimp only
    rw [if_pos (by simp), if_pos (by simp)]
    unfold S_glossatorref4_MergeEdits_j48
    rw [insAt_eq l1]
    simp only [Option.bind_some]
    have := mg_bytes (a0 := s) (a1 := L) (a2 := R) (v1 := v1) (a3 := fl) (v45 := (i : Int)) (v100 := 0) (t := insA L i) (insA L i).length 0 o.2 o.1 (by omega) (by omega) (by omega) (by omega) (by omega)
    rw [show ((0 : Nat) : Int) = 0 from rfl] at this
    rw [this]
    cases fl
    · simp [show W 1 = 1 from W_in (by unfold inR; omega)]
    · simp [show W 1 = 1 from W_in (by unfold inR; omega)]
theorem mg_loop : ∀ (k i : Nat), i + k = s.length →
    S_glossatorref4_MergeEdits_l9 none s L R fl v1 (It G_TracedByte.mk fl s L R i).1 (It G_TracedByte.mk fl s L R i).2 (i : Int) = some (Mg G_TracedByte.mk fl s L R).1
  | 0, i, h => by
    have : i = s.length := by omega
    subst this
    unfold S_glossatorref4_MergeEdits_l9
    refine loopM_out ?_
    unfold S_glossatorref4_MergeEdits_b9
    dsimp only
    rw [if_pos (by simp), mg_sides hL hR hn l1 l2 b1 b2 hv s.length (Nat.le_refl _) _ rfl]
    unfold S_glossatorref4_MergeEdits_j53
    rw [if_pos (by simp)]
    rfl
  | k + 1, i, h => by
    have ih := mg_loop k (i + 1) (by omega)
    have hi : i < s.length := by omega
    have hln := It_len (mk := G_TracedByte.mk) hL hR fl i
    have hof := It_off (mk := G_TracedByte.mk) hL hR fl i
    have p1 := Of_le hL (s.length - i) i (by omega)
    have p2 := Of_le hR (s.length - i) i (by omega)
    have q1 := Of_pos hL i
    have q2 := Of_pos hR i
    have hO : 0 ≤ (It G_TracedByte.mk fl s L R i).2 + ((insA (ownE fl L R) i).length : Int) ∧ (It G_TracedByte.mk fl s L R i).2 + ((insA (ownE fl L R) i).length : Int) ≤ 2000 := by
      rw [hof]; unfold ownE; split <;> omega
    have e1 := Wi (show i ≤ 4611686018427387904 by omega)
    have e2 : W ((It G_TracedByte.mk fl s L R i).2 + ((insA (ownE fl L R) i).length : Int) + 1) = (It G_TracedByte.mk fl s L R i).2 + ((insA (ownE fl L R) i).length : Int) + 1 := W_in (by unfold inR; omega)
    have hl : ((tx G_TracedByte.mk fl L R i (It G_TracedByte.mk fl s L R i)).1.length : Int) ≤ 4000 := by
      unfold tx; simp only [List.length_append, txt_len, Int.natCast_add]; omega
    unfold S_glossatorref4_MergeEdits_l9 at ih ⊢
    rw [loopM_inl (s' := ((It G_TracedByte.mk fl s L R (i + 1)).1, (It G_TracedByte.mk fl s L R (i + 1)).2, ((i + 1 : Nat) : Int))) ?_]
    · exact ih
    · unfold S_glossatorref4_MergeEdits_b9
      dsimp only
      rw [if_pos (by simp; omega), mg_sides hL hR hn l1 l2 b1 b2 hv i (by omega) _ rfl]
      unfold S_glossatorref4_MergeEdits_j53
      have l3 : v1.length ≤ 50 := by rw [hv]; unfold ownE; split <;> omega
      have hj : ∀ out, S_glossatorref4_MergeEdits_j54 none s L R fl v1 (i : Int) (tx G_TracedByte.mk fl L R i (It G_TracedByte.mk fl s L R i)).2 out = some (.inl (out, (bt G_TracedByte.mk fl s L R i (tx G_TracedByte.mk fl L R i (It G_TracedByte.mk fl s L R i))).2, ((i + 1 : Nat) : Int))) := by
        intro out
        unfold S_glossatorref4_MergeEdits_j54
        rw [delAt_eq l3, hv]
        simp only [Option.bind_some]
        unfold S_glossatorref4_MergeEdits_j55 bt tx
        dsimp only
        rw [e1, e2]
        by_cases hd : delB (ownE fl L R) i = false
        · simp [hd]
        · simp [Bool.not_eq_false] at hd
          simp [hd]
      rw [if_neg (by simp; omega), delAt_eq l1]
      simp only [Option.bind_some]
      have hx : (if ((!delB L i) == true) = true then S_glossatorref4_DeletesByte none R (i : Int) else some default) = some (if ((!delB L i) == true) = true then delB R i else default) := by
        split
        · exact delAt_eq l2 _
        · rfl
      rw [hx]
      simp only [Option.bind_some]
      by_cases hc : delB L i = false ∧ delB R i = false
      · rw [if_pos (by simp [hc.1, hc.2]), if_pos (by omega), if_pos (by simp only [List.length_map, List.length_append, List.length_cons, List.length_nil]; omega), hj]
        rw [It, bt, if_pos hc]
        simp only [Int.toNat_natCast]
      · rw [if_neg ?_, hj]
        · rw [It, bt, if_neg hc, List.append_nil]
        · by_cases h1 : delB L i = false
          · simp only [h1, true_and] at hc
            simp [h1, hc]
          · simp [h1]
theorem merge_eq : S_glossatorref4_MergeEdits_j1 none s L R fl v1 = some (Mg G_TracedByte.mk fl s L R).1 := by
  unfold S_glossatorref4_MergeEdits_j1
  exact mg_loop hL hR hn l1 l2 b1 b2 hv s.length 0 (by omega)
end
theorem rmerge_eq {s : List UInt8} {L R : List G_TextEdit} (fl : Bool) (hL : Ok s.length (-1) L) (hR : Ok s.length (-1) R) (hn : s.length ≤ 2000) (l1 : L.length ≤ 50) (l2 : R.length ≤ 50)
  (b1 : (s.length : Int) + D L ≤ 2000) (b2 : (s.length : Int) + D R ≤ 2000) : S_glossatorref4_MergeEdits none s L R fl = some (Mg G_TracedByte.mk fl s L R).1 := by
  unfold S_glossatorref4_MergeEdits
  cases fl
  · exact merge_eq hL hR hn l1 l2 b1 b2 rfl
  · exact merge_eq hL hR hn l1 l2 b1 b2 rfl
end Go.Proofs.Ytnmhihopnidbcaa
