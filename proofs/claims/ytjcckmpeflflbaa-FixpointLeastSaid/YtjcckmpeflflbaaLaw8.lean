/-
  Own text Law8 of this claim: what functions of the given program compute, in plain Lean, and the proof; no condition.
-/
import Derived.Test.YtjcckmpeflflbaaLaw7
import Derived.Test.YtjcckmpeflflbaaOk
namespace Go.Proofs.Ytjcckmpeflflbaa
open Go.Fx
set_option linter.unusedVariables false
/-- the numbers below n -/
def upto (n : Nat) : List Int := (List.range n).map fun (i : Nat) => (i : Int)
theorem upto_len (n : Nat) : (upto n).length = n := by simp [upto]
theorem indices_ok {n : Nat} (hn : n ≤ 60) : S_fixpoint_indices none (n : Int) = some (upto n) := by
  have key : ∀ k i, i + k = n → S_fixpoint_indices_l1 none (n : Int) (i : Int) ((upto n).take i ++ List.replicate k 0) = some (upto n) := by
    intro k
    induction k with
    | zero =>
      intro i h
      have : i = n := by omega
      subst this
      unfold S_fixpoint_indices_l1
      rw [loopM_out (x := some (upto i)) ?_]
      unfold S_fixpoint_indices_b1 S_fixpoint_indices_j1
      rw [if_neg (by simp), List.take_of_length_le (by rw [upto_len]; exact Nat.le_refl _)]
      simp
    | succ k ih =>
      intro i h
      have := ih (i + 1) (by omega)
      unfold S_fixpoint_indices_l1 at this ⊢
      rw [← this]
      refine loopM_inl ?_
      have hi : i < (upto n).length := by rw [upto_len]; omega
      have hlen : ((upto n).take i).length = i := by rw [List.length_take]; omega
      have e : ((upto n).take i ++ List.replicate (k + 1) (0 : Int)).length = n := by rw [List.length_append, hlen, List.length_replicate]; omega
      have hat : (upto n)[i] = (i : Int) := by simp [upto]
      unfold S_fixpoint_indices_b1
      simp only [Int.toNat_natCast, Nat.zero_add]
      rw [if_pos (by simp; omega), if_pos (by omega), if_pos (by omega), Wi (by omega), List.set_append_right _ _ (by omega), hlen, Nat.sub_self, List.replicate_succ, List.set_cons_zero, List.take_succ_eq_append_getElem hi, List.append_assoc, hat]
      rfl
  unfold S_fixpoint_indices
  rw [if_pos (by omega), Int.toNat_natCast]
  have := key n 0 (by omega)
  simpa using this
theorem propagate_ok {p : Rules} (hv : Valid p) {S : List Int} (hS : Sok p.length S) (hFS : Fs p S = S) (hleast : ∀ X, Le p.length (Fs p X) X → Le p.length S X) :
    S_fixpoint_propagate_25 none p (List.replicate p.length 0) (upto p.length) = some S := by
  have h60 := hv.n60
  have hlen : (p.map e_sl_QRule).length = p.length := by simp
  have hrow : ∀ j, j < p.length → (List.replicate p.length ([] : List Int)).getD j default = [] := fun j hj => by rw [getD_at (by simpa using hj)]; simp
  obtain ⟨R, h1, h2, h3, h4, h5⟩ := rd_out hv (a1 := List.replicate p.length 0) (a2 := upto p.length) p.length 0 (List.replicate p.length []) (by omega) (by simp) (fun j hj => by rw [hrow j hj]; simp)
  unfold S_fixpoint_propagate_25
  rw [hlen, if_pos (by omega), Int.toNat_natCast]
  rw [show (((0 : Nat) : Int)) = 0 from rfl] at h1
  rw [h1]
  unfold S_fixpoint_propagate_25_j40
  rw [upto_len]
  have hz := sum_rng (zero_ok p.length).2
  have hW : Wn 0 p.length (upto p.length) = upto p.length := by
    have := Wn_whole (upto p.length)
    rwa [upto_len] at this
  refine work_loop hv h2 h4 (fun i hi => h5 i (Nat.zero_le _) hi) hS hFS hleast ((p.length * 1048575) * 62 + p.length) 0 p.length _ (upto p.length) (by omega) (by rw [upto_len]; omega) (by omega) (zero_ok _) (zero_le hv S) ?_ ?_
  · rw [hW]
    intro y hy
    obtain ⟨i, hi, rfl⟩ := List.mem_map.1 hy
    have := List.mem_range.1 hi
    omega
  · rw [hW]
    intro i hi hni
    exact absurd (List.mem_map.2 ⟨i, List.mem_range.2 hi, rfl⟩) hni
theorem lawL {a0 : List (List G_QRule)} (h : okA3 a0) : S_glossatorlaw3_FixpointLeast none a0 = some true := by
  have hS : Small a0 := by
    obtain ⟨h1, h2, h3⟩ := h
    unfold reachBytes at h2
    refine ⟨by unfold BB; omega, fun l hl => ?_, fun l hl r hr => ?_⟩
    · have := (h3 l hl).2.1
      unfold reachBytes at this
      unfold BB; omega
    · have := ((h3 l hl).2.2 r hr).2.2.1
      unfold reachBytes at this
      unfold BB; omega
  have hlen : (a0.map e_sl_QRule).length = a0.length := by simp
  unfold S_glossatorlaw3_FixpointLeast
  rw [example_ok, Option.bind_some, if_neg (by simp)]
  unfold S_fixpoint_Least S_fixpoint_Rounds
  rw [check_ok hS, Option.bind_some, Option.bind_some, refcheck_ok hS]
  by_cases hc : cspec a0 = 0
  · have hv := valid_of hc
    have h60 := hv.n60
    obtain ⟨S, N, k1, k2, k3, k4, k5⟩ := kleene_ok hv
    have e1 : (cspec a0 != 0) = false := by simp [hc]
    rw [e1, hlen, if_neg (by simp), if_pos (by omega), indices_ok h60, Option.bind_some, Int.toNat_natCast, propagate_ok hv k3 k4 k5, Option.bind_some, if_pos (by rw [k3.1]; simp), Option.bind_some, if_neg (by simp), if_pos (by omega), k2]
    simp only [Option.bind_some, hc]
    rw [if_neg (by decide), if_neg (by decide), k1]
    simp only [Option.bind_some, beq_self_eq_true, if_true, Bool.and_true]
    rw [eqI_ok (by rw [k3.1]; omega)]
    simp
  · have e1 : (cspec a0 != 0) = true := by simpa using hc
    rw [e1]
    simp only [if_true, Option.bind_some]
    simp [hc]
end Go.Proofs.Ytjcckmpeflflbaa
