/-
  Own text Law6 of this claim: what functions of the given program compute, in plain Lean, and the proof; no condition.
-/
import Derived.Test.YteepckliibfnkaaLaw5
namespace Go.Proofs.Yteepckliibfnkaa
open Go.Fx Go.Sort
set_option linter.unusedVariables false

def st (l : List En) (i : Nat) : Bool := ((!((l.getD i default).f_Name == ([] : List UInt8)) && decide (((l.getD i default).f_Name.length : Int) ≤ 60)) && (i == 0 || decide ((l.getD (i - 1) default).f_Name < (l.getD i default).f_Name))) && vW (l.getD i default).f_Words
def vI (l : List En) : Nat → Nat → Bool
  | 0, _ => true
  | k + 1, i => st l i && vI l k (i + 1)
structure OkE (e : En) : Prop where
  w : e.f_Words.length ≤ 4000000000000000
  a : ∀ w ∈ e.f_Words, w.length ≤ 4000000000000000
  s0 : 0 ≤ e.f_Sum
  s1 : e.f_Sum < 4294967296
theorem pi_loop {l : List En} (hl : l.length ≤ 4000000000000000) (ho : ∀ e ∈ l, OkE e) : ∀ (k i : Nat), i + k = l.length →
    S_wordindex_valid_l1 none l (i : Int) = some (vI l k i && decide ((l.length : Int) ≤ 20))
  | 0, i, h => by
    have hi : i = l.length := by omega
    subst hi
    unfold S_wordindex_valid_l1
    refine loopM_out ?_
    unfold S_wordindex_valid_b1
    rw [if_neg (by simp)]
    unfold S_wordindex_valid_j1
    simp only [List.length_map]
    rfl
  | k + 1, i, h => by
    have hi : i < l.length := by omega
    have hoi := ho _ (List.getElem_mem hi)
    have hst : S_wordindex_valid_b1 none l (i : Int) = if st l i = true then some (.inl ((i + 1 : Nat) : Int)) else some (.inr false) := by
      unfold S_wordindex_valid_b1 st
      simp only [List.length_map, Int.toNat_natCast, getD_at hi]
      rw [if_pos (by simp; omega), if_pos (by omega), if_pos (by intro h2; simp only [Bool.and_eq_true, beq_iff_eq, decide_eq_true_eq] at h2; rw [W_in (by unfold inR; omega)]; omega), bytesLess_eq, validWords_eq hoi.w hoi.a]
      have hc : ((decide ((i : Int) > 0)) && !decide ((l.getD (W ((i : Int) - 1)).toNat default).f_Name < l[i].f_Name)) = !(i == 0 || decide ((l.getD (i - 1) default).f_Name < l[i].f_Name)) := by
        by_cases e : i = 0
        · subst e; simp
        · have hw' : (W ((i : Int) - 1)).toNat = i - 1 := by rw [W_in (by unfold inR; omega)]; omega
          rw [hw', decide_eq_true (by omega : (i : Int) > 0), show (i == 0) = false by simpa using e, Bool.true_and, Bool.false_or]
      rw [hc]
      have h60 : decide ((l[i].f_Name.length : Int) > 60) = !decide ((l[i].f_Name.length : Int) ≤ 60) := by rw [Bool.eq_iff_iff]; simp
      rw [h60, Wi (by omega)]
      cases l[i].f_Name == ([] : List UInt8) <;> cases decide ((l[i].f_Name.length : Int) ≤ 60) <;> cases (i == 0 || decide ((l.getD (i - 1) default).f_Name < l[i].f_Name)) <;> cases vW l[i].f_Words <;> rfl
    have hv : vI l (k + 1) i = (st l i && vI l k (i + 1)) := rfl
    unfold S_wordindex_valid_l1
    rw [hv]
    cases hs : st l i with
    | true =>
      rw [hs, if_pos rfl] at hst
      rw [loopM_inl hst, Bool.true_and]
      exact pi_loop hl ho k (i + 1) (by omega)
    | false =>
      rw [hs, if_neg (by simp)] at hst
      rw [Bool.false_and, Bool.false_and]
      exact loopM_out (x := some false) hst
theorem ri_loop {l : List En} (hl : l.length ≤ 4000000000000000) (ho : ∀ e ∈ l, OkE e) : ∀ (k i : Nat) (b : Bool), i + k = l.length →
    S_glossatorref3_ValidIndex_l1 none l b (i : Int) = some (b && vI l k i)
  | 0, i, b, h => by
    have hi : i = l.length := by omega
    subst hi
    unfold S_glossatorref3_ValidIndex_l1
    rw [show (b && vI l 0 l.length) = b from Bool.and_true _]
    refine loopM_out ?_
    unfold S_glossatorref3_ValidIndex_b1
    rw [if_neg (by simp)]
    rfl
  | k + 1, i, b, h => by
    have hi : i < l.length := by omega
    have hoi := ho _ (List.getElem_mem hi)
    unfold S_glossatorref3_ValidIndex_l1
    rw [show vI l (k + 1) i = (st l i && vI l k (i + 1)) from rfl, ← Bool.and_assoc, loopM_inl (s' := (b && st l i, ((i + 1 : Nat) : Int))) ?_]
    · exact ri_loop hl ho k (i + 1) _ (by omega)
    · unfold S_glossatorref3_ValidIndex_b1 st
      simp only [List.length_map, Int.toNat_natCast, getD_at hi]
      rw [if_pos (by simp; omega), if_pos (by omega), if_pos (by intro h2; simp only [Bool.and_eq_true, beq_iff_eq, beq_eq_false_iff_ne, ne_eq] at h2; rw [W_in (by unfold inR; omega)]; omega), bytesLess_eq, rvalidWords_eq hoi.w hoi.a]
      have hc : (((i : Int) == 0) || decide ((l.getD (W ((i : Int) - 1)).toNat default).f_Name < l[i].f_Name)) = (i == 0 || decide ((l.getD (i - 1) default).f_Name < l[i].f_Name)) := by
        by_cases e : i = 0
        · subst e; simp
        · have hw' : (W ((i : Int) - 1)).toNat = i - 1 := by rw [W_in (by unfold inR; omega)]; omega
          rw [hw', show (i == 0) = false by simpa using e, show ((i : Int) == 0) = false by simpa using e]
      rw [hc, Wi (by omega)]
      cases b <;> cases l[i].f_Name == ([] : List UInt8) <;> cases decide ((l[i].f_Name.length : Int) ≤ 60) <;> cases (i == 0 || decide ((l.getD (i - 1) default).f_Name < l[i].f_Name)) <;> cases vW l[i].f_Words <;> rfl
def vX (l : List En) : Bool := vI l l.length 0 && decide ((l.length : Int) ≤ 20)
theorem valid_eq {l : List En} (hl : l.length ≤ 4000000000000000) (ho : ∀ e ∈ l, OkE e) : S_wordindex_valid none l = some (vX l) := pi_loop hl ho l.length 0 (by omega)
theorem rvalid_eq {l : List En} (hl : l.length ≤ 4000000000000000) (ho : ∀ e ∈ l, OkE e) : S_glossatorref3_ValidIndex none l = some (vX l) := by
  unfold S_glossatorref3_ValidIndex
  simp only [List.length_map]
  refine (ri_loop hl ho l.length 0 _ (by omega)).trans ?_
  rw [Bool.and_comm]; rfl
end Go.Proofs.Yteepckliibfnkaa
