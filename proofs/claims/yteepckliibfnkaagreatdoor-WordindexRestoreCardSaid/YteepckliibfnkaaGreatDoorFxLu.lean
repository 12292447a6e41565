/-
  Own framework.
-/
import Derived.Test.YteepckliibfnkaaGreatDoorFxSs
import Derived.Test.YteepckliibfnkaaGreatDoorFxLs
namespace Go.Fx
open Go.Lib Go.Sort
set_option linter.unusedVariables false
theorem z9j {l : List (List UInt8)} {x : List UInt8} (h : l.Pairwise (· ≤ ·)) : x ∈ Lib.compact l ↔ x ∈ l := by
 unfold Lib.compact compactUpTo
 simp only [List.mem_map, List.mem_filter, List.mem_range]
 constructor
 ·rintro ⟨j, ⟨hj, _⟩, rfl⟩
  rw [getElem!_pos _ j (by simpa using hj), List.getElem_toArray]
  exact List.getElem_mem _
 ·intro hx
  obtain ⟨i, hi, rfl⟩ := List.getElem_of_mem hx
  -- the first place that holds it
  have key : ∀ (k : Nat) (hk : k < l.length), l[k] = l[i] → ∃ j, j < l.length ∧ keeps l.toArray j = true ∧ l.toArray[j]! = l[i] := by
   intro k
   induction k with
   | zero =>
    intro hk he
    exact ⟨0, hk, by simp [keeps], by rw [getElem!_pos _ 0 (by simpa using hk), List.getElem_toArray]; exact he⟩
   | succ k ih =>
    intro hk he
    by_cases hp : l[k]'(by omega) = l[i]
    ·exact ih (by omega) hp
    ·refine ⟨k + 1, hk, ?_, by rw [getElem!_pos _ (k + 1) (by simpa using hk), List.getElem_toArray]; exact he⟩
     unfold keeps
     rw [decide_eq_true_eq]
     right
     rw [getElem!_pos _ (k + 1) (by simpa using hk), getElem!_pos _ (k + 1 - 1) (by simp; omega), List.getElem_toArray, List.getElem_toArray]
     simp only [Nat.add_sub_cancel]
     rw [he]
     exact fun e => hp e.symm
  obtain ⟨j, h1, h2, h3⟩ := key i hi rfl
  exact ⟨j, ⟨h1, h2⟩, h3⟩
theorem z96 {l : List (List UInt8)} (h : l.Pairwise (· ≤ ·)) : (Lib.compact l).Pairwise (· < ·) := by
 unfold Lib.compact compactUpTo
 rw [List.pairwise_map, List.pairwise_filter]
 have hr : (List.range l.length).Pairwise (· < ·) := List.pairwise_lt_range
 rw [List.pairwise_iff_getElem] at h
 refine List.Pairwise.imp_of_mem ?_ hr
 intro i j hi hj hij _ hk
 rw [List.mem_range] at hi hj
 rw [getElem!_pos _ i (by simpa using hi), getElem!_pos _ j (by simpa using hj), List.getElem_toArray, List.getElem_toArray]
 unfold keeps at hk
 rw [decide_eq_true_eq] at hk
 rcases hk with hk | hk
 ·omega
 ·rw [getElem!_pos _ j (by simpa using hj), getElem!_pos _ (j - 1) (by simp; omega), List.getElem_toArray, List.getElem_toArray] at hk
  have h1 : l[i] ≤ l[j - 1]'(by omega) := by
   by_cases e : i = j - 1
   ·subst e; exact List.le_refl _
   ·exact h i (j - 1) hi (by omega) (by omega)
  have h2 : l[j - 1]'(by omega) ≤ l[j] := h (j - 1) j (by omega) hj (by omega)
  have h3 : l[j - 1]'(by omega) < l[j] := List.not_le.1 fun h4 => hk (List.le_antisymm h4 h2)
  exact List.lt_of_le_of_lt h1 h3
theorem Xg (l : List (List UInt8)) : Lib.compact (Jw l) = Jy l :=
 z8c (z96 (z0k l)) (Qv l) fun x => by rw [z9j (z0k l), (Qy l).mem_iff, sortS_mem]
end Go.Fx
