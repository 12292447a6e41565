/-
  Own framework.
-/
import Derived.Test.YteepckliibfnkaaGreatDoorFxP
import Derived.Test.YteepckliibfnkaaGreatDoorFxLt
import Derived.Test.YteepckliibfnkaaGreatDoorFxSo
import Derived.Lib.Bytealg
import Derived.Sort.Walk0
namespace Go.Fx
open Go.Sort Go.Proofs
set_option linter.unusedVariables false
theorem z7x : ∀ (a b : List UInt8), Go.Lib.compareBytes a b < 0 ↔ a < b
 | [], [] => by simp [Go.Lib.compareBytes]
 | [], _ :: _ => by simp [Go.Lib.compareBytes]
 | _ :: _, [] => by simp [Go.Lib.compareBytes]
 | a :: s, b :: t => by
  have ih := z7x s t
  unfold Go.Lib.compareBytes
  rw [List.cons_lt_cons_iff]
  by_cases h1 : a < b
  ·simp [h1]
  ·by_cases h2 : b < a
   ·have : a ≠ b := fun e => by subst e; exact h1 h2
    simp [h1, h2, this]
   ·have : a = b := UInt8.le_antisymm (UInt8.not_lt.1 h2) (UInt8.not_lt.1 h1)
    subst this
    simp [h1, ih]
theorem Je {α : Type} (f : α → List UInt8) {cf : α → α → Int} (h : ∀ x y, cf x y = Go.Lib.compareBytes (f x) (f y)) (x y : α) : ltOf cf x y = decide (f x < f y) := by
 unfold ltOf
 rw [h]
 by_cases h1 : f x < f y
 ·rw [decide_eq_true h1, decide_eq_true ((z7x _ _).2 h1)]
 ·rw [decide_eq_false h1, decide_eq_false (fun h2 => h1 ((z7x _ _).1 h2))]
theorem z8a {α : Type} (f : α → List UInt8) {cf : α → α → Int} (h : ∀ x y, cf x y = Go.Lib.compareBytes (f x) (f y)) : SWO (ltOf cf) where
 irrefl x := by rw [Je f h]; simp [List.lt_irrefl]
 trans x y z h1 h2 := by rw [Je f h] at *; simp only [decide_eq_true_eq] at *; exact List.lt_trans h1 h2
 ntrans x y z h1 h2 := by
  rw [Je f h] at *
  simp only [decide_eq_false_iff_not, List.not_lt] at *
  exact List.le_trans h2 h1
theorem Uw {α : Type} {f : α → List UInt8} {l l' : List α} (hp : l.Perm l') (h : l.Pairwise fun x y => ¬ f y < f x) (h' : l'.Pairwise fun x y => f x < f y) : l = l' := by
 have hk : ∀ x y, x ∈ l' → y ∈ l' → f x = f y → x = y := by
  intro x y hx hy e
  obtain ⟨i, hi, rfl⟩ := List.getElem_of_mem hx
  obtain ⟨j, hj, rfl⟩ := List.getElem_of_mem hy
  rw [List.pairwise_iff_getElem] at h'
  rcases Nat.lt_trichotomy i j with q | q | q
  ·have := h' i j hi hj q; rw [e] at this; exact absurd this (List.lt_irrefl _)
  ·subst q; rfl
  ·have := h' j i hj hi q; rw [e] at this; exact absurd this (List.lt_irrefl _)
 refine List.Perm.eq_of_pairwise (le := fun x y => ¬ f y < f x) (fun a b ha hb h1 h2 => ?_) h (h'.imp fun h1 h2 => List.lt_irrefl _ (List.lt_trans h1 h2)) hp
 exact hk a b (hp.mem_iff.1 ha) hb (List.le_antisymm (List.not_lt.1 h1) (List.not_lt.1 h2))
theorem z7o {α : Type} {f : α → List UInt8} {l : List α} (h : l.Pairwise fun x y => f x < f y) : l.Nodup := h.imp fun h1 e => by subst e; exact List.lt_irrefl _ h1
end Go.Fx
