/-
  Own framework.
-/
import Derived.Test.YtkpgfihopaokgaaGreatDoorFxS
import Derived.Test.YtkpgfihopaokgaaGreatDoorFxN
namespace Go.Fx
set_option linter.unusedVariables false
def inR (x : Int) : Prop := -9223372036854775808 ≤ x ∧ x ≤ 9223372036854775807
theorem zoa {x : Int} (h : inR x) : W x = x := Wd h.1 h.2
theorem z6c {σ ρ : Type} (b : σ → Option (σ ⊕ ρ)) (s : σ) : vr none b s = match b s with
 | none => none
 | some (.inl s') => vr none b s'
 | some (.inr r) => some r := zft b s
theorem ja {σ ρ : Type} {b : σ → Option (σ ⊕ ρ)} {s s' : σ} (h : b s = some (.inl s')) : vr none b s = vr none b s' := by rw [z6c, h]
theorem x7 {σ ρ : Type} {b : σ → Option (σ ⊕ ρ)} {s : σ} {x : Option ρ} (h : b s = x.map .inr) : vr none b s = x := by rw [z6c, h]; cases x <;> rfl
theorem Wi {i : Nat} (h : i ≤ 4611686018427387904) : W ((i : Int) + 1) = ((i + 1 : Nat) : Int) := by rw [zoa (by unfold inR; omega)]; omega
theorem wm {α : Type} [Inhabited α] {l : List α} {i : Nat} (h : i < l.length) : l.getD i default = l[i] := by
 simp [List.getD_eq_getElem?_getD, h]
def zpa (x : List UInt8) (l : List (List UInt8)) : List (List UInt8) := l.takeWhile fun y => decide (y < x)
def zq4 (x : List UInt8) (l : List (List UInt8)) : List (List UInt8) := l.dropWhile fun y => decide (y < x)
def zq1 (l : List (List UInt8)) (x : List UInt8) : List (List UInt8) := match zq4 x l with
 | [] => zpa x l ++ [x]
 | y :: r => if y = x then l else zpa x l ++ (x :: y :: r)
def zpr (l : List (List UInt8)) : List (List UInt8) := l.foldl zq1 []
section
variable {κ ν : Type} [DecidableEq κ] {q : κ → κ → Bool}
end
end Go.Fx
