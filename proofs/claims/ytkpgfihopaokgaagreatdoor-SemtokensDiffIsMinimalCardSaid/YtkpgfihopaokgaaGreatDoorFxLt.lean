/-
  Own framework.
-/
import Derived.Test.YtkpgfihopaokgaaGreatDoorFxS
import Derived.Test.YtkpgfihopaokgaaGreatDoorFxN
namespace Go.Fx
set_option linter.unusedVariables false
def inR (x : Int) : Prop := -9223372036854775808 ≤ x ∧ x ≤ 9223372036854775807
theorem zet {x : Int} (h : inR x) : W x = x := Qb h.1 h.2
theorem Wv {σ ρ : Type} (b : σ → Option (σ ⊕ ρ)) (s : σ) : Yy none b s = match b s with
 | none => none
 | some (.inl s') => Yy none b s'
 | some (.inr r) => some r := z7o b s
theorem z5c {σ ρ : Type} {b : σ → Option (σ ⊕ ρ)} {s s' : σ} (h : b s = some (.inl s')) : Yy none b s = Yy none b s' := by rw [Wv, h]
theorem z41 {σ ρ : Type} {b : σ → Option (σ ⊕ ρ)} {s : σ} {x : Option ρ} (h : b s = x.map .inr) : Yy none b s = x := by rw [Wv, h]; cases x <;> rfl
theorem Wi {i : Nat} (h : i ≤ 4611686018427387904) : W ((i : Int) + 1) = ((i + 1 : Nat) : Int) := by rw [zet (by unfold inR; omega)]; omega
theorem z0k {α : Type} [Inhabited α] {l : List α} {i : Nat} (h : i < l.length) : l.getD i default = l[i] := by
 simp [List.getD_eq_getElem?_getD, h]
def zez (x : List UInt8) (l : List (List UInt8)) : List (List UInt8) := l.takeWhile fun y => decide (y < x)
def zfu (x : List UInt8) (l : List (List UInt8)) : List (List UInt8) := l.dropWhile fun y => decide (y < x)
def zfl (l : List (List UInt8)) (x : List UInt8) : List (List UInt8) := match zfu x l with
 | [] => zez x l ++ [x]
 | y :: r => if y = x then l else zez x l ++ (x :: y :: r)
def zfx (l : List (List UInt8)) : List (List UInt8) := l.foldl zfl []
section
variable {κ ν : Type} [DecidableEq κ] {q : κ → κ → Bool}
end
end Go.Fx
