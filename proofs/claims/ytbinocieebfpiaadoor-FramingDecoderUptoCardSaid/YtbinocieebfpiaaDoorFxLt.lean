/-
  Own framework.
-/
import Derived.Test.YtbinocieebfpiaaDoorFxP
import Derived.Test.YtbinocieebfpiaaDoorFxN
namespace Go.Fx
set_option linter.unusedVariables false
theorem Wi {i : Nat} (h : i ≤ 4611686018427387904) : W ((i : Int) + 1) = ((i + 1 : Nat) : Int) := by rw [z7v (by unfold inR; omega)]; omega
def zh4 (x : List UInt8) (l : List (List UInt8)) : List (List UInt8) := l.takeWhile fun y => decide (y < x)
def zhh (x : List UInt8) (l : List (List UInt8)) : List (List UInt8) := l.dropWhile fun y => decide (y < x)
def zhg (l : List (List UInt8)) (x : List UInt8) : List (List UInt8) := match zhh x l with
 | [] => zh4 x l ++ [x]
 | y :: r => if y = x then l else zh4 x l ++ (x :: y :: r)
def zhk (l : List (List UInt8)) : List (List UInt8) := l.foldl zhg []
section
variable {κ ν : Type} [DecidableEq κ] {q : κ → κ → Bool}
end
end Go.Fx
