/-
  Own framework.
-/
import Derived.Test.YtlfdchgaeeadjaaDoorFxL
namespace Go.Fx
universe u
theorem TT : True := True.intro
theorem AI {a b : Prop} (x : a) (y : b) : a ∧ b := ⟨x, y⟩
theorem VS {F : Id → Bool} {H : AHeap} {ρ : Id → Option Id} {n : Nat} {x : AVal} (h : x.nid = true) : Vw F H ρ n x x := .same x h
theorem NB {a b : Nat} (h : Nat.ble a b = true) : a ≤ b := Nat.le_of_ble_eq_true h
theorem EX {α : Sort u} {p : α → Prop} (w : α) (h : p w) : Exists p := ⟨w, h⟩
end Go.Fx
