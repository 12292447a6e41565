/-
  Own framework.
-/
import Derived.Test.YteepckliibfnkaaGreatDoorFxL
namespace Go.Fx
universe u
theorem TT : True := True.intro
theorem AI {a b : Prop} (x : a) (y : b) : a ∧ b := ⟨x, y⟩
theorem VS {F : Id → Bool} {H : AHeap} {ρ : Id → Option Id} {n : Nat} {x : AVal} (h : x.nid = true) : Vw F H ρ n x x := .same x h
theorem NB {a b : Nat} (h : Nat.ble a b = true) : a ≤ b := Nat.le_of_ble_eq_true h
theorem EX {α : Sort u} {p : α → Prop} (w : α) (h : p w) : Exists p := ⟨w, h⟩
theorem S2 {F : Id → Bool} {H : AHeap} {ρ : Id → Option Id} {n : Nat} {a b : AVal} {R : Prop} (h1 : a.nid = true) (h2 : b.nid = true) (r : R) : Vw F H ρ n a a ∧ Vw F H ρ n b b ∧ R := ⟨VS h1, VS h2, r⟩
theorem S4 {F : Id → Bool} {H : AHeap} {ρ : Id → Option Id} {n : Nat} {a b c d : AVal} {R : Prop} (h1 : a.nid = true) (h2 : b.nid = true) (h3 : c.nid = true) (h4 : d.nid = true) (r : R) : Vw F H ρ n a a ∧ Vw F H ρ n b b ∧ Vw F H ρ n c c ∧ Vw F H ρ n d d ∧ R := ⟨VS h1, VS h2, VS h3, VS h4, r⟩
end Go.Fx
