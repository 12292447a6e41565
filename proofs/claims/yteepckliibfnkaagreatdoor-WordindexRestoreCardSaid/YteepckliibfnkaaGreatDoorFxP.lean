/-
  Own framework.
-/
import Derived.Test.YteepckliibfnkaaGreatDoorFxS
namespace Go.Fx
set_option linter.unusedVariables false
def inR (x : Int) : Prop := -9223372036854775808 ≤ x ∧ x ≤ 9223372036854775807
theorem zr5 {x : Int} (h : inR x) : W x = x := z2z h.1 h.2
theorem z13 (k : IntKind) (hk : k.signed = false) (z : Int) : k.wrap z = z % (2 ^ k.bits : Int) := by
 cases k <;> first | (cases hk; done) | (unfold IntKind.wrap; simp [IntKind.signed, IntKind.bits])
theorem z7m (k : IntKind) (hk : k.signed = false) {a b : Nat} (ha : a < 2 ^ k.bits) (hb : b < 2 ^ k.bits) : Zb .xor k (a : Int) (b : Int) = ((a ^^^ b : Nat) : Int) := by
 show k.wrap (((BitVec.ofInt k.bits (a : Int)) ^^^ (BitVec.ofInt k.bits (b : Int))).toNat : Int) = _
 rw [BitVec.toNat_xor, BitVec.ofInt_natCast, BitVec.ofInt_natCast, BitVec.toNat_ofNat, BitVec.toNat_ofNat, Nat.mod_eq_of_lt ha, Nat.mod_eq_of_lt hb, z13 k hk]
 have h := Nat.xor_lt_two_pow ha hb
 rw [show ((2 : Int) ^ k.bits) = ((2 ^ k.bits : Nat) : Int) by simp, ← Int.natCast_emod, Nat.mod_eq_of_lt h]
theorem zcg {σ ρ : Type} (b : σ → Option (σ ⊕ ρ)) (s : σ) : u4 none b s = match b s with
 | none => none
 | some (.inl s') => u4 none b s'
 | some (.inr r) => some r := zot b s
theorem zx {σ ρ : Type} {b : σ → Option (σ ⊕ ρ)} {s s' : σ} (h : b s = some (.inl s')) : u4 none b s = u4 none b s' := by rw [zcg, h]
theorem zr {σ ρ : Type} {b : σ → Option (σ ⊕ ρ)} {s : σ} {x : Option ρ} (h : b s = x.map .inr) : u4 none b s = x := by rw [zcg, h]; cases x <;> rfl
end Go.Fx
