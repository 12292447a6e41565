/-
  Own framework.
-/
import Derived.Test.YtlenhplodggefaaFxS
namespace Go.Fx
set_option linter.unusedVariables false
def inR (x : Int) : Prop := -9223372036854775808 ≤ x ∧ x ≤ 9223372036854775807
theorem W_in {x : Int} (h : inR x) : W x = x := wrap_i64 h.1 h.2
theorem W_eq (z : Int) : W z = Int.bmod z 18446744073709551616 := by
  show (if (true && decide (z % 18446744073709551616 ≥ 9223372036854775808)) = true then z % 18446744073709551616 - 18446744073709551616 else z % 18446744073709551616) = _
  unfold Int.bmod
  by_cases h : z % 18446744073709551616 ≥ 9223372036854775808
  · rw [if_pos (by simpa using h)]; simp only; split <;> omega
  · rw [if_neg (by simpa using h)]; simp only; split <;> omega
theorem inR_W (z : Int) : inR (W z) := by
  show inR (if (true && decide (z % 18446744073709551616 ≥ 9223372036854775808)) = true then z % 18446744073709551616 - 18446744073709551616 else z % 18446744073709551616)
  unfold inR
  by_cases h : z % 18446744073709551616 ≥ 9223372036854775808
  · rw [if_pos (by simpa using h)]; omega
  · rw [if_neg (by simpa using h)]; omega
theorem W_add (a b : Int) : W (W a + b) = W (a + b) := by simp only [W_eq, Int.bmod_add_bmod]
theorem W_add' (a b : Int) : W (a + W b) = W (a + b) := by simp only [W_eq, Int.add_bmod_bmod]
theorem W_sub (a b : Int) : W (W a - b) = W (a - b) := by simp only [W_eq, Int.bmod_sub_bmod]
theorem W_sub' (a b : Int) : W (a - W b) = W (a - b) := by simp only [W_eq, Int.sub_bmod_bmod]
theorem W_W (a : Int) : W (W a) = W a := by have := W_add a 0; simpa using this
theorem wrapU (k : IntKind) (hk : k.signed = false) (z : Int) : k.wrap z = z % (2 ^ k.bits : Int) := by
  cases k <;> first | (cases hk; done) | (unfold IntKind.wrap; simp [IntKind.signed, IntKind.bits])

theorem ibits_xor (k : IntKind) (hk : k.signed = false) {a b : Nat} (ha : a < 2 ^ k.bits) (hb : b < 2 ^ k.bits) : ibits .xor k (a : Int) (b : Int) = ((a ^^^ b : Nat) : Int) := by
  show k.wrap (((BitVec.ofInt k.bits (a : Int)) ^^^ (BitVec.ofInt k.bits (b : Int))).toNat : Int) = _
  rw [BitVec.toNat_xor, BitVec.ofInt_natCast, BitVec.ofInt_natCast, BitVec.toNat_ofNat, BitVec.toNat_ofNat, Nat.mod_eq_of_lt ha, Nat.mod_eq_of_lt hb, wrapU k hk]
  have h := Nat.xor_lt_two_pow ha hb
  rw [show ((2 : Int) ^ k.bits) = ((2 ^ k.bits : Nat) : Int) by simp, ← Int.natCast_emod, Nat.mod_eq_of_lt h]
theorem loopM_eq {σ ρ : Type} (b : σ → Option (σ ⊕ ρ)) (s : σ) : loopM none b s = match b s with
    | none => none
    | some (.inl s') => loopM none b s'
    | some (.inr r) => some r := loopO_eq b s
theorem loopM_inl {σ ρ : Type} {b : σ → Option (σ ⊕ ρ)} {s s' : σ} (h : b s = some (.inl s')) : loopM none b s = loopM none b s' := by rw [loopM_eq, h]
theorem loopM_out {σ ρ : Type} {b : σ → Option (σ ⊕ ρ)} {s : σ} {x : Option ρ} (h : b s = x.map .inr) : loopM none b s = x := by rw [loopM_eq, h]; cases x <;> rfl
theorem loop_fold {α τ ρ : Type} [Inhabited α] (f : τ → α → τ) (K : τ → Option ρ) (l : List α) (b : τ × Int → Option ((τ × Int) ⊕ ρ))
    (h1 : ∀ (v : τ) (i : Nat), i < l.length → b (v, (i : Int)) = some (.inl (f v (l.getD i default), ((i + 1 : Nat) : Int)))) (h2 : ∀ v, b (v, (l.length : Int)) = (K v).map .inr) :
    ∀ (k i : Nat) (v : τ), i + k = l.length → loopM none b (v, (i : Int)) = K ((l.drop i).foldl f v)
  | 0, i, v, h => by
    have : i = l.length := by omega
    subst this
    rw [loopM_out (h2 v)]
    simp
  | k + 1, i, v, h => by
    rw [loopM_inl (h1 v i (by omega)), loop_fold f K l b h1 h2 k (i + 1) _ (by omega)]
    have hi : i < l.length := by omega
    rw [List.drop_eq_getElem_cons hi, List.foldl_cons]
    simp [List.getD_eq_getElem?_getD, hi]
end Go.Fx
