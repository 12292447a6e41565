/-
  Own text Law6 of this claim.
-/
import Derived.Test.YtjcckmpeflflbaaLaw5
namespace Go.Proofs.Ytjcckmpeflflbaa
open Go.Fx
set_option linter.unusedVariables false
theorem pow_in {k : Nat} (h : k < 20) : (2 : Nat) ^ k < 1048576 := Nat.pow_lt_pow_right (by decide) h
theorem shr_bit {x e : Int} (hx : rng x) (h0 : 0 ≤ e) (h1 : e < 20) : (ibits .and .i64 (x.fdiv (2 ^ (min e.toNat (IntKind.bits .i64)))) 1 == 1) = tb x e.toNat := by
  obtain ⟨k, rfl⟩ := Int.eq_ofNat_of_zero_le h0
  obtain ⟨m, rfl⟩ := Int.eq_ofNat_of_zero_le hx.1
  have hk : min ((k : Int).toNat) (IntKind.bits .i64) = k := by
    rw [Int.toNat_natCast]
    exact Nat.min_eq_left (by show k ≤ 64; omega)
  rw [hk, Int.toNat_natCast]
  have hd : ((m : Int)).fdiv (2 ^ k) = ((m / 2 ^ k : Nat) : Int) := by
    rw [show ((2 : Int) ^ k) = ((2 ^ k : Nat) : Int) by simp, Int.fdiv_eq_ediv_of_nonneg _ (Int.natCast_nonneg _)]
    exact Int.natCast_ediv m (2 ^ k)
  have hm : m / 2 ^ k ≤ m := Nat.div_le_self m (2 ^ k)
  unfold rng at hx
  have hr : rng ((m / 2 ^ k : Nat) : Int) := by
    generalize m / 2 ^ k = q at hm ⊢
    unfold rng; omega
  rw [hd, ibits_and hr (by unfold rng; omega)]
  unfold band tb
  rw [Int.toNat_natCast, Int.toNat_natCast, Nat.testBit, Nat.shiftRight_eq_div_pow]
  have h2 : (m / 2 ^ k) &&& (1 : Int).toNat = (m / 2 ^ k) % 2 := Nat.and_one_is_mod _
  rw [h2, Nat.and_comm, Nat.and_one_is_mod]
  have := Nat.mod_two_eq_zero_or_one (m / 2 ^ k)
  rcases this with h | h <;> rw [h] <;> rfl
theorem and_bit {x e : Int} (hx : rng x) (h0 : 0 ≤ e) (h1 : e < 20) : (ibits .and .i64 x (W (1 * 2 ^ (min e.toNat (IntKind.bits .i64)))) == 0) = !tb x e.toNat := by
  obtain ⟨k, rfl⟩ := Int.eq_ofNat_of_zero_le h0
  obtain ⟨m, rfl⟩ := Int.eq_ofNat_of_zero_le hx.1
  have hk : min ((k : Int).toNat) (IntKind.bits .i64) = k := by
    rw [Int.toNat_natCast]
    exact Nat.min_eq_left (by show k ≤ 64; omega)
  have hp := pow_in (k := k) (by omega)
  have hr1 : inR ((2 ^ k : Nat) : Int) := by
    generalize 2 ^ k = q at hp ⊢
    unfold inR; omega
  have hr2 : rng ((2 ^ k : Nat) : Int) := by
    generalize 2 ^ k = q at hp ⊢
    unfold rng; omega
  rw [hk, Int.toNat_natCast, Int.one_mul, show ((2 : Int) ^ k) = ((2 ^ k : Nat) : Int) by simp, W_in hr1, ibits_and hx hr2]
  unfold band tb
  rw [Int.toNat_natCast, Int.toNat_natCast]
  cases hb : m.testBit k
  · have : m &&& 2 ^ k = 0 := Nat.eq_of_testBit_eq fun t => by
      rw [Nat.testBit_and, Nat.testBit_two_pow, Nat.zero_testBit]
      by_cases e : k = t
      · subst e; simp [hb]
      · simp [e]
    rw [this]; rfl
  · have : m &&& 2 ^ k ≠ 0 := fun h => by
      have := congrArg (fun z => z.testBit k) h
      simp [Nat.testBit_and, Nat.testBit_two_pow, hb] at this
    have h' : ((m &&& 2 ^ k : Nat) : Int) ≠ 0 := by omega
    exact beq_eq_false_iff_ne.2 h'
end Go.Proofs.Ytjcckmpeflflbaa
