/-
  Own framework, part R: 64-bit sums.
-/
import Derived.Test.YtbpbdpeccjoobaaFwQ
namespace Go.Fw
abbrev W (n : Int) : Int := IntKind.wrap .i64 n
def inR (x : Int) : Prop := -9223372036854775808 ≤ x ∧ x ≤ 9223372036854775807
theorem W_in {x : Int} (h : inR x) : W x = x := wrap_i64 h.1 h.2
theorem W_eq (z : Int) : W z = Int.bmod z 18446744073709551616 := by
  show (if (true && decide (z % 18446744073709551616 ≥ 9223372036854775808)) = true then z % 18446744073709551616 - 18446744073709551616 else z % 18446744073709551616) = _
  unfold Int.bmod
  by_cases h : z % 18446744073709551616 ≥ 9223372036854775808
  · rw [if_pos (by simpa using h)]; simp only; split <;> omega
  · rw [if_neg (by simpa using h)]; simp only; split <;> omega
theorem inR_W (z : Int) : inR (W z) := by
  show inR (if (true && decide (z % 18446744073709551616 ≥ 9223372036854775808)) = true then z % 18446744073709551616 - 18446744073709551616 else z % 18446744073709551616)
  unfold inR
  by_cases h : z % 18446744073709551616 ≥ 9223372036854775808
  · rw [if_pos (by simpa using h)]; omega
  · rw [if_neg (by simpa using h)]; omega
theorem W_add (a b : Int) : W (W a + b) = W (a + b) := by simp only [W_eq, Int.bmod_add_bmod]
theorem W_add' (a b : Int) : W (a + W b) = W (a + b) := by simp only [W_eq, Int.add_bmod_bmod]
theorem W_sub (a b : Int) : W (W a - b) = W (a - b) := by simp only [W_eq, Int.bmod_sub_bmod]
theorem W_sub' (a b : Int) : W (a - W b) = W (a - b) := by simp only [W_eq, Int.sub_bmod_bmod]
theorem W_W (a : Int) : W (W a) = W a := by have := W_add a 0; simpa using this
end Go.Fw
