/-
  DepgraphReachability answers true; no condition.
-/
import Derived.Test.YtejfgjggcoemeaaLc
namespace Go.Proofs.Ytejfgjggcoemeaa
open Go.Fx Go.Sort
set_option linter.unusedVariables false
def z03 (e : G_QEdge) : G_QEdge := ⟨e.f_To, e.f_From⟩
theorem z4q {es : List G_QEdge} (hl : es.length ≤ 400) : ∀ (n i : Nat) (o : List G_QEdge), i + n = es.length → o.length ≤ i → ql none es o (i : Int) = some (o ++ (es.drop i).map z03)
 | 0, i, o, h, ho => by
  have : i = es.length := by omega
  subst this
  unfold ql
  rw [x5 (x := some o), List.drop_length, List.map_nil, List.append_nil]
  unfold yu x3
  rw [if_neg (by simp)]
 | n + 1, i, o, h, ho => by
  have hi : i < es.length := by omega
  have ih := z4q hl n (i + 1) (o ++ [z03 es[i]]) (by omega) (by simp; omega)
  rw [List.drop_eq_getElem_cons hi, List.map_cons]
  unfold ql at ih ⊢
  rw [x6 (s' := (o ++ [z03 es[i]], ((i + 1 : Nat) : Int)))]
  ·rw [ih, List.append_assoc]; rfl
  ·unfold yu
   simp only [Int.toNat_natCast, w5 hi, Z9]
   rw [if_pos (by simpa using hi), if_pos (by simp; omega), if_pos (by simp; omega), Wi (by omega)]
   rfl
theorem z5r {es : List G_QEdge} (hl : es.length ≤ 400) : qi none es = some (es.map z03) := by
 have := z4q hl es.length 0 [] (by omega) (by simp)
 unfold qi
 simpa using this
theorem z3y {es : List G_QEdge} (a b : K) : adj false (es.map z03) a b ↔ adj true es a b := by
 unfold adj
 constructor
 ·rintro ⟨e, he, h1, h2⟩
  obtain ⟨e', he', rfl⟩ := List.mem_map.1 he
  exact ⟨e', he', h1, h2⟩
 ·rintro ⟨e, he, h1, h2⟩
  exact ⟨z03 e, List.mem_map.2 ⟨e, he, rfl⟩, h1, h2⟩
theorem z1t {es : List G_QEdge} {k : K} {l : List K} (h : IsReach false (es.map z03) k l) : IsReach true es k l :=
 ⟨h.1, fun x => (h.2 x).trans ⟨fun h => h.mono fun a b => (z3y a b).1, fun h => h.mono fun a b => (z3y a b).2⟩⟩
theorem zf9 (c n : Nat) : (if (c : Int) < (n : Int) then (c : Int) else (n : Int)) = ((min c n : Nat) : Int) := by split <;> omega
theorem zjs {a0 : List G_QEdge} {a1 : K} : zq none a0 a1 = some true := by
 obtain ⟨es, hes⟩ : ∃ es, es = a0.take (min 30 a0.length) := ⟨_, rfl⟩
 have hl : es.length ≤ 30 := by rw [hes, List.length_take]; omega
 obtain ⟨l1, h1, h2⟩ := Zr (es := es) (by omega) a1
 obtain ⟨l2, h3, h4⟩ := Q1 (es := es) (by omega) a1
 obtain ⟨m1, g1, g2⟩ := V4 (es := es) (by omega) a1
 obtain ⟨m2, g3, g4⟩ := V4 (es := es.map z03) (by rw [List.length_map]; omega) a1
 obtain rfl := h2.unique g2
 obtain rfl := h4.unique (z1t g4)
 have k1 := W2 h2
 have k2 := W2 h4
 have ec : (if (30 : Int) < (a0.length : Int) then (30 : Int) else (a0.length : Int)) = ((min 30 a0.length : Nat) : Int) := zf9 30 _
 unfold zq
 rw [z5q]
 simp only [Option.bind_some, List.length_map, ec, Int.toNat_natCast, ← hes, h1, h3, g1, z5r (show es.length ≤ 400 by omega)]
 rw [if_neg (by decide), if_pos (by omega)]
 simp only [beq_self_eq_true, if_true, Option.bind_some, Bool.true_and, g3, J2 (show l1.length ≤ 1000000 by omega), J2 (show l2.length ≤ 1000000 by omega)]
end Go.Proofs.Ytejfgjggcoemeaa
