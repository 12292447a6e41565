/-
  Own text Law3 of this claim: what functions of the given program compute, in plain Lean, and the proof; no condition.
-/
import Derived.Test.YtobkgelkaljjeaaLaw2
namespace Go.Proofs.Ytobkgelkaljjeaa
open Go.Fx
set_option linter.unusedVariables false
def Sat {α : Type} (b : Prop) (a : Option α) (v : α) : Prop := a = some v ∨ (¬ b ∧ a = none)
theorem mid_eq {i j : Nat} (h : i + j ≤ 1000000) : W ((IntKind.wrap .u64 (W ((i : Int) + (j : Int)))).fdiv (2 ^ (min (1 : Int).toNat (IntKind.bits .u64)))) = (((i + j) / 2 : Nat) : Int) := by
  have e : IntKind.wrap .u64 ((i : Int) + (j : Int)) = (i : Int) + (j : Int) := by
    simp only [IntKind.wrap, IntKind.bits, IntKind.signed]
    simp
    omega
  have e2 : ((2 : Int) ^ (min (1 : Int).toNat (IntKind.bits .u64))) = 2 := by decide
  rw [show W ((i : Int) + (j : Int)) = (i : Int) + (j : Int) from Wz (by omega), e, e2, Int.fdiv_eq_ediv_of_nonneg _ (by decide), Wz (by omega)]
  omega
theorem gx {X Z : List Int} {x : Int} : (X ++ x :: Z).getD X.length default = x := by simp [List.getD_eq_getElem?_getD]
theorem gx' {X Z : List Int} {x : Int} {k : Nat} (h : k = X.length) : (X ++ x :: Z).getD k default = x := by subst h; exact gx
theorem set2 (X Y Z : List Int) (x y : Int) : ((X ++ x :: (Y ++ y :: Z)).set X.length y).set (X.length + 1 + Y.length) x = X ++ y :: (Y ++ x :: Z) := by
  rw [List.set_append_right _ _ (Nat.le_refl _), Nat.sub_self, List.set_cons_zero, List.set_append_right _ _ (by omega), show X.length + 1 + Y.length - X.length = Y.length + 1 by omega, List.set_cons_succ, List.set_append_right _ _ (Nat.le_refl _), Nat.sub_self, List.set_cons_zero]
theorem set2' (X Y Z : List Int) (x y : Int) : ((X ++ x :: (Y ++ y :: Z)).set (X.length + 1 + Y.length) x).set X.length y = X ++ y :: (Y ++ x :: Z) := by
  rw [List.set_comm _ _ (by omega), set2]
section
variable {σ : Type} {g0 : σ → (Int × Int) → Option (Int × σ)} {z : σ}
theorem swr_loop {a b n : Nat} (M S : List Int) (hs : a + b + n ≤ 1000000) : ∀ (U V P T : List Int) (i : Nat), U.length = V.length → i + U.length = n → a + i = P.length → b + i = P.length + U.length + M.length + T.length →
    S_slices_swapRangeCmpFunc_int_l1 g0 none (a : Int) (b : Int) (n : Int) z (P ++ (U ++ (M ++ (T ++ (V ++ S))))) (i : Int) = some (P ++ (V ++ (M ++ (T ++ (U ++ S)))), z)
  | [], V, P, T, i, hl, hn, ha, hb => by
    have hV : V = [] := List.eq_nil_of_length_eq_zero (by simpa using hl.symm)
    subst hV
    unfold S_slices_swapRangeCmpFunc_int_l1
    refine loopM_out (x := some _) ?_
    unfold S_slices_swapRangeCmpFunc_int_b1
    rw [if_neg (by simp at hn; simp; omega)]
  | u :: U, [], P, T, i, hl, _, _, _ => by simp at hl
  | u :: U, v :: V, P, T, i, hl, hn, ha, hb => by
    simp only [List.length_cons] at hl hn hb
    have ih := swr_loop (a := a) (b := b) (n := n) M S hs U V (P ++ [v]) (T ++ [u]) (i + 1) (by omega) (by omega) (by simp; omega) (by simp; omega)
    have e1 : P ++ (u :: U ++ (M ++ (T ++ (v :: V ++ S)))) = P ++ u :: ((U ++ (M ++ T)) ++ v :: (V ++ S)) := by simp
    have hlen : (P ++ u :: ((U ++ (M ++ T)) ++ v :: (V ++ S))).length = P.length + 1 + U.length + M.length + T.length + 1 + V.length + S.length := by simp; omega
    have r1 : (P ++ u :: ((U ++ (M ++ T)) ++ v :: (V ++ S))).getD (a + i) default = u := gx' ha
    have r2 : (P ++ u :: ((U ++ (M ++ T)) ++ v :: (V ++ S))).getD (b + i) default = v := by
      rw [show P ++ u :: ((U ++ (M ++ T)) ++ v :: (V ++ S)) = (P ++ u :: (U ++ (M ++ T))) ++ v :: (V ++ S) by simp]
      exact gx' (by simp; omega)
    have r3 : ((P ++ u :: ((U ++ (M ++ T)) ++ v :: (V ++ S))).set (a + i) v).set (b + i) u = P ++ v :: ((U ++ (M ++ T)) ++ u :: (V ++ S)) := by
      have := set2 P (U ++ (M ++ T)) (V ++ S) u v
      rw [ha, show b + i = P.length + 1 + (U ++ (M ++ T)).length by simp; omega]
      exact this
    rw [e1]
    unfold S_slices_swapRangeCmpFunc_int_l1
    rw [loopM_inl (s' := (P ++ v :: ((U ++ (M ++ T)) ++ u :: (V ++ S)), ((i + 1 : Nat) : Int))) ?_]
    · rw [show P ++ v :: ((U ++ (M ++ T)) ++ u :: (V ++ S)) = (P ++ [v]) ++ (U ++ (M ++ ((T ++ [u]) ++ (V ++ S)))) by simp]
      refine ih.trans ?_
      simp
    · unfold S_slices_swapRangeCmpFunc_int_b1
      have w1 : W ((a : Int) + (i : Int)) = ((a + i : Nat) : Int) := by rw [Wz (by omega)]; omega
      have w2 : W ((b : Int) + (i : Int)) = ((b + i : Nat) : Int) := by rw [Wz (by omega)]; omega
      simp only [w1, w2, Int.toNat_natCast, Nat.zero_add, r1, r2, r3, List.length_set]
      rw [if_pos (by simp; omega), if_pos (by omega), if_pos (by omega), if_pos (by omega), if_pos (by omega), if_pos (by omega), if_pos (by omega), if_pos (by omega), if_pos (by omega), Wi (by omega)]
theorem swr_eq {a b n : Nat} {P U M V S : List Int} (hs : a + b + n ≤ 1000000) (h1 : U.length = n) (h2 : V.length = n) (h3 : P.length = a) (h4 : b = a + n + M.length) :
    S_slices_swapRangeCmpFunc_int g0 none (a : Int) (b : Int) (n : Int) (P ++ (U ++ (M ++ (V ++ S)))) z = some (P ++ (V ++ (M ++ (U ++ S))), z) := by
  unfold S_slices_swapRangeCmpFunc_int
  have := swr_loop (g0 := g0) (z := z) (a := a) (b := b) (n := n) M S hs U V P [] 0 (by omega) (by omega) (by omega) (by simp; omega)
  simpa using this
theorem rot_loop {m : Nat} : ∀ (N : Nat) (P U V S : List Int), U.length + V.length ≤ N → P.length + U.length = m → 0 < U.length → 0 < V.length → (P ++ (U ++ (V ++ S))).length ≤ 10000 →
    S_slices_rotateCmpFunc_int_l1 g0 none (m : Int) (P ++ (U ++ (V ++ S))) (U.length : Int) z (V.length : Int) = some (P ++ (V ++ (U ++ S)), z)
  | 0, P, U, V, S, h, _, h1, _, _ => by omega
  | N + 1, P, U, V, S, h, hm, h1, h2, hlen => by
    have hl : P.length + U.length + V.length + S.length ≤ 10000 := by simpa [Nat.add_assoc] using hlen
    have w1 : W ((m : Int) - (U.length : Int)) = ((P.length : Nat) : Int) := by rw [Wz (by omega)]; omega
    unfold S_slices_rotateCmpFunc_int_l1
    rcases Nat.lt_trichotomy U.length V.length with hc | hc | hc
    · -- the right part is longer
      have e1 : V = V.take (V.length - U.length) ++ V.drop (V.length - U.length) := (List.take_append_drop _ _).symm
      have l1 : (V.take (V.length - U.length)).length = V.length - U.length := by rw [List.length_take]; omega
      have l2 : (V.drop (V.length - U.length)).length = U.length := by rw [List.length_drop]; omega
      have hsw := swr_eq (g0 := g0) (z := z) (a := P.length) (b := P.length + V.length) (n := U.length) (P := P) (U := U) (M := V.take (V.length - U.length)) (V := V.drop (V.length - U.length)) (S := S) (by omega) rfl l2 rfl (by omega)
      have ih := rot_loop (m := m) N P (V.drop (V.length - U.length)) (V.take (V.length - U.length)) (U ++ S) (by omega) (by omega) (by omega) (by omega) (by simp; omega)
      rw [l1, l2] at ih
      have e0 : P ++ (U ++ (V ++ S)) = P ++ (U ++ (V.take (V.length - U.length) ++ (V.drop (V.length - U.length) ++ S))) := by rw [← List.append_assoc (V.take _), List.take_append_drop]
      rw [loopM_inl (s' := (P ++ (V.drop (V.length - U.length) ++ (V.take (V.length - U.length) ++ (U ++ S))), (U.length : Int), z, ((V.length - U.length : Nat) : Int))) ?_]
      · refine ih.trans ?_
        rw [← List.append_assoc (V.take _), List.take_append_drop]
      · unfold S_slices_rotateCmpFunc_int_b1
        have w2 : W (W ((m : Int) + (V.length : Int)) - (U.length : Int)) = ((P.length + V.length : Nat) : Int) := by rw [Wz (x := (m : Int) + (V.length : Int)) (by omega), Wz (by omega)]; omega
        have w3 : W ((V.length : Int) - (U.length : Int)) = ((V.length - U.length : Nat) : Int) := by rw [Wz (by omega)]; omega
        rw [if_pos (by simp; omega), if_neg (by simp; omega), w1, w2, w3, e0, hsw, Option.bind_some]
        simp only
        rw [if_pos (by simp; omega)]
    · -- of one length
      have hsw := swr_eq (g0 := g0) (z := z) (a := P.length) (b := m) (n := U.length) (P := P) (U := U) (M := []) (V := V) (S := S) (by omega) rfl hc.symm rfl (by simp; omega)
      simp only [List.nil_append] at hsw
      refine loopM_out (x := some (P ++ (V ++ (U ++ S)), z)) ?_
      unfold S_slices_rotateCmpFunc_int_b1 S_slices_rotateCmpFunc_int_j1
      rw [if_neg (by simp; omega), w1, hsw, Option.bind_some]
      simp only
      rw [if_pos (by simp; omega)]
    · have e1 : U = U.take V.length ++ U.drop V.length := (List.take_append_drop _ _).symm
      have l1 : (U.take V.length).length = V.length := by rw [List.length_take]; omega
      have l2 : (U.drop V.length).length = U.length - V.length := by rw [List.length_drop]
      have hsw := swr_eq (g0 := g0) (z := z) (a := P.length) (b := m) (n := V.length) (P := P) (U := U.take V.length) (M := U.drop V.length) (V := V) (S := S) (by omega) l1 rfl rfl (by omega)
      have ih := rot_loop (m := m) N (P ++ V) (U.drop V.length) (U.take V.length) S (by omega) (by simp; omega) (by omega) (by omega) (by simp; omega)
      rw [l1, l2] at ih
      have e0 : P ++ (U ++ (V ++ S)) = P ++ (U.take V.length ++ (U.drop V.length ++ (V ++ S))) := by rw [← List.append_assoc (U.take _), List.take_append_drop]
      rw [loopM_inl (s' := (P ++ (V ++ (U.drop V.length ++ (U.take V.length ++ S))), ((U.length - V.length : Nat) : Int), z, (V.length : Int))) ?_]
      · rw [show P ++ (V ++ (U.drop V.length ++ (U.take V.length ++ S))) = (P ++ V) ++ (U.drop V.length ++ (U.take V.length ++ S)) by simp]
        refine ih.trans ?_
        rw [← List.append_assoc (U.take _), List.take_append_drop, List.append_assoc]
      · unfold S_slices_rotateCmpFunc_int_b1
        have w3 : W ((U.length : Int) - (V.length : Int)) = ((U.length - V.length : Nat) : Int) := by rw [Wz (by omega)]; omega
        rw [if_pos (by simp; omega), if_pos (by simp; omega), w1, w3, e0, hsw, Option.bind_some]
        simp only
        rw [if_pos (by simp; omega)]
theorem rot_eq {a m b : Nat} {P U V S : List Int} (h1 : P.length = a) (h2 : a + U.length = m) (h3 : m + V.length = b) (hU : 0 < U.length) (hV : 0 < V.length) (hlen : (P ++ (U ++ (V ++ S))).length ≤ 10000) :
    S_slices_rotateCmpFunc_int g0 none (a : Int) (m : Int) (b : Int) (P ++ (U ++ (V ++ S))) z = some (P ++ (V ++ (U ++ S)), z) := by
  have hl : P.length + U.length + V.length + S.length ≤ 10000 := by simpa [Nat.add_assoc] using hlen
  unfold S_slices_rotateCmpFunc_int
  have w1 : W ((m : Int) - (a : Int)) = (U.length : Int) := by rw [Wz (by omega)]; omega
  have w2 : W ((b : Int) - (m : Int)) = (V.length : Int) := by rw [Wz (by omega)]; omega
  rw [w1, w2]
  exact rot_loop _ P U V S (Nat.le_refl _) (by omega) hU hV hlen
theorem right_loop {rec0 : Int → Int → Int → List Int → σ → Option (List Int × σ)} (S : List Int) (x : Int) {p : Nat} : ∀ (R P : List Int), P.length + R.length + 1 = p → (P ++ x :: (R ++ S)).length ≤ 10000 →
    S_slices_symMergeCmpFunc_int_33_3_l2 rec0 g0 none (p : Int) z (P ++ x :: (R ++ S)) (P.length : Int) = some (P ++ (R ++ x :: S), z)
  | [], P, hp, hlen => by
    unfold S_slices_symMergeCmpFunc_int_33_3_l2
    refine loopM_out (x := some _) ?_
    unfold S_slices_symMergeCmpFunc_int_33_3_b2 S_slices_symMergeCmpFunc_int_33_3_j2
    simp at hp hlen
    rw [Wz (by omega), if_neg (by simp; omega)]
    rfl
  | r :: R, P, hp, hlen => by
    simp only [List.length_cons, List.length_append] at hp hlen
    have ih := right_loop (rec0 := rec0) (p := p) S x R (P ++ [r]) (by simp; omega) (by simp; omega)
    have r1 : (P ++ x :: (r :: R ++ S)).getD P.length default = x := gx
    have r2 : (P ++ x :: (r :: R ++ S)).getD (P.length + 1) default = r := by
      rw [show P ++ x :: (r :: R ++ S) = (P ++ [x]) ++ r :: (R ++ S) by simp]
      exact gx' (by simp)
    have r3 : ((P ++ x :: (r :: R ++ S)).set P.length r).set (P.length + 1) x = (P ++ [r]) ++ x :: (R ++ S) := by
      simp
    unfold S_slices_symMergeCmpFunc_int_33_3_l2
    rw [loopM_inl (s' := ((P ++ [r]) ++ x :: (R ++ S), ((P.length + 1 : Nat) : Int))) ?_]
    · have e : ((P ++ [r]).length : Int) = ((P.length + 1 : Nat) : Int) := by simp
      rw [e] at ih
      refine ih.trans ?_
      simp
    · unfold S_slices_symMergeCmpFunc_int_33_3_b2
      simp only [Wi (show P.length ≤ 4611686018427387904 by omega), Int.toNat_natCast, Nat.zero_add, r1, r2, r3, List.length_set]
      rw [Wz (by omega), if_pos (by simp; omega), if_pos (by simp; omega), if_pos (by simp), if_pos (by simp; omega), if_pos (by simp), if_pos (by simp; omega), if_pos (by simp), if_pos (by simp; omega), if_pos (by simp)]
theorem left_loop {rec0 : Int → Int → Int → List Int → σ → Option (List Int × σ)} (P : List Int) (y : Int) : ∀ (n : Nat) (L S : List Int), L.length = n → (P ++ (L ++ y :: S)).length ≤ 10000 →
    S_slices_symMergeCmpFunc_int_33_3_l4 rec0 g0 none (P.length : Int) z (P ++ (L ++ y :: S)) ((P.length + n : Nat) : Int) = some (P ++ y :: (L ++ S), z)
  | 0, L, S, hn, hlen => by
    have : L = [] := List.eq_nil_of_length_eq_zero hn
    subst this
    unfold S_slices_symMergeCmpFunc_int_33_3_l4
    refine loopM_out (x := some _) ?_
    unfold S_slices_symMergeCmpFunc_int_33_3_b4 S_slices_symMergeCmpFunc_int_33_3_j4
    rw [if_neg (by simp)]
    rfl
  | n + 1, L, S, hn, hlen => by
    obtain ⟨L', l, rfl⟩ : ∃ L' l, L = L' ++ [l] := by
      refine ⟨L.dropLast, L.getLast (fun e => by rw [e] at hn; simp at hn), (List.dropLast_concat_getLast _).symm⟩
    simp only [List.length_append, List.length_cons, List.length_nil] at hn hlen
    have ih := left_loop (rec0 := rec0) P y n L' (l :: S) (by omega) (by simp; omega)
    have e1 : P ++ ((L' ++ [l]) ++ y :: S) = (P ++ L') ++ l :: y :: S := by simp
    have r1 : ((P ++ L') ++ l :: y :: S).getD (P.length + n) default = l := gx' (by simp; omega)
    have r2 : ((P ++ L') ++ l :: y :: S).getD (P.length + (n + 1)) default = y := by
      rw [show (P ++ L') ++ l :: y :: S = (P ++ L' ++ [l]) ++ y :: S by simp]
      exact gx' (by simp; omega)
    have r3 : (((P ++ L') ++ l :: y :: S).set (P.length + (n + 1)) l).set (P.length + n) y = P ++ (L' ++ y :: (l :: S)) := by
      have := set2' (P ++ L') [] S l y
      rw [show P.length + (n + 1) = (P ++ L').length + 1 + ([] : List Int).length by simp; omega, show P.length + n = (P ++ L').length by simp; omega]
      simpa using this
    have hll : ((P ++ L') ++ l :: y :: S).length ≤ 10000 := by simp; omega
    have hln : P.length + (n + 1) < ((P ++ L') ++ l :: y :: S).length := by simp; omega
    rw [e1]
    unfold S_slices_symMergeCmpFunc_int_33_3_l4
    rw [loopM_inl (s' := (P ++ (L' ++ y :: (l :: S)), ((P.length + n : Nat) : Int))) ?_]
    · refine ih.trans ?_
      simp
    · unfold S_slices_symMergeCmpFunc_int_33_3_b4
      have w1 : W (((P.length + (n + 1) : Nat) : Int) - 1) = ((P.length + n : Nat) : Int) := by rw [Wz (by omega)]; omega
      simp only [w1, Int.toNat_natCast, Nat.zero_add, r1, r2, r3, List.length_set]
      rw [if_pos (by simp; omega), if_pos (by omega), if_pos (by omega), if_pos (by omega), if_pos (by omega), if_pos (by omega), if_pos (by omega), if_pos (by omega), if_pos (by omega)]
end
end Go.Proofs.Ytobkgelkaljjeaa
