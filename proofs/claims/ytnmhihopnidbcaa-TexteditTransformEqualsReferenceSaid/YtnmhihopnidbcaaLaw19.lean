/-
  Own text Law19 of this claim: what functions of the given program compute, in plain Lean, and the proof; no condition.
-/
import Derived.Test.YtnmhihopnidbcaaLaw18
namespace Go.Proofs.Ytnmhihopnidbcaa
open Go.Fx
set_option linter.unusedVariables false
/-- what Transform answers, by the merged text and the lengths of the results -/
def Tf (s : List UInt8) (L R : List G_TextEdit) : List G_TextEdit × List G_TextEdit × Int :=
  let a := (Mg Prod.mk true s L R).1
  let b := (Mg Prod.mk false s L R).1
  let lr := Cn (s.length + D R) 0 [] [] b
  let rl := Cn (s.length + D L) 0 [] [] a
  if a.length > 2000 then ([], [], 2) else if lr.length > 50 then ([], [], 2) else if rl.length > 50 then ([], [], 2) else (lr, rl, 0)
section
variable {s : List UInt8} {L R : List G_TextEdit} (hL : Ok s.length (-1) L) (hR : Ok s.length (-1) R) (hn : s.length ≤ 2000)
  (b1 : (s.length : Int) + D L ≤ 2000) (b2 : (s.length : Int) + D R ≤ 2000)
include hL hR hn b1 b2
theorem tf_j10 (x y : List G_TextEdit) (p q : Int) : S_textedit_Transform_j10 none (A s 0 L, 0) (A s 0 R, 0) x y p q (Mg G_tracedByte.mk true s L R).1 (Mg G_tracedByte.mk false s L R).1 = some (Tf s L R) := by
  have hA := A_len L 0 (-1) hL (by omega) (by omega)
  have hB := A_len R 0 (-1) hR (by omega) (by omega)
  have ma : prC (Mg G_tracedByte.mk true s L R).1 = (Mg Prod.mk true s L R).1 := Mg_map _ _ _ _ _ _
  have mb : prC (Mg G_tracedByte.mk false s L R).1 = (Mg Prod.mk false s L R).1 := Mg_map _ _ _ _ _ _
  have la : (Mg G_tracedByte.mk true s L R).1.length = (Mg Prod.mk true s L R).1.length := by rw [← ma]; simp [prC]
  have n1 := Mg_len (mk := G_tracedByte.mk) hL hR true
  have n2 := Mg_len (mk := G_tracedByte.mk) hL hR false
  have i1 := Inc_Mg hL hR true
  have i2 := Inc_Mg hL hR false
  have e1 : ((A s 0 L).length : Int) = s.length + D L := by omega
  have e2 : ((A s 0 R).length : Int) = s.length + D R := by omega
  unfold S_textedit_Transform_j10 Tf
  dsimp only
  rw [la]
  by_cases c1 : (Mg Prod.mk true s L R).1.length > 2000
  · rw [if_pos (by simp only [decide_eq_true_eq]; omega), if_pos c1]
  · rw [if_neg (by simp only [decide_eq_true_eq]; omega), if_neg c1, can21_eq, canonical_eq (by omega) (by omega) (by omega) (by rw [mb, e2]; exact i2), mb, e2]
    simp only [Option.bind_some]
    by_cases c2 : (Cn (s.length + D R) 0 [] [] (Mg Prod.mk false s L R).1).length > 50
    · rw [if_pos (by simp [fin, c2]), if_pos c2]
      simp [fin, c2]
    · rw [if_neg (by simp [fin, c2]), if_neg c2, can21_eq, canonical_eq (by omega) (by omega) (by omega) (by rw [ma, e1]; exact i1), ma, e1]
      simp only [Option.bind_some]
      by_cases c3 : (Cn (s.length + D L) 0 [] [] (Mg Prod.mk true s L R).1).length > 50
      · rw [if_pos (by simp [fin, c3]), if_pos c3]
        simp [fin, c3]
      · rw [if_neg (by simp [fin, c3]), if_neg c3]
        simp [fin, c2, c3]
theorem tf_loop : ∀ (k i : Nat), i + k = s.length →
    S_textedit_Transform_l1 none s (A s 0 L, 0) (A s 0 R, 0) (i : Int) (rst i L) (It G_tracedByte.mk true s L R i).2 (rst i R) (It G_tracedByte.mk false s L R i).2 (It G_tracedByte.mk true s L R i).1 (It G_tracedByte.mk false s L R i).1 = some (Tf s L R) := by
  intro k i hik
  have p1 := Of_le hL (s.length - i) i (by omega)
  have p2 := Of_le hR (s.length - i) i (by omega)
  have q1 := Of_pos hL i
  have q2 := Of_pos hR i
  have hlt := It_len (mk := G_tracedByte.mk) hL hR true i
  have hlf := It_len (mk := G_tracedByte.mk) hL hR false i
  have hot := It_off (mk := G_tracedByte.mk) hL hR true i
  have hof := It_off (mk := G_tracedByte.mk) hL hR false i
  have ot : ownE true L R = L := rfl
  have of : ownE false L R = R := rfl
  rw [ot] at hot
  rw [of] at hof
  have iL : insH i (rst i L) = insA L i := insH_late L (-1) hL
  have iR : insH i (rst i R) = insA R i := insH_late R (-1) hR
  have s1 : S_textedit_merger_insert none (i : Int) (rst i L) (It G_tracedByte.mk true s L R i).2 (rst i R) (It G_tracedByte.mk false s L R i).2 (It G_tracedByte.mk true s L R i).1 (It G_tracedByte.mk false s L R i).1 = some ((It G_tracedByte.mk true s L R i).2 + (insA L i).length, (It G_tracedByte.mk true s L R i).1 ++ sq (It G_tracedByte.mk true s L R i).2 (insA L i), (It G_tracedByte.mk false s L R i).1 ++ (insA L i).map ins) := by
    have := minsert_eq (i := (i : Int)) (a2 := (It G_tracedByte.mk true s L R i).2) (a4 := (It G_tracedByte.mk false s L R i).2) (es := rst i L) (a3 := rst i R) (m := (It G_tracedByte.mk true s L R i).1) (o := (It G_tracedByte.mk false s L R i).1) (by rw [iL]; omega) (by rw [iL]; omega) (by rw [iL]; omega) (by omega) (by rw [iL]; omega)
    rw [iL] at this
    exact this
  have s2 : ∀ x, S_textedit_merger_insert none (i : Int) (rst i R) (It G_tracedByte.mk false s L R i).2 (rst i L) x ((It G_tracedByte.mk false s L R i).1 ++ (insA L i).map ins) ((It G_tracedByte.mk true s L R i).1 ++ sq (It G_tracedByte.mk true s L R i).2 (insA L i)) = some ((It G_tracedByte.mk false s L R i).2 + (insA R i).length, (It G_tracedByte.mk false s L R i).1 ++ (insA L i).map ins ++ sq (It G_tracedByte.mk false s L R i).2 (insA R i), (It G_tracedByte.mk true s L R i).1 ++ sq (It G_tracedByte.mk true s L R i).2 (insA L i) ++ (insA R i).map ins) := by
    intro x
    have := minsert_eq (i := (i : Int)) (a2 := (It G_tracedByte.mk false s L R i).2) (a4 := x) (es := rst i R) (a3 := rst i L) (m := (It G_tracedByte.mk false s L R i).1 ++ (insA L i).map ins) (o := (It G_tracedByte.mk true s L R i).1 ++ sq (It G_tracedByte.mk true s L R i).2 (insA L i)) (by rw [iR]; omega) (by rw [iR]; simp only [List.length_append, List.length_map]; omega) (by rw [iR]; simp only [List.length_append, sq_len]; omega) (by omega) (by rw [iR]; omega)
    rw [iR] at this
    exact this
  have tt : tx G_tracedByte.mk true L R i (It G_tracedByte.mk true s L R i) = ((It G_tracedByte.mk true s L R i).1 ++ sq (It G_tracedByte.mk true s L R i).2 (insA L i) ++ (insA R i).map ins, (It G_tracedByte.mk true s L R i).2 + (insA L i).length) := by
    unfold tx; rw [ot]; simp only [txt, sq_sqG]; rfl
  have tf : tx G_tracedByte.mk false L R i (It G_tracedByte.mk false s L R i) = ((It G_tracedByte.mk false s L R i).1 ++ (insA L i).map ins ++ sq (It G_tracedByte.mk false s L R i).2 (insA R i), (It G_tracedByte.mk false s L R i).2 + (insA R i).length) := by
    unfold tx; rw [of]; simp only [txt, sq_sqG]; rfl
  match k, hik with
  | 0, h =>
    have : i = s.length := by omega
    subst this
    unfold S_textedit_Transform_l1
    refine loopM_out ?_
    unfold S_textedit_Transform_b1
    dsimp only
    rw [if_pos (by simp), s1]
    simp only [Option.bind_some]
    rw [s2]
    simp only [Option.bind_some]
    rw [if_pos (by simp)]
    have := tf_j10 hL hR hn b1 b2 (rst s.length L) (rst s.length R) ((It G_tracedByte.mk true s L R s.length).2 + (insA L s.length).length) ((It G_tracedByte.mk false s L R s.length).2 + (insA R s.length).length)
    unfold Mg at this
    rw [tt, tf] at this
    rw [this]
  | k + 1, h =>
    have ih := tf_loop k (i + 1) (by omega)
    have e1 := Wi (show i ≤ 4611686018427387904 by omega)
    have hi : i < s.length := by omega
    have w1 : W ((It G_tracedByte.mk true s L R i).2 + (insA L i).length + 1) = (It G_tracedByte.mk true s L R i).2 + (insA L i).length + 1 := W_in (by unfold inR; omega)
    have w2 : W ((It G_tracedByte.mk false s L R i).2 + (insA R i).length + 1) = (It G_tracedByte.mk false s L R i).2 + (insA R i).length + 1 := W_in (by unfold inR; omega)
    have dL0 : hdS i (dropE i (rst i L)) = delB L i := by unfold rst; rw [dropE_dropE]; exact hdS_del L (-1) hL
    have dR0 : hdS i (dropE i (rst i R)) = delB R i := by unfold rst; rw [dropE_dropE]; exact hdS_del R (-1) hR
    have rL : dropE i (rst i L) = rst ((i + 1 : Nat) : Int) L := by unfold rst; rw [dropE_dropE]; congr 1; omega
    have rR : dropE i (rst i R) = rst ((i + 1 : Nat) : Int) R := by unfold rst; rw [dropE_dropE]; congr 1; omega
    have dL : hdS i (rst ((i + 1 : Nat) : Int) L) = delB L i := by rw [← rL]; exact dL0
    have dR : hdS i (rst ((i + 1 : Nat) : Int) R) = delB R i := by rw [← rR]; exact dR0
    unfold S_textedit_Transform_l1 at ih ⊢
    rw [loopM_inl (s' := (((i + 1 : Nat) : Int), rst ((i + 1 : Nat) : Int) L, (It G_tracedByte.mk true s L R (i + 1)).2, rst ((i + 1 : Nat) : Int) R, (It G_tracedByte.mk false s L R (i + 1)).2, (It G_tracedByte.mk true s L R (i + 1)).1, (It G_tracedByte.mk false s L R (i + 1)).1)) ?_]
    · exact ih
    · unfold S_textedit_Transform_b1
      dsimp only
      rw [if_pos (by simp; omega), s1]
      simp only [Option.bind_some]
      rw [s2]
      simp only [Option.bind_some]
      rw [if_neg (by simp; omega), mdel_eq, rL, dL]
      simp only [Option.bind_some]
      rw [mdel_eq, rR, dR]
      simp only [Option.bind_some]
      rw [It, It, tt, tf]
      unfold bt
      rw [ot, of]
      dsimp only
      by_cases hc : delB L i = false ∧ delB R i = false
      · rw [if_pos (by simp [hc.1, hc.2]), if_pos (by omega), if_pos (by simp only [List.length_map, List.length_append, List.length_cons, List.length_nil, sq_len]; omega), if_pos (by omega), if_pos (by simp only [List.length_map, List.length_append, List.length_cons, List.length_nil, sq_len]; omega)]
        unfold S_textedit_Transform_j7 S_textedit_Transform_j8 S_textedit_Transform_j9
        dsimp only
        rw [if_pos (by simp [hc.1]), if_pos (by simp [hc.2]), e1, w1, w2]
        simp only [hc.1, hc.2, and_self, if_true, Int.toNat_natCast]
      · rw [if_neg (by simpa using hc)]
        simp only [if_neg hc, List.append_nil]
        unfold S_textedit_Transform_j7 S_textedit_Transform_j8 S_textedit_Transform_j9
        dsimp only
        rw [e1, w1, w2]
        by_cases h1 : delB L i = false
        · by_cases h2 : delB R i = false
          · exact absurd ⟨h1, h2⟩ hc
          · simp only [Bool.not_eq_false] at h2
            simp [h1, h2]
        · simp only [Bool.not_eq_false] at h1
          by_cases h2 : delB R i = false
          · simp [h1, h2]
          · simp only [Bool.not_eq_false] at h2
            simp [h1, h2]
end
end Go.Proofs.Ytnmhihopnidbcaa
