/-
  Own text Law6 of this claim: what functions of the given program compute, in plain Lean, and the proof; no condition.
-/
import Derived.Test.YtnmhihopnidbcaaLaw5
namespace Go.Proofs.Ytnmhihopnidbcaa
open Go.Fx
set_option linter.unusedVariables false
/-- an edit is written down -/
def Fl (s e : Int) (pd : List Int) (out : List G_TextEdit) : List G_TextEdit := if s < e ∨ pd ≠ [] then out ++ [⟨s, e, pd.map toU8⟩] else out
/-- the canonical edits, from a byte on: values with origins -/
def Cn (len : Int) : Int → List Int → List G_TextEdit → List (Int × Int) → List G_TextEdit
  | s, pd, out, [] => Fl s len pd out
  | s, pd, out, (v, o) :: r => if o = -1 then Cn len s (pd ++ [v]) out r else Cn len (o + 1) [] (Fl s o pd out) r
/-- origins rise -/
def Inc (n : Int) : Int → List (Int × Int) → Prop
  | _, [] => True
  | s, (_, o) :: r => (o = -1 ∧ Inc n s r) ∨ (s ≤ o ∧ o < n ∧ Inc n (o + 1) r)
def prC (b : List G_tracedByte) : List (Int × Int) := b.map fun x => (x.f_value, x.f_origin)
def prR (b : List G_TracedByte) : List (Int × Int) := b.map fun x => (x.f_Value, x.f_Origin)
theorem Fl_len (s e : Int) (pd : List Int) (out : List G_TextEdit) : (Fl s e pd out).length ≤ out.length + 1 := by
  unfold Fl; split <;> simp
def fin (l : List G_TextEdit) : List G_TextEdit × Int := if l.length > 50 then ([], 2) else (l, 0)
theorem flush_eq {s e : Int} {pd : List Int} {out : List G_TextEdit} (ho : out.length ≤ 1000000) (he : inR (e + 1)) : S_textedit_canonical_1_30 none e s pd out = some (e + 1, Fl s e pd out) := by
  unfold S_textedit_canonical_1_30 Fl S_textedit_canonical_1_30_j1
  by_cases h : s < e ∨ pd ≠ []
  · have hp : (decide (s < e) || decide (((pd.map e_u8).length : Int) > 0)) = true := by
      simp only [Bool.or_eq_true, decide_eq_true_eq, List.length_map]
      rcases h with h | h
      · exact .inl h
      · exact .inr (by have := List.length_pos_iff.2 h; omega)
    rw [if_pos hp, if_pos (by simp; omega), if_pos h, W_in he]
  · have hp : ¬ (decide (s < e) || decide (((pd.map e_u8).length : Int) > 0)) = true := by
      simp only [Bool.or_eq_true, decide_eq_true_eq, List.length_map]
      rintro (h' | h')
      · exact h (.inl h')
      · exact h (.inr (fun hn => by subst hn; simp at h'))
    rw [if_neg hp, if_neg h, W_in he]
theorem can_loop {n : Int} {b : List G_tracedByte} (hn : n ≤ 1000000) (hb : b.length ≤ 100000) : ∀ (k i : Nat) (s : Int) (pd : List Int) (out : List G_TextEdit), i + k = b.length → 0 ≤ s → 0 ≤ n → pd.length ≤ i → out.length ≤ i → Inc n s (prC (b.drop i)) →
    S_textedit_canonical_l1 none n b (i : Int) pd s out = some (fin (Cn n s pd out (prC (b.drop i))))
  | 0, i, s, pd, out, h, hs, h0, h1, h2, h3 => by
    have : i = b.length := by omega
    subst this
    unfold S_textedit_canonical_l1
    rw [loopM_out (x := some (fin (Cn n s pd out (prC (b.drop b.length))))) ?_]
    unfold S_textedit_canonical_b1
    rw [if_neg (by simp)]
    unfold S_textedit_canonical_j4
    dsimp only
    rw [flush_eq (by omega) (by unfold inR; omega)]
    simp only [Option.bind_some, List.drop_length, prC, List.map_nil, Cn]
    unfold fin
    by_cases hc : (Fl s n pd out).length > 50
    · rw [if_pos hc, if_pos (by simp only [decide_eq_true_eq]; omega)]
    · rw [if_neg hc, if_neg (by simp only [decide_eq_true_eq]; omega)]
  | k + 1, i, s, pd, out, h, hs, h0, h1, h2, h3 => by
    have hi : i < b.length := by omega
    have ih := can_loop hn hb k (i + 1)
    have e1 := Wi (show i ≤ 4611686018427387904 by omega)
    rw [List.drop_eq_getElem_cons hi] at h3 ⊢
    simp only [prC, List.map_cons, Inc] at h3
    simp only [prC, List.map_cons, Cn]
    have hx : S_textedit_canonical_b1 none n b (i : Int) pd s out = if b[i].f_origin = -1 then some (.inl (((i + 1 : Nat) : Int), pd ++ [b[i].f_value], s, out)) else some (.inl (((i + 1 : Nat) : Int), [], b[i].f_origin + 1, Fl s b[i].f_origin pd out)) := by
      unfold S_textedit_canonical_b1
      rw [if_pos (by simpa using hi), if_pos (by simpa using hi)]
      simp only [Int.toNat_natCast, getD_at hi]
      by_cases ho : b[i].f_origin = -1
      · rw [if_pos (by simp [ho]), if_pos ho, if_pos (by simp; omega)]
        unfold S_textedit_canonical_j3
        rw [e1]
      · have hr : s ≤ b[i].f_origin ∧ b[i].f_origin < n := by
          rcases h3 with h3 | h3
          · exact absurd h3.1 ho
          · exact ⟨h3.1, h3.2.1⟩
        rw [if_neg (by simpa using ho), if_neg ho, flush_eq (by omega) (by unfold inR; omega)]
        simp only [Option.bind_some]
        unfold S_textedit_canonical_j3
        rw [e1]
    unfold S_textedit_canonical_l1 at ih ⊢
    by_cases ho : b[i].f_origin = -1
    · have h3' : Inc n s (prC (b.drop (i + 1))) := by
        rcases h3 with h3 | h3
        · exact h3.2
        · omega
      rw [loopM_inl (s' := (((i + 1 : Nat) : Int), pd ++ [b[i].f_value], s, out)) (by rw [hx, if_pos ho]), if_pos ho]
      exact ih s (pd ++ [b[i].f_value]) out (by omega) hs h0 (by simp; omega) (by omega) h3'
    · have h3' : s ≤ b[i].f_origin ∧ b[i].f_origin < n ∧ Inc n (b[i].f_origin + 1) (prC (b.drop (i + 1))) := by
        rcases h3 with h3 | h3
        · exact absurd h3.1 ho
        · exact h3
      have hfl := Fl_len s b[i].f_origin pd out
      rw [loopM_inl (s' := (((i + 1 : Nat) : Int), [], b[i].f_origin + 1, Fl s b[i].f_origin pd out)) (by rw [hx, if_neg ho]), if_neg ho]
      exact ih (b[i].f_origin + 1) [] (Fl s b[i].f_origin pd out) (by omega) (by omega) h0 (by simp) (by omega) h3'.2.2
theorem canonical_eq {n : Int} {b : List G_tracedByte} (hn : n ≤ 1000000) (h0 : 0 ≤ n) (hb : b.length ≤ 100000) (hi : Inc n 0 (prC b)) : S_textedit_canonical none n b = some (fin (Cn n 0 [] [] (prC b))) := by
  have := can_loop hn hb b.length 0 0 [] [] (by omega) (by omega) h0 (by simp) (by simp) hi
  unfold S_textedit_canonical
  simpa using this

/-! the reference -/
theorem cond_iff {s e : Int} {pd : List Int} : ((decide (e > s)) || (!(pd.map toU8 == ([] : List UInt8)))) = true ↔ (s < e ∨ pd ≠ []) := by
  simp only [Bool.or_eq_true, decide_eq_true_eq, gt_iff_lt, Bool.not_eq_true', beq_eq_false_iff_ne, ne_eq, List.map_eq_nil_iff]
def finR (l : List G_TextEdit) : List G_TextEdit × Bool := if l.length > 50 then ([], false) else (l, true)
/-- what the outer loop goes on with -/
noncomputable def gon (n : Int) (b : List G_TracedByte) (r : Option ((List G_TextEdit × Int × Int) ⊕ (List G_TextEdit × Bool))) : Option (List G_TextEdit × Bool) := match r with
  | none => none
  | some (.inl s) => S_glossatorref4_CanonicalEdits_l3 none n b s.1 s.2.1 s.2.2
  | some (.inr o) => some o
theorem rl3_eq (n : Int) (b : List G_TracedByte) (out : List G_TextEdit) (i s : Int) : S_glossatorref4_CanonicalEdits_l3 none n b out i s = gon n b (S_glossatorref4_CanonicalEdits_b3 none n b out i s) := by
  unfold S_glossatorref4_CanonicalEdits_l3
  rw [loopM_eq]
  unfold gon
  cases S_glossatorref4_CanonicalEdits_b3 none n b out i s with
  | none => rfl
  | some r => cases r <;> rfl
theorem rcan_loop {n : Int} {b : List G_TracedByte} (hn : n ≤ 1000000) (h0 : 0 ≤ n) (hb : b.length ≤ 100000) : ∀ (k i : Nat) (s : Int) (pd : List Int) (out : List G_TextEdit), i + k = b.length → 0 ≤ s → s ≤ n → pd.length ≤ i → out.length ≤ i → Inc n s (prR (b.drop i)) →
    gon n b (S_glossatorref4_CanonicalEdits_l4 none n b out s (i : Int) (pd.map toU8)) = some (finR (Cn n s pd out (prR (b.drop i))))
  | 0, i, s, pd, out, h, hs, hsn, h1, h2, h3 => by
    have : i = b.length := by omega
    subst this
    have e1 : W ((b.length : Int) + 1) = ((b.length + 1 : Nat) : Int) := Wi (by omega)
    have e2 : W (n + 1) = n + 1 := W_in (by unfold inR; omega)
    have hfl := Fl_len s n pd out
    have hj : S_glossatorref4_CanonicalEdits_j8 none n b out s (b.length : Int) (pd.map toU8) n = some (.inl (Fl s n pd out, ((b.length + 1 : Nat) : Int), n + 1)) := by
      unfold S_glossatorref4_CanonicalEdits_j8 S_glossatorref4_CanonicalEdits_j9 Fl
      by_cases hc : s < n ∨ pd ≠ []
      · rw [if_pos (cond_iff.2 hc), if_pos (by simp only [List.length_map, List.length_append, List.length_cons, List.length_nil]; omega), if_pos hc, e1, e2]
      · rw [if_neg (fun h' => hc (cond_iff.1 h')), if_neg hc, e1, e2]
    unfold S_glossatorref4_CanonicalEdits_l4
    rw [loopM_out (x := some (.inl (Fl s n pd out, ((b.length + 1 : Nat) : Int), n + 1))) ?_]
    · simp only [gon]
      rw [rl3_eq]
      unfold S_glossatorref4_CanonicalEdits_b3
      rw [if_neg (by simp; omega)]
      unfold S_glossatorref4_CanonicalEdits_j10
      simp only [List.drop_length, prR, List.map_nil, Cn, finR]
      by_cases hc : (Fl s n pd out).length > 50
      · rw [if_pos (by simp only [decide_eq_true_eq, List.length_map]; omega), if_pos hc]; rfl
      · rw [if_neg (by simp only [decide_eq_true_eq, List.length_map]; omega), if_neg hc]; rfl
    · unfold S_glossatorref4_CanonicalEdits_b4
      rw [if_pos (by simp), if_neg (by simp)]
      unfold S_glossatorref4_CanonicalEdits_j7
      rw [if_neg (by simp), hj]
  | k + 1, i, s, pd, out, h, hs, hsn, h1, h2, h3 => by
    have hi : i < b.length := by omega
    have ih := rcan_loop hn h0 hb k (i + 1)
    have e1 := Wi (show i ≤ 4611686018427387904 by omega)
    rw [List.drop_eq_getElem_cons hi] at h3 ⊢
    simp only [prR, List.map_cons, Inc] at h3
    simp only [prR, List.map_cons, Cn]
    by_cases ho : b[i].f_Origin = -1
    · have h3' : Inc n s (prR (b.drop (i + 1))) := by
        rcases h3 with h3 | h3
        · exact h3.2
        · omega
      have := ih s (pd ++ [b[i].f_Value]) out (by omega) hs hsn (by simp; omega) (by omega) h3'
      rw [if_pos ho]
      refine Eq.trans ?_ this
      congr 1
      unfold S_glossatorref4_CanonicalEdits_l4
      rw [loopM_inl (s' := (((i + 1 : Nat) : Int), (pd ++ [b[i].f_Value]).map toU8)) ?_]
      unfold S_glossatorref4_CanonicalEdits_b4
      simp only [Int.toNat_natCast, getD_at hi]
      rw [if_pos (by intro _; simpa using hi), if_pos (by simp [ho]; exact hi), if_pos (by simpa using hi), if_pos (by simp; omega), e1]
      simp
    · have h3' : s ≤ b[i].f_Origin ∧ b[i].f_Origin < n ∧ Inc n (b[i].f_Origin + 1) (prR (b.drop (i + 1))) := by
        rcases h3 with h3 | h3
        · exact absurd h3.1 ho
        · exact h3
      have hfl := Fl_len s b[i].f_Origin pd out
      have := ih (b[i].f_Origin + 1) [] (Fl s b[i].f_Origin pd out) (by omega) (by omega) (by omega) (by simp) (by omega) h3'.2.2
      rw [if_neg ho]
      refine Eq.trans ?_ this
      have e2 : W (b[i].f_Origin + 1) = b[i].f_Origin + 1 := W_in (by unfold inR; omega)
      have hj : S_glossatorref4_CanonicalEdits_j8 none n b out s (i : Int) (pd.map toU8) b[i].f_Origin = some (.inl (Fl s b[i].f_Origin pd out, ((i + 1 : Nat) : Int), b[i].f_Origin + 1)) := by
        unfold S_glossatorref4_CanonicalEdits_j8 S_glossatorref4_CanonicalEdits_j9 Fl
        by_cases hc : s < b[i].f_Origin ∨ pd ≠ []
        · rw [if_pos (cond_iff.2 hc), if_pos (by simp only [List.length_map, List.length_append, List.length_cons, List.length_nil]; omega), if_pos hc, e1, e2]
        · rw [if_neg (fun h' => hc (cond_iff.1 h')), if_neg hc, e1, e2]
      unfold S_glossatorref4_CanonicalEdits_l4
      rw [loopM_out (x := some (.inl (Fl s b[i].f_Origin pd out, ((i + 1 : Nat) : Int), b[i].f_Origin + 1))) ?_]
      · simp only [gon]
        rw [rl3_eq]
        unfold S_glossatorref4_CanonicalEdits_b3
        rw [if_pos (by simp; omega)]
        rfl
      · unfold S_glossatorref4_CanonicalEdits_b4
        simp only [Int.toNat_natCast, getD_at hi]
        rw [if_pos (by intro _; simpa using hi), if_neg (by simp; omega)]
        unfold S_glossatorref4_CanonicalEdits_j7
        simp only [Int.toNat_natCast, getD_at hi]
        rw [if_pos (by simpa using hi), if_pos (by simpa using hi), hj]
theorem rcanonical_eq {n : Int} {b : List G_TracedByte} (hn : n ≤ 1000000) (h0 : 0 ≤ n) (hb : b.length ≤ 100000) (hi : Inc n 0 (prR b)) : S_glossatorref4_CanonicalEdits none n b = some (finR (Cn n 0 [] [] (prR b))) := by
  have := rcan_loop hn h0 hb b.length 0 0 [] [] (by omega) (by omega) h0 (by simp) (by simp) hi
  unfold S_glossatorref4_CanonicalEdits
  rw [rl3_eq]
  unfold S_glossatorref4_CanonicalEdits_b3
  rw [if_pos (by simpa using h0)]
  simpa using this
end Go.Proofs.Ytnmhihopnidbcaa
