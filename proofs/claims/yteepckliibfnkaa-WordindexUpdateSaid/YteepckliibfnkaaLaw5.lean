/-
  Own text Law5 of this claim: what functions of the given program compute, in plain Lean, and the proof; no condition.
-/
import Derived.Test.YteepckliibfnkaaLaw4
namespace Go.Proofs.Yteepckliibfnkaa
open Go.Fx Go.Sort
set_option linter.unusedVariables false

theorem eq_loop {a b : List (List UInt8)} (hab : a.length = b.length) (hl : a.length ≤ 4000000000000) : ∀ (k i : Nat), i + k = a.length →
    S_glossatorref3_Equal_string_l1 none a b (i : Int) = some (decide (a.drop i = b.drop i))
  | 0, i, h => by
    have hi : i = a.length := by omega
    subst hi
    unfold S_glossatorref3_Equal_string_l1
    rw [List.drop_length, show b.drop a.length = [] by rw [hab]; exact List.drop_length]
    refine loopM_out ?_
    unfold S_glossatorref3_Equal_string_b1
    rw [if_neg (by simp)]
    rfl
  | k + 1, i, h => by
    have hi : i < a.length := by omega
    have hj : i < b.length := by omega
    unfold S_glossatorref3_Equal_string_l1
    rw [List.drop_eq_getElem_cons hi, List.drop_eq_getElem_cons hj]
    by_cases he : a[i] = b[i]
    · rw [loopM_inl (s' := ((i + 1 : Nat) : Int)) ?_]
      · refine (eq_loop hab hl k (i + 1) (by omega)).trans ?_
        congr 1
        rw [Bool.eq_iff_iff, decide_eq_true_eq, decide_eq_true_eq, List.cons.injEq]
        exact ⟨fun h => ⟨he, h⟩, fun h => h.2⟩
      · unfold S_glossatorref3_Equal_string_b1
        simp only [List.length_map, Int.toNat_natCast, getD_at hi, getD_at hj]
        rw [if_pos (by simp; omega), if_pos (by omega), if_pos (by omega), if_neg (by simp [he]), Wi (by omega)]
    · refine loopM_out ?_
      unfold S_glossatorref3_Equal_string_b1
      simp only [List.length_map, Int.toNat_natCast, getD_at hi, getD_at hj]
      rw [if_pos (by simp; omega), if_pos (by omega), if_pos (by omega), if_pos (by simp [he]), decide_eq_false (fun h => he (List.cons.inj h).1)]
theorem equal_eq {a b : List (List UInt8)} (hl : a.length ≤ 4000000000000) : S_glossatorref3_Equal_string none a b = some (decide (a = b)) := by
  unfold S_glossatorref3_Equal_string
  simp only [List.length_map]
  by_cases h : a.length = b.length
  · rw [if_neg (by simp [h])]
    exact eq_loop h hl a.length 0 (by omega)
  · rw [if_pos (by simp; omega), decide_eq_false (fun e => h (by rw [e]))]

def g (w : List UInt8) : Bool := !(w == ([] : List UInt8)) && w.all wb
def sz : Int → List (List UInt8) → Int
  | s, [] => s
  | s, w :: l => sz (W (s + W ((w.length : Int) + 1))) l
def asc (ws : List (List UInt8)) : Nat → Nat → Bool
  | 0, _ => true
  | k + 1, i => (i == 0 || decide (ws.getD (i - 1) default < ws.getD i default)) && asc ws k (i + 1)
theorem asc_pair {ws : List (List UInt8)} : asc ws ws.length 0 = true ↔ ws.Pairwise (· < ·) := by
  have key : ∀ (k i : Nat), i + k = ws.length → (asc ws k i = true ↔ ∀ j (hj : j < ws.length), i ≤ j → 0 < j → ws[j - 1]'(by omega) < ws[j]) := by
    intro k
    induction k with
    | zero => intro i hi; exact ⟨fun _ j hj h1 h2 => by omega, fun _ => rfl⟩
    | succ k ih =>
      intro i hi
      have hil : i < ws.length := by omega
      unfold asc
      rw [Bool.and_eq_true, Bool.or_eq_true, beq_iff_eq, decide_eq_true_eq, ih (i + 1) (by omega), getD_at hil, getD_at (show i - 1 < ws.length by omega)]
      constructor
      · rintro ⟨h1, h2⟩ j hj h3 h4
        by_cases e : i = j
        · subst e
          rcases h1 with h1 | h1
          · omega
          · exact h1
        · exact h2 j hj (by omega) h4
      · intro h1
        refine ⟨?_, fun j hj h3 h4 => h1 j hj (by omega) h4⟩
        by_cases e : i = 0
        · exact .inl e
        · exact .inr (h1 i hil (Nat.le_refl _) (by omega))
  rw [key ws.length 0 (by omega), List.pairwise_iff_getElem]
  constructor
  · intro h i j hi hj hij
    have : ∀ (d i : Nat) (hi : i + d + 1 < ws.length), ws[i]'(by omega) < ws[i + d + 1] := by
      intro d
      induction d with
      | zero => intro i hi; exact h (i + 1) hi (Nat.zero_le _) (by omega)
      | succ d ih =>
        intro i hi
        exact List.lt_trans (ih i (by omega)) (h (i + (d + 1) + 1) hi (Nat.zero_le _) (by omega))
    have := this (j - i - 1) i (by omega)
    rwa [show ws[i + (j - i - 1) + 1]'(by omega) = ws[j] from by congr 1; omega] at this
  · intro h j hj _ h4
    exact h (j - 1) j (by omega) hj (by omega)
theorem getDe {ws : List (List UInt8)} {i : Nat} (h : i < ws.length) : ws.getD i default = ws[i] := getD_at h
theorem pv_chars {ws : List (List UInt8)} {i : Nat} (hi : i < ws.length) (hw : ws[i].length ≤ 4000000000000000) {s : Int} : ∀ (k j : Nat), j + k = ws[i].length →
    S_wordindex_validWords_l4 none ws s (i : Int) (j : Int) = if (ws[i].drop j).all wb = true then S_wordindex_validWords_j3 none ws s (i : Int) else some (.inr false)
  | 0, j, h => by
    have hj : j = ws[i].length := by omega
    subst hj
    unfold S_wordindex_validWords_l4
    rw [List.drop_length, List.all_nil, if_pos rfl]
    refine loopM_out ?_
    unfold S_wordindex_validWords_b4
    simp only [Int.toNat_natCast, getDe hi]
    rw [if_neg (by simp)]
  | k + 1, j, h => by
    have hj : j < ws[i].length := by omega
    unfold S_wordindex_validWords_l4
    rw [List.drop_eq_getElem_cons hj, List.all_cons]
    cases hb : wb ws[i][j] with
    | true =>
      rw [Bool.true_and, loopM_inl (s' := ((j + 1 : Nat) : Int)) ?_]
      · exact pv_chars hi hw k (j + 1) (by omega)
      · unfold S_wordindex_validWords_b4
        simp only [Int.toNat_natCast, getDe hi]
        rw [if_pos (by simp; omega), if_pos (by omega), getD0 hj, isw_eq, Option.bind_some, hb, if_neg (by simp), Wi (by omega)]
    | false =>
      rw [Bool.false_and, if_neg (by simp)]
      refine loopM_out ?_
      unfold S_wordindex_validWords_b4
      simp only [Int.toNat_natCast, getDe hi]
      rw [if_pos (by simp; omega), if_pos (by omega), getD0 hj, isw_eq, Option.bind_some, hb, if_pos (by simp)]
      rfl
theorem pv_loop {ws : List (List UInt8)} (hl : ws.length ≤ 4000000000000000) (hw : ∀ w ∈ ws, w.length ≤ 4000000000000000) : ∀ (k i : Nat) (s : Int), i + k = ws.length →
    S_wordindex_validWords_l3 none ws s (i : Int) = some (asc ws k i && (ws.drop i).all g && (decide ((ws.length : Int) ≤ 400) && decide (sz s (ws.drop i) ≤ 2001)))
  | 0, i, s, h => by
    have hi : i = ws.length := by omega
    subst hi
    unfold S_wordindex_validWords_l3
    rw [List.drop_length, List.all_nil]
    refine loopM_out ?_
    unfold S_wordindex_validWords_b3
    rw [if_neg (by simp)]
    unfold S_wordindex_validWords_j4
    simp only [List.length_map]
    rfl
  | k + 1, i, s, h => by
    have hi : i < ws.length := by omega
    have hwi := hw _ (List.getElem_mem hi)
    unfold S_wordindex_validWords_l3
    rw [List.drop_eq_getElem_cons hi, List.all_cons]
    have hst : S_wordindex_validWords_b3 none ws s (i : Int) = if (g ws[i] && (i == 0 || decide (ws.getD (i - 1) default < ws.getD i default))) = true then some (.inl (W (s + W ((ws[i].length : Int) + 1)), ((i + 1 : Nat) : Int))) else some (.inr false) := by
      unfold S_wordindex_validWords_b3
      simp only [List.length_map, Int.toNat_natCast, getDe hi]
      rw [if_pos (by simp; omega), if_pos (by omega), if_pos (by intro h2; simp only [Bool.and_eq_true, beq_iff_eq, decide_eq_true_eq] at h2; rw [W_in (by unfold inR; omega)]; omega), bytesLess_eq]
      have hc : ((decide ((i : Int) > 0)) && !decide (ws.getD (W ((i : Int) - 1)).toNat default < ws[i])) = !(i == 0 || decide (ws.getD (i - 1) default < ws[i])) := by
        by_cases e : i = 0
        · subst e; simp
        · have hw' : (W ((i : Int) - 1)).toNat = i - 1 := by rw [W_in (by unfold inR; omega)]; omega
          rw [hw', decide_eq_true (by omega : (i : Int) > 0), show (i == 0) = false by simpa using e, Bool.true_and, Bool.false_or]
      rw [hc]
      have hch := pv_chars hi hwi (s := s) ws[i].length 0 (by omega)
      rw [List.drop_zero] at hch
      unfold g
      cases h1 : ws[i] == ([] : List UInt8) with
      | true => rw [if_pos (by simp), if_neg (by simp)]; rfl
      | false =>
        cases h2 : (i == 0 || decide (ws.getD (i - 1) default < ws[i])) with
        | false => rw [if_pos (by simp), if_neg (by simp)]; rfl
        | true =>
          rw [if_neg (by simp)]
          refine hch.trans ?_
          unfold S_wordindex_validWords_j3
          simp only [Int.toNat_natCast, getDe hi]
          rw [Wi (i := i) (by omega)]
          cases ws[i].all wb <;> simp
    by_cases hc : (g ws[i] && (i == 0 || decide (ws.getD (i - 1) default < ws.getD i default))) = true
    · rw [if_pos hc] at hst
      rw [loopM_inl hst]
      refine (pv_loop hl hw k (i + 1) _ (by omega)).trans ?_
      rw [Bool.and_eq_true] at hc
      rw [hc.1, show asc ws (k + 1) i = ((i == 0 || decide (ws.getD (i - 1) default < ws.getD i default)) && asc ws k (i + 1)) from rfl, hc.2, Bool.true_and, Bool.true_and]
      rfl
    · rw [if_neg hc] at hst
      refine (loopM_out (x := some false) hst).trans ?_
      rw [show asc ws (k + 1) i = ((i == 0 || decide (ws.getD (i - 1) default < ws.getD i default)) && asc ws k (i + 1)) from rfl]
      congr 1
      cases h1 : g ws[i] with
      | false => simp
      | true =>
        rw [h1, Bool.true_and] at hc
        rw [Bool.eq_false_iff.2 hc]; rfl
theorem rv_chars {ws : List (List UInt8)} {i : Nat} (hi : i < ws.length) (hw : ws[i].length ≤ 4000000000000000) {s : Int} : ∀ (k j : Nat) (b : Bool), j + k = ws[i].length →
    S_glossatorref3_ValidWords_l4 none ws s (i : Int) b (j : Int) = S_glossatorref3_ValidWords_j3 none ws s (i : Int) (b && (ws[i].drop j).all wb)
  | 0, j, b, h => by
    have hj : j = ws[i].length := by omega
    subst hj
    unfold S_glossatorref3_ValidWords_l4
    rw [List.drop_length, List.all_nil, Bool.and_true]
    refine loopM_out ?_
    unfold S_glossatorref3_ValidWords_b4
    simp only [Int.toNat_natCast, getDe hi]
    rw [if_neg (by simp)]
  | k + 1, j, b, h => by
    have hj : j < ws[i].length := by omega
    unfold S_glossatorref3_ValidWords_l4
    rw [List.drop_eq_getElem_cons hj, List.all_cons, ← Bool.and_assoc, loopM_inl (s' := (b && wb ws[i][j], ((j + 1 : Nat) : Int))) ?_]
    · exact rv_chars hi hw k (j + 1) _ (by omega)
    · unfold S_glossatorref3_ValidWords_b4
      simp only [Int.toNat_natCast, getDe hi]
      rw [if_pos (by simp; omega), if_pos (by intro _; omega), Wi (by omega)]
      cases b with
      | true => rw [if_pos (by simp), getD0 hj, rwb_eq, Option.bind_some]
      | false => rw [if_neg (by simp), Option.bind_some]; rfl
theorem rv_loop {ws : List (List UInt8)} (hl : ws.length ≤ 4000000000000000) (hw : ∀ w ∈ ws, w.length ≤ 4000000000000000) : ∀ (k i : Nat) (s : Int) (b : Bool), i + k = ws.length →
    S_glossatorref3_ValidWords_l3 none ws s b (i : Int) = some (b && (ws.drop i).all g && decide (sz s (ws.drop i) ≤ 2001))
  | 0, i, s, b, h => by
    have hi : i = ws.length := by omega
    subst hi
    unfold S_glossatorref3_ValidWords_l3
    rw [List.drop_length, List.all_nil, Bool.and_true]
    refine loopM_out ?_
    unfold S_glossatorref3_ValidWords_b3
    rw [if_neg (by simp)]
    rfl
  | k + 1, i, s, b, h => by
    have hi : i < ws.length := by omega
    have hwi := hw _ (List.getElem_mem hi)
    unfold S_glossatorref3_ValidWords_l3
    rw [List.drop_eq_getElem_cons hi, List.all_cons, ← Bool.and_assoc, loopM_inl (s' := (W (s + W ((ws[i].length : Int) + 1)), b && g ws[i], ((i + 1 : Nat) : Int))) ?_]
    · exact rv_loop hl hw k (i + 1) _ _ (by omega)
    · unfold S_glossatorref3_ValidWords_b3
      simp only [List.length_map, Int.toNat_natCast, getDe hi]
      rw [if_pos (by simp; omega), if_pos (by omega)]
      have hch := rv_chars hi hwi (s := s) ws[i].length 0 (b && !(ws[i] == ([] : List UInt8))) (by omega)
      rw [List.drop_zero] at hch
      refine hch.trans ?_
      unfold S_glossatorref3_ValidWords_j3 g
      simp only [Int.toNat_natCast, getDe hi]
      rw [Wi (i := i) (by omega), Bool.and_assoc]
def vW (ws : List (List UInt8)) : Bool := asc ws ws.length 0 && ws.all g && (decide ((ws.length : Int) ≤ 400) && decide (sz 0 ws ≤ 2001))
theorem validWords_eq {ws : List (List UInt8)} (hl : ws.length ≤ 4000000000000000) (hw : ∀ w ∈ ws, w.length ≤ 4000000000000000) : S_wordindex_validWords none ws = some (vW ws) := by
  have := pv_loop hl hw ws.length 0 0 (by omega)
  rw [List.drop_zero] at this
  exact this
theorem rvalidWords_eq {ws : List (List UInt8)} (hl : ws.length ≤ 4000000000000000) (hw : ∀ w ∈ ws, w.length ≤ 4000000000000000) : S_glossatorref3_ValidWords none ws = some (vW ws) := by
  have hr := fun b => rv_loop hl hw ws.length 0 0 b (by omega)
  unfold S_glossatorref3_ValidWords vW
  simp only [List.length_map]
  by_cases h4 : (ws.length : Int) ≤ 400
  · rw [if_pos (by simp; omega), ss_eq (by omega), Option.bind_some, if_pos (by simp; omega), equal_eq (by omega), Option.bind_some]
    refine (hr _).trans ?_
    rw [List.drop_zero, decide_eq_true h4, Bool.true_and, Bool.true_and]
    congr 3
    rw [Bool.eq_iff_iff, decide_eq_true_eq, asc_pair]
    exact ⟨fun e => by rw [e]; exact sortS_asc _, fun h => asc_ext h (sortS_asc _) fun x => sortS_mem.symm⟩
  · rw [if_neg (by simp; omega), Option.bind_some, if_neg (by simp; omega), Option.bind_some]
    refine (hr _).trans ?_
    rw [decide_eq_false h4, Bool.false_and, Bool.false_and, Bool.false_and, Bool.false_and, Bool.and_false]
end Go.Proofs.Yteepckliibfnkaa
