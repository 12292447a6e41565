/-
  Own text Law3 of this claim: what functions of the given program compute, in plain Lean, and the proof; no condition.
-/
import Derived.Test.YtaggohiooalcaaaLaw2
namespace Go.Proofs.Ytaggohiooalcaaa
open Go.Fx
section
variable {a0 : List G_QKey} {a1 : List G_QValue} {a2 : List Int} {a3 : Int}
theorem okV_le {v : G_QValue} (h : okV v) : v.f_Nums.length ≤ 4611686018427387904 := by unfold okV at h; omega
theorem Wi {i : Nat} (h : i ≤ 1000) : W ((i : Int) + 1) = ((i + 1 : Nat) : Int) := by rw [W_in (by unfold inR; omega)]; omega
theorem j35_ok {i : Nat} (hi3 : i ≤ 1000) {c : Bool} {r x0 x1 x2 : Int} {m : List (G_QKey × G_cell)} {n : Nat} {known known' : List G_input} {q : Bool} {l0 l1 l2 : Int} {x : G_input} (hx : known[n]? = some x)
    (hc : c = ((!q) || (x.f_last.f_Durability != a2.getD i default))) :
    S_glossatorlaw3_InputsScript_j35 none a0 a1 a2 a3 (i : Int) (c, 0, r, x0, x1, x2, m) (n : Int) known q r known' l0 l1 l2 = some (.inl (r, ((i + 1 : Nat) : Int), r, x0, x1, x2, known', l0, l1, l2, m)) := by
  unfold S_glossatorlaw3_InputsScript_j35 S_glossatorlaw3_InputsScript_j36 S_inputs_Store_Revision
  simp only [Int.toNat_natCast, Nat.zero_add, getD_of hx, ← hc, Wi hi3]
  simp
theorem j30_ok {i : Nat} (hi1 : i < a1.length) (hi2 : i < a2.length) (hi3 : i ≤ 100) {rev l0 l1 l2 : Int} {known : List G_input} {m : List (G_QKey × G_cell)} (hI : Inv known m) {n : Nat} {x : G_input} (hx : known[n]? = some x) (hkey : x.f_key = a0.getD i default)
    (hd : 0 ≤ a2.getD i default ∧ a2.getD i default ≤ 2) (hv : okV (a1.getD i default)) (hlen : known.length ≤ i + 1) (hr : 0 ≤ rev ∧ rev ≤ i) {v82 : Bool × Int × Int × Int × Int × Int × (List (G_QKey × G_cell))}
    (h82 : v82 = (if ((M m (a0.getD i default)).f_durability == a2.getD i default && eqv (M m (a0.getD i default)).f_value (a1.getD i default)) = true then (false, 0, rev, l0, l1, l2, m)
      else (true, 0, W (rev + 1), up (mx2 (a2.getD i default) (M m (a0.getD i default)).f_durability) (W (rev + 1)) 0 l0, up (mx2 (a2.getD i default) (M m (a0.getD i default)).f_durability) (W (rev + 1)) 1 l1, up (mx2 (a2.getD i default) (M m (a0.getD i default)).f_durability) (W (rev + 1)) 2 l2, mp q_QKey m (a0.getD i default) (G_cell.mk (a1.getD i default) (W (rev + 1)) (a2.getD i default))))) :
    ∃ rev' l0' l1' l2' known' m', S_glossatorlaw3_InputsScript_j30 none a0 a1 a2 a3 rev (i : Int) l0 l1 l2 v82 (n : Int) known = some (.inl (rev', ((i + 1 : Nat) : Int), rev', l0', l1', l2', known', l0', l1', l2', m')) ∧ Inv known' m' ∧ known'.length ≤ i + 1 ∧ 0 ≤ rev' ∧ rev' ≤ (i + 1 : Nat) := by
  have hn : n < known.length := by
    rcases Nat.lt_or_ge n known.length with g | g
    · exact g
    · rw [List.getElem?_eq_none g] at hx; cases hx
  have hmem := List.mem_of_getElem? hx
  have hM : M m (a0.getD i default) = cellOf x.f_last := by rw [← hkey]; exact hI.h1 x hmem
  have hq : S_glossatorref3_EqualValues none (G_QValue.mk x.f_last.f_Value.f_Nums x.f_last.f_Value.f_Text) (G_QValue.mk (a1.getD i default).f_Nums (a1.getD i default).f_Text) = some (eqv x.f_last.f_Value (a1.getD i default)) := eqr_ok (okV_le (hI.h4 x hmem).2)
  have hrW : W (rev + 1) = rev + 1 := W_in (by unfold inR; omega)
  unfold S_glossatorlaw3_InputsScript_j30
  rw [if_pos (by omega), if_pos (by simpa using hn), if_pos (by simpa using hi1)]
  simp only [Int.toNat_natCast, Nat.zero_add, getD_of hx]
  rw [hq, Option.bind_some, if_pos (fun _ => by simpa using hi2)]
  rw [hM] at h82
  change v82 = (if (x.f_last.f_Durability == a2.getD i default && eqv x.f_last.f_Value (a1.getD i default)) = true then (false, 0, rev, l0, l1, l2, m) else (true, 0, W (rev + 1), up (mx2 (a2.getD i default) x.f_last.f_Durability) (W (rev + 1)) 0 l0, up (mx2 (a2.getD i default) x.f_last.f_Durability) (W (rev + 1)) 1 l1, up (mx2 (a2.getD i default) x.f_last.f_Durability) (W (rev + 1)) 2 l2, mp q_QKey m (a0.getD i default) (G_cell.mk (a1.getD i default) (W (rev + 1)) (a2.getD i default)))) at h82
  by_cases hc : (x.f_last.f_Durability == a2.getD i default && eqv x.f_last.f_Value (a1.getD i default)) = true
  · rw [if_pos hc] at h82
    subst h82
    have hneg : ((!eqv x.f_last.f_Value (a1.getD i default)) || (x.f_last.f_Durability != a2.getD i default)) = false := by
      simp only [Bool.and_eq_true, beq_iff_eq] at hc
      rw [hc.1, hc.2]; simp
    rw [if_neg (by rw [hneg]; simp)]
    refine ⟨rev, l0, l1, l2, known, m, j35_ok (by omega) hx hneg.symm, hI, hlen, hr.1, by omega⟩
  · rw [if_neg hc] at h82
    subst h82
    have hpos : ((!eqv x.f_last.f_Value (a1.getD i default)) || (x.f_last.f_Durability != a2.getD i default)) = true := by
      cases hE : eqv x.f_last.f_Value (a1.getD i default)
      · rfl
      · rw [hE] at hc
        simp only [Bool.and_true, beq_iff_eq] at hc
        simp only [Bool.not_true, Bool.false_or, bne_iff_ne, ne_eq]
        exact hc
    rw [if_pos hpos, l7_ok hi2]
    simp only [Int.toNat_natCast, Nat.zero_add, getD_of hx]
    unfold S_glossatorlaw3_InputsScript_j34
    simp only [Int.toNat_natCast, Nat.zero_add, getD_of hx]
    rw [if_pos (by simpa using hi1), if_pos (by simpa using hi2), if_pos (by omega), if_pos hn]
    rw [j35_ok (by omega) hx hpos.symm]
    refine ⟨_, _, _, _, _, _, rfl, ?_, by simpa using hlen, by omega, by omega⟩
    rw [← hkey]
    exact hI.set hx (l := G_Input.mk (a1.getD i default) (W (rev + 1)) (a2.getD i default)) hd hv

theorem body_ok (hok : ∀ v ∈ a1, okV v) {i : Nat} (hi0 : i < a0.length) (hi1 : i < a1.length) (hi2 : i < a2.length) (hi3 : i < 30) {rev l0 l1 l2 : Int} {known : List G_input} {m : List (G_QKey × G_cell)} (hI : Inv known m) (hlen : known.length ≤ i) (hr : 0 ≤ rev ∧ rev ≤ i) :
    ∃ rev' l0' l1' l2' known' m', S_glossatorlaw3_InputsScript_b5 none a0 a1 a2 a3 rev (i : Int) rev l0 l1 l2 known l0 l1 l2 m = some (.inl (rev', ((i + 1 : Nat) : Int), rev', l0', l1', l2', known', l0', l1', l2', m')) ∧ Inv known' m' ∧ known'.length ≤ i + 1 ∧ 0 ≤ rev' ∧ rev' ≤ (i + 1 : Nat) := by
  have hv : okV (a1.getD i default) := by
    rw [getD_of (List.getElem?_eq_getElem hi1)]
    exact hok _ (List.getElem_mem hi1)
  have p0 : (0 : Int) ≤ (i : Int) ∧ (i : Int) < ((a0.map e_QKey).length : Int) := by simpa using hi0
  have p1 : (0 : Int) ≤ (i : Int) ∧ (i : Int) < ((a1.map e_QValue).length : Int) := by simpa using hi1
  have p2 : (0 : Int) ≤ (i : Int) ∧ (i : Int) < ((a2.map e_i64).length : Int) := by simpa using hi2
  unfold S_glossatorlaw3_InputsScript_b5
  rw [if_pos (by simp only [List.length_map, decide_eq_true_eq]; repeat' split
                 all_goals omega), if_pos p0, if_pos p1, if_pos p2]
  simp only [Int.toNat_natCast]
  change ∃ rev' l0' l1' l2' known' m', (S_inputs_Store_Set none (a0.getD i default) (a1.getD i default) (a2.getD i default) rev l0 l1 l2 m).bind _ = _ ∧ _
  have same : ∀ e : Int, ∃ rev' l0' l1' l2' known' m', S_glossatorlaw3_InputsScript_j25 none a0 a1 a2 a3 rev (i : Int) known l0 l1 l2 (false, e, rev, l0, l1, l2, m) e = some (.inl (rev', ((i + 1 : Nat) : Int), rev', l0', l1', l2', known', l0', l1', l2', m')) ∧ Inv known' m' ∧ known'.length ≤ i + 1 ∧ 0 ≤ rev' ∧ rev' ≤ (i + 1 : Nat) := fun e => by
    refine ⟨rev, l0, l1, l2, known, m, ?_, hI, by omega, hr.1, by omega⟩
    unfold S_glossatorlaw3_InputsScript_j25 S_glossatorlaw3_InputsScript_j36
    simp [Wi (show i ≤ 1000 by omega)]
  by_cases hk : (a0.getD i default).f_Kind = 0
  · have c0 : ((a0.getD i default).f_Kind != 0) = false := by rw [hk]; rfl
    by_cases hd : 0 ≤ a2.getD i default ∧ a2.getD i default ≤ 2
    · have c1 : decide (a2.getD i default < 0) = false := decide_eq_false (by omega)
      have c2 : decide (a2.getD i default > 2) = false := decide_eq_false (by omega)
      rw [set_ok hk hd (hI.cell _).1 (okV_le (hI.cell _).2) hv, Option.bind_some, if_pos p0, if_pos (fun _ => p2), if_pos (fun _ => p2), if_neg (by rw [c0, c1, c2]; decide)]
      obtain ⟨idx, hf, he⟩ := find_ok (a0 := a0) (a1 := a1) (a2 := a2) (a3 := a3) (v37 := rev) hi0 (known := known) (by omega) (v44 := l0) (v45 := l1) (v46 := l2)
      rw [he]
      unfold S_glossatorlaw3_InputsScript_j29
      simp only [Int.toNat_natCast]
      rcases hf with ⟨rfl, hno⟩ | ⟨n, x, rfl, hx, hkey⟩
      · rw [if_pos (by decide), if_pos p0, if_pos (by simp; omega)]
        have hno' : ∀ x ∈ known, x.f_key ≠ a0.getD i default := fun x hx => by
          obtain ⟨j, hj⟩ := List.mem_iff_getElem?.1 hx
          have : j < known.length := by
            rcases Nat.lt_or_ge j known.length with g | g
            · exact g
            · rw [List.getElem?_eq_none g] at hj; cases hj
          exact hno j x this hj
        exact j30_ok hi1 hi2 (by omega) (hI.add hno') (n := known.length) (x := G_input.mk (a0.getD i default) zin) (by simp) rfl hd hv (by simp; omega) hr rfl
      · rw [if_neg (by simp)]
        exact j30_ok hi1 hi2 (by omega) hI hx hkey hd hv (by omega) hr rfl
    · have hd' : a2.getD i default < 0 ∨ 2 < a2.getD i default := by omega
      rw [set_bad2 hk hd', Option.bind_some, if_pos p0, if_pos (fun _ => p2), if_pos (fun _ => p2), if_pos (by rw [c0, Bool.false_or, Bool.or_eq_true, decide_eq_true_eq, decide_eq_true_eq]; omega), if_pos p0, if_neg (by rw [c0]; decide)]
      exact same 1
  · have c0 : ((a0.getD i default).f_Kind != 0) = true := bne_iff_ne.2 hk
    rw [set_bad1 hk, Option.bind_some, if_pos p0, if_pos (fun _ => p2), if_pos (fun _ => p2), if_pos (by rw [c0]; rfl), if_pos p0, if_pos c0]
    exact same 7

/-! the end -/
theorem lc_ok {p rev l0 l1 l2 : Int} {m : List (G_QKey × G_cell)} : S_inputs_Store_LastChange none p rev l0 l1 l2 m = some (if p < 0 ∨ p ≥ 3 then 0 else if p = 0 then l0 else if p = 1 then l1 else l2) := by
  unfold S_inputs_Store_LastChange S_inputs_Store_LastChange_j1
  by_cases h : p < 0 ∨ p ≥ 3
  · rw [if_pos (by simpa using h), if_pos h]
  · rw [if_neg (by simpa using h), if_neg h, if_pos (by omega)]
    by_cases h0 : p = 0
    · simp [h0]
    · by_cases h1 : p = 1
      · simp [h1]
      · simp [h0, h1]
theorem end_ok {p rev l0 l1 l2 : Int} {m : List (G_QKey × G_cell)} : S_glossatorlaw3_InputsScript_j38 none p rev rev l0 l1 l2 l0 l1 l2 m = some true := by
  have fin : ∀ w : Int, w = (if p < 0 ∨ p ≥ 3 then 0 else if p = 0 then l0 else if p = 1 then l1 else l2) → S_glossatorlaw3_InputsScript_j39 none p rev rev l0 l1 l2 m w = some true := by
    rintro w rfl
    unfold S_glossatorlaw3_InputsScript_j39 S_inputs_Store_Fork S_maps_Clone_inputs_cell S_inputs_Store_Revision
    rw [example_ok]
    simp [lc_ok]
  unfold S_glossatorlaw3_InputsScript_j38
  by_cases h : p < 0 ∨ p ≥ 3
  · rw [if_neg (by simp; omega)]
    exact fin 0 (by rw [if_pos h])
  · rw [if_pos (by simp; omega), if_pos (by omega)]
    rw [if_neg h] at fin
    by_cases h0 : p = 0
    · rw [if_pos (by simpa using h0)]; exact fin _ (by rw [if_pos h0])
    · by_cases h1 : p = 1
      · rw [if_neg (by simpa using h0), if_pos (by simpa using h1)]; exact fin _ (by rw [if_neg h0, if_pos h1])
      · rw [if_neg (by simpa using h0), if_neg (by simpa using h1)]; exact fin _ (by rw [if_neg h0, if_neg h1])
theorem read_ok {p rev l0 l1 l2 : Int} {known : List G_input} {m : List (G_QKey × G_cell)} (hI : Inv known m) (hlen : known.length ≤ 1000) : S_glossatorlaw3_InputsScript_j37 none p rev rev l0 l1 l2 known l0 l1 l2 m = some true := by
  have key : ∀ (k n : Nat), n + k = known.length → loopM none (fun (s : Int) => S_glossatorlaw3_InputsScript_b8 none p rev rev l0 l1 l2 known l0 l1 l2 m s) (n : Int) = some true := by
    intro k
    induction k with
    | zero =>
      intro n h
      have : n = known.length := by omega
      subst this
      exact loopM_out (by simp only [S_glossatorlaw3_InputsScript_b8]; rw [if_neg (by simp), end_ok])
    | succ k ih =>
      intro n h
      have hn : n < known.length := by omega
      have hx : known[n]? = some known[n] := List.getElem?_eq_getElem hn
      have hm : known[n] ∈ known := List.getElem_mem hn
      have hg : S_inputs_Store_Get none (G_QKey.mk known[n].f_key.f_Kind known[n].f_key.f_A known[n].f_key.f_B) rev l0 l1 l2 m = some (known[n].f_last.f_Value, known[n].f_last.f_Changed, known[n].f_last.f_Durability) := by
        have hM := hI.h1 _ hm
        unfold S_inputs_Store_Get
        have hc : (lk q_QKey m (G_QKey.mk known[n].f_key.f_Kind known[n].f_key.f_A known[n].f_key.f_B)).getD (G_cell.mk (G_QValue.mk [] []) 0 0) = cellOf known[n].f_last := hM
        rw [hc]
        have : S_inputs_clone none (G_QValue.mk (cellOf known[n].f_last).f_value.f_Nums (cellOf known[n].f_last).f_value.f_Text) = some known[n].f_last.f_Value := clone_ok (hI.h4 _ hm).2
        rw [this]
        rfl
      have hb : S_glossatorlaw3_InputsScript_b8 none p rev rev l0 l1 l2 known l0 l1 l2 m (n : Int) = some (.inl ((n + 1 : Nat) : Int)) := by
        unfold S_glossatorlaw3_InputsScript_b8
        rw [if_pos (by simpa using hn), if_pos (by omega), if_pos (by simpa using hn)]
        simp only [Int.toNat_natCast, Nat.zero_add, getD_of hx]
        rw [hg, Option.bind_some]
        have : S_glossatorref3_EqualValues none (G_QValue.mk known[n].f_last.f_Value.f_Nums known[n].f_last.f_Value.f_Text) (G_QValue.mk known[n].f_last.f_Value.f_Nums known[n].f_last.f_Value.f_Text) = some true := by
          have := eqr_ok (a := known[n].f_last.f_Value) (b := known[n].f_last.f_Value) (okV_le (hI.h4 _ hm).2)
          rw [eqv_refl] at this
          exact this
        rw [this, Option.bind_some, Wi (by omega)]
        simp
      rw [loopM_inl hb]
      exact ih (n + 1) (by omega)
  exact key known.length 0 (by omega)
theorem law (hok : ∀ v ∈ a1, okV v) : S_glossatorlaw3_InputsScript none a0 a1 a2 a3 = some true := by
  have key : ∀ (k i : Nat), i + k = min (min (min a0.length a1.length) a2.length) 30 → ∀ {rev l0 l1 l2 : Int} {known : List G_input} {m : List (G_QKey × G_cell)}, Inv known m → known.length ≤ i → 0 ≤ rev → rev ≤ i →
      S_glossatorlaw3_InputsScript_l5 none a0 a1 a2 a3 rev (i : Int) rev l0 l1 l2 known l0 l1 l2 m = some true := by
    intro k
    induction k with
    | zero =>
      intro i h rev l0 l1 l2 known m hI hlen h0 h1
      refine loopM_out (x := some true) ?_
      simp only [S_glossatorlaw3_InputsScript_b5]
      rw [if_neg (by simp only [List.length_map, decide_eq_true_eq]; repeat' split
                     all_goals omega), read_ok hI (by omega)]
    | succ k ih =>
      intro i h rev l0 l1 l2 known m hI hlen h0 h1
      obtain ⟨rev', l0', l1', l2', known', m', hb, g1, g2, g3, g4⟩ := body_ok (a0 := a0) (a2 := a2) (a3 := a3) hok (i := i) (by omega) (by omega) (by omega) (by omega) (l0 := l0) (l1 := l1) (l2 := l2) hI hlen ⟨h0, h1⟩
      have := ih (i + 1) (by omega) (l0 := l0') (l1 := l1') (l2 := l2') g1 g2 g3 g4
      unfold S_glossatorlaw3_InputsScript_l5 at this ⊢
      rw [loopM_inl (s' := (rev', ((i + 1 : Nat) : Int), rev', l0', l1', l2', known', l0', l1', l2', m')) hb]
      exact this
  unfold S_glossatorlaw3_InputsScript S_inputs_New
  rw [example_ok]
  exact key _ 0 (Nat.zero_add _) ⟨fun x hx => (by cases hx), fun k _ => rfl, fun i j x y hi => (by simp at hi), fun x hx => (by cases hx)⟩ (Nat.le_refl 0) (Int.le_refl 0) (Int.le_refl 0)
end
end Go.Proofs.Ytaggohiooalcaaa
