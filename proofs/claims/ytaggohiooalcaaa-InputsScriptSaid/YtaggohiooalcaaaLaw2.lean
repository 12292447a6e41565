/-
  Own text Law2 of this claim: what functions of the given program compute, in plain Lean, and the proof; no condition.
-/
import Derived.Test.YtaggohiooalcaaaLaw1
namespace Go.Proofs.Ytaggohiooalcaaa
open Go.Fx
def okV (v : G_QValue) : Prop := v.f_Nums.length * 8 ≤ 140737488355328
def cellOf (x : G_Input) : G_cell := G_cell.mk x.f_Value x.f_Changed x.f_Durability
def zin : G_Input := G_Input.mk (G_QValue.mk [] []) 0 0
structure Inv (known : List G_input) (m : List (G_QKey × G_cell)) : Prop where
  h1 : ∀ x ∈ known, M m x.f_key = cellOf x.f_last
  h2 : ∀ k, (∀ x ∈ known, x.f_key ≠ k) → M m k = cell0
  h3 : ∀ (i j : Nat) (x y : G_input), known[i]? = some x → known[j]? = some y → x.f_key = y.f_key → i = j
  h4 : ∀ x ∈ known, (0 ≤ x.f_last.f_Durability ∧ x.f_last.f_Durability ≤ 2) ∧ okV x.f_last.f_Value
theorem Inv.cell {known : List G_input} {m : List (G_QKey × G_cell)} (h : Inv known m) (k : G_QKey) : (0 ≤ (M m k).f_durability ∧ (M m k).f_durability ≤ 2) ∧ okV (M m k).f_value := by
  by_cases hx : ∃ x ∈ known, x.f_key = k
  · obtain ⟨x, hx, rfl⟩ := hx
    rw [h.h1 x hx]
    exact h.h4 x hx
  · rw [h.h2 k (fun x hx' he => hx ⟨x, hx', he⟩)]
    exact ⟨⟨by decide, by decide⟩, by unfold okV; decide⟩
theorem Inv.add {known : List G_input} {m : List (G_QKey × G_cell)} (h : Inv known m) {k : G_QKey} (hk : ∀ x ∈ known, x.f_key ≠ k) : Inv (known ++ [G_input.mk k zin]) m := by
  refine ⟨fun x hx => ?_, fun k' hk' => h.h2 k' (fun x hx => hk' x (List.mem_append_left _ hx)), fun i j x y hi hj he => ?_, fun x hx => ?_⟩
  · rcases List.mem_append.1 hx with hx | hx
    · exact h.h1 x hx
    · rw [List.mem_singleton.1 hx]; exact h.h2 k hk
  · rw [List.getElem?_append] at hi hj
    split at hi <;> split at hj
    · exact h.h3 i j x y hi hj he
    · rename_i h1 h2
      have := List.mem_of_getElem? hj
      rw [List.mem_singleton.1 this] at he
      exact absurd he (hk x (List.mem_of_getElem? hi))
    · have := List.mem_of_getElem? hi
      rw [List.mem_singleton.1 this] at he
      exact absurd he.symm (hk y (List.mem_of_getElem? hj))
    · rename_i h1 h2
      have a : i - known.length < 1 := by
        rcases Nat.lt_or_ge (i - known.length) 1 with g | g
        · exact g
        · rw [List.getElem?_eq_none (by simpa using g)] at hi; cases hi
      have b : j - known.length < 1 := by
        rcases Nat.lt_or_ge (j - known.length) 1 with g | g
        · exact g
        · rw [List.getElem?_eq_none (by simpa using g)] at hj; cases hj
      omega
  · rcases List.mem_append.1 hx with hx | hx
    · exact h.h4 x hx
    · rw [List.mem_singleton.1 hx]
      exact ⟨⟨Int.le_refl 0, by show (0 : Int) ≤ 2; decide⟩, by show 0 * 8 ≤ _; decide⟩
theorem Inv.set {known : List G_input} {m : List (G_QKey × G_cell)} (h : Inv known m) {n : Nat} {x0 : G_input} (hx0 : known[n]? = some x0) {l : G_Input} (hd : 0 ≤ l.f_Durability ∧ l.f_Durability ≤ 2) (hv : okV l.f_Value) :
    Inv (known.set n (G_input.mk x0.f_key l)) (mp q_QKey m x0.f_key (cellOf l)) := by
  have hn : n < known.length := by
    rcases Nat.lt_or_ge n known.length with g | g
    · exact g
    · rw [List.getElem?_eq_none g] at hx0; cases hx0
  have get : ∀ (i : Nat) (x : G_input), (known.set n (G_input.mk x0.f_key l))[i]? = some x → (i = n ∧ x = G_input.mk x0.f_key l) ∨ (i ≠ n ∧ known[i]? = some x) := by
    intro i x hi
    rw [List.getElem?_set] at hi
    split at hi
    · rename_i he
      try split at hi
      · simp only [Option.some.injEq] at hi; exact .inl ⟨he.symm, hi.symm⟩
    · rename_i he; exact .inr ⟨fun h' => he h'.symm, hi⟩
  have mem : ∀ x ∈ known.set n (G_input.mk x0.f_key l), x = G_input.mk x0.f_key l ∨ (∃ i, i ≠ n ∧ known[i]? = some x) := by
    intro x hx
    obtain ⟨i, hi⟩ := List.mem_iff_getElem?.1 hx
    rcases get i x hi with ⟨_, h'⟩ | h'
    · exact .inl h'
    · exact .inr ⟨i, h'⟩
  have keyAt : ∀ (i : Nat) (x : G_input), (known.set n (G_input.mk x0.f_key l))[i]? = some x → ∃ y, known[i]? = some y ∧ y.f_key = x.f_key := by
    intro i x hi
    rcases get i x hi with ⟨rfl, rfl⟩ | ⟨_, h'⟩
    · exact ⟨x0, hx0, rfl⟩
    · exact ⟨x, h', rfl⟩
  refine ⟨fun x hx => ?_, fun k hk => ?_, fun i j x y hi hj he => ?_, fun x hx => ?_⟩
  · rw [M_mp]
    rcases mem x hx with rfl | ⟨i, hi, hg⟩
    · rw [if_pos rfl]
    · rw [if_neg (fun he => hi (h.h3 i n x x0 hg hx0 he))]
      exact h.h1 x (List.mem_of_getElem? hg)
  · rw [M_mp]
    have hne : x0.f_key ≠ k := hk (G_input.mk x0.f_key l) (List.mem_iff_getElem?.2 ⟨n, by rw [List.getElem?_set]; simp [hn]⟩)
    rw [if_neg (fun he => hne he.symm)]
    refine h.h2 k (fun x hx => ?_)
    obtain ⟨i, hi⟩ := List.mem_iff_getElem?.1 hx
    by_cases hin : i = n
    · subst hin; rw [hx0] at hi; simp only [Option.some.injEq] at hi; subst hi; exact hne
    · exact hk x (List.mem_iff_getElem?.2 ⟨i, by rw [List.getElem?_set]; simp [Ne.symm hin, hi]⟩)
  · obtain ⟨x', h1, h2⟩ := keyAt i x hi
    obtain ⟨y', h3, h4⟩ := keyAt j y hj
    exact h.h3 i j x' y' h1 h3 (by rw [h2, h4, he])
  · rcases mem x hx with rfl | ⟨i, _, hg⟩
    · exact ⟨hd, hv⟩
    · exact h.h4 x (List.mem_of_getElem? hg)

/-! the search -/
def Found (known : List G_input) (key : G_QKey) (n : Nat) (acc : Int) : Prop :=
  (acc = -1 ∧ ∀ j x, j < n → known[j]? = some x → x.f_key ≠ key) ∨ ∃ (i : Nat) (x : G_input), acc = (i : Int) ∧ known[i]? = some x ∧ x.f_key = key
section
variable {a0 : List G_QKey} {a1 : List G_QValue} {a2 : List Int} {a3 : Int}
theorem getD_of {α : Type} [Inhabited α] {l : List α} {i : Nat} {x : α} (h : l[i]? = some x) : l.getD i default = x := by simp [List.getD_eq_getElem?_getD, h]
theorem find_ok {v37 : Int} {i : Nat} (hi : i < a0.length) {known : List G_input} (hlen : known.length ≤ 1000) {v44 v45 v46 : Int} {v82 : Bool × Int × Int × Int × Int × Int × (List (G_QKey × G_cell))} :
    ∃ idx, Found known (a0.getD i default) known.length idx ∧ S_glossatorlaw3_InputsScript_l6 none a0 a1 a2 a3 v37 (i : Int) known v44 v45 v46 v82 (-1) 0 = S_glossatorlaw3_InputsScript_j29 none a0 a1 a2 a3 v37 (i : Int) known v44 v45 v46 v82 idx := by
  have key : ∀ (k n : Nat) (acc : Int), n + k = known.length → Found known (a0.getD i default) n acc → ∃ idx, Found known (a0.getD i default) known.length idx ∧
      loopM none (fun (s : (Int × Int)) => S_glossatorlaw3_InputsScript_b6 none a0 a1 a2 a3 v37 (i : Int) known v44 v45 v46 v82 s.1 s.2) (acc, (n : Int)) = S_glossatorlaw3_InputsScript_j29 none a0 a1 a2 a3 v37 (i : Int) known v44 v45 v46 v82 idx := by
    intro k
    induction k with
    | zero =>
      intro n acc h hf
      have : n = known.length := by omega
      subst this
      exact ⟨acc, hf, loopM_out (by simp only [S_glossatorlaw3_InputsScript_b6]; rw [if_neg (by simp)])⟩
    | succ k ih =>
      intro n acc h hf
      have hn : n < known.length := by omega
      have e : W ((n : Int) + 1) = ((n + 1 : Nat) : Int) := by rw [W_in (by unfold inR; omega)]; omega
      have hx : known[n]? = some known[n] := List.getElem?_eq_getElem hn
      have hb : S_glossatorlaw3_InputsScript_b6 none a0 a1 a2 a3 v37 (i : Int) known v44 v45 v46 v82 acc (n : Int) = some (.inl (if known[n].f_key = a0.getD i default then (n : Int) else acc, ((n + 1 : Nat) : Int))) := by
        unfold S_glossatorlaw3_InputsScript_b6 S_glossatorlaw3_InputsScript_j28
        rw [if_pos (by simpa using hn), if_pos (by omega), if_pos (by simpa using hn), if_pos (by simpa using hi), e]
        simp only [Int.toNat_natCast, Nat.zero_add, getD_of hx]
        change (if q_QKey known[n].f_key (a0.getD i default) = true then _ else _) = _
        by_cases hq : known[n].f_key = a0.getD i default
        · rw [if_pos ((q_eq _ _).2 hq), if_pos hq]
        · rw [if_neg (fun h' => hq ((q_eq _ _).1 h')), if_neg hq]
      rw [loopM_inl hb]
      refine ih (n + 1) _ (by omega) ?_
      by_cases hq : known[n].f_key = a0.getD i default
      · rw [if_pos hq]; exact .inr ⟨n, _, rfl, hx, hq⟩
      · rw [if_neg hq]
        rcases hf with ⟨h1, h2⟩ | h1
        · refine .inl ⟨h1, fun j x hj hg => ?_⟩
          by_cases hjn : j = n
          · subst hjn; rw [hx] at hg; simp only [Option.some.injEq] at hg; subst hg; exact hq
          · exact h2 j x (by omega) hg
        · exact .inr h1
  exact key known.length 0 (-1) (by omega) (.inl ⟨rfl, fun j x hj _ => by omega⟩)

/-! the last changes -/
theorem l7_ok {i : Nat} (hi : i < a2.length) {v37 : Int} {v82 : Bool × Int × Int × Int × Int × Int × (List (G_QKey × G_cell))} {idx : Int} {known : List G_input} {q : Bool} {l0 l1 l2 : Int} :
    S_glossatorlaw3_InputsScript_l7 none a0 a1 a2 a3 v37 (i : Int) v82 idx known q 0 l0 l1 l2 = S_glossatorlaw3_InputsScript_j34 none a0 a1 a2 a3 v37 (i : Int) v82 idx known q
      (up (mx2 (a2.getD i default) (known.getD (0 + idx.toNat) default).f_last.f_Durability) (W (v37 + 1)) 0 l0) (up (mx2 (a2.getD i default) (known.getD (0 + idx.toNat) default).f_last.f_Durability) (W (v37 + 1)) 1 l1) (up (mx2 (a2.getD i default) (known.getD (0 + idx.toNat) default).f_last.f_Durability) (W (v37 + 1)) 2 l2) := by
  generalize hmx : mx2 (a2.getD i default) (known.getD (0 + idx.toNat) default).f_last.f_Durability = mx
  have hb : ∀ j x0 x1 x2, S_glossatorlaw3_InputsScript_b7 none a0 a1 a2 a3 v37 (i : Int) v82 idx known q j x0 x1 x2 = if (decide (j < 3)) = true then
      (if (decide (j ≤ mx)) = true then if (0 : Int) ≤ j ∧ j < 3 then if (j == 0) = true then some (.inl (W (j + 1), W (v37 + 1), x1, x2)) else if (j == 1) = true then some (.inl (W (j + 1), x0, W (v37 + 1), x2)) else some (.inl (W (j + 1), x0, x1, W (v37 + 1))) else none
        else some (.inl (W (j + 1), x0, x1, x2)))
      else Option.map Sum.inr (S_glossatorlaw3_InputsScript_j34 none a0 a1 a2 a3 v37 (i : Int) v82 idx known q x0 x1 x2) := by
    intro j x0 x1 x2
    unfold S_glossatorlaw3_InputsScript_b7 S_glossatorlaw3_InputsScript_j33
    simp only [Int.toNat_natCast]
    rw [if_pos (c := (0 : Int) ≤ (i : Int) ∧ (i : Int) < ((a2.map e_i64).length : Int)) (by simpa using hi), ← hmx]
    rfl
  unfold S_glossatorlaw3_InputsScript_l7
  have y1 : W ((0 : Int) + 1) = 1 := by decide
  have y2 : W ((1 : Int) + 1) = 2 := by decide
  have y3 : W ((2 : Int) + 1) = 3 := by decide
  rw [loopM_inl (s' := (1, up mx (W (v37 + 1)) 0 l0, l1, l2)) (by
    simp only [hb, y1]
    by_cases h : (0 : Int) ≤ mx
    · simp [up, h]
    · simp [up, h])]
  rw [loopM_inl (s' := (2, up mx (W (v37 + 1)) 0 l0, up mx (W (v37 + 1)) 1 l1, l2)) (by
    simp only [hb, y2]
    by_cases h : (1 : Int) ≤ mx
    · simp [up, h]
    · simp [up, h])]
  rw [loopM_inl (s' := (3, up mx (W (v37 + 1)) 0 l0, up mx (W (v37 + 1)) 1 l1, up mx (W (v37 + 1)) 2 l2)) (by
    simp only [hb, y3]
    by_cases h : (2 : Int) ≤ mx
    · simp [up, h]
    · simp [up, h])]
  exact loopM_out (by simp only [hb]; rw [if_neg (by decide)])
end
end Go.Proofs.Ytaggohiooalcaaa
