/-
  Own text Law1 of this claim: what functions of the given program compute, in plain Lean, and the proof; no condition.
-/
import Derived.Test.YtaggohiooalcaaaGenB
import Derived.Test.YtaggohiooalcaaaFxP
namespace Go.Proofs.Ytaggohiooalcaaa
open Go.Fx
theorem example_ok : S_glossatorlaw3_storeExample (some 4096) = some true := by kernel_rfl

/-! maps -/
theorem q_eq (x y : G_QKey) : q_QKey x y = true ↔ x = y := by
  cases x; cases y; simp [q_QKey]
instance : DecidableEq G_QKey := fun x y => decidable_of_iff _ (q_eq x y)
theorem lk_mp {α : Type} (k : G_QKey) (v : α) (k' : G_QKey) : ∀ m : List (G_QKey × α), lk q_QKey (mp q_QKey m k v) k' = if k' = k then some v else lk q_QKey m k'
  | [] => by simp only [mp, lk, q_eq]
  | (k0, v0) :: r => by
    have ih := lk_mp k v k' r
    simp only [mp]
    by_cases h : q_QKey k k0 = true
    · have := (q_eq _ _).1 h
      subst this
      rw [if_pos h]
      simp only [lk, q_eq]
      by_cases h2 : k' = k
      · simp [h2]
      · simp [h2]
    · rw [if_neg h]
      have hne : k ≠ k0 := fun h' => h ((q_eq _ _).2 h')
      simp only [lk, q_eq, ih]
      by_cases h2 : k' = k
      · subst h2; simp [hne]
      · simp [h2]

/-! equality -/
def eqv (a b : G_QValue) : Bool := (a.f_Text == b.f_Text) && (a.f_Nums == b.f_Nums)
theorem seq_ok {l r : List Int} (hl : l.length ≤ 4611686018427387904) : S_slices_Equal_int none l r = some (l == r) := by
  unfold S_slices_Equal_int
  by_cases hlen : l.length = r.length
  · rw [if_neg (by simp [hlen])]
    have key : ∀ (k i : Nat), i + k = l.length → loopM none (fun (s : Int) => S_slices_Equal_int_b1 none l r s) (i : Int) = some (l.drop i == r.drop i) := by
      intro k
      induction k with
      | zero =>
        intro i h
        have : i = l.length := by omega
        subst this
        rw [loopM_out (x := some true) (by simp [S_slices_Equal_int_b1, S_slices_Equal_int_j1])]
        simp [hlen]
      | succ k ih =>
        intro i h
        have hi : i < l.length := by omega
        have hi' : i < r.length := by omega
        have hb : S_slices_Equal_int_b1 none l r (i : Int) = if l[i] = r[i] then some (.inl ((i + 1 : Nat) : Int)) else some (.inr false) := by
          have e : W ((i : Int) + 1) = ((i + 1 : Nat) : Int) := by rw [W_in (by unfold inR; omega)]; omega
          simp only [S_slices_Equal_int_b1]
          rw [if_pos (by simpa using hi), if_pos (by simp; omega), if_pos (by simp; omega), e]
          simp only [Int.toNat_natCast, List.getD_eq_getElem?_getD, List.getElem?_eq_getElem hi, List.getElem?_eq_getElem hi', Option.getD_some]
          by_cases he : l[i] = r[i]
          · simp [he]
          · simp [he]
        rw [List.drop_eq_getElem_cons hi, List.drop_eq_getElem_cons hi']
        by_cases he : l[i] = r[i]
        · rw [loopM_inl (s' := ((i + 1 : Nat) : Int)) (by rw [hb, if_pos he]), ih (i + 1) (by omega), List.cons_beq_cons]
          simp only [he, beq_self_eq_true, Bool.true_and]
        · have hf : (l[i] == r[i]) = false := by simpa using he
          rw [loopM_out (x := some false) (by rw [hb, if_neg he]; rfl), List.cons_beq_cons, hf]
          rfl
    have := key l.length 0 (by omega)
    simpa [S_slices_Equal_int_l1] using this
  · rw [if_pos (by simp; omega)]
    have : l ≠ r := fun h => hlen (by rw [h])
    simp [this]
theorem eq_ok {a b : G_QValue} (hl : a.f_Nums.length ≤ 4611686018427387904) : S_inputs_Equal none a b = some (eqv a b) := by
  unfold S_inputs_Equal eqv
  by_cases h : (a.f_Text == b.f_Text) = true
  · rw [h, if_pos (show (true == true) = true from rfl), seq_ok hl]; rfl
  · have h' : (a.f_Text == b.f_Text) = false := by simpa using h
    rw [h', if_neg (by simp)]; rfl
theorem eqr_ok {a b : G_QValue} (hl : a.f_Nums.length ≤ 4611686018427387904) : S_glossatorref3_EqualValues none a b = some (eqv a b) := eq_ok hl
theorem eqv_refl (a : G_QValue) : eqv a a = true := by simp [eqv]

theorem clone_ok {v : G_QValue} (hl : v.f_Nums.length * 8 ≤ 140737488355328) : S_inputs_clone none v = some v := by
  have : S_slices_Clone_intE none v.f_Nums = some v.f_Nums := by
    cases h : v.f_Nums with
    | nil => rfl
    | cons x r =>
      rw [h] at hl
      simp only [S_slices_Clone_intE, S_slices_Clone_int]
      rw [if_pos (by simp), if_pos (by simpa using hl)]
      simp
  unfold S_inputs_clone
  rw [this]
  rfl

/-! the store -/
def cell0 : G_cell := G_cell.mk (G_QValue.mk [] []) 0 0
def M (m : List (G_QKey × G_cell)) (k : G_QKey) : G_cell := (lk q_QKey m k).getD cell0
theorem M_mp (m : List (G_QKey × G_cell)) (k : G_QKey) (v : G_cell) (k' : G_QKey) : M (mp q_QKey m k v) k' = if k' = k then v else M m k' := by
  unfold M
  rw [lk_mp]
  split <;> rfl
def up (mx r j l : Int) : Int := if j ≤ mx then r else l
def mx2 (a b : Int) : Int := if a > b then a else b
theorem mx2_in {a b : Int} (ha : 0 ≤ a ∧ a ≤ 2) (hb : 0 ≤ b ∧ b ≤ 2) : mx2 a b = 0 ∨ mx2 a b = 1 ∨ mx2 a b = 2 := by unfold mx2; split <;> omega
theorem set_loop {key : G_QKey} {v : G_QValue} {d rev l0 l1 l2 : Int} {m : List (G_QKey × G_cell)} (hmx : mx2 d (M m key).f_durability = 0 ∨ mx2 d (M m key).f_durability = 1 ∨ mx2 d (M m key).f_durability = 2) (hl : v.f_Nums.length * 8 ≤ 140737488355328) :
    S_inputs_Store_Set_l1 none key v d rev m l0 l1 l2 0 = some (true, 0, W (rev + 1), up (mx2 d (M m key).f_durability) (W (rev + 1)) 0 l0, up (mx2 d (M m key).f_durability) (W (rev + 1)) 1 l1, up (mx2 d (M m key).f_durability) (W (rev + 1)) 2 l2, mp q_QKey m key (G_cell.mk v (W (rev + 1)) d)) := by
  have hb : ∀ x0 x1 x2 i, S_inputs_Store_Set_b1 none key v d rev m x0 x1 x2 i = if (decide (i < W (mx2 d (M m key).f_durability + 1))) = true then
      if (0 : Int) ≤ i ∧ i < 3 then if (i == 0) = true then some (.inl (W (rev + 1), x1, x2, W (i + 1))) else if (i == 1) = true then some (.inl (x0, W (rev + 1), x2, W (i + 1))) else some (.inl (x0, x1, W (rev + 1), W (i + 1))) else none
      else Option.map Sum.inr (some (true, 0, W (rev + 1), x0, x1, x2, mp q_QKey m key (G_cell.mk v (W (rev + 1)) d))) := by
    intro x0 x1 x2 i
    unfold S_inputs_Store_Set_b1 S_inputs_Store_Set_j3 S_inputs_Store_Set_j4
    rw [clone_ok hl]
    rfl
  unfold S_inputs_Store_Set_l1
  have w1 : W ((0 : Int) + 1) = 1 := by decide
  have w2 : W ((1 : Int) + 1) = 2 := by decide
  have w3 : W ((2 : Int) + 1) = 3 := by decide
  have y1 : W 1 = 1 := by decide
  have y2 : W 2 = 2 := by decide
  have y3 : W 3 = 3 := by decide
  rcases hmx with h | h | h <;> rw [h] at hb ⊢
  · rw [loopM_inl (s' := (W (rev + 1), l1, l2, 1)) (by simp only [hb]; simp [y1]), loopM_out (x := some _) (by simp only [hb]; rw [w1, if_neg (by decide)])]
    simp [up]
  · rw [loopM_inl (s' := (W (rev + 1), l1, l2, 1)) (by simp only [hb]; simp [y1, y2]), loopM_inl (s' := (W (rev + 1), W (rev + 1), l2, 2)) (by simp only [hb]; simp [y2]), loopM_out (x := some _) (by simp only [hb]; rw [w2, if_neg (by decide)])]
    simp [up]
  · rw [loopM_inl (s' := (W (rev + 1), l1, l2, 1)) (by simp only [hb]; simp [y1, y3]), loopM_inl (s' := (W (rev + 1), W (rev + 1), l2, 2)) (by simp only [hb]; simp [y2, y3]), loopM_inl (s' := (W (rev + 1), W (rev + 1), W (rev + 1), 3)) (by simp only [hb]; simp [y3]), loopM_out (x := some _) (by simp only [hb]; rw [w3, if_neg (by decide)])]
    simp [up]
theorem set_ok {key : G_QKey} {v : G_QValue} {d rev l0 l1 l2 : Int} {m : List (G_QKey × G_cell)} (hk : key.f_Kind = 0) (hd : 0 ≤ d ∧ d ≤ 2) (hM : 0 ≤ (M m key).f_durability ∧ (M m key).f_durability ≤ 2) (hlM : (M m key).f_value.f_Nums.length ≤ 4611686018427387904) (hl : v.f_Nums.length * 8 ≤ 140737488355328) :
    S_inputs_Store_Set none key v d rev l0 l1 l2 m = some (if ((M m key).f_durability == d && eqv (M m key).f_value v) = true then (false, 0, rev, l0, l1, l2, m)
      else (true, 0, W (rev + 1), up (mx2 d (M m key).f_durability) (W (rev + 1)) 0 l0, up (mx2 d (M m key).f_durability) (W (rev + 1)) 1 l1, up (mx2 d (M m key).f_durability) (W (rev + 1)) 2 l2, mp q_QKey m key (G_cell.mk v (W (rev + 1)) d))) := by
  unfold S_inputs_Store_Set
  rw [if_neg (by simp [hk]), if_neg (by simp; omega)]
  have hc : (lk q_QKey m key).getD (G_cell.mk (G_QValue.mk [] []) 0 0) = M m key := rfl
  simp only [hc]
  have he : S_inputs_Equal none (G_QValue.mk (M m key).f_value.f_Nums (M m key).f_value.f_Text) v = some (eqv (M m key).f_value v) := eq_ok hlM
  rw [he]
  by_cases h : ((M m key).f_durability == d) = true
  · rw [h, if_pos (show (true == true) = true from rfl), Option.bind_some]
    simp only [Bool.true_and]
    split
    · rfl
    · exact set_loop (mx2_in hd hM) hl
  · have h' : ((M m key).f_durability == d) = false := by simpa using h
    rw [h', if_neg (by simp), Option.bind_some]
    simp only [Bool.false_and, Bool.false_eq_true, if_false]
    exact set_loop (mx2_in hd hM) hl
theorem set_bad1 {key : G_QKey} {v : G_QValue} {d rev l0 l1 l2 : Int} {m : List (G_QKey × G_cell)} (hk : key.f_Kind ≠ 0) : S_inputs_Store_Set none key v d rev l0 l1 l2 m = some (false, 7, rev, l0, l1, l2, m) := by
  unfold S_inputs_Store_Set
  rw [if_pos (by simpa using hk)]
theorem set_bad2 {key : G_QKey} {v : G_QValue} {d rev l0 l1 l2 : Int} {m : List (G_QKey × G_cell)} (hk : key.f_Kind = 0) (hd : d < 0 ∨ 2 < d) : S_inputs_Store_Set none key v d rev l0 l1 l2 m = some (false, 1, rev, l0, l1, l2, m) := by
  unfold S_inputs_Store_Set
  rw [if_neg (by simp [hk]), if_pos (by simp; omega)]
end Go.Proofs.Ytaggohiooalcaaa
