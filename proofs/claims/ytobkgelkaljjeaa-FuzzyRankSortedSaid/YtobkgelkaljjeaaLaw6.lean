/-
  Own text Law6 of this claim: what functions of the given program compute, in plain Lean, and the proof; no condition.
-/
import Derived.Test.YtobkgelkaljjeaaLaw5
namespace Go.Proofs.Ytobkgelkaljjeaa
open Go.Fx
set_option linter.unusedVariables false
section
variable {c : Int → Int → Int} {D : Int → Prop} {σ : Type} {g0 : σ → (Int × Int) → Option (Int × σ)} {z : σ}
theorem ins_step (hg : ∀ x y, D x → D y → g0 z (x, y) = some (c x y, z)) (P : List Int) (y : Int) (hy : D y) {a1 v14 : Int} (hv : v14 ≤ 20000) (hv' : 0 ≤ v14) : ∀ (n : Nat) (L T : List Int), L.length = n → (∀ x ∈ L, D x) → (P ++ (L ++ y :: T)).length ≤ 10000 →
    ∃ k, k ≤ L.length ∧ (∀ h : 0 < k, ∀ h2 : k - 1 < L.length, ¬ c y L[k - 1] < 0) ∧ (∀ x ∈ L.drop k, c y x < 0) ∧
      S_slices_insertionSortCmpFunc_int_l4 g0 none (P.length : Int) a1 v14 (P ++ (L ++ y :: T)) ((P.length + n : Nat) : Int) z = some (.inl (P ++ (L.take k ++ y :: (L.drop k ++ T)), v14 + 1, z))
  | 0, L, T, hn, hD, hlen => by
    have : L = [] := List.eq_nil_of_length_eq_zero hn
    subst this
    refine ⟨0, Nat.le_refl _, fun h => absurd h (Nat.lt_irrefl _), fun x hx => by simp at hx, ?_⟩
    unfold S_slices_insertionSortCmpFunc_int_l4
    refine loopM_out (x := some (Sum.inl (P ++ y :: T, v14 + 1, z))) ?_
    unfold S_slices_insertionSortCmpFunc_int_b4 S_slices_insertionSortCmpFunc_int_j11 S_slices_insertionSortCmpFunc_int_j12
    have hf : (decide (((P.length + 0 : Nat) : Int) > (P.length : Int))) = false := by simp
    simp only [hf]
    rw [if_pos (by intro h; simp at h), if_pos (by intro h; simp at h), if_pos (by intro h; simp at h), if_pos (by intro h; simp at h), if_neg (by simp), if_neg (by simp), Wz (by omega)]
    rfl
  | n + 1, L, T, hn, hD, hlen => by
    obtain ⟨L', l, rfl⟩ : ∃ L' l, L = L' ++ [l] := ⟨L.dropLast, L.getLast (fun e => by rw [e] at hn; simp at hn), (List.dropLast_concat_getLast _).symm⟩
    simp only [List.length_append, List.length_cons, List.length_nil] at hn hlen
    have e1 : P ++ ((L' ++ [l]) ++ y :: T) = (P ++ L') ++ l :: y :: T := by simp
    have r1 : ((P ++ L') ++ l :: y :: T).getD (P.length + n) default = l := gx' (by simp; omega)
    have r2 : ((P ++ L') ++ l :: y :: T).getD (P.length + (n + 1)) default = y := by
      rw [show (P ++ L') ++ l :: y :: T = (P ++ L' ++ [l]) ++ y :: T by simp]
      exact gx' (by simp; omega)
    have r3 : (((P ++ L') ++ l :: y :: T).set (P.length + (n + 1)) l).set (P.length + n) y = P ++ (L' ++ y :: (l :: T)) := by
      have := set2' (P ++ L') [] T l y
      rw [show P.length + (n + 1) = (P ++ L').length + 1 + ([] : List Int).length by simp; omega, show P.length + n = (P ++ L').length by simp; omega]
      simpa using this
    have hln : P.length + (n + 1) < ((P ++ L') ++ l :: y :: T).length := by simp; omega
    have hll : ((P ++ L') ++ l :: y :: T).length ≤ 10000 := by simp; omega
    have hDl : D l := hD l (by simp)
    have hb : S_slices_insertionSortCmpFunc_int_b4 g0 none (P.length : Int) a1 v14 ((P ++ L') ++ l :: y :: T) ((P.length + (n + 1) : Nat) : Int) z = if c y l < 0 then some (.inl (P ++ (L' ++ y :: (l :: T)), ((P.length + n : Nat) : Int), z)) else some (.inr (.inl ((P ++ L') ++ l :: y :: T, v14 + 1, z))) := by
      have w1 : W (((P.length + (n + 1) : Nat) : Int) - 1) = ((P.length + n : Nat) : Int) := by rw [Wz (by omega)]; omega
      have hf : (decide (((P.length + (n + 1) : Nat) : Int) > (P.length : Int))) = true := by simp; omega
      unfold S_slices_insertionSortCmpFunc_int_b4 S_slices_insertionSortCmpFunc_int_j11 S_slices_insertionSortCmpFunc_int_j12
      simp only [hf, w1, Int.toNat_natCast, Nat.zero_add, r1, r2, r3, List.length_set]
      rw [if_pos (by intro _; omega), if_pos (by intro _; omega), if_pos (by intro _; omega), if_pos (by intro _; omega), if_pos (by simp), hg _ _ hy hDl, Option.bind_some]
      simp only [Bool.true_and]
      by_cases hc : c y l < 0
      · rw [if_pos (by simpa using hc), if_pos (by omega), if_pos (by omega), if_pos (by omega), if_pos (by omega), if_pos (by omega), if_pos (by omega), if_pos (by omega), if_pos (by omega), if_pos hc]
      · rw [if_neg (by simpa using hc), if_neg hc, Wz (by omega)]
        rfl
    rw [e1]
    unfold S_slices_insertionSortCmpFunc_int_l4
    by_cases hc : c y l < 0
    · obtain ⟨k, k1, k2, k3, k4⟩ := ins_step hg P y hy (a1 := a1) hv hv' n L' (l :: T) (by omega) (fun x hx => hD x (by simp [hx])) (by simp; omega)
      refine ⟨k, by simp; omega, fun h h2 => ?_, fun x hx => ?_, ?_⟩
      · have h3 : k - 1 < L'.length := by omega
        rw [List.getElem_append_left h3]
        exact k2 h h3
      · rw [List.drop_append_of_le_length k1] at hx
        rcases List.mem_append.1 hx with h | h
        · exact k3 x h
        · rw [List.mem_singleton] at h; subst h; exact hc
      · rw [loopM_inl (s' := (P ++ (L' ++ y :: (l :: T)), ((P.length + n : Nat) : Int), z)) (by rw [hb, if_pos hc])]
        refine k4.trans ?_
        rw [List.take_append_of_le_length k1, List.drop_append_of_le_length k1]
        simp
    · refine ⟨(L' ++ [l]).length, Nat.le_refl _, fun h h2 => ?_, fun x hx => by simp at hx, ?_⟩
      · have : (L' ++ [l])[(L' ++ [l]).length - 1] = l := by simp
        rw [this]; exact hc
      · rw [loopM_out (x := some (Sum.inl ((P ++ L') ++ l :: y :: T, v14 + 1, z))) (by rw [hb, if_neg hc]; rfl), List.take_length, List.drop_length]
        simp
theorem good_ins (ho : Ordc c D) {M X : List Int} {y : Int} (h : Good c M X) (hD : ∀ x ∈ X, D x) (hy : D y) (hx : ∀ x ∈ X, x < y) {k : Nat} (hk : k ≤ M.length) (h1 : ∀ h : 0 < k, ∀ h2 : k - 1 < M.length, ¬ c y M[k - 1] < 0) (h2 : ∀ x ∈ M.drop k, c y x < 0) : Good c (M.take k ++ y :: M.drop k) (X ++ [y]) := by
  have hDM : ∀ x ∈ M, D x := fun x hx => hD x (h.1.mem_iff.1 hx)
  have hf1 : ∀ x ∈ M.take k, ltc c x y := fun x hxm => by
    have hk0 : 0 < k := by
      rcases Nat.eq_zero_or_pos k with h | h
      · subst h; simp at hxm
      · exact h
    have hmem : M[k - 1]'(by omega) ∈ M := List.getElem_mem _
    exact take_all ho h.2 hDM hk0 hk hy (k1 ho (hDM _ hmem) hy (hx _ (h.1.mem_iff.1 hmem)) (h1 hk0 (by omega))) x hxm
  refine ⟨?_, ?_⟩
  · have e1 : (M.take k ++ y :: M.drop k).Perm (y :: (M.take k ++ M.drop k)) := List.perm_middle
    rw [List.take_append_drop] at e1
    exact (e1.trans (h.1.cons y)).trans (List.perm_append_comm (l₁ := [y]) (l₂ := X))
  · rw [List.pairwise_append]
    refine ⟨h.2.sublist (List.take_sublist _ _), List.pairwise_cons.2 ⟨fun x hx' => .inl (h2 x hx'), h.2.sublist (List.drop_sublist _ _)⟩, fun a ha b hb => ?_⟩
    rcases List.mem_cons.1 hb with rfl | hb
    · exact hf1 a ha
    · exact ho.trans _ _ _ (hDM _ (List.mem_of_mem_take ha)) hy (hDM _ (List.mem_of_mem_drop hb)) (hf1 a ha) (.inl (h2 b hb))
theorem ins_loop (ho : Ordc c D) (hg : ∀ x y, D x → D y → g0 z (x, y) = some (c x y, z)) (P Q : List Int) : ∀ (Y M X : List Int), Good c M X → 0 < M.length → (∀ x ∈ X ++ Y, D x) → (X ++ Y).Pairwise (· < ·) → (P ++ (M ++ (Y ++ Q))).length ≤ 10000 →
    ∃ M', Good c M' (X ++ Y) ∧ S_slices_insertionSortCmpFunc_int_l3 g0 none (P.length : Int) ((P.length + M.length + Y.length : Nat) : Int) (P ++ (M ++ (Y ++ Q))) ((P.length + M.length : Nat) : Int) z = some (P ++ (M' ++ Q), z)
  | [], M, X, hM, hM0, hD, hpw, hlen => by
    refine ⟨M, by rwa [List.append_nil], ?_⟩
    unfold S_slices_insertionSortCmpFunc_int_l3
    refine loopM_out (x := some (P ++ (M ++ Q), z)) ?_
    unfold S_slices_insertionSortCmpFunc_int_b3
    rw [if_neg (by simp)]
    rfl
  | y :: Y, M, X, hM, hM0, hD, hpw, hlen => by
    have hlen' : P.length + M.length + Y.length + 1 + Q.length ≤ 10000 := by simp at hlen; omega
    have hDy : D y := hD y (by simp)
    have hXy : ∀ x ∈ X, x < y := fun x hx => (List.pairwise_append.1 hpw).2.2 x hx y (by simp)
    have hDM : ∀ x ∈ M, D x := fun x hx => hD x (List.mem_append_left _ (hM.1.mem_iff.1 hx))
    have hDX : ∀ x ∈ X, D x := fun x hx => hD x (List.mem_append_left _ hx)
    obtain ⟨k, k1, k2, k3, k4⟩ := ins_step hg P y hDy (a1 := ((P.length + M.length + (y :: Y).length : Nat) : Int)) (v14 := ((P.length + M.length : Nat) : Int)) (by omega) (by omega) M.length M (Y ++ Q) rfl hDM (by simp; omega)
    have hgi := good_ins ho hM hDX hDy hXy k1 k2 k3
    have hlk : (M.take k ++ y :: M.drop k).length = M.length + 1 := by simp; omega
    obtain ⟨M', g1, g2⟩ := ins_loop ho hg P Q Y (M.take k ++ y :: M.drop k) (X ++ [y]) hgi (by omega) (by simpa using hD) (by simpa using hpw) (by simp; omega)
    refine ⟨M', by simpa using g1, ?_⟩
    unfold S_slices_insertionSortCmpFunc_int_l3
    rw [loopM_inl (s' := (P ++ (M.take k ++ y :: (M.drop k ++ (Y ++ Q))), ((P.length + M.length : Nat) : Int) + 1, z)) ?_]
    · rw [hlk] at g2
      have e1 : P ++ (M.take k ++ y :: (M.drop k ++ (Y ++ Q))) = P ++ ((M.take k ++ y :: M.drop k) ++ (Y ++ Q)) := by simp
      have e2 : ((P.length + M.length : Nat) : Int) + 1 = ((P.length + (M.length + 1) : Nat) : Int) := by omega
      have e3 : P.length + M.length + (y :: Y).length = P.length + (M.length + 1) + Y.length := by simp; omega
      rw [e1, e2, e3]
      exact g2
    · unfold S_slices_insertionSortCmpFunc_int_b3
      rw [if_pos (by simp; omega)]
      exact k4
theorem ins_eq (ho : Ordc c D) (hg : ∀ x y, D x → D y → g0 z (x, y) = some (c x y, z)) (P Q X : List Int) (hD : ∀ x ∈ X, D x) (hpw : X.Pairwise (· < ·)) (hlen : (P ++ (X ++ Q)).length ≤ 10000) :
    ∃ M, Good c M X ∧ S_slices_insertionSortCmpFunc_int g0 none (P.length : Int) ((P.length + X.length : Nat) : Int) (P ++ (X ++ Q)) z = some (P ++ (M ++ Q), z) := by
  have hlen' : P.length + X.length + Q.length ≤ 10000 := by simpa [Nat.add_assoc] using hlen
  unfold S_slices_insertionSortCmpFunc_int
  rw [Wi (by omega)]
  match X, hD, hpw, hlen, hlen' with
  | [], _, _, _, hlen' =>
    refine ⟨[], ⟨List.Perm.refl _, List.Pairwise.nil⟩, ?_⟩
    unfold S_slices_insertionSortCmpFunc_int_l3
    refine loopM_out (x := some (P ++ ([] ++ Q), z)) ?_
    unfold S_slices_insertionSortCmpFunc_int_b3
    rw [if_neg (by simp; omega)]
  | x :: X, hD, hpw, hlen, hlen' =>
    obtain ⟨M', g1, g2⟩ := ins_loop ho hg P Q X [x] [x] ⟨List.Perm.refl _, List.pairwise_singleton _ _⟩ (by simp) (by simpa using hD) (by simpa using hpw) (by simpa using hlen)
    refine ⟨M', g1, ?_⟩
    have e : P.length + [x].length + X.length = P.length + (x :: X).length := by simp; omega
    rw [e] at g2
    exact g2
inductive Blk (c : Int → Int → Int) (bs : Nat) : List Int → List Int → Prop
  | last (M X : List Int) : X.length ≤ bs → Good c M X → Blk c bs M X
  | cons (M X A Y : List Int) : X.length = bs → Good c M X → Blk c bs A Y → Blk c bs (M ++ A) (X ++ Y)
theorem Blk.len {bs : Nat} {A Y : List Int} (h : Blk c bs A Y) : A.length = Y.length := by
  induction h with
  | last M X _ h => exact h.1.length_eq
  | cons M X A Y _ h _ ih => rw [List.length_append, List.length_append, h.1.length_eq, ih]
theorem Good.nil : Good c [] [] := ⟨List.Perm.refl _, List.Pairwise.nil⟩
theorem Blk.split {bs : Nat} {A Y : List Int} (h : Blk c bs A Y) (hl : bs ≤ Y.length) : ∃ M X A' Y', A = M ++ A' ∧ Y = X ++ Y' ∧ X.length = bs ∧ Good c M X ∧ Blk c bs A' Y' := by
  cases h with
  | last _ _ h1 h2 => exact ⟨A, Y, [], [], by simp, by simp, by omega, h2, .last [] [] (by simp) Good.nil⟩
  | cons M X A Y h1 h2 h3 => exact ⟨M, X, A, Y, rfl, rfl, h1, h2, h3⟩
theorem Blk.whole {bs : Nat} {A Y : List Int} (h : Blk c bs A Y) (hl : Y.length ≤ bs) (hb : 0 < bs) : Good c A Y := by
  cases h with
  | last _ _ h1 h2 => exact h2
  | cons M X A Y h1 h2 h3 =>
    have hY : Y = [] := by
      rw [List.length_append] at hl
      exact List.eq_nil_of_length_eq_zero (by omega)
    have hA : A = [] := by
      have := h3.len; rw [hY] at this; exact List.eq_nil_of_length_eq_zero (by simpa using this)
    subst hY; subst hA
    simpa using h2
theorem first_phase (ho : Ordc c D) (hg : ∀ x y, D x → D y → g0 z (x, y) = some (c x y, z)) {n : Nat} (hn : n ≤ 5000) : ∀ (N : Nat) (P Y : List Int), Y.length ≤ N → P.length + Y.length = n → (∀ x ∈ Y, D x) → Y.Pairwise (· < ·) →
    ∃ A, Blk c 20 A Y ∧ S_slices_stableCmpFunc_int_l1 g0 none (n : Int) (P ++ Y) (P.length : Int) ((P.length + 20 : Nat) : Int) z = S_slices_stableCmpFunc_int_l4 g0 none (n : Int) (P ++ A) 20 z := by
  intro N
  induction N with
  | zero =>
    intro P Y h hpn hD hpw
    have : Y = [] := List.eq_nil_of_length_eq_zero (by omega)
    subst this
    refine ⟨[], .last [] [] (by simp) Good.nil, ?_⟩
    obtain ⟨M, g1, g2⟩ := ins_eq ho hg P [] [] (by simp) List.Pairwise.nil (by simp at hpn ⊢; omega)
    have hM : M = [] := List.eq_nil_of_length_eq_zero (by have := good_refl_l g1; simpa using this)
    subst hM
    unfold S_slices_stableCmpFunc_int_l1
    refine loopM_out ?_
    unfold S_slices_stableCmpFunc_int_b1 S_slices_stableCmpFunc_int_j1
    simp only [List.append_nil, List.length_nil, Nat.add_zero] at g2 hpn ⊢
    rw [if_neg (by simp; omega), ← hpn, g2, Option.bind_some]
    simp
  | succ N ih =>
    intro P Y h hpn hD hpw
    by_cases h20 : 20 ≤ Y.length
    · have e0 : Y = Y.take 20 ++ Y.drop 20 := (List.take_append_drop _ _).symm
      obtain ⟨M, g1, g2⟩ := ins_eq ho hg P (Y.drop 20) (Y.take 20) (fun x hx => hD x (List.mem_of_mem_take hx)) (hpw.sublist (List.take_sublist _ _)) (by rw [List.take_append_drop, List.length_append]; omega)
      have hM := good_refl_l g1
      rw [List.length_take, Nat.min_eq_left h20] at hM
      rw [List.take_append_drop, List.length_take, Nat.min_eq_left h20] at g2
      obtain ⟨A, q1, q2⟩ := ih (P ++ M) (Y.drop 20) (by simp; omega) (by simp; omega) (fun x hx => hD x (List.mem_of_mem_drop hx)) (hpw.sublist (List.drop_sublist _ _))
      refine ⟨M ++ A, ?_, ?_⟩
      · have := Blk.cons M (Y.take 20) A (Y.drop 20) (by simp; omega) g1 q1
        rwa [List.take_append_drop] at this
      · unfold S_slices_stableCmpFunc_int_l1
        rw [loopM_inl (s' := (P ++ (M ++ Y.drop 20), ((P.length + 20 : Nat) : Int), ((P.length + 20 + 20 : Nat) : Int), z)) ?_]
        · have e1 : (P ++ M).length = P.length + 20 := by simp; omega
          rw [e1, List.append_assoc, List.append_assoc] at q2
          exact q2
        · unfold S_slices_stableCmpFunc_int_b1
          rw [if_pos (by simp; omega), g2, Option.bind_some]
          simp only
          rw [if_pos (by simp; omega), Wz (by omega)]
          congr 4
    · obtain ⟨M, g1, g2⟩ := ins_eq ho hg P [] Y hD hpw (by simp; omega)
      refine ⟨M, .last M Y (by omega) g1, ?_⟩
      have hM := good_refl_l g1
      unfold S_slices_stableCmpFunc_int_l1
      refine loopM_out ?_
      unfold S_slices_stableCmpFunc_int_b1 S_slices_stableCmpFunc_int_j1
      simp only [List.append_nil] at g2
      rw [if_neg (by simp; omega), ← hpn, g2, Option.bind_some]
      simp only
      rw [if_pos (by simp; omega)]
theorem pw_cross {X Y Z : List Int} (h : (X ++ (Y ++ Z)).Pairwise (· < ·)) : ∀ x ∈ X, ∀ y ∈ Y, x < y := fun x hx y hy => (List.pairwise_append.1 h).2.2 x hx y (List.mem_append_left _ hy)
theorem pre_of {M1 X1 M2 X2 Z : List Int} (h1 : Good c M1 X1) (h2 : Good c M2 X2) (l1 : 0 < X1.length) (l2 : 0 < X2.length) (hpw : (X1 ++ (X2 ++ Z)).Pairwise (· < ·)) (hD : ∀ x ∈ X1 ++ (X2 ++ Z), D x) : Pre2 c D M1 M2 :=
  ⟨by rw [good_refl_l h1]; exact l1, by rw [good_refl_l h2]; exact l2, h1.2, h2.2, fun x hx y hy => pw_cross hpw x (h1.1.mem_iff.1 hx) y (h2.1.mem_iff.1 hy), fun x hx => hD x (List.mem_append_left _ (h1.1.mem_iff.1 hx)), fun x hx => hD x (List.mem_append_right _ (List.mem_append_left _ (h2.1.mem_iff.1 hx)))⟩
theorem second_phase (ho : Ordc c D) (hg : ∀ x y, D x → D y → g0 z (x, y) = some (c x y, z)) {n bs : Nat} (hn : n ≤ 5000) (hb0 : 0 < bs) (hbs : bs ≤ 5000) : ∀ (N : Nat) (P A Y : List Int), Y.length ≤ N → P.length + Y.length = n → Blk c bs A Y → (∀ x ∈ Y, D x) → Y.Pairwise (· < ·) →
    ∃ A', Blk c (2 * bs) A' Y ∧ S_slices_stableCmpFunc_int_l5 g0 none (n : Int) (bs : Int) (P ++ A) (P.length : Int) ((P.length + 2 * bs : Nat) : Int) z = some (.inl (P ++ A', ((2 * bs : Nat) : Int), z)) := by
  have wb : W ((bs : Int) * 2) = ((2 * bs : Nat) : Int) := by rw [Wz (by omega)]; omega
  have wb2 : W ((2 : Int) * (bs : Int)) = ((2 * bs : Nat) : Int) := by rw [Wz (by omega)]; omega
  intro N
  induction N with
  | zero =>
    intro P A Y h hpn hB hD hpw
    have hY : Y = [] := List.eq_nil_of_length_eq_zero (by omega)
    subst hY
    have hA : A = [] := List.eq_nil_of_length_eq_zero (by have := hB.len; simpa using this)
    subst hA
    refine ⟨[], .last [] [] (by simp) Good.nil, ?_⟩
    unfold S_slices_stableCmpFunc_int_l5
    refine loopM_out (x := some _) ?_
    unfold S_slices_stableCmpFunc_int_b5 S_slices_stableCmpFunc_int_j6 S_slices_stableCmpFunc_int_j7
    simp at hpn
    rw [if_neg (by simp; omega), show W ((P.length : Int) + (bs : Int)) = ((P.length + bs : Nat) : Int) by rw [Wz (by omega)]; omega, if_neg (by simp; omega), wb]
  | succ N ih =>
    intro P A Y h hpn hB hD hpw
    by_cases h2 : 2 * bs ≤ Y.length
    · obtain ⟨M1, X1, A1, Y1, rfl, rfl, l1, g1, b1⟩ := hB.split (by omega)
      simp only [List.length_append] at h hpn h2
      obtain ⟨M2, X2, A2, Y2, rfl, rfl, l2, g2, b2⟩ := b1.split (by omega)
      simp only [List.length_append] at h hpn h2
      have hA2 := b2.len
      have e1 := good_refl_l g1
      have e2 := good_refl_l g2
      obtain ⟨M, q1, q2⟩ := sm_F (g0 := g0) (z := z) ho hg (P := P) (Q := A2) (pre_of g1 g2 (by omega) (by omega) hpw hD) (by simp; omega)
      have hgM : Good c M (X1 ++ X2) := ⟨q1.1.trans (g1.1.append g2.1), q1.2⟩
      have hMl := good_refl_l hgM
      rw [List.length_append] at hMl
      obtain ⟨A', r1, r2⟩ := ih (P ++ M) A2 Y2 (by omega) (by simp; omega) b2 (fun x hx => hD x (by simp [hx])) ((List.pairwise_append.1 (List.pairwise_append.1 hpw).2.1).2.1)
      refine ⟨M ++ A', ?_, ?_⟩
      · have := Blk.cons M (X1 ++ X2) A' Y2 (by simp; omega) hgM r1
        rwa [List.append_assoc] at this
      · unfold S_slices_stableCmpFunc_int_l5
        rw [loopM_inl (s' := (P ++ (M ++ A2), ((P.length + 2 * bs : Nat) : Int), ((P.length + 2 * bs + 2 * bs : Nat) : Int), z)) ?_]
        · have e3 : (P ++ M).length = P.length + 2 * bs := by simp; omega
          rw [e3, List.append_assoc, List.append_assoc] at r2
          exact r2
        · unfold S_slices_stableCmpFunc_int_b5
          rw [show P.length + M1.length = P.length + bs by omega, show P.length + bs + M2.length = P.length + 2 * bs by omega] at q2
          rw [if_pos (by simp; omega), show W ((P.length : Int) + (bs : Int)) = ((P.length + bs : Nat) : Int) by rw [Wz (by omega)]; omega, q2, Option.bind_some]
          simp only
          rw [if_pos (by simp; omega), wb2, Wz (by omega)]
          congr 4
    · have hbb : ∃ A', Blk c (2 * bs) A' Y ∧ S_slices_stableCmpFunc_int_j6 g0 none (n : Int) (bs : Int) (P ++ A) (P.length : Int) z = some (.inl (P ++ A', ((2 * bs : Nat) : Int), z)) := by
        unfold S_slices_stableCmpFunc_int_j6 S_slices_stableCmpFunc_int_j7
        rw [show W ((P.length : Int) + (bs : Int)) = ((P.length + bs : Nat) : Int) by rw [Wz (by omega)]; omega, wb]
        by_cases h3 : bs < Y.length
        · obtain ⟨M1, X1, A1, Y1, rfl, rfl, l1, g1, b1⟩ := hB.split (by omega)
          simp only [List.length_append] at h hpn h2 h3
          have gw := b1.whole (by omega) hb0
          have e1 := good_refl_l g1
          have e2 := good_refl_l gw
          obtain ⟨M, q1, q2⟩ := sm_F (g0 := g0) (z := z) ho hg (P := P) (L := M1) (R := A1) (Q := []) (pre_of (Z := []) g1 gw (by omega) (by omega) (by simpa using hpw) (by simpa using hD)) (by simp; omega)
          have hgM : Good c M (X1 ++ Y1) := ⟨q1.1.trans (g1.1.append gw.1), q1.2⟩
          have hMl := good_refl_l hgM
          rw [List.length_append] at hMl
          refine ⟨M, .last M _ (by simp; omega) hgM, ?_⟩
          rw [show P.length + M1.length = P.length + bs by omega, show P.length + bs + A1.length = n by omega] at q2
          simp only [List.append_nil] at q2
          rw [if_pos (by simp; omega), q2, Option.bind_some]
          simp only
          rw [if_pos (by simp; omega)]
        · refine ⟨A, .last A Y (by omega) (hB.whole (by omega) hb0), ?_⟩
          rw [if_neg (by simp; omega)]
      obtain ⟨A', r1, r2⟩ := hbb
      refine ⟨A', r1, ?_⟩
      unfold S_slices_stableCmpFunc_int_l5
      refine loopM_out ?_
      unfold S_slices_stableCmpFunc_int_b5
      rw [if_neg (by simp; omega), r2]
theorem stable_loop (ho : Ordc c D) (hg : ∀ x y, D x → D y → g0 z (x, y) = some (c x y, z)) {n : Nat} (hn : n ≤ 2000) {Y : List Int} (hY : Y.length = n) (hD : ∀ x ∈ Y, D x) (hpw : Y.Pairwise (· < ·)) : ∀ (N bs : Nat) (A : List Int), n - bs ≤ N → 0 < bs → bs ≤ 5000 → Blk c bs A Y →
    ∃ A', Good c A' Y ∧ S_slices_stableCmpFunc_int_l4 g0 none (n : Int) A (bs : Int) z = some (A', z) := by
  intro N
  induction N with
  | zero =>
    intro bs A h h0 h1 hB
    refine ⟨A, hB.whole (by omega) h0, ?_⟩
    unfold S_slices_stableCmpFunc_int_l4
    refine loopM_out (x := some (A, z)) ?_
    unfold S_slices_stableCmpFunc_int_b4
    rw [if_neg (by simp; omega)]
  | succ N ih =>
    intro bs A h h0 h1 hB
    by_cases hlt : bs < n
    · obtain ⟨A', r1, r2⟩ := second_phase ho hg (n := n) (by omega) h0 h1 n [] A Y (by omega) (by simpa using hY) hB hD hpw
      obtain ⟨A2, q1, q2⟩ := ih (2 * bs) A' (by omega) (by omega) (by omega) r1
      refine ⟨A2, q1, ?_⟩
      unfold S_slices_stableCmpFunc_int_l4
      rw [loopM_inl (s' := (A', ((2 * bs : Nat) : Int), z)) ?_]
      · exact q2
      · unfold S_slices_stableCmpFunc_int_b4
        rw [if_pos (by simp; omega), show W ((2 : Int) * (bs : Int)) = ((2 * bs : Nat) : Int) by rw [Wz (by omega)]; omega]
        simpa using r2
    · refine ⟨A, hB.whole (by omega) h0, ?_⟩
      unfold S_slices_stableCmpFunc_int_l4
      refine loopM_out (x := some (A, z)) ?_
      unfold S_slices_stableCmpFunc_int_b4
      rw [if_neg (by simp; omega)]
theorem stable_eq (ho : Ordc c D) (hg : ∀ x y, D x → D y → g0 z (x, y) = some (c x y, z)) {Y : List Int} (hY : Y.length ≤ 2000) (hD : ∀ x ∈ Y, D x) (hpw : Y.Pairwise (· < ·)) : ∃ A, Good c A Y ∧ S_slices_SortStableFunc_int g0 none Y z = some (A, z) := by
  obtain ⟨A, h1, h2⟩ := first_phase ho hg (n := Y.length) (by omega) Y.length [] Y (Nat.le_refl _) (by simp) hD hpw
  obtain ⟨A', h3, h4⟩ := stable_loop ho hg (n := Y.length) hY rfl hD hpw Y.length 20 A (by omega) (by decide) (by decide) h1
  refine ⟨A', h3, ?_⟩
  unfold S_slices_SortStableFunc_int S_slices_stableCmpFunc_int
  simp only [List.nil_append] at h2
  have e : S_slices_stableCmpFunc_int_l1 g0 none ((Y.length : Nat) : Int) Y 0 20 z = some (A', z) := h2.trans h4
  rw [e, Option.bind_some]
  simp only
  rw [if_pos (good_refl_l h3)]
end
end Go.Proofs.Ytobkgelkaljjeaa
