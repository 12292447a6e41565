/-
  Own text Law4 of this claim: what functions of the given program compute, in plain Lean, and the proof; no condition.
-/
import Derived.Test.YtobkgelkaljjeaaLaw3
namespace Go.Proofs.Ytobkgelkaljjeaa
open Go.Fx
set_option linter.unusedVariables false
def ltc (c : Int → Int → Int) (x y : Int) : Prop := c x y < 0 ∨ (c x y = 0 ∧ x < y)
structure Ordc (c : Int → Int → Int) (D : Int → Prop) : Prop where
  tot : ∀ x y, D x → D y → x ≠ y → ltc c x y ∨ ltc c y x
  asym : ∀ x y, D x → D y → ltc c x y → ¬ ltc c y x
  trans : ∀ x y z, D x → D y → D z → ltc c x y → ltc c y z → ltc c x z
def Good (c : Int → Int → Int) (M X : List Int) : Prop := M.Perm X ∧ M.Pairwise (ltc c)
section
variable {c : Int → Int → Int} {D : Int → Prop}
theorem Good.uniq (ho : Ordc c D) {M M' X : List Int} (hD : ∀ x ∈ X, D x) (h : Good c M X) (h' : Good c M' X) : M = M' := by
  refine List.Perm.eq_of_pairwise (le := ltc c) (fun a b ha hb h1 h2 => ?_) h.2 h'.2 (h.1.trans h'.1.symm)
  exact absurd h2 (ho.asym a b (hD a (h.1.mem_iff.1 ha)) (hD b (h'.1.mem_iff.1 hb)) h1)
theorem k1 (ho : Ordc c D) {x y : Int} (hx : D x) (hy : D y) (h : x < y) (hc : ¬ c y x < 0) : ltc c x y := by
  rcases ho.tot x y hx hy (by omega) with h1 | h1 | ⟨_, h1⟩
  · exact h1
  · exact absurd h1 hc
  · omega
variable {σ : Type} {g0 : σ → (Int × Int) → Option (Int × σ)} {z : σ}
theorem half {i j : Nat} (h : i < j) : i ≤ (i + j) / 2 ∧ (i + j) / 2 < j := by omega
theorem s1_loop {rec0 : Int → Int → Int → List Int → σ → Option (List Int × σ)} (hg : ∀ x y, D x → D y → g0 z (x, y) = some (c x y, z)) {A : List Int} (hA : A.length ≤ 10000) {a m b : Nat} {x : Int} (ha : a < A.length) (hx : A.getD a default = x) (hDx : D x) (hb : b ≤ A.length) (hD : ∀ k, m ≤ k → k < b → D (A.getD k default)) :
    ∀ (N i j : Nat), j - i ≤ N → m ≤ i → i ≤ j → j ≤ b → (i = m ∨ c (A.getD (i - 1) default) x < 0) → (j = b ∨ ¬ c (A.getD j default) x < 0) →
    ∃ p, m ≤ p ∧ p ≤ b ∧ (p = m ∨ c (A.getD (p - 1) default) x < 0) ∧ (p = b ∨ ¬ c (A.getD p default) x < 0) ∧ S_slices_symMergeCmpFunc_int_33_3_l1 rec0 g0 none (a : Int) A (i : Int) z (j : Int) = S_slices_symMergeCmpFunc_int_33_3_j1 rec0 g0 none (a : Int) A (p : Int) z := by
  intro N
  induction N with
  | zero =>
    intro i j h h1 h2 h3 h4 h5
    have : i = j := by omega
    subst this
    refine ⟨i, h1, h3, h4, h5, ?_⟩
    unfold S_slices_symMergeCmpFunc_int_33_3_l1
    refine loopM_out ?_
    unfold S_slices_symMergeCmpFunc_int_33_3_b1
    rw [if_neg (by simp)]
  | succ N ih =>
    intro i j h h1 h2 h3 h4 h5
    by_cases hij : i = j
    · exact ih i j (by omega) h1 h2 h3 h4 h5
    · obtain ⟨m1, m2⟩ := half (show i < j by omega)
      have hm := mid_eq (i := i) (j := j) (by omega)
      generalize hmm : (i + j) / 2 = h0 at m1 m2 hm
      have hb1 : S_slices_symMergeCmpFunc_int_33_3_b1 rec0 g0 none (a : Int) A (i : Int) z (j : Int) = if c (A.getD h0 default) x < 0 then some (.inl (((h0 + 1 : Nat) : Int), z, (j : Int))) else some (.inl ((i : Int), z, ((h0 : Nat) : Int))) := by
        unfold S_slices_symMergeCmpFunc_int_33_3_b1
        simp only [hm, Int.toNat_natCast, Nat.zero_add]
        rw [if_pos (by simp; omega), if_pos (by omega), if_pos (by omega), if_pos (by omega), if_pos ha, hx, hg _ _ (hD h0 (by omega) (by omega)) hDx, Option.bind_some, Wi (by omega)]
        by_cases hc : c (A.getD h0 default) x < 0
        · rw [if_pos (by simpa using hc), if_pos hc]
        · rw [if_neg (by simpa using hc), if_neg hc]
      unfold S_slices_symMergeCmpFunc_int_33_3_l1
      by_cases hc : c (A.getD h0 default) x < 0
      · rw [loopM_inl (s' := (((h0 + 1 : Nat) : Int), z, (j : Int))) (by rw [hb1, if_pos hc])]
        exact ih (h0 + 1) j (by omega) (by omega) (by omega) h3 (.inr (by rw [Nat.add_sub_cancel]; exact hc)) h5
      · rw [loopM_inl (s' := ((i : Int), z, ((h0 : Nat) : Int))) (by rw [hb1, if_neg hc])]
        exact ih i h0 (by omega) h1 m1 (by omega) h4 (.inr hc)
theorem s3_loop {rec0 : Int → Int → Int → List Int → σ → Option (List Int × σ)} (hg : ∀ x y, D x → D y → g0 z (x, y) = some (c x y, z)) {A : List Int} (hA : A.length ≤ 10000) {a m : Nat} {y : Int} (hm0 : m < A.length) (hy : A.getD m default = y) (hDy : D y) (hD : ∀ k, a ≤ k → k < m → D (A.getD k default)) :
    ∀ (N i j : Nat), j - i ≤ N → a ≤ i → i ≤ j → j ≤ m → (i = a ∨ ¬ c y (A.getD (i - 1) default) < 0) → (j = m ∨ c y (A.getD j default) < 0) →
    ∃ p, a ≤ p ∧ p ≤ m ∧ (p = a ∨ ¬ c y (A.getD (p - 1) default) < 0) ∧ (p = m ∨ c y (A.getD p default) < 0) ∧ S_slices_symMergeCmpFunc_int_33_3_l3 rec0 g0 none (m : Int) A (i : Int) z (j : Int) = S_slices_symMergeCmpFunc_int_33_3_j3 rec0 g0 none (m : Int) A (p : Int) z := by
  intro N
  induction N with
  | zero =>
    intro i j h h1 h2 h3 h4 h5
    have : i = j := by omega
    subst this
    refine ⟨i, h1, h3, h4, h5, ?_⟩
    unfold S_slices_symMergeCmpFunc_int_33_3_l3
    refine loopM_out ?_
    unfold S_slices_symMergeCmpFunc_int_33_3_b3
    rw [if_neg (by simp)]
  | succ N ih =>
    intro i j h h1 h2 h3 h4 h5
    by_cases hij : i = j
    · exact ih i j (by omega) h1 h2 h3 h4 h5
    · obtain ⟨m1, m2⟩ := half (show i < j by omega)
      have hm := mid_eq (i := i) (j := j) (by omega)
      generalize hmm : (i + j) / 2 = h0 at m1 m2 hm
      have hb1 : S_slices_symMergeCmpFunc_int_33_3_b3 rec0 g0 none (m : Int) A (i : Int) z (j : Int) = if ¬ c y (A.getD h0 default) < 0 then some (.inl (((h0 + 1 : Nat) : Int), z, (j : Int))) else some (.inl ((i : Int), z, ((h0 : Nat) : Int))) := by
        unfold S_slices_symMergeCmpFunc_int_33_3_b3
        simp only [hm, Int.toNat_natCast, Nat.zero_add]
        rw [if_pos (by simp; omega), if_pos (by omega), if_pos hm0, if_pos (by omega), if_pos (by omega), hy, hg _ _ hDy (hD h0 (by omega) (by omega)), Option.bind_some, Wi (by omega)]
        by_cases hc : c y (A.getD h0 default) < 0
        · rw [if_neg (by simpa using hc), if_neg (fun h => h hc)]
        · rw [if_pos (by simpa using hc), if_pos hc]
      unfold S_slices_symMergeCmpFunc_int_33_3_l3
      by_cases hc : c y (A.getD h0 default) < 0
      · rw [loopM_inl (s' := ((i : Int), z, ((h0 : Nat) : Int))) (by rw [hb1, if_neg (fun h => h hc)])]
        exact ih i h0 (by omega) h1 m1 (by omega) h4 (.inr hc)
      · rw [loopM_inl (s' := (((h0 + 1 : Nat) : Int), z, (j : Int))) (by rw [hb1, if_pos hc])]
        exact ih (h0 + 1) j (by omega) (by omega) (by omega) h3 (.inr (by rw [Nat.add_sub_cancel]; exact hc)) h5
theorem s5_loop {rec0 : Int → Int → Int → List Int → σ → Option (List Int × σ)} (hg : ∀ x y, D x → D y → g0 z (x, y) = some (c x y, z)) {A : List Int} (hA : A.length ≤ 10000) {a m b lo hi : Nat} (hab : a + b ≤ 20000) (hm : m ≤ 10000) (hhi : hi ≤ A.length) (hn : ∀ k, lo ≤ k → k < hi → k + 1 ≤ (a + b) / 2 + m ∧ (a + b) / 2 + m - 1 - k < A.length ∧ D (A.getD k default) ∧ D (A.getD ((a + b) / 2 + m - 1 - k) default)) :
    ∀ (N i j : Nat), j - i ≤ N → lo ≤ i → i ≤ j → j ≤ hi → (i = lo ∨ ¬ c (A.getD ((a + b) / 2 + m - i) default) (A.getD (i - 1) default) < 0) → (j = hi ∨ c (A.getD ((a + b) / 2 + m - 1 - j) default) (A.getD j default) < 0) →
    ∃ p, lo ≤ p ∧ p ≤ hi ∧ (p = lo ∨ ¬ c (A.getD ((a + b) / 2 + m - p) default) (A.getD (p - 1) default) < 0) ∧ (p = hi ∨ c (A.getD ((a + b) / 2 + m - 1 - p) default) (A.getD p default) < 0) ∧
      S_slices_symMergeCmpFunc_int_33_3_l5 rec0 g0 none (a : Int) (m : Int) (b : Int) A (i : Int) z (j : Int) = S_slices_symMergeCmpFunc_int_33_3_j6 rec0 g0 none (a : Int) (m : Int) (b : Int) A (p : Int) z := by
  have hmid := mid_eq (i := a) (j := b) (by omega)
  intro N
  induction N with
  | zero =>
    intro i j h h1 h2 h3 h4 h5
    have : i = j := by omega
    subst this
    refine ⟨i, h1, h3, h4, h5, ?_⟩
    unfold S_slices_symMergeCmpFunc_int_33_3_l5
    refine loopM_out ?_
    unfold S_slices_symMergeCmpFunc_int_33_3_b5
    rw [if_neg (by simp)]
  | succ N ih =>
    intro i j h h1 h2 h3 h4 h5
    by_cases hij : i = j
    · exact ih i j (by omega) h1 h2 h3 h4 h5
    · obtain ⟨m1, m2⟩ := half (show i < j by omega)
      have hm := mid_eq (i := i) (j := j) (by omega)
      generalize hmm : (i + j) / 2 = h0 at m1 m2 hm
      obtain ⟨q1, q2, q3, q4⟩ := hn h0 (by omega) (by omega)
      have hb1 : S_slices_symMergeCmpFunc_int_33_3_b5 rec0 g0 none (a : Int) (m : Int) (b : Int) A (i : Int) z (j : Int) = if ¬ c (A.getD ((a + b) / 2 + m - 1 - h0) default) (A.getD h0 default) < 0 then some (.inl (((h0 + 1 : Nat) : Int), z, (j : Int))) else some (.inl ((i : Int), z, ((h0 : Nat) : Int))) := by
        unfold S_slices_symMergeCmpFunc_int_33_3_b5
        have e1 : W ((((a + b) / 2 : Nat) : Int) + (m : Int)) = (((a + b) / 2 + m : Nat) : Int) := by rw [Wz (by omega)]; omega
        have e2 : W ((((a + b) / 2 + m : Nat) : Int) - 1) = (((a + b) / 2 + m - 1 : Nat) : Int) := by rw [Wz (by omega)]; omega
        have e3 : W ((((a + b) / 2 + m - 1 : Nat) : Int) - ((h0 : Nat) : Int)) = (((a + b) / 2 + m - 1 - h0 : Nat) : Int) := by rw [Wz (by omega)]; omega
        simp only [hmid, e1, e2, hm, e3, Int.toNat_natCast, Nat.zero_add]
        rw [if_pos (by simp; omega), if_pos (by omega), if_pos q2, if_pos (by omega), if_pos (by omega), hg _ _ q4 q3, Option.bind_some, Wi (by omega)]
        by_cases hc : c (A.getD ((a + b) / 2 + m - 1 - h0) default) (A.getD h0 default) < 0
        · rw [if_neg (by simpa using hc), if_neg (fun h => h hc)]
        · rw [if_pos (by simpa using hc), if_pos hc]
      unfold S_slices_symMergeCmpFunc_int_33_3_l5
      by_cases hc : c (A.getD ((a + b) / 2 + m - 1 - h0) default) (A.getD h0 default) < 0
      · rw [loopM_inl (s' := ((i : Int), z, ((h0 : Nat) : Int))) (by rw [hb1, if_neg (fun h => h hc)])]
        exact ih i h0 (by omega) h1 m1 (by omega) h4 (.inr hc)
      · rw [loopM_inl (s' := (((h0 + 1 : Nat) : Int), z, (j : Int))) (by rw [hb1, if_pos hc])]
        exact ih (h0 + 1) j (by omega) (by omega) (by omega) h3 (.inr (by rw [Nat.add_sub_cancel, show (a + b) / 2 + m - (h0 + 1) = (a + b) / 2 + m - 1 - h0 by omega]; exact hc)) h5
theorem segL {P L Z : List Int} {k : Nat} (h1 : P.length ≤ k) (h2 : k < P.length + L.length) : (P ++ (L ++ Z)).getD k default = L[k - P.length]'(by omega) := by
  rw [List.getD_eq_getElem?_getD, List.getElem?_append_right h1, List.getElem?_append_left (by omega), List.getElem?_eq_getElem (by omega)]
  rfl
theorem segR {P L R Z : List Int} {k : Nat} (h1 : P.length + L.length ≤ k) (h2 : k < P.length + L.length + R.length) : (P ++ (L ++ (R ++ Z))).getD k default = R[k - (P.length + L.length)]'(by omega) := by
  rw [List.getD_eq_getElem?_getD, List.getElem?_append_right (by omega), List.getElem?_append_right (by omega), List.getElem?_append_left (by omega), List.getElem?_eq_getElem (by omega)]
  simp only [Option.getD_some]
  congr 1; omega
theorem pw_lt {L : List Int} (h : L.Pairwise (ltc c)) {i j : Nat} (hij : i < j) (hj : j < L.length) : ltc c (L[i]'(by omega)) L[j] := (List.pairwise_iff_getElem.1 h) i j (by omega) hj hij
theorem take_all (ho : Ordc c D) {L : List Int} (hL : L.Pairwise (ltc c)) (hD : ∀ x ∈ L, D x) {k : Nat} (hk : 0 < k) (hkl : k ≤ L.length) {y : Int} (hy : D y) (h : ltc c (L[k - 1]'(by omega)) y) : ∀ x ∈ L.take k, ltc c x y := by
  intro x hx
  obtain ⟨i, hi, rfl⟩ := List.getElem_of_mem hx
  rw [List.length_take] at hi
  rw [List.getElem_take]
  by_cases he : i = k - 1
  · subst he; exact h
  · exact ho.trans _ _ _ (hD _ (List.getElem_mem _)) (hD _ (List.getElem_mem _)) hy (pw_lt hL (show i < k - 1 by omega) (by omega)) h
theorem drop_all (ho : Ordc c D) {L : List Int} (hL : L.Pairwise (ltc c)) (hD : ∀ x ∈ L, D x) {k : Nat} (hkl : k < L.length) {y : Int} (hy : D y) (h : ltc c y L[k]) : ∀ x ∈ L.drop k, ltc c y x := by
  intro x hx
  obtain ⟨i, hi, rfl⟩ := List.getElem_of_mem hx
  rw [List.length_drop] at hi
  rw [List.getElem_drop]
  by_cases he : i = 0
  · subst he; exact h
  · exact ho.trans _ _ _ hy (hD _ (List.getElem_mem _)) (hD _ (List.getElem_mem _)) h (pw_lt hL (show k < k + i by omega) (by omega))
structure Pre2 (c : Int → Int → Int) (D : Int → Prop) (L R : List Int) : Prop where
  l0 : 0 < L.length
  r0 : 0 < R.length
  ls : L.Pairwise (ltc c)
  rs : R.Pairwise (ltc c)
  x : ∀ x ∈ L, ∀ y ∈ R, x < y
  dl : ∀ x ∈ L, D x
  dr : ∀ x ∈ R, D x
theorem sm_one {rec0 : Int → Int → Int → List Int → σ → Option (List Int × σ)} (ho : Ordc c D) (hg : ∀ x y, D x → D y → g0 z (x, y) = some (c x y, z)) {P R Q : List Int} {x : Int} (hp : Pre2 c D [x] R) (hlen : (P ++ ([x] ++ (R ++ Q))).length ≤ 10000) :
    ∃ M, Good c M ([x] ++ R) ∧ S_slices_symMergeCmpFunc_int_33_3_l1 rec0 g0 none (P.length : Int) (P ++ ([x] ++ (R ++ Q))) ((P.length + 1 : Nat) : Int) z ((P.length + 1 + R.length : Nat) : Int) = some (P ++ (M ++ Q), z) := by
  have hl : P.length + 1 + R.length + Q.length ≤ 10000 := by simp at hlen; omega
  have hR : ∀ k, (h0 : P.length + 1 ≤ k) → (h : k < P.length + 1 + R.length) → (P ++ ([x] ++ (R ++ Q))).getD k default = R[k - (P.length + 1)]'(by omega) := fun k h1 h2 => segR (L := [x]) h1 h2
  have hDx : D x := hp.dl x (by simp)
  obtain ⟨p, p1, p2, p3, p4, p5⟩ := s1_loop (rec0 := rec0) hg (A := P ++ ([x] ++ (R ++ Q))) hlen (a := P.length) (m := P.length + 1) (b := P.length + 1 + R.length) (x := x) (by simp) gx hDx (by simp; omega) (fun k h1 h2 => by rw [hR k h1 h2]; exact hp.dr _ (List.getElem_mem _))
    R.length (P.length + 1) (P.length + 1 + R.length) (by omega) (Nat.le_refl _) (by omega) (Nat.le_refl _) (.inl rfl) (.inl rfl)
  obtain ⟨k, rfl⟩ : ∃ k, p = P.length + 1 + k := ⟨p - (P.length + 1), by omega⟩
  have hk : k ≤ R.length := by omega
  have hf1 : ∀ y ∈ R.take k, ltc c y x := fun y hy => by
    have hk0 : 0 < k := by
      rcases Nat.eq_zero_or_pos k with h | h
      · subst h; simp at hy
      · exact h
    refine take_all ho hp.rs hp.dr hk0 hk hDx ?_ y hy
    rcases p3 with h | h
    · omega
    · left
      rw [hR _ (by omega) (by omega)] at h
      have e : P.length + 1 + k - 1 - (P.length + 1) = k - 1 := by omega
      simpa only [e] using h
  have hf2 : ∀ y ∈ R.drop k, ltc c x y := fun y hy => by
    have hkl : k < R.length := by
      rcases Nat.lt_or_ge k R.length with h | h
      · exact h
      · rw [List.drop_eq_nil_of_le h] at hy; cases hy
    refine drop_all ho hp.rs hp.dr hkl hDx ?_ y hy
    rcases p4 with h | h
    · omega
    · rw [hR _ (by omega) (by omega)] at h
      have h' : ¬ c R[k] x < 0 := by
        have e : P.length + 1 + k - (P.length + 1) = k := by omega
        simpa only [e] using h
      exact k1 ho hDx (hp.dr _ (List.getElem_mem _)) (hp.x x (by simp) _ (List.getElem_mem _)) h'
  refine ⟨R.take k ++ x :: R.drop k, ⟨?_, ?_⟩, ?_⟩
  · have : (R.take k ++ x :: R.drop k).Perm (x :: (R.take k ++ R.drop k)) := List.perm_middle
    rw [List.take_append_drop] at this
    exact this
  · rw [List.pairwise_append]
    refine ⟨hp.rs.sublist (List.take_sublist _ _), List.pairwise_cons.2 ⟨hf2, hp.rs.sublist (List.drop_sublist _ _)⟩, fun a ha b hb => ?_⟩
    rcases List.mem_cons.1 hb with rfl | hb
    · exact hf1 a ha
    · exact ho.trans _ _ _ (hp.dr _ (List.mem_of_mem_take ha)) hDx (hp.dr _ (List.mem_of_mem_drop hb)) (hf1 a ha) (hf2 b hb)
  · rw [p5]
    unfold S_slices_symMergeCmpFunc_int_33_3_j1
    have := right_loop (g0 := g0) (z := z) (rec0 := rec0) (R.drop k ++ Q) x (p := P.length + 1 + k) (R.take k) P (by rw [List.length_take]; omega) (by rw [← List.append_assoc, List.take_append_drop]; exact hlen)
    rw [← List.append_assoc (R.take k), List.take_append_drop] at this
    refine this.trans ?_
    simp
theorem sm_last {rec0 : Int → Int → Int → List Int → σ → Option (List Int × σ)} (ho : Ordc c D) (hg : ∀ x y, D x → D y → g0 z (x, y) = some (c x y, z)) {P L Q : List Int} {y : Int} (hp : Pre2 c D L [y]) (hlen : (P ++ (L ++ ([y] ++ Q))).length ≤ 10000) :
    ∃ M, Good c M (L ++ [y]) ∧ S_slices_symMergeCmpFunc_int_33_3_l3 rec0 g0 none ((P.length + L.length : Nat) : Int) (P ++ (L ++ ([y] ++ Q))) (P.length : Int) z ((P.length + L.length : Nat) : Int) = some (P ++ (M ++ Q), z) := by
  have hl : P.length + L.length + 1 + Q.length ≤ 10000 := by simp at hlen; omega
  have hL : ∀ k, (h0 : P.length ≤ k) → (h : k < P.length + L.length) → (P ++ (L ++ ([y] ++ Q))).getD k default = L[k - P.length]'(by omega) := fun k h1 h2 => segL h1 h2
  have hDy : D y := hp.dr y (by simp)
  have hy : (P ++ (L ++ ([y] ++ Q))).getD (P.length + L.length) default = y := by
    rw [show P ++ (L ++ ([y] ++ Q)) = (P ++ L) ++ y :: Q by simp]
    exact gx' (by simp)
  obtain ⟨p, p1, p2, p3, p4, p5⟩ := s3_loop (rec0 := rec0) hg (A := P ++ (L ++ ([y] ++ Q))) hlen (a := P.length) (m := P.length + L.length) (y := y) (by simp) hy hDy (fun k h1 h2 => by rw [hL k h1 h2]; exact hp.dl _ (List.getElem_mem _))
    L.length P.length (P.length + L.length) (by omega) (Nat.le_refl _) (by omega) (Nat.le_refl _) (.inl rfl) (.inl rfl)
  obtain ⟨k, rfl⟩ : ∃ k, p = P.length + k := ⟨p - P.length, by omega⟩
  have hk : k ≤ L.length := by omega
  have hf1 : ∀ x ∈ L.take k, ltc c x y := fun x hx => by
    have hk0 : 0 < k := by
      rcases Nat.eq_zero_or_pos k with h | h
      · subst h; simp at hx
      · exact h
    refine take_all ho hp.ls hp.dl hk0 hk hDy ?_ x hx
    rcases p3 with h | h
    · omega
    · rw [hL _ (by omega) (by omega)] at h
      have e : P.length + k - 1 - P.length = k - 1 := by omega
      simp only [e] at h
      exact k1 ho (hp.dl _ (List.getElem_mem _)) hDy (hp.x _ (List.getElem_mem _) y (by simp)) h
  have hf2 : ∀ x ∈ L.drop k, ltc c y x := fun x hx => by
    have hkl : k < L.length := by
      rcases Nat.lt_or_ge k L.length with h | h
      · exact h
      · rw [List.drop_eq_nil_of_le h] at hx; cases hx
    refine drop_all ho hp.ls hp.dl hkl hDy ?_ x hx
    rcases p4 with h | h
    · omega
    · rw [hL _ (by omega) (by omega)] at h
      have e : P.length + k - P.length = k := by omega
      simp only [e] at h
      exact .inl h
  refine ⟨L.take k ++ y :: L.drop k, ⟨?_, ?_⟩, ?_⟩
  · have h1 : (L.take k ++ y :: L.drop k).Perm (y :: (L.take k ++ L.drop k)) := List.perm_middle
    rw [List.take_append_drop] at h1
    exact h1.trans (List.perm_append_comm (l₁ := [y]) (l₂ := L))
  · rw [List.pairwise_append]
    refine ⟨hp.ls.sublist (List.take_sublist _ _), List.pairwise_cons.2 ⟨hf2, hp.ls.sublist (List.drop_sublist _ _)⟩, fun a ha b hb => ?_⟩
    rcases List.mem_cons.1 hb with rfl | hb
    · exact hf1 a ha
    · exact ho.trans _ _ _ (hp.dl _ (List.mem_of_mem_take ha)) hDy (hp.dl _ (List.mem_of_mem_drop hb)) (hf1 a ha) (hf2 b hb)
  · rw [p5]
    unfold S_slices_symMergeCmpFunc_int_33_3_j3
    have := left_loop (g0 := g0) (z := z) (rec0 := rec0) (P ++ L.take k) y (L.length - k) (L.drop k) Q (by rw [List.length_drop]) (by rw [List.append_assoc, ← List.append_assoc (L.take k), List.take_append_drop]; exact hlen)
    rw [List.append_assoc, ← List.append_assoc (L.take k), List.take_append_drop, show (P ++ L.take k).length = P.length + k by simp; omega, show P.length + k + (L.length - k) = P.length + L.length by omega] at this
    refine this.trans ?_
    simp
end
end Go.Proofs.Ytobkgelkaljjeaa
