/-
  Own text Law4 of this claim.
-/
import Derived.Test.YtjcckmpeflflbaaLaw3
namespace Go.Proofs.Ytjcckmpeflflbaa
open Go.Fx
set_option linter.unusedVariables false
def Sub (x y : Int) : Prop := ∀ t, tb x t = true → tb y t = true
theorem Sub.le {x y : Int} (hx : rng x) (hy : rng y) (h : Sub x y) : x ≤ y := by
  have e : bor x y = y := tb_ext (bor_rng hx hy) hy (fun t => by
    rw [tb_bor]
    cases hx : tb x t
    · simp
    · rw [h t hx]; rfl)
  have := bor_ge (y := y) hx
  omega
def Le (n : Nat) (s s' : List Int) : Prop := ∀ i, i < n → Sub (s.getD i default) (s'.getD i default)
theorem Le.refl (n : Nat) (s : List Int) : Le n s s := fun _ _ _ h => h
theorem Le.trans {n : Nat} {a b c : List Int} (h : Le n a b) (h' : Le n b c) : Le n a c := fun i hi t ht => h' i hi t (h i hi t ht)
theorem Le.antisymm {n : Nat} {a b : List Int} (ha : Sok n a) (hb : Sok n b) (h : Le n a b) (h' : Le n b a) : a = b := by
  refine List.ext_getElem (by rw [ha.1, hb.1]) fun i h1 h2 => ?_
  have e := tb_ext (ha.at (k := i) (by rw [← ha.1]; exact h1)) (hb.at (k := i) (by rw [← hb.1]; exact h2)) (fun t => by
    have g1 := h i (by rw [← ha.1]; exact h1) t
    have g2 := h' i (by rw [← ha.1]; exact h1) t
    cases hx : tb (a.getD i default) t <;> cases hy : tb (b.getD i default) t <;> simp_all)
  rwa [getD_at h1, getD_at h2] at e
theorem sub_dv {n : Nat} {s s' : List Int} {r : G_QRule} (hr : Rok n r) (h : Le n s s') : Sub (dv s r) (dv s' r) := by
  intro t ht
  rw [tb_dv] at ht ⊢
  simp only [Bool.and_eq_true, List.all_eq_true] at ht ⊢
  refine ⟨ht.1, fun k hk => ?_⟩
  have := hr.2.2 k hk
  exact h k.toNat (by omega) t (ht.2 k hk)
theorem sub_dA {n : Nat} {s s' : List Int} {l : List G_QRule} (hr : ∀ r ∈ l, Rok n r) (h : Le n s s') : Sub (dA s l) (dA s' l) := by
  intro t ht
  rw [tb_dA] at ht ⊢
  simp only [List.any_eq_true] at ht ⊢
  obtain ⟨r, h1, h2⟩ := ht
  exact ⟨r, h1, sub_dv (hr r h1) h t h2⟩
theorem sum_le : ∀ {s s' : List Int}, s.length = s'.length → (∀ i, i < s.length → s.getD i default ≤ s'.getD i default) → s.sum ≤ s'.sum ∧ (s ≠ s' → s.sum < s'.sum)
  | [], [], _, _ => by simp
  | [], _ :: _, h, _ => by simp at h
  | _ :: _, [], h, _ => by simp at h
  | x :: s, y :: s', h, hl => by
    have h0 : x ≤ y := by simpa using hl 0 (by simp)
    obtain ⟨g1, g2⟩ := sum_le (s := s) (s' := s') (by simpa using h) (fun i hi => by simpa using hl (i + 1) (by simpa using hi))
    rw [List.sum_cons, List.sum_cons]
    refine ⟨by omega, fun hne => ?_⟩
    by_cases e : s = s'
    · have : x ≠ y := fun e' => hne (by rw [e, e'])
      omega
    · have := g2 e; omega
theorem sum_rng : ∀ {s : List Int}, (∀ x ∈ s, rng x) → 0 ≤ s.sum ∧ s.sum ≤ s.length * 1048575
  | [], _ => by simp
  | x :: s, h => by
    have h0 := h x (List.mem_cons_self ..)
    obtain ⟨g1, g2⟩ := sum_rng (s := s) (fun y hy => h y (List.mem_cons_of_mem _ hy))
    unfold rng at h0
    rw [List.sum_cons, List.length_cons]
    push_cast
    constructor <;> omega
theorem Le.sum {n : Nat} {s s' : List Int} (hs : Sok n s) (hs' : Sok n s') (h : Le n s s') : s.sum ≤ s'.sum ∧ (s ≠ s' → s.sum < s'.sum) :=
  sum_le (by rw [hs.1, hs'.1]) (fun i hi => Sub.le (hs.at (by rw [← hs.1]; exact hi)) (hs'.at (by rw [← hs.1]; exact hi)) (h i (by rw [← hs.1]; exact hi)))
section
variable {p : Rules} (hv : Valid p)
include hv
theorem Fs_mono {s s' : List Int} (h : Le p.length s s') : Le p.length (Fs p s) (Fs p s') := fun i hi => by
  rw [Fs_at hi, Fs_at hi]; exact sub_dA (hv.ok _ (List.getElem_mem hi)) h
theorem kleene_all : ∀ (M : Nat) (s : List Int) (v : Int), Sok p.length s → Le p.length s (Fs p s) → (p.length : Int) * 1048575 - s.sum ≤ M → ∃ S N, S_glossatorref3_Kleene_l1 none p v s = some (S, N) ∧ S_fixpoint_Rounds_l3 none p v s = some (N, 0) ∧ Sok p.length S ∧ Fs p S = S ∧
    ∀ X, Le p.length (Fs p X) X → Le p.length s X → Le p.length S X
  | M, s, v, hs, hF, hM => by
    by_cases he : Fs p s = s
    · refine ⟨s, v, ?_, ?_, hs, he, fun X _ h => h⟩
      · unfold S_glossatorref3_Kleene_l1
        exact loopM_out (x := some (s, v)) (by rw [kleene_step hv hs, if_pos he]; rfl)
      · unfold S_fixpoint_Rounds_l3
        exact loopM_out (x := some (v, 0)) (by rw [rounds_step hv hs, if_pos he]; rfl)
    · have hlt := (hF.sum hs (Fs_ok hv s)).2 (fun e => he e.symm)
      have hb := (sum_rng (Fs_ok hv s).2).2
      rw [(Fs_ok hv s).1] at hb
      match M, hM with
      | 0, hM => omega
      | M + 1, hM =>
        obtain ⟨S, N, h1, h2, h3, h4, h5⟩ := kleene_all M (Fs p s) (W (v + 1)) (Fs_ok hv s) (Fs_mono hv hF) (by omega)
        refine ⟨S, N, ?_, ?_, h3, h4, fun X hX hsX => h5 X hX ((Fs_mono hv hsX).trans hX)⟩
        · unfold S_glossatorref3_Kleene_l1 at h1 ⊢
          rw [loopM_inl (s' := (W (v + 1), Fs p s)) (by rw [kleene_step hv hs, if_neg he]), h1]
        · unfold S_fixpoint_Rounds_l3 at h2 ⊢
          rw [loopM_inl (s' := (W (v + 1), Fs p s)) (by rw [rounds_step hv hs, if_neg he]), h2]
theorem zero_le (X : List Int) : Le p.length (List.replicate p.length 0) X := fun i hi t ht => by
  have _ := hv
  rw [getD_at (by simpa using hi)] at ht
  simp [tb] at ht
theorem kleene_ok : ∃ S N, S_glossatorref3_Kleene none p = some (S, N) ∧ S_fixpoint_Rounds_l3 none p 0 (List.replicate p.length 0) = some (N, 0) ∧ Sok p.length S ∧ Fs p S = S ∧ ∀ X, Le p.length (Fs p X) X → Le p.length S X := by
  have h60 := hv.n60
  obtain ⟨S, N, h1, h2, h3, h4, h5⟩ := kleene_all hv (p.length * 1048575) (List.replicate p.length 0) 0 (zero_ok _) (zero_le hv _) (by
    have := (sum_rng (zero_ok p.length).2).1; omega)
  refine ⟨S, N, ?_, h2, h3, h4, fun X hX => h5 X hX (zero_le hv X)⟩
  unfold S_glossatorref3_Kleene
  have hlen : (p.map eB).length = p.length := by simp
  rw [if_pos (by rw [hlen]; omega), hlen, Int.toNat_natCast, h1]
end
end Go.Proofs.Ytjcckmpeflflbaa
