/-
  Own text Law8 of this claim.
-/
import Derived.Test.YtjcckmpeflflbaaLaw7
namespace Go.Proofs.Ytjcckmpeflflbaa
open Go.Fx
set_option linter.unusedVariables false
theorem idR_loop {g : G_QRule → Option Bool} {P : G_QRule → Bool} {l : List G_QRule} (hl : l.length ≤ BB) (hg : ∀ r ∈ l, g r = some (P r)) : ∀ (k i : Nat), i + k = l.length →
    ∃ j : Int, S_slices_IndexFunc_api_QRule_l1 (fun (s : Unit) (x : G_QRule) => (g x).map fun o => (o, ())) none l (i : Int) () = some (j, ()) ∧ ((j = -1 ∧ ∀ q, i ≤ q → (h : q < l.length) → P l[q] = false) ∨ ∃ q, i ≤ q ∧ ∃ h : q < l.length, j = (q : Int) ∧ P l[q] = true)
  | 0, i, h => by
    have : i = l.length := by omega
    subst this
    refine ⟨-1, ?_, .inl ⟨rfl, fun q h1 h2 => by omega⟩⟩
    unfold S_slices_IndexFunc_api_QRule_l1
    rw [loopM_out (x := some (-1, ())) ?_]
    unfold S_slices_IndexFunc_api_QRule_b1
    rw [if_neg (by simp)]
    rfl
  | k + 1, i, h => by
    have hi : i < l.length := by omega
    obtain ⟨j, h1, h2⟩ := idR_loop hl hg k (i + 1) (by omega)
    unfold S_slices_IndexFunc_api_QRule_l1 at h1 ⊢
    have hb : S_slices_IndexFunc_api_QRule_b1 (fun (s : Unit) (x : G_QRule) => (g x).map fun o => (o, ())) none l (i : Int) () = if P l[i] = true then some (.inr ((i : Int), ())) else some (.inl (((i + 1 : Nat) : Int), ())) := by
      unfold S_slices_IndexFunc_api_QRule_b1
      rw [if_pos (by simpa using hi), if_pos (by simpa using hi)]
      simp only [Int.toNat_natCast, getD_at hi]
      have e3 : (⟨l[i].f_Mask, l[i].f_All⟩ : G_QRule) = l[i] := rfl
      rw [e3, hg _ (List.getElem_mem hi)]
      simp only [Option.map_some, Option.bind_some, Wi (show i ≤ BB by unfold BB at *; omega)]
    by_cases hp : P l[i] = true
    · exact ⟨i, by rw [loopM_out (x := some ((i : Int), ())) (by rw [hb, if_pos hp]; rfl)], .inr ⟨i, Nat.le_refl _, hi, rfl, hp⟩⟩
    · refine ⟨j, by rw [loopM_inl (s' := (((i + 1 : Nat) : Int), ())) (by rw [hb, if_neg hp]), h1], ?_⟩
      rcases h2 with ⟨e, h2⟩ | ⟨q, h2, h3, h4⟩
      · refine .inl ⟨e, fun q h1 h3 => ?_⟩
        by_cases e : q = i
        · subst e; simpa using hp
        · exact h2 q (by omega) h3
      · exact .inr ⟨q, by omega, h3, h4⟩
theorem getD_set' {α : Type} [Inhabited α] (l : List α) (i j : Nat) (x : α) (hi : i < l.length) : (l.set i x).getD j default = if j = i then x else l.getD j default := by
  rw [List.getD_eq_getElem?_getD, List.getElem?_set]
  by_cases h : i = j
  · subst h; simp [hi]
  · have : ¬ j = i := fun e => h e.symm
    rw [if_neg h, if_neg this, List.getD_eq_getElem?_getD]
def clr (x : Int) (ee : Nat) : Int := ((x.toNat ^^^ (x.toNat &&& 2 ^ ee) : Nat) : Int)
theorem tb_clr (x : Int) (ee t : Nat) : tb (clr x ee) t = (tb x t && !decide (ee = t)) := by
  unfold tb clr
  rw [Int.toNat_natCast, Nat.testBit_xor, Nat.testBit_and, Nat.testBit_two_pow]
  cases x.toNat.testBit t <;> cases decide (ee = t) <;> rfl
def app (ee : Nat) (D : List Bool) (r : G_QRule) : Bool := tb r.f_Mask ee && r.f_All.all fun k => D.getD k.toNat default
section
variable {p : Rules} (hv : Valid p) {e : Int} (h0 : 0 ≤ e) (h1 : e < 20)
include hv h0 h1
theorem applies_ok {D : List Bool} (hD : D.length = p.length) {r : G_QRule} (hr : Rok p.length r) : S_fixpoint_derivations_1c none e D r = some (app e.toNat D r) := by
  have _ := hv
  have h60 := hr.2.1
  unfold S_fixpoint_derivations_1c app
  rw [if_pos h0, shr_bit hr.1 h0 h1]
  cases hb : tb r.f_Mask e.toNat
  · rw [if_neg (by decide)]; rfl
  · rw [if_pos (by decide), cfI_ok (g := S_fixpoint_derivations_1_1c none D) (P := fun k => !(D.getD k.toNat default)) (by unfold BB; omega) (fun k hk => by
      have := hr.2.2 k hk
      unfold S_fixpoint_derivations_1_1c
      rw [if_pos (by rw [List.length_map]; omega)])]
    rw [List.all_eq_not_any_not]
    rfl
structure Dv (p : Rules) (e : Int) (st : List G_QDerivation) (D : List Bool) : Prop where
  len : D.length = p.length
  ok : ∀ q (h : q < st.length), Inb p st[q] ∧ st[q].f_Element = e ∧ tb (rule p st[q]).f_Mask e.toNat = true ∧ ∀ k ∈ (rule p st[q]).f_All, ∃ x ∈ st.take q, x.f_Set = k
  mem : ∀ i, i < p.length → (D.getD i default = true ↔ ∃ x ∈ st, x.f_Set = (i : Int))
  cnt : st.length = D.count true
def Closed (p : Rules) (ee : Nat) (D : List Bool) (i : Nat) : Prop := ∀ j, i ≤ j → (h : j < p.length) → D.getD j default = true ∨ ∀ r ∈ p[j], app ee D r = false
theorem dv_add {st : List G_QDerivation} {D : List Bool} (hd : Dv p e st D) {i j : Nat} (hi : i < p.length) (hj : j < p[i].length) (hf : D.getD i default = false) (ha : app e.toNat D p[i][j] = true) :
    Dv p e (st ++ [⟨(i : Int), (j : Int), e⟩]) (D.set i true) := by
  have hl := hd.len
  have hiD : i < D.length := by omega
  have hrule : rule p ⟨(i : Int), (j : Int), e⟩ = p[i][j] := by
    unfold rule; simp only [Int.toNat_natCast, getD_at hi, getD_at hj]
  unfold app at ha
  simp only [Bool.and_eq_true, List.all_eq_true] at ha
  have hr := hv.ok _ (List.getElem_mem hi) _ (List.getElem_mem hj)
  refine ⟨by rw [List.length_set]; exact hl, fun q hq => ?_, fun a ha' => ?_, ?_⟩
  · by_cases hq' : q < st.length
    · obtain ⟨g1, g2, g3, g4⟩ := hd.ok q hq'
      rw [List.getElem_append_left hq', List.take_append_of_le_length (by omega)]
      exact ⟨g1, g2, g3, g4⟩
    · have : q = st.length := by rw [List.length_append, List.length_singleton] at hq; omega
      subst this
      rw [List.getElem_append_right (Nat.le_refl _), List.take_left]
      simp only [Nat.sub_self, List.getElem_cons_zero]
      rw [hrule]
      refine ⟨⟨by simp only; omega, by simp only; omega, by simp only; omega, by simp only [Int.toNat_natCast, getD_at hi]; omega, h0, h1⟩, trivial, ha.1, fun k hk => ?_⟩
      have hk2 := hr.2.2 k hk
      obtain ⟨x, hx, hx2⟩ := (hd.mem k.toNat (by omega)).1 (ha.2 k hk)
      exact ⟨x, hx, by rw [hx2]; omega⟩
  · rw [getD_set' D i a true hiD]
    by_cases hai : a = i
    · subst hai
      rw [if_pos rfl]
      exact ⟨fun _ => ⟨_, List.mem_append_right _ (List.mem_singleton.2 rfl), rfl⟩, fun _ => rfl⟩
    · rw [if_neg hai, hd.mem a ha']
      constructor
      · rintro ⟨x, hx, hx2⟩; exact ⟨x, List.mem_append_left _ hx, hx2⟩
      · rintro ⟨x, hx, hx2⟩
        rcases List.mem_append.1 hx with hx | hx
        · exact ⟨x, hx, hx2⟩
        · rw [List.mem_singleton.1 hx] at hx2
          simp only at hx2
          omega
  · have hDi : D[i] = false := by rwa [getD_at hiD] at hf
    rw [List.length_append, List.length_singleton, hd.cnt, List.count_set hiD, hDi]
    simp
theorem l4_loop : ∀ (c i : Nat) (st : List G_QDerivation) (b : Bool) (D : List Bool), i + c = p.length → Dv p e st D →
    ∃ st' b' D', S_fixpoint_derivations_l4 none p e st b (i : Int) D = some (.inl (st', b', D')) ∧ Dv p e st' D' ∧ ((b' = true ∧ st.length < st'.length) ∨ (st' = st ∧ D' = D ∧ b' = b ∧ Closed p e.toNat D i))
  | 0, i, st, b, D, h, hd => by
    have : i = p.length := by omega
    subst this
    refine ⟨st, b, D, ?_, hd, .inr ⟨rfl, rfl, rfl, fun j h1 h2 => by omega⟩⟩
    unfold S_fixpoint_derivations_l4
    rw [loopM_out (x := some (.inl (st, b, D))) ?_]
    unfold S_fixpoint_derivations_b4
    rw [if_neg (by simp)]
  | c + 1, i, st, b, D, h, hd => by
    have h60 := hv.n60
    have hi : i < p.length := by omega
    have hlen := hd.len
    have hc := hd.cnt
    have hcl : D.count true ≤ D.length := List.count_le_length
    obtain ⟨j, k1, k2⟩ := idR_loop (g := S_fixpoint_derivations_1c none e D) (P := app e.toNat D) (l := p[i]) (by have := hv.l20 _ (List.getElem_mem hi); unfold BB; omega) (fun r hr => applies_ok hv h0 h1 hlen (hv.ok _ (List.getElem_mem hi) r hr)) _ 0 (Nat.zero_add _)
    rw [show (((0 : Nat) : Int)) = 0 from rfl] at k1
    have hb : S_fixpoint_derivations_b4 none p e st b (i : Int) D = if D.getD i default = true then some (.inl (st, b, ((i + 1 : Nat) : Int), D)) else if j ≥ 0 then some (.inl (st ++ [⟨(i : Int), j, e⟩], true, ((i + 1 : Nat) : Int), D.set i true)) else some (.inl (st, b, ((i + 1 : Nat) : Int), D)) := by
      unfold S_fixpoint_derivations_b4 S_fixpoint_derivations_j9 S_slices_IndexFunc_api_QRule
      simp only [Int.toNat_natCast, Nat.zero_add, getD_at hi]
      rw [if_pos (by simpa using hi), if_pos (by simpa using hi), if_pos (by omega), if_pos (by omega), k1, Wi (by omega)]
      cases hDi : D.getD i default
      · rw [if_neg (by decide), if_neg (by decide), Option.bind_some]
        by_cases hj : j ≥ 0
        · rw [if_pos (by rw [decide_eq_true_eq]; exact hj), if_pos hj, if_pos (by omega), if_pos (by omega), if_pos (by rw [List.length_map, List.length_append, List.length_singleton]; omega)]
        · rw [if_neg (by rw [decide_eq_true_eq]; exact hj), if_neg hj]
      · rw [if_pos rfl, if_pos rfl]
    unfold S_fixpoint_derivations_l4
    cases hDi : D.getD i default
    · rcases k2 with ⟨rfl, k2⟩ | ⟨q, _, hq, rfl, k2⟩
      · obtain ⟨st', b', D', g1, g2, g3⟩ := l4_loop c (i + 1) st b D (by omega) hd
        unfold S_fixpoint_derivations_l4 at g1
        refine ⟨st', b', D', by rw [loopM_inl (s' := (st, b, ((i + 1 : Nat) : Int), D)) (by rw [hb, hDi, if_neg (by decide), if_neg (by decide)]), g1], g2, g3.imp id fun ⟨e1, e2, e3, e4⟩ => ⟨e1, e2, e3, fun a ha1 ha2 => ?_⟩⟩
        by_cases e : a = i
        · subst e
          refine .inr fun r hr => ?_
          obtain ⟨q, hq, rfl⟩ := List.mem_iff_getElem.1 hr
          exact k2 q (Nat.zero_le _) hq
        · exact e4 a (by omega) ha2
      · obtain ⟨st', b', D', g1, g2, g3⟩ := l4_loop c (i + 1) (st ++ [⟨(i : Int), (q : Int), e⟩]) true (D.set i true) (by omega) (dv_add hv h0 h1 hd hi hq hDi k2)
        unfold S_fixpoint_derivations_l4 at g1
        refine ⟨st', b', D', by rw [loopM_inl (s' := (st ++ [⟨(i : Int), (q : Int), e⟩], true, ((i + 1 : Nat) : Int), D.set i true)) (by rw [hb, hDi, if_neg (by decide), if_pos (by omega)]), g1], g2, .inl ?_⟩
        have hl2 : (st ++ [(⟨(i : Int), (q : Int), e⟩ : G_QDerivation)]).length = st.length + 1 := by rw [List.length_append, List.length_singleton]
        rcases g3 with ⟨e1, e2⟩ | ⟨e1, e2, e3, e4⟩
        · exact ⟨e1, by omega⟩
        · exact ⟨e3, by rw [e1]; omega⟩
    · obtain ⟨st', b', D', g1, g2, g3⟩ := l4_loop c (i + 1) st b D (by omega) hd
      unfold S_fixpoint_derivations_l4 at g1
      refine ⟨st', b', D', by rw [loopM_inl (s' := (st, b, ((i + 1 : Nat) : Int), D)) (by rw [hb, hDi, if_pos rfl]), g1], g2, g3.imp id fun ⟨e1, e2, e3, e4⟩ => ⟨e1, e2, e3, fun a ha1 ha2 => ?_⟩⟩
      by_cases e : a = i
      · subst e; exact .inl hDi
      · exact e4 a (by omega) ha2
theorem l3_loop : ∀ (M : Nat) (st : List G_QDerivation) (D : List Bool), p.length - st.length ≤ M → Dv p e st D → ∃ st' D', S_fixpoint_derivations_l3 none p e st true D = some st' ∧ Dv p e st' D' ∧ Closed p e.toNat D' 0 := by
  intro M
  induction M with
  | zero =>
    intro st D hM hd
    obtain ⟨st', b', D', g1, g2, g3⟩ := l4_loop hv h0 h1 _ 0 st false D (Nat.zero_add _) hd
    have hcl : D'.count true ≤ D'.length := List.count_le_length
    have := g2.cnt; have := g2.len
    rcases g3 with ⟨e1, e2⟩ | ⟨e1, e2, e3, e4⟩
    · omega
    · subst e1 e2 e3
      refine ⟨st', D', ?_, g2, e4⟩
      unfold S_fixpoint_derivations_l3
      rw [loopM_inl (s' := (st', false, D')) ?_, loopM_out (x := some st') ?_]
      · rfl
      · unfold S_fixpoint_derivations_b3
        rw [if_pos rfl]
        exact g1
  | succ M ih =>
    intro st D hM hd
    obtain ⟨st', b', D', g1, g2, g3⟩ := l4_loop hv h0 h1 _ 0 st false D (Nat.zero_add _) hd
    rcases g3 with ⟨e1, e2⟩ | ⟨e1, e2, e3, e4⟩
    · subst e1
      obtain ⟨st2, D2, w1, w2, w3⟩ := ih st' D' (by omega) g2
      refine ⟨st2, D2, ?_, w2, w3⟩
      unfold S_fixpoint_derivations_l3 at w1 ⊢
      rw [loopM_inl (s' := (st', true, D')) ?_, w1]
      unfold S_fixpoint_derivations_b3
      rw [if_pos rfl]
      exact g1
    · subst e1 e2 e3
      refine ⟨st', D', ?_, g2, e4⟩
      unfold S_fixpoint_derivations_l3
      rw [loopM_inl (s' := (st', false, D')) ?_, loopM_out (x := some st') ?_]
      · rfl
      · unfold S_fixpoint_derivations_b3
        rw [if_pos rfl]
        exact g1
theorem derivations_ok : ∃ st D, S_fixpoint_derivations none p e = some st ∧ Dv p e st D ∧ Closed p e.toNat D 0 := by
  have h60 := hv.n60
  have hlen : (p.map eB).length = p.length := by simp
  obtain ⟨st, D, g1, g2, g3⟩ := l3_loop hv h0 h1 p.length [] (List.replicate p.length false) (by simp) ⟨by simp, fun q h => by simp at h, fun i hi => by rw [getD_at (by simpa using hi)]; simp, by simp [List.count_replicate]⟩
  refine ⟨st, D, ?_, g2, g3⟩
  unfold S_fixpoint_derivations
  rw [hlen, if_pos (by omega), Int.toNat_natCast, g1]
theorem dv_sound {st : List G_QDerivation} {D : List Bool} (hd : Dv p e st D) {S : List Int} (hFS : Fs p S = S) : ∀ q (h : q < st.length), tb (S.getD st[q].f_Set.toNat default) e.toNat = true := by
  have _ := hv; have _ := h0; have _ := h1
  intro q
  induction q using Nat.strongRecOn with
  | _ q ih =>
    intro h
    obtain ⟨⟨a1, a2, a3, a4, _⟩, g2, g3, g4⟩ := hd.ok q h
    have hs : st[q].f_Set.toNat < p.length := by omega
    rw [getD_at hs] at a4
    have hr : st[q].f_Rule.toNat < p[st[q].f_Set.toNat].length := by omega
    have hrule : rule p st[q] = p[st[q].f_Set.toNat][st[q].f_Rule.toNat] := by unfold rule; rw [getD_at hs, getD_at hr]
    rw [← hFS, Fs_at hs, tb_dA, List.any_eq_true]
    refine ⟨rule p st[q], by rw [hrule]; exact List.getElem_mem hr, ?_⟩
    rw [tb_dv, g3, Bool.true_and, List.all_eq_true]
    intro k hk
    obtain ⟨x, hx, rfl⟩ := g4 k hk
    obtain ⟨q', hq', rfl⟩ := List.mem_iff_getElem.1 hx
    rw [List.length_take] at hq'
    rw [List.getElem_take]
    exact ih q' (by omega) (by omega)
theorem dv_complete {st : List G_QDerivation} {D : List Bool} (hd : Dv p e st D) (hcl : Closed p e.toNat D 0) {S : List Int} (hS : Sok p.length S) (hFS : Fs p S = S) (hleast : ∀ X, Le p.length (Fs p X) X → Le p.length S X) {i : Nat} (hi : i < p.length) (ht : tb (S.getD i default) e.toNat = true) : D.getD i default = true := by
  have _ := h0; have _ := h1
  have hX : ∀ j, j < p.length → ((List.range p.length).map fun a => if D.getD a default = true then S.getD a default else clr (S.getD a default) e.toNat).getD j default = if D.getD j default = true then S.getD j default else clr (S.getD j default) e.toNat := fun j hj => by
    rw [getD_at (by simpa using hj)]; simp
  have hXS : Le p.length ((List.range p.length).map fun a => if D.getD a default = true then S.getD a default else clr (S.getD a default) e.toNat) S := fun j hj t h => by
    rw [hX j hj] at h
    split at h
    · exact h
    · rw [tb_clr, Bool.and_eq_true] at h; exact h.1
  have hL := hleast _ (fun j hj t h => by
    have hSj : tb (S.getD j default) t = true := by
      rw [← hFS, Fs_at hj]
      rw [Fs_at hj] at h
      exact sub_dA (hv.ok _ (List.getElem_mem hj)) hXS t h
    rw [hX j hj]
    split
    · exact hSj
    · rename_i hDj
      rw [tb_clr, hSj, Bool.true_and]
      by_cases et : e.toNat = t
      · exfalso
        subst et
        rw [Fs_at hj, tb_dA, List.any_eq_true] at h
        obtain ⟨r, hr1, hr2⟩ := h
        rw [tb_dv, Bool.and_eq_true, List.all_eq_true] at hr2
        rcases hcl j (Nat.zero_le _) hj with h | h
        · exact hDj h
        · have := h r hr1
          unfold app at this
          rw [hr2.1, Bool.true_and] at this
          have ht2 : r.f_All.all (fun k => D.getD k.toNat default) = true := by
            rw [List.all_eq_true]
            intro k hk
            have hk2 := (hv.ok _ (List.getElem_mem hj) r hr1).2.2 k hk
            have hk3 := hr2.2 k hk
            rw [hX k.toNat (by omega)] at hk3
            split at hk3
            · assumption
            · rw [tb_clr] at hk3; simp at hk3
          rw [ht2] at this; cases this
      · simp [et])
  have := hL i hi _ ht
  rw [hX i hi] at this
  split at this
  · assumption
  · rw [tb_clr] at this; simp at this
end
end Go.Proofs.Ytjcckmpeflflbaa
