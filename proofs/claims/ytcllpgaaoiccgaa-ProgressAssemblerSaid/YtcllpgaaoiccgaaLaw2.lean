/-
  Own text Law2 of this claim: what functions of the given program compute, in plain Lean, and the proof; no condition.
-/
import Derived.Test.YtcllpgaaoiccgaaLaw1
namespace Go.Proofs.Ytcllpgaaoiccgaa
open Go.Fx
set_option linter.unusedVariables false
def inn (t : Int) (st : List G_QChunk) : List (Int × G_QChunk) := (st.filter fun c => c.f_Token == t).map fun c => (c.f_Seq, c)
theorem inn_app {t : Int} {st : List G_QChunk} {c : G_QChunk} : inn t (st ++ [c]) = if c.f_Token = t then inn t st ++ [(c.f_Seq, c)] else inn t st := by
  unfold inn
  rw [List.filter_append, List.map_append]
  by_cases h : c.f_Token = t
  · rw [if_pos h, List.filter_cons, if_pos (by simpa using h)]; rfl
  · rw [if_neg h, List.filter_cons, if_neg (by simpa using h)]; simp
theorem inn_mem {t : Int} {st : List G_QChunk} {e : Int × G_QChunk} : e ∈ inn t st ↔ e.2 ∈ st ∧ e.2.f_Token = t ∧ e.1 = e.2.f_Seq := by
  unfold inn
  simp only [List.mem_map, List.mem_filter, beq_iff_eq]
  constructor
  · rintro ⟨c, ⟨h1, h2⟩, rfl⟩; exact ⟨h1, h2, rfl⟩
  · rintro ⟨h1, h2, h3⟩; exact ⟨e.2, ⟨h1, h2⟩, by rw [← h3]⟩
theorem inn_cons {t : Int} {st : List G_QChunk} {c : G_QChunk} : inn t (c :: st) = if c.f_Token = t then (c.f_Seq, c) :: inn t st else inn t st := by
  unfold inn
  by_cases h : c.f_Token = t
  · rw [if_pos h, List.filter_cons, if_pos (by simpa using h)]; rfl
  · rw [if_neg h, List.filter_cons, if_neg (by simpa using h)]
theorem chunk_loop {st : List G_QChunk} (hst : st.length ≤ 100000) (t q : Int) : ∀ (k i : Nat), i + k = st.length →
    S_glossatorref3_chunk_l1 none st t q (i : Int) = some (match lk q_i64 (inn t (st.drop i)) q with | some c => (c, true) | none => (⟨0, 0, false, []⟩, false))
  | 0, i, h => by
    unfold S_glossatorref3_chunk_l1
    rw [show st.drop i = [] from List.drop_eq_nil_iff.2 (by omega)]
    refine loopM_out ?_
    unfold S_glossatorref3_chunk_b1
    rw [if_neg (by simp; omega)]
    rfl
  | k + 1, i, h => by
    have hi : i < st.length := by omega
    have ih := chunk_loop hst t q k (i + 1) (by omega)
    rw [List.drop_eq_getElem_cons hi, inn_cons]
    unfold S_glossatorref3_chunk_l1 at ih ⊢
    by_cases ht : st[i].f_Token = t
    · rw [if_pos ht]
      by_cases hq : st[i].f_Seq = q
      · simp only [lk, q_iff, hq.symm, if_true]
        refine loopM_out ?_
        unfold S_glossatorref3_chunk_b1
        simp only [List.length_map, Int.toNat_natCast, getD_at hi]
        rw [if_pos (by simpa using hi), if_pos (by omega), if_pos (by simp [ht])]
      · simp only [lk, q_iff]
        rw [if_neg (fun e => hq e.symm), loopM_inl (s' := ((i + 1 : Nat) : Int)), ih]
        unfold S_glossatorref3_chunk_b1
        simp only [List.length_map, Int.toNat_natCast, getD_at hi]
        rw [if_pos (by simpa using hi), if_pos (by omega), if_neg (by simp [hq]), Wi (by omega)]
    · rw [if_neg ht, loopM_inl (s' := ((i + 1 : Nat) : Int)), ih]
      unfold S_glossatorref3_chunk_b1
      simp only [List.length_map, Int.toNat_natCast, getD_at hi]
      rw [if_pos (by simpa using hi), if_pos (by omega), if_neg (by simp [ht]), Wi (by omega)]
theorem chunk_eq {st : List G_QChunk} (hst : st.length ≤ 100000) (t q : Int) : S_glossatorref3_chunk none st t q = some (match lk q_i64 (inn t st) q with | some c => (c, true) | none => (⟨0, 0, false, []⟩, false)) := by
  unfold S_glossatorref3_chunk
  have := chunk_loop hst t q st.length 0 (by omega)
  simpa using this
def rel (c s : G_QChunk) : Bool := s.f_Token == c.f_Token && (s.f_Seq == c.f_Seq || s.f_Last && decide (s.f_Seq < c.f_Seq) || c.f_Last && decide (s.f_Seq > c.f_Seq))
def ident (c s : G_QChunk) : Bool := s.f_Seq == c.f_Seq && decide (s.f_Last = c.f_Last ∧ s.f_Items = c.f_Items)
def scanA (c : G_QChunk) : List G_QChunk → Option Int
  | [] => none
  | s :: r => if rel c s then (if ident c s then some 0 else some 10) else scanA c r
theorem add_loop {st : List G_QChunk} (hst : st.length ≤ 100000) (hI : ∀ s ∈ st, s.f_Items.length ≤ 100000) (c : G_QChunk) : ∀ (k i : Nat), i + k = st.length →
    S_glossatorref3_AddChunk_l1 none st c (i : Int) = some (match scanA c (st.drop i) with | some e => (st, false, e) | none => (st ++ [c], true, 0))
  | 0, i, h => by
    unfold S_glossatorref3_AddChunk_l1
    rw [show st.drop i = [] from List.drop_eq_nil_iff.2 (by omega)]
    refine loopM_out ?_
    unfold S_glossatorref3_AddChunk_b1
    rw [if_neg (by simp; omega)]
    unfold S_glossatorref3_AddChunk_j4 S_glossatorref3_Clone_api_QChunk
    rw [if_pos (by simp; omega), Option.bind_some, if_pos (by simp; omega)]
    rfl
  | k + 1, i, h => by
    have hi : i < st.length := by omega
    have ih := add_loop hst hI c k (i + 1) (by omega)
    rw [List.drop_eq_getElem_cons hi]
    have hb : S_glossatorref3_AddChunk_b1 none st c (i : Int) = if rel c st[i] then some (.inr (st, false, if ident c st[i] then 0 else 10)) else some (.inl ((i + 1 : Nat) : Int)) := by
      unfold S_glossatorref3_AddChunk_b1
      simp only [List.length_map, Int.toNat_natCast, getD_at hi]
      rw [if_pos (by simpa using hi), if_pos (by omega)]
      by_cases ht : st[i].f_Token = c.f_Token
      · rw [if_neg (by simp [ht])]
        by_cases hq : st[i].f_Seq = c.f_Seq
        · have hr : rel c st[i] = true := by simp [rel, ht, hq]
          rw [if_pos (by simp [hq]), eqC1 ht hq (hI _ (List.getElem_mem hi)), Option.bind_some, if_pos hr]
          by_cases hd : st[i].f_Last = c.f_Last ∧ st[i].f_Items = c.f_Items
          · rw [if_pos (by simp [hq, hd]), if_pos (by simp [ident, hq, hd])]; rfl
          · rw [if_neg (by simp [hd]), if_pos (by simp [hq]), if_neg (by simp [ident, hd])]; rfl
        · rw [if_neg (by simp [hq]), Option.bind_some, if_neg (by simp)]
          have hid : ident c st[i] = false := by simp [ident, hq]
          have hrel : rel c st[i] = (st[i].f_Last && decide (st[i].f_Seq < c.f_Seq) || c.f_Last && decide (st[i].f_Seq > c.f_Seq)) := by
            have hq' : (st[i].f_Seq == c.f_Seq) = false := by simpa using hq
            simp [rel, ht, hq']
          have hq' : (st[i].f_Seq == c.f_Seq) = false := by simpa using hq
          rw [hid, hrel, hq', Bool.false_or]
          by_cases hc : (st[i].f_Last && decide (st[i].f_Seq < c.f_Seq) || c.f_Last && decide (st[i].f_Seq > c.f_Seq)) = true
          · rw [if_pos hc, if_pos hc]; rfl
          · rw [if_neg hc, if_neg hc]
            unfold S_glossatorref3_AddChunk_j3
            rw [Wi (by omega)]
      · have hr : rel c st[i] = false := by simp [rel, ht]
        rw [if_pos (by simpa using ht), hr, if_neg (by simp)]
        unfold S_glossatorref3_AddChunk_j3
        rw [Wi (by omega)]
    unfold S_glossatorref3_AddChunk_l1 at ih ⊢
    unfold scanA
    by_cases hr : rel c st[i] = true
    · rw [if_pos hr] at hb ⊢
      by_cases hd : ident c st[i] = true
      · rw [if_pos hd] at hb ⊢
        exact loopM_out hb
      · rw [if_neg hd] at hb ⊢
        exact loopM_out hb
    · rw [if_neg hr] at hb ⊢
      rw [loopM_inl hb, ih]
def refAdd (st : List G_QChunk) (c : G_QChunk) : List G_QChunk × Bool × Int :=
  if c.f_Token < 0 ∨ c.f_Seq < 0 ∨ c.f_Seq ≥ 1000 then (st, false, 1)
  else if c.f_Items.length > 1000 then (st, false, 2)
  else match scanA c st with
    | some e => (st, false, e)
    | none => (st ++ [c], true, 0)
theorem add_eq {st : List G_QChunk} (hst : st.length ≤ 100000) (hI : ∀ s ∈ st, s.f_Items.length ≤ 100000) (c : G_QChunk) : S_glossatorref3_AddChunk none st c = some (refAdd st c) := by
  unfold S_glossatorref3_AddChunk refAdd
  by_cases h1 : c.f_Token < 0 ∨ c.f_Seq < 0 ∨ c.f_Seq ≥ 1000
  · rw [if_pos (by simp; omega), if_pos h1]
  · rw [if_neg (by simp; omega), if_neg h1]
    by_cases h2 : c.f_Items.length > 1000
    · rw [if_pos (by simp; omega), if_pos h2]
    · rw [if_neg (by simp; omega), if_neg h2]
      have := add_loop hst hI c st.length 0 (by omega)
      simp only [List.drop_zero] at this
      exact this
def asm (E : List (Int × G_QChunk)) : Nat → Nat → List Int → List Int × Bool
  | 0, _, _ => ([], false)
  | k + 1, n, acc => match lk q_i64 E (n : Int) with
    | none => ([], false)
    | some c => if c.f_Last then (acc ++ c.f_Items, true) else asm E k (n + 1) (acc ++ c.f_Items)
theorem asm_loop {st : List G_QChunk} (hst : st.length ≤ 100000) {t : Int} (hS : ∀ e ∈ inn t st, e.1 < 1000 ∧ e.2.f_Items.length ≤ 1000) : ∀ (k n : Nat) (acc : List Int), n + k = 1000 → acc.length ≤ 1000 * n →
    S_glossatorref3_Assemble_l1 none st t acc (n : Int) = some (asm (inn t st) (k + 1) n acc)
  | k, n, acc, h, ha => by
    unfold S_glossatorref3_Assemble_l1 asm
    cases hl : lk q_i64 (inn t st) (n : Int) with
    | none =>
      refine loopM_out ?_
      unfold S_glossatorref3_Assemble_b1
      rw [chunk_eq hst, hl]
      simp only [Option.bind_some, Bool.not_false, if_true]
    | some c =>
      obtain ⟨h1, h2⟩ := hS _ (lk_mem hl)
      simp only at h1 h2
      have hlen : ((acc ++ c.f_Items).map e_i64).length * 8 ≤ 140737488355328 := by simp; omega
      by_cases hL : c.f_Last = true
      · simp only [hL, if_true]
        refine loopM_out ?_
        unfold S_glossatorref3_Assemble_b1
        rw [chunk_eq hst, hl]
        simp only [Option.bind_some, Bool.not_true, Bool.false_eq_true, if_false]
        rw [if_pos hlen, if_pos hL]
      · simp only [hL]
        cases k with
        | zero => omega
        | succ k =>
          have ih := asm_loop hst hS k (n + 1) (acc ++ c.f_Items) (by omega) (by rw [List.length_append]; omega)
          unfold S_glossatorref3_Assemble_l1 at ih
          rw [loopM_inl (s' := (acc ++ c.f_Items, ((n + 1 : Nat) : Int))), ih]
          · rfl
          · unfold S_glossatorref3_Assemble_b1
            rw [chunk_eq hst, hl]
            simp only [Option.bind_some, Bool.not_true, Bool.false_eq_true, if_false]
            rw [if_pos hlen, if_neg hL, Wi (by omega)]
theorem asm_eq {st : List G_QChunk} (hst : st.length ≤ 100000) {t : Int} (hS : ∀ e ∈ inn t st, e.1 < 1000 ∧ e.2.f_Items.length ≤ 1000) : S_glossatorref3_Assemble none st t = some (asm (inn t st) 1001 0 []) := by
  unfold S_glossatorref3_Assemble
  exact asm_loop hst hS 1000 0 [] rfl (by simp)
def larE (E : List (Int × G_QChunk)) (v : Int) : Int := E.foldl (fun v e => if e.1 > v then e.1 else v) v
def mis (E : List (Int × G_QChunk)) : Nat → Nat → List Int → List Int
  | 0, _, acc => acc
  | k + 1, n, acc => mis E k (n + 1) (if (lk q_i64 E (n : Int)).isSome then acc else acc ++ [(n : Int)])
theorem mis_loop {st : List G_QChunk} (hst : st.length ≤ 100000) {t : Int} {v : Int} (hv : v ≤ 100000) : ∀ (k n : Nat) (acc : List Int), n + k = v.toNat → acc.length ≤ n →
    S_glossatorref3_Missing_l2 none st t v acc (n : Int) = some (mis (inn t st) k n acc)
  | 0, n, acc, h, ha => by
    unfold S_glossatorref3_Missing_l2
    refine loopM_out ?_
    unfold S_glossatorref3_Missing_b2
    rw [if_neg (by simp; omega)]
    rfl
  | k + 1, n, acc, h, ha => by
    unfold S_glossatorref3_Missing_l2 mis
    have ih := fun (acc' : List Int) (h' : acc'.length ≤ n + 1) => mis_loop hst (t := t) hv k (n + 1) acc' (by omega) h'
    unfold S_glossatorref3_Missing_l2 at ih
    cases hl : lk q_i64 (inn t st) (n : Int) with
    | none =>
      rw [loopM_inl (s' := (acc ++ [(n : Int)], ((n + 1 : Nat) : Int))), ih _ (by simp; omega)]
      · rfl
      · unfold S_glossatorref3_Missing_b2
        rw [if_pos (by simp; omega), chunk_eq hst, hl]
        simp only [Option.bind_some, Bool.not_false, if_true]
        rw [if_pos (by simp; omega)]
        unfold S_glossatorref3_Missing_j7
        rw [Wi (by omega)]
    | some c =>
      rw [loopM_inl (s' := (acc, ((n + 1 : Nat) : Int))), ih _ (by omega)]
      · rfl
      · unfold S_glossatorref3_Missing_b2
        rw [if_pos (by simp; omega), chunk_eq hst, hl]
        simp only [Option.bind_some, Bool.not_true, Bool.false_eq_true, if_false]
        unfold S_glossatorref3_Missing_j7
        rw [Wi (by omega)]
theorem lar_loop {st : List G_QChunk} (hst : st.length ≤ 100000) {t : Int} : ∀ (k i : Nat) (v : Int), i + k = st.length →
    S_glossatorref3_Missing_l1 none st t v (i : Int) = S_glossatorref3_Missing_j4 none st t (larE (inn t (st.drop i)) v)
  | 0, i, v, h => by
    unfold S_glossatorref3_Missing_l1
    rw [show st.drop i = [] from List.drop_eq_nil_iff.2 (by omega)]
    refine loopM_out ?_
    unfold S_glossatorref3_Missing_b1
    rw [if_neg (by simp; omega)]
    rfl
  | k + 1, i, v, h => by
    have hi : i < st.length := by omega
    have ih := fun v => lar_loop hst (t := t) k (i + 1) v (by omega)
    rw [List.drop_eq_getElem_cons hi, inn_cons]
    unfold S_glossatorref3_Missing_l1 at ih ⊢
    by_cases ht : st[i].f_Token = t
    · rw [if_pos ht, loopM_inl (s' := ((if st[i].f_Seq > v then st[i].f_Seq else v), ((i + 1 : Nat) : Int))), ih]
      · rfl
      · unfold S_glossatorref3_Missing_b1
        simp only [List.length_map, Int.toNat_natCast, getD_at hi]
        rw [if_pos (by simpa using hi), if_pos (by omega), if_pos (by simpa using ht)]
        unfold S_glossatorref3_Missing_j3
        rw [Wi (by omega)]
    · rw [if_neg ht, loopM_inl (s' := (v, ((i + 1 : Nat) : Int))), ih]
      unfold S_glossatorref3_Missing_b1
      simp only [List.length_map, Int.toNat_natCast, getD_at hi]
      rw [if_pos (by simpa using hi), if_pos (by omega), if_neg (by simpa using ht)]
      unfold S_glossatorref3_Missing_j3
      rw [Wi (by omega)]
theorem mis_eq {st : List G_QChunk} (hst : st.length ≤ 100000) {t : Int} (hv : larE (inn t st) (-1) ≤ 100000) : S_glossatorref3_Missing none st t = some (mis (inn t st) (larE (inn t st) (-1)).toNat 0 []) := by
  unfold S_glossatorref3_Missing
  have := lar_loop hst (t := t) st.length 0 (-1) (by omega)
  simp only [List.drop_zero] at this
  rw [show (0 : Int) = ((0 : Nat) : Int) from rfl, this]
  unfold S_glossatorref3_Missing_j4
  exact mis_loop hst hv _ 0 [] (by omega) (by simp)
end Go.Proofs.Ytcllpgaaoiccgaa
