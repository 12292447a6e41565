/-
  Own text Law7 of this claim: what functions of the given program compute, in plain Lean, and the proof; no condition.
-/
import Derived.Test.YtmbihhbfdoabbaaLaw6
namespace Go.Proofs.Ytmbihhbfdoabbaa
open Go.Fx Go.Sort
set_option linter.unusedVariables false

/-! ### both readers -/
noncomputable def rd (l : List UInt8) (acc : List G_QRecord) (i : Nat) : (((List G_QRecord) × Int) ⊕ ((List G_QRecord) × Int × Int)) :=
  if (nx (l.drop i)).2.1 = 0 then .inr (acc, (i : Int), (nx (l.drop i)).2.2) else .inl (acc ++ [(nx (l.drop i)).1], ((i + (nx (l.drop i)).2.1 : Nat) : Int))
theorem nx_le (D : List UInt8) : (nx D).2.1 ≤ D.length ∧ ((nx D).2.1 ≠ 0 → 6 ≤ (nx D).2.1 ∧ (nx D).1.f_Key.length ≤ 60 ∧ (nx D).1.f_Value.length ≤ 3000) := by
  unfold nx
  split
  · exact ⟨Nat.zero_le _, fun h => absurd rfl h⟩
  split
  · exact ⟨Nat.zero_le _, fun h => absurd rfl h⟩
  split
  · split
    · exact ⟨Nat.zero_le _, fun h => absurd rfl h⟩
    split
    · rename_i h1 h2 h3 h4 h5
      refine ⟨by dsimp only; omega, fun _ => ⟨by dsimp only; unfold fsz; omega, chk_le h5⟩⟩
    · exact ⟨Nat.zero_le _, fun h => absurd rfl h⟩
  · exact ⟨Nat.zero_le _, fun h => absurd rfl h⟩
theorem scan_b {l : List UInt8} (hl : l.length ≤ 4000) {acc : List G_QRecord} (ha : acc.length ≤ 100000) {i : Nat} (hi : i ≤ l.length) : S_journal_scan_b1 none l acc (i : Int) = some (rd l acc i) := by
  have hn := nx_le (l.drop i)
  rw [List.length_drop] at hn
  unfold S_journal_scan_b1
  simp only [List.take_length, Int.toNat_natCast]
  rw [if_pos (by omega), jnext (by rw [List.length_drop]; omega), Option.bind_some]
  unfold rd
  by_cases h0 : (nx (l.drop i)).2.1 = 0
  · rw [if_pos (by simp [h0]), if_pos h0]
    rfl
  · rw [if_neg (by simp [h0]), if_neg h0, if_pos (by simp; omega)]
    rw [show (i : Int) + ((nx (l.drop i)).2.1 : Nat) = ((i + (nx (l.drop i)).2.1 : Nat) : Int) by omega, Wn (by omega)]
theorem sizeW2 {D : List UInt8} : W ((W ((W ((b0 D : Nat) : Int)) * 256)) + (W ((b1 D : Nat) : Int))) = ((256 * b0 D + b1 D : Nat) : Int) := by
  have h0 := b0_lt D
  have h1 := b1_lt D
  rw [Wn (by omega), show ((b0 D : Nat) : Int) * 256 = ((256 * b0 D : Nat) : Int) by omega, Wn (by omega), Wn (by omega), show ((256 * b0 D : Nat) : Int) + ((b1 D : Nat) : Int) = ((256 * b0 D + b1 D : Nat) : Int) by omega, Wn (by omega)]
theorem read_b {l : List UInt8} (hl : l.length ≤ 4000) {acc : List G_QRecord} (ha : acc.length ≤ 100000) {i : Nat} (hi : i ≤ l.length) : S_glossatorref3_ReadJournal_b1 none l acc (i : Int) = some (rd l acc i) := by
  have hn := nx_le (l.drop i)
  rw [List.length_drop] at hn
  unfold S_glossatorref3_ReadJournal_b1
  simp only [List.take_length, Int.toNat_natCast, z0, z1, z2, z6]
  rw [if_pos (by omega)]
  unfold rd
  have hD : (l.drop i).length ≤ 4000 := by rw [List.length_drop]; omega
  have hDl : (l.drop i).length ≤ l.length := by rw [List.length_drop]; omega
  have hiD : i + (l.drop i).length ≤ 4000 := by rw [List.length_drop]; omega
  generalize l.drop i = D at *
  have hsz : W ((6 : Int) + (((256 * b0 D + b1 D : Nat) : Int))) = ((fsz D : Nat) : Int) := by
    have h0 := b0_lt D
    have h1 := b1_lt D
    rw [show (6 : Int) + (((256 * b0 D + b1 D : Nat) : Int)) = ((fsz D : Nat) : Int) by unfold fsz; omega, Wn (by unfold fsz; omega)]
  simp only [tb0, tb1, sizeW2, hsz, Int.toNat_natCast, List.drop_zero]
  unfold nx
  by_cases h6 : D.length < 6
  · rw [if_pos (by simp; omega), if_pos h6]
    rfl
  rw [if_neg (by simp; omega), if_neg h6, if_pos (by omega), if_pos (by omega)]
  by_cases hs : D.length < fsz D
  · rw [if_pos (by simpa using hs), if_pos hs]
    rfl
  rw [if_neg (by simpa using hs), if_neg hs]
  have hpl := pl_len hs
  have hpe : (D.take (fsz D)).drop 6 = pl D := rfl
  have h6f : 6 ≤ fsz D := by unfold fsz; omega
  have hff : fsz D = 6 + (256 * b0 D + b1 D) := rfl
  simp only [hpe]
  have hP : (pl D).length ≤ 4000 := by omega
  have h1 := b1_lt (pl D)
  have hK : W ((2 : Int) + W (((b1 (pl D) : Nat) : Int))) = ((2 + b1 (pl D) : Nat) : Int) := by
    rw [Wn (by omega), show (2 : Int) + (b1 (pl D) : Nat) = ((2 + b1 (pl D) : Nat) : Int) by omega, Wn (by omega)]
  simp only [tb0, tb1, hK, Int.toNat_natCast]
  rw [if_pos (by omega), if_pos (by omega), if_pos (by rw [List.length_take]; omega), if_pos (by omega)]
  rw [sum2 (by rw [List.length_append, List.length_take]; omega), Option.bind_some, S_glossatorref3_number32, Option.bind_some]
  rw [show ([(IntKind.wrap .u8 ((csum (D.take 2 ++ pl D)).fdiv (2 ^ (min (24 : Int).toNat (IntKind.bits .u32))))), (IntKind.wrap .u8 ((csum (D.take 2 ++ pl D)).fdiv (2 ^ (min (16 : Int).toNat (IntKind.bits .u32))))), (IntKind.wrap .u8 ((csum (D.take 2 ++ pl D)).fdiv (2 ^ (min (8 : Int).toNat (IntKind.bits .u32))))), (IntKind.wrap .u8 (csum (D.take 2 ++ pl D)))] : List Int).map toU8 = num (csum (D.take 2 ++ pl D)) from rfl]
  by_cases hf : Fr (pl D) = D.take (fsz D)
  · have hf2 := (frame_iff h6 hs).1 hf
    rw [if_neg (by simpa using hf2), if_pos hf]
    rw [← hpl]
    by_cases hb : bad (pl D) = true
    · have hb' := hb
      simp only [bad, Bool.or_eq_true, decide_eq_true_eq] at hb'
      rw [if_pos hb, if_pos (by simp; omega), if_pos (by simp; omega), if_pos (by simp; omega)]
      rfl
    · have hb' := hb
      simp only [bad, Bool.or_eq_true, decide_eq_true_eq, not_or, Nat.not_lt] at hb'
      rw [if_neg hb, if_pos (by simp; omega), if_pos (by simp; omega), if_neg (by simp; omega), if_pos (by omega), if_pos (by omega), if_pos (by omega), if_pos (by omega)]
      rw [show (G_QRecord.mk (((pl D).take (2 + b1 (pl D))).drop 2) ((pl D).drop (2 + b1 (pl D))) (((b0 (pl D) : Nat) : Int) == 1)) = recd (pl D) from rfl, chk2, Option.bind_some]
      by_cases hc : chk (recd (pl D)) = 0
      · rw [if_neg (by simpa using hc), if_pos hc, if_pos (by simp; omega), if_neg (by dsimp only; omega)]
        dsimp only
        rw [show (i : Int) + ((fsz D : Nat) : Int) = ((i + fsz D : Nat) : Int) by omega, Wn (by omega)]
      · rw [if_pos (by simpa using hc), if_neg hc]
        rfl
  · have hf2 := fun h => hf ((frame_iff h6 hs).2 h)
    rw [if_pos (by simpa using hf2), if_neg hf]
    rfl
theorem scanned {l : List UInt8} (hl : l.length ≤ 4000) : ∀ (k i : Nat) (acc : List G_QRecord), i + k = l.length → acc.length ≤ i → (∀ r ∈ acc, r.f_Key.length ≤ 60 ∧ r.f_Value.length ≤ 3000) →
    ∃ (R : List G_QRecord) (n : Nat) (e : Int), n ≤ l.length ∧ R.length ≤ n ∧ (∀ r ∈ R, r.f_Key.length ≤ 60 ∧ r.f_Value.length ≤ 3000) ∧ S_journal_scan_l1 none l acc (i : Int) = some (R, (n : Int), e) ∧ S_glossatorref3_ReadJournal_l1 none l acc (i : Int) = some (R, (n : Int), e) := by
  intro k
  induction k using Nat.strongRecOn with
  | ind k ih =>
    intro i acc hik ha hr
    have hn := nx_le (l.drop i)
    rw [List.length_drop] at hn
    have hs := scan_b hl (acc := acc) (by omega) (i := i) (by omega)
    have ht := read_b hl (acc := acc) (by omega) (i := i) (by omega)
    unfold rd at hs ht
    by_cases h0 : (nx (l.drop i)).2.1 = 0
    · rw [if_pos h0] at hs ht
      refine ⟨acc, i, (nx (l.drop i)).2.2, by omega, ha, hr, ?_, ?_⟩
      · unfold S_journal_scan_l1
        refine loopM_out (x := some _) ?_
        exact hs
      · unfold S_glossatorref3_ReadJournal_l1
        refine loopM_out (x := some _) ?_
        exact ht
    · rw [if_neg h0] at hs ht
      obtain ⟨h6, hk, hv⟩ := hn.2 h0
      obtain ⟨R, n, e, g1, g2, g3, g4, g5⟩ := ih (k - (nx (l.drop i)).2.1) (by omega) (i + (nx (l.drop i)).2.1) (acc ++ [(nx (l.drop i)).1]) (by omega) (by simp; omega) (fun r hr' => by
        rcases List.mem_append.1 hr' with h | h
        · exact hr r h
        · simp only [List.mem_singleton] at h; subst h; exact ⟨hk, hv⟩)
      refine ⟨R, n, e, g1, g2, g3, ?_, ?_⟩
      · unfold S_journal_scan_l1
        rw [loopM_inl hs]
        exact g4
      · unfold S_glossatorref3_ReadJournal_l1
        rw [loopM_inl ht]
        exact g5

/-! ### the state's records and their frames -/
theorem lastOf_mem {P : G_QRecord → Prop} {k : List UInt8} : ∀ (l : List G_QRecord) (r0 : G_QRecord), P r0 → (∀ r ∈ l, P r) → P (l.foldl (lastR k) r0)
  | [], r0, h, _ => h
  | r :: l, r0, h, hl => by
    rw [List.foldl_cons]
    refine lastOf_mem l _ ?_ fun x hx => hl x (List.mem_cons_of_mem _ hx)
    unfold lastR
    split
    · exact hl r (List.mem_cons_self ..)
    · exact h
theorem state_bound {R : List G_QRecord} (h : ∀ r ∈ R, r.f_Key.length ≤ 60 ∧ r.f_Value.length ≤ 3000) : ∀ r ∈ stateR R, r.f_Key.length ≤ 60 ∧ r.f_Value.length ≤ 3000 := by
  intro r hr
  unfold stateR at hr
  obtain ⟨k, _, hk⟩ := List.mem_flatMap.1 hr
  unfold keepR at hk
  split at hk
  · cases hk
  · simp only [List.mem_singleton] at hk
    subst hk
    exact lastOf_mem (P := fun r => r.f_Key.length ≤ 60 ∧ r.f_Value.length ≤ 3000) R nul (by simp [nul]) h
def txt (S : List G_QRecord) : List UInt8 := S.flatMap fun r => Fr (pay r)
theorem pay_len {r : G_QRecord} (h : r.f_Key.length ≤ 60 ∧ r.f_Value.length ≤ 3000) : (pay r).length ≤ 4000 := by simp [pay]; omega
theorem compact_l {S : List G_QRecord} (hS : S.length ≤ 10000) (hb : ∀ r ∈ S, r.f_Key.length ≤ 60 ∧ r.f_Value.length ≤ 3000) : ∀ (k i : Nat) (t : List UInt8), i + k = S.length → t.length ≤ 5000 * i →
    S_journal_Compact_l1 none S t (i : Int) = some (t ++ txt (S.drop i), 0)
  | 0, i, t, h, ht => by
    have hi : i = S.length := by omega
    subst hi
    unfold S_journal_Compact_l1
    rw [List.drop_length]
    refine loopM_out (x := some _) ?_
    unfold S_journal_Compact_b1
    rw [if_neg (by simp)]
    simp [S_journal_Compact_j1, txt]
  | k + 1, i, t, h, ht => by
    have hi : i < S.length := by omega
    have hr := hb S[i] (List.getElem_mem hi)
    have hF := Fr_len (pay S[i])
    have hp := pay_len hr
    unfold S_journal_Compact_l1
    rw [loopM_inl (s' := (t ++ Fr (pay S[i]), ((i + 1 : Nat) : Int))) ?_]
    · have ih := compact_l hS hb k (i + 1) (t ++ Fr (pay S[i])) (by omega) (by rw [List.length_append]; omega)
      rw [List.drop_eq_getElem_cons hi, txt, List.flatMap_cons, ← List.append_assoc]
      exact ih
    · unfold S_journal_Compact_b1
      simp only [Int.toNat_natCast, getD_at hi]
      rw [if_pos (by simp; omega), if_pos (by simp; omega)]
      rw [jpay hr.1 hr.2, Option.bind_some, jframe hp, Option.bind_some, if_pos (by omega), Wi (by omega)]
theorem text_l {S : List G_QRecord} (hS : S.length ≤ 10000) (hb : ∀ r ∈ S, r.f_Key.length ≤ 60 ∧ r.f_Value.length ≤ 3000) {v5 v6 : (List G_QRecord) × Int × Int} {v9 : List UInt8 × Int} : ∀ (k i : Nat) (t : List UInt8), i + k = S.length → t.length ≤ 5000 * i →
    S_glossatorlaw3_JournalRead_l1 none v5 v6 v9 S t (i : Int) = S_glossatorlaw3_JournalRead_j1 none v5 v6 v9 (t ++ txt (S.drop i))
  | 0, i, t, h, ht => by
    have hi : i = S.length := by omega
    subst hi
    unfold S_glossatorlaw3_JournalRead_l1
    rw [List.drop_length]
    refine loopM_out ?_
    unfold S_glossatorlaw3_JournalRead_b1
    rw [if_neg (by simp)]
    simp [txt]
  | k + 1, i, t, h, ht => by
    have hi : i < S.length := by omega
    have hr := hb S[i] (List.getElem_mem hi)
    have hF := Fr_len (pay S[i])
    have hp := pay_len hr
    unfold S_glossatorlaw3_JournalRead_l1
    rw [loopM_inl (s' := (t ++ Fr (pay S[i]), ((i + 1 : Nat) : Int))) ?_]
    · have ih := text_l hS hb (v5 := v5) (v6 := v6) (v9 := v9) k (i + 1) (t ++ Fr (pay S[i])) (by omega) (by rw [List.length_append]; omega)
      rw [List.drop_eq_getElem_cons hi, txt, List.flatMap_cons, ← List.append_assoc]
      exact ih
    · unfold S_glossatorlaw3_JournalRead_b1
      simp only [Int.toNat_natCast, getD_at hi]
      rw [if_pos (by simp; omega), if_pos (by simp; omega)]
      rw [rframe hr.1 hr.2, Option.bind_some, if_pos (by omega), Wi (by omega)]

/-! ### the law -/
theorem cut_in (n : Int) (h : 0 ≤ n) {a : List UInt8} : 0 ≤ (if n < (a.length : Int) then n else (a.length : Int)) ∧ (if n < (a.length : Int) then n else (a.length : Int)) ≤ (a.length : Int) := by
  split <;> omega
theorem lawR (a0 : List UInt8) : S_glossatorlaw3_JournalRead none a0 = some true := by
  unfold S_glossatorlaw3_JournalRead
  rw [example_true]
  simp only [Option.bind_some]
  rw [if_neg (by simp)]
  by_cases hbig : (a0.length : Int) > 40000
  · have hread : S_journal_Read none a0 = some ([], 0, 2) := by
      unfold S_journal_Read; rw [if_pos (by simpa using hbig)]
    rw [if_pos (by simpa using hbig), hread, Option.bind_some]
    unfold S_journal_Compact
    rw [hread]
    rfl
  rw [if_neg (by simpa using hbig), if_pos (cut_in 3000 (by omega))]
  have hl : ((a0.take (if 3000 < (a0.length : Int) then 3000 else (a0.length : Int)).toNat).drop 0).length ≤ 3000 := by
    rw [List.drop_zero, List.length_take]; split <;> omega
  generalize (a0.take (if 3000 < (a0.length : Int) then 3000 else (a0.length : Int)).toNat).drop 0 = l at hl
  obtain ⟨R, n, e, g1, g2, g3, g4, g5⟩ := scanned (l := l) (by omega) l.length 0 [] (by omega) (by simp) (by simp)
  have hscan : S_journal_scan none l = some (R, (n : Int), e) := g4
  have href : S_glossatorref3_ReadJournal none l = some (R, (n : Int), e) := g5
  have hread : S_journal_Read none l = some (if e ≠ 0 then (([], 0, e) : List G_QRecord × Int × Int) else (R, (n : Int), 0)) := by
    unfold S_journal_Read
    rw [if_neg (by simp; omega), hscan, Option.bind_some]
    by_cases he : e = 0
    · rw [if_neg (by simpa using he), if_neg (by simpa using he)]
    · rw [if_pos (by simpa using he), if_pos he]
  have hrec : S_journal_Recover none l = some (l.take n, R) := by
    unfold S_journal_Recover
    rw [if_pos (cut_in 40000 (by omega)), if_neg (by omega)]
    simp only [Int.toNat_natCast, List.take_length, List.drop_zero]
    rw [hscan, Option.bind_some, if_pos (by dsimp only; omega)]
    rfl
  rw [hread, href, hrec]
  simp only [Option.bind_some, Int.toNat_natCast, List.drop_zero]
  rw [if_pos (by omega), if_pos (by simp), equal_self (by omega), Option.bind_some]
  have hsl := stateR_len R
  by_cases he : e = 0
  · subst he
    have hc : S_journal_Compact none l = some (txt (stateR R), 0) := by
      unfold S_journal_Compact
      rw [hread, Option.bind_some, if_neg (by simp), if_neg (by simp), prog_state (by dsimp only; omega), Option.bind_some]
      have := compact_l (S := stateR R) (by omega) (state_bound g3) _ 0 [] (Nat.zero_add _) (by simp)
      rwa [List.drop_zero, List.nil_append] at this
    rw [if_neg (by simp), if_neg (by simp), hc, Option.bind_some, if_neg (by simp), ref_state (by omega), Option.bind_some]
    have := text_l (S := stateR R) (by omega) (state_bound g3) (v5 := (R, (n : Int), 0)) (v6 := (R, (n : Int), 0)) (v9 := (txt (stateR R), 0)) _ 0 [] (Nat.zero_add _) (by simp)
    refine Eq.trans this ?_
    rw [List.drop_zero, List.nil_append]
    unfold S_glossatorlaw3_JournalRead_j1
    rw [example_true, Option.bind_some, if_pos (by simp), equal_self (by dsimp only; omega), Option.bind_some]
    simp
  · have hc : S_journal_Compact none l = some ([], e) := by
      unfold S_journal_Compact
      rw [hread, Option.bind_some, if_pos he, if_pos (by simpa using he)]
    rw [if_pos he, if_neg (by simp), hc, Option.bind_some, if_pos (by simpa using he)]
    simp
end Go.Proofs.Ytmbihhbfdoabbaa
