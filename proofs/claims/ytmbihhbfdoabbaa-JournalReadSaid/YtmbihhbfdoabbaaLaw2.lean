/-
  Own text Law2 of this claim: what functions of the given program compute, in plain Lean, and the proof; no condition.
-/
import Derived.Test.YtmbihhbfdoabbaaLaw1
namespace Go.Proofs.Ytmbihhbfdoabbaa
open Go.Fx Go.Sort
set_option linter.unusedVariables false

/-! ### the program's state -/
abbrev Ent := List UInt8 × G_QRecord
def updM (M : List Ent) (r : G_QRecord) : List Ent := mp q_str M r.f_Key r
theorem q_str_iff {x y : List UInt8} : q_str x y = true ↔ x = y := by simp [q_str]
theorem st_fill {a0 : List G_QRecord} (ha : a0.length ≤ 100000) : ∀ (k i : Nat) (M : List Ent), i + k = a0.length →
    S_journal_State_l1 none a0 (i : Int) M = S_journal_State_j1 none ((a0.drop i).foldl updM M)
  | 0, i, M, h => by
    have hi : i = a0.length := by omega
    subst hi
    unfold S_journal_State_l1
    rw [List.drop_length, List.foldl_nil]
    refine loopM_out ?_
    unfold S_journal_State_b1
    rw [if_neg (by simp)]
  | k + 1, i, M, h => by
    have hi : i < a0.length := by omega
    unfold S_journal_State_l1
    rw [loopM_inl (s' := (((i + 1 : Nat) : Int), updM M a0[i])) ?_]
    · have ih := st_fill ha k (i + 1) (updM M a0[i]) (by omega)
      rw [List.drop_eq_getElem_cons hi, List.foldl_cons]
      exact ih
    · unfold S_journal_State_b1
      simp only [List.length_map, Int.toNat_natCast, getD_at hi]
      rw [if_pos (by simp; omega), if_pos (by omega), Wi (by omega)]
      rfl
theorem mp_mem {M : List Ent} {k : List UInt8} {v : G_QRecord} : (mp q_str M k v).length ≤ M.length + 1 ∧ (k, v) ∈ mp q_str M k v := by
  induction M with
  | nil => simp [mp]
  | cons e M ih =>
    obtain ⟨k', v'⟩ := e
    unfold mp
    split
    · exact ⟨by simp, by simp⟩
    · exact ⟨by have := ih.1; simp; omega, List.mem_cons_of_mem _ ih.2⟩
theorem mp_keys {M : List Ent} {k : List UInt8} {v : G_QRecord} : (mp q_str M k v).map (·.1) = if k ∈ M.map (·.1) then M.map (·.1) else M.map (·.1) ++ [k] := by
  induction M with
  | nil => simp [mp]
  | cons e M ih =>
    obtain ⟨k', v'⟩ := e
    unfold mp
    by_cases hk : k = k'
    · subst hk
      rw [if_pos (q_str_iff.2 rfl)]
      simp
    · rw [if_neg (fun h => hk (q_str_iff.1 h))]
      simp only [List.map_cons, ih, List.mem_cons, hk, false_or]
      split <;> rfl
theorem lk_mp {M : List Ent} {k j : List UInt8} {v : G_QRecord} : lk q_str (mp q_str M k v) j = if k = j then some v else lk q_str M j := by
  induction M with
  | nil =>
    simp only [mp, lk, q_str_iff]
    by_cases h : k = j
    · subst h; simp
    · rw [if_neg (fun e => h e.symm), if_neg h]
  | cons e M ih =>
    obtain ⟨k', v'⟩ := e
    unfold mp
    by_cases hk : k = k'
    · subst hk
      rw [if_pos (q_str_iff.2 rfl)]
      simp only [lk, q_str_iff]
      by_cases h : k = j
      · subst h; simp
      · rw [if_neg (fun e => h e.symm), if_neg h, if_neg (fun e => h e.symm)]
    · rw [if_neg (fun h => hk (q_str_iff.1 h))]
      simp only [lk, q_str_iff, ih]
      by_cases h : j = k'
      · subst h; rw [if_pos rfl, if_pos rfl, if_neg hk]
      · rw [if_neg h, if_neg h]
theorem lk_iff {M : List Ent} (hn : (M.map (·.1)).Nodup) {k : List UInt8} {v : G_QRecord} : lk q_str M k = some v ↔ (k, v) ∈ M := by
  induction M with
  | nil => simp [lk]
  | cons e M ih =>
    obtain ⟨k', v'⟩ := e
    simp only [List.map_cons, List.nodup_cons] at hn
    simp only [lk, q_str_iff]
    by_cases h : k = k'
    · subst h
      rw [if_pos rfl]
      simp only [Option.some.injEq, List.mem_cons, Prod.mk.injEq, true_and]
      constructor
      · rintro rfl; exact .inl rfl
      · rintro (e | e)
        · exact e.symm
        · exact absurd (List.mem_map.2 ⟨_, e, rfl⟩) hn.1
    · rw [if_neg h, ih hn.2]
      simp [h]
theorem fill_inv {P : G_QRecord → Prop} : ∀ (l : List G_QRecord) (M : List Ent), (M.map (·.1)).Nodup → (∀ e ∈ M, e.2.f_Key = e.1) → ((l.foldl updM M).map (·.1)).Nodup ∧ (∀ e ∈ l.foldl updM M, e.2.f_Key = e.1) ∧ (l.foldl updM M).length ≤ M.length + l.length
  | [], M, h1, h2 => ⟨h1, h2, Nat.le_refl _⟩
  | r :: l, M, h1, h2 => by
    rw [List.foldl_cons]
    have q1 : ((updM M r).map (·.1)).Nodup := by
      unfold updM
      rw [mp_keys]
      split
      · exact h1
      · rename_i hk
        rw [List.nodup_append]
        exact ⟨h1, by simp, fun a ha b hb => by simp only [List.mem_singleton] at hb; subst hb; exact fun e => hk (e ▸ ha)⟩
    have q2 : ∀ e ∈ updM M r, e.2.f_Key = e.1 := fun e he => by
      have hk := (lk_iff q1 (k := e.1) (v := e.2)).2 he
      unfold updM at hk
      rw [lk_mp] at hk
      split at hk
      · rename_i h; simp only [Option.some.injEq] at hk; rw [← hk]; exact h
      · exact h2 _ ((lk_iff h1).1 hk)
    obtain ⟨p1, p2, p3⟩ := fill_inv (P := P) l _ q1 q2
    refine ⟨p1, p2, ?_⟩
    have := (mp_mem (M := M) (k := r.f_Key) (v := r)).1
    unfold updM at p3 ⊢
    simp only [List.length_cons]
    omega
/-- what the map holds at a key: its last record -/
theorem fill_lk {k : List UInt8} : ∀ (l : List G_QRecord) (M : List Ent) (r0 : G_QRecord), (lk q_str M k = none ∨ lk q_str M k = some r0) → (∃ r ∈ l, r.f_Key = k) ∨ lk q_str M k = some r0 →
    lk q_str (l.foldl updM M) k = some (l.foldl (lastR k) r0)
  | [], M, r0, _, h => by
    rcases h with ⟨r, hr, _⟩ | h
    · cases hr
    · exact h
  | r :: l, M, r0, h0, h => by
    rw [List.foldl_cons, List.foldl_cons]
    have hlk : lk q_str (updM M r) k = if r.f_Key = k then some r else lk q_str M k := by unfold updM; exact lk_mp
    by_cases hk : r.f_Key = k
    · rw [if_pos hk] at hlk
      have : lastR k r0 r = r := by unfold lastR; rw [if_pos hk]
      rw [this]
      exact fill_lk l _ r (.inr hlk) (.inr hlk)
    · rw [if_neg hk] at hlk
      have : lastR k r0 r = r0 := by unfold lastR; rw [if_neg hk]
      rw [this]
      refine fill_lk l _ r0 (by rw [hlk]; exact h0) ?_
      rcases h with ⟨r', hr', hk'⟩ | h
      · rcases List.mem_cons.1 hr' with rfl | hr'
        · exact absurd hk' hk
        · exact .inl ⟨r', hr', hk'⟩
      · exact .inr (by rw [hlk]; exact h)
theorem fill_none {k : List UInt8} : ∀ (l : List G_QRecord) (M : List Ent), lk q_str M k = none → (∀ r ∈ l, r.f_Key ≠ k) → lk q_str (l.foldl updM M) k = none
  | [], M, h, _ => h
  | r :: l, M, h, hn => by
    rw [List.foldl_cons]
    refine fill_none l _ ?_ fun x hx => hn x (List.mem_cons_of_mem _ hx)
    unfold updM
    rw [lk_mp, if_neg (hn r (List.mem_cons_self ..))]
    exact h

/-! ### the order of the rounds does not matter -/
def baseM (M : List Ent) : List G_QRecord := (M.map (·.2)).filter (!·.f_Deleted)
theorem swo17 : SWO (ltOf cf17) := swo_key (·.f_Key) fun _ _ => rfl
theorem rounds {M : List Ent} (hM : M.length ≤ 100000) {R : List G_QRecord} (hR : ∀ L : List G_QRecord, L.Perm (baseM M) → sortF cf17 L = R) : S_journal_State_j1 none M = some R := by
  unfold S_journal_State_j1 S_journal_State_l2
  refine rangeF_of fun l hl => ?_
  have key : ∀ (l : List Nat) (acc : List G_QRecord), acc.length + l.length ≤ 100000 →
      rangeL (fun j (s : (List G_QRecord)) => S_journal_State_b2 none M s j) (fun s => S_journal_State_d2 none M s) l acc = S_journal_State_j2 none (acc ++ ((l.map fun j => (M.getD j default).2).filter (!·.f_Deleted))) := by
    intro l
    induction l with
    | nil =>
      intro acc _
      simp only [rangeL, S_journal_State_d2, List.map_nil, List.filter_nil, List.append_nil]
      cases S_journal_State_j2 none acc <;> rfl
    | cons j l ih =>
      intro acc hacc
      simp only [List.length_cons] at hacc
      unfold rangeL
      have hb : S_journal_State_b2 none M acc j = some (.inl (acc ++ ([(M.getD j default).2].filter (!·.f_Deleted)))) := by
        unfold S_journal_State_b2
        cases hd : (M.getD j default).2.f_Deleted with
        | true =>
          rw [if_neg (by simp), List.filter_cons, if_neg (by rw [hd]; simp)]; simp
        | false =>
          rw [if_pos (by simp), if_pos (by simp; omega), List.filter_cons, if_pos (by rw [hd]; rfl), ← hd]
          rfl
      rw [hb]
      simp only [Option.bind_some]
      have hle : ([(M.getD j default).2].filter (!·.f_Deleted)).length ≤ 1 := List.length_filter_le ..
      rw [ih _ (by rw [List.length_append]; omega)]
      rw [List.map_cons, ← List.singleton_append (l := l.map _), List.filter_append, List.append_assoc]
  have hlen := hl.length_eq
  rw [List.length_range] at hlen
  rw [key l [] (by simp; omega), List.nil_append]
  have hp : ((l.map fun j => (M.getD j default).2).filter (!·.f_Deleted)).Perm (baseM M) := by
    refine List.Perm.filter _ ?_
    refine (hl.map _).trans ?_
    refine List.Perm.of_eq ?_
    refine List.ext_getElem (by simp) fun i h1 h2 => ?_
    simp only [List.length_map, List.length_range] at h1
    simp only [List.getElem_map, List.getElem_range, getD_at h1]
  have hpl := hp.length_eq
  have hbl : (baseM M).length ≤ M.length := by
    have := List.length_filter_le (!·.f_Deleted) (M.map (·.2)); simpa [baseM] using this
  unfold S_journal_State_j2 S_slices_SortFunc_api_QRecord
  rw [if_pos ⟨swo17, by omega⟩, Option.bind_some, if_pos (sortF_len swo17 _), hR _ hp]
theorem prog_state {a0 : List G_QRecord} (ha : a0.length ≤ 100000) : S_journal_State none a0 = some (stateR a0) := by
  unfold S_journal_State
  have h := st_fill ha a0.length 0 [] (by omega)
  rw [show (0 : Int) = ((0 : Nat) : Int) from rfl, h, List.drop_zero]
  obtain ⟨hn, hk, hlen⟩ := fill_inv (P := fun _ => True) a0 [] (by simp) (by simp)
  simp only [List.length_nil, Nat.zero_add] at hlen
  refine rounds (by omega) fun L hL => ?_
  obtain ⟨p1, p2⟩ := sortF_perm swo17 L
  have hasc : (stateR a0).Pairwise fun x y => x.f_Key < y.f_Key := by
    unfold stateR
    have hkey : ∀ k x, x ∈ keepR a0 k → k ∈ a0.map (·.f_Key) → x.f_Key = k := fun k x hx hkm => by
      unfold keepR at hx
      split at hx
      · cases hx
      · simp only [List.mem_singleton] at hx
        subst hx
        obtain ⟨r, hr, hrk⟩ := List.mem_map.1 hkm
        have := fill_lk (k := k) a0 [] nul (.inl rfl) (.inl ⟨r, hr, hrk⟩)
        exact hk _ ((lk_iff hn).1 this)
    rw [List.pairwise_flatMap]
    constructor
    · intro k _
      unfold keepR
      split <;> simp
    · have hs := sortS_asc (a0.map (·.f_Key))
      rw [List.pairwise_iff_getElem] at hs ⊢
      intro i j hi hj hij x hx y hy
      have h1 := hkey _ x hx (sortS_mem.1 (List.getElem_mem hi))
      have h2 := hkey _ y hy (sortS_mem.1 (List.getElem_mem hj))
      rw [h1, h2]
      exact hs i j hi hj hij
  refine eq_sorted (f := (·.f_Key)) (p1.trans (hL.trans ?_)) (p2.imp fun h => by rw [ltOf_key (cf := cf17) (·.f_Key) (fun _ _ => rfl)] at h; simpa using h) hasc
  have hbn : (baseM (a0.foldl updM [])).Nodup := by
    unfold baseM
    refine List.Pairwise.filter _ ?_
    have : ((a0.foldl updM []).map (·.2)).map (·.f_Key) = (a0.foldl updM []).map (·.1) := by
      rw [List.map_map]
      exact List.map_congr_left fun e he => hk e he
    rw [← this] at hn
    exact (List.pairwise_map.1 hn).imp fun h e => h (by rw [e])
  refine (List.perm_ext_iff_of_nodup hbn (nodup_of_asc hasc)).2 fun x => ?_
  unfold baseM stateR
  simp only [List.mem_filter, List.mem_map, List.mem_flatMap, sortS_mem]
  constructor
  · rintro ⟨⟨e, he, rfl⟩, hd⟩
    have hek := hk e he
    have hl := (lk_iff hn (k := e.1) (v := e.2)).2 he
    have hex : ∃ r ∈ a0, r.f_Key = e.1 := by
      refine Classical.byContradiction fun hno => ?_
      have := fill_none (k := e.1) a0 [] rfl fun r hr h => hno ⟨r, hr, h⟩
      rw [this] at hl; cases hl
    have := fill_lk (k := e.1) a0 [] nul (.inl rfl) (.inl hex)
    rw [this] at hl
    simp only [Option.some.injEq] at hl
    obtain ⟨r, hr, hrk⟩ := hex
    refine ⟨e.1, ⟨r, hr, hrk⟩, ?_⟩
    unfold keepR lastOf
    rw [hl]
    rw [if_neg (by simpa using hd)]
    simp
  · rintro ⟨k, ⟨r, hr, hrk⟩, hx⟩
    have := fill_lk (k := k) a0 [] nul (.inl rfl) (.inl ⟨r, hr, hrk⟩)
    unfold keepR at hx
    split at hx
    · cases hx
    · rename_i hd
      simp only [List.mem_singleton] at hx
      subst hx
      exact ⟨⟨_, (lk_iff hn).1 this, rfl⟩, by simpa using hd⟩

/-! ### the law -/
theorem eq_refl {l : List G_QRecord} (hl : l.length ≤ 100000) : ∀ (k i : Nat), i + k = l.length → S_glossatorref3_Equal_api_QRecord_l1 none l l (i : Int) = some true
  | 0, i, h => by
    have hi : i = l.length := by omega
    subst hi
    unfold S_glossatorref3_Equal_api_QRecord_l1
    refine loopM_out ?_
    unfold S_glossatorref3_Equal_api_QRecord_b1
    rw [if_neg (by simp)]
    rfl
  | k + 1, i, h => by
    unfold S_glossatorref3_Equal_api_QRecord_l1
    rw [loopM_inl (s' := ((i + 1 : Nat) : Int)) ?_]
    · exact eq_refl hl k (i + 1) (by omega)
    · unfold S_glossatorref3_Equal_api_QRecord_b1
      rw [if_pos (by simp; omega), if_pos (by simp; omega), if_pos (by simp; omega), if_neg (by simp), Wi (by omega)]
theorem equal_self {l : List G_QRecord} (hl : l.length ≤ 100000) : S_glossatorref3_Equal_api_QRecord none l l = some true := by
  unfold S_glossatorref3_Equal_api_QRecord
  rw [if_neg (by simp)]
  exact eq_refl hl l.length 0 (by omega)
theorem example_true : S_glossatorlaw3_journalExample (some 4096) = some true := by kernel_rfl
theorem stateR_len (a0 : List G_QRecord) : (stateR a0).length ≤ a0.length := by
  unfold stateR
  have h1 := sortS_len (a0.map (·.f_Key))
  rw [List.length_map] at h1
  refine Nat.le_trans ?_ h1
  generalize sortS (a0.map (·.f_Key)) = K
  induction K with
  | nil => simp
  | cons k K ih =>
    rw [List.flatMap_cons, List.length_append, List.length_cons]
    have : (keepR a0 k).length ≤ 1 := by unfold keepR; split <;> simp
    omega
theorem lawS (a0 : List G_QRecord) : S_glossatorlaw3_JournalState none a0 = some true := by
  unfold S_glossatorlaw3_JournalState
  rw [example_true]
  simp only [Option.bind_some, List.length_map]
  rw [if_neg (by simp), if_pos (by split <;> omega)]
  have hl : (a0.take (if 40 < (a0.length : Int) then 40 else (a0.length : Int)).toNat).length ≤ 100000 := by
    rw [List.length_take]; split <;> omega
  generalize a0.take (if 40 < (a0.length : Int) then 40 else (a0.length : Int)).toNat = l at hl
  have := stateR_len l
  rw [if_pos (by simp), if_pos (by simp), prog_state hl, ref_state hl]
  simp only [Option.bind_some]
  rw [if_pos (by simp), equal_self (by omega)]
  rfl
end Go.Proofs.Ytmbihhbfdoabbaa
