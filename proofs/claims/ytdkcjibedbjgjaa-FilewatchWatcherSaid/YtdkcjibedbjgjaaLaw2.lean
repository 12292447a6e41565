/-
  Own text Law2 of this claim: what functions of the given program compute, in plain Lean, and the proof; no condition.
-/
import Derived.Test.YtdkcjibedbjgjaaLaw1
namespace Go.Proofs.Ytdkcjibedbjgjaa
open Go.Fx Go.Sort
set_option linter.unusedVariables false

abbrev Ev := G_QFileEvent
abbrev EM := List (List UInt8 × Ev)
def z0 : Ev := ⟨0, [], 0⟩
def upd (M : EM) (e : Ev) : EM := mp q_str M e.f_Path ⟨e.f_Time, e.f_Path, mrg ((lk q_str M e.f_Path).getD z0).f_Kind e.f_Kind⟩
def acc1 (p : List UInt8) (r : Ev) (e : Ev) : Ev := if e.f_Path = p then ⟨e.f_Time, p, mrg r.f_Kind e.f_Kind⟩ else r
def mrgAt (l : List Ev) (p : List UInt8) : Ev := l.foldl (acc1 p) ⟨0, p, 0⟩
def keepE (l : List Ev) (p : List UInt8) : List Ev := if (mrgAt l p).f_Kind = 0 then [] else [mrgAt l p]
def evs (l : List Ev) : List Ev := (sortS (l.map (·.f_Path))).flatMap (keepE l)
theorem keepE_len (l : List Ev) (p : List UInt8) : (keepE l p).length ≤ 1 := by unfold keepE; split <;> simp
theorem evs_len (l : List Ev) : (evs l).length ≤ l.length := by
  unfold evs
  have h1 := sortS_len (l.map (·.f_Path))
  rw [List.length_map] at h1
  refine Nat.le_trans ?_ h1
  generalize sortS (l.map (·.f_Path)) = K
  induction K with
  | nil => simp
  | cons k K ih =>
    rw [List.flatMap_cons, List.length_append, List.length_cons]
    have := keepE_len l k
    omega
theorem acc1_path {p : List UInt8} {r e : Ev} (h : r.f_Path = p) : (acc1 p r e).f_Path = p := by
  unfold acc1; split
  · rfl
  · exact h
theorem fold_path {p : List UInt8} : ∀ (l : List Ev) {r : Ev}, r.f_Path = p → (l.foldl (acc1 p) r).f_Path = p
  | [], _, h => h
  | e :: l, _, h => fold_path l (acc1_path h)
theorem upd_inv : ∀ (l : List Ev) (M : EM), (M.map (·.1)).Nodup → ((l.foldl upd M).map (·.1)).Nodup ∧ (l.foldl upd M).length ≤ M.length + l.length ∧ ∀ j, j ∈ (l.foldl upd M).map (·.1) ↔ j ∈ M.map (·.1) ∨ j ∈ l.map (·.f_Path)
  | [], M, h => ⟨h, Nat.le_refl _, fun j => by simp⟩
  | e :: l, M, h => by
    obtain ⟨i1, i2, i3⟩ := upd_inv l (upd M e) (mpN (hq := q_str_iff) h)
    have := mpL (q := q_str) (M := M) (k := e.f_Path) (v := (⟨e.f_Time, e.f_Path, mrg ((lk q_str M e.f_Path).getD z0).f_Kind e.f_Kind⟩ : Ev))
    refine ⟨i1, by rw [List.foldl_cons, List.length_cons]; unfold upd at i2 ⊢; omega, fun j => ?_⟩
    rw [List.foldl_cons, i3, List.map_cons, List.mem_cons]
    unfold upd
    rw [mpKm (hq := q_str_iff)]
    constructor
    · rintro ((h | h) | h)
      · exact .inl h
      · exact .inr (.inl h)
      · exact .inr (.inr h)
    · rintro (h | h | h)
      · exact .inl (.inl h)
      · exact .inl (.inr h)
      · exact .inr h
theorem upd_lk {p : List UInt8} : ∀ (l : List Ev) (M : EM) (r0 : Ev), r0.f_Path = p → ((lk q_str M p = none ∧ r0.f_Kind = 0) ∨ lk q_str M p = some r0) → (∃ e ∈ l, e.f_Path = p) ∨ lk q_str M p = some r0 →
    lk q_str (l.foldl upd M) p = some (l.foldl (acc1 p) r0)
  | [], M, r0, _, _, h => by
    rcases h with ⟨r, hr, _⟩ | h
    · cases hr
    · exact h
  | e :: l, M, r0, hp, h0, h => by
    rw [List.foldl_cons, List.foldl_cons]
    have hlk : lk q_str (upd M e) p = if e.f_Path = p then some ⟨e.f_Time, e.f_Path, mrg ((lk q_str M e.f_Path).getD z0).f_Kind e.f_Kind⟩ else lk q_str M p := by unfold upd; exact lkM (hq := q_str_iff)
    by_cases hk : e.f_Path = p
    · rw [if_pos hk] at hlk
      have : (⟨e.f_Time, e.f_Path, mrg ((lk q_str M e.f_Path).getD z0).f_Kind e.f_Kind⟩ : Ev) = acc1 p r0 e := by
        unfold acc1
        rw [if_pos hk, hk]
        rcases h0 with ⟨h1, h2⟩ | h1
        · rw [h1, h2]; rfl
        · rw [h1]; rfl
      rw [this] at hlk
      exact upd_lk l _ _ (acc1_path hp) (.inr hlk) (.inr hlk)
    · rw [if_neg hk] at hlk
      have : acc1 p r0 e = r0 := by unfold acc1; rw [if_neg hk]
      rw [this]
      refine upd_lk l _ r0 hp (by rw [hlk]; exact h0) ?_
      rcases h with ⟨r', hr', hk'⟩ | h
      · rcases List.mem_cons.1 hr' with rfl | hr'
        · exact absurd hk' hk
        · exact .inl ⟨r', hr', hk'⟩
      · exact .inr (by rw [hlk]; exact h)
theorem sortK_eq {α : Type} {M : List (List UInt8 × α)} {K : List (List UInt8)} (hn : (M.map (·.1)).Nodup) (hk : K.Pairwise (· < ·)) (h : ∀ j, j ∈ M.map (·.1) ↔ j ∈ K) : sortK M = K := by
  have hp : (sortK M).Perm (M.map (·.1)) := List.mergeSort_perm _ _
  have hs : (sortK M).Pairwise (fun x y => x ≤ y) := by
    have := List.pairwise_mergeSort (le := fun x y : List UInt8 => decide (x ≤ y)) (fun x y z h1 h2 => by simp only [decide_eq_true_eq] at *; exact List.le_trans h1 h2) (fun x y => by simp only [Bool.or_eq_true, decide_eq_true_eq]; exact List.le_total x y) (M.map (·.1))
    exact this.imp fun h => by simpa using h
  have hd : (sortK M).Nodup := hp.nodup_iff.2 hn
  refine asc_ext ?_ hk fun x => (hp.mem_iff).trans (h x)
  have := hs.and hd
  exact this.imp fun ⟨h1, h2⟩ => List.not_le.1 fun h3 => h2 (List.le_antisymm h1 h3)

theorem nb_fill {a0 : List Ev} {d : Int} (ha : a0.length ≤ 100000) : ∀ (k i : Nat) (M : EM), i + k = a0.length →
    S_filewatch_newBatch_l1 none a0 d (i : Int) M = S_filewatch_newBatch_j1 none a0 d ((a0.drop i).foldl upd M)
  | 0, i, M, h => by
    have hi : i = a0.length := by omega
    subst hi
    unfold S_filewatch_newBatch_l1
    rw [List.drop_length, List.foldl_nil]
    refine loopM_out ?_
    unfold S_filewatch_newBatch_b1
    rw [if_neg (by simp)]
  | k + 1, i, M, h => by
    have hi : i < a0.length := by omega
    unfold S_filewatch_newBatch_l1
    rw [loopM_inl (s' := (((i + 1 : Nat) : Int), upd M a0[i])) ?_]
    · have ih := nb_fill (d := d) ha k (i + 1) (upd M a0[i]) (by omega)
      rw [List.drop_eq_getElem_cons hi, List.foldl_cons]
      exact ih
    · unfold S_filewatch_newBatch_b1
      simp only [List.length_map, Int.toNat_natCast, getD_at hi]
      rw [if_pos (by simp; omega), if_pos (by omega), merge_eq, Option.bind_some, Wi (by omega)]
      rfl
theorem nb_keys {a0 : List Ev} {d : Int} {M : EM} {K : List (List UInt8)} (hK : K.length ≤ 100000) (hM : ∀ k ∈ K, lk q_str M k = some (mrgAt a0 k)) : ∀ (k i : Nat) (acc : List Ev), i + k = K.length → acc.length ≤ i →
    S_filewatch_newBatch_l2 none a0 d M K (i : Int) acc = S_filewatch_newBatch_j5 none a0 d (acc ++ (K.drop i).flatMap (keepE a0))
  | 0, i, acc, h, hl => by
    have hi : i = K.length := by omega
    subst hi
    unfold S_filewatch_newBatch_l2
    rw [List.drop_length, List.flatMap_nil, List.append_nil]
    refine loopM_out ?_
    unfold S_filewatch_newBatch_b2
    rw [if_neg (by simp)]
  | k + 1, i, acc, h, hl => by
    have hi : i < K.length := by omega
    have hk := keepE_len a0 K[i]
    unfold S_filewatch_newBatch_l2
    rw [loopM_inl (s' := (((i + 1 : Nat) : Int), acc ++ keepE a0 K[i])) ?_]
    · have ih := nb_keys (a0 := a0) (d := d) hK hM k (i + 1) (acc ++ keepE a0 K[i]) (by omega) (by rw [List.length_append]; omega)
      rw [List.drop_eq_getElem_cons hi, List.flatMap_cons, ← List.append_assoc]
      exact ih
    · unfold S_filewatch_newBatch_b2 S_filewatch_newBatch_j4
      simp only [List.length_map, Int.toNat_natCast, getD_at hi, hM _ (List.getElem_mem hi), Option.getD_some]
      rw [if_pos (by simp; omega), if_pos (by omega), Wi (by omega)]
      unfold keepE
      by_cases hz : (mrgAt a0 K[i]).f_Kind = 0
      · rw [if_neg (by simp [hz]), if_pos hz, List.append_nil]
      · rw [if_pos (by simp [hz]), if_neg hz, if_pos (by simp; omega)]
theorem pathsK_lk {a0 : List Ev} {k : List UInt8} (hk : k ∈ a0.map (·.f_Path)) : lk q_str (a0.foldl upd []) k = some (mrgAt a0 k) := by
  obtain ⟨e, he, rfl⟩ := List.mem_map.1 hk
  exact upd_lk a0 [] ⟨0, e.f_Path, 0⟩ rfl (.inl ⟨rfl, rfl⟩) (.inl ⟨e, he, rfl⟩)
theorem newBatch_eq {a0 : List Ev} {d : Int} (ha : a0.length ≤ 100000) (hne : 0 < a0.length) (hp : ∀ e ∈ a0, e.f_Path.length ≤ maxLen) :
    S_filewatch_newBatch none a0 d = some ⟨W ((a0[a0.length - 1]'(by omega)).f_Time + d), evs a0⟩ := by
  unfold S_filewatch_newBatch
  have h := nb_fill (d := d) ha a0.length 0 [] (by omega)
  rw [show (0 : Int) = ((0 : Nat) : Int) from rfl, h, List.drop_zero]
  obtain ⟨q1, q2, q3⟩ := upd_inv a0 [] (by simp)
  have hkm : ∀ j, j ∈ (a0.foldl upd []).map (·.1) ↔ j ∈ sortS (a0.map (·.f_Path)) := fun j => by rw [q3, sortS_mem]; simp
  simp only [List.length_nil, Nat.zero_add] at q2
  unfold S_filewatch_newBatch_j1
  have hw : W ((a0.length : Int) - 1) = ((a0.length - 1 : Nat) : Int) := by rw [W_in (by unfold inR; omega)]; omega
  simp only [List.length_map, hw]
  rw [if_pos (by omega)]
  unfold S_maps_Keys_api_QFileEvent S_slices_Sorted_string
  have hmax : ∀ k ∈ (a0.foldl upd []).map (·.1), k.length ≤ maxLen := fun k hk => by
    have := (q3 k).1 hk
    simp only [List.map_nil, List.not_mem_nil, false_or, List.mem_map] at this
    obtain ⟨e, he, rfl⟩ := this
    exact hp e he
  rw [Option.bind_some, if_pos ⟨q1, hmax, by omega⟩, Option.bind_some, sortK_eq q1 (sortS_asc _) hkm]
  · have hs := sortS_len (a0.map (·.f_Path))
    rw [List.length_map] at hs
    have h2 := nb_keys (a0 := a0) (d := d) (M := a0.foldl upd []) (K := sortS (a0.map (·.f_Path))) (by omega) (fun k hk => pathsK_lk (sortS_mem.1 hk)) _ 0 [] (Nat.zero_add _) (by simp)
    rw [show (0 : Int) = ((0 : Nat) : Int) from rfl, h2, List.drop_zero, List.nil_append]
    unfold S_filewatch_newBatch_j5
    simp only [List.length_map, hw, Int.toNat_natCast]
    rw [getD_at (by omega)]
    rfl
end Go.Proofs.Ytdkcjibedbjgjaa
