/-
  Own text Law4 of this claim: what functions of the given program compute, in plain Lean, and the proof; no condition.
-/
import Derived.Test.YtcllpgaaoiccgaaLaw3
namespace Go.Proofs.Ytcllpgaaoiccgaa
open Go.Fx
set_option linter.unusedVariables false
theorem sub_len {α : Type} [DecidableEq α] : ∀ (a b : List α), a.Nodup → (∀ x ∈ a, x ∈ b) → a.length ≤ b.length
  | [], b, _, _ => by simp
  | x :: a, b, hn, h => by
    simp only [List.nodup_cons] at hn
    have hx := h x (List.mem_cons_self ..)
    have := sub_len a (b.erase x) hn.2 fun y hy => (List.mem_erase_of_ne (fun e => by rw [e] at hy; exact hn.1 hy)).2 (h y (List.mem_cons_of_mem _ hy))
    rw [List.length_erase_of_mem hx] at this
    have : 0 < b.length := List.length_pos_of_mem hx
    simp only [List.length_cons]
    omega
def upTo (n : Nat) : List Int := (List.range n).map fun (i : Nat) => (i : Int)
theorem upTo_nodup (n : Nat) : (upTo n).Nodup := by
  unfold upTo
  rw [List.Nodup, List.pairwise_map]
  exact List.Pairwise.imp (fun {a b} (h : a < b) => by omega) List.pairwise_lt_range
theorem upTo_mem {n : Nat} {x : Int} : x ∈ upTo n ↔ 0 ≤ x ∧ x < n := by
  unfold upTo
  simp only [List.mem_map, List.mem_range]
  constructor
  · rintro ⟨i, hi, rfl⟩; omega
  · rintro ⟨h1, h2⟩; exact ⟨x.toNat, by omega, by omega⟩
theorem full_iff {E : List (Int × G_QChunk)} (hV : V E) {F : Nat} (hF : ∀ e ∈ E, e.1 ≤ F) : E.length = F + 1 ↔ ∀ j : Nat, j ≤ F → lk q_i64 E (j : Int) ≠ none := by
  have hsub : ∀ x ∈ E.map (·.1), x ∈ upTo (F + 1) := fun x hx => by
    obtain ⟨e, he, rfl⟩ := List.mem_map.1 hx
    have := hF e he
    have := (hV.h0 e he).1
    exact upTo_mem.2 ⟨this, by omega⟩
  have hlen : (upTo (F + 1)).length = F + 1 := by simp [upTo]
  constructor
  · intro h j hj hn
    have hnj := lk_none.1 hn
    have hnd : ((j : Int) :: E.map (·.1)).Nodup := by
      simp only [List.nodup_cons]
      exact ⟨fun hm => by obtain ⟨e, he, h⟩ := List.mem_map.1 hm; exact hnj e he h, hV.nd⟩
    have := sub_len _ (upTo (F + 1)) hnd fun x hx => by
      rcases List.mem_cons.1 hx with rfl | hx
      · exact upTo_mem.2 ⟨by omega, by omega⟩
      · exact hsub x hx
    rw [hlen] at this
    simp only [List.length_cons, List.length_map] at this
    omega
  · intro h
    have h1 := sub_len _ _ hV.nd hsub
    have h2 := sub_len _ (E.map (·.1)) (upTo_nodup (F + 1)) fun x hx => by
      obtain ⟨g1, g2⟩ := upTo_mem.1 hx
      have := h x.toNat (by omega)
      rw [show ((x.toNat : Nat) : Int) = x by omega] at this
      cases hl : lk q_i64 E x with
      | none => exact absurd hl this
      | some c => exact List.mem_map.2 ⟨_, lk_mem hl, rfl⟩
    simp only [List.length_map] at h1 h2
    omega
theorem asm_no {E : List (Int × G_QChunk)} (h : ∀ e ∈ E, e.2.f_Last = false) : ∀ (k n : Nat) (acc : List Int), asm E k n acc = ([], false)
  | 0, _, _ => rfl
  | k + 1, n, acc => by
    unfold asm
    cases hl : lk q_i64 E (n : Int) with
    | none => rfl
    | some c =>
      have := h _ (lk_mem hl)
      simp only at this ⊢
      rw [this]
      simp only [Bool.false_eq_true, if_false]
      exact asm_no h k _ _
theorem asm_bad {E : List (Int × G_QChunk)} (hV : V E) {F : Nat} (hF : finE E = F) : ∀ (k n : Nat) (acc : List Int), (∃ j : Nat, n ≤ j ∧ j ≤ F ∧ lk q_i64 E (j : Int) = none) → asm E k n acc = ([], false)
  | 0, _, _, _ => rfl
  | k + 1, n, acc, ⟨j, h1, h2, h3⟩ => by
    unfold asm
    cases hl : lk q_i64 E (n : Int) with
    | none => rfl
    | some c =>
      simp only
      have hne : n ≠ j := fun e => by rw [e, h3] at hl; cases hl
      by_cases hL : c.f_Last = true
      · have := fin_last hV (lk_mem hl) hL
        simp only at this
        omega
      · rw [if_neg hL]
        exact asm_bad hV hF k (n + 1) _ ⟨j, by omega, h2, h3⟩
theorem res_loop {E : List (Int × G_QChunk)} (hV : V E) {F : Nat} (hF : finE E = F) (hF9 : F < 1000) {l : List (Int × Ref)} {t : Int} (hl : lk q_i64 l t = some .foc) (hall : ∀ j : Nat, j ≤ F → lk q_i64 E (j : Int) ≠ none) {v : Int} : ∀ (k n : Nat) (acc : List Int), n + k = F → acc.length ≤ 1000 * n → ∀ m, k < m →
    S_progress_Assembler_Result_l1 none t l E ((F : Int), v, ()) acc (n : Int) = some ((asm E m n acc).1, (asm E m n acc).2, ())
  | k, n, acc, h, ha, 0, hm => by omega
  | k, n, acc, h, ha, m + 1, hm => by
    have hn := hall n (by omega)
    cases hlk : lk q_i64 E (n : Int) with
    | none => exact absurd hlk hn
    | some c =>
      have hc := hV.hi _ (lk_mem hlk)
      simp only at hc
      have hb : S_progress_Assembler_Result_b1 none t l E ((F : Int), v, ()) acc (n : Int) = some (.inl (acc ++ c.f_Items, ((n + 1 : Nat) : Int))) := by
        unfold S_progress_Assembler_Result_b1
        rw [Wi (by omega), if_pos (by simp; omega), if_pos hl, hlk]
        simp only [Option.getD_some]
        rw [if_pos (by simp; omega), Wi (by omega)]
      have hLF : c.f_Last = true ↔ n = F := by
        constructor
        · intro hL
          have := fin_last hV (lk_mem hlk) hL
          simp only at this
          omega
        · intro e
          rcases fin_cases (E := E) with ⟨h1, _⟩ | ⟨e', he', h1, h2⟩
          · omega
          · have := lk_some hV.nd (k := e'.1) (v := e'.2) he'
            rw [← h2, hF, ← e, hlk] at this
            rw [Option.some.inj this]; exact h1
      unfold S_progress_Assembler_Result_l1 asm
      rw [loopM_inl hb, hlk]
      simp only
      by_cases hL : c.f_Last = true
      · rw [if_pos hL]
        have := hLF.1 hL
        refine loopM_out ?_
        unfold S_progress_Assembler_Result_b1
        rw [Wi (by omega), if_neg (by simp; omega)]
        rfl
      · rw [if_neg hL]
        have hne : n ≠ F := fun e => hL (hLF.2 e)
        cases k with
        | zero => omega
        | succ k =>
          have := res_loop hV hF hF9 hl hall (v := v) k (n + 1) (acc ++ c.f_Items) (by omega) (by rw [List.length_append]; omega) m (by omega)
          unfold S_progress_Assembler_Result_l1 at this
          exact this
theorem res_present {E : List (Int × G_QChunk)} (hV : V E) {l : List (Int × Ref)} {t : Int} (hl : lk q_i64 l t = some .foc) :
    S_progress_Assembler_Result none t l E () = some ((asm E 1001 0 []).1, (asm E 1001 0 []).2, ()) := by
  unfold S_progress_Assembler_Result
  rw [bounds_eq hV hl, Option.bind_some]
  simp only
  rw [if_pos (fun _ => hl)]
  rcases fin_cases (E := E) with ⟨h1, h2⟩ | ⟨e, he, h1, h2⟩
  · rw [h1, if_pos (by simp), asm_no h2]
  · obtain ⟨g1, g2⟩ := hV.h0 e he
    obtain ⟨F, hF⟩ : ∃ F : Nat, finE E = F := ⟨e.1.toNat, by omega⟩
    have hle : ∀ x ∈ E, x.1 ≤ (F : Int) := fun x hx => by have := hV.hL e he h1 x hx; omega
    rw [hF, Wi (by omega)]
    by_cases hfull : E.length = F + 1
    · rw [if_neg (by simp [hfull])]
      exact res_loop hV hF (by omega) hl ((full_iff hV hle).1 hfull) F 0 [] (by omega) (by simp) 1001 (by omega)
    · rw [if_pos (by simp; omega), asm_bad hV hF]
      have := mt (full_iff hV hle).2 hfull
      rcases Classical.not_forall.1 this with ⟨j, hj⟩
      rcases Classical.not_imp.1 hj with ⟨hj1, hj2⟩
      exact ⟨j, by omega, hj1, Classical.not_not.1 hj2⟩
theorem res_absent {l : List (Int × Ref)} {t : Int} (hl : lk q_i64 l t = none) : S_progress_Assembler_Result_15 none t l () = some ([], false, ()) := by
  unfold S_progress_Assembler_Result_15
  rw [bounds0_eq hl, Option.bind_some, if_pos (fun _ => hl), if_pos (by simp)]
theorem mist_loop {E : List (Int × G_QChunk)} {l : List (Int × Ref)} {t : Int} (hl : lk q_i64 l t = some .foc) {f v : Int} (hv : v ≤ 100000) : ∀ (k n : Nat) (acc : List Int), n + k = v.toNat → acc.length ≤ n →
    S_progress_Assembler_Missing_l1 none t l E (f, v, ()) acc (n : Int) = some (mis E k n acc, ())
  | 0, n, acc, h, ha => by
    unfold S_progress_Assembler_Missing_l1
    refine loopM_out ?_
    unfold S_progress_Assembler_Missing_b1
    rw [if_neg (by simp; split <;> omega)]
    rfl
  | k + 1, n, acc, h, ha => by
    have ih := fun (acc' : List Int) (h' : acc'.length ≤ n + 1) => mist_loop hl (E := E) (f := f) hv k (n + 1) acc' (by omega) h'
    unfold S_progress_Assembler_Missing_l1 at ih ⊢
    unfold mis
    have hlt : decide ((n : Int) < (if 0 > v then 0 else v)) = true := by simp; split <;> omega
    cases hk : lk q_i64 E (n : Int) with
    | none =>
      rw [loopM_inl (s' := (acc ++ [(n : Int)], ((n + 1 : Nat) : Int))), ih _ (by simp; omega)]
      · rfl
      · unfold S_progress_Assembler_Missing_b1
        rw [if_pos hlt, if_pos hl, hk, if_pos (by simp), if_pos (by simp; omega)]
        unfold S_progress_Assembler_Missing_j3
        rw [Wi (by omega)]
    | some c =>
      rw [loopM_inl (s' := (acc, ((n + 1 : Nat) : Int))), ih _ (by omega)]
      · rfl
      · unfold S_progress_Assembler_Missing_b1
        rw [if_pos hlt, if_pos hl, hk, if_neg (by simp)]
        unfold S_progress_Assembler_Missing_j3
        rw [Wi (by omega)]
theorem mis_present {E : List (Int × G_QChunk)} (hV : V E) {l : List (Int × Ref)} {t : Int} (hl : lk q_i64 l t = some .foc) :
    S_progress_Assembler_Missing none t l E () = some (mis E (larE E (-1)).toNat 0 [], ()) := by
  unfold S_progress_Assembler_Missing
  rw [bounds_eq hV hl, Option.bind_some]
  have := lar_lt hV
  exact mist_loop hl (by omega) _ 0 [] (by omega) (by simp)
theorem mis_absent {l : List (Int × Ref)} {t : Int} (hl : lk q_i64 l t = none) : S_progress_Assembler_Missing_17 none t l () = some ([], ()) := by
  unfold S_progress_Assembler_Missing_17
  rw [bounds0_eq hl, Option.bind_some]
  unfold S_progress_Assembler_Missing_17_l1
  refine loopM_out ?_
  unfold S_progress_Assembler_Missing_17_b1
  rw [if_neg (by simp)]
  rfl
structure Rel (st : List G_QChunk) (S : SAsm) : Prop where
  at_ : ∀ (j : Nat) (p : Int × List (Int × G_QChunk)), S[j]? = some p → p.2 = inn p.1 st ∧ inn p.1 st ≠ []
  uniq : ∀ (i j : Nat) (p q : Int × List (Int × G_QChunk)), S[i]? = some p → S[j]? = some q → p.1 = q.1 → i = j
  all : ∀ k, inn k st ≠ [] → ∃ p ∈ S, p.1 = k
  val : ∀ k, V (inn k st)
theorem Rel.nil : Rel [] [] := ⟨fun _ _ h => by simp at h, fun _ _ _ _ h => by simp at h, fun k h => absurd rfl h, fun k => V.nil⟩
theorem Rel.none {st : List G_QChunk} {S : SAsm} (h : Rel st S) {k : Int} (hn : S[ixA k S]? = none) : inn k st = [] := by
  cases hE : inn k st with
  | nil => rfl
  | cons x r =>
    obtain ⟨p, hp, e⟩ := h.all k (by rw [hE]; simp)
    exact absurd e (ixA_none hn p hp)
theorem V.push {E : List (Int × G_QChunk)} (hV : V E) {c : G_QChunk} (hb : bad c = none) (ha : ans E c = none) : V (E ++ [(c.f_Seq, c)]) := by
  unfold bad at hb
  split at hb
  · cases hb
  · split at hb
    · cases hb
    · rename_i h1 h2
      unfold ans at ha
      cases hl : lk q_i64 E c.f_Seq with
      | some s => rw [hl] at ha; simp only at ha; split at ha <;> cases ha
      | none =>
        rw [hl] at ha
        simp only at ha
        split at ha
        · cases ha
        · rename_i hc
          have hn := lk_none.1 hl
          have hcf := mt (conf_iff hV (c := c) (by omega)).2 hc
          have hno : ∀ e ∈ E, ¬((e.2.f_Last = true ∧ e.1 < c.f_Seq) ∨ (c.f_Last = true ∧ e.1 > c.f_Seq)) := fun e he hh => hcf ⟨e, he, hh⟩
          refine ⟨fun e he => ?_, fun e he => ?_, fun e he => ?_, ?_, fun d hd hL e he => ?_⟩
          · rcases List.mem_append.1 he with he | he
            · exact hV.hk e he
            · simp only [List.mem_singleton] at he; subst he; rfl
          · rcases List.mem_append.1 he with he | he
            · exact hV.h0 e he
            · simp only [List.mem_singleton] at he; subst he; simp only; omega
          · rcases List.mem_append.1 he with he | he
            · exact hV.hi e he
            · simp only [List.mem_singleton] at he; subst he; simp only; omega
          · rw [List.map_append, List.nodup_append]
            refine ⟨hV.nd, by simp, fun a ha b hb hab => ?_⟩
            simp only [List.map_cons, List.map_nil, List.mem_singleton] at hb
            obtain ⟨e, he, rfl⟩ := List.mem_map.1 ha
            exact hn e he (hab.trans hb)
          · rcases List.mem_append.1 hd with hd | hd <;> rcases List.mem_append.1 he with he | he
            · exact hV.hL d hd hL e he
            · simp only [List.mem_singleton] at he; subst he
              have := hno d hd
              simp only
              rcases Int.lt_or_le d.1 c.f_Seq with h | h
              · exact absurd (.inl ⟨hL, h⟩) this
              · exact h
            · simp only [List.mem_singleton] at hd; subst hd
              have := hno e he
              simp only at hL ⊢
              rcases Int.lt_or_le c.f_Seq e.1 with h | h
              · exact absurd (.inr ⟨hL, h⟩) this
              · exact h
            · simp only [List.mem_singleton] at hd he; subst hd; subst he; exact Int.le_refl _
theorem refAdd_eq {st : List G_QChunk} {c : G_QChunk} (hV : V (inn c.f_Token st)) : refAdd st c = match bad c with
    | some e => (st, false, e)
    | none => match ans (inn c.f_Token st) c with
      | some e => (st, false, e)
      | none => (st ++ [c], true, 0) := by
  unfold refAdd bad
  by_cases h1 : c.f_Token < 0 ∨ c.f_Seq < 0 ∨ c.f_Seq ≥ 1000
  · rw [if_pos h1, if_pos h1]
  · rw [if_neg h1, if_neg h1]
    by_cases h2 : c.f_Items.length > 1000
    · rw [if_pos h2, if_pos h2]
    · rw [if_neg h2, if_neg h2, scan_eq hV (by omega)]
      rfl
theorem add_both {st : List G_QChunk} {S : SAsm} (h : Rel st S) (c : G_QChunk) : ∃ S', gAdd none S c = some ((refAdd st c).2, S') ∧ Rel (refAdd st c).1 S' := by
  have hV := h.val c.f_Token
  rw [refAdd_eq hV]
  unfold gAdd
  have same : ∀ k, k ≠ c.f_Token → inn k (st ++ [c]) = inn k st := fun k hk => by rw [inn_app, if_neg (fun e => hk e.symm)]
  have here : inn c.f_Token (st ++ [c]) = inn c.f_Token st ++ [(c.f_Seq, c)] := by rw [inn_app, if_pos rfl]
  cases hS : S[ixA c.f_Token S]? with
  | some p =>
    obtain ⟨hk, _⟩ := ixA_some hS
    have hp := (h.at_ _ _ hS).1
    rw [hk] at hp
    simp only
    rw [hp, add_present hV (lk_refs hS)]
    have hset : S.set (ixA c.f_Token S) (p.1, inn c.f_Token st) = S := by rw [← hp]; exact setSame hS
    cases hb : bad c with
    | some e => simp only [Option.map_some]; exact ⟨_, rfl, by rw [hset]; exact h⟩
    | none =>
      simp only
      cases ha : ans (inn c.f_Token st) c with
      | some e => simp only [Option.map_some]; exact ⟨_, rfl, by rw [hset]; exact h⟩
      | none =>
        simp only [Option.map_some]
        refine ⟨_, rfl, ?_⟩
        have hlt : ixA c.f_Token S < S.length := (List.getElem?_eq_some_iff.1 hS).1
        have gets : ∀ j q, (S.set (ixA c.f_Token S) (p.1, inn c.f_Token st ++ [(c.f_Seq, c)]))[j]? = some q → (j = ixA c.f_Token S ∧ q = (p.1, inn c.f_Token st ++ [(c.f_Seq, c)])) ∨ (j ≠ ixA c.f_Token S ∧ S[j]? = some q) := fun j q hq => by
          by_cases hj : j = ixA c.f_Token S
          · subst hj
            rw [List.getElem?_set_self hlt] at hq
            exact .inl ⟨rfl, (Option.some.inj hq).symm⟩
          · rw [List.getElem?_set_ne (fun e => hj e.symm)] at hq
            exact .inr ⟨hj, hq⟩
        refine ⟨fun j q hq => ?_, fun i j a b ha hb hab => ?_, fun k hkk => ?_, fun k => ?_⟩
        · rcases gets j q hq with ⟨_, rfl⟩ | ⟨hj, hq⟩
          · simp only [hk, here]; exact ⟨trivial, by simp⟩
          · have hne : q.1 ≠ c.f_Token := fun e => hj (h.uniq _ _ _ _ hq hS (e.trans hk.symm))
            rw [same _ hne]; exact h.at_ j q hq
        · have hkey : ∀ (j : Nat) (q : Int × List (Int × G_QChunk)), (S.set (ixA c.f_Token S) (p.1, inn c.f_Token st ++ [(c.f_Seq, c)]))[j]? = some q → ∃ q', S[j]? = some q' ∧ q'.1 = q.1 := fun j q hq => by
            rcases gets j q hq with ⟨rfl, rfl⟩ | ⟨hj, hq⟩
            · exact ⟨p, hS, rfl⟩
            · exact ⟨q, hq, rfl⟩
          obtain ⟨a', ha1, ha2⟩ := hkey i a ha
          obtain ⟨b', hb1, hb2⟩ := hkey j b hb
          exact h.uniq i j a' b' ha1 hb1 (by rw [ha2, hb2, hab])
        · by_cases hkt : k = c.f_Token
          · exact ⟨_, List.mem_of_getElem? (List.getElem?_set_self hlt), by simp only; rw [hk, hkt]⟩
          · rw [same k hkt] at hkk
            obtain ⟨q, hq, e⟩ := h.all k hkk
            obtain ⟨j, hj⟩ := List.getElem?_of_mem hq
            have hne : j ≠ ixA c.f_Token S := fun e2 => by
              rw [e2, hS] at hj
              rw [← Option.some.inj hj] at e
              exact hkt (e.symm.trans hk)
            exact ⟨q, List.mem_of_getElem? (i := j) (by rw [List.getElem?_set_ne (fun e => hne e.symm)]; exact hj), e⟩
        · by_cases hkt : k = c.f_Token
          · rw [hkt, here]; exact hV.push hb ha
          · rw [same k hkt]; exact h.val k
  | none =>
    have hE := h.none hS
    simp only
    rw [add_absent hS]
    cases hb : bad c with
    | some e => simp only; exact ⟨_, rfl, h⟩
    | none =>
      simp only [if_true]
      have ha : ans (inn c.f_Token st) c = none := by
        rw [hE]
        unfold bad at hb
        split at hb
        · cases hb
        · split at hb
          · cases hb
          · rename_i h1 h2
            unfold ans
            simp only [lk]
            rw [if_neg]
            intro hc
            obtain ⟨e, he, _⟩ := (conf_iff V.nil (by omega)).1 hc
            cases he
      rw [ha]
      refine ⟨_, rfl, ?_⟩
      have hno := ixA_none hS
      have gets : ∀ j q, (S ++ [(c.f_Token, [(c.f_Seq, c)])])[j]? = some q → (j = S.length ∧ q = (c.f_Token, [(c.f_Seq, c)])) ∨ (S[j]? = some q) := fun j q hq => by
        rcases Nat.lt_or_ge j S.length with hj | hj
        · rw [List.getElem?_append_left hj] at hq; exact .inr hq
        · rw [List.getElem?_append_right hj] at hq
          have hlt := col_lt' hq
          simp only [List.length_singleton] at hlt
          have : j = S.length := by omega
          subst this
          rw [Nat.sub_self, List.getElem?_cons_zero] at hq
          exact .inl ⟨rfl, (Option.some.inj hq).symm⟩
      refine ⟨fun j q hq => ?_, fun i j a b ha hb hab => ?_, fun k hkk => ?_, fun k => ?_⟩
      · rcases gets j q hq with ⟨_, rfl⟩ | hq
        · simp only [here, hE, List.nil_append]; exact ⟨trivial, by simp⟩
        · have hne := hno q (List.mem_of_getElem? hq)
          rw [same _ hne]; exact h.at_ j q hq
      · rcases gets i a ha with ⟨rfl, rfl⟩ | ha <;> rcases gets j b hb with ⟨rfl, rfl⟩ | hb
        · rfl
        · exact absurd hab.symm (hno b (List.mem_of_getElem? hb))
        · exact absurd hab (hno a (List.mem_of_getElem? ha))
        · exact h.uniq i j a b ha hb hab
      · by_cases hkt : k = c.f_Token
        · exact ⟨_, List.mem_append_right _ (List.mem_singleton.2 rfl), hkt.symm⟩
        · rw [same k hkt] at hkk
          obtain ⟨q, hq, e⟩ := h.all k hkk
          exact ⟨q, List.mem_append_left _ hq, e⟩
      · by_cases hkt : k = c.f_Token
        · rw [hkt, here]; exact hV.push hb ha
        · rw [same k hkt]; exact h.val k
theorem result_both {st : List G_QChunk} {S : SAsm} (h : Rel st S) (t : Int) : gResultS none S t = some (asm (inn t st) 1001 0 [], S) := by
  unfold gResultS gResult
  cases hS : S[ixA t S]? with
  | some p =>
    obtain ⟨hk, _⟩ := ixA_some hS
    have hp := (h.at_ _ _ hS).1
    rw [hk] at hp
    simp only
    rw [hp, res_present (h.val t) (lk_refs hS)]
    rfl
  | none =>
    simp only
    rw [res_absent (lk_refsN hS), h.none hS]
    rfl
theorem missing_both {st : List G_QChunk} {S : SAsm} (h : Rel st S) (t : Int) : gMissing none S t = some (mis (inn t st) (larE (inn t st) (-1)).toNat 0 []) := by
  unfold gMissing
  cases hS : S[ixA t S]? with
  | some p =>
    obtain ⟨hk, _⟩ := ixA_some hS
    have hp := (h.at_ _ _ hS).1
    rw [hk] at hp
    simp only
    rw [hp, mis_present (h.val t) (lk_refs hS)]
    rfl
  | none =>
    simp only
    rw [mis_absent (lk_refsN hS), h.none hS]
    rfl
end Go.Proofs.Ytcllpgaaoiccgaa
