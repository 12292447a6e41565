/-
  Own text LawA of this claim.
-/
import Derived.Test.YtjcckmpeflflbaaLaw9
import Derived.Test.YtjcckmpeflflbaaOk
namespace Go.Proofs.Ytjcckmpeflflbaa
open Go.Fx
set_option linter.unusedVariables false
theorem allB_of {p : Rules} {pf : List G_QDerivation} : ∀ (c i : Nat), (∀ j, i ≤ j → j < i + c → stepB p pf j = true) → allB p pf c i = true
  | 0, _, _ => rfl
  | c + 1, i, h => by
    unfold allB
    rw [h i (Nat.le_refl _) (by omega), Bool.true_and]
    exact allB_of c (i + 1) (fun j h1 h2 => h j (by omega) (by omega))
theorem found_ok {p : Rules} {e set : Int} {T : List G_QDerivation} {nd : List Bool} {pf : List G_QDerivation} (h : Bk p e T 0 nd pf) (hT : ∀ x ∈ T, Inb p x ∧ x.f_Element = e ∧ tb (rule p x).f_Mask e.toNat = true) (h0 : 0 < T.length) (hl : T[T.length - 1].f_Set = set) :
    provesB p pf.reverse set e = true := by
  have hp0 : pf[0]? = some T[T.length - 1] := by
    rcases h.hd with ⟨g, _⟩ | g
    · omega
    · rw [g, List.getElem?_eq_getElem]
  have hpos : 0 < pf.length := by
    cases pf with
    | nil => cases hp0
    | cons a r => simp
  unfold provesB
  have hall : allB p pf.reverse pf.reverse.length 0 = true := allB_of _ _ (fun i _ hi => by
    rw [Nat.zero_add, List.length_reverse] at hi
    have hq : pf.length - 1 - i < pf.length := by omega
    have hgi : pf.reverse.getD i default = pf[pf.length - 1 - i] := by
      rw [getD_at (by rw [List.length_reverse]; exact hi), List.getElem_reverse]
    unfold stepB
    rw [hgi]
    obtain ⟨g1, g2, g3⟩ := hT _ (h.sub _ (List.getElem_mem hq))
    rw [decide_eq_true g1, Bool.true_and, g2, g3, Bool.true_and]
    unfold prem
    rw [List.all_eq_true]
    intro k hk
    rw [List.any_eq_true]
    rcases h.need _ hq k hk with ⟨x, hx, hxk⟩ | ⟨_, x, hx, _⟩
    · refine ⟨x, ?_, ?_⟩
      · rw [List.take_reverse, List.mem_reverse]
        have : pf.length - i = pf.length - 1 - i + 1 := by omega
        rw [this]; exact hx
      · have := (hT x (h.sub x (List.mem_of_mem_drop hx))).2.1
        rw [Bool.and_eq_true]
        exact ⟨beq_iff_eq.2 hxk, beq_iff_eq.2 (by rw [this, g2])⟩
    · simp at hx)
  rw [hall, Bool.true_and, decide_eq_true_eq, List.length_reverse]
  have hgl : pf.reverse.getD (pf.length - 1) default = T[T.length - 1] := by
    rw [getD_at (by rw [List.length_reverse]; omega), List.getElem_reverse]
    have : pf.length - 1 - (pf.length - 1) = 0 := by omega
    rw [List.getElem?_eq_getElem hpos] at hp0
    simp only [this]
    simpa using hp0
  rw [hgl]
  exact ⟨hpos, hl, (hT _ (List.getElem_mem _)).2.1⟩
theorem lawP {a0 : List (List G_QRule)} {a1 a2 : Int} {a3 : List G_QDerivation} (h : okA5 a0 a1 a2 a3) : S_glossatorlaw3_FixpointProofs none a0 a1 a2 a3 = some true := by
  obtain ⟨⟨q1, q2, q3⟩, _, _, w1, w2, _⟩ := h
  unfold reachBytes at q2 w2
  have hS : Small a0 := by
    refine ⟨by unfold BB; omega, fun l hl => ?_, fun l hl r hr => ?_⟩
    · have := (q3 l hl).2.1
      unfold reachBytes at this
      unfold BB; omega
    · have := ((q3 l hl).2.2 r hr).2.2.1
      unfold reachBytes at this
      unfold BB; omega
  have hl3 : a3.length ≤ BB := by unfold BB; omega
  have hlen : (a0.map eB).length = a0.length := by simp
  unfold S_glossatorlaw3_FixpointProofs
  rw [example_ok, Option.bind_some, if_neg (by simp), refcheck_ok hS]
  unfold S_fixpoint_Derive
  rw [check_ok hS, Option.bind_some]
  by_cases hc : cspec a0 = 0
  · have hv := valid_of hc
    have h60 := hv.n60
    have hcheck : S_fixpoint_Check none a0 = some 0 := by rw [check_ok hS, hc]
    simp only [Option.bind_some, hc, hlen]
    rw [proves_ok hv hl3, verify_ok hv hl3 hcheck]
    have e0 : ((0 : Int) != 0) = false := rfl
    have e1 : ((0 : Int) == 0) = true := rfl
    simp only [e0, e1, Bool.false_eq_true, if_false, Option.bind_some, Bool.true_and, beq_self_eq_true, if_true, Bool.not_true]
    by_cases hb : a1 < 0 ∨ a1 ≥ a0.length ∨ a2 < 0 ∨ a2 ≥ 20
    · have eb : (((decide (a1 < 0) || decide (a1 ≥ (a0.length : Int))) || decide (a2 < 0)) || decide (a2 ≥ 20)) = true := by
        simp only [Bool.or_eq_true, decide_eq_true_eq]; omega
      rw [eb]
      simp only [if_true, Option.bind_some]
      unfold S_glossatorlaw3_FixpointProofs_j1
      rw [example_ok]
      rfl
    · have eb : (((decide (a1 < 0) || decide (a1 ≥ (a0.length : Int))) || decide (a2 < 0)) || decide (a2 ≥ 20)) = false := by
        simp only [Bool.or_eq_false_iff, decide_eq_false_iff_not]; omega
      rw [eb]
      simp only [Bool.false_eq_true, if_false]
      obtain ⟨i, rfl⟩ := Int.eq_ofNat_of_zero_le (show 0 ≤ a1 by omega)
      have hi : i < a0.length := by omega
      have he0 : 0 ≤ a2 := by omega
      have he1 : a2 < 20 := by omega
      obtain ⟨S, N, k1, k2, k3, k4, k5⟩ := kleene_ok hv
      obtain ⟨st, D, g1, g2, g3⟩ := derivations_ok hv he0 he1
      have hcnt := g2.cnt
      have hDl := g2.len
      have hcl : D.count true ≤ D.length := List.count_le_length
      have hSi := k3.at hi
      rw [g1, k1]
      simp only [Option.bind_some]
      obtain ⟨j, d1, d2⟩ := cfD_loop (g := S_fixpoint_Derive_1c none (i : Int)) (P := fun x => x.f_Set == (i : Int)) (l := st) (by unfold BB; omega) (fun x _ => rfl) _ 0 (Nat.zero_add _)
      rw [show (((0 : Nat) : Int)) = 0 from rfl] at d1
      unfold S_slices_IndexFunc_api_QDerivation
      rw [d1]
      simp only [Option.bind_some, List.length_map, Int.toNat_natCast]
      have hbit : (ibits .and .i64 (S.getD i default) (W (1 * 2 ^ (min a2.toNat (IntKind.bits .i64)))) == 0) = !tb (S.getD i default) a2.toNat := and_bit hSi he0 he1
      have hb2 : (0 : Int) ≤ (i : Int) ∧ (i : Int) < (S.length : Int) := by rw [k3.1]; omega
      rcases d2 with ⟨rfl, d2⟩ | ⟨q, _, hq, rfl, d2⟩
      · have hnb : tb (S.getD i default) a2.toNat = false := by
          cases ht : tb (S.getD i default) a2.toNat
          · rfl
          · have := dv_complete hv he0 he1 g2 g3 k3 k4 k5 hi ht
            obtain ⟨x, hx, hx2⟩ := (g2.mem i hi).1 this
            obtain ⟨q, hq, rfl⟩ := List.mem_iff_getElem.1 hx
            have := d2 q (Nat.zero_le _) hq
            rw [hx2] at this
            simp at this
        rw [hnb] at hbit
        rw [if_pos (show decide ((-1 : Int) < 0) = true by decide)]
        simp only [Option.bind_some]
        rw [if_pos hb2, if_pos he0, if_pos (show (ibits .and .i64 (S.getD i default) (W (1 * 2 ^ (min a2.toNat (IntKind.bits .i64)))) == 0) = true from hbit)]
        unfold S_glossatorlaw3_FixpointProofs_j1
        rw [example_ok]
        rfl
      · have hset : st[q].f_Set = (i : Int) := by simpa using d2
        have hyes : tb (S.getD i default) a2.toNat = true := by
          have := dv_sound hv he0 he1 g2 k4 q hq
          rwa [hset, Int.toNat_natCast] at this
        have hTl : (st.take (q + 1)).length = q + 1 := by rw [List.length_take]; omega
        have hTat : ∀ a (h : a < (st.take (q + 1)).length), (st.take (q + 1))[a] = st[a]'(by omega) := fun a h => List.getElem_take
        have hTok : ∀ a (h : a < (st.take (q + 1)).length), Inb a0 (st.take (q + 1))[a] ∧ ∀ k ∈ (rule a0 (st.take (q + 1))[a]).f_All, ∃ x ∈ (st.take (q + 1)).take a, x.f_Set = k := fun a h => by
          rw [hTat a h, List.take_take, Nat.min_eq_left (by omega)]
          exact ⟨(g2.ok a (by omega)).1, (g2.ok a (by omega)).2.2.2⟩
        have hTm : ∀ x ∈ st.take (q + 1), Inb a0 x ∧ x.f_Element = a2 ∧ tb (rule a0 x).f_Mask a2.toNat = true := fun x hx => by
          obtain ⟨a, ha, rfl⟩ := List.mem_iff_getElem.1 (List.mem_of_mem_take hx)
          exact ⟨(g2.ok a ha).1, (g2.ok a ha).2.1, (g2.ok a ha).2.2.1⟩
        have hW1 : W ((q : Int) + 1) = ((q + 1 : Nat) : Int) := Wi (by omega)
        have hnd : ((List.replicate a0.length false).set i true).length = a0.length := by simp
        have hback := back_loop hv (T := st.take (q + 1)) (fun x hx => (hTm x hx).1) (by omega) (q + 1) ((List.replicate a0.length false).set i true) [] (by omega) hnd (by simp; omega)
        have hBk := bk_all hv (e := a2) hTok (q + 1) ((List.replicate a0.length false).set i true) [] (by omega) ⟨hnd, by simp, fun q h => by simp at h, by simp [hTl], .inl ⟨hTl.symm, rfl⟩⟩ (fun _ _ => by
          have e : q + 1 - 1 = q := by omega
          have hx : (st.take (q + 1)).getD q default = st[q] := by rw [getD_at (by omega), hTat q (by omega)]
          rw [e, hx, hset, Int.toNat_natCast, getD_set' _ _ _ _ (by simpa using hi), if_pos rfl])
        have hlast : (st.take (q + 1))[(st.take (q + 1)).length - 1].f_Set = (i : Int) := by
          rw [hTat _ (by omega)]
          have : (st.take (q + 1)).length - 1 = q := by omega
          simp only [this]
          exact hset
        have hfound := found_ok hBk hTm (by omega) hlast
        have hpl := hBk.sz
        generalize bw a0 (st.take (q + 1)) (q + 1) ((List.replicate a0.length false).set i true, []) = res at hback hfound hpl
        rw [hyes] at hbit
        rw [if_neg (show ¬ (decide ((q : Int) < 0) = true) by rw [decide_eq_true_eq]; omega), if_pos (by omega), if_pos (by simp; omega), if_pos (by simpa using hi), hW1, if_pos (by omega)]
        unfold S_slices_Backward_api_QDerivation S_slices_Backward_api_QDerivation_1
        have hW2 : W ((((st.take (q + 1)).map eD).length : Int) - 1) = ((q + 1 : Nat) : Int) - 1 := by
          rw [List.length_map, hTl, W_in (by unfold inR; omega)]
        simp only [Option.bind_some, Int.toNat_natCast, Nat.zero_add]
        rw [hW2, hback]
        simp only [Option.bind_some]
        unfold S_fixpoint_Derive_j1
        rw [reverse_ok (by omega), Option.bind_some, if_pos (by rw [List.length_reverse])]
        simp only [Option.bind_some]
        rw [if_pos hb2, if_pos he0, if_neg (show ¬ ((ibits .and .i64 (S.getD i default) (W (1 * 2 ^ (min a2.toNat (IntKind.bits .i64)))) == 0) = true) by rw [hbit]; decide)]
        unfold S_glossatorlaw3_FixpointProofs_j1
        rw [example_ok]
        simp only [Option.bind_some, e0, Bool.false_eq_true, if_false, Bool.true_and, e1, List.length_map, List.length_reverse]
        have hfl : decide ((res.2.length : Int) ≤ (a0.length : Int)) = true := by rw [decide_eq_true_eq]; omega
        rw [hfl]
        simp only [beq_self_eq_true, if_true]
        rw [proves_ok hv (by rw [List.length_reverse]; unfold BB; omega), hfound]
        rfl
  · have e0 : (cspec a0 != 0) = true := by simpa using hc
    have e1 : (cspec a0 == 0) = false := by simpa using hc
    have hver : S_fixpoint_Verify none a0 a3 a1 a2 = some false := by
      unfold S_fixpoint_Verify
      rw [check_ok hS, Option.bind_some, e0, Bool.true_or, if_pos rfl]
    rw [hver]
    simp only [e0, e1, if_true, Option.bind_some, Bool.false_and, beq_self_eq_true, Bool.not_true, Bool.false_eq_true, if_false]
    unfold S_glossatorlaw3_FixpointProofs_j1
    rw [e0, if_pos rfl, example_ok]
    simp
end Go.Proofs.Ytjcckmpeflflbaa
