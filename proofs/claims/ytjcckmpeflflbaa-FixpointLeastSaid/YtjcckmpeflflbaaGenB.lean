/-
  Own text GenB of this claim: what functions of the given program compute, in plain Lean, and the proof; no condition.
-/
import Derived.Test.YtjcckmpeflflbaaGenA
namespace Go.Proofs.Ytjcckmpeflflbaa
open Go.Fx
set_option linter.unusedVariables false
def f8_c2 : LCode := (.seq (.region [⟨some 26, .bin .lss (.t 25) (.t 24), none⟩])
 (.seq (.cond (.t 26)
  .skip
  (.exit 2))
 (.seq (.block 3
  (.seq (.region [⟨some 27, .mv (.t 25), none⟩,
    ⟨some 28, .iaddr 1 (.t 23) (.t 25), none⟩,
    ⟨some 29, .load false 1 (.t 28), none⟩,
    ⟨some 8, .mv (.t 27), none⟩,
    ⟨some 9, .mv (.t 29), none⟩])
  (.region [⟨some 30, .mv (.t 7), none⟩,
    ⟨some 31, .mv (.t 8), none⟩,
    ⟨some 32, .mv (.t 9), none⟩,
    ⟨some 33, .mv (.t 5), none⟩,
    ⟨some 34, .call 27 [(.t 32), (.t 33)], none⟩,
    ⟨some 35, .iaddr 1 (.t 30) (.t 31), none⟩,
    ⟨none, .store 1 (.t 35) (.t 34), none⟩])))
 (.region [⟨some 36, .bin .add (.t 25) (.c (.int .i64 1)), none⟩,
   ⟨some 25, .mv (.t 36), none⟩]))))
def f8_c0 : LCode := (.seq (.seq (.region [⟨some 37, .mv (.t 7), none⟩,
   ⟨some 38, .mv (.t 5), none⟩,
   ⟨some 39, .call 28 [(.t 37), (.t 38)], none⟩])
 (.cond (.t 39)
  (.seq (.region [⟨some 40, .mv (.t 6), none⟩,
    ⟨some 2, .mv (.t 40), none⟩,
    ⟨some 3, .mv (.c (.int .i64 0)), none⟩])
  .ret)
  .skip))
 (.region [⟨some 41, .mv (.t 7), none⟩,
   ⟨some 5, .mv (.t 41), none⟩]))
def f8_c1 : LCode := (.region [⟨some 18, .mv (.t 6), none⟩,
   ⟨some 19, .bin .add (.t 18) (.c (.int .i64 1)), none⟩,
   ⟨some 6, .mv (.t 19), none⟩])
def f8_c3 : LCode := (.seq (.block 1
  (.seq (.region [⟨some 20, .mv (.t 0), none⟩,
    ⟨some 21, .len false (.t 20), none⟩,
    ⟨some 22, .mkslice false 1 8 [(.int .i64 0)] (.t 21) (.t 21), none⟩,
    ⟨some 7, .mv (.t 22), none⟩])
  (.seq (.seq (.region [⟨some 23, .mv (.t 0), none⟩,
    ⟨some 24, .len false (.t 23), none⟩,
    ⟨some 25, .mv (.c (.int .i64 0)), none⟩])
  (.block 2
   (.loop
    f8_c2)))
  f8_c0)))
 f8_c1)
def f8_c4 : LCode := (.seq (.region [⟨some 2, .mv (.c (.int .i64 0)), none⟩,
   ⟨some 3, .mv (.c (.int .i64 0)), none⟩])
 (.seq (.seq (.region [⟨some 10, .mv (.t 0), none⟩,
   ⟨some 11, .call 10 [(.t 10)], none⟩,
   ⟨some 4, .mv (.t 11), none⟩])
 (.seq (.region [⟨some 12, .mv (.t 4), none⟩,
   ⟨some 13, .bin .neq (.t 12) (.c (.int .i64 0)), none⟩])
 (.cond (.t 13)
  (.seq (.region [⟨some 14, .mv (.t 4), none⟩,
    ⟨some 2, .mv (.c (.int .i64 0)), none⟩,
    ⟨some 3, .mv (.t 14), none⟩])
  .ret)
  .skip)))
 (.seq (.region [⟨some 15, .mv (.t 0), none⟩,
   ⟨some 16, .len false (.t 15), none⟩,
   ⟨some 17, .mkslice false 1 8 [(.int .i64 0)] (.t 16) (.t 16), none⟩,
   ⟨some 5, .mv (.t 17), none⟩])
 (.seq (.region [⟨some 6, .mv (.c (.int .i64 0)), none⟩])
 (.block 0
  (.loop
   f8_c3))))))
def f8_lay : Lay := ⟨42, [17, 22], false⟩
def f8_res : List LRes := [.t 2, .t 3]
def f8_L : LFn := ⟨1, f8_lay, f8_c4, f8_res⟩
theorem f8_low : lowFn Try.prog [17, 22] 8 = some f8_L := by kernel_rfl
theorem f8_fok : FnOk Try.prog 8 := ⟨_, Try.func8, rfl, rfl⟩
def f8_Q (a0 : List (List G_QRule)) (o : Int × Int) : Exit → Env → AHeap → Nat → Prop := FinK f8_res (PureEnd (.tup [.int .i64 o.1, .int .i64 o.2]))

def f8_L3_env (a0 : List (List G_QRule)) (s : (Int × (List Int))) : Env := [(0, .isl 1 (a0.map e_sl_QRule) false), (5, .msl (0, 0) 1 0 s.2.length true), (6, .int .i64 s.1)]
def f8_L3_hp (a0 : List (List G_QRule)) (s : (Int × (List Int))) : AHeap := [((0, 0), .rows 1 (s.2.map e_i64))]
def f8_L3_Q (a0 : List (List G_QRule)) (o : (Int × Int)) : Exit → Env → AHeap → Nat → Prop := (QBlock 0 (f8_Q a0 o))

def f8_L4_env (a0 : List (List G_QRule)) (v8 : Int) (v9 : List Int) (s : (Int × (List Int))) : Env := [(0, .isl 1 (a0.map e_sl_QRule) false), (5, .msl (0, 0) 1 0 v9.length true), (6, .int .i64 v8), (7, .msl (1, 0) 1 0 s.2.length true), (23, .isl 1 (a0.map e_sl_QRule) false), (24, .int .i64 ((a0.map e_sl_QRule).length : Int)), (25, .int .i64 s.1)]
def f8_L4_hp (a0 : List (List G_QRule)) (v8 : Int) (v9 : List Int) (s : (Int × (List Int))) : AHeap := [((0, 0), .rows 1 (v9.map e_i64)), ((1, 0), .rows 1 (s.2.map e_i64))]
def f8_L4_Q (a0 : List (List G_QRule)) (o : ((Int × (List Int)) ⊕ (Int × Int))) : Exit → Env → AHeap → Nat → Prop := (QBlock 2 (QSeq Try.prog f8_lay 0 f8_c0 (QBlock 1 (QSeq Try.prog f8_lay 0 f8_c1 (BodyQ 0 1 (f8_L3_env a0) (f8_L3_hp a0) (f8_L3_Q a0) o)))))

noncomputable def S_fixpoint_Rounds_j6 (m : Option Nat) (a0 : List (List G_QRule)) (v8 : Int) (v18 : List Int) : Option ((Int × (List Int)) ⊕ (Int × Int)) :=
  some (.inl ((W (v8 + 1)), v18))

noncomputable def S_fixpoint_Rounds_j5 (m : Option Nat) (a0 : List (List G_QRule)) (v8 : Int) (v9 : List Int) (v18 : List Int) : Option ((Int × (List Int)) ⊕ (Int × Int)) :=
  (S_slices_Equal_int m v18 v9).bind fun v21 =>
  if v21 = true then
    Option.map Sum.inr (
      some (v8, 0))
  else
    S_fixpoint_Rounds_j6 m a0 v8 v18

noncomputable def S_fixpoint_Rounds_b4 (m : Option Nat) (a0 : List (List G_QRule)) (v8 : Int) (v9 : List Int) (v17 : Int) (v18 : List Int) : Option ((Int × (List Int)) ⊕ ((Int × (List Int)) ⊕ (Int × Int))) :=
  if (decide (v17 < ((a0.map e_sl_QRule).length : Int))) = true then
    if (0 : Int) ≤ v17 ∧ v17 < ((a0.map e_sl_QRule).length : Int) then
    (S_fixpoint_deriveAll m (a0.getD v17.toNat default) v9).bind fun v20 =>
    if (0 : Int) ≤ v17 ∧ v17 < ((v18.length : Nat) : Int) then
    if (0 + v17.toNat) < v18.length then
    some (.inl ((W (v17 + 1)), (v18.set (0 + v17.toNat) v20)))
    else none
    else none
    else none
  else
    Option.map Sum.inr (
      S_fixpoint_Rounds_j5 m a0 v8 v9 v18)

noncomputable def S_fixpoint_Rounds_l4 (m : Option Nat) (a0 : List (List G_QRule)) (v8 : Int) (v9 : List Int) (v17 : Int) (v18 : List Int) : Option ((Int × (List Int)) ⊕ (Int × Int)) := loopM m (fun (s : (Int × (List Int))) => S_fixpoint_Rounds_b4 m a0 v8 v9 s.1 s.2) (v17, v18)

theorem f8_j6_ok {a0 : List (List G_QRule)} {v8 : Int} {v18 : List Int} {m : Option Nat} {o : ((Int × (List Int)) ⊕ (Int × Int))} (h : S_fixpoint_Rounds_j6 m a0 v8 v18 = some o) :
    LWp Try.prog f8_lay 0 f8_c1 (BodyQ 0 1 (f8_L3_env a0) (f8_L3_hp a0) (f8_L3_Q a0) o) [(0, .isl 1 (a0.map e_sl_QRule) false), (5, .msl (0, 0) 1 0 v18.length true), (6, .int .i64 v8)] [((0, 0), .rows 1 (v18.map e_i64))] 1 := by
  unfold S_fixpoint_Rounds_j6 at h
  refine regI ?_
  cases h
  exact And.intro rfl (simI (M := [((0, 0), (0, 0))]) rfl (And.intro (Vw.same _ rfl) (And.intro (Vw.mslE rfl (by first | rfl | (simp; done) | (simp only [List.length_map, List.length_replicate, Int.toNat_natCast] at *; omega)) rfl) (And.intro (Vw.same _ rfl) trivial))) (And.intro (And.intro rfl (BVw.enc e_i64 (fun _ => rfl) _ v18)) trivial))

theorem f8_j5_ok {a0 : List (List G_QRule)} {v8 : Int} {v9 : List Int} {v18 : List Int} {m : Option Nat} {o : ((Int × (List Int)) ⊕ (Int × Int))} (h : S_fixpoint_Rounds_j5 m a0 v8 v9 v18 = some o) :
    LWp Try.prog f8_lay 0 f8_c0 (QBlock 1 (QSeq Try.prog f8_lay 0 f8_c1 (BodyQ 0 1 (f8_L3_env a0) (f8_L3_hp a0) (f8_L3_Q a0) o))) [(0, .isl 1 (a0.map e_sl_QRule) false), (5, .msl (0, 0) 1 0 v9.length true), (6, .int .i64 v8), (7, .msl (1, 0) 1 0 v18.length true)] [((0, 0), .rows 1 (v9.map e_i64)), ((1, 0), .rows 1 (v18.map e_i64))] 2 := by
  unfold S_fixpoint_Rounds_j5 at h
  refine seqI ?_
  refine seqI ?_
  refine regI ?_
  obtain ⟨v21, h56, h⟩ := bind_some h
  refine PFn.readB [(1, 0), (0, 0)] (f28_ok h56) rfl (And.intro (Vw.frzB e_i64 e_i64_ok (fun h => Bool.noConfusion h) rfl rfl (by first | rfl | (simp; done) | (simp only [List.length_map, List.length_replicate, Int.toNat_natCast] at *; omega))) (And.intro (Vw.frzB e_i64 e_i64_ok (fun h => Bool.noConfusion h) rfl rfl (by first | rfl | (simp; done) | (simp only [List.length_map, List.length_replicate, Int.toNat_natCast] at *; omega))) trivial)) ?_
  refine condI (v := v21) rfl trivial (fun h57 => ?_) (fun h57 => ?_)
  · have h := ite_tt h57 h
    refine seqI ?_
    refine regI ?_
    refine retI ?_
    obtain ⟨o, hq, rfl⟩ := Option.map_eq_some_iff.1 h
    replace h := hq; clear hq
    refine And.intro nofun ?_
    cases h
    exact And.intro trivial (And.intro trivial (And.intro rfl (Vw.same _ rfl)))
  · have h := ite_ff h57 h
    refine skipI ?_
    refine regI ?_
    refine LWp.sim ?_ (f8_j6_ok h)
    exact simI (M := [((0, 0), (1, 0))]) rfl (And.intro (Vw.same _ rfl) (And.intro (Vw.mslE rfl (by first | rfl | (simp; done) | (simp only [List.length_map, List.length_replicate, Int.toNat_natCast] at *; omega)) rfl) (And.intro (Vw.same _ rfl) trivial))) (And.intro (And.intro rfl (BVw.enc e_i64 (fun _ => rfl) _ v18)) trivial)

theorem f8_L4_bok {a0 : List (List G_QRule)} {v8 : Int} {v9 : List Int} {v17 : Int} {v18 : List Int} {m : Option Nat} {o : (Int × (List Int)) ⊕ ((Int × (List Int)) ⊕ (Int × Int))} (h : S_fixpoint_Rounds_b4 m a0 v8 v9 v17 v18 = some o) :
    LWp Try.prog f8_lay 0 f8_c2 (BodyQ 0 2 (f8_L4_env a0 v8 v9) (f8_L4_hp a0 v8 v9) (f8_L4_Q a0) o) [(0, .isl 1 (a0.map e_sl_QRule) false), (5, .msl (0, 0) 1 0 v9.length true), (6, .int .i64 v8), (7, .msl (1, 0) 1 0 v18.length true), (23, .isl 1 (a0.map e_sl_QRule) false), (24, .int .i64 ((a0.map e_sl_QRule).length : Int)), (25, .int .i64 v17)] [((0, 0), .rows 1 (v9.map e_i64)), ((1, 0), .rows 1 (v18.map e_i64))] 2 := by
  unfold S_fixpoint_Rounds_b4 at h
  refine seqI ?_
  refine regI ?_
  refine seqI ?_
  refine condI (v := (decide (v17 < ((a0.map e_sl_QRule).length : Int)))) rfl trivial (fun h51 => ?_) (fun h51 => ?_)
  · have h := ite_tt h51 h
    refine skipI ?_
    refine seqI ?_
    refine blockI ?_
    refine seqI ?_
    refine regI ?_
    obtain ⟨h52, h⟩ := ite_some h
    refine And.intro h52 ?_
    refine Exists.intro (e_sl_QRule (a0.getD v17.toNat default)) (And.intro (getD_enc e_sl_QRule _ _ (idx_ltL e_sl_QRule h52)) (And.intro (And.intro (idx_lt h52) (Nat.le_of_ble_eq_true rfl)) ?_))
    refine regI ?_
    obtain ⟨v20, h53, h⟩ := bind_some h
    refine PFn.readB [(0, 0)] (f27_ok h53) rfl (And.intro (Vw.same _ rfl) (And.intro (Vw.frzB e_i64 e_i64_ok (fun h => Bool.noConfusion h) rfl rfl (by first | rfl | (simp; done) | (simp only [List.length_map, List.length_replicate, Int.toNat_natCast] at *; omega))) trivial)) ?_
    show yops _ _ _ [(34, .int .i64 v20), (33, .msl (0, 0) 1 0 v9.length true), (32, .isl 2 ((a0.getD v17.toNat default).map e_QRule) false), (31, .int .i64 v17), (30, .msl (1, 0) 1 0 v18.length true), (9, .isl 2 ((a0.getD v17.toNat default).map e_QRule) false), (8, .int .i64 v17), (29, .isl 2 ((a0.getD v17.toNat default).map e_QRule) false), (28, .iptr 1 (a0.map e_sl_QRule) v17.toNat 0), (27, .int .i64 v17), (26, .bool (decide (v17 < ((a0.map e_sl_QRule).length : Int)))), (0, .isl 1 (a0.map e_sl_QRule) false), (5, .msl (0, 0) 1 0 v9.length true), (6, .int .i64 v8), (7, .msl (1, 0) 1 0 v18.length true), (23, .isl 1 (a0.map e_sl_QRule) false), (24, .int .i64 ((a0.map e_sl_QRule).length : Int)), (25, .int .i64 v17)] _ _
    obtain ⟨h54, h⟩ := ite_some h
    refine And.intro h54 ?_
    obtain ⟨h55, h⟩ := ite_some h
    refine Exists.intro ((v18.set (0 + v17.toNat) v20).map e_i64) (And.intro (set_enc e_i64 _ _ _ _ _ h55 rfl) (And.intro (And.intro rfl (And.intro (lt_map e_i64 h55) (Nat.le_of_ble_eq_true rfl))) ?_))
    refine LWp.sim (e := [(0, .isl 1 (a0.map e_sl_QRule) false), (5, .msl (0, 0) 1 0 v9.length true), (6, .int .i64 v8), (7, .msl (1, 0) 1 0 v18.length true), (23, .isl 1 (a0.map e_sl_QRule) false), (24, .int .i64 ((a0.map e_sl_QRule).length : Int)), (25, .int .i64 v17)]) (L := [((0, 0), .rows 1 (v9.map e_i64)), ((1, 0), .rows 1 ((v18.set (0 + v17.toNat) v20).map e_i64))]) (n := 2) ?_ ?_
    · exact simI (M := [((0, 0), (0, 0)), ((1, 0), (1, 0))]) rfl (And.intro (Vw.same _ rfl) (And.intro (Vw.mslE rfl (by first | rfl | (simp; done) | (simp only [List.length_map, List.length_replicate, Int.toNat_natCast] at *; omega)) rfl) (And.intro (Vw.same _ rfl) (And.intro (Vw.mslE rfl (by first | rfl | (simp; done) | (simp only [List.length_map, List.length_replicate, Int.toNat_natCast] at *; omega)) rfl) (And.intro (Vw.same _ rfl) (And.intro (Vw.same _ rfl) (And.intro (Vw.same _ rfl) trivial))))))) (And.intro (And.intro rfl (BVw.enc e_i64 (fun _ => rfl) _ v9)) (And.intro (And.intro rfl (BVw.enc e_i64 (fun _ => rfl) _ (v18.set (0 + v17.toNat) v20))) trivial))
    refine regI ?_
    cases h
    exact And.intro rfl (simI (M := [((0, 0), (0, 0)), ((1, 0), (1, 0))]) rfl (And.intro (Vw.same _ rfl) (And.intro (Vw.mslE rfl (by first | rfl | (simp; done) | (simp only [List.length_map, List.length_replicate, Int.toNat_natCast] at *; omega)) rfl) (And.intro (Vw.same _ rfl) (And.intro (Vw.mslE rfl (by first | rfl | (simp; done) | (simp only [List.length_map, List.length_replicate, Int.toNat_natCast] at *; omega)) rfl) (And.intro (Vw.same _ rfl) (And.intro (Vw.same _ rfl) (And.intro (Vw.same _ rfl) trivial))))))) (And.intro (And.intro rfl (BVw.enc e_i64 (fun _ => rfl) _ v9)) (And.intro (And.intro rfl (BVw.enc e_i64 (fun _ => rfl) _ (v18.set (0 + v17.toNat) v20))) trivial)))
  · have h := ite_ff h51 h
    refine exitI ?_
    obtain ⟨o, hq, rfl⟩ := Option.map_eq_some_iff.1 h
    replace h := hq; clear hq
    refine And.intro nofun ?_
    refine LWp.sim ?_ (f8_j5_ok h)
    exact simI (M := [((0, 0), (0, 0)), ((1, 0), (1, 0))]) rfl (And.intro (Vw.same _ rfl) (And.intro (Vw.mslE rfl (by first | rfl | (simp; done) | (simp only [List.length_map, List.length_replicate, Int.toNat_natCast] at *; omega)) rfl) (And.intro (Vw.same _ rfl) (And.intro (Vw.mslE rfl (by first | rfl | (simp; done) | (simp only [List.length_map, List.length_replicate, Int.toNat_natCast] at *; omega)) rfl) trivial)))) (And.intro (And.intro rfl (BVw.enc e_i64 (fun _ => rfl) _ v9)) (And.intro (And.intro rfl (BVw.enc e_i64 (fun _ => rfl) _ v18)) trivial))

theorem f8_L4_ok {a0 : List (List G_QRule)} {v8 : Int} {v9 : List Int} {v17 : Int} {v18 : List Int} {m : Option Nat} {o : ((Int × (List Int)) ⊕ (Int × Int))} (h : S_fixpoint_Rounds_l4 m a0 v8 v9 v17 v18 = some o) :
    LWp Try.prog f8_lay 0 (.loop f8_c2) (QBlock 2 (QSeq Try.prog f8_lay 0 f8_c0 (QBlock 1 (QSeq Try.prog f8_lay 0 f8_c1 (BodyQ 0 1 (f8_L3_env a0) (f8_L3_hp a0) (f8_L3_Q a0) o))))) [(0, .isl 1 (a0.map e_sl_QRule) false), (5, .msl (0, 0) 1 0 v9.length true), (6, .int .i64 v8), (7, .msl (1, 0) 1 0 v18.length true), (23, .isl 1 (a0.map e_sl_QRule) false), (24, .int .i64 ((a0.map e_sl_QRule).length : Int)), (25, .int .i64 v17)] [((0, 0), .rows 1 (v9.map e_i64)), ((1, 0), .rows 1 (v18.map e_i64))] 2 :=
  LWp_loopM (m := m) (s := ((v17, v18) : (Int × (List Int)))) (r := o) (fun (s : (Int × (List Int))) => S_fixpoint_Rounds_b4 m a0 v8 v9 s.1 s.2) (f8_L4_env a0 v8 v9) (f8_L4_hp a0 v8 v9) (f8_L4_Q a0) (fun s o h => f8_L4_bok h) h

noncomputable def S_fixpoint_Rounds_b3 (m : Option Nat) (a0 : List (List G_QRule)) (v8 : Int) (v9 : List Int) : Option ((Int × (List Int)) ⊕ (Int × Int)) :=
  if (0 : Int) ≤ ((a0.map e_sl_QRule).length : Int) ∧ ((a0.map e_sl_QRule).length : Int) ≤ ((a0.map e_sl_QRule).length : Int) ∧ ((a0.map e_sl_QRule).length : Int) * 8 ≤ 140737488355328 then
  S_fixpoint_Rounds_l4 m a0 v8 v9 0 (List.replicate ((a0.map e_sl_QRule).length : Int).toNat 0)
  else none

noncomputable def S_fixpoint_Rounds_l3 (m : Option Nat) (a0 : List (List G_QRule)) (v8 : Int) (v9 : List Int) : Option (Int × Int) := loopM m (fun (s : (Int × (List Int))) => S_fixpoint_Rounds_b3 m a0 s.1 s.2) (v8, v9)

theorem f8_L3_bok {a0 : List (List G_QRule)} {v8 : Int} {v9 : List Int} {m : Option Nat} {o : (Int × (List Int)) ⊕ (Int × Int)} (h : S_fixpoint_Rounds_b3 m a0 v8 v9 = some o) :
    LWp Try.prog f8_lay 0 f8_c3 (BodyQ 0 1 (f8_L3_env a0) (f8_L3_hp a0) (f8_L3_Q a0) o) [(0, .isl 1 (a0.map e_sl_QRule) false), (5, .msl (0, 0) 1 0 v9.length true), (6, .int .i64 v8)] [((0, 0), .rows 1 (v9.map e_i64))] 1 := by
  unfold S_fixpoint_Rounds_b3 at h
  refine seqI ?_
  refine blockI ?_
  refine seqI ?_
  refine regI ?_
  obtain ⟨h40, h⟩ := ite_some h
  refine Exists.intro ((List.replicate ((a0.map e_sl_QRule).length : Int).toNat 0).map e_i64) (Exists.intro true (And.intro (Or.inl (repl_enc e_i64 ((a0.map e_sl_QRule).length : Int).toNat 0)) (And.intro (by simp) (And.intro h40 ?_))))
  refine seqI ?_
  refine seqI ?_
  refine regI ?_
  refine blockI ?_
  refine LWp.sim ?_ (f8_L4_ok h)
  exact simI (M := [((0, 0), (0, 0)), ((1, 0), (1, 0))]) rfl (And.intro (Vw.same _ rfl) (And.intro (Vw.mslE rfl (by first | rfl | (simp; done) | (simp only [List.length_map, List.length_replicate, Int.toNat_natCast] at *; omega)) rfl) (And.intro (Vw.same _ rfl) (And.intro (Vw.mslE rfl (by first | rfl | (simp; done) | (simp only [List.length_map, List.length_replicate, Int.toNat_natCast] at *; omega)) rfl) (And.intro (Vw.same _ rfl) (And.intro (Vw.same _ rfl) (And.intro (Vw.same _ rfl) trivial))))))) (And.intro (And.intro rfl (BVw.enc e_i64 (fun _ => rfl) _ v9)) (And.intro (And.intro rfl (BVw.enc e_i64 (fun _ => rfl) _ (List.replicate ((a0.map e_sl_QRule).length : Int).toNat 0))) trivial))

theorem f8_L3_ok {a0 : List (List G_QRule)} {v8 : Int} {v9 : List Int} {m : Option Nat} {o : (Int × Int)} (h : S_fixpoint_Rounds_l3 m a0 v8 v9 = some o) :
    LWp Try.prog f8_lay 0 (.loop f8_c3) (QBlock 0 (f8_Q a0 o)) [(0, .isl 1 (a0.map e_sl_QRule) false), (5, .msl (0, 0) 1 0 v9.length true), (6, .int .i64 v8)] [((0, 0), .rows 1 (v9.map e_i64))] 1 :=
  LWp_loopM (m := m) (s := ((v8, v9) : (Int × (List Int)))) (r := o) (fun (s : (Int × (List Int))) => S_fixpoint_Rounds_b3 m a0 s.1 s.2) (f8_L3_env a0) (f8_L3_hp a0) (f8_L3_Q a0) (fun s o h => f8_L3_bok h) h

noncomputable def S_fixpoint_Rounds (m : Option Nat) (a0 : List (List G_QRule)) : Option (Int × Int) :=
  (S_fixpoint_Check m a0).bind fun v1 =>
  if (v1 != 0) = true then
    some (0, v1)
  else
    if (0 : Int) ≤ ((a0.map e_sl_QRule).length : Int) ∧ ((a0.map e_sl_QRule).length : Int) ≤ ((a0.map e_sl_QRule).length : Int) ∧ ((a0.map e_sl_QRule).length : Int) * 8 ≤ 140737488355328 then
    S_fixpoint_Rounds_l3 m a0 0 (List.replicate ((a0.map e_sl_QRule).length : Int).toNat 0)
    else none

theorem f8_start {a0 : List (List G_QRule)} {m : Option Nat} {o : Int × Int} (h : S_fixpoint_Rounds m a0 = some o) : LWp Try.prog f8_lay 0 f8_c4 (f8_Q a0 o) (initEnv 0 [.isl 1 (a0.map e_sl_QRule) false]) [] 0 := by
  unfold S_fixpoint_Rounds at h
  refine seqI ?_
  refine regI ?_
  refine seqI ?_
  refine seqI ?_
  refine regI ?_
  obtain ⟨v1, h1, h⟩ := bind_some h
  refine PFn.call (f10_ok h1) (And.intro (Vw.same _ rfl) trivial) ?_
  refine seqI ?_
  refine regI ?_
  refine condI (v := (v1 != 0)) rfl trivial (fun h2 => ?_) (fun h2 => ?_)
  · have h := ite_tt h2 h
    refine seqI ?_
    refine regI ?_
    refine LWp.sim (e := [(2, .int .i64 0), (3, .int .i64 v1)]) (L := []) (n := 0) ?_ ?_
    · exact simI (M := []) rfl (And.intro (Vw.same _ rfl) (And.intro (Vw.same _ rfl) trivial)) trivial
    refine retI ?_
    cases h
    exact And.intro trivial (And.intro trivial (And.intro rfl (Vw.same _ rfl)))
  · have h := ite_ff h2 h
    refine skipI ?_
    refine seqI ?_
    refine regI ?_
    obtain ⟨h3, h⟩ := ite_some h
    refine Exists.intro ((List.replicate ((a0.map e_sl_QRule).length : Int).toNat 0).map e_i64) (Exists.intro true (And.intro (Or.inl (repl_enc e_i64 ((a0.map e_sl_QRule).length : Int).toNat 0)) (And.intro (by simp) (And.intro h3 ?_))))
    refine LWp.sim (e := [(0, .isl 1 (a0.map e_sl_QRule) false), (5, .msl (0, 0) 1 0 (((List.replicate ((a0.map e_sl_QRule).length : Int).toNat 0).map e_i64).length) true)]) (L := [((0, 0), .rows 1 ((List.replicate ((a0.map e_sl_QRule).length : Int).toNat 0).map e_i64))]) (n := 1) ?_ ?_
    · exact simI (M := [((0, 0), (0, 0))]) rfl (And.intro (Vw.same _ rfl) (And.intro (Vw.mslE rfl (by first | rfl | (simp; done) | (simp only [List.length_map, List.length_replicate, Int.toNat_natCast] at *; omega)) rfl) trivial)) (And.intro (And.intro rfl (BVw.enc e_i64 (fun _ => rfl) _ (List.replicate ((a0.map e_sl_QRule).length : Int).toNat 0))) trivial)
    refine seqI ?_
    refine regI ?_
    refine blockI ?_
    refine LWp.sim ?_ (f8_L3_ok h)
    exact simI (M := [((0, 0), (0, 0))]) rfl (And.intro (Vw.same _ rfl) (And.intro (Vw.mslE rfl (by first | rfl | (simp; done) | (simp only [List.length_map, List.length_replicate, Int.toNat_natCast] at *; omega)) rfl) (And.intro (Vw.same _ rfl) trivial))) (And.intro (And.intro rfl (BVw.enc e_i64 (fun _ => rfl) _ (List.replicate ((a0.map e_sl_QRule).length : Int).toNat 0))) trivial)

theorem f8_ok {a0 : List (List G_QRule)} {m : Option Nat} {o : Int × Int} (h : S_fixpoint_Rounds m a0 = some o) : PFn Try.prog 8 [.isl 1 (a0.map e_sl_QRule) false] (.tup [.int .i64 o.1, .int .i64 o.2]) := PFn.ofFnW (L := f8_L) f8_low f8_fok (Nat.le_of_ble_eq_true rfl) rfl (f8_start h)

def f12_c1 : LCode := (.seq (.region [⟨some 15, .bin .lss (.t 14) (.t 13), none⟩])
 (.seq (.cond (.t 15)
  .skip
  (.exit 0))
 (.seq (.block 1
  (.seq (.region [⟨some 16, .mv (.t 14), none⟩,
    ⟨some 17, .iaddr 1 (.t 12) (.t 14), none⟩,
    ⟨some 18, .load false 1 (.t 17), none⟩,
    ⟨some 5, .mv (.t 16), none⟩,
    ⟨some 6, .mv (.t 18), none⟩])
  (.seq (.region [⟨some 19, .mv (.t 6), none⟩,
    ⟨some 20, .mv (.t 1), none⟩,
    ⟨some 21, .mv (.t 5), none⟩,
    ⟨some 22, .iaddr 1 (.t 20) (.t 21), none⟩,
    ⟨some 23, .load false 1 (.t 22), none⟩,
    ⟨some 24, .bin .neq (.t 19) (.t 23), none⟩])
  (.cond (.t 24)
   (.seq (.region [⟨some 4, .mv (.c (.bool false)), none⟩])
   .ret)
   .skip))))
 (.region [⟨some 25, .bin .add (.t 14) (.c (.int .i64 1)), none⟩,
   ⟨some 14, .mv (.t 25), none⟩]))))
def f12_c0 : LCode := (.seq (.region [⟨some 4, .mv (.c (.bool true)), none⟩])
 .ret)
def f12_c2 : LCode := (.seq (.region [⟨some 4, .mv (.c (.bool false)), none⟩])
 (.seq (.seq (.region [⟨some 7, .mv (.t 0), none⟩,
   ⟨some 8, .len false (.t 7), none⟩,
   ⟨some 9, .mv (.t 1), none⟩,
   ⟨some 10, .len false (.t 9), none⟩,
   ⟨some 11, .bin .neq (.t 8) (.t 10), none⟩])
 (.cond (.t 11)
  (.seq (.region [⟨some 4, .mv (.c (.bool false)), none⟩])
  .ret)
  .skip))
 (.seq (.seq (.region [⟨some 12, .mv (.t 0), none⟩,
   ⟨some 13, .len false (.t 12), none⟩,
   ⟨some 14, .mv (.c (.int .i64 0)), none⟩])
 (.block 0
  (.loop
   f12_c1)))
 f12_c0)))
def f12_lay : Lay := ⟨26, [], false⟩
def f12_res : List LRes := [.t 4]
def f12_L : LFn := ⟨2, f12_lay, f12_c2, f12_res⟩
theorem f12_low : lowFn Try.prog [] 12 = some f12_L := by kernel_rfl
theorem f12_fok : FnOk Try.prog 12 := ⟨_, Try.func12, rfl, rfl⟩
def f12_Q (a0 : List Int) (a1 : List Int) (o : Bool) : Exit → Env → AHeap → Nat → Prop := FinK f12_res (PureEnd (.bool o))

def f12_L1_env (a0 : List Int) (a1 : List Int) (s : Int) : Env := [(1, .isl 1 (a1.map e_i64) false), (12, .isl 1 (a0.map e_i64) false), (13, .int .i64 ((a0.map e_i64).length : Int)), (14, .int .i64 s)]
def f12_L1_hp (a0 : List Int) (a1 : List Int) (s : Int) : AHeap := []
def f12_L1_Q (a0 : List Int) (a1 : List Int) (o : Bool) : Exit → Env → AHeap → Nat → Prop := (QBlock 0 (QSeq Try.prog f12_lay 0 f12_c0 (f12_Q a0 a1 o)))

noncomputable def S_glossatorref3_Equal_int_j1 (m : Option Nat) : Option Bool :=
  some true

noncomputable def S_glossatorref3_Equal_int_b1 (m : Option Nat) (a0 : List Int) (a1 : List Int) (v1 : Int) : Option (Int ⊕ Bool) :=
  if (decide (v1 < ((a0.map e_i64).length : Int))) = true then
    if (0 : Int) ≤ v1 ∧ v1 < ((a0.map e_i64).length : Int) then
    if (0 : Int) ≤ v1 ∧ v1 < ((a1.map e_i64).length : Int) then
    if ((a0.getD v1.toNat default) != (a1.getD v1.toNat default)) = true then
      Option.map Sum.inr (
        some false)
    else
      some (.inl (W (v1 + 1)))
    else none
    else none
  else
    Option.map Sum.inr (
      S_glossatorref3_Equal_int_j1 m)

noncomputable def S_glossatorref3_Equal_int_l1 (m : Option Nat) (a0 : List Int) (a1 : List Int) (v1 : Int) : Option Bool := loopM m (fun (s : Int) => S_glossatorref3_Equal_int_b1 m a0 a1 s) v1

theorem f12_j1_ok {a0 : List Int} {a1 : List Int} {m : Option Nat} {o : Bool} (h : S_glossatorref3_Equal_int_j1 m = some o) :
    LWp Try.prog f12_lay 0 f12_c0 (f12_Q a0 a1 o) [] [] 0 := by
  unfold S_glossatorref3_Equal_int_j1 at h
  refine seqI ?_
  refine regI ?_
  refine retI ?_
  cases h
  exact And.intro trivial (And.intro rfl (Vw.same _ rfl))

theorem f12_L1_bok {a0 : List Int} {a1 : List Int} {v1 : Int} {m : Option Nat} {o : Int ⊕ Bool} (h : S_glossatorref3_Equal_int_b1 m a0 a1 v1 = some o) :
    LWp Try.prog f12_lay 0 f12_c1 (BodyQ 0 0 (f12_L1_env a0 a1) (f12_L1_hp a0 a1) (f12_L1_Q a0 a1) o) [(1, .isl 1 (a1.map e_i64) false), (12, .isl 1 (a0.map e_i64) false), (13, .int .i64 ((a0.map e_i64).length : Int)), (14, .int .i64 v1)] [] 0 := by
  unfold S_glossatorref3_Equal_int_b1 at h
  refine seqI ?_
  refine regI ?_
  refine seqI ?_
  refine condI (v := (decide (v1 < ((a0.map e_i64).length : Int)))) rfl trivial (fun h10 => ?_) (fun h10 => ?_)
  · have h := ite_tt h10 h
    refine skipI ?_
    refine seqI ?_
    refine blockI ?_
    refine seqI ?_
    refine regI ?_
    obtain ⟨h11, h⟩ := ite_some h
    refine And.intro h11 ?_
    refine Exists.intro (e_i64 (a0.getD v1.toNat default)) (And.intro (getD_enc e_i64 _ _ (idx_ltL e_i64 h11)) (And.intro (And.intro (idx_lt h11) (Nat.le_of_ble_eq_true rfl)) ?_))
    refine seqI ?_
    refine regI ?_
    obtain ⟨h12, h⟩ := ite_some h
    refine And.intro h12 ?_
    show yops _ _ _ [(22, .iptr 1 (a1.map e_i64) v1.toNat 0), (21, .int .i64 v1), (20, .isl 1 (a1.map e_i64) false), (19, .int .i64 (a0.getD v1.toNat default)), (6, .int .i64 (a0.getD v1.toNat default)), (5, .int .i64 v1), (18, .int .i64 (a0.getD v1.toNat default)), (17, .iptr 1 (a0.map e_i64) v1.toNat 0), (16, .int .i64 v1), (15, .bool (decide (v1 < ((a0.map e_i64).length : Int)))), (1, .isl 1 (a1.map e_i64) false), (12, .isl 1 (a0.map e_i64) false), (13, .int .i64 ((a0.map e_i64).length : Int)), (14, .int .i64 v1)] _ _
    refine Exists.intro (e_i64 (a1.getD v1.toNat default)) (And.intro (getD_enc e_i64 _ _ (idx_ltL e_i64 h12)) (And.intro (And.intro (idx_lt h12) (Nat.le_of_ble_eq_true rfl)) ?_))
    refine LWp.sim (e := [(1, .isl 1 (a1.map e_i64) false), (12, .isl 1 (a0.map e_i64) false), (13, .int .i64 ((a0.map e_i64).length : Int)), (14, .int .i64 v1), (24, .bool ((a0.getD v1.toNat default) != (a1.getD v1.toNat default)))]) (L := []) (n := 0) ?_ ?_
    · exact simI (M := []) rfl (And.intro (Vw.same _ rfl) (And.intro (Vw.same _ rfl) (And.intro (Vw.same _ rfl) (And.intro (Vw.same _ rfl) (And.intro (Vw.same _ rfl) trivial))))) trivial
    refine condI (v := ((a0.getD v1.toNat default) != (a1.getD v1.toNat default))) rfl trivial (fun h13 => ?_) (fun h13 => ?_)
    · have h := ite_tt h13 h
      refine seqI ?_
      refine regI ?_
      refine retI ?_
      obtain ⟨o, hq, rfl⟩ := Option.map_eq_some_iff.1 h
      replace h := hq; clear hq
      refine And.intro nofun ?_
      cases h
      exact And.intro trivial (And.intro rfl (Vw.same _ rfl))
    · have h := ite_ff h13 h
      refine skipI ?_
      refine regI ?_
      cases h
      exact And.intro rfl (simI (M := []) rfl (And.intro (Vw.same _ rfl) (And.intro (Vw.same _ rfl) (And.intro (Vw.same _ rfl) (And.intro (Vw.same _ rfl) trivial)))) trivial)
  · have h := ite_ff h10 h
    refine exitI ?_
    obtain ⟨o, hq, rfl⟩ := Option.map_eq_some_iff.1 h
    replace h := hq; clear hq
    refine And.intro nofun ?_
    refine LWp.sim ?_ (f12_j1_ok h)
    exact simI (M := []) rfl trivial trivial

theorem f12_L1_ok {a0 : List Int} {a1 : List Int} {v1 : Int} {m : Option Nat} {o : Bool} (h : S_glossatorref3_Equal_int_l1 m a0 a1 v1 = some o) :
    LWp Try.prog f12_lay 0 (.loop f12_c1) (QBlock 0 (QSeq Try.prog f12_lay 0 f12_c0 (f12_Q a0 a1 o))) [(1, .isl 1 (a1.map e_i64) false), (12, .isl 1 (a0.map e_i64) false), (13, .int .i64 ((a0.map e_i64).length : Int)), (14, .int .i64 v1)] [] 0 :=
  LWp_loopM (m := m) (s := (v1 : Int)) (r := o) (fun (s : Int) => S_glossatorref3_Equal_int_b1 m a0 a1 s) (f12_L1_env a0 a1) (f12_L1_hp a0 a1) (f12_L1_Q a0 a1) (fun s o h => f12_L1_bok h) h

noncomputable def S_glossatorref3_Equal_int (m : Option Nat) (a0 : List Int) (a1 : List Int) : Option Bool :=
  if (((a0.map e_i64).length : Int) != ((a1.map e_i64).length : Int)) = true then
    some false
  else
    S_glossatorref3_Equal_int_l1 m a0 a1 0

theorem f12_start {a0 : List Int} {a1 : List Int} {m : Option Nat} {o : Bool} (h : S_glossatorref3_Equal_int m a0 a1 = some o) : LWp Try.prog f12_lay 0 f12_c2 (f12_Q a0 a1 o) (initEnv 0 [.isl 1 (a0.map e_i64) false, .isl 1 (a1.map e_i64) false]) [] 0 := by
  unfold S_glossatorref3_Equal_int at h
  refine seqI ?_
  refine regI ?_
  refine seqI ?_
  refine seqI ?_
  refine regI ?_
  refine condI (v := (((a0.map e_i64).length : Int) != ((a1.map e_i64).length : Int))) rfl trivial (fun h1 => ?_) (fun h1 => ?_)
  · have h := ite_tt h1 h
    refine seqI ?_
    refine regI ?_
    refine retI ?_
    cases h
    exact And.intro trivial (And.intro rfl (Vw.same _ rfl))
  · have h := ite_ff h1 h
    refine skipI ?_
    refine seqI ?_
    refine seqI ?_
    refine regI ?_
    refine LWp.sim (e := [(1, .isl 1 (a1.map e_i64) false), (12, .isl 1 (a0.map e_i64) false), (13, .int .i64 ((a0.map e_i64).length : Int)), (14, .int .i64 0)]) (L := []) (n := 0) ?_ ?_
    · exact simI (M := []) rfl (And.intro (Vw.same _ rfl) (And.intro (Vw.same _ rfl) (And.intro (Vw.same _ rfl) (And.intro (Vw.same _ rfl) trivial)))) trivial
    refine blockI ?_
    refine LWp.sim ?_ (f12_L1_ok h)
    exact simI (M := []) rfl (And.intro (Vw.same _ rfl) (And.intro (Vw.same _ rfl) (And.intro (Vw.same _ rfl) (And.intro (Vw.same _ rfl) trivial)))) trivial

theorem f12_ok {a0 : List Int} {a1 : List Int} {m : Option Nat} {o : Bool} (h : S_glossatorref3_Equal_int m a0 a1 = some o) : PFn Try.prog 12 [.isl 1 (a0.map e_i64) false, .isl 1 (a1.map e_i64) false] (.bool o) := PFn.ofFnW (L := f12_L) f12_low f12_fok (Nat.le_of_ble_eq_true rfl) rfl (f12_start h)

def f6_c0 : LCode := (.seq (.region [⟨some 0, .mv (.c (.bool false)), none⟩])
 (.seq (.region [⟨some 6, .build [(.int .i64 0), (.isl 1 [] true)] [(0, 1, (.c (.int .i64 1)))], none⟩,
   ⟨some 7, .mkSl true 1 [(.int .i64 0)] 1 [(0, (.c (.int .i64 1)))], none⟩,
   ⟨some 8, .build [(.int .i64 0), (.isl 1 [] true)] [(0, 1, (.c (.int .i64 6))), (1, 1, (.t 7))], none⟩,
   ⟨some 9, .mkSl true 2 [(.int .i64 0), (.isl 1 [] true)] 2 [(0, (.t 6)), (1, (.t 8))], none⟩,
   ⟨some 10, .mkSl true 1 [(.int .i64 0)] 1 [(0, (.c (.int .i64 0)))], none⟩,
   ⟨some 11, .build [(.int .i64 0), (.isl 1 [] true)] [(0, 1, (.c (.int .i64 3))), (1, 1, (.t 10))], none⟩,
   ⟨some 12, .mkSl true 2 [(.int .i64 0), (.isl 1 [] true)] 1 [(0, (.t 11))], none⟩,
   ⟨some 13, .mkSl true 1 [(.isl 2 [] true)] 2 [(0, (.t 9)), (1, (.t 12))], none⟩,
   ⟨some 1, .mv (.t 13), none⟩])
 (.seq (.region [⟨some 15, .mv (.t 1), none⟩,
   ⟨some 16, .call 7 [(.t 15)], none⟩,
   ⟨some 14, .mv (.t 16), none⟩,
   ⟨some 17, .ext 0 (.t 14), none⟩,
   ⟨some 18, .ext 1 (.t 14), none⟩,
   ⟨some 2, .mv (.t 17), none⟩,
   ⟨some 3, .mv (.t 18), none⟩])
 (.seq (.region [⟨some 20, .mv (.t 1), none⟩,
   ⟨some 21, .call 8 [(.t 20)], none⟩,
   ⟨some 19, .mv (.t 21), none⟩,
   ⟨some 22, .ext 0 (.t 19), none⟩,
   ⟨some 23, .ext 1 (.t 19), none⟩,
   ⟨some 4, .mv (.t 22), none⟩,
   ⟨some 5, .mv (.t 23), none⟩])
 (.seq (.region [⟨some 24, .mv (.t 3), none⟩,
   ⟨some 25, .bin .eql (.t 24) (.c (.int .i64 0)), none⟩,
   ⟨some 26, .mv (.t 25), none⟩,
   ⟨some 27, .mv (.t 5), some (26, true)⟩,
   ⟨some 28, .bin .eql (.t 27) (.c (.int .i64 0)), some (26, true)⟩,
   ⟨some 29, .pick (.t 26) (.t 28) (.c (.bool false)), none⟩,
   ⟨some 30, .mv (.t 29), none⟩,
   ⟨some 31, .mv (.t 2), some (30, true)⟩,
   ⟨some 32, .mkSl true 1 [(.int .i64 0)] 2 [(0, (.c (.int .i64 1))), (1, (.c (.int .i64 1)))], some (30, true)⟩,
   ⟨some 33, .call 12 [(.t 31), (.t 32)], some (30, true)⟩,
   ⟨some 34, .pick (.t 30) (.t 33) (.c (.bool false)), none⟩,
   ⟨some 35, .mv (.t 34), none⟩,
   ⟨some 36, .mv (.t 4), some (35, true)⟩,
   ⟨some 37, .bin .eql (.t 36) (.c (.int .i64 2)), some (35, true)⟩,
   ⟨some 38, .pick (.t 35) (.t 37) (.c (.bool false)), none⟩,
   ⟨some 0, .mv (.t 38), none⟩])
 .ret)))))
def f6_lay : Lay := ⟨39, [], false⟩
def f6_res : List LRes := [.t 0]
def f6_L : LFn := ⟨0, f6_lay, f6_c0, f6_res⟩
theorem f6_low : lowFn Try.prog [] 6 = some f6_L := by kernel_rfl
theorem f6_fok : FnOk Try.prog 6 := ⟨_, Try.func6, rfl, rfl⟩
noncomputable def S_glossatorlaw3_ruleExample (m : Option Nat) : Option Bool :=
  (S_fixpoint_Least m ([([(G_QRule.mk 1 ([] : List Int)), (G_QRule.mk 6 ([1] : List Int))] : List G_QRule), ([(G_QRule.mk 3 ([0] : List Int))] : List G_QRule)] : List (List G_QRule))).bind fun v1 =>
  (S_fixpoint_Rounds m ([([(G_QRule.mk 1 ([] : List Int)), (G_QRule.mk 6 ([1] : List Int))] : List G_QRule), ([(G_QRule.mk 3 ([0] : List Int))] : List G_QRule)] : List (List G_QRule))).bind fun v2 =>
  (if (((v1.2 == 0) && (v2.2 == 0)) == true) = true then S_glossatorref3_Equal_int m v1.1 ([1, 1] : List Int) else some default).bind fun v3 =>
  some ((((v1.2 == 0) && (v2.2 == 0)) && v3) && (v2.1 == 2))

def f6_Q (o : Bool) : Exit → Env → AHeap → Nat → Prop := FinK f6_res (PureEnd (.bool o))

theorem f6_start {m : Option Nat} {o : Bool} (h : S_glossatorlaw3_ruleExample m = some o) : LWp Try.prog f6_lay 0 f6_c0 (f6_Q o) (initEnv 0 []) [] 0 := by
  unfold S_glossatorlaw3_ruleExample at h
  refine seqI ?_
  refine regI ?_
  refine seqI ?_
  refine regI ?_
  refine LWp.sim (e := [(1, .isl 1 (([([(G_QRule.mk 1 ([] : List Int)), (G_QRule.mk 6 ([1] : List Int))] : List G_QRule), ([(G_QRule.mk 3 ([0] : List Int))] : List G_QRule)] : List (List G_QRule)).map e_sl_QRule) true)]) (L := []) (n := 0) ?_ ?_
  · exact simI (M := []) rfl (And.intro (Vw.same _ rfl) trivial) trivial
  refine seqI ?_
  refine regI ?_
  obtain ⟨v1, h1, h⟩ := bind_some h
  refine PFn.call (f7_ok h1) (And.intro (Vw.islF _ _ _) trivial) ?_
  refine seqI ?_
  refine regI ?_
  obtain ⟨v2, h2, h⟩ := bind_some h
  refine PFn.call (f8_ok h2) (And.intro (Vw.islF _ _ _) trivial) ?_
  show yops _ _ _ [(21, .tup [.int .i64 v2.1, .int .i64 v2.2]), (20, .isl 1 (([([(G_QRule.mk 1 ([] : List Int)), (G_QRule.mk 6 ([1] : List Int))] : List G_QRule), ([(G_QRule.mk 3 ([0] : List Int))] : List G_QRule)] : List (List G_QRule)).map e_sl_QRule) true), (3, .int .i64 v1.2), (2, .isl 1 (v1.1.map e_i64) false), (18, .int .i64 v1.2), (17, .isl 1 (v1.1.map e_i64) false), (14, .tup [.isl 1 (v1.1.map e_i64) false, .int .i64 v1.2]), (16, .tup [.isl 1 (v1.1.map e_i64) false, .int .i64 v1.2]), (15, .isl 1 (([([(G_QRule.mk 1 ([] : List Int)), (G_QRule.mk 6 ([1] : List Int))] : List G_QRule), ([(G_QRule.mk 3 ([0] : List Int))] : List G_QRule)] : List (List G_QRule)).map e_sl_QRule) true), (1, .isl 1 (([([(G_QRule.mk 1 ([] : List Int)), (G_QRule.mk 6 ([1] : List Int))] : List G_QRule), ([(G_QRule.mk 3 ([0] : List Int))] : List G_QRule)] : List (List G_QRule)).map e_sl_QRule) true)] _ _
  refine LWp.sim (e := [(2, .isl 1 (v1.1.map e_i64) false), (3, .int .i64 v1.2), (4, .int .i64 v2.1), (5, .int .i64 v2.2)]) (L := []) (n := 0) ?_ ?_
  · exact simI (M := []) rfl (And.intro (Vw.same _ rfl) (And.intro (Vw.same _ rfl) (And.intro (Vw.same _ rfl) (And.intro (Vw.same _ rfl) trivial)))) trivial
  refine seqI ?_
  refine regI ?_
  refine And.intro (fun hp => hp) ?_
  show yops _ _ _ [(28, .cnd ((v1.2 == 0) == true) (.bool (v2.2 == 0))), (27, .cnd ((v1.2 == 0) == true) (.int .i64 v2.2)), (26, .bool (v1.2 == 0)), (25, .bool (v1.2 == 0)), (24, .int .i64 v1.2), (2, .isl 1 (v1.1.map e_i64) false), (3, .int .i64 v1.2), (4, .int .i64 v2.1), (5, .int .i64 v2.2)] _ _
  refine And.intro (fun hc => (bqt hc)) ?_
  refine Or.inl (Exists.intro (.isl 1 (([1, 1] : List Int).map e_i64) true) (And.intro (fun hp => And.intro rfl (And.intro rfl rfl)) ?_))
  obtain ⟨v3, h3, h⟩ := bind_some h
  refine Or.inl (Exists.intro (.bool v3) (And.intro (fun hp => And.intro (And.intro hp hp) (PFn.call (f12_ok (ite_tt hp h3)) (And.intro (Vw.same _ rfl) (And.intro (Vw.islF _ _ _) trivial)) (And.intro rfl (And.intro rfl rfl)))) ?_))
  refine And.intro (fun hc => (bqt hc)) ?_
  show yops _ _ _ [(34, .bool (((v1.2 == 0) && (v2.2 == 0)) && v3)), (33, .cnd (((v1.2 == 0) && (v2.2 == 0)) == true) (.bool v3)), (32, .cnd (((v1.2 == 0) && (v2.2 == 0)) == true) (.isl 1 (([1, 1] : List Int).map e_i64) true)), (31, .cnd (((v1.2 == 0) && (v2.2 == 0)) == true) (.isl 1 (v1.1.map e_i64) false)), (30, .bool ((v1.2 == 0) && (v2.2 == 0))), (29, .bool ((v1.2 == 0) && (v2.2 == 0))), (28, .cnd ((v1.2 == 0) == true) (.bool (v2.2 == 0))), (27, .cnd ((v1.2 == 0) == true) (.int .i64 v2.2)), (26, .bool (v1.2 == 0)), (25, .bool (v1.2 == 0)), (24, .int .i64 v1.2), (2, .isl 1 (v1.1.map e_i64) false), (3, .int .i64 v1.2), (4, .int .i64 v2.1), (5, .int .i64 v2.2)] _ _
  refine And.intro (fun hp => hp) ?_
  refine And.intro (fun hc => (bqt hc)) ?_
  refine LWp.sim (e := [(0, .bool ((((v1.2 == 0) && (v2.2 == 0)) && v3) && (v2.1 == 2)))]) (L := []) (n := 0) ?_ ?_
  · exact simI (M := []) rfl (And.intro (Vw.same _ rfl) trivial) trivial
  refine retI ?_
  cases h
  exact And.intro trivial (And.intro rfl (Vw.same _ rfl))

theorem f6_ok {m : Option Nat} {o : Bool} (h : S_glossatorlaw3_ruleExample m = some o) : PFn Try.prog 6 [] (.bool o) := PFn.ofFnW (L := f6_L) f6_low f6_fok (Nat.le_of_ble_eq_true rfl) rfl (f6_start h)

def f9_c1 : LCode := (.seq (.region [⟨some 32, .bin .lss (.t 31) (.t 30), none⟩])
 (.seq (.cond (.t 32)
  .skip
  (.exit 2))
 (.seq (.block 3
  (.seq (.region [⟨some 33, .iaddr 2 (.t 29) (.t 31), none⟩,
    ⟨some 34, .load true 2 (.t 33), none⟩,
    ⟨some 7, .alloc [(.int .i64 0), (.isl 1 [] true)], none⟩,
    ⟨none, .store 2 (.t 7) (.t 34), none⟩])
  (.region [⟨some 35, .mv (.t 3), none⟩,
    ⟨some 36, .mv (.t 35), none⟩,
    ⟨some 37, .faddr 1 (.t 7), some (36, false)⟩,
    ⟨some 38, .load false 1 (.t 37), some (36, false)⟩,
    ⟨some 39, .len false (.t 38), some (36, false)⟩,
    ⟨some 40, .bin .gtr (.t 39) (.c (.int .i64 60)), some (36, false)⟩,
    ⟨some 41, .pick (.t 36) (.c (.bool true)) (.t 40), none⟩,
    ⟨some 3, .mv (.t 41), none⟩])))
 (.region [⟨some 42, .bin .add (.t 31) (.c (.int .i64 1)), none⟩,
   ⟨some 31, .mv (.t 42), none⟩]))))
def f9_c0 : LCode := (.region [⟨some 43, .bin .add (.t 19) (.c (.int .i64 1)), none⟩,
   ⟨some 19, .mv (.t 43), none⟩])
def f9_c3 : LCode := (.seq (.region [⟨some 20, .bin .lss (.t 19) (.t 18), none⟩])
 (.seq (.cond (.t 20)
  .skip
  (.exit 0))
 (.seq (.block 1
  (.seq (.region [⟨some 21, .iaddr 1 (.t 17) (.t 19), none⟩,
    ⟨some 22, .load false 1 (.t 21), none⟩,
    ⟨some 5, .mv (.t 22), none⟩])
  (.seq (.region [⟨some 23, .mv (.t 3), none⟩,
    ⟨some 24, .mv (.t 23), none⟩,
    ⟨some 25, .mv (.t 5), some (24, false)⟩,
    ⟨some 26, .len false (.t 25), some (24, false)⟩,
    ⟨some 27, .bin .gtr (.t 26) (.c (.int .i64 20)), some (24, false)⟩,
    ⟨some 28, .pick (.t 24) (.c (.bool true)) (.t 27), none⟩,
    ⟨some 3, .mv (.t 28), none⟩])
  (.seq (.region [⟨some 29, .mv (.t 5), none⟩,
    ⟨some 30, .len false (.t 29), none⟩,
    ⟨some 31, .mv (.c (.int .i64 0)), none⟩])
  (.block 2
   (.loop
    f9_c1))))))
 f9_c0)))
def f9_c5 : LCode := (.seq (.region [⟨some 69, .bin .lss (.t 68) (.t 67), none⟩])
 (.seq (.cond (.t 69)
  .skip
  (.exit 8))
 (.seq (.block 9
  (.seq (.region [⟨some 70, .iaddr 1 (.t 66) (.t 68), none⟩,
    ⟨some 71, .load false 1 (.t 70), none⟩,
    ⟨some 13, .mv (.t 71), none⟩])
  (.seq (.region [⟨some 72, .mv (.t 13), none⟩,
    ⟨some 73, .bin .lss (.t 72) (.c (.int .i64 0)), none⟩,
    ⟨some 74, .mv (.t 73), none⟩,
    ⟨some 75, .mv (.t 13), some (74, false)⟩,
    ⟨some 76, .mv (.t 0), some (74, false)⟩,
    ⟨some 77, .len false (.t 76), some (74, false)⟩,
    ⟨some 78, .bin .geq (.t 75) (.t 77), some (74, false)⟩,
    ⟨some 79, .pick (.t 74) (.c (.bool true)) (.t 78), none⟩])
  (.cond (.t 79)
   (.seq (.region [⟨some 2, .mv (.c (.int .i64 3)), none⟩])
   .ret)
   .skip))))
 (.region [⟨some 80, .bin .add (.t 68) (.c (.int .i64 1)), none⟩,
   ⟨some 68, .mv (.t 80), none⟩]))))
def f9_c4 : LCode := (.region [⟨some 81, .bin .add (.t 53) (.c (.int .i64 1)), none⟩,
   ⟨some 53, .mv (.t 81), none⟩])
def f9_c7 : LCode := (.seq (.region [⟨some 54, .bin .lss (.t 53) (.t 52), none⟩])
 (.seq (.cond (.t 54)
  .skip
  (.exit 6))
 (.seq (.block 7
  (.seq (.region [⟨some 55, .iaddr 2 (.t 51) (.t 53), none⟩,
    ⟨some 56, .load true 2 (.t 55), none⟩,
    ⟨some 11, .alloc [(.int .i64 0), (.isl 1 [] true)], none⟩,
    ⟨none, .store 2 (.t 11) (.t 56), none⟩])
  (.seq (.seq (.region [⟨some 57, .faddr 0 (.t 11), none⟩,
    ⟨some 58, .load false 1 (.t 57), none⟩,
    ⟨some 59, .bin .lss (.t 58) (.c (.int .i64 0)), none⟩,
    ⟨some 60, .mv (.t 59), none⟩,
    ⟨some 61, .faddr 0 (.t 11), some (60, false)⟩,
    ⟨some 62, .load false 1 (.t 61), some (60, false)⟩,
    ⟨some 63, .bin .geq (.t 62) (.c (.int .i64 1048576)), some (60, false)⟩,
    ⟨some 64, .pick (.t 60) (.c (.bool true)) (.t 63), none⟩])
  (.cond (.t 64)
   (.seq (.region [⟨some 2, .mv (.c (.int .i64 1)), none⟩])
   .ret)
   .skip))
  (.seq (.region [⟨some 65, .faddr 1 (.t 11), none⟩,
    ⟨some 66, .load false 1 (.t 65), none⟩,
    ⟨some 67, .len false (.t 66), none⟩,
    ⟨some 68, .mv (.c (.int .i64 0)), none⟩])
  (.block 8
   (.loop
    f9_c5))))))
 f9_c4)))
def f9_c6 : LCode := (.region [⟨some 82, .bin .add (.t 47) (.c (.int .i64 1)), none⟩,
   ⟨some 47, .mv (.t 82), none⟩])
def f9_c9 : LCode := (.seq (.region [⟨some 48, .bin .lss (.t 47) (.t 46), none⟩])
 (.seq (.cond (.t 48)
  .skip
  (.exit 4))
 (.seq (.block 5
  (.seq (.region [⟨some 49, .iaddr 1 (.t 45) (.t 47), none⟩,
    ⟨some 50, .load false 1 (.t 49), none⟩,
    ⟨some 9, .mv (.t 50), none⟩])
  (.seq (.region [⟨some 51, .mv (.t 9), none⟩,
    ⟨some 52, .len false (.t 51), none⟩,
    ⟨some 53, .mv (.c (.int .i64 0)), none⟩])
  (.block 6
   (.loop
    f9_c7)))))
 f9_c6)))
def f9_c8 : LCode := (.seq (.region [⟨some 2, .mv (.c (.int .i64 0)), none⟩])
 .ret)
def f9_c2 : LCode := (.seq (.seq (.region [⟨some 44, .mv (.t 3), none⟩])
 (.cond (.t 44)
  (.seq (.region [⟨some 2, .mv (.c (.int .i64 2)), none⟩])
  .ret)
  .skip))
 (.seq (.seq (.region [⟨some 45, .mv (.t 0), none⟩,
   ⟨some 46, .len false (.t 45), none⟩,
   ⟨some 47, .mv (.c (.int .i64 0)), none⟩])
 (.block 4
  (.loop
   f9_c9)))
 f9_c8))
def f9_c10 : LCode := (.seq (.region [⟨some 2, .mv (.c (.int .i64 0)), none⟩])
 (.seq (.region [⟨some 14, .mv (.t 0), none⟩,
   ⟨some 15, .len false (.t 14), none⟩,
   ⟨some 16, .bin .gtr (.t 15) (.c (.int .i64 60)), none⟩,
   ⟨some 3, .mv (.t 16), none⟩])
 (.seq (.seq (.region [⟨some 17, .mv (.t 0), none⟩,
   ⟨some 18, .len false (.t 17), none⟩,
   ⟨some 19, .mv (.c (.int .i64 0)), none⟩])
 (.block 0
  (.loop
   f9_c3)))
 f9_c2)))
def f9_lay : Lay := ⟨83, [], false⟩
def f9_res : List LRes := [.t 2]
def f9_L : LFn := ⟨1, f9_lay, f9_c10, f9_res⟩
theorem f9_low : lowFn Try.prog [] 9 = some f9_L := by kernel_rfl
theorem f9_fok : FnOk Try.prog 9 := ⟨_, Try.func9, rfl, rfl⟩
def f9_Q (a0 : List (List G_QRule)) (o : Int) : Exit → Env → AHeap → Nat → Prop := FinK f9_res (PureEnd (.int .i64 o))

def f9_L3_env (a0 : List (List G_QRule)) (s : (Bool × Int)) : Env := [(0, .isl 1 (a0.map e_sl_QRule) false), (3, .bool s.1), (17, .isl 1 (a0.map e_sl_QRule) false), (18, .int .i64 ((a0.map e_sl_QRule).length : Int)), (19, .int .i64 s.2)]
def f9_L3_hp (a0 : List (List G_QRule)) (s : (Bool × Int)) : AHeap := []
def f9_L3_Q (a0 : List (List G_QRule)) (o : Int) : Exit → Env → AHeap → Nat → Prop := (QBlock 0 (QSeq Try.prog f9_lay 0 f9_c2 (f9_Q a0 o)))

def f9_L4_env (a0 : List (List G_QRule)) (v4 : Int) (s : (Bool × Int)) : Env := [(0, .isl 1 (a0.map e_sl_QRule) false), (3, .bool s.1), (17, .isl 1 (a0.map e_sl_QRule) false), (18, .int .i64 ((a0.map e_sl_QRule).length : Int)), (19, .int .i64 v4), (29, .isl 2 ((a0.getD v4.toNat default).map e_QRule) false), (30, .int .i64 (((a0.getD v4.toNat default).map e_QRule).length : Int)), (31, .int .i64 s.2)]
def f9_L4_hp (a0 : List (List G_QRule)) (v4 : Int) (s : (Bool × Int)) : AHeap := []
def f9_L4_Q (a0 : List (List G_QRule)) (o : ((Bool × Int) ⊕ Int)) : Exit → Env → AHeap → Nat → Prop := (QBlock 2 (QBlock 1 (QSeq Try.prog f9_lay 0 f9_c0 (BodyQ 0 0 (f9_L3_env a0) (f9_L3_hp a0) (f9_L3_Q a0) o))))

noncomputable def S_glossatorref3_CheckRules_j3 (m : Option Nat) (a0 : List (List G_QRule)) (v4 : Int) (v7 : Bool) : Option ((Bool × Int) ⊕ Int) :=
  some (.inl (v7, (W (v4 + 1))))

noncomputable def S_glossatorref3_CheckRules_b4 (m : Option Nat) (a0 : List (List G_QRule)) (v4 : Int) (v7 : Bool) (v8 : Int) : Option ((Bool × Int) ⊕ ((Bool × Int) ⊕ Int)) :=
  if (decide (v8 < (((a0.getD v4.toNat default).map e_QRule).length : Int))) = true then
    if (0 : Int) ≤ v8 ∧ v8 < (((a0.getD v4.toNat default).map e_QRule).length : Int) then
    some (.inl ((v7 || (decide ((((((a0.getD v4.toNat default).getD v8.toNat default).f_All).map e_i64).length : Int) > 60))), (W (v8 + 1))))
    else none
  else
    Option.map Sum.inr (
      S_glossatorref3_CheckRules_j3 m a0 v4 v7)

noncomputable def S_glossatorref3_CheckRules_l4 (m : Option Nat) (a0 : List (List G_QRule)) (v4 : Int) (v7 : Bool) (v8 : Int) : Option ((Bool × Int) ⊕ Int) := loopM m (fun (s : (Bool × Int)) => S_glossatorref3_CheckRules_b4 m a0 v4 s.1 s.2) (v7, v8)

theorem f9_j3_ok {a0 : List (List G_QRule)} {v4 : Int} {v7 : Bool} {m : Option Nat} {o : ((Bool × Int) ⊕ Int)} (h : S_glossatorref3_CheckRules_j3 m a0 v4 v7 = some o) :
    LWp Try.prog f9_lay 0 f9_c0 (BodyQ 0 0 (f9_L3_env a0) (f9_L3_hp a0) (f9_L3_Q a0) o) [(0, .isl 1 (a0.map e_sl_QRule) false), (3, .bool v7), (17, .isl 1 (a0.map e_sl_QRule) false), (18, .int .i64 ((a0.map e_sl_QRule).length : Int)), (19, .int .i64 v4)] [] 0 := by
  unfold S_glossatorref3_CheckRules_j3 at h
  refine regI ?_
  cases h
  exact And.intro rfl (simI (M := []) rfl (And.intro (Vw.same _ rfl) (And.intro (Vw.same _ rfl) (And.intro (Vw.same _ rfl) (And.intro (Vw.same _ rfl) (And.intro (Vw.same _ rfl) trivial))))) trivial)

theorem f9_L4_bok {a0 : List (List G_QRule)} {v4 : Int} {v7 : Bool} {v8 : Int} {m : Option Nat} {o : (Bool × Int) ⊕ ((Bool × Int) ⊕ Int)} (h : S_glossatorref3_CheckRules_b4 m a0 v4 v7 v8 = some o) :
    LWp Try.prog f9_lay 0 f9_c1 (BodyQ 0 0 (f9_L4_env a0 v4) (f9_L4_hp a0 v4) (f9_L4_Q a0) o) [(0, .isl 1 (a0.map e_sl_QRule) false), (3, .bool v7), (17, .isl 1 (a0.map e_sl_QRule) false), (18, .int .i64 ((a0.map e_sl_QRule).length : Int)), (19, .int .i64 v4), (29, .isl 2 ((a0.getD v4.toNat default).map e_QRule) false), (30, .int .i64 (((a0.getD v4.toNat default).map e_QRule).length : Int)), (31, .int .i64 v8)] [] 0 := by
  unfold S_glossatorref3_CheckRules_b4 at h
  refine seqI ?_
  refine regI ?_
  refine seqI ?_
  refine condI (v := (decide (v8 < (((a0.getD v4.toNat default).map e_QRule).length : Int)))) rfl trivial (fun h23 => ?_) (fun h23 => ?_)
  · have h := ite_tt h23 h
    refine skipI ?_
    refine seqI ?_
    refine blockI ?_
    refine seqI ?_
    refine regI ?_
    obtain ⟨h24, h⟩ := ite_some h
    refine And.intro h24 ?_
    refine Exists.intro (e_QRule ((a0.getD v4.toNat default).getD v8.toNat default)) (And.intro (getD_enc e_QRule _ _ (idx_ltL e_QRule h24)) (And.intro (And.intro (idx_lt h24) (Nat.le_of_ble_eq_true rfl)) ?_))
    refine regI ?_
    refine And.intro (fun hp => hp) ?_
    show yops _ _ _ [(38, .cnd (v7 == false) (.isl 1 ((((a0.getD v4.toNat default).getD v8.toNat default).f_All).map e_i64) false)), (37, .cnd (v7 == false) (.ptr (0, 0) 0 1)), (36, .bool v7), (35, .bool v7), (7, .ptr (0, 0) 0 0), (34, .agg [.int .i64 (((a0.getD v4.toNat default).getD v8.toNat default).f_Mask), .isl 1 ((((a0.getD v4.toNat default).getD v8.toNat default).f_All).map e_i64) false]), (33, .iptr 2 ((a0.getD v4.toNat default).map e_QRule) v8.toNat 0), (32, .bool (decide (v8 < (((a0.getD v4.toNat default).map e_QRule).length : Int)))), (0, .isl 1 (a0.map e_sl_QRule) false), (3, .bool v7), (17, .isl 1 (a0.map e_sl_QRule) false), (18, .int .i64 ((a0.map e_sl_QRule).length : Int)), (19, .int .i64 v4), (29, .isl 2 ((a0.getD v4.toNat default).map e_QRule) false), (30, .int .i64 (((a0.getD v4.toNat default).map e_QRule).length : Int)), (31, .int .i64 v8)] _ _
    refine And.intro (fun hp => hp) ?_
    refine And.intro (fun hp => hp) ?_
    refine And.intro (fun hc => (bqf hc)) ?_
    refine LWp.sim (e := [(0, .isl 1 (a0.map e_sl_QRule) false), (3, .bool (v7 || (decide ((((((a0.getD v4.toNat default).getD v8.toNat default).f_All).map e_i64).length : Int) > 60)))), (17, .isl 1 (a0.map e_sl_QRule) false), (18, .int .i64 ((a0.map e_sl_QRule).length : Int)), (19, .int .i64 v4), (29, .isl 2 ((a0.getD v4.toNat default).map e_QRule) false), (30, .int .i64 (((a0.getD v4.toNat default).map e_QRule).length : Int)), (31, .int .i64 v8)]) (L := []) (n := 0) ?_ ?_
    · exact simI (M := []) rfl (And.intro (Vw.same _ rfl) (And.intro (Vw.same _ rfl) (And.intro (Vw.same _ rfl) (And.intro (Vw.same _ rfl) (And.intro (Vw.same _ rfl) (And.intro (Vw.same _ rfl) (And.intro (Vw.same _ rfl) (And.intro (Vw.same _ rfl) trivial)))))))) trivial
    refine regI ?_
    cases h
    exact And.intro rfl (simI (M := []) rfl (And.intro (Vw.same _ rfl) (And.intro (Vw.same _ rfl) (And.intro (Vw.same _ rfl) (And.intro (Vw.same _ rfl) (And.intro (Vw.same _ rfl) (And.intro (Vw.same _ rfl) (And.intro (Vw.same _ rfl) (And.intro (Vw.same _ rfl) trivial)))))))) trivial)
  · have h := ite_ff h23 h
    refine exitI ?_
    obtain ⟨o, hq, rfl⟩ := Option.map_eq_some_iff.1 h
    replace h := hq; clear hq
    refine And.intro nofun ?_
    refine LWp.sim ?_ (f9_j3_ok h)
    exact simI (M := []) rfl (And.intro (Vw.same _ rfl) (And.intro (Vw.same _ rfl) (And.intro (Vw.same _ rfl) (And.intro (Vw.same _ rfl) (And.intro (Vw.same _ rfl) trivial))))) trivial

theorem f9_L4_ok {a0 : List (List G_QRule)} {v4 : Int} {v7 : Bool} {v8 : Int} {m : Option Nat} {o : ((Bool × Int) ⊕ Int)} (h : S_glossatorref3_CheckRules_l4 m a0 v4 v7 v8 = some o) :
    LWp Try.prog f9_lay 0 (.loop f9_c1) (QBlock 2 (QBlock 1 (QSeq Try.prog f9_lay 0 f9_c0 (BodyQ 0 0 (f9_L3_env a0) (f9_L3_hp a0) (f9_L3_Q a0) o)))) [(0, .isl 1 (a0.map e_sl_QRule) false), (3, .bool v7), (17, .isl 1 (a0.map e_sl_QRule) false), (18, .int .i64 ((a0.map e_sl_QRule).length : Int)), (19, .int .i64 v4), (29, .isl 2 ((a0.getD v4.toNat default).map e_QRule) false), (30, .int .i64 (((a0.getD v4.toNat default).map e_QRule).length : Int)), (31, .int .i64 v8)] [] 0 :=
  LWp_loopM (m := m) (s := ((v7, v8) : (Bool × Int))) (r := o) (fun (s : (Bool × Int)) => S_glossatorref3_CheckRules_b4 m a0 v4 s.1 s.2) (f9_L4_env a0 v4) (f9_L4_hp a0 v4) (f9_L4_Q a0) (fun s o h => f9_L4_bok h) h

noncomputable def S_glossatorref3_CheckRules_j15 (m : Option Nat) (a0 : List (List G_QRule)) (v13 : Int) (v19 : Int) : Option (Int ⊕ (Int ⊕ Int)) :=
  some (.inl (W (v19 + 1)))

noncomputable def S_glossatorref3_CheckRules_b17 (m : Option Nat) (a0 : List (List G_QRule)) (v13 : Int) (v19 : Int) (v21 : Int) : Option (Int ⊕ (Int ⊕ (Int ⊕ Int))) :=
  if (decide (v21 < (((((a0.getD v13.toNat default).getD v19.toNat default).f_All).map e_i64).length : Int))) = true then
    if (0 : Int) ≤ v21 ∧ v21 < (((((a0.getD v13.toNat default).getD v19.toNat default).f_All).map e_i64).length : Int) then
    if ((decide (((((a0.getD v13.toNat default).getD v19.toNat default).f_All).getD v21.toNat default) < 0)) || (decide (((((a0.getD v13.toNat default).getD v19.toNat default).f_All).getD v21.toNat default) ≥ ((a0.map e_sl_QRule).length : Int)))) = true then
      Option.map Sum.inr (
        Option.map Sum.inr (
          Option.map Sum.inr (
            some 3)))
    else
      some (.inl (W (v21 + 1)))
    else none
  else
    Option.map Sum.inr (
      S_glossatorref3_CheckRules_j15 m a0 v13 v19)

noncomputable def S_glossatorref3_CheckRules_l17 (m : Option Nat) (a0 : List (List G_QRule)) (v13 : Int) (v19 : Int) (v21 : Int) : Option (Int ⊕ (Int ⊕ Int)) := loopM m (fun (s : Int) => S_glossatorref3_CheckRules_b17 m a0 v13 v19 s) v21

noncomputable def S_glossatorref3_CheckRules_j16 (m : Option Nat) (a0 : List (List G_QRule)) (v13 : Int) : Option (Int ⊕ Int) :=
  some (.inl (W (v13 + 1)))

noncomputable def S_glossatorref3_CheckRules_b16 (m : Option Nat) (a0 : List (List G_QRule)) (v13 : Int) (v19 : Int) : Option (Int ⊕ (Int ⊕ Int)) :=
  if (decide (v19 < (((a0.getD v13.toNat default).map e_QRule).length : Int))) = true then
    if (0 : Int) ≤ v19 ∧ v19 < (((a0.getD v13.toNat default).map e_QRule).length : Int) then
    if ((decide (((a0.getD v13.toNat default).getD v19.toNat default).f_Mask < 0)) || (decide (((a0.getD v13.toNat default).getD v19.toNat default).f_Mask ≥ 1048576))) = true then
      Option.map Sum.inr (
        Option.map Sum.inr (
          some 1))
    else
      S_glossatorref3_CheckRules_l17 m a0 v13 v19 0
    else none
  else
    Option.map Sum.inr (
      S_glossatorref3_CheckRules_j16 m a0 v13)

noncomputable def S_glossatorref3_CheckRules_l16 (m : Option Nat) (a0 : List (List G_QRule)) (v13 : Int) (v19 : Int) : Option (Int ⊕ Int) := loopM m (fun (s : Int) => S_glossatorref3_CheckRules_b16 m a0 v13 s) v19

noncomputable def S_glossatorref3_CheckRules_j17 (m : Option Nat) : Option Int :=
  some 0

noncomputable def S_glossatorref3_CheckRules_b13 (m : Option Nat) (a0 : List (List G_QRule)) (v13 : Int) : Option (Int ⊕ Int) :=
  if (decide (v13 < ((a0.map e_sl_QRule).length : Int))) = true then
    if (0 : Int) ≤ v13 ∧ v13 < ((a0.map e_sl_QRule).length : Int) then
    S_glossatorref3_CheckRules_l16 m a0 v13 0
    else none
  else
    Option.map Sum.inr (
      S_glossatorref3_CheckRules_j17 m)

noncomputable def S_glossatorref3_CheckRules_l13 (m : Option Nat) (a0 : List (List G_QRule)) (v13 : Int) : Option Int := loopM m (fun (s : Int) => S_glossatorref3_CheckRules_b13 m a0 s) v13

noncomputable def S_glossatorref3_CheckRules_j4 (m : Option Nat) (a0 : List (List G_QRule)) (v3 : Bool) : Option Int :=
  if v3 = true then
    some 2
  else
    S_glossatorref3_CheckRules_l13 m a0 0

noncomputable def S_glossatorref3_CheckRules_b3 (m : Option Nat) (a0 : List (List G_QRule)) (v3 : Bool) (v4 : Int) : Option ((Bool × Int) ⊕ Int) :=
  if (decide (v4 < ((a0.map e_sl_QRule).length : Int))) = true then
    if (0 : Int) ≤ v4 ∧ v4 < ((a0.map e_sl_QRule).length : Int) then
    S_glossatorref3_CheckRules_l4 m a0 v4 (v3 || (decide ((((a0.getD v4.toNat default).map e_QRule).length : Int) > 20))) 0
    else none
  else
    Option.map Sum.inr (
      S_glossatorref3_CheckRules_j4 m a0 v3)

noncomputable def S_glossatorref3_CheckRules_l3 (m : Option Nat) (a0 : List (List G_QRule)) (v3 : Bool) (v4 : Int) : Option Int := loopM m (fun (s : (Bool × Int)) => S_glossatorref3_CheckRules_b3 m a0 s.1 s.2) (v3, v4)

def f9_L13_env (a0 : List (List G_QRule)) (s : Int) : Env := [(0, .isl 1 (a0.map e_sl_QRule) false), (45, .isl 1 (a0.map e_sl_QRule) false), (46, .int .i64 ((a0.map e_sl_QRule).length : Int)), (47, .int .i64 s)]
def f9_L13_hp (a0 : List (List G_QRule)) (s : Int) : AHeap := []
def f9_L13_Q (a0 : List (List G_QRule)) (o : Int) : Exit → Env → AHeap → Nat → Prop := (QBlock 4 (QSeq Try.prog f9_lay 0 f9_c8 (f9_Q a0 o)))

def f9_L16_env (a0 : List (List G_QRule)) (v13 : Int) (s : Int) : Env := [(0, .isl 1 (a0.map e_sl_QRule) false), (45, .isl 1 (a0.map e_sl_QRule) false), (46, .int .i64 ((a0.map e_sl_QRule).length : Int)), (47, .int .i64 v13), (51, .isl 2 ((a0.getD v13.toNat default).map e_QRule) false), (52, .int .i64 (((a0.getD v13.toNat default).map e_QRule).length : Int)), (53, .int .i64 s)]
def f9_L16_hp (a0 : List (List G_QRule)) (v13 : Int) (s : Int) : AHeap := []
def f9_L16_Q (a0 : List (List G_QRule)) (o : (Int ⊕ Int)) : Exit → Env → AHeap → Nat → Prop := (QBlock 6 (QBlock 5 (QSeq Try.prog f9_lay 0 f9_c6 (BodyQ 0 0 (f9_L13_env a0) (f9_L13_hp a0) (f9_L13_Q a0) o))))

def f9_L17_env (a0 : List (List G_QRule)) (v13 : Int) (v19 : Int) (s : Int) : Env := [(0, .isl 1 (a0.map e_sl_QRule) false), (45, .isl 1 (a0.map e_sl_QRule) false), (46, .int .i64 ((a0.map e_sl_QRule).length : Int)), (47, .int .i64 v13), (51, .isl 2 ((a0.getD v13.toNat default).map e_QRule) false), (52, .int .i64 (((a0.getD v13.toNat default).map e_QRule).length : Int)), (53, .int .i64 v19), (66, .isl 1 ((((a0.getD v13.toNat default).getD v19.toNat default).f_All).map e_i64) false), (67, .int .i64 (((((a0.getD v13.toNat default).getD v19.toNat default).f_All).map e_i64).length : Int)), (68, .int .i64 s)]
def f9_L17_hp (a0 : List (List G_QRule)) (v13 : Int) (v19 : Int) (s : Int) : AHeap := []
def f9_L17_Q (a0 : List (List G_QRule)) (v13 : Int) (o : (Int ⊕ (Int ⊕ Int))) : Exit → Env → AHeap → Nat → Prop := (QBlock 8 (QBlock 7 (QSeq Try.prog f9_lay 0 f9_c4 (BodyQ 0 0 (f9_L16_env a0 v13) (f9_L16_hp a0 v13) (f9_L16_Q a0) o))))

theorem f9_j15_ok {a0 : List (List G_QRule)} {v13 : Int} {v19 : Int} {m : Option Nat} {o : (Int ⊕ (Int ⊕ Int))} (h : S_glossatorref3_CheckRules_j15 m a0 v13 v19 = some o) :
    LWp Try.prog f9_lay 0 f9_c4 (BodyQ 0 0 (f9_L16_env a0 v13) (f9_L16_hp a0 v13) (f9_L16_Q a0) o) [(0, .isl 1 (a0.map e_sl_QRule) false), (45, .isl 1 (a0.map e_sl_QRule) false), (46, .int .i64 ((a0.map e_sl_QRule).length : Int)), (47, .int .i64 v13), (51, .isl 2 ((a0.getD v13.toNat default).map e_QRule) false), (52, .int .i64 (((a0.getD v13.toNat default).map e_QRule).length : Int)), (53, .int .i64 v19)] [] 0 := by
  unfold S_glossatorref3_CheckRules_j15 at h
  refine regI ?_
  cases h
  exact And.intro rfl (simI (M := []) rfl (And.intro (Vw.same _ rfl) (And.intro (Vw.same _ rfl) (And.intro (Vw.same _ rfl) (And.intro (Vw.same _ rfl) (And.intro (Vw.same _ rfl) (And.intro (Vw.same _ rfl) (And.intro (Vw.same _ rfl) trivial))))))) trivial)

theorem f9_L17_bok {a0 : List (List G_QRule)} {v13 : Int} {v19 : Int} {v21 : Int} {m : Option Nat} {o : Int ⊕ (Int ⊕ (Int ⊕ Int))} (h : S_glossatorref3_CheckRules_b17 m a0 v13 v19 v21 = some o) :
    LWp Try.prog f9_lay 0 f9_c5 (BodyQ 0 0 (f9_L17_env a0 v13 v19) (f9_L17_hp a0 v13 v19) (f9_L17_Q a0 v13) o) [(0, .isl 1 (a0.map e_sl_QRule) false), (45, .isl 1 (a0.map e_sl_QRule) false), (46, .int .i64 ((a0.map e_sl_QRule).length : Int)), (47, .int .i64 v13), (51, .isl 2 ((a0.getD v13.toNat default).map e_QRule) false), (52, .int .i64 (((a0.getD v13.toNat default).map e_QRule).length : Int)), (53, .int .i64 v19), (66, .isl 1 ((((a0.getD v13.toNat default).getD v19.toNat default).f_All).map e_i64) false), (67, .int .i64 (((((a0.getD v13.toNat default).getD v19.toNat default).f_All).map e_i64).length : Int)), (68, .int .i64 v21)] [] 0 := by
  unfold S_glossatorref3_CheckRules_b17 at h
  refine seqI ?_
  refine regI ?_
  refine seqI ?_
  refine condI (v := (decide (v21 < (((((a0.getD v13.toNat default).getD v19.toNat default).f_All).map e_i64).length : Int)))) rfl trivial (fun h137 => ?_) (fun h137 => ?_)
  · have h := ite_tt h137 h
    refine skipI ?_
    refine seqI ?_
    refine blockI ?_
    refine seqI ?_
    refine regI ?_
    obtain ⟨h138, h⟩ := ite_some h
    refine And.intro h138 ?_
    refine Exists.intro (e_i64 ((((a0.getD v13.toNat default).getD v19.toNat default).f_All).getD v21.toNat default)) (And.intro (getD_enc e_i64 _ _ (idx_ltL e_i64 h138)) (And.intro (And.intro (idx_lt h138) (Nat.le_of_ble_eq_true rfl)) ?_))
    refine seqI ?_
    refine regI ?_
    refine And.intro (fun hp => hp) ?_
    show yops _ _ _ [(77, .cnd ((decide (((((a0.getD v13.toNat default).getD v19.toNat default).f_All).getD v21.toNat default) < 0)) == false) (.int .i64 ((a0.map e_sl_QRule).length : Int))), (76, .cnd ((decide (((((a0.getD v13.toNat default).getD v19.toNat default).f_All).getD v21.toNat default) < 0)) == false) (.isl 1 (a0.map e_sl_QRule) false)), (75, .cnd ((decide (((((a0.getD v13.toNat default).getD v19.toNat default).f_All).getD v21.toNat default) < 0)) == false) (.int .i64 ((((a0.getD v13.toNat default).getD v19.toNat default).f_All).getD v21.toNat default))), (74, .bool (decide (((((a0.getD v13.toNat default).getD v19.toNat default).f_All).getD v21.toNat default) < 0))), (73, .bool (decide (((((a0.getD v13.toNat default).getD v19.toNat default).f_All).getD v21.toNat default) < 0))), (72, .int .i64 ((((a0.getD v13.toNat default).getD v19.toNat default).f_All).getD v21.toNat default)), (13, .int .i64 ((((a0.getD v13.toNat default).getD v19.toNat default).f_All).getD v21.toNat default)), (71, .int .i64 ((((a0.getD v13.toNat default).getD v19.toNat default).f_All).getD v21.toNat default)), (70, .iptr 1 ((((a0.getD v13.toNat default).getD v19.toNat default).f_All).map e_i64) v21.toNat 0), (69, .bool (decide (v21 < (((((a0.getD v13.toNat default).getD v19.toNat default).f_All).map e_i64).length : Int)))), (0, .isl 1 (a0.map e_sl_QRule) false), (45, .isl 1 (a0.map e_sl_QRule) false), (46, .int .i64 ((a0.map e_sl_QRule).length : Int)), (47, .int .i64 v13), (51, .isl 2 ((a0.getD v13.toNat default).map e_QRule) false), (52, .int .i64 (((a0.getD v13.toNat default).map e_QRule).length : Int)), (53, .int .i64 v19), (66, .isl 1 ((((a0.getD v13.toNat default).getD v19.toNat default).f_All).map e_i64) false), (67, .int .i64 (((((a0.getD v13.toNat default).getD v19.toNat default).f_All).map e_i64).length : Int)), (68, .int .i64 v21)] _ _
    refine And.intro (fun hp => (And.intro hp hp)) ?_
    refine And.intro (fun hc => (bqf hc)) ?_
    refine LWp.sim (e := [(0, .isl 1 (a0.map e_sl_QRule) false), (45, .isl 1 (a0.map e_sl_QRule) false), (46, .int .i64 ((a0.map e_sl_QRule).length : Int)), (47, .int .i64 v13), (51, .isl 2 ((a0.getD v13.toNat default).map e_QRule) false), (52, .int .i64 (((a0.getD v13.toNat default).map e_QRule).length : Int)), (53, .int .i64 v19), (66, .isl 1 ((((a0.getD v13.toNat default).getD v19.toNat default).f_All).map e_i64) false), (67, .int .i64 (((((a0.getD v13.toNat default).getD v19.toNat default).f_All).map e_i64).length : Int)), (68, .int .i64 v21), (79, .bool ((decide (((((a0.getD v13.toNat default).getD v19.toNat default).f_All).getD v21.toNat default) < 0)) || (decide (((((a0.getD v13.toNat default).getD v19.toNat default).f_All).getD v21.toNat default) ≥ ((a0.map e_sl_QRule).length : Int)))))]) (L := []) (n := 0) ?_ ?_
    · exact simI (M := []) rfl (And.intro (Vw.same _ rfl) (And.intro (Vw.same _ rfl) (And.intro (Vw.same _ rfl) (And.intro (Vw.same _ rfl) (And.intro (Vw.same _ rfl) (And.intro (Vw.same _ rfl) (And.intro (Vw.same _ rfl) (And.intro (Vw.same _ rfl) (And.intro (Vw.same _ rfl) (And.intro (Vw.same _ rfl) (And.intro (Vw.same _ rfl) trivial))))))))))) trivial
    refine condI (v := ((decide (((((a0.getD v13.toNat default).getD v19.toNat default).f_All).getD v21.toNat default) < 0)) || (decide (((((a0.getD v13.toNat default).getD v19.toNat default).f_All).getD v21.toNat default) ≥ ((a0.map e_sl_QRule).length : Int))))) rfl trivial (fun h139 => ?_) (fun h139 => ?_)
    · have h := ite_tt h139 h
      refine seqI ?_
      refine regI ?_
      refine retI ?_
      obtain ⟨o, hq, rfl⟩ := Option.map_eq_some_iff.1 h
      replace h := hq; clear hq
      refine And.intro nofun ?_
      obtain ⟨o, hq, rfl⟩ := Option.map_eq_some_iff.1 h
      replace h := hq; clear hq
      refine And.intro nofun ?_
      obtain ⟨o, hq, rfl⟩ := Option.map_eq_some_iff.1 h
      replace h := hq; clear hq
      refine And.intro nofun ?_
      cases h
      exact And.intro trivial (And.intro rfl (Vw.same _ rfl))
    · have h := ite_ff h139 h
      refine skipI ?_
      refine regI ?_
      cases h
      exact And.intro rfl (simI (M := []) rfl (And.intro (Vw.same _ rfl) (And.intro (Vw.same _ rfl) (And.intro (Vw.same _ rfl) (And.intro (Vw.same _ rfl) (And.intro (Vw.same _ rfl) (And.intro (Vw.same _ rfl) (And.intro (Vw.same _ rfl) (And.intro (Vw.same _ rfl) (And.intro (Vw.same _ rfl) (And.intro (Vw.same _ rfl) trivial)))))))))) trivial)
  · have h := ite_ff h137 h
    refine exitI ?_
    obtain ⟨o, hq, rfl⟩ := Option.map_eq_some_iff.1 h
    replace h := hq; clear hq
    refine And.intro nofun ?_
    refine LWp.sim ?_ (f9_j15_ok h)
    exact simI (M := []) rfl (And.intro (Vw.same _ rfl) (And.intro (Vw.same _ rfl) (And.intro (Vw.same _ rfl) (And.intro (Vw.same _ rfl) (And.intro (Vw.same _ rfl) (And.intro (Vw.same _ rfl) (And.intro (Vw.same _ rfl) trivial))))))) trivial

theorem f9_L17_ok {a0 : List (List G_QRule)} {v13 : Int} {v19 : Int} {v21 : Int} {m : Option Nat} {o : (Int ⊕ (Int ⊕ Int))} (h : S_glossatorref3_CheckRules_l17 m a0 v13 v19 v21 = some o) :
    LWp Try.prog f9_lay 0 (.loop f9_c5) (QBlock 8 (QBlock 7 (QSeq Try.prog f9_lay 0 f9_c4 (BodyQ 0 0 (f9_L16_env a0 v13) (f9_L16_hp a0 v13) (f9_L16_Q a0) o)))) [(0, .isl 1 (a0.map e_sl_QRule) false), (45, .isl 1 (a0.map e_sl_QRule) false), (46, .int .i64 ((a0.map e_sl_QRule).length : Int)), (47, .int .i64 v13), (51, .isl 2 ((a0.getD v13.toNat default).map e_QRule) false), (52, .int .i64 (((a0.getD v13.toNat default).map e_QRule).length : Int)), (53, .int .i64 v19), (66, .isl 1 ((((a0.getD v13.toNat default).getD v19.toNat default).f_All).map e_i64) false), (67, .int .i64 (((((a0.getD v13.toNat default).getD v19.toNat default).f_All).map e_i64).length : Int)), (68, .int .i64 v21)] [] 0 :=
  LWp_loopM (m := m) (s := (v21 : Int)) (r := o) (fun (s : Int) => S_glossatorref3_CheckRules_b17 m a0 v13 v19 s) (f9_L17_env a0 v13 v19) (f9_L17_hp a0 v13 v19) (f9_L17_Q a0 v13) (fun s o h => f9_L17_bok h) h

theorem f9_j16_ok {a0 : List (List G_QRule)} {v13 : Int} {m : Option Nat} {o : (Int ⊕ Int)} (h : S_glossatorref3_CheckRules_j16 m a0 v13 = some o) :
    LWp Try.prog f9_lay 0 f9_c6 (BodyQ 0 0 (f9_L13_env a0) (f9_L13_hp a0) (f9_L13_Q a0) o) [(0, .isl 1 (a0.map e_sl_QRule) false), (45, .isl 1 (a0.map e_sl_QRule) false), (46, .int .i64 ((a0.map e_sl_QRule).length : Int)), (47, .int .i64 v13)] [] 0 := by
  unfold S_glossatorref3_CheckRules_j16 at h
  refine regI ?_
  cases h
  exact And.intro rfl (simI (M := []) rfl (And.intro (Vw.same _ rfl) (And.intro (Vw.same _ rfl) (And.intro (Vw.same _ rfl) (And.intro (Vw.same _ rfl) trivial)))) trivial)

theorem f9_L16_bok {a0 : List (List G_QRule)} {v13 : Int} {v19 : Int} {m : Option Nat} {o : Int ⊕ (Int ⊕ Int)} (h : S_glossatorref3_CheckRules_b16 m a0 v13 v19 = some o) :
    LWp Try.prog f9_lay 0 f9_c7 (BodyQ 0 0 (f9_L16_env a0 v13) (f9_L16_hp a0 v13) (f9_L16_Q a0) o) [(0, .isl 1 (a0.map e_sl_QRule) false), (45, .isl 1 (a0.map e_sl_QRule) false), (46, .int .i64 ((a0.map e_sl_QRule).length : Int)), (47, .int .i64 v13), (51, .isl 2 ((a0.getD v13.toNat default).map e_QRule) false), (52, .int .i64 (((a0.getD v13.toNat default).map e_QRule).length : Int)), (53, .int .i64 v19)] [] 0 := by
  unfold S_glossatorref3_CheckRules_b16 at h
  refine seqI ?_
  refine regI ?_
  refine seqI ?_
  refine condI (v := (decide (v19 < (((a0.getD v13.toNat default).map e_QRule).length : Int)))) rfl trivial (fun h128 => ?_) (fun h128 => ?_)
  · have h := ite_tt h128 h
    refine skipI ?_
    refine seqI ?_
    refine blockI ?_
    refine seqI ?_
    refine regI ?_
    obtain ⟨h129, h⟩ := ite_some h
    refine And.intro h129 ?_
    refine Exists.intro (e_QRule ((a0.getD v13.toNat default).getD v19.toNat default)) (And.intro (getD_enc e_QRule _ _ (idx_ltL e_QRule h129)) (And.intro (And.intro (idx_lt h129) (Nat.le_of_ble_eq_true rfl)) ?_))
    refine seqI ?_
    refine seqI ?_
    refine regI ?_
    refine And.intro (fun hp => hp) ?_
    show yops _ _ _ [(62, .cnd ((decide (((a0.getD v13.toNat default).getD v19.toNat default).f_Mask < 0)) == false) (.int .i64 (((a0.getD v13.toNat default).getD v19.toNat default).f_Mask))), (61, .cnd ((decide (((a0.getD v13.toNat default).getD v19.toNat default).f_Mask < 0)) == false) (.ptr (0, 0) 0 0)), (60, .bool (decide (((a0.getD v13.toNat default).getD v19.toNat default).f_Mask < 0))), (59, .bool (decide (((a0.getD v13.toNat default).getD v19.toNat default).f_Mask < 0))), (58, .int .i64 (((a0.getD v13.toNat default).getD v19.toNat default).f_Mask)), (57, .ptr (0, 0) 0 0), (11, .ptr (0, 0) 0 0), (56, .agg [.int .i64 (((a0.getD v13.toNat default).getD v19.toNat default).f_Mask), .isl 1 ((((a0.getD v13.toNat default).getD v19.toNat default).f_All).map e_i64) false]), (55, .iptr 2 ((a0.getD v13.toNat default).map e_QRule) v19.toNat 0), (54, .bool (decide (v19 < (((a0.getD v13.toNat default).map e_QRule).length : Int)))), (0, .isl 1 (a0.map e_sl_QRule) false), (45, .isl 1 (a0.map e_sl_QRule) false), (46, .int .i64 ((a0.map e_sl_QRule).length : Int)), (47, .int .i64 v13), (51, .isl 2 ((a0.getD v13.toNat default).map e_QRule) false), (52, .int .i64 (((a0.getD v13.toNat default).map e_QRule).length : Int)), (53, .int .i64 v19)] _ _
    refine And.intro (fun hp => hp) ?_
    refine And.intro (fun hc => (bqf hc)) ?_
    refine LWp.sim (e := [(0, .isl 1 (a0.map e_sl_QRule) false), (11, .ptr (0, 0) 0 0), (45, .isl 1 (a0.map e_sl_QRule) false), (46, .int .i64 ((a0.map e_sl_QRule).length : Int)), (47, .int .i64 v13), (51, .isl 2 ((a0.getD v13.toNat default).map e_QRule) false), (52, .int .i64 (((a0.getD v13.toNat default).map e_QRule).length : Int)), (53, .int .i64 v19), (64, .bool ((decide (((a0.getD v13.toNat default).getD v19.toNat default).f_Mask < 0)) || (decide (((a0.getD v13.toNat default).getD v19.toNat default).f_Mask ≥ 1048576))))]) (L := [((0, 0), .one [.int .i64 (((a0.getD v13.toNat default).getD v19.toNat default).f_Mask), .isl 1 ((((a0.getD v13.toNat default).getD v19.toNat default).f_All).map e_i64) false])]) (n := 1) ?_ ?_
    · exact simI (M := [((0, 0), (0, 0))]) rfl (And.intro (Vw.same _ rfl) (And.intro (Vw.ptr _ _ _ _ rfl) (And.intro (Vw.same _ rfl) (And.intro (Vw.same _ rfl) (And.intro (Vw.same _ rfl) (And.intro (Vw.same _ rfl) (And.intro (Vw.same _ rfl) (And.intro (Vw.same _ rfl) (And.intro (Vw.same _ rfl) trivial))))))))) (And.intro (And.intro rfl (BVw.oneL (And.intro (Vw.same _ rfl) (And.intro (Vw.same _ rfl) trivial)))) trivial)
    refine condI (v := ((decide (((a0.getD v13.toNat default).getD v19.toNat default).f_Mask < 0)) || (decide (((a0.getD v13.toNat default).getD v19.toNat default).f_Mask ≥ 1048576)))) rfl trivial (fun h130 => ?_) (fun h130 => ?_)
    · have h := ite_tt h130 h
      refine seqI ?_
      refine regI ?_
      refine retI ?_
      obtain ⟨o, hq, rfl⟩ := Option.map_eq_some_iff.1 h
      replace h := hq; clear hq
      refine And.intro nofun ?_
      obtain ⟨o, hq, rfl⟩ := Option.map_eq_some_iff.1 h
      replace h := hq; clear hq
      refine And.intro nofun ?_
      cases h
      exact And.intro trivial (And.intro rfl (Vw.same _ rfl))
    · have h := ite_ff h130 h
      refine skipI ?_
      refine seqI ?_
      refine regI ?_
      refine blockI ?_
      refine LWp.sim ?_ (f9_L17_ok h)
      exact simI (M := []) rfl (And.intro (Vw.same _ rfl) (And.intro (Vw.same _ rfl) (And.intro (Vw.same _ rfl) (And.intro (Vw.same _ rfl) (And.intro (Vw.same _ rfl) (And.intro (Vw.same _ rfl) (And.intro (Vw.same _ rfl) (And.intro (Vw.same _ rfl) (And.intro (Vw.same _ rfl) (And.intro (Vw.same _ rfl) trivial)))))))))) trivial
  · have h := ite_ff h128 h
    refine exitI ?_
    obtain ⟨o, hq, rfl⟩ := Option.map_eq_some_iff.1 h
    replace h := hq; clear hq
    refine And.intro nofun ?_
    refine LWp.sim ?_ (f9_j16_ok h)
    exact simI (M := []) rfl (And.intro (Vw.same _ rfl) (And.intro (Vw.same _ rfl) (And.intro (Vw.same _ rfl) (And.intro (Vw.same _ rfl) trivial)))) trivial

theorem f9_L16_ok {a0 : List (List G_QRule)} {v13 : Int} {v19 : Int} {m : Option Nat} {o : (Int ⊕ Int)} (h : S_glossatorref3_CheckRules_l16 m a0 v13 v19 = some o) :
    LWp Try.prog f9_lay 0 (.loop f9_c7) (QBlock 6 (QBlock 5 (QSeq Try.prog f9_lay 0 f9_c6 (BodyQ 0 0 (f9_L13_env a0) (f9_L13_hp a0) (f9_L13_Q a0) o)))) [(0, .isl 1 (a0.map e_sl_QRule) false), (45, .isl 1 (a0.map e_sl_QRule) false), (46, .int .i64 ((a0.map e_sl_QRule).length : Int)), (47, .int .i64 v13), (51, .isl 2 ((a0.getD v13.toNat default).map e_QRule) false), (52, .int .i64 (((a0.getD v13.toNat default).map e_QRule).length : Int)), (53, .int .i64 v19)] [] 0 :=
  LWp_loopM (m := m) (s := (v19 : Int)) (r := o) (fun (s : Int) => S_glossatorref3_CheckRules_b16 m a0 v13 s) (f9_L16_env a0 v13) (f9_L16_hp a0 v13) (f9_L16_Q a0) (fun s o h => f9_L16_bok h) h

theorem f9_j17_ok {a0 : List (List G_QRule)} {m : Option Nat} {o : Int} (h : S_glossatorref3_CheckRules_j17 m = some o) :
    LWp Try.prog f9_lay 0 f9_c8 (f9_Q a0 o) [] [] 0 := by
  unfold S_glossatorref3_CheckRules_j17 at h
  refine seqI ?_
  refine regI ?_
  refine retI ?_
  cases h
  exact And.intro trivial (And.intro rfl (Vw.same _ rfl))

theorem f9_L13_bok {a0 : List (List G_QRule)} {v13 : Int} {m : Option Nat} {o : Int ⊕ Int} (h : S_glossatorref3_CheckRules_b13 m a0 v13 = some o) :
    LWp Try.prog f9_lay 0 f9_c9 (BodyQ 0 0 (f9_L13_env a0) (f9_L13_hp a0) (f9_L13_Q a0) o) [(0, .isl 1 (a0.map e_sl_QRule) false), (45, .isl 1 (a0.map e_sl_QRule) false), (46, .int .i64 ((a0.map e_sl_QRule).length : Int)), (47, .int .i64 v13)] [] 0 := by
  unfold S_glossatorref3_CheckRules_b13 at h
  refine seqI ?_
  refine regI ?_
  refine seqI ?_
  refine condI (v := (decide (v13 < ((a0.map e_sl_QRule).length : Int)))) rfl trivial (fun h102 => ?_) (fun h102 => ?_)
  · have h := ite_tt h102 h
    refine skipI ?_
    refine seqI ?_
    refine blockI ?_
    refine seqI ?_
    refine regI ?_
    obtain ⟨h103, h⟩ := ite_some h
    refine And.intro h103 ?_
    refine Exists.intro (e_sl_QRule (a0.getD v13.toNat default)) (And.intro (getD_enc e_sl_QRule _ _ (idx_ltL e_sl_QRule h103)) (And.intro (And.intro (idx_lt h103) (Nat.le_of_ble_eq_true rfl)) ?_))
    refine seqI ?_
    refine regI ?_
    refine blockI ?_
    refine LWp.sim ?_ (f9_L16_ok h)
    exact simI (M := []) rfl (And.intro (Vw.same _ rfl) (And.intro (Vw.same _ rfl) (And.intro (Vw.same _ rfl) (And.intro (Vw.same _ rfl) (And.intro (Vw.same _ rfl) (And.intro (Vw.same _ rfl) (And.intro (Vw.same _ rfl) trivial))))))) trivial
  · have h := ite_ff h102 h
    refine exitI ?_
    obtain ⟨o, hq, rfl⟩ := Option.map_eq_some_iff.1 h
    replace h := hq; clear hq
    refine And.intro nofun ?_
    refine LWp.sim ?_ (f9_j17_ok h)
    exact simI (M := []) rfl trivial trivial

theorem f9_L13_ok {a0 : List (List G_QRule)} {v13 : Int} {m : Option Nat} {o : Int} (h : S_glossatorref3_CheckRules_l13 m a0 v13 = some o) :
    LWp Try.prog f9_lay 0 (.loop f9_c9) (QBlock 4 (QSeq Try.prog f9_lay 0 f9_c8 (f9_Q a0 o))) [(0, .isl 1 (a0.map e_sl_QRule) false), (45, .isl 1 (a0.map e_sl_QRule) false), (46, .int .i64 ((a0.map e_sl_QRule).length : Int)), (47, .int .i64 v13)] [] 0 :=
  LWp_loopM (m := m) (s := (v13 : Int)) (r := o) (fun (s : Int) => S_glossatorref3_CheckRules_b13 m a0 s) (f9_L13_env a0) (f9_L13_hp a0) (f9_L13_Q a0) (fun s o h => f9_L13_bok h) h

theorem f9_j4_ok {a0 : List (List G_QRule)} {v3 : Bool} {m : Option Nat} {o : Int} (h : S_glossatorref3_CheckRules_j4 m a0 v3 = some o) :
    LWp Try.prog f9_lay 0 f9_c2 (f9_Q a0 o) [(0, .isl 1 (a0.map e_sl_QRule) false), (3, .bool v3)] [] 0 := by
  unfold S_glossatorref3_CheckRules_j4 at h
  refine seqI ?_
  refine seqI ?_
  refine regI ?_
  refine condI (v := v3) rfl trivial (fun h25 => ?_) (fun h25 => ?_)
  · have h := ite_tt h25 h
    refine seqI ?_
    refine regI ?_
    refine retI ?_
    cases h
    exact And.intro trivial (And.intro rfl (Vw.same _ rfl))
  · have h := ite_ff h25 h
    refine skipI ?_
    refine seqI ?_
    refine seqI ?_
    refine regI ?_
    refine blockI ?_
    refine LWp.sim ?_ (f9_L13_ok h)
    exact simI (M := []) rfl (And.intro (Vw.same _ rfl) (And.intro (Vw.same _ rfl) (And.intro (Vw.same _ rfl) (And.intro (Vw.same _ rfl) trivial)))) trivial

theorem f9_L3_bok {a0 : List (List G_QRule)} {v3 : Bool} {v4 : Int} {m : Option Nat} {o : (Bool × Int) ⊕ Int} (h : S_glossatorref3_CheckRules_b3 m a0 v3 v4 = some o) :
    LWp Try.prog f9_lay 0 f9_c3 (BodyQ 0 0 (f9_L3_env a0) (f9_L3_hp a0) (f9_L3_Q a0) o) [(0, .isl 1 (a0.map e_sl_QRule) false), (3, .bool v3), (17, .isl 1 (a0.map e_sl_QRule) false), (18, .int .i64 ((a0.map e_sl_QRule).length : Int)), (19, .int .i64 v4)] [] 0 := by
  unfold S_glossatorref3_CheckRules_b3 at h
  refine seqI ?_
  refine regI ?_
  refine seqI ?_
  refine condI (v := (decide (v4 < ((a0.map e_sl_QRule).length : Int)))) rfl trivial (fun h17 => ?_) (fun h17 => ?_)
  · have h := ite_tt h17 h
    refine skipI ?_
    refine seqI ?_
    refine blockI ?_
    refine seqI ?_
    refine regI ?_
    obtain ⟨h18, h⟩ := ite_some h
    refine And.intro h18 ?_
    refine Exists.intro (e_sl_QRule (a0.getD v4.toNat default)) (And.intro (getD_enc e_sl_QRule _ _ (idx_ltL e_sl_QRule h18)) (And.intro (And.intro (idx_lt h18) (Nat.le_of_ble_eq_true rfl)) ?_))
    refine seqI ?_
    refine regI ?_
    refine And.intro (fun hp => hp) ?_
    show yops _ _ _ [(26, .cnd (v3 == false) (.int .i64 (((a0.getD v4.toNat default).map e_QRule).length : Int))), (25, .cnd (v3 == false) (.isl 2 ((a0.getD v4.toNat default).map e_QRule) false)), (24, .bool v3), (23, .bool v3), (5, .isl 2 ((a0.getD v4.toNat default).map e_QRule) false), (22, .isl 2 ((a0.getD v4.toNat default).map e_QRule) false), (21, .iptr 1 (a0.map e_sl_QRule) v4.toNat 0), (20, .bool (decide (v4 < ((a0.map e_sl_QRule).length : Int)))), (0, .isl 1 (a0.map e_sl_QRule) false), (3, .bool v3), (17, .isl 1 (a0.map e_sl_QRule) false), (18, .int .i64 ((a0.map e_sl_QRule).length : Int)), (19, .int .i64 v4)] _ _
    refine And.intro (fun hp => hp) ?_
    refine And.intro (fun hc => (bqf hc)) ?_
    refine LWp.sim (e := [(0, .isl 1 (a0.map e_sl_QRule) false), (3, .bool (v3 || (decide ((((a0.getD v4.toNat default).map e_QRule).length : Int) > 20)))), (5, .isl 2 ((a0.getD v4.toNat default).map e_QRule) false), (17, .isl 1 (a0.map e_sl_QRule) false), (18, .int .i64 ((a0.map e_sl_QRule).length : Int)), (19, .int .i64 v4)]) (L := []) (n := 0) ?_ ?_
    · exact simI (M := []) rfl (And.intro (Vw.same _ rfl) (And.intro (Vw.same _ rfl) (And.intro (Vw.same _ rfl) (And.intro (Vw.same _ rfl) (And.intro (Vw.same _ rfl) (And.intro (Vw.same _ rfl) trivial)))))) trivial
    refine seqI ?_
    refine regI ?_
    refine blockI ?_
    refine LWp.sim ?_ (f9_L4_ok h)
    exact simI (M := []) rfl (And.intro (Vw.same _ rfl) (And.intro (Vw.same _ rfl) (And.intro (Vw.same _ rfl) (And.intro (Vw.same _ rfl) (And.intro (Vw.same _ rfl) (And.intro (Vw.same _ rfl) (And.intro (Vw.same _ rfl) (And.intro (Vw.same _ rfl) trivial)))))))) trivial
  · have h := ite_ff h17 h
    refine exitI ?_
    obtain ⟨o, hq, rfl⟩ := Option.map_eq_some_iff.1 h
    replace h := hq; clear hq
    refine And.intro nofun ?_
    refine LWp.sim ?_ (f9_j4_ok h)
    exact simI (M := []) rfl (And.intro (Vw.same _ rfl) (And.intro (Vw.same _ rfl) trivial)) trivial

theorem f9_L3_ok {a0 : List (List G_QRule)} {v3 : Bool} {v4 : Int} {m : Option Nat} {o : Int} (h : S_glossatorref3_CheckRules_l3 m a0 v3 v4 = some o) :
    LWp Try.prog f9_lay 0 (.loop f9_c3) (QBlock 0 (QSeq Try.prog f9_lay 0 f9_c2 (f9_Q a0 o))) [(0, .isl 1 (a0.map e_sl_QRule) false), (3, .bool v3), (17, .isl 1 (a0.map e_sl_QRule) false), (18, .int .i64 ((a0.map e_sl_QRule).length : Int)), (19, .int .i64 v4)] [] 0 :=
  LWp_loopM (m := m) (s := ((v3, v4) : (Bool × Int))) (r := o) (fun (s : (Bool × Int)) => S_glossatorref3_CheckRules_b3 m a0 s.1 s.2) (f9_L3_env a0) (f9_L3_hp a0) (f9_L3_Q a0) (fun s o h => f9_L3_bok h) h

noncomputable def S_glossatorref3_CheckRules (m : Option Nat) (a0 : List (List G_QRule)) : Option Int :=
  S_glossatorref3_CheckRules_l3 m a0 (decide (((a0.map e_sl_QRule).length : Int) > 60)) 0

theorem f9_start {a0 : List (List G_QRule)} {m : Option Nat} {o : Int} (h : S_glossatorref3_CheckRules m a0 = some o) : LWp Try.prog f9_lay 0 f9_c10 (f9_Q a0 o) (initEnv 0 [.isl 1 (a0.map e_sl_QRule) false]) [] 0 := by
  unfold S_glossatorref3_CheckRules at h
  refine seqI ?_
  refine regI ?_
  refine seqI ?_
  refine regI ?_
  refine seqI ?_
  refine seqI ?_
  refine regI ?_
  refine LWp.sim (e := [(0, .isl 1 (a0.map e_sl_QRule) false), (3, .bool (decide (((a0.map e_sl_QRule).length : Int) > 60))), (17, .isl 1 (a0.map e_sl_QRule) false), (18, .int .i64 ((a0.map e_sl_QRule).length : Int)), (19, .int .i64 0)]) (L := []) (n := 0) ?_ ?_
  · exact simI (M := []) rfl (And.intro (Vw.same _ rfl) (And.intro (Vw.same _ rfl) (And.intro (Vw.same _ rfl) (And.intro (Vw.same _ rfl) (And.intro (Vw.same _ rfl) trivial))))) trivial
  refine blockI ?_
  refine LWp.sim ?_ (f9_L3_ok h)
  exact simI (M := []) rfl (And.intro (Vw.same _ rfl) (And.intro (Vw.same _ rfl) (And.intro (Vw.same _ rfl) (And.intro (Vw.same _ rfl) (And.intro (Vw.same _ rfl) trivial))))) trivial

theorem f9_ok {a0 : List (List G_QRule)} {m : Option Nat} {o : Int} (h : S_glossatorref3_CheckRules m a0 = some o) : PFn Try.prog 9 [.isl 1 (a0.map e_sl_QRule) false] (.int .i64 o) := PFn.ofFnW (L := f9_L) f9_low f9_fok (Nat.le_of_ble_eq_true rfl) rfl (f9_start h)

def f33b0_c2 : LCode := (.seq (.region [⟨some 35, .bin .lss (.t 34) (.t 33), none⟩])
 (.seq (.cond (.t 35)
  .skip
  (.exit 4))
 (.seq (.block 5
  (.seq (.region [⟨some 36, .iaddr 1 (.t 32) (.t 34), none⟩,
    ⟨some 37, .load false 1 (.t 36), none⟩,
    ⟨some 12, .mv (.t 37), none⟩])
  (.region [⟨some 38, .mv (.t 10), none⟩,
    ⟨some 39, .mv (.t 1), none⟩,
    ⟨some 40, .mv (.t 12), none⟩,
    ⟨some 41, .iaddr 1 (.t 39) (.t 40), none⟩,
    ⟨some 42, .load false 1 (.t 41), none⟩,
    ⟨some 43, .bin .and (.t 38) (.t 42), none⟩,
    ⟨some 10, .mv (.t 43), none⟩])))
 (.region [⟨some 44, .bin .add (.t 34) (.c (.int .i64 1)), none⟩,
   ⟨some 34, .mv (.t 44), none⟩]))))
def f33b0_c0 : LCode := (.region [⟨some 45, .mv (.t 5), none⟩,
   ⟨some 46, .mv (.t 6), none⟩,
   ⟨some 47, .mv (.t 5), none⟩,
   ⟨some 48, .mv (.t 6), none⟩,
   ⟨some 49, .iaddr 1 (.t 47) (.t 48), none⟩,
   ⟨some 50, .load false 1 (.t 49), none⟩,
   ⟨some 51, .mv (.t 10), none⟩,
   ⟨some 52, .bin .or (.t 50) (.t 51), none⟩,
   ⟨some 53, .iaddr 1 (.t 45) (.t 46), none⟩,
   ⟨none, .store 1 (.t 53) (.t 52), none⟩])
def f33b0_c1 : LCode := (.region [⟨some 54, .bin .add (.t 25) (.c (.int .i64 1)), none⟩,
   ⟨some 25, .mv (.t 54), none⟩])
def f33b0_c4 : LCode := (.seq (.region [⟨some 26, .bin .lss (.t 25) (.t 24), none⟩])
 (.seq (.cond (.t 26)
  .skip
  (.exit 2))
 (.seq (.block 3
  (.seq (.region [⟨some 27, .iaddr 2 (.t 23) (.t 25), none⟩,
    ⟨some 28, .load true 2 (.t 27), none⟩,
    ⟨some 9, .alloc [(.int .i64 0), (.isl 1 [] true)], none⟩,
    ⟨none, .store 2 (.t 9) (.t 28), none⟩])
  (.seq (.region [⟨some 29, .faddr 0 (.t 9), none⟩,
    ⟨some 30, .load false 1 (.t 29), none⟩,
    ⟨some 10, .mv (.t 30), none⟩])
  (.seq (.seq (.region [⟨some 31, .faddr 1 (.t 9), none⟩,
    ⟨some 32, .load false 1 (.t 31), none⟩,
    ⟨some 33, .len false (.t 32), none⟩,
    ⟨some 34, .mv (.c (.int .i64 0)), none⟩])
  (.block 4
   (.loop
    f33b0_c2)))
  f33b0_c0))))
 f33b0_c1)))
def f33b0_c3 : LCode := (.region [⟨some 55, .bin .add (.t 18) (.c (.int .i64 1)), none⟩,
   ⟨some 18, .mv (.t 55), none⟩])
def f33b0_c6 : LCode := (.seq (.region [⟨some 19, .bin .lss (.t 18) (.t 17), none⟩])
 (.seq (.cond (.t 19)
  .skip
  (.exit 0))
 (.seq (.block 1
  (.seq (.region [⟨some 20, .mv (.t 18), none⟩,
    ⟨some 21, .iaddr 1 (.t 16) (.t 18), none⟩,
    ⟨some 22, .load false 1 (.t 21), none⟩,
    ⟨some 6, .mv (.t 20), none⟩,
    ⟨some 7, .mv (.t 22), none⟩])
  (.seq (.region [⟨some 23, .mv (.t 7), none⟩,
    ⟨some 24, .len false (.t 23), none⟩,
    ⟨some 25, .mv (.c (.int .i64 0)), none⟩])
  (.block 2
   (.loop
    f33b0_c4)))))
 f33b0_c3)))
def f33b0_c5 : LCode := (.seq (.region [⟨some 56, .mv (.t 5), none⟩,
   ⟨some 4, .mv (.t 56), none⟩])
 .ret)
def f33b0_c7 : LCode := (.seq (.region [⟨some 4, .mv (.c (.val (.slice none 0 0))), none⟩])
 (.seq (.region [⟨some 13, .mv (.t 0), none⟩,
   ⟨some 14, .len false (.t 13), none⟩,
   ⟨some 15, .mkslice false 1 8 [(.int .i64 0)] (.t 14) (.t 14), none⟩,
   ⟨some 5, .mv (.t 15), none⟩])
 (.seq (.seq (.region [⟨some 16, .mv (.t 0), none⟩,
   ⟨some 17, .len false (.t 16), none⟩,
   ⟨some 18, .mv (.c (.int .i64 0)), none⟩])
 (.block 0
  (.loop
   f33b0_c6)))
 f33b0_c5)))
def f33b0_lay : Lay := ⟨57, [15], false⟩
def f33b0_res : List LRes := [.t 4]
def f33b0_L : LFn := ⟨2, f33b0_lay, f33b0_c7, f33b0_res⟩
theorem f33b0_low : lowFn Try.prog [15] 33 = some f33b0_L := by kernel_rfl
theorem f33b0_fok : FnOk Try.prog 33 := ⟨_, Try.func33, rfl, rfl⟩
def f33b0_Q (a0 : List (List G_QRule)) (a1 : List Int) (o : (List Int)) : Exit → Env → AHeap → Nat → Prop := FinK f33b0_res (FinTo 3 4 (.msl (3, 0) 1 0 o.length true) [((0, 0), .rows 1 (a1.map e_i64)), ((3, 0), .rows 1 (o.map e_i64))])

def f33b0_L9_env (a0 : List (List G_QRule)) (a1 : List Int) (s : (Int × (List Int))) : Env := [(1, .msl (0, 0) 1 0 a1.length true), (5, .msl (3, 0) 1 0 s.2.length true), (16, .isl 1 (a0.map e_sl_QRule) false), (17, .int .i64 ((a0.map e_sl_QRule).length : Int)), (18, .int .i64 s.1)]
def f33b0_L9_hp (a0 : List (List G_QRule)) (a1 : List Int) (s : (Int × (List Int))) : AHeap := [((0, 0), .rows 1 (a1.map e_i64)), ((3, 0), .rows 1 (s.2.map e_i64))]
def f33b0_L9_Q (a0 : List (List G_QRule)) (a1 : List Int) (o : (List Int)) : Exit → Env → AHeap → Nat → Prop := (QBlock 0 (QSeq Try.prog f33b0_lay 3 f33b0_c5 (f33b0_Q a0 a1 o)))

def f33b0_L12_env (a0 : List (List G_QRule)) (a1 : List Int) (v9 : Int) (s : (Int × (List Int))) : Env := [(1, .msl (0, 0) 1 0 a1.length true), (5, .msl (3, 0) 1 0 s.2.length true), (6, .int .i64 v9), (16, .isl 1 (a0.map e_sl_QRule) false), (17, .int .i64 ((a0.map e_sl_QRule).length : Int)), (18, .int .i64 v9), (23, .isl 2 ((a0.getD v9.toNat default).map e_QRule) false), (24, .int .i64 (((a0.getD v9.toNat default).map e_QRule).length : Int)), (25, .int .i64 s.1)]
def f33b0_L12_hp (a0 : List (List G_QRule)) (a1 : List Int) (v9 : Int) (s : (Int × (List Int))) : AHeap := [((0, 0), .rows 1 (a1.map e_i64)), ((3, 0), .rows 1 (s.2.map e_i64))]
def f33b0_L12_Q (a0 : List (List G_QRule)) (a1 : List Int) (o : ((Int × (List Int)) ⊕ (List Int))) : Exit → Env → AHeap → Nat → Prop := (QBlock 2 (QBlock 1 (QSeq Try.prog f33b0_lay 3 f33b0_c3 (BodyQ 3 4 (f33b0_L9_env a0 a1) (f33b0_L9_hp a0 a1) (f33b0_L9_Q a0 a1) o))))

def f33b0_L13_env (a0 : List (List G_QRule)) (a1 : List Int) (v9 : Int) (v21 : Int) (v22 : List Int) (s : (Int × Int)) : Env := [(1, .msl (0, 0) 1 0 a1.length true), (5, .msl (3, 0) 1 0 v22.length true), (6, .int .i64 v9), (10, .int .i64 s.1), (16, .isl 1 (a0.map e_sl_QRule) false), (17, .int .i64 ((a0.map e_sl_QRule).length : Int)), (18, .int .i64 v9), (23, .isl 2 ((a0.getD v9.toNat default).map e_QRule) false), (24, .int .i64 (((a0.getD v9.toNat default).map e_QRule).length : Int)), (25, .int .i64 v21), (32, .isl 1 ((((a0.getD v9.toNat default).getD v21.toNat default).f_All).map e_i64) false), (33, .int .i64 (((((a0.getD v9.toNat default).getD v21.toNat default).f_All).map e_i64).length : Int)), (34, .int .i64 s.2)]
def f33b0_L13_hp (a0 : List (List G_QRule)) (a1 : List Int) (v9 : Int) (v21 : Int) (v22 : List Int) (s : (Int × Int)) : AHeap := [((0, 0), .rows 1 (a1.map e_i64)), ((3, 0), .rows 1 (v22.map e_i64))]
def f33b0_L13_Q (a0 : List (List G_QRule)) (a1 : List Int) (v9 : Int) (o : ((Int × (List Int)) ⊕ ((Int × (List Int)) ⊕ (List Int)))) : Exit → Env → AHeap → Nat → Prop := (QBlock 4 (QSeq Try.prog f33b0_lay 3 f33b0_c0 (QBlock 3 (QSeq Try.prog f33b0_lay 3 f33b0_c1 (BodyQ 3 4 (f33b0_L12_env a0 a1 v9) (f33b0_L12_hp a0 a1 v9) (f33b0_L12_Q a0 a1) o)))))

noncomputable def S_glossatorref3_Round_j20 (m : Option Nat) (a0 : List (List G_QRule)) (a1 : List Int) (v9 : Int) (v21 : Int) (v22 : List Int) (v25 : Int) : Option ((Int × (List Int)) ⊕ ((Int × (List Int)) ⊕ (List Int))) :=
  some (.inl ((W (v21 + 1)), (v22.set (0 + v9.toNat) (ibits .or .i64 (v22.getD (0 + v9.toNat) default) v25))))

noncomputable def S_glossatorref3_Round_j19 (m : Option Nat) (a0 : List (List G_QRule)) (a1 : List Int) (v9 : Int) (v21 : Int) (v22 : List Int) (v25 : Int) : Option ((Int × (List Int)) ⊕ ((Int × (List Int)) ⊕ (List Int))) :=
  if (0 : Int) ≤ v9 ∧ v9 < ((v22.length : Nat) : Int) then
  if (0 + v9.toNat) < v22.length then
  if (0 : Int) ≤ v9 ∧ v9 < ((v22.length : Nat) : Int) then
  if (0 + v9.toNat) < v22.length then
  S_glossatorref3_Round_j20 m a0 a1 v9 v21 v22 v25
  else none
  else none
  else none
  else none

noncomputable def S_glossatorref3_Round_b13 (m : Option Nat) (a0 : List (List G_QRule)) (a1 : List Int) (v9 : Int) (v21 : Int) (v22 : List Int) (v25 : Int) (v26 : Int) : Option ((Int × Int) ⊕ ((Int × (List Int)) ⊕ ((Int × (List Int)) ⊕ (List Int)))) :=
  if (decide (v26 < (((((a0.getD v9.toNat default).getD v21.toNat default).f_All).map e_i64).length : Int))) = true then
    if (0 : Int) ≤ v26 ∧ v26 < (((((a0.getD v9.toNat default).getD v21.toNat default).f_All).map e_i64).length : Int) then
    if (0 : Int) ≤ ((((a0.getD v9.toNat default).getD v21.toNat default).f_All).getD v26.toNat default) ∧ ((((a0.getD v9.toNat default).getD v21.toNat default).f_All).getD v26.toNat default) < ((a1.length : Nat) : Int) then
    if (0 + ((((a0.getD v9.toNat default).getD v21.toNat default).f_All).getD v26.toNat default).toNat) < a1.length then
    some (.inl ((ibits .and .i64 v25 (a1.getD (0 + ((((a0.getD v9.toNat default).getD v21.toNat default).f_All).getD v26.toNat default).toNat) default)), (W (v26 + 1))))
    else none
    else none
    else none
  else
    Option.map Sum.inr (
      S_glossatorref3_Round_j19 m a0 a1 v9 v21 v22 v25)

noncomputable def S_glossatorref3_Round_l13 (m : Option Nat) (a0 : List (List G_QRule)) (a1 : List Int) (v9 : Int) (v21 : Int) (v22 : List Int) (v25 : Int) (v26 : Int) : Option ((Int × (List Int)) ⊕ ((Int × (List Int)) ⊕ (List Int))) := loopM m (fun (s : (Int × Int)) => S_glossatorref3_Round_b13 m a0 a1 v9 v21 v22 s.1 s.2) (v25, v26)

theorem f33b0_j20_ok {a0 : List (List G_QRule)} {a1 : List Int} {v9 : Int} {v21 : Int} {v22 : List Int} {v25 : Int} {m : Option Nat} {o : ((Int × (List Int)) ⊕ ((Int × (List Int)) ⊕ (List Int)))} (h : S_glossatorref3_Round_j20 m a0 a1 v9 v21 v22 v25 = some o) :
    LWp Try.prog f33b0_lay 3 f33b0_c1 (BodyQ 3 4 (f33b0_L12_env a0 a1 v9) (f33b0_L12_hp a0 a1 v9) (f33b0_L12_Q a0 a1) o) [(1, .msl (0, 0) 1 0 a1.length true), (5, .msl (3, 0) 1 0 v22.length true), (6, .int .i64 v9), (16, .isl 1 (a0.map e_sl_QRule) false), (17, .int .i64 ((a0.map e_sl_QRule).length : Int)), (18, .int .i64 v9), (23, .isl 2 ((a0.getD v9.toNat default).map e_QRule) false), (24, .int .i64 (((a0.getD v9.toNat default).map e_QRule).length : Int)), (25, .int .i64 v21)] [((0, 0), .rows 1 (a1.map e_i64)), ((3, 0), .rows 1 ((v22.set (0 + v9.toNat) (ibits .or .i64 (v22.getD (0 + v9.toNat) default) v25)).map e_i64))] 4 := by
  unfold S_glossatorref3_Round_j20 at h
  refine regI ?_
  cases h
  exact And.intro rfl (simI (M := [((3, 0), (3, 0))]) rfl (And.intro (Vw.mslE rfl (by first | rfl | (simp; done) | (simp only [List.length_map, List.length_replicate, Int.toNat_natCast] at *; omega)) rfl) (And.intro (Vw.mslE rfl (by first | rfl | (simp; done) | (simp only [List.length_map, List.length_replicate, Int.toNat_natCast] at *; omega)) rfl) (And.intro (Vw.same _ rfl) (And.intro (Vw.same _ rfl) (And.intro (Vw.same _ rfl) (And.intro (Vw.same _ rfl) (And.intro (Vw.same _ rfl) (And.intro (Vw.same _ rfl) (And.intro (Vw.same _ rfl) trivial))))))))) (And.intro (And.intro rfl (BVw.enc e_i64 (fun _ => rfl) _ a1)) (And.intro (And.intro rfl (BVw.enc e_i64 (fun _ => rfl) _ (v22.set (0 + v9.toNat) (ibits .or .i64 (v22.getD (0 + v9.toNat) default) v25)))) trivial)))

theorem f33b0_j19_ok {a0 : List (List G_QRule)} {a1 : List Int} {v9 : Int} {v21 : Int} {v22 : List Int} {v25 : Int} {m : Option Nat} {o : ((Int × (List Int)) ⊕ ((Int × (List Int)) ⊕ (List Int)))} (h : S_glossatorref3_Round_j19 m a0 a1 v9 v21 v22 v25 = some o) :
    LWp Try.prog f33b0_lay 3 f33b0_c0 (QBlock 3 (QSeq Try.prog f33b0_lay 3 f33b0_c1 (BodyQ 3 4 (f33b0_L12_env a0 a1 v9) (f33b0_L12_hp a0 a1 v9) (f33b0_L12_Q a0 a1) o))) [(1, .msl (0, 0) 1 0 a1.length true), (5, .msl (3, 0) 1 0 v22.length true), (6, .int .i64 v9), (10, .int .i64 v25), (16, .isl 1 (a0.map e_sl_QRule) false), (17, .int .i64 ((a0.map e_sl_QRule).length : Int)), (18, .int .i64 v9), (23, .isl 2 ((a0.getD v9.toNat default).map e_QRule) false), (24, .int .i64 (((a0.getD v9.toNat default).map e_QRule).length : Int)), (25, .int .i64 v21)] [((0, 0), .rows 1 (a1.map e_i64)), ((3, 0), .rows 1 (v22.map e_i64))] 4 := by
  unfold S_glossatorref3_Round_j19 at h
  refine regI ?_
  obtain ⟨h166, h⟩ := ite_some h
  refine And.intro h166 ?_
  show yops _ _ _ [(49, .ptr (3, 0) (0 + v9.toNat) 0), (48, .int .i64 v9), (47, .msl (3, 0) 1 0 v22.length true), (46, .int .i64 v9), (45, .msl (3, 0) 1 0 v22.length true), (1, .msl (0, 0) 1 0 a1.length true), (5, .msl (3, 0) 1 0 v22.length true), (6, .int .i64 v9), (10, .int .i64 v25), (16, .isl 1 (a0.map e_sl_QRule) false), (17, .int .i64 ((a0.map e_sl_QRule).length : Int)), (18, .int .i64 v9), (23, .isl 2 ((a0.getD v9.toNat default).map e_QRule) false), (24, .int .i64 (((a0.getD v9.toNat default).map e_QRule).length : Int)), (25, .int .i64 v21)] _ _
  obtain ⟨h167, h⟩ := ite_some h
  refine Exists.intro (e_i64 (v22.getD (0 + v9.toNat) default)) (And.intro (getD_enc e_i64 _ _ h167) (And.intro (And.intro (lt_map e_i64 h167) (Nat.le_of_ble_eq_true rfl)) ?_))
  obtain ⟨h168, h⟩ := ite_some h
  refine And.intro h168 ?_
  obtain ⟨h169, h⟩ := ite_some h
  refine Exists.intro ((v22.set (0 + v9.toNat) (ibits .or .i64 (v22.getD (0 + v9.toNat) default) v25)).map e_i64) (And.intro (set_enc e_i64 _ _ _ _ _ h169 rfl) (And.intro (And.intro rfl (And.intro (lt_map e_i64 h169) (Nat.le_of_ble_eq_true rfl))) ?_))
  refine LWp.sim ?_ (f33b0_j20_ok h)
  exact simI (M := [((3, 0), (3, 0))]) rfl (And.intro (Vw.mslE rfl (by first | rfl | (simp; done) | (simp only [List.length_map, List.length_replicate, Int.toNat_natCast] at *; omega)) rfl) (And.intro (Vw.mslE rfl (by first | rfl | (simp; done) | (simp only [List.length_map, List.length_replicate, Int.toNat_natCast] at *; omega)) rfl) (And.intro (Vw.same _ rfl) (And.intro (Vw.same _ rfl) (And.intro (Vw.same _ rfl) (And.intro (Vw.same _ rfl) (And.intro (Vw.same _ rfl) (And.intro (Vw.same _ rfl) (And.intro (Vw.same _ rfl) trivial))))))))) (And.intro (And.intro rfl (BVw.enc e_i64 (fun _ => rfl) _ a1)) (And.intro (And.intro rfl (BVw.enc e_i64 (fun _ => rfl) _ (v22.set (0 + v9.toNat) (ibits .or .i64 (v22.getD (0 + v9.toNat) default) v25)))) trivial))

theorem f33b0_L13_bok {a0 : List (List G_QRule)} {a1 : List Int} {v9 : Int} {v21 : Int} {v22 : List Int} {v25 : Int} {v26 : Int} {m : Option Nat} {o : (Int × Int) ⊕ ((Int × (List Int)) ⊕ ((Int × (List Int)) ⊕ (List Int)))} (h : S_glossatorref3_Round_b13 m a0 a1 v9 v21 v22 v25 v26 = some o) :
    LWp Try.prog f33b0_lay 3 f33b0_c2 (BodyQ 3 4 (f33b0_L13_env a0 a1 v9 v21 v22) (f33b0_L13_hp a0 a1 v9 v21 v22) (f33b0_L13_Q a0 a1 v9) o) [(1, .msl (0, 0) 1 0 a1.length true), (5, .msl (3, 0) 1 0 v22.length true), (6, .int .i64 v9), (10, .int .i64 v25), (16, .isl 1 (a0.map e_sl_QRule) false), (17, .int .i64 ((a0.map e_sl_QRule).length : Int)), (18, .int .i64 v9), (23, .isl 2 ((a0.getD v9.toNat default).map e_QRule) false), (24, .int .i64 (((a0.getD v9.toNat default).map e_QRule).length : Int)), (25, .int .i64 v21), (32, .isl 1 ((((a0.getD v9.toNat default).getD v21.toNat default).f_All).map e_i64) false), (33, .int .i64 (((((a0.getD v9.toNat default).getD v21.toNat default).f_All).map e_i64).length : Int)), (34, .int .i64 v26)] [((0, 0), .rows 1 (a1.map e_i64)), ((3, 0), .rows 1 (v22.map e_i64))] 4 := by
  unfold S_glossatorref3_Round_b13 at h
  refine seqI ?_
  refine regI ?_
  refine seqI ?_
  refine condI (v := (decide (v26 < (((((a0.getD v9.toNat default).getD v21.toNat default).f_All).map e_i64).length : Int)))) rfl trivial (fun h162 => ?_) (fun h162 => ?_)
  · have h := ite_tt h162 h
    refine skipI ?_
    refine seqI ?_
    refine blockI ?_
    refine seqI ?_
    refine regI ?_
    obtain ⟨h163, h⟩ := ite_some h
    refine And.intro h163 ?_
    refine Exists.intro (e_i64 ((((a0.getD v9.toNat default).getD v21.toNat default).f_All).getD v26.toNat default)) (And.intro (getD_enc e_i64 _ _ (idx_ltL e_i64 h163)) (And.intro (And.intro (idx_lt h163) (Nat.le_of_ble_eq_true rfl)) ?_))
    refine regI ?_
    obtain ⟨h164, h⟩ := ite_some h
    refine And.intro h164 ?_
    show yops _ _ _ [(41, .ptr (0, 0) (0 + ((((a0.getD v9.toNat default).getD v21.toNat default).f_All).getD v26.toNat default).toNat) 0), (40, .int .i64 ((((a0.getD v9.toNat default).getD v21.toNat default).f_All).getD v26.toNat default)), (39, .msl (0, 0) 1 0 a1.length true), (38, .int .i64 v25), (12, .int .i64 ((((a0.getD v9.toNat default).getD v21.toNat default).f_All).getD v26.toNat default)), (37, .int .i64 ((((a0.getD v9.toNat default).getD v21.toNat default).f_All).getD v26.toNat default)), (36, .iptr 1 ((((a0.getD v9.toNat default).getD v21.toNat default).f_All).map e_i64) v26.toNat 0), (35, .bool (decide (v26 < (((((a0.getD v9.toNat default).getD v21.toNat default).f_All).map e_i64).length : Int)))), (1, .msl (0, 0) 1 0 a1.length true), (5, .msl (3, 0) 1 0 v22.length true), (6, .int .i64 v9), (10, .int .i64 v25), (16, .isl 1 (a0.map e_sl_QRule) false), (17, .int .i64 ((a0.map e_sl_QRule).length : Int)), (18, .int .i64 v9), (23, .isl 2 ((a0.getD v9.toNat default).map e_QRule) false), (24, .int .i64 (((a0.getD v9.toNat default).map e_QRule).length : Int)), (25, .int .i64 v21), (32, .isl 1 ((((a0.getD v9.toNat default).getD v21.toNat default).f_All).map e_i64) false), (33, .int .i64 (((((a0.getD v9.toNat default).getD v21.toNat default).f_All).map e_i64).length : Int)), (34, .int .i64 v26)] _ _
    obtain ⟨h165, h⟩ := ite_some h
    refine Exists.intro (e_i64 (a1.getD (0 + ((((a0.getD v9.toNat default).getD v21.toNat default).f_All).getD v26.toNat default).toNat) default)) (And.intro (getD_enc e_i64 _ _ h165) (And.intro (And.intro (lt_map e_i64 h165) (Nat.le_of_ble_eq_true rfl)) ?_))
    refine LWp.sim (e := [(1, .msl (0, 0) 1 0 a1.length true), (5, .msl (3, 0) 1 0 v22.length true), (6, .int .i64 v9), (10, .int .i64 (ibits .and .i64 v25 (a1.getD (0 + ((((a0.getD v9.toNat default).getD v21.toNat default).f_All).getD v26.toNat default).toNat) default))), (16, .isl 1 (a0.map e_sl_QRule) false), (17, .int .i64 ((a0.map e_sl_QRule).length : Int)), (18, .int .i64 v9), (23, .isl 2 ((a0.getD v9.toNat default).map e_QRule) false), (24, .int .i64 (((a0.getD v9.toNat default).map e_QRule).length : Int)), (25, .int .i64 v21), (32, .isl 1 ((((a0.getD v9.toNat default).getD v21.toNat default).f_All).map e_i64) false), (33, .int .i64 (((((a0.getD v9.toNat default).getD v21.toNat default).f_All).map e_i64).length : Int)), (34, .int .i64 v26)]) (L := [((0, 0), .rows 1 (a1.map e_i64)), ((3, 0), .rows 1 (v22.map e_i64))]) (n := 4) ?_ ?_
    · exact simI (M := [((3, 0), (3, 0))]) rfl (And.intro (Vw.mslE rfl (by first | rfl | (simp; done) | (simp only [List.length_map, List.length_replicate, Int.toNat_natCast] at *; omega)) rfl) (And.intro (Vw.mslE rfl (by first | rfl | (simp; done) | (simp only [List.length_map, List.length_replicate, Int.toNat_natCast] at *; omega)) rfl) (And.intro (Vw.same _ rfl) (And.intro (Vw.same _ rfl) (And.intro (Vw.same _ rfl) (And.intro (Vw.same _ rfl) (And.intro (Vw.same _ rfl) (And.intro (Vw.same _ rfl) (And.intro (Vw.same _ rfl) (And.intro (Vw.same _ rfl) (And.intro (Vw.same _ rfl) (And.intro (Vw.same _ rfl) (And.intro (Vw.same _ rfl) trivial))))))))))))) (And.intro (And.intro rfl (BVw.enc e_i64 (fun _ => rfl) _ a1)) (And.intro (And.intro rfl (BVw.enc e_i64 (fun _ => rfl) _ v22)) trivial))
    refine regI ?_
    cases h
    exact And.intro rfl (simI (M := [((3, 0), (3, 0))]) rfl (And.intro (Vw.mslE rfl (by first | rfl | (simp; done) | (simp only [List.length_map, List.length_replicate, Int.toNat_natCast] at *; omega)) rfl) (And.intro (Vw.mslE rfl (by first | rfl | (simp; done) | (simp only [List.length_map, List.length_replicate, Int.toNat_natCast] at *; omega)) rfl) (And.intro (Vw.same _ rfl) (And.intro (Vw.same _ rfl) (And.intro (Vw.same _ rfl) (And.intro (Vw.same _ rfl) (And.intro (Vw.same _ rfl) (And.intro (Vw.same _ rfl) (And.intro (Vw.same _ rfl) (And.intro (Vw.same _ rfl) (And.intro (Vw.same _ rfl) (And.intro (Vw.same _ rfl) (And.intro (Vw.same _ rfl) trivial))))))))))))) (And.intro (And.intro rfl (BVw.enc e_i64 (fun _ => rfl) _ a1)) (And.intro (And.intro rfl (BVw.enc e_i64 (fun _ => rfl) _ v22)) trivial)))
  · have h := ite_ff h162 h
    refine exitI ?_
    obtain ⟨o, hq, rfl⟩ := Option.map_eq_some_iff.1 h
    replace h := hq; clear hq
    refine And.intro nofun ?_
    refine LWp.sim ?_ (f33b0_j19_ok h)
    exact simI (M := [((3, 0), (3, 0))]) rfl (And.intro (Vw.mslE rfl (by first | rfl | (simp; done) | (simp only [List.length_map, List.length_replicate, Int.toNat_natCast] at *; omega)) rfl) (And.intro (Vw.mslE rfl (by first | rfl | (simp; done) | (simp only [List.length_map, List.length_replicate, Int.toNat_natCast] at *; omega)) rfl) (And.intro (Vw.same _ rfl) (And.intro (Vw.same _ rfl) (And.intro (Vw.same _ rfl) (And.intro (Vw.same _ rfl) (And.intro (Vw.same _ rfl) (And.intro (Vw.same _ rfl) (And.intro (Vw.same _ rfl) (And.intro (Vw.same _ rfl) trivial)))))))))) (And.intro (And.intro rfl (BVw.enc e_i64 (fun _ => rfl) _ a1)) (And.intro (And.intro rfl (BVw.enc e_i64 (fun _ => rfl) _ v22)) trivial))

theorem f33b0_L13_ok {a0 : List (List G_QRule)} {a1 : List Int} {v9 : Int} {v21 : Int} {v22 : List Int} {v25 : Int} {v26 : Int} {m : Option Nat} {o : ((Int × (List Int)) ⊕ ((Int × (List Int)) ⊕ (List Int)))} (h : S_glossatorref3_Round_l13 m a0 a1 v9 v21 v22 v25 v26 = some o) :
    LWp Try.prog f33b0_lay 3 (.loop f33b0_c2) (QBlock 4 (QSeq Try.prog f33b0_lay 3 f33b0_c0 (QBlock 3 (QSeq Try.prog f33b0_lay 3 f33b0_c1 (BodyQ 3 4 (f33b0_L12_env a0 a1 v9) (f33b0_L12_hp a0 a1 v9) (f33b0_L12_Q a0 a1) o))))) [(1, .msl (0, 0) 1 0 a1.length true), (5, .msl (3, 0) 1 0 v22.length true), (6, .int .i64 v9), (10, .int .i64 v25), (16, .isl 1 (a0.map e_sl_QRule) false), (17, .int .i64 ((a0.map e_sl_QRule).length : Int)), (18, .int .i64 v9), (23, .isl 2 ((a0.getD v9.toNat default).map e_QRule) false), (24, .int .i64 (((a0.getD v9.toNat default).map e_QRule).length : Int)), (25, .int .i64 v21), (32, .isl 1 ((((a0.getD v9.toNat default).getD v21.toNat default).f_All).map e_i64) false), (33, .int .i64 (((((a0.getD v9.toNat default).getD v21.toNat default).f_All).map e_i64).length : Int)), (34, .int .i64 v26)] [((0, 0), .rows 1 (a1.map e_i64)), ((3, 0), .rows 1 (v22.map e_i64))] 4 :=
  LWp_loopM (m := m) (s := ((v25, v26) : (Int × Int))) (r := o) (fun (s : (Int × Int)) => S_glossatorref3_Round_b13 m a0 a1 v9 v21 v22 s.1 s.2) (f33b0_L13_env a0 a1 v9 v21 v22) (f33b0_L13_hp a0 a1 v9 v21 v22) (f33b0_L13_Q a0 a1 v9) (fun s o h => f33b0_L13_bok h) h

noncomputable def S_glossatorref3_Round_j21 (m : Option Nat) (a0 : List (List G_QRule)) (a1 : List Int) (v9 : Int) (v22 : List Int) : Option ((Int × (List Int)) ⊕ (List Int)) :=
  some (.inl ((W (v9 + 1)), v22))

noncomputable def S_glossatorref3_Round_b12 (m : Option Nat) (a0 : List (List G_QRule)) (a1 : List Int) (v9 : Int) (v21 : Int) (v22 : List Int) : Option ((Int × (List Int)) ⊕ ((Int × (List Int)) ⊕ (List Int))) :=
  if (decide (v21 < (((a0.getD v9.toNat default).map e_QRule).length : Int))) = true then
    if (0 : Int) ≤ v21 ∧ v21 < (((a0.getD v9.toNat default).map e_QRule).length : Int) then
    S_glossatorref3_Round_l13 m a0 a1 v9 v21 v22 (((a0.getD v9.toNat default).getD v21.toNat default).f_Mask) 0
    else none
  else
    Option.map Sum.inr (
      S_glossatorref3_Round_j21 m a0 a1 v9 v22)

noncomputable def S_glossatorref3_Round_l12 (m : Option Nat) (a0 : List (List G_QRule)) (a1 : List Int) (v9 : Int) (v21 : Int) (v22 : List Int) : Option ((Int × (List Int)) ⊕ (List Int)) := loopM m (fun (s : (Int × (List Int))) => S_glossatorref3_Round_b12 m a0 a1 v9 s.1 s.2) (v21, v22)

theorem f33b0_j21_ok {a0 : List (List G_QRule)} {a1 : List Int} {v9 : Int} {v22 : List Int} {m : Option Nat} {o : ((Int × (List Int)) ⊕ (List Int))} (h : S_glossatorref3_Round_j21 m a0 a1 v9 v22 = some o) :
    LWp Try.prog f33b0_lay 3 f33b0_c3 (BodyQ 3 4 (f33b0_L9_env a0 a1) (f33b0_L9_hp a0 a1) (f33b0_L9_Q a0 a1) o) [(1, .msl (0, 0) 1 0 a1.length true), (5, .msl (3, 0) 1 0 v22.length true), (16, .isl 1 (a0.map e_sl_QRule) false), (17, .int .i64 ((a0.map e_sl_QRule).length : Int)), (18, .int .i64 v9)] [((0, 0), .rows 1 (a1.map e_i64)), ((3, 0), .rows 1 (v22.map e_i64))] 4 := by
  unfold S_glossatorref3_Round_j21 at h
  refine regI ?_
  cases h
  exact And.intro rfl (simI (M := [((3, 0), (3, 0))]) rfl (And.intro (Vw.mslE rfl (by first | rfl | (simp; done) | (simp only [List.length_map, List.length_replicate, Int.toNat_natCast] at *; omega)) rfl) (And.intro (Vw.mslE rfl (by first | rfl | (simp; done) | (simp only [List.length_map, List.length_replicate, Int.toNat_natCast] at *; omega)) rfl) (And.intro (Vw.same _ rfl) (And.intro (Vw.same _ rfl) (And.intro (Vw.same _ rfl) trivial))))) (And.intro (And.intro rfl (BVw.enc e_i64 (fun _ => rfl) _ a1)) (And.intro (And.intro rfl (BVw.enc e_i64 (fun _ => rfl) _ v22)) trivial)))

theorem f33b0_L12_bok {a0 : List (List G_QRule)} {a1 : List Int} {v9 : Int} {v21 : Int} {v22 : List Int} {m : Option Nat} {o : (Int × (List Int)) ⊕ ((Int × (List Int)) ⊕ (List Int))} (h : S_glossatorref3_Round_b12 m a0 a1 v9 v21 v22 = some o) :
    LWp Try.prog f33b0_lay 3 f33b0_c4 (BodyQ 3 4 (f33b0_L12_env a0 a1 v9) (f33b0_L12_hp a0 a1 v9) (f33b0_L12_Q a0 a1) o) [(1, .msl (0, 0) 1 0 a1.length true), (5, .msl (3, 0) 1 0 v22.length true), (6, .int .i64 v9), (16, .isl 1 (a0.map e_sl_QRule) false), (17, .int .i64 ((a0.map e_sl_QRule).length : Int)), (18, .int .i64 v9), (23, .isl 2 ((a0.getD v9.toNat default).map e_QRule) false), (24, .int .i64 (((a0.getD v9.toNat default).map e_QRule).length : Int)), (25, .int .i64 v21)] [((0, 0), .rows 1 (a1.map e_i64)), ((3, 0), .rows 1 (v22.map e_i64))] 4 := by
  unfold S_glossatorref3_Round_b12 at h
  refine seqI ?_
  refine regI ?_
  refine seqI ?_
  refine condI (v := (decide (v21 < (((a0.getD v9.toNat default).map e_QRule).length : Int)))) rfl trivial (fun h152 => ?_) (fun h152 => ?_)
  · have h := ite_tt h152 h
    refine skipI ?_
    refine seqI ?_
    refine blockI ?_
    refine seqI ?_
    refine regI ?_
    obtain ⟨h153, h⟩ := ite_some h
    refine And.intro h153 ?_
    refine Exists.intro (e_QRule ((a0.getD v9.toNat default).getD v21.toNat default)) (And.intro (getD_enc e_QRule _ _ (idx_ltL e_QRule h153)) (And.intro (And.intro (idx_lt h153) (Nat.le_of_ble_eq_true rfl)) ?_))
    refine seqI ?_
    refine regI ?_
    refine LWp.sim (e := [(1, .msl (0, 0) 1 0 a1.length true), (5, .msl (3, 0) 1 0 v22.length true), (6, .int .i64 v9), (9, .ptr (4, 0) 0 0), (10, .int .i64 (((a0.getD v9.toNat default).getD v21.toNat default).f_Mask)), (16, .isl 1 (a0.map e_sl_QRule) false), (17, .int .i64 ((a0.map e_sl_QRule).length : Int)), (18, .int .i64 v9), (23, .isl 2 ((a0.getD v9.toNat default).map e_QRule) false), (24, .int .i64 (((a0.getD v9.toNat default).map e_QRule).length : Int)), (25, .int .i64 v21)]) (L := [((0, 0), .rows 1 (a1.map e_i64)), ((3, 0), .rows 1 (v22.map e_i64)), ((4, 0), .one [.int .i64 (((a0.getD v9.toNat default).getD v21.toNat default).f_Mask), .isl 1 ((((a0.getD v9.toNat default).getD v21.toNat default).f_All).map e_i64) false])]) (n := 5) ?_ ?_
    · exact simI (M := [((3, 0), (3, 0)), ((4, 0), (4, 0))]) rfl (And.intro (Vw.mslE rfl (by first | rfl | (simp; done) | (simp only [List.length_map, List.length_replicate, Int.toNat_natCast] at *; omega)) rfl) (And.intro (Vw.mslE rfl (by first | rfl | (simp; done) | (simp only [List.length_map, List.length_replicate, Int.toNat_natCast] at *; omega)) rfl) (And.intro (Vw.same _ rfl) (And.intro (Vw.ptr _ _ _ _ rfl) (And.intro (Vw.same _ rfl) (And.intro (Vw.same _ rfl) (And.intro (Vw.same _ rfl) (And.intro (Vw.same _ rfl) (And.intro (Vw.same _ rfl) (And.intro (Vw.same _ rfl) (And.intro (Vw.same _ rfl) trivial))))))))))) (And.intro (And.intro rfl (BVw.enc e_i64 (fun _ => rfl) _ a1)) (And.intro (And.intro rfl (BVw.enc e_i64 (fun _ => rfl) _ v22)) (And.intro (And.intro rfl (BVw.oneL (And.intro (Vw.same _ rfl) (And.intro (Vw.same _ rfl) trivial)))) trivial)))
    refine seqI ?_
    refine seqI ?_
    refine regI ?_
    refine blockI ?_
    refine LWp.sim ?_ (f33b0_L13_ok h)
    exact simI (M := [((3, 0), (3, 0))]) rfl (And.intro (Vw.mslE rfl (by first | rfl | (simp; done) | (simp only [List.length_map, List.length_replicate, Int.toNat_natCast] at *; omega)) rfl) (And.intro (Vw.mslE rfl (by first | rfl | (simp; done) | (simp only [List.length_map, List.length_replicate, Int.toNat_natCast] at *; omega)) rfl) (And.intro (Vw.same _ rfl) (And.intro (Vw.same _ rfl) (And.intro (Vw.same _ rfl) (And.intro (Vw.same _ rfl) (And.intro (Vw.same _ rfl) (And.intro (Vw.same _ rfl) (And.intro (Vw.same _ rfl) (And.intro (Vw.same _ rfl) (And.intro (Vw.same _ rfl) (And.intro (Vw.same _ rfl) (And.intro (Vw.same _ rfl) trivial))))))))))))) (And.intro (And.intro rfl (BVw.enc e_i64 (fun _ => rfl) _ a1)) (And.intro (And.intro rfl (BVw.enc e_i64 (fun _ => rfl) _ v22)) trivial))
  · have h := ite_ff h152 h
    refine exitI ?_
    obtain ⟨o, hq, rfl⟩ := Option.map_eq_some_iff.1 h
    replace h := hq; clear hq
    refine And.intro nofun ?_
    refine LWp.sim ?_ (f33b0_j21_ok h)
    exact simI (M := [((3, 0), (3, 0))]) rfl (And.intro (Vw.mslE rfl (by first | rfl | (simp; done) | (simp only [List.length_map, List.length_replicate, Int.toNat_natCast] at *; omega)) rfl) (And.intro (Vw.mslE rfl (by first | rfl | (simp; done) | (simp only [List.length_map, List.length_replicate, Int.toNat_natCast] at *; omega)) rfl) (And.intro (Vw.same _ rfl) (And.intro (Vw.same _ rfl) (And.intro (Vw.same _ rfl) trivial))))) (And.intro (And.intro rfl (BVw.enc e_i64 (fun _ => rfl) _ a1)) (And.intro (And.intro rfl (BVw.enc e_i64 (fun _ => rfl) _ v22)) trivial))

theorem f33b0_L12_ok {a0 : List (List G_QRule)} {a1 : List Int} {v9 : Int} {v21 : Int} {v22 : List Int} {m : Option Nat} {o : ((Int × (List Int)) ⊕ (List Int))} (h : S_glossatorref3_Round_l12 m a0 a1 v9 v21 v22 = some o) :
    LWp Try.prog f33b0_lay 3 (.loop f33b0_c4) (QBlock 2 (QBlock 1 (QSeq Try.prog f33b0_lay 3 f33b0_c3 (BodyQ 3 4 (f33b0_L9_env a0 a1) (f33b0_L9_hp a0 a1) (f33b0_L9_Q a0 a1) o)))) [(1, .msl (0, 0) 1 0 a1.length true), (5, .msl (3, 0) 1 0 v22.length true), (6, .int .i64 v9), (16, .isl 1 (a0.map e_sl_QRule) false), (17, .int .i64 ((a0.map e_sl_QRule).length : Int)), (18, .int .i64 v9), (23, .isl 2 ((a0.getD v9.toNat default).map e_QRule) false), (24, .int .i64 (((a0.getD v9.toNat default).map e_QRule).length : Int)), (25, .int .i64 v21)] [((0, 0), .rows 1 (a1.map e_i64)), ((3, 0), .rows 1 (v22.map e_i64))] 4 :=
  LWp_loopM (m := m) (s := ((v21, v22) : (Int × (List Int)))) (r := o) (fun (s : (Int × (List Int))) => S_glossatorref3_Round_b12 m a0 a1 v9 s.1 s.2) (f33b0_L12_env a0 a1 v9) (f33b0_L12_hp a0 a1 v9) (f33b0_L12_Q a0 a1) (fun s o h => f33b0_L12_bok h) h

noncomputable def S_glossatorref3_Round_j22 (m : Option Nat) (a1 : List Int) (v10 : List Int) : Option (List Int) :=
  some v10

noncomputable def S_glossatorref3_Round_b9 (m : Option Nat) (a0 : List (List G_QRule)) (a1 : List Int) (v9 : Int) (v10 : List Int) : Option ((Int × (List Int)) ⊕ (List Int)) :=
  if (decide (v9 < ((a0.map e_sl_QRule).length : Int))) = true then
    if (0 : Int) ≤ v9 ∧ v9 < ((a0.map e_sl_QRule).length : Int) then
    S_glossatorref3_Round_l12 m a0 a1 v9 0 v10
    else none
  else
    Option.map Sum.inr (
      S_glossatorref3_Round_j22 m a1 v10)

noncomputable def S_glossatorref3_Round_l9 (m : Option Nat) (a0 : List (List G_QRule)) (a1 : List Int) (v9 : Int) (v10 : List Int) : Option (List Int) := loopM m (fun (s : (Int × (List Int))) => S_glossatorref3_Round_b9 m a0 a1 s.1 s.2) (v9, v10)

theorem f33b0_j22_ok {a0 : List (List G_QRule)} {a1 : List Int} {v10 : List Int} {m : Option Nat} {o : (List Int)} (h : S_glossatorref3_Round_j22 m a1 v10 = some o) :
    LWp Try.prog f33b0_lay 3 f33b0_c5 (f33b0_Q a0 a1 o) [(5, .msl (3, 0) 1 0 v10.length true)] [((0, 0), .rows 1 (a1.map e_i64)), ((3, 0), .rows 1 (v10.map e_i64))] 4 := by
  unfold S_glossatorref3_Round_j22 at h
  refine seqI ?_
  refine regI ?_
  refine retI ?_
  cases h
  exact And.intro trivial (finI (n' := 4) [((3, 0), (3, 0))] [] rfl rfl (Vw.mslE rfl (by first | rfl | (simp; done) | (simp only [List.length_map, List.length_replicate, Int.toNat_natCast] at *; omega)) rfl) (And.intro (And.intro rfl (BVw.enc e_i64 (fun _ => rfl) _ a1)) (And.intro (And.intro rfl (BVw.enc e_i64 (fun _ => rfl) _ v10)) trivial)))

theorem f33b0_L9_bok {a0 : List (List G_QRule)} {a1 : List Int} {v9 : Int} {v10 : List Int} {m : Option Nat} {o : (Int × (List Int)) ⊕ (List Int)} (h : S_glossatorref3_Round_b9 m a0 a1 v9 v10 = some o) :
    LWp Try.prog f33b0_lay 3 f33b0_c6 (BodyQ 3 4 (f33b0_L9_env a0 a1) (f33b0_L9_hp a0 a1) (f33b0_L9_Q a0 a1) o) [(1, .msl (0, 0) 1 0 a1.length true), (5, .msl (3, 0) 1 0 v10.length true), (16, .isl 1 (a0.map e_sl_QRule) false), (17, .int .i64 ((a0.map e_sl_QRule).length : Int)), (18, .int .i64 v9)] [((0, 0), .rows 1 (a1.map e_i64)), ((3, 0), .rows 1 (v10.map e_i64))] 4 := by
  unfold S_glossatorref3_Round_b9 at h
  refine seqI ?_
  refine regI ?_
  refine seqI ?_
  refine condI (v := (decide (v9 < ((a0.map e_sl_QRule).length : Int)))) rfl trivial (fun h114 => ?_) (fun h114 => ?_)
  · have h := ite_tt h114 h
    refine skipI ?_
    refine seqI ?_
    refine blockI ?_
    refine seqI ?_
    refine regI ?_
    obtain ⟨h115, h⟩ := ite_some h
    refine And.intro h115 ?_
    refine Exists.intro (e_sl_QRule (a0.getD v9.toNat default)) (And.intro (getD_enc e_sl_QRule _ _ (idx_ltL e_sl_QRule h115)) (And.intro (And.intro (idx_lt h115) (Nat.le_of_ble_eq_true rfl)) ?_))
    refine seqI ?_
    refine regI ?_
    refine LWp.sim (e := [(1, .msl (0, 0) 1 0 a1.length true), (5, .msl (3, 0) 1 0 v10.length true), (6, .int .i64 v9), (16, .isl 1 (a0.map e_sl_QRule) false), (17, .int .i64 ((a0.map e_sl_QRule).length : Int)), (18, .int .i64 v9), (23, .isl 2 ((a0.getD v9.toNat default).map e_QRule) false), (24, .int .i64 (((a0.getD v9.toNat default).map e_QRule).length : Int)), (25, .int .i64 0)]) (L := [((0, 0), .rows 1 (a1.map e_i64)), ((3, 0), .rows 1 (v10.map e_i64))]) (n := 4) ?_ ?_
    · exact simI (M := [((3, 0), (3, 0))]) rfl (And.intro (Vw.mslE rfl (by first | rfl | (simp; done) | (simp only [List.length_map, List.length_replicate, Int.toNat_natCast] at *; omega)) rfl) (And.intro (Vw.mslE rfl (by first | rfl | (simp; done) | (simp only [List.length_map, List.length_replicate, Int.toNat_natCast] at *; omega)) rfl) (And.intro (Vw.same _ rfl) (And.intro (Vw.same _ rfl) (And.intro (Vw.same _ rfl) (And.intro (Vw.same _ rfl) (And.intro (Vw.same _ rfl) (And.intro (Vw.same _ rfl) (And.intro (Vw.same _ rfl) trivial))))))))) (And.intro (And.intro rfl (BVw.enc e_i64 (fun _ => rfl) _ a1)) (And.intro (And.intro rfl (BVw.enc e_i64 (fun _ => rfl) _ v10)) trivial))
    refine blockI ?_
    refine LWp.sim ?_ (f33b0_L12_ok h)
    exact simI (M := [((3, 0), (3, 0))]) rfl (And.intro (Vw.mslE rfl (by first | rfl | (simp; done) | (simp only [List.length_map, List.length_replicate, Int.toNat_natCast] at *; omega)) rfl) (And.intro (Vw.mslE rfl (by first | rfl | (simp; done) | (simp only [List.length_map, List.length_replicate, Int.toNat_natCast] at *; omega)) rfl) (And.intro (Vw.same _ rfl) (And.intro (Vw.same _ rfl) (And.intro (Vw.same _ rfl) (And.intro (Vw.same _ rfl) (And.intro (Vw.same _ rfl) (And.intro (Vw.same _ rfl) (And.intro (Vw.same _ rfl) trivial))))))))) (And.intro (And.intro rfl (BVw.enc e_i64 (fun _ => rfl) _ a1)) (And.intro (And.intro rfl (BVw.enc e_i64 (fun _ => rfl) _ v10)) trivial))
  · have h := ite_ff h114 h
    refine exitI ?_
    obtain ⟨o, hq, rfl⟩ := Option.map_eq_some_iff.1 h
    replace h := hq; clear hq
    refine And.intro nofun ?_
    refine LWp.sim ?_ (f33b0_j22_ok h)
    exact simI (M := [((3, 0), (3, 0))]) rfl (And.intro (Vw.mslE rfl (by first | rfl | (simp; done) | (simp only [List.length_map, List.length_replicate, Int.toNat_natCast] at *; omega)) rfl) trivial) (And.intro (And.intro rfl (BVw.enc e_i64 (fun _ => rfl) _ a1)) (And.intro (And.intro rfl (BVw.enc e_i64 (fun _ => rfl) _ v10)) trivial))

theorem f33b0_L9_ok {a0 : List (List G_QRule)} {a1 : List Int} {v9 : Int} {v10 : List Int} {m : Option Nat} {o : (List Int)} (h : S_glossatorref3_Round_l9 m a0 a1 v9 v10 = some o) :
    LWp Try.prog f33b0_lay 3 (.loop f33b0_c6) (QBlock 0 (QSeq Try.prog f33b0_lay 3 f33b0_c5 (f33b0_Q a0 a1 o))) [(1, .msl (0, 0) 1 0 a1.length true), (5, .msl (3, 0) 1 0 v10.length true), (16, .isl 1 (a0.map e_sl_QRule) false), (17, .int .i64 ((a0.map e_sl_QRule).length : Int)), (18, .int .i64 v9)] [((0, 0), .rows 1 (a1.map e_i64)), ((3, 0), .rows 1 (v10.map e_i64))] 4 :=
  LWp_loopM (m := m) (s := ((v9, v10) : (Int × (List Int)))) (r := o) (fun (s : (Int × (List Int))) => S_glossatorref3_Round_b9 m a0 a1 s.1 s.2) (f33b0_L9_env a0 a1) (f33b0_L9_hp a0 a1) (f33b0_L9_Q a0 a1) (fun s o h => f33b0_L9_bok h) h

noncomputable def S_glossatorref3_Round (m : Option Nat) (a0 : List (List G_QRule)) (a1 : List Int) : Option (List Int) :=
  if (0 : Int) ≤ ((a0.map e_sl_QRule).length : Int) ∧ ((a0.map e_sl_QRule).length : Int) ≤ ((a0.map e_sl_QRule).length : Int) ∧ ((a0.map e_sl_QRule).length : Int) * 8 ≤ 140737488355328 then
  S_glossatorref3_Round_l9 m a0 a1 0 (List.replicate ((a0.map e_sl_QRule).length : Int).toNat 0)
  else none

theorem f33b0_start {a0 : List (List G_QRule)} {a1 : List Int} {m : Option Nat} {o : (List Int)} (h : S_glossatorref3_Round m a0 a1 = some o) : LWp Try.prog f33b0_lay 3 f33b0_c7 (f33b0_Q a0 a1 o) (initEnv 0 [.isl 1 (a0.map e_sl_QRule) false, .msl (0, 0) 1 0 a1.length true]) [((0, 0), .rows 1 (a1.map e_i64))] 3 := by
  unfold S_glossatorref3_Round at h
  refine seqI ?_
  refine LWp.ghost (b := (0, 0)) 1 rfl rfl ?_
  refine regI ?_
  refine LWp.sim (e := [(0, .isl 1 (a0.map e_sl_QRule) false), (1, .msl (0, 0) 1 0 a1.length true)]) (L := [((0, 0), .rows 1 (a1.map e_i64))]) (n := 3) ?_ ?_
  · exact simI (M := []) rfl (And.intro (Vw.same _ rfl) (And.intro (Vw.mslE rfl (by first | rfl | (simp; done) | (simp only [List.length_map, List.length_replicate, Int.toNat_natCast] at *; omega)) rfl) trivial)) (And.intro (And.intro rfl (BVw.enc e_i64 (fun _ => rfl) _ a1)) trivial)
  refine seqI ?_
  refine regI ?_
  obtain ⟨h1, h⟩ := ite_some h
  refine Exists.intro ((List.replicate ((a0.map e_sl_QRule).length : Int).toNat 0).map e_i64) (Exists.intro true (And.intro (Or.inl (repl_enc e_i64 ((a0.map e_sl_QRule).length : Int).toNat 0)) (And.intro (by simp) (And.intro h1 ?_))))
  refine seqI ?_
  refine seqI ?_
  refine regI ?_
  refine blockI ?_
  refine LWp.sim ?_ (f33b0_L9_ok h)
  exact simI (M := [((3, 0), (3, 0))]) rfl (And.intro (Vw.mslE rfl (by first | rfl | (simp; done) | (simp only [List.length_map, List.length_replicate, Int.toNat_natCast] at *; omega)) rfl) (And.intro (Vw.mslE rfl (by first | rfl | (simp; done) | (simp only [List.length_map, List.length_replicate, Int.toNat_natCast] at *; omega)) rfl) (And.intro (Vw.same _ rfl) (And.intro (Vw.same _ rfl) (And.intro (Vw.same _ rfl) trivial))))) (And.intro (And.intro rfl (BVw.enc e_i64 (fun _ => rfl) _ a1)) (And.intro (And.intro rfl (BVw.enc e_i64 (fun _ => rfl) _ (List.replicate ((a0.map e_sl_QRule).length : Int).toNat 0))) trivial))

theorem f33b0_ok {a0 : List (List G_QRule)} {a1 : List Int} {m : Option Nat} {o : (List Int)} (h : S_glossatorref3_Round m a0 a1 = some o) : ACalls Try.prog 33 [.isl 1 (a0.map e_sl_QRule) false, .msl (0, 0) 1 0 a1.length true] [((0, 0), .rows 1 (a1.map e_i64))] 3 (Gives 4 (.msl (3, 0) 1 0 o.length true) [((0, 0), .rows 1 (a1.map e_i64)), ((3, 0), .rows 1 (o.map e_i64))]) := bfn_of (L := f33b0_L) f33b0_low f33b0_fok (Nat.le_of_ble_eq_true rfl) (f33b0_start h)

def f11_c0 : LCode := (.seq (.block 1
  (.seq (.region [⟨some 12, .mv (.t 0), none⟩,
    ⟨some 13, .mv (.t 4), none⟩,
    ⟨some 14, .call 33 [(.t 12), (.t 13)], none⟩,
    ⟨some 6, .mv (.t 14), none⟩])
  (.seq (.seq (.region [⟨some 15, .mv (.t 6), none⟩,
    ⟨some 16, .mv (.t 4), none⟩,
    ⟨some 17, .call 12 [(.t 15), (.t 16)], none⟩])
  (.cond (.t 17)
   (.seq (.region [⟨some 18, .mv (.t 4), none⟩,
     ⟨some 19, .mv (.t 5), none⟩,
     ⟨some 2, .mv (.t 18), none⟩,
     ⟨some 3, .mv (.t 19), none⟩])
   .ret)
   .skip))
  (.region [⟨some 20, .mv (.t 6), none⟩,
    ⟨some 4, .mv (.t 20), none⟩]))))
 (.region [⟨some 10, .mv (.t 5), none⟩,
   ⟨some 11, .bin .add (.t 10) (.c (.int .i64 1)), none⟩,
   ⟨some 5, .mv (.t 11), none⟩]))
def f11_c1 : LCode := (.seq (.region [⟨some 2, .mv (.c (.val (.slice none 0 0))), none⟩,
   ⟨some 3, .mv (.c (.int .i64 0)), none⟩])
 (.seq (.region [⟨some 7, .mv (.t 0), none⟩,
   ⟨some 8, .len false (.t 7), none⟩,
   ⟨some 9, .mkslice false 1 8 [(.int .i64 0)] (.t 8) (.t 8), none⟩,
   ⟨some 4, .mv (.t 9), none⟩])
 (.seq (.region [⟨some 5, .mv (.c (.int .i64 0)), none⟩])
 (.block 0
  (.loop
   f11_c0)))))
def f11_lay : Lay := ⟨21, [9], false⟩
def f11_res : List LRes := [.t 2, .t 3]
def f11_L : LFn := ⟨1, f11_lay, f11_c1, f11_res⟩
theorem f11_low : lowFn Try.prog [9] 11 = some f11_L := by kernel_rfl
theorem f11_fok : FnOk Try.prog 11 := ⟨_, Try.func11, rfl, rfl⟩
def f11_Q (a0 : List (List G_QRule)) (o : (List Int) × Int) : Exit → Env → AHeap → Nat → Prop := FinK f11_res (PureEnd (.tup [.isl 1 (o.1.map e_i64) false, .int .i64 o.2]))

def f11_L1_env (a0 : List (List G_QRule)) (s : (Int × (List Int))) : Env := [(0, .isl 1 (a0.map e_sl_QRule) false), (4, .msl (0, 0) 1 0 s.2.length true), (5, .int .i64 s.1)]
def f11_L1_hp (a0 : List (List G_QRule)) (s : (Int × (List Int))) : AHeap := [((0, 0), .rows 1 (s.2.map e_i64))]
def f11_L1_Q (a0 : List (List G_QRule)) (o : ((List Int) × Int)) : Exit → Env → AHeap → Nat → Prop := (QBlock 0 (f11_Q a0 o))

noncomputable def S_glossatorref3_Kleene_b1 (m : Option Nat) (a0 : List (List G_QRule)) (v3 : Int) (v4 : List Int) : Option ((Int × (List Int)) ⊕ ((List Int) × Int)) :=
  (S_glossatorref3_Round m a0 v4).bind fun v7 =>
  (S_glossatorref3_Equal_int m v7 v4).bind fun v8 =>
  if v8 = true then
    Option.map Sum.inr (
      some (v4, v3))
  else
    some (.inl ((W (v3 + 1)), v7))

noncomputable def S_glossatorref3_Kleene_l1 (m : Option Nat) (a0 : List (List G_QRule)) (v3 : Int) (v4 : List Int) : Option ((List Int) × Int) := loopM m (fun (s : (Int × (List Int))) => S_glossatorref3_Kleene_b1 m a0 s.1 s.2) (v3, v4)

theorem f11_L1_bok {a0 : List (List G_QRule)} {v3 : Int} {v4 : List Int} {m : Option Nat} {o : (Int × (List Int)) ⊕ ((List Int) × Int)} (h : S_glossatorref3_Kleene_b1 m a0 v3 v4 = some o) :
    LWp Try.prog f11_lay 0 f11_c0 (BodyQ 0 1 (f11_L1_env a0) (f11_L1_hp a0) (f11_L1_Q a0) o) [(0, .isl 1 (a0.map e_sl_QRule) false), (4, .msl (0, 0) 1 0 v4.length true), (5, .int .i64 v3)] [((0, 0), .rows 1 (v4.map e_i64))] 1 := by
  unfold S_glossatorref3_Kleene_b1 at h
  refine seqI ?_
  refine blockI ?_
  refine seqI ?_
  refine regI ?_
  obtain ⟨v7, h8, h⟩ := bind_some h
  refine bcall (k := 3) (m := 1) (L' := [((0, 0), .rows 1 (v4.map e_i64)), ((1, 0), .rows 1 (v7.map e_i64))]) (rest := []) (R' := .msl (1, 0) 1 0 v7.length true) [((0, 0), (0, 0))] (f33b0_ok h8) rfl rfl rfl (And.intro (Vw.same _ rfl) (And.intro (Vw.mslE rfl (by first | rfl | (simp; done) | (simp only [List.length_map, List.length_replicate, Int.toNat_natCast] at *; omega)) rfl) trivial)) (And.intro (h0I (0, 0) rfl rfl (BVw.enc e_i64 (fun _ => rfl) _ v4)) trivial) rfl (And.intro rfl (And.intro (rows_ren e_i64 (fun _ => rfl) _ _) (And.intro rfl (And.intro (rows_ren e_i64 (fun _ => rfl) _ _) trivial)))) rfl ?_
  refine seqI ?_
  refine seqI ?_
  refine regI ?_
  obtain ⟨v8, h9, h⟩ := bind_some h
  refine PFn.readB [(1, 0), (0, 0)] (f12_ok h9) rfl (And.intro (Vw.frzB e_i64 e_i64_ok (fun h => Bool.noConfusion h) rfl rfl (by first | rfl | (simp; done) | (simp only [List.length_map, List.length_replicate, Int.toNat_natCast] at *; omega))) (And.intro (Vw.frzB e_i64 e_i64_ok (fun h => Bool.noConfusion h) rfl rfl (by first | rfl | (simp; done) | (simp only [List.length_map, List.length_replicate, Int.toNat_natCast] at *; omega))) trivial)) ?_
  show yops _ _ _ [(17, .bool v8), (16, .msl (0, 0) 1 0 v4.length true), (15, .msl (1, 0) 1 0 v7.length true), (6, .msl (1, 0) 1 0 v7.length true), (14, .msl (1, 0) 1 0 v7.length true), (13, .msl (0, 0) 1 0 v4.length true), (12, .isl 1 (a0.map e_sl_QRule) false), (0, .isl 1 (a0.map e_sl_QRule) false), (4, .msl (0, 0) 1 0 v4.length true), (5, .int .i64 v3)] _ _
  refine condI (v := v8) rfl trivial (fun h10 => ?_) (fun h10 => ?_)
  · have h := ite_tt h10 h
    refine seqI ?_
    refine regI ?_
    refine LWp.sim (e := [(2, .msl (0, 0) 1 0 v4.length true), (3, .int .i64 v3)]) (L := [((0, 0), .rows 1 (v4.map e_i64))]) (n := 1) ?_ ?_
    · exact simI (M := [((0, 0), (0, 0))]) rfl (And.intro (Vw.mslE rfl (by first | rfl | (simp; done) | (simp only [List.length_map, List.length_replicate, Int.toNat_natCast] at *; omega)) rfl) (And.intro (Vw.same _ rfl) trivial)) (And.intro (And.intro rfl (BVw.enc e_i64 (fun _ => rfl) _ v4)) trivial)
    refine retI ?_
    obtain ⟨o, hq, rfl⟩ := Option.map_eq_some_iff.1 h
    replace h := hq; clear hq
    refine And.intro nofun ?_
    cases h
    exact And.intro trivial (And.intro trivial (And.intro rfl (Vw.tupL (And.intro (Vw.frzB e_i64 e_i64_ok (fun h => Bool.noConfusion h) rfl rfl (by first | rfl | (simp; done) | (simp only [List.length_map, List.length_replicate, Int.toNat_natCast] at *; omega))) (And.intro (Vw.same _ rfl) trivial)))))
  · have h := ite_ff h10 h
    refine skipI ?_
    refine regI ?_
    refine LWp.sim (e := [(0, .isl 1 (a0.map e_sl_QRule) false), (4, .msl (0, 0) 1 0 v7.length true), (5, .int .i64 v3)]) (L := [((0, 0), .rows 1 (v7.map e_i64))]) (n := 1) ?_ ?_
    · exact simI (M := [((0, 0), (1, 0))]) rfl (And.intro (Vw.same _ rfl) (And.intro (Vw.mslE rfl (by first | rfl | (simp; done) | (simp only [List.length_map, List.length_replicate, Int.toNat_natCast] at *; omega)) rfl) (And.intro (Vw.same _ rfl) trivial))) (And.intro (And.intro rfl (BVw.enc e_i64 (fun _ => rfl) _ v7)) trivial)
    refine regI ?_
    cases h
    exact And.intro rfl (simI (M := [((0, 0), (0, 0))]) rfl (And.intro (Vw.same _ rfl) (And.intro (Vw.mslE rfl (by first | rfl | (simp; done) | (simp only [List.length_map, List.length_replicate, Int.toNat_natCast] at *; omega)) rfl) (And.intro (Vw.same _ rfl) trivial))) (And.intro (And.intro rfl (BVw.enc e_i64 (fun _ => rfl) _ v7)) trivial))

theorem f11_L1_ok {a0 : List (List G_QRule)} {v3 : Int} {v4 : List Int} {m : Option Nat} {o : ((List Int) × Int)} (h : S_glossatorref3_Kleene_l1 m a0 v3 v4 = some o) :
    LWp Try.prog f11_lay 0 (.loop f11_c0) (QBlock 0 (f11_Q a0 o)) [(0, .isl 1 (a0.map e_sl_QRule) false), (4, .msl (0, 0) 1 0 v4.length true), (5, .int .i64 v3)] [((0, 0), .rows 1 (v4.map e_i64))] 1 :=
  LWp_loopM (m := m) (s := ((v3, v4) : (Int × (List Int)))) (r := o) (fun (s : (Int × (List Int))) => S_glossatorref3_Kleene_b1 m a0 s.1 s.2) (f11_L1_env a0) (f11_L1_hp a0) (f11_L1_Q a0) (fun s o h => f11_L1_bok h) h

noncomputable def S_glossatorref3_Kleene (m : Option Nat) (a0 : List (List G_QRule)) : Option ((List Int) × Int) :=
  if (0 : Int) ≤ ((a0.map e_sl_QRule).length : Int) ∧ ((a0.map e_sl_QRule).length : Int) ≤ ((a0.map e_sl_QRule).length : Int) ∧ ((a0.map e_sl_QRule).length : Int) * 8 ≤ 140737488355328 then
  S_glossatorref3_Kleene_l1 m a0 0 (List.replicate ((a0.map e_sl_QRule).length : Int).toNat 0)
  else none

theorem f11_start {a0 : List (List G_QRule)} {m : Option Nat} {o : (List Int) × Int} (h : S_glossatorref3_Kleene m a0 = some o) : LWp Try.prog f11_lay 0 f11_c1 (f11_Q a0 o) (initEnv 0 [.isl 1 (a0.map e_sl_QRule) false]) [] 0 := by
  unfold S_glossatorref3_Kleene at h
  refine seqI ?_
  refine regI ?_
  refine seqI ?_
  refine regI ?_
  obtain ⟨h1, h⟩ := ite_some h
  refine Exists.intro ((List.replicate ((a0.map e_sl_QRule).length : Int).toNat 0).map e_i64) (Exists.intro true (And.intro (Or.inl (repl_enc e_i64 ((a0.map e_sl_QRule).length : Int).toNat 0)) (And.intro (by simp) (And.intro h1 ?_))))
  refine seqI ?_
  refine regI ?_
  refine blockI ?_
  refine LWp.sim ?_ (f11_L1_ok h)
  exact simI (M := [((0, 0), (0, 0))]) rfl (And.intro (Vw.same _ rfl) (And.intro (Vw.mslE rfl (by first | rfl | (simp; done) | (simp only [List.length_map, List.length_replicate, Int.toNat_natCast] at *; omega)) rfl) (And.intro (Vw.same _ rfl) trivial))) (And.intro (And.intro rfl (BVw.enc e_i64 (fun _ => rfl) _ (List.replicate ((a0.map e_sl_QRule).length : Int).toNat 0))) trivial)

theorem f11_ok {a0 : List (List G_QRule)} {m : Option Nat} {o : (List Int) × Int} (h : S_glossatorref3_Kleene m a0 = some o) : PFn Try.prog 11 [.isl 1 (a0.map e_sl_QRule) false] (.tup [.isl 1 (o.1.map e_i64) false, .int .i64 o.2]) := PFn.ofFnW (L := f11_L) f11_low f11_fok (Nat.le_of_ble_eq_true rfl) rfl (f11_start h)

def f3_c0 : LCode := (.seq (.region [⟨some 2, .mv (.c (.bool false)), none⟩])
 (.seq (.seq (.region [⟨some 10, .call 6 [], none⟩,
   ⟨some 11, .un .not (.t 10), none⟩])
 (.cond (.t 11)
  (.seq (.region [⟨some 2, .mv (.c (.bool false)), none⟩])
  .ret)
  .skip))
 (.seq (.region [⟨some 13, .mv (.t 0), none⟩,
   ⟨some 14, .call 7 [(.t 13)], none⟩,
   ⟨some 12, .mv (.t 14), none⟩,
   ⟨some 15, .ext 0 (.t 12), none⟩,
   ⟨some 16, .ext 1 (.t 12), none⟩,
   ⟨some 3, .mv (.t 15), none⟩,
   ⟨some 4, .mv (.t 16), none⟩])
 (.seq (.region [⟨some 18, .mv (.t 0), none⟩,
   ⟨some 19, .call 8 [(.t 18)], none⟩,
   ⟨some 17, .mv (.t 19), none⟩,
   ⟨some 20, .ext 0 (.t 17), none⟩,
   ⟨some 21, .ext 1 (.t 17), none⟩,
   ⟨some 5, .mv (.t 20), none⟩,
   ⟨some 6, .mv (.t 21), none⟩])
 (.seq (.region [⟨some 22, .mv (.t 0), none⟩,
   ⟨some 23, .call 9 [(.t 22)], none⟩,
   ⟨some 7, .mv (.t 23), none⟩])
 (.seq (.seq (.region [⟨some 24, .mv (.t 0), none⟩,
   ⟨some 25, .call 10 [(.t 24)], none⟩,
   ⟨some 26, .mv (.t 7), none⟩,
   ⟨some 27, .bin .neq (.t 25) (.t 26), none⟩,
   ⟨some 28, .mv (.t 27), none⟩,
   ⟨some 29, .mv (.t 4), some (28, false)⟩,
   ⟨some 30, .mv (.t 7), some (28, false)⟩,
   ⟨some 31, .bin .neq (.t 29) (.t 30), some (28, false)⟩,
   ⟨some 32, .pick (.t 28) (.c (.bool true)) (.t 31), none⟩,
   ⟨some 33, .mv (.t 32), none⟩,
   ⟨some 34, .mv (.t 6), some (33, false)⟩,
   ⟨some 35, .mv (.t 7), some (33, false)⟩,
   ⟨some 36, .bin .neq (.t 34) (.t 35), some (33, false)⟩,
   ⟨some 37, .pick (.t 33) (.c (.bool true)) (.t 36), none⟩])
 (.cond (.t 37)
  (.seq (.region [⟨some 2, .mv (.c (.bool false)), none⟩])
  .ret)
  .skip))
 (.seq (.seq (.region [⟨some 38, .mv (.t 7), none⟩,
   ⟨some 39, .bin .neq (.t 38) (.c (.int .i64 0)), none⟩])
 (.cond (.t 39)
  (.seq (.region [⟨some 40, .call 6 [], none⟩,
    ⟨some 41, .mv (.t 40), none⟩,
    ⟨some 42, .mv (.t 3), some (41, true)⟩,
    ⟨some 43, .len false (.t 42), some (41, true)⟩,
    ⟨some 44, .bin .eql (.t 43) (.c (.int .i64 0)), some (41, true)⟩,
    ⟨some 45, .pick (.t 41) (.t 44) (.c (.bool false)), none⟩,
    ⟨some 46, .mv (.t 45), none⟩,
    ⟨some 47, .mv (.t 5), some (46, true)⟩,
    ⟨some 48, .bin .eql (.t 47) (.c (.int .i64 0)), some (46, true)⟩,
    ⟨some 49, .pick (.t 46) (.t 48) (.c (.bool false)), none⟩,
    ⟨some 2, .mv (.t 49), none⟩])
  .ret)
  .skip))
 (.seq (.region [⟨some 51, .mv (.t 0), none⟩,
   ⟨some 52, .call 11 [(.t 51)], none⟩,
   ⟨some 50, .mv (.t 52), none⟩,
   ⟨some 53, .ext 0 (.t 50), none⟩,
   ⟨some 54, .ext 1 (.t 50), none⟩,
   ⟨some 8, .mv (.t 53), none⟩,
   ⟨some 9, .mv (.t 54), none⟩])
 (.seq (.region [⟨some 55, .call 6 [], none⟩,
   ⟨some 56, .mv (.t 55), none⟩,
   ⟨some 57, .mv (.t 3), some (56, true)⟩,
   ⟨some 58, .mv (.t 8), some (56, true)⟩,
   ⟨some 59, .call 12 [(.t 57), (.t 58)], some (56, true)⟩,
   ⟨some 60, .pick (.t 56) (.t 59) (.c (.bool false)), none⟩,
   ⟨some 61, .mv (.t 60), none⟩,
   ⟨some 62, .mv (.t 5), some (61, true)⟩,
   ⟨some 63, .mv (.t 9), some (61, true)⟩,
   ⟨some 64, .bin .eql (.t 62) (.t 63), some (61, true)⟩,
   ⟨some 65, .pick (.t 61) (.t 64) (.c (.bool false)), none⟩,
   ⟨some 2, .mv (.t 65), none⟩])
 .ret)))))))))
def f3_lay : Lay := ⟨66, [], false⟩
def f3_res : List LRes := [.t 2]
def f3_L : LFn := ⟨1, f3_lay, f3_c0, f3_res⟩
theorem f3_low : lowFn Try.prog [] 3 = some f3_L := by kernel_rfl
theorem f3_fok : FnOk Try.prog 3 := ⟨_, Try.func3, rfl, rfl⟩
noncomputable def S_glossatorlaw3_FixpointLeast (m : Option Nat) (a0 : List (List G_QRule)) : Option Bool :=
  (S_glossatorlaw3_ruleExample (some 4096)).bind fun v1 =>
  if (!v1) = true then
    some false
  else
    (S_fixpoint_Least m a0).bind fun v2 =>
    (S_fixpoint_Rounds m a0).bind fun v3 =>
    (S_glossatorref3_CheckRules m a0).bind fun v4 =>
    (S_fixpoint_Check m a0).bind fun v5 =>
    if (((v5 != v4) || (v2.2 != v4)) || (v3.2 != v4)) = true then
      some false
    else
      if (v4 != 0) = true then
        (S_glossatorlaw3_ruleExample (some 4096)).bind fun v6 =>
        some ((v6 && (((v2.1.map e_i64).length : Int) == 0)) && (v3.1 == 0))
      else
        (S_glossatorref3_Kleene m a0).bind fun v7 =>
        (S_glossatorlaw3_ruleExample (some 4096)).bind fun v8 =>
        (if (v8 == true) = true then S_glossatorref3_Equal_int m v2.1 v7.1 else some default).bind fun v9 =>
        some ((v8 && v9) && (v3.1 == v7.2))

def f3_Q (a0 : List (List G_QRule)) (o : Bool) : Exit → Env → AHeap → Nat → Prop := FinK f3_res (PureEnd (.bool o))

theorem f3_start {a0 : List (List G_QRule)} {m : Option Nat} {o : Bool} (h : S_glossatorlaw3_FixpointLeast m a0 = some o) : LWp Try.prog f3_lay 0 f3_c0 (f3_Q a0 o) (initEnv 0 [.isl 1 (a0.map e_sl_QRule) false]) [] 0 := by
  unfold S_glossatorlaw3_FixpointLeast at h
  refine seqI ?_
  refine regI ?_
  refine seqI ?_
  refine seqI ?_
  refine regI ?_
  obtain ⟨v1, h1, h⟩ := bind_some h
  refine PFn.call (f6_ok h1) trivial ?_
  refine condI (v := (!v1)) rfl trivial (fun h2 => ?_) (fun h2 => ?_)
  · have h := ite_tt h2 h
    refine seqI ?_
    refine regI ?_
    refine retI ?_
    cases h
    exact And.intro trivial (And.intro rfl (Vw.same _ rfl))
  · have h := ite_ff h2 h
    refine skipI ?_
    refine seqI ?_
    refine regI ?_
    obtain ⟨v2, h3, h⟩ := bind_some h
    refine PFn.call (f7_ok h3) (And.intro (Vw.same _ rfl) trivial) ?_
    show yops _ _ _ [(14, .tup [.isl 1 (v2.1.map e_i64) false, .int .i64 v2.2]), (13, .isl 1 (a0.map e_sl_QRule) false), (11, .bool (!v1)), (10, .bool v1), (2, .bool false), (0, .isl 1 (a0.map e_sl_QRule) false)] _ _
    refine LWp.sim (e := [(0, .isl 1 (a0.map e_sl_QRule) false), (3, .isl 1 (v2.1.map e_i64) false), (4, .int .i64 v2.2)]) (L := []) (n := 0) ?_ ?_
    · exact simI (M := []) rfl (And.intro (Vw.same _ rfl) (And.intro (Vw.same _ rfl) (And.intro (Vw.same _ rfl) trivial))) trivial
    refine seqI ?_
    refine regI ?_
    obtain ⟨v3, h4, h⟩ := bind_some h
    refine PFn.call (f8_ok h4) (And.intro (Vw.same _ rfl) trivial) ?_
    refine seqI ?_
    refine regI ?_
    obtain ⟨v4, h5, h⟩ := bind_some h
    refine PFn.call (f9_ok h5) (And.intro (Vw.same _ rfl) trivial) ?_
    show yops _ _ _ [(23, .int .i64 v4), (22, .isl 1 (a0.map e_sl_QRule) false), (6, .int .i64 v3.2), (5, .int .i64 v3.1), (21, .int .i64 v3.2), (20, .int .i64 v3.1), (17, .tup [.int .i64 v3.1, .int .i64 v3.2]), (19, .tup [.int .i64 v3.1, .int .i64 v3.2]), (18, .isl 1 (a0.map e_sl_QRule) false), (0, .isl 1 (a0.map e_sl_QRule) false), (3, .isl 1 (v2.1.map e_i64) false), (4, .int .i64 v2.2)] _ _
    refine LWp.sim (e := [(0, .isl 1 (a0.map e_sl_QRule) false), (3, .isl 1 (v2.1.map e_i64) false), (4, .int .i64 v2.2), (5, .int .i64 v3.1), (6, .int .i64 v3.2), (7, .int .i64 v4)]) (L := []) (n := 0) ?_ ?_
    · exact simI (M := []) rfl (And.intro (Vw.same _ rfl) (And.intro (Vw.same _ rfl) (And.intro (Vw.same _ rfl) (And.intro (Vw.same _ rfl) (And.intro (Vw.same _ rfl) (And.intro (Vw.same _ rfl) trivial)))))) trivial
    refine seqI ?_
    refine seqI ?_
    refine regI ?_
    obtain ⟨v5, h6, h⟩ := bind_some h
    refine PFn.call (f10_ok h6) (And.intro (Vw.same _ rfl) trivial) ?_
    refine And.intro (fun hp => (And.intro hp hp)) ?_
    show yops _ _ _ [(31, .cnd ((v5 != v4) == false) (.bool (v2.2 != v4))), (30, .cnd ((v5 != v4) == false) (.int .i64 v4)), (29, .cnd ((v5 != v4) == false) (.int .i64 v2.2)), (28, .bool (v5 != v4)), (27, .bool (v5 != v4)), (26, .int .i64 v4), (25, .int .i64 v5), (24, .isl 1 (a0.map e_sl_QRule) false), (0, .isl 1 (a0.map e_sl_QRule) false), (3, .isl 1 (v2.1.map e_i64) false), (4, .int .i64 v2.2), (5, .int .i64 v3.1), (6, .int .i64 v3.2), (7, .int .i64 v4)] _ _
    refine And.intro (fun hc => (bqf hc)) ?_
    refine And.intro (fun hp => (And.intro hp hp)) ?_
    show yops _ _ _ [(36, .cnd (((v5 != v4) || (v2.2 != v4)) == false) (.bool (v3.2 != v4))), (35, .cnd (((v5 != v4) || (v2.2 != v4)) == false) (.int .i64 v4)), (34, .cnd (((v5 != v4) || (v2.2 != v4)) == false) (.int .i64 v3.2)), (33, .bool ((v5 != v4) || (v2.2 != v4))), (32, .bool ((v5 != v4) || (v2.2 != v4))), (31, .cnd ((v5 != v4) == false) (.bool (v2.2 != v4))), (30, .cnd ((v5 != v4) == false) (.int .i64 v4)), (29, .cnd ((v5 != v4) == false) (.int .i64 v2.2)), (28, .bool (v5 != v4)), (27, .bool (v5 != v4)), (26, .int .i64 v4), (25, .int .i64 v5), (24, .isl 1 (a0.map e_sl_QRule) false), (0, .isl 1 (a0.map e_sl_QRule) false), (3, .isl 1 (v2.1.map e_i64) false), (4, .int .i64 v2.2), (5, .int .i64 v3.1), (6, .int .i64 v3.2), (7, .int .i64 v4)] _ _
    refine And.intro (fun hc => (bqf hc)) ?_
    refine LWp.sim (e := [(0, .isl 1 (a0.map e_sl_QRule) false), (3, .isl 1 (v2.1.map e_i64) false), (5, .int .i64 v3.1), (7, .int .i64 v4), (37, .bool (((v5 != v4) || (v2.2 != v4)) || (v3.2 != v4)))]) (L := []) (n := 0) ?_ ?_
    · exact simI (M := []) rfl (And.intro (Vw.same _ rfl) (And.intro (Vw.same _ rfl) (And.intro (Vw.same _ rfl) (And.intro (Vw.same _ rfl) (And.intro (Vw.same _ rfl) trivial))))) trivial
    refine condI (v := (((v5 != v4) || (v2.2 != v4)) || (v3.2 != v4))) rfl trivial (fun h7 => ?_) (fun h7 => ?_)
    · have h := ite_tt h7 h
      refine seqI ?_
      refine regI ?_
      refine retI ?_
      cases h
      exact And.intro trivial (And.intro rfl (Vw.same _ rfl))
    · have h := ite_ff h7 h
      refine skipI ?_
      refine seqI ?_
      refine seqI ?_
      refine regI ?_
      refine condI (v := (v4 != 0)) rfl trivial (fun h8 => ?_) (fun h8 => ?_)
      · have h := ite_tt h8 h
        refine seqI ?_
        refine regI ?_
        obtain ⟨v6, h9, h⟩ := bind_some h
        refine PFn.call (f6_ok h9) trivial ?_
        refine And.intro (fun hp => hp) ?_
        show yops _ _ _ [(43, .cnd (v6 == true) (.int .i64 ((v2.1.map e_i64).length : Int))), (42, .cnd (v6 == true) (.isl 1 (v2.1.map e_i64) false)), (41, .bool v6), (40, .bool v6), (39, .bool (v4 != 0)), (38, .int .i64 v4), (0, .isl 1 (a0.map e_sl_QRule) false), (3, .isl 1 (v2.1.map e_i64) false), (5, .int .i64 v3.1), (7, .int .i64 v4), (37, .bool (((v5 != v4) || (v2.2 != v4)) || (v3.2 != v4)))] _ _
        refine And.intro (fun hp => hp) ?_
        refine And.intro (fun hc => (bqt hc)) ?_
        refine And.intro (fun hp => hp) ?_
        show yops _ _ _ [(48, .cnd ((v6 && (((v2.1.map e_i64).length : Int) == 0)) == true) (.bool (v3.1 == 0))), (47, .cnd ((v6 && (((v2.1.map e_i64).length : Int) == 0)) == true) (.int .i64 v3.1)), (46, .bool (v6 && (((v2.1.map e_i64).length : Int) == 0))), (45, .bool (v6 && (((v2.1.map e_i64).length : Int) == 0))), (44, .cnd (v6 == true) (.bool (((v2.1.map e_i64).length : Int) == 0))), (43, .cnd (v6 == true) (.int .i64 ((v2.1.map e_i64).length : Int))), (42, .cnd (v6 == true) (.isl 1 (v2.1.map e_i64) false)), (41, .bool v6), (40, .bool v6), (39, .bool (v4 != 0)), (38, .int .i64 v4), (0, .isl 1 (a0.map e_sl_QRule) false), (3, .isl 1 (v2.1.map e_i64) false), (5, .int .i64 v3.1), (7, .int .i64 v4), (37, .bool (((v5 != v4) || (v2.2 != v4)) || (v3.2 != v4)))] _ _
        refine And.intro (fun hc => (bqt hc)) ?_
        refine LWp.sim (e := [(2, .bool ((v6 && (((v2.1.map e_i64).length : Int) == 0)) && (v3.1 == 0)))]) (L := []) (n := 0) ?_ ?_
        · exact simI (M := []) rfl (And.intro (Vw.same _ rfl) trivial) trivial
        refine retI ?_
        cases h
        exact And.intro trivial (And.intro rfl (Vw.same _ rfl))
      · have h := ite_ff h8 h
        refine skipI ?_
        refine seqI ?_
        refine regI ?_
        obtain ⟨v7, h10, h⟩ := bind_some h
        refine PFn.call (f11_ok h10) (And.intro (Vw.same _ rfl) trivial) ?_
        refine LWp.sim (e := [(3, .isl 1 (v2.1.map e_i64) false), (5, .int .i64 v3.1), (8, .isl 1 (v7.1.map e_i64) false), (9, .int .i64 v7.2)]) (L := []) (n := 0) ?_ ?_
        · exact simI (M := []) rfl (And.intro (Vw.same _ rfl) (And.intro (Vw.same _ rfl) (And.intro (Vw.same _ rfl) (And.intro (Vw.same _ rfl) trivial)))) trivial
        refine seqI ?_
        refine regI ?_
        obtain ⟨v8, h11, h⟩ := bind_some h
        refine PFn.call (f6_ok h11) trivial ?_
        obtain ⟨v9, h12, h⟩ := bind_some h
        refine Or.inl (Exists.intro (.bool v9) (And.intro (fun hp => And.intro (And.intro hp hp) (PFn.call (f12_ok (ite_tt hp h12)) (And.intro (Vw.same _ rfl) (And.intro (Vw.same _ rfl) trivial)) (And.intro rfl (And.intro rfl rfl)))) ?_))
        refine And.intro (fun hc => (bqt hc)) ?_
        show yops _ _ _ [(60, .bool (v8 && v9)), (59, .cnd (v8 == true) (.bool v9)), (58, .cnd (v8 == true) (.isl 1 (v7.1.map e_i64) false)), (57, .cnd (v8 == true) (.isl 1 (v2.1.map e_i64) false)), (56, .bool v8), (55, .bool v8), (3, .isl 1 (v2.1.map e_i64) false), (5, .int .i64 v3.1), (8, .isl 1 (v7.1.map e_i64) false), (9, .int .i64 v7.2)] _ _
        refine And.intro (fun hp => (And.intro hp hp)) ?_
        refine And.intro (fun hc => (bqt hc)) ?_
        show yops _ _ _ [(65, .bool ((v8 && v9) && (v3.1 == v7.2))), (64, .cnd ((v8 && v9) == true) (.bool (v3.1 == v7.2))), (63, .cnd ((v8 && v9) == true) (.int .i64 v7.2)), (62, .cnd ((v8 && v9) == true) (.int .i64 v3.1)), (61, .bool (v8 && v9)), (60, .bool (v8 && v9)), (59, .cnd (v8 == true) (.bool v9)), (58, .cnd (v8 == true) (.isl 1 (v7.1.map e_i64) false)), (57, .cnd (v8 == true) (.isl 1 (v2.1.map e_i64) false)), (56, .bool v8), (55, .bool v8), (3, .isl 1 (v2.1.map e_i64) false), (5, .int .i64 v3.1), (8, .isl 1 (v7.1.map e_i64) false), (9, .int .i64 v7.2)] _ _
        refine LWp.sim (e := [(2, .bool ((v8 && v9) && (v3.1 == v7.2)))]) (L := []) (n := 0) ?_ ?_
        · exact simI (M := []) rfl (And.intro (Vw.same _ rfl) trivial) trivial
        refine retI ?_
        cases h
        exact And.intro trivial (And.intro rfl (Vw.same _ rfl))

theorem f3_ok {a0 : List (List G_QRule)} {m : Option Nat} {o : Bool} (h : S_glossatorlaw3_FixpointLeast m a0 = some o) : PFn Try.prog 3 [.isl 1 (a0.map e_sl_QRule) false] (.bool o) := PFn.ofFnW (L := f3_L) f3_low f3_fok (Nat.le_of_ble_eq_true rfl) rfl (f3_start h)
end Go.Proofs.Ytjcckmpeflflbaa
