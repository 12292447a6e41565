/-
  Own text GenB of this claim: what functions of the given program compute, in plain Lean, and the proof; no condition.
-/
import Derived.Test.YtjbndlijmgnpnaaGenA
namespace Go.Proofs.Ytjbndlijmgnpnaa
open Go.Fx
set_option linter.unusedVariables false
def f9_c1 : LCode := (.seq (.region [⟨some 26, .bin .lss (.t 25) (.t 24), none⟩])
 (.seq (.cond (.t 26)
  .skip
  (.exit 0))
 (.seq (.block 1
  (.seq (.region [⟨some 27, .iaddr 1 (.t 23) (.t 25), none⟩,
    ⟨some 28, .load false 1 (.t 27), none⟩,
    ⟨some 5, .mv (.t 28), none⟩])
  (.region [⟨some 29, .mv (.t 3), none⟩,
    ⟨some 30, .mv (.t 29), none⟩,
    ⟨some 31, .mv (.t 5), some (30, false)⟩,
    ⟨some 32, .len false (.t 31), some (30, false)⟩,
    ⟨some 33, .bin .gtr (.t 32) (.c (.int .i64 20)), some (30, false)⟩,
    ⟨some 34, .pick (.t 30) (.c (.bool true)) (.t 33), none⟩,
    ⟨some 3, .mv (.t 34), none⟩])))
 (.region [⟨some 35, .bin .add (.t 25) (.c (.int .i64 1)), none⟩,
   ⟨some 25, .mv (.t 35), none⟩]))))
def f9_c4 : LCode := (.seq (.region [⟨some 51, .bin .lss (.t 50) (.t 49), none⟩])
 (.seq (.cond (.t 51)
  .skip
  (.exit 4))
 (.seq (.block 5
  (.seq (.region [⟨some 52, .iaddr 3 (.t 48) (.t 50), none⟩,
    ⟨some 53, .load true 3 (.t 52), none⟩,
    ⟨some 10, .alloc [(.int .i64 0), (.int .i64 0), (.int .i64 0)], none⟩,
    ⟨none, .store 3 (.t 10) (.t 53), none⟩])
  (.seq (.seq (.region [⟨some 54, .faddr 0 (.t 10), none⟩,
    ⟨some 55, .load false 1 (.t 54), none⟩,
    ⟨some 56, .bin .lss (.t 55) (.c (.int .i64 1)), none⟩,
    ⟨some 57, .mv (.t 56), none⟩,
    ⟨some 58, .faddr 0 (.t 10), some (57, false)⟩,
    ⟨some 59, .load false 1 (.t 58), some (57, false)⟩,
    ⟨some 60, .bin .gtr (.t 59) (.c (.int .i64 11)), some (57, false)⟩,
    ⟨some 61, .pick (.t 57) (.c (.bool true)) (.t 60), none⟩])
  (.cond (.t 61)
   (.seq (.region [⟨some 2, .mv (.c (.int .i64 7)), none⟩])
   .ret)
   .skip))
  (.seq (.region [⟨some 63, .load true 2 (.t 1), none⟩,
    ⟨some 64, .mv (.t 6), none⟩,
    ⟨some 65, .load true 3 (.t 10), none⟩,
    ⟨some 66, .call 27 [(.t 63), (.t 64), (.t 65)], none⟩,
    ⟨some 62, .mv (.t 66), none⟩,
    ⟨some 67, .ext 0 (.t 62), none⟩,
    ⟨some 68, .ext 1 (.t 62), none⟩,
    ⟨some 11, .mv (.t 67), none⟩,
    ⟨some 12, .mv (.t 68), none⟩])
  (.seq (.seq (.region [⟨some 69, .mv (.t 12), none⟩,
    ⟨some 70, .un .not (.t 69), none⟩,
    ⟨some 71, .mv (.t 70), none⟩,
    ⟨some 72, .mv (.t 11), some (71, false)⟩,
    ⟨some 73, .mv (.t 8), some (71, false)⟩,
    ⟨some 74, .bin .gtr (.t 72) (.t 73), some (71, false)⟩,
    ⟨some 75, .pick (.t 71) (.c (.bool true)) (.t 74), none⟩])
  (.cond (.t 75)
   (.seq (.region [⟨some 2, .mv (.c (.int .i64 3)), none⟩])
   .ret)
   .skip))
  (.region [⟨some 76, .mv (.t 8), none⟩,
    ⟨some 77, .mv (.t 11), none⟩,
    ⟨some 78, .bin .sub (.t 76) (.t 77), none⟩,
    ⟨some 79, .bin .add (.t 78) (.c (.int .i64 1)), none⟩,
    ⟨some 8, .mv (.t 79), none⟩]))))))
 (.region [⟨some 80, .bin .add (.t 50) (.c (.int .i64 1)), none⟩,
   ⟨some 50, .mv (.t 80), none⟩]))))
def f9_c2 : LCode := (.seq (.region [⟨some 81, .mv (.t 8), none⟩,
   ⟨some 82, .bin .neq (.t 81) (.c (.int .i64 1)), none⟩])
 (.cond (.t 82)
  (.seq (.region [⟨some 2, .mv (.c (.int .i64 3)), none⟩])
  .ret)
  .skip))
def f9_c3 : LCode := (.region [⟨some 83, .bin .add (.t 43) (.c (.int .i64 1)), none⟩,
   ⟨some 43, .mv (.t 83), none⟩])
def f9_c6 : LCode := (.seq (.region [⟨some 44, .bin .lss (.t 43) (.t 42), none⟩])
 (.seq (.cond (.t 44)
  .skip
  (.exit 2))
 (.seq (.block 3
  (.seq (.region [⟨some 45, .mv (.t 43), none⟩,
    ⟨some 46, .iaddr 1 (.t 41) (.t 43), none⟩,
    ⟨some 47, .load false 1 (.t 46), none⟩,
    ⟨some 6, .mv (.t 45), none⟩,
    ⟨some 7, .mv (.t 47), none⟩])
  (.seq (.region [⟨some 8, .mv (.c (.int .i64 0)), none⟩])
  (.seq (.seq (.region [⟨some 48, .mv (.t 7), none⟩,
    ⟨some 49, .len false (.t 48), none⟩,
    ⟨some 50, .mv (.c (.int .i64 0)), none⟩])
  (.block 4
   (.loop
    f9_c4)))
  f9_c2))))
 f9_c3)))
def f9_c5 : LCode := (.seq (.region [⟨some 2, .mv (.c (.int .i64 0)), none⟩])
 .ret)
def f9_c0 : LCode := (.seq (.seq (.region [⟨some 36, .mv (.t 3), none⟩])
 (.cond (.t 36)
  (.seq (.region [⟨some 2, .mv (.c (.int .i64 2)), none⟩])
  .ret)
  .skip))
 (.seq (.seq (.region [⟨some 37, .faddr 0 (.t 1), none⟩,
   ⟨some 38, .load false 1 (.t 37), none⟩,
   ⟨some 39, .bin .lss (.t 38) (.c (.int .i64 0)), none⟩])
 (.cond (.t 39)
  (.seq (.region [⟨some 2, .mv (.c (.int .i64 1)), none⟩])
  .ret)
  .skip))
 (.seq (.seq (.region [⟨some 40, .faddr 1 (.t 1), none⟩,
   ⟨some 41, .load false 1 (.t 40), none⟩,
   ⟨some 42, .len false (.t 41), none⟩,
   ⟨some 43, .mv (.c (.int .i64 0)), none⟩])
 (.block 2
  (.loop
   f9_c6)))
 f9_c5)))
def f9_c7 : LCode := (.seq (.region [⟨some 1, .box (.t 0), none⟩,
   ⟨some 2, .mv (.c (.int .i64 0)), none⟩])
 (.seq (.region [⟨some 13, .faddr 0 (.t 1), none⟩,
   ⟨some 14, .load false 1 (.t 13), none⟩,
   ⟨some 15, .bin .gtr (.t 14) (.c (.int .i64 40)), none⟩,
   ⟨some 16, .mv (.t 15), none⟩,
   ⟨some 17, .faddr 1 (.t 1), some (16, false)⟩,
   ⟨some 18, .load false 1 (.t 17), some (16, false)⟩,
   ⟨some 19, .len false (.t 18), some (16, false)⟩,
   ⟨some 20, .bin .gtr (.t 19) (.c (.int .i64 40)), some (16, false)⟩,
   ⟨some 21, .pick (.t 16) (.c (.bool true)) (.t 20), none⟩,
   ⟨some 3, .mv (.t 21), none⟩])
 (.seq (.seq (.region [⟨some 22, .faddr 1 (.t 1), none⟩,
   ⟨some 23, .load false 1 (.t 22), none⟩,
   ⟨some 24, .len false (.t 23), none⟩,
   ⟨some 25, .mv (.c (.int .i64 0)), none⟩])
 (.block 0
  (.loop
   f9_c1)))
 f9_c0)))
def f9_lay : Lay := ⟨84, []⟩
def f9_res : List LRes := [.t 2]
def f9_L : LFn := ⟨1, f9_lay, f9_c7, f9_res⟩
theorem f9_low : lowFn Try.prog [] 9 = some f9_L := by kernel_rfl
theorem f9_fok : FnOk Try.prog 9 := ⟨_, Try.func9, rfl, rfl⟩
def f9_Q (a0 : G_QProgram) (o : Int) : Exit → Env → AHeap → Nat → Prop := FinK f9_res (PureEnd (.int .i64 o))

def f9_L1_env (a0 : G_QProgram) (s : (Bool × Int)) : Env := [(1, .ptr (0, 0) 0 0), (3, .bool s.1), (23, .isl 1 (a0.f_Queries.map e_sl_QOp) false), (24, .int .i64 ((a0.f_Queries.map e_sl_QOp).length : Int)), (25, .int .i64 s.2)]
def f9_L1_hp (a0 : G_QProgram) (s : (Bool × Int)) : AHeap := [((0, 0), .one [.int .i64 a0.f_Inputs, .isl 1 (a0.f_Queries.map e_sl_QOp) false])]
def f9_L1_Q (a0 : G_QProgram) (o : Int) : Exit → Env → AHeap → Nat → Prop := (QBlock 0 (QSeq Try.prog f9_lay 0 f9_c0 (f9_Q a0 o)))

noncomputable def S_glossatorref3_CheckProgram_j7 (m : Option Nat) (a0 : G_QProgram) (v8 : Int) : Option (Int ⊕ Int) :=
  some (.inl (W (v8 + 1)))

noncomputable def S_glossatorref3_CheckProgram_j6 (m : Option Nat) (a0 : G_QProgram) (v8 : Int) (v15 : Int) : Option (Int ⊕ Int) :=
  if (v15 != 1) = true then
    Option.map Sum.inr (
      some 3)
  else
    S_glossatorref3_CheckProgram_j7 m a0 v8

noncomputable def S_glossatorref3_CheckProgram_b5 (m : Option Nat) (a0 : G_QProgram) (v8 : Int) (v15 : Int) (v16 : Int) : Option ((Int × Int) ⊕ (Int ⊕ Int)) :=
  if (decide (v16 < (((a0.f_Queries.getD v8.toNat default).map e_QOp).length : Int))) = true then
    if (0 : Int) ≤ v16 ∧ v16 < (((a0.f_Queries.getD v8.toNat default).map e_QOp).length : Int) then
    if ((decide (((a0.f_Queries.getD v8.toNat default).getD v16.toNat default).f_Op < 1)) || (decide (((a0.f_Queries.getD v8.toNat default).getD v16.toNat default).f_Op > 11))) = true then
      Option.map Sum.inr (
        Option.map Sum.inr (
          some 7))
    else
      (S_glossatorref3_effect m a0 v8 (G_QOp.mk (((a0.f_Queries.getD v8.toNat default).getD v16.toNat default).f_Op) (((a0.f_Queries.getD v8.toNat default).getD v16.toNat default).f_A) (((a0.f_Queries.getD v8.toNat default).getD v16.toNat default).f_B))).bind fun v18 =>
      if ((!v18.2) || (decide (v18.1 > v15))) = true then
        Option.map Sum.inr (
          Option.map Sum.inr (
            some 3))
      else
        some (.inl ((W ((W (v15 - v18.1)) + 1)), (W (v16 + 1))))
    else none
  else
    Option.map Sum.inr (
      S_glossatorref3_CheckProgram_j6 m a0 v8 v15)

noncomputable def S_glossatorref3_CheckProgram_l5 (m : Option Nat) (a0 : G_QProgram) (v8 : Int) (v15 : Int) (v16 : Int) : Option (Int ⊕ Int) := loopM m (fun (s : (Int × Int)) => S_glossatorref3_CheckProgram_b5 m a0 v8 s.1 s.2) (v15, v16)

noncomputable def S_glossatorref3_CheckProgram_j8 (m : Option Nat) : Option Int :=
  some 0

noncomputable def S_glossatorref3_CheckProgram_b4 (m : Option Nat) (a0 : G_QProgram) (v8 : Int) : Option (Int ⊕ Int) :=
  if (decide (v8 < ((a0.f_Queries.map e_sl_QOp).length : Int))) = true then
    if (0 : Int) ≤ v8 ∧ v8 < ((a0.f_Queries.map e_sl_QOp).length : Int) then
    S_glossatorref3_CheckProgram_l5 m a0 v8 0 0
    else none
  else
    Option.map Sum.inr (
      S_glossatorref3_CheckProgram_j8 m)

noncomputable def S_glossatorref3_CheckProgram_l4 (m : Option Nat) (a0 : G_QProgram) (v8 : Int) : Option Int := loopM m (fun (s : Int) => S_glossatorref3_CheckProgram_b4 m a0 s) v8

noncomputable def S_glossatorref3_CheckProgram_j1 (m : Option Nat) (a0 : G_QProgram) (v1 : Bool) : Option Int :=
  if v1 = true then
    some 2
  else
    if (decide (a0.f_Inputs < 0)) = true then
      some 1
    else
      S_glossatorref3_CheckProgram_l4 m a0 0

noncomputable def S_glossatorref3_CheckProgram_b1 (m : Option Nat) (a0 : G_QProgram) (v1 : Bool) (v2 : Int) : Option ((Bool × Int) ⊕ Int) :=
  if (decide (v2 < ((a0.f_Queries.map e_sl_QOp).length : Int))) = true then
    if (0 : Int) ≤ v2 ∧ v2 < ((a0.f_Queries.map e_sl_QOp).length : Int) then
    some (.inl ((v1 || (decide ((((a0.f_Queries.getD v2.toNat default).map e_QOp).length : Int) > 20))), (W (v2 + 1))))
    else none
  else
    Option.map Sum.inr (
      S_glossatorref3_CheckProgram_j1 m a0 v1)

noncomputable def S_glossatorref3_CheckProgram_l1 (m : Option Nat) (a0 : G_QProgram) (v1 : Bool) (v2 : Int) : Option Int := loopM m (fun (s : (Bool × Int)) => S_glossatorref3_CheckProgram_b1 m a0 s.1 s.2) (v1, v2)

def f9_L4_env (a0 : G_QProgram) (s : Int) : Env := [(1, .ptr (0, 0) 0 0), (41, .isl 1 (a0.f_Queries.map e_sl_QOp) false), (42, .int .i64 ((a0.f_Queries.map e_sl_QOp).length : Int)), (43, .int .i64 s)]
def f9_L4_hp (a0 : G_QProgram) (s : Int) : AHeap := [((0, 0), .one [.int .i64 a0.f_Inputs, .isl 1 (a0.f_Queries.map e_sl_QOp) false])]
def f9_L4_Q (a0 : G_QProgram) (o : Int) : Exit → Env → AHeap → Nat → Prop := (QBlock 2 (QSeq Try.prog f9_lay 0 f9_c5 (f9_Q a0 o)))

def f9_L5_env (a0 : G_QProgram) (v8 : Int) (s : (Int × Int)) : Env := [(1, .ptr (0, 0) 0 0), (6, .int .i64 v8), (8, .int .i64 s.1), (41, .isl 1 (a0.f_Queries.map e_sl_QOp) false), (42, .int .i64 ((a0.f_Queries.map e_sl_QOp).length : Int)), (43, .int .i64 v8), (48, .isl 3 ((a0.f_Queries.getD v8.toNat default).map e_QOp) false), (49, .int .i64 (((a0.f_Queries.getD v8.toNat default).map e_QOp).length : Int)), (50, .int .i64 s.2)]
def f9_L5_hp (a0 : G_QProgram) (v8 : Int) (s : (Int × Int)) : AHeap := [((0, 0), .one [.int .i64 a0.f_Inputs, .isl 1 (a0.f_Queries.map e_sl_QOp) false])]
def f9_L5_Q (a0 : G_QProgram) (o : (Int ⊕ Int)) : Exit → Env → AHeap → Nat → Prop := (QBlock 4 (QSeq Try.prog f9_lay 0 f9_c2 (QBlock 3 (QSeq Try.prog f9_lay 0 f9_c3 (BodyQ 0 1 (f9_L4_env a0) (f9_L4_hp a0) (f9_L4_Q a0) o)))))

theorem f9_j7_ok {a0 : G_QProgram} {v8 : Int} {m : Option Nat} {o : (Int ⊕ Int)} (h : S_glossatorref3_CheckProgram_j7 m a0 v8 = some o) :
    LWp Try.prog f9_lay 0 f9_c3 (BodyQ 0 1 (f9_L4_env a0) (f9_L4_hp a0) (f9_L4_Q a0) o) [(1, .ptr (0, 0) 0 0), (41, .isl 1 (a0.f_Queries.map e_sl_QOp) false), (42, .int .i64 ((a0.f_Queries.map e_sl_QOp).length : Int)), (43, .int .i64 v8)] [((0, 0), .one [.int .i64 a0.f_Inputs, .isl 1 (a0.f_Queries.map e_sl_QOp) false])] 1 := by
  unfold S_glossatorref3_CheckProgram_j7 at h
  refine regI ?_
  cases h
  exact And.intro rfl (simI (M := [((0, 0), (0, 0))]) rfl (And.intro (Vw.ptr _ _ _ _ rfl) (And.intro (Vw.same _ rfl) (And.intro (Vw.same _ rfl) (And.intro (Vw.same _ rfl) trivial)))) (And.intro (And.intro rfl (BVw.oneL (And.intro (Vw.same _ rfl) (And.intro (Vw.same _ rfl) trivial)))) trivial))

theorem f9_j6_ok {a0 : G_QProgram} {v8 : Int} {v15 : Int} {m : Option Nat} {o : (Int ⊕ Int)} (h : S_glossatorref3_CheckProgram_j6 m a0 v8 v15 = some o) :
    LWp Try.prog f9_lay 0 f9_c2 (QBlock 3 (QSeq Try.prog f9_lay 0 f9_c3 (BodyQ 0 1 (f9_L4_env a0) (f9_L4_hp a0) (f9_L4_Q a0) o))) [(1, .ptr (0, 0) 0 0), (8, .int .i64 v15), (41, .isl 1 (a0.f_Queries.map e_sl_QOp) false), (42, .int .i64 ((a0.f_Queries.map e_sl_QOp).length : Int)), (43, .int .i64 v8)] [((0, 0), .one [.int .i64 a0.f_Inputs, .isl 1 (a0.f_Queries.map e_sl_QOp) false])] 1 := by
  unfold S_glossatorref3_CheckProgram_j6 at h
  refine seqI ?_
  refine regI ?_
  refine condI (v := (v15 != 1)) rfl trivial (fun h62 => ?_) (fun h62 => ?_)
  · have h := ite_tt h62 h
    refine seqI ?_
    refine regI ?_
    refine retI ?_
    obtain ⟨o, hq, rfl⟩ := Option.map_eq_some_iff.1 h
    replace h := hq; clear hq
    refine And.intro nofun ?_
    cases h
    exact And.intro trivial (And.intro rfl (Vw.same _ rfl))
  · have h := ite_ff h62 h
    refine skipI ?_
    refine LWp.sim ?_ (f9_j7_ok h)
    exact simI (M := [((0, 0), (0, 0))]) rfl (And.intro (Vw.ptr _ _ _ _ rfl) (And.intro (Vw.same _ rfl) (And.intro (Vw.same _ rfl) (And.intro (Vw.same _ rfl) trivial)))) (And.intro (And.intro rfl (BVw.oneL (And.intro (Vw.same _ rfl) (And.intro (Vw.same _ rfl) trivial)))) trivial)

theorem f9_L5_bok {a0 : G_QProgram} {v8 : Int} {v15 : Int} {v16 : Int} {m : Option Nat} {o : (Int × Int) ⊕ (Int ⊕ Int)} (h : S_glossatorref3_CheckProgram_b5 m a0 v8 v15 v16 = some o) :
    LWp Try.prog f9_lay 0 f9_c4 (BodyQ 0 1 (f9_L5_env a0 v8) (f9_L5_hp a0 v8) (f9_L5_Q a0) o) [(1, .ptr (0, 0) 0 0), (6, .int .i64 v8), (8, .int .i64 v15), (41, .isl 1 (a0.f_Queries.map e_sl_QOp) false), (42, .int .i64 ((a0.f_Queries.map e_sl_QOp).length : Int)), (43, .int .i64 v8), (48, .isl 3 ((a0.f_Queries.getD v8.toNat default).map e_QOp) false), (49, .int .i64 (((a0.f_Queries.getD v8.toNat default).map e_QOp).length : Int)), (50, .int .i64 v16)] [((0, 0), .one [.int .i64 a0.f_Inputs, .isl 1 (a0.f_Queries.map e_sl_QOp) false])] 1 := by
  unfold S_glossatorref3_CheckProgram_b5 at h
  refine seqI ?_
  refine regI ?_
  refine seqI ?_
  refine condI (v := (decide (v16 < (((a0.f_Queries.getD v8.toNat default).map e_QOp).length : Int)))) rfl trivial (fun h57 => ?_) (fun h57 => ?_)
  · have h := ite_tt h57 h
    refine skipI ?_
    refine seqI ?_
    refine blockI ?_
    refine seqI ?_
    refine regI ?_
    obtain ⟨h58, h⟩ := ite_some h
    refine And.intro h58 ?_
    refine Exists.intro (e_QOp ((a0.f_Queries.getD v8.toNat default).getD v16.toNat default)) (And.intro (getD_enc e_QOp _ _ (idx_ltL e_QOp h58)) (And.intro (And.intro (idx_lt h58) (Nat.le_of_ble_eq_true rfl)) ?_))
    refine seqI ?_
    refine seqI ?_
    refine regI ?_
    refine And.intro (fun hp => hp) ?_
    show yops _ _ _ [(59, .cnd ((decide (((a0.f_Queries.getD v8.toNat default).getD v16.toNat default).f_Op < 1)) == false) (.int .i64 (((a0.f_Queries.getD v8.toNat default).getD v16.toNat default).f_Op))), (58, .cnd ((decide (((a0.f_Queries.getD v8.toNat default).getD v16.toNat default).f_Op < 1)) == false) (.ptr (1, 0) 0 0)), (57, .bool (decide (((a0.f_Queries.getD v8.toNat default).getD v16.toNat default).f_Op < 1))), (56, .bool (decide (((a0.f_Queries.getD v8.toNat default).getD v16.toNat default).f_Op < 1))), (55, .int .i64 (((a0.f_Queries.getD v8.toNat default).getD v16.toNat default).f_Op)), (54, .ptr (1, 0) 0 0), (10, .ptr (1, 0) 0 0), (53, .agg [.int .i64 (((a0.f_Queries.getD v8.toNat default).getD v16.toNat default).f_Op), .int .i64 (((a0.f_Queries.getD v8.toNat default).getD v16.toNat default).f_A), .int .i64 (((a0.f_Queries.getD v8.toNat default).getD v16.toNat default).f_B)]), (52, .iptr 3 ((a0.f_Queries.getD v8.toNat default).map e_QOp) v16.toNat 0), (51, .bool (decide (v16 < (((a0.f_Queries.getD v8.toNat default).map e_QOp).length : Int)))), (1, .ptr (0, 0) 0 0), (6, .int .i64 v8), (8, .int .i64 v15), (41, .isl 1 (a0.f_Queries.map e_sl_QOp) false), (42, .int .i64 ((a0.f_Queries.map e_sl_QOp).length : Int)), (43, .int .i64 v8), (48, .isl 3 ((a0.f_Queries.getD v8.toNat default).map e_QOp) false), (49, .int .i64 (((a0.f_Queries.getD v8.toNat default).map e_QOp).length : Int)), (50, .int .i64 v16)] _ _
    refine And.intro (fun hp => hp) ?_
    refine And.intro (fun hc => (bqf hc)) ?_
    refine LWp.sim (e := [(1, .ptr (0, 0) 0 0), (6, .int .i64 v8), (8, .int .i64 v15), (10, .ptr (1, 0) 0 0), (41, .isl 1 (a0.f_Queries.map e_sl_QOp) false), (42, .int .i64 ((a0.f_Queries.map e_sl_QOp).length : Int)), (43, .int .i64 v8), (48, .isl 3 ((a0.f_Queries.getD v8.toNat default).map e_QOp) false), (49, .int .i64 (((a0.f_Queries.getD v8.toNat default).map e_QOp).length : Int)), (50, .int .i64 v16), (61, .bool ((decide (((a0.f_Queries.getD v8.toNat default).getD v16.toNat default).f_Op < 1)) || (decide (((a0.f_Queries.getD v8.toNat default).getD v16.toNat default).f_Op > 11))))]) (L := [((0, 0), .one [.int .i64 a0.f_Inputs, .isl 1 (a0.f_Queries.map e_sl_QOp) false]), ((1, 0), .one [.int .i64 (((a0.f_Queries.getD v8.toNat default).getD v16.toNat default).f_Op), .int .i64 (((a0.f_Queries.getD v8.toNat default).getD v16.toNat default).f_A), .int .i64 (((a0.f_Queries.getD v8.toNat default).getD v16.toNat default).f_B)])]) (n := 2) ?_ ?_
    · exact simI (M := [((0, 0), (0, 0)), ((1, 0), (1, 0))]) rfl (And.intro (Vw.ptr _ _ _ _ rfl) (And.intro (Vw.same _ rfl) (And.intro (Vw.same _ rfl) (And.intro (Vw.ptr _ _ _ _ rfl) (And.intro (Vw.same _ rfl) (And.intro (Vw.same _ rfl) (And.intro (Vw.same _ rfl) (And.intro (Vw.same _ rfl) (And.intro (Vw.same _ rfl) (And.intro (Vw.same _ rfl) (And.intro (Vw.same _ rfl) trivial))))))))))) (And.intro (And.intro rfl (BVw.oneL (And.intro (Vw.same _ rfl) (And.intro (Vw.same _ rfl) trivial)))) (And.intro (And.intro rfl (BVw.oneL (And.intro (Vw.same _ rfl) (And.intro (Vw.same _ rfl) (And.intro (Vw.same _ rfl) trivial))))) trivial))
    refine condI (v := ((decide (((a0.f_Queries.getD v8.toNat default).getD v16.toNat default).f_Op < 1)) || (decide (((a0.f_Queries.getD v8.toNat default).getD v16.toNat default).f_Op > 11)))) rfl trivial (fun h59 => ?_) (fun h59 => ?_)
    · have h := ite_tt h59 h
      refine seqI ?_
      refine regI ?_
      refine retI ?_
      obtain ⟨o, hq, rfl⟩ := Option.map_eq_some_iff.1 h
      replace h := hq; clear hq
      refine And.intro nofun ?_
      obtain ⟨o, hq, rfl⟩ := Option.map_eq_some_iff.1 h
      replace h := hq; clear hq
      refine And.intro nofun ?_
      cases h
      exact And.intro trivial (And.intro rfl (Vw.same _ rfl))
    · have h := ite_ff h59 h
      refine skipI ?_
      refine seqI ?_
      refine regI ?_
      obtain ⟨v18, h60, h⟩ := bind_some h
      refine PFn.call (f27_ok h60) (And.intro (Vw.same _ rfl) (And.intro (Vw.same _ rfl) (And.intro (Vw.same _ rfl) trivial))) ?_
      refine LWp.sim (e := [(1, .ptr (0, 0) 0 0), (6, .int .i64 v8), (8, .int .i64 v15), (11, .int .i64 v18.1), (12, .bool v18.2), (41, .isl 1 (a0.f_Queries.map e_sl_QOp) false), (42, .int .i64 ((a0.f_Queries.map e_sl_QOp).length : Int)), (43, .int .i64 v8), (48, .isl 3 ((a0.f_Queries.getD v8.toNat default).map e_QOp) false), (49, .int .i64 (((a0.f_Queries.getD v8.toNat default).map e_QOp).length : Int)), (50, .int .i64 v16)]) (L := [((0, 0), .one [.int .i64 a0.f_Inputs, .isl 1 (a0.f_Queries.map e_sl_QOp) false])]) (n := 1) ?_ ?_
      · exact simI (M := [((0, 0), (0, 0))]) rfl (And.intro (Vw.ptr _ _ _ _ rfl) (And.intro (Vw.same _ rfl) (And.intro (Vw.same _ rfl) (And.intro (Vw.same _ rfl) (And.intro (Vw.same _ rfl) (And.intro (Vw.same _ rfl) (And.intro (Vw.same _ rfl) (And.intro (Vw.same _ rfl) (And.intro (Vw.same _ rfl) (And.intro (Vw.same _ rfl) (And.intro (Vw.same _ rfl) trivial))))))))))) (And.intro (And.intro rfl (BVw.oneL (And.intro (Vw.same _ rfl) (And.intro (Vw.same _ rfl) trivial)))) trivial)
      refine seqI ?_
      refine seqI ?_
      refine regI ?_
      refine And.intro (fun hp => (And.intro hp hp)) ?_
      show yops _ _ _ [(74, .cnd ((!v18.2) == false) (.bool (decide (v18.1 > v15)))), (73, .cnd ((!v18.2) == false) (.int .i64 v15)), (72, .cnd ((!v18.2) == false) (.int .i64 v18.1)), (71, .bool (!v18.2)), (70, .bool (!v18.2)), (69, .bool v18.2), (1, .ptr (0, 0) 0 0), (6, .int .i64 v8), (8, .int .i64 v15), (11, .int .i64 v18.1), (12, .bool v18.2), (41, .isl 1 (a0.f_Queries.map e_sl_QOp) false), (42, .int .i64 ((a0.f_Queries.map e_sl_QOp).length : Int)), (43, .int .i64 v8), (48, .isl 3 ((a0.f_Queries.getD v8.toNat default).map e_QOp) false), (49, .int .i64 (((a0.f_Queries.getD v8.toNat default).map e_QOp).length : Int)), (50, .int .i64 v16)] _ _
      refine And.intro (fun hc => (bqf hc)) ?_
      refine condI (v := ((!v18.2) || (decide (v18.1 > v15)))) rfl trivial (fun h61 => ?_) (fun h61 => ?_)
      · have h := ite_tt h61 h
        refine seqI ?_
        refine regI ?_
        refine LWp.sim (e := [(2, .int .i64 3)]) (L := []) (n := 0) ?_ ?_
        · exact simI (M := []) rfl (And.intro (Vw.same _ rfl) trivial) trivial
        refine retI ?_
        obtain ⟨o, hq, rfl⟩ := Option.map_eq_some_iff.1 h
        replace h := hq; clear hq
        refine And.intro nofun ?_
        obtain ⟨o, hq, rfl⟩ := Option.map_eq_some_iff.1 h
        replace h := hq; clear hq
        refine And.intro nofun ?_
        cases h
        exact And.intro trivial (And.intro rfl (Vw.same _ rfl))
      · have h := ite_ff h61 h
        refine skipI ?_
        refine regI ?_
        refine LWp.sim (e := [(1, .ptr (0, 0) 0 0), (6, .int .i64 v8), (8, .int .i64 (W ((W (v15 - v18.1)) + 1))), (41, .isl 1 (a0.f_Queries.map e_sl_QOp) false), (42, .int .i64 ((a0.f_Queries.map e_sl_QOp).length : Int)), (43, .int .i64 v8), (48, .isl 3 ((a0.f_Queries.getD v8.toNat default).map e_QOp) false), (49, .int .i64 (((a0.f_Queries.getD v8.toNat default).map e_QOp).length : Int)), (50, .int .i64 v16)]) (L := [((0, 0), .one [.int .i64 a0.f_Inputs, .isl 1 (a0.f_Queries.map e_sl_QOp) false])]) (n := 1) ?_ ?_
        · exact simI (M := [((0, 0), (0, 0))]) rfl (And.intro (Vw.ptr _ _ _ _ rfl) (And.intro (Vw.same _ rfl) (And.intro (Vw.same _ rfl) (And.intro (Vw.same _ rfl) (And.intro (Vw.same _ rfl) (And.intro (Vw.same _ rfl) (And.intro (Vw.same _ rfl) (And.intro (Vw.same _ rfl) (And.intro (Vw.same _ rfl) trivial))))))))) (And.intro (And.intro rfl (BVw.oneL (And.intro (Vw.same _ rfl) (And.intro (Vw.same _ rfl) trivial)))) trivial)
        refine regI ?_
        cases h
        exact And.intro rfl (simI (M := [((0, 0), (0, 0))]) rfl (And.intro (Vw.ptr _ _ _ _ rfl) (And.intro (Vw.same _ rfl) (And.intro (Vw.same _ rfl) (And.intro (Vw.same _ rfl) (And.intro (Vw.same _ rfl) (And.intro (Vw.same _ rfl) (And.intro (Vw.same _ rfl) (And.intro (Vw.same _ rfl) (And.intro (Vw.same _ rfl) trivial))))))))) (And.intro (And.intro rfl (BVw.oneL (And.intro (Vw.same _ rfl) (And.intro (Vw.same _ rfl) trivial)))) trivial))
  · have h := ite_ff h57 h
    refine exitI ?_
    obtain ⟨o, hq, rfl⟩ := Option.map_eq_some_iff.1 h
    replace h := hq; clear hq
    refine And.intro nofun ?_
    refine LWp.sim ?_ (f9_j6_ok h)
    exact simI (M := [((0, 0), (0, 0))]) rfl (And.intro (Vw.ptr _ _ _ _ rfl) (And.intro (Vw.same _ rfl) (And.intro (Vw.same _ rfl) (And.intro (Vw.same _ rfl) (And.intro (Vw.same _ rfl) trivial))))) (And.intro (And.intro rfl (BVw.oneL (And.intro (Vw.same _ rfl) (And.intro (Vw.same _ rfl) trivial)))) trivial)

theorem f9_L5_ok {a0 : G_QProgram} {v8 : Int} {v15 : Int} {v16 : Int} {m : Option Nat} {o : (Int ⊕ Int)} (h : S_glossatorref3_CheckProgram_l5 m a0 v8 v15 v16 = some o) :
    LWp Try.prog f9_lay 0 (.loop f9_c4) (QBlock 4 (QSeq Try.prog f9_lay 0 f9_c2 (QBlock 3 (QSeq Try.prog f9_lay 0 f9_c3 (BodyQ 0 1 (f9_L4_env a0) (f9_L4_hp a0) (f9_L4_Q a0) o))))) [(1, .ptr (0, 0) 0 0), (6, .int .i64 v8), (8, .int .i64 v15), (41, .isl 1 (a0.f_Queries.map e_sl_QOp) false), (42, .int .i64 ((a0.f_Queries.map e_sl_QOp).length : Int)), (43, .int .i64 v8), (48, .isl 3 ((a0.f_Queries.getD v8.toNat default).map e_QOp) false), (49, .int .i64 (((a0.f_Queries.getD v8.toNat default).map e_QOp).length : Int)), (50, .int .i64 v16)] [((0, 0), .one [.int .i64 a0.f_Inputs, .isl 1 (a0.f_Queries.map e_sl_QOp) false])] 1 :=
  LWp_loopM (m := m) (s := ((v15, v16) : (Int × Int))) (r := o) (fun (s : (Int × Int)) => S_glossatorref3_CheckProgram_b5 m a0 v8 s.1 s.2) (f9_L5_env a0 v8) (f9_L5_hp a0 v8) (f9_L5_Q a0) (fun s o h => f9_L5_bok h) h

theorem f9_j8_ok {a0 : G_QProgram} {m : Option Nat} {o : Int} (h : S_glossatorref3_CheckProgram_j8 m = some o) :
    LWp Try.prog f9_lay 0 f9_c5 (f9_Q a0 o) [] [] 0 := by
  unfold S_glossatorref3_CheckProgram_j8 at h
  refine seqI ?_
  refine regI ?_
  refine retI ?_
  cases h
  exact And.intro trivial (And.intro rfl (Vw.same _ rfl))

theorem f9_L4_bok {a0 : G_QProgram} {v8 : Int} {m : Option Nat} {o : Int ⊕ Int} (h : S_glossatorref3_CheckProgram_b4 m a0 v8 = some o) :
    LWp Try.prog f9_lay 0 f9_c6 (BodyQ 0 1 (f9_L4_env a0) (f9_L4_hp a0) (f9_L4_Q a0) o) [(1, .ptr (0, 0) 0 0), (41, .isl 1 (a0.f_Queries.map e_sl_QOp) false), (42, .int .i64 ((a0.f_Queries.map e_sl_QOp).length : Int)), (43, .int .i64 v8)] [((0, 0), .one [.int .i64 a0.f_Inputs, .isl 1 (a0.f_Queries.map e_sl_QOp) false])] 1 := by
  unfold S_glossatorref3_CheckProgram_b4 at h
  refine seqI ?_
  refine regI ?_
  refine seqI ?_
  refine condI (v := (decide (v8 < ((a0.f_Queries.map e_sl_QOp).length : Int)))) rfl trivial (fun h45 => ?_) (fun h45 => ?_)
  · have h := ite_tt h45 h
    refine skipI ?_
    refine seqI ?_
    refine blockI ?_
    refine seqI ?_
    refine regI ?_
    obtain ⟨h46, h⟩ := ite_some h
    refine And.intro h46 ?_
    refine Exists.intro (e_sl_QOp (a0.f_Queries.getD v8.toNat default)) (And.intro (getD_enc e_sl_QOp _ _ (idx_ltL e_sl_QOp h46)) (And.intro (And.intro (idx_lt h46) (Nat.le_of_ble_eq_true rfl)) ?_))
    refine seqI ?_
    refine regI ?_
    refine seqI ?_
    refine seqI ?_
    refine regI ?_
    refine LWp.sim (e := [(1, .ptr (0, 0) 0 0), (6, .int .i64 v8), (8, .int .i64 0), (41, .isl 1 (a0.f_Queries.map e_sl_QOp) false), (42, .int .i64 ((a0.f_Queries.map e_sl_QOp).length : Int)), (43, .int .i64 v8), (48, .isl 3 ((a0.f_Queries.getD v8.toNat default).map e_QOp) false), (49, .int .i64 (((a0.f_Queries.getD v8.toNat default).map e_QOp).length : Int)), (50, .int .i64 0)]) (L := [((0, 0), .one [.int .i64 a0.f_Inputs, .isl 1 (a0.f_Queries.map e_sl_QOp) false])]) (n := 1) ?_ ?_
    · exact simI (M := [((0, 0), (0, 0))]) rfl (And.intro (Vw.ptr _ _ _ _ rfl) (And.intro (Vw.same _ rfl) (And.intro (Vw.same _ rfl) (And.intro (Vw.same _ rfl) (And.intro (Vw.same _ rfl) (And.intro (Vw.same _ rfl) (And.intro (Vw.same _ rfl) (And.intro (Vw.same _ rfl) (And.intro (Vw.same _ rfl) trivial))))))))) (And.intro (And.intro rfl (BVw.oneL (And.intro (Vw.same _ rfl) (And.intro (Vw.same _ rfl) trivial)))) trivial)
    refine blockI ?_
    refine LWp.sim ?_ (f9_L5_ok h)
    exact simI (M := [((0, 0), (0, 0))]) rfl (And.intro (Vw.ptr _ _ _ _ rfl) (And.intro (Vw.same _ rfl) (And.intro (Vw.same _ rfl) (And.intro (Vw.same _ rfl) (And.intro (Vw.same _ rfl) (And.intro (Vw.same _ rfl) (And.intro (Vw.same _ rfl) (And.intro (Vw.same _ rfl) (And.intro (Vw.same _ rfl) trivial))))))))) (And.intro (And.intro rfl (BVw.oneL (And.intro (Vw.same _ rfl) (And.intro (Vw.same _ rfl) trivial)))) trivial)
  · have h := ite_ff h45 h
    refine exitI ?_
    obtain ⟨o, hq, rfl⟩ := Option.map_eq_some_iff.1 h
    replace h := hq; clear hq
    refine And.intro nofun ?_
    refine LWp.sim ?_ (f9_j8_ok h)
    exact simI (M := []) rfl trivial trivial

theorem f9_L4_ok {a0 : G_QProgram} {v8 : Int} {m : Option Nat} {o : Int} (h : S_glossatorref3_CheckProgram_l4 m a0 v8 = some o) :
    LWp Try.prog f9_lay 0 (.loop f9_c6) (QBlock 2 (QSeq Try.prog f9_lay 0 f9_c5 (f9_Q a0 o))) [(1, .ptr (0, 0) 0 0), (41, .isl 1 (a0.f_Queries.map e_sl_QOp) false), (42, .int .i64 ((a0.f_Queries.map e_sl_QOp).length : Int)), (43, .int .i64 v8)] [((0, 0), .one [.int .i64 a0.f_Inputs, .isl 1 (a0.f_Queries.map e_sl_QOp) false])] 1 :=
  LWp_loopM (m := m) (s := (v8 : Int)) (r := o) (fun (s : Int) => S_glossatorref3_CheckProgram_b4 m a0 s) (f9_L4_env a0) (f9_L4_hp a0) (f9_L4_Q a0) (fun s o h => f9_L4_bok h) h

theorem f9_j1_ok {a0 : G_QProgram} {v1 : Bool} {m : Option Nat} {o : Int} (h : S_glossatorref3_CheckProgram_j1 m a0 v1 = some o) :
    LWp Try.prog f9_lay 0 f9_c0 (f9_Q a0 o) [(1, .ptr (0, 0) 0 0), (3, .bool v1)] [((0, 0), .one [.int .i64 a0.f_Inputs, .isl 1 (a0.f_Queries.map e_sl_QOp) false])] 1 := by
  unfold S_glossatorref3_CheckProgram_j1 at h
  refine seqI ?_
  refine seqI ?_
  refine regI ?_
  refine condI (v := v1) rfl trivial (fun h7 => ?_) (fun h7 => ?_)
  · have h := ite_tt h7 h
    refine seqI ?_
    refine regI ?_
    refine retI ?_
    cases h
    exact And.intro trivial (And.intro rfl (Vw.same _ rfl))
  · have h := ite_ff h7 h
    refine skipI ?_
    refine seqI ?_
    refine seqI ?_
    refine regI ?_
    refine condI (v := (decide (a0.f_Inputs < 0))) rfl trivial (fun h8 => ?_) (fun h8 => ?_)
    · have h := ite_tt h8 h
      refine seqI ?_
      refine regI ?_
      refine retI ?_
      cases h
      exact And.intro trivial (And.intro rfl (Vw.same _ rfl))
    · have h := ite_ff h8 h
      refine skipI ?_
      refine seqI ?_
      refine seqI ?_
      refine regI ?_
      refine LWp.sim (e := [(1, .ptr (0, 0) 0 0), (41, .isl 1 (a0.f_Queries.map e_sl_QOp) false), (42, .int .i64 ((a0.f_Queries.map e_sl_QOp).length : Int)), (43, .int .i64 0)]) (L := [((0, 0), .one [.int .i64 a0.f_Inputs, .isl 1 (a0.f_Queries.map e_sl_QOp) false])]) (n := 1) ?_ ?_
      · exact simI (M := [((0, 0), (0, 0))]) rfl (And.intro (Vw.ptr _ _ _ _ rfl) (And.intro (Vw.same _ rfl) (And.intro (Vw.same _ rfl) (And.intro (Vw.same _ rfl) trivial)))) (And.intro (And.intro rfl (BVw.oneL (And.intro (Vw.same _ rfl) (And.intro (Vw.same _ rfl) trivial)))) trivial)
      refine blockI ?_
      refine LWp.sim ?_ (f9_L4_ok h)
      exact simI (M := [((0, 0), (0, 0))]) rfl (And.intro (Vw.ptr _ _ _ _ rfl) (And.intro (Vw.same _ rfl) (And.intro (Vw.same _ rfl) (And.intro (Vw.same _ rfl) trivial)))) (And.intro (And.intro rfl (BVw.oneL (And.intro (Vw.same _ rfl) (And.intro (Vw.same _ rfl) trivial)))) trivial)

theorem f9_L1_bok {a0 : G_QProgram} {v1 : Bool} {v2 : Int} {m : Option Nat} {o : (Bool × Int) ⊕ Int} (h : S_glossatorref3_CheckProgram_b1 m a0 v1 v2 = some o) :
    LWp Try.prog f9_lay 0 f9_c1 (BodyQ 0 1 (f9_L1_env a0) (f9_L1_hp a0) (f9_L1_Q a0) o) [(1, .ptr (0, 0) 0 0), (3, .bool v1), (23, .isl 1 (a0.f_Queries.map e_sl_QOp) false), (24, .int .i64 ((a0.f_Queries.map e_sl_QOp).length : Int)), (25, .int .i64 v2)] [((0, 0), .one [.int .i64 a0.f_Inputs, .isl 1 (a0.f_Queries.map e_sl_QOp) false])] 1 := by
  unfold S_glossatorref3_CheckProgram_b1 at h
  refine seqI ?_
  refine regI ?_
  refine seqI ?_
  refine condI (v := (decide (v2 < ((a0.f_Queries.map e_sl_QOp).length : Int)))) rfl trivial (fun h5 => ?_) (fun h5 => ?_)
  · have h := ite_tt h5 h
    refine skipI ?_
    refine seqI ?_
    refine blockI ?_
    refine seqI ?_
    refine regI ?_
    obtain ⟨h6, h⟩ := ite_some h
    refine And.intro h6 ?_
    refine Exists.intro (e_sl_QOp (a0.f_Queries.getD v2.toNat default)) (And.intro (getD_enc e_sl_QOp _ _ (idx_ltL e_sl_QOp h6)) (And.intro (And.intro (idx_lt h6) (Nat.le_of_ble_eq_true rfl)) ?_))
    refine regI ?_
    refine And.intro (fun hp => hp) ?_
    show yops _ _ _ [(32, .cnd (v1 == false) (.int .i64 (((a0.f_Queries.getD v2.toNat default).map e_QOp).length : Int))), (31, .cnd (v1 == false) (.isl 3 ((a0.f_Queries.getD v2.toNat default).map e_QOp) false)), (30, .bool v1), (29, .bool v1), (5, .isl 3 ((a0.f_Queries.getD v2.toNat default).map e_QOp) false), (28, .isl 3 ((a0.f_Queries.getD v2.toNat default).map e_QOp) false), (27, .iptr 1 (a0.f_Queries.map e_sl_QOp) v2.toNat 0), (26, .bool (decide (v2 < ((a0.f_Queries.map e_sl_QOp).length : Int)))), (1, .ptr (0, 0) 0 0), (3, .bool v1), (23, .isl 1 (a0.f_Queries.map e_sl_QOp) false), (24, .int .i64 ((a0.f_Queries.map e_sl_QOp).length : Int)), (25, .int .i64 v2)] _ _
    refine And.intro (fun hp => hp) ?_
    refine And.intro (fun hc => (bqf hc)) ?_
    refine LWp.sim (e := [(1, .ptr (0, 0) 0 0), (3, .bool (v1 || (decide ((((a0.f_Queries.getD v2.toNat default).map e_QOp).length : Int) > 20)))), (23, .isl 1 (a0.f_Queries.map e_sl_QOp) false), (24, .int .i64 ((a0.f_Queries.map e_sl_QOp).length : Int)), (25, .int .i64 v2)]) (L := [((0, 0), .one [.int .i64 a0.f_Inputs, .isl 1 (a0.f_Queries.map e_sl_QOp) false])]) (n := 1) ?_ ?_
    · exact simI (M := [((0, 0), (0, 0))]) rfl (And.intro (Vw.ptr _ _ _ _ rfl) (And.intro (Vw.same _ rfl) (And.intro (Vw.same _ rfl) (And.intro (Vw.same _ rfl) (And.intro (Vw.same _ rfl) trivial))))) (And.intro (And.intro rfl (BVw.oneL (And.intro (Vw.same _ rfl) (And.intro (Vw.same _ rfl) trivial)))) trivial)
    refine regI ?_
    cases h
    exact And.intro rfl (simI (M := [((0, 0), (0, 0))]) rfl (And.intro (Vw.ptr _ _ _ _ rfl) (And.intro (Vw.same _ rfl) (And.intro (Vw.same _ rfl) (And.intro (Vw.same _ rfl) (And.intro (Vw.same _ rfl) trivial))))) (And.intro (And.intro rfl (BVw.oneL (And.intro (Vw.same _ rfl) (And.intro (Vw.same _ rfl) trivial)))) trivial))
  · have h := ite_ff h5 h
    refine exitI ?_
    obtain ⟨o, hq, rfl⟩ := Option.map_eq_some_iff.1 h
    replace h := hq; clear hq
    refine And.intro nofun ?_
    refine LWp.sim ?_ (f9_j1_ok h)
    exact simI (M := [((0, 0), (0, 0))]) rfl (And.intro (Vw.ptr _ _ _ _ rfl) (And.intro (Vw.same _ rfl) trivial)) (And.intro (And.intro rfl (BVw.oneL (And.intro (Vw.same _ rfl) (And.intro (Vw.same _ rfl) trivial)))) trivial)

theorem f9_L1_ok {a0 : G_QProgram} {v1 : Bool} {v2 : Int} {m : Option Nat} {o : Int} (h : S_glossatorref3_CheckProgram_l1 m a0 v1 v2 = some o) :
    LWp Try.prog f9_lay 0 (.loop f9_c1) (QBlock 0 (QSeq Try.prog f9_lay 0 f9_c0 (f9_Q a0 o))) [(1, .ptr (0, 0) 0 0), (3, .bool v1), (23, .isl 1 (a0.f_Queries.map e_sl_QOp) false), (24, .int .i64 ((a0.f_Queries.map e_sl_QOp).length : Int)), (25, .int .i64 v2)] [((0, 0), .one [.int .i64 a0.f_Inputs, .isl 1 (a0.f_Queries.map e_sl_QOp) false])] 1 :=
  LWp_loopM (m := m) (s := ((v1, v2) : (Bool × Int))) (r := o) (fun (s : (Bool × Int)) => S_glossatorref3_CheckProgram_b1 m a0 s.1 s.2) (f9_L1_env a0) (f9_L1_hp a0) (f9_L1_Q a0) (fun s o h => f9_L1_bok h) h

noncomputable def S_glossatorref3_CheckProgram (m : Option Nat) (a0 : G_QProgram) : Option Int :=
  S_glossatorref3_CheckProgram_l1 m a0 ((decide (a0.f_Inputs > 40)) || (decide (((a0.f_Queries.map e_sl_QOp).length : Int) > 40))) 0

theorem f9_start {a0 : G_QProgram} {m : Option Nat} {o : Int} (h : S_glossatorref3_CheckProgram m a0 = some o) : LWp Try.prog f9_lay 0 f9_c7 (f9_Q a0 o) (initEnv 0 [.agg [.int .i64 a0.f_Inputs, .isl 1 (a0.f_Queries.map e_sl_QOp) false]]) [] 0 := by
  unfold S_glossatorref3_CheckProgram at h
  refine seqI ?_
  refine regI ?_
  refine seqI ?_
  refine regI ?_
  refine And.intro (fun hp => hp) ?_
  show yops _ _ _ [(18, .cnd ((decide (a0.f_Inputs > 40)) == false) (.isl 1 (a0.f_Queries.map e_sl_QOp) false)), (17, .cnd ((decide (a0.f_Inputs > 40)) == false) (.ptr (0, 0) 0 1)), (16, .bool (decide (a0.f_Inputs > 40))), (15, .bool (decide (a0.f_Inputs > 40))), (14, .int .i64 a0.f_Inputs), (13, .ptr (0, 0) 0 0), (2, .int .i64 0), (1, .ptr (0, 0) 0 0), (0, .agg [.int .i64 a0.f_Inputs, .isl 1 (a0.f_Queries.map e_sl_QOp) false])] _ _
  refine And.intro (fun hp => hp) ?_
  refine And.intro (fun hp => hp) ?_
  refine And.intro (fun hc => (bqf hc)) ?_
  refine LWp.sim (e := [(1, .ptr (0, 0) 0 0), (3, .bool ((decide (a0.f_Inputs > 40)) || (decide (((a0.f_Queries.map e_sl_QOp).length : Int) > 40))))]) (L := [((0, 0), .one [.int .i64 a0.f_Inputs, .isl 1 (a0.f_Queries.map e_sl_QOp) false])]) (n := 1) ?_ ?_
  · exact simI (M := [((0, 0), (0, 0))]) rfl (And.intro (Vw.ptr _ _ _ _ rfl) (And.intro (Vw.same _ rfl) trivial)) (And.intro (And.intro rfl (BVw.oneL (And.intro (Vw.same _ rfl) (And.intro (Vw.same _ rfl) trivial)))) trivial)
  refine seqI ?_
  refine seqI ?_
  refine regI ?_
  refine blockI ?_
  refine LWp.sim ?_ (f9_L1_ok h)
  exact simI (M := [((0, 0), (0, 0))]) rfl (And.intro (Vw.ptr _ _ _ _ rfl) (And.intro (Vw.same _ rfl) (And.intro (Vw.same _ rfl) (And.intro (Vw.same _ rfl) (And.intro (Vw.same _ rfl) trivial))))) (And.intro (And.intro rfl (BVw.oneL (And.intro (Vw.same _ rfl) (And.intro (Vw.same _ rfl) trivial)))) trivial)

theorem f9_ok {a0 : G_QProgram} {m : Option Nat} {o : Int} (h : S_glossatorref3_CheckProgram m a0 = some o) : PFn Try.prog 9 [.agg [.int .i64 a0.f_Inputs, .isl 1 (a0.f_Queries.map e_sl_QOp) false]] (.int .i64 o) := PFn.ofFnW (L := f9_L) f9_low f9_fok (Nat.le_of_ble_eq_true rfl) rfl (f9_start h)

def f3_c0 : LCode := (.seq (.region [⟨some 1, .box (.t 0), none⟩,
   ⟨some 2, .mv (.c (.bool false)), none⟩])
 (.seq (.seq (.region [⟨some 3, .call 7 [], none⟩,
   ⟨some 4, .un .not (.t 3), none⟩])
 (.cond (.t 4)
  (.seq (.region [⟨some 2, .mv (.c (.bool false)), none⟩])
  .ret)
  .skip))
 (.seq (.draw [⟨⟨some 5, .call 7 [], none⟩, []⟩,
   ⟨⟨some 6, .mv (.t 5), none⟩, []⟩,
   ⟨⟨some 7, .load true 2 (.t 1), some (6, true)⟩, []⟩,
   ⟨⟨some 9, .load true 2 (.t 1), some (6, true)⟩, []⟩,
   ⟨⟨some 8, .call 8 [(.t 7)], some (6, true)⟩, [3]⟩,
   ⟨⟨some 10, .call 9 [(.t 9)], some (6, true)⟩, []⟩,
   ⟨⟨some 11, .bin .eql (.t 8) (.t 10), some (6, true)⟩, []⟩,
   ⟨⟨some 12, .pick (.t 6) (.t 11) (.c (.bool false)), none⟩, []⟩,
   ⟨⟨some 2, .mv (.t 12), none⟩, []⟩])
 .ret)))
def f3_lay : Lay := ⟨13, []⟩
def f3_res : List LRes := [.t 2]
def f3_L : LFn := ⟨1, f3_lay, f3_c0, f3_res⟩
theorem f3_low : lowFn Try.prog [] 3 = some f3_L := by kernel_rfl
theorem f3_fok : FnOk Try.prog 3 := ⟨_, Try.func3, rfl, rfl⟩
noncomputable def S_glossatorlaw3_QuerylangCheck (m : Option Nat) (a0 : G_QProgram) : Option Bool :=
  (S_glossatorlaw3_queryExample (some 4096)).bind fun v1 =>
  if (!v1) = true then
    some false
  else
    (S_glossatorlaw3_queryExample (some 4096)).bind fun v2 =>
    (if (v2 == true) = true then S_querylang_Check m a0 else some default).bind fun v3 =>
    (if (v2 == true) = true then S_glossatorref3_CheckProgram m a0 else some default).bind fun v4 =>
    some (v2 && (v3 == v4))

def f3_Q (a0 : G_QProgram) (o : Bool) : Exit → Env → AHeap → Nat → Prop := FinK f3_res (PureEnd (.bool o))

theorem f3_start {a0 : G_QProgram} {m : Option Nat} {o : Bool} (h : S_glossatorlaw3_QuerylangCheck m a0 = some o) : LWp Try.prog f3_lay 0 f3_c0 (f3_Q a0 o) (initEnv 0 [.agg [.int .i64 a0.f_Inputs, .isl 1 (a0.f_Queries.map e_sl_QOp) false]]) [] 0 := by
  unfold S_glossatorlaw3_QuerylangCheck at h
  refine seqI ?_
  refine regI ?_
  refine seqI ?_
  refine seqI ?_
  refine regI ?_
  obtain ⟨v1, h1, h⟩ := bind_some h
  refine PFn.call (f7_ok h1) trivial ?_
  refine condI (v := (!v1)) rfl trivial (fun h2 => ?_) (fun h2 => ?_)
  · have h := ite_tt h2 h
    refine seqI ?_
    refine regI ?_
    refine retI ?_
    cases h
    exact And.intro trivial (And.intro rfl (Vw.same _ rfl))
  · have h := ite_ff h2 h
    refine skipI ?_
    refine seqI ?_
    refine drawI ?_
    obtain ⟨v2, h3, h⟩ := bind_some h
    refine PFn.call (f7_ok h3) trivial ?_
    show yd _ _ _ _ _ [(5, .bool v2), (4, .bool (!v1)), (3, .bool v1), (2, .bool false), (1, .ptr (0, 0) 0 0), (0, .agg [.int .i64 a0.f_Inputs, .isl 1 (a0.f_Queries.map e_sl_QOp) false])] _ _
    obtain ⟨v3, h4, h⟩ := bind_some h
    refine Or.inl (Exists.intro (.int .i64 v3) (And.intro (fun hp => And.intro hp (PFn.call (f8_ok (ite_tt hp h4)) (And.intro (Vw.same _ rfl) trivial) (And.intro rfl (And.intro rfl rfl)))) ?_))
    refine And.intro (And.intro rfl (fun hp => rfl)) ?_
    obtain ⟨v4, h5, h⟩ := bind_some h
    refine Or.inl (Exists.intro (.int .i64 v4) (And.intro (fun hp => And.intro hp (PFn.call (f9_ok (ite_tt hp h5)) (And.intro (Vw.same _ rfl) trivial) (And.intro rfl (And.intro rfl rfl)))) ?_))
    refine And.intro (fun hp => (And.intro hp hp)) ?_
    show yd _ _ _ _ _ [(11, .cnd (v2 == true) (.bool (v3 == v4))), (10, .cnd (v2 == true) (.int .i64 v4)), (8, .cnd (v2 == true) (.int .i64 v3)), (9, .cnd (v2 == true) (.agg [.int .i64 a0.f_Inputs, .isl 1 (a0.f_Queries.map e_sl_QOp) false])), (7, .cnd (v2 == true) (.agg [.int .i64 a0.f_Inputs, .isl 1 (a0.f_Queries.map e_sl_QOp) false])), (6, .bool v2), (5, .bool v2), (4, .bool (!v1)), (3, .bool v1), (2, .bool false), (1, .ptr (0, 0) 0 0), (0, .agg [.int .i64 a0.f_Inputs, .isl 1 (a0.f_Queries.map e_sl_QOp) false])] _ _
    refine And.intro (fun hc => (bqt hc)) ?_
    refine LWp.sim (e := [(2, .bool (v2 && (v3 == v4)))]) (L := []) (n := 0) ?_ ?_
    · exact simI (M := []) rfl (And.intro (Vw.same _ rfl) trivial) trivial
    refine retI ?_
    cases h
    exact And.intro trivial (And.intro rfl (Vw.same _ rfl))

theorem f3_ok {a0 : G_QProgram} {m : Option Nat} {o : Bool} (h : S_glossatorlaw3_QuerylangCheck m a0 = some o) : PFn Try.prog 3 [.agg [.int .i64 a0.f_Inputs, .isl 1 (a0.f_Queries.map e_sl_QOp) false]] (.bool o) := PFn.ofFnW (L := f3_L) f3_low f3_fok (Nat.le_of_ble_eq_true rfl) rfl (f3_start h)

def f11_c0 : LCode := (.seq (.region [⟨some 3, .box (.t 0), none⟩,
   ⟨some 6, .mv (.c (.int .i64 0)), none⟩])
 (.seq (.seq (.region [⟨some 8, .load true 2 (.t 3), none⟩,
   ⟨some 9, .call 9 [(.t 8)], none⟩,
   ⟨some 7, .mv (.t 9), none⟩])
 (.seq (.region [⟨some 10, .mv (.t 7), none⟩,
   ⟨some 11, .bin .neq (.t 10) (.c (.int .i64 0)), none⟩])
 (.cond (.t 11)
  (.seq (.region [⟨some 12, .mv (.t 7), none⟩,
    ⟨some 6, .mv (.t 12), none⟩])
  .ret)
  .skip)))
 (.seq (.seq (.region [⟨some 13, .mv (.t 1), none⟩,
   ⟨some 14, .len false (.t 13), none⟩,
   ⟨some 15, .faddr 0 (.t 3), none⟩,
   ⟨some 16, .load false 1 (.t 15), none⟩,
   ⟨some 17, .bin .neq (.t 14) (.t 16), none⟩,
   ⟨some 18, .mv (.t 17), none⟩,
   ⟨some 19, .mv (.t 2), some (18, false)⟩,
   ⟨some 20, .bin .lss (.t 19) (.c (.int .i64 0)), some (18, false)⟩,
   ⟨some 21, .pick (.t 18) (.c (.bool true)) (.t 20), none⟩,
   ⟨some 22, .mv (.t 21), none⟩,
   ⟨some 23, .mv (.t 2), some (22, false)⟩,
   ⟨some 24, .faddr 1 (.t 3), some (22, false)⟩,
   ⟨some 25, .load false 1 (.t 24), some (22, false)⟩,
   ⟨some 26, .len false (.t 25), some (22, false)⟩,
   ⟨some 27, .bin .geq (.t 23) (.t 26), some (22, false)⟩,
   ⟨some 28, .pick (.t 22) (.c (.bool true)) (.t 27), none⟩])
 (.cond (.t 28)
  (.seq (.region [⟨some 6, .mv (.c (.int .i64 1)), none⟩])
  .ret)
  .skip))
 (.seq (.region [⟨some 6, .mv (.c (.int .i64 0)), none⟩])
 .ret))))
def f11_lay : Lay := ⟨29, []⟩
def f11_res : List LRes := [.t 6]
def f11_L : LFn := ⟨3, f11_lay, f11_c0, f11_res⟩
theorem f11_low : lowFn Try.prog [] 11 = some f11_L := by kernel_rfl
theorem f11_fok : FnOk Try.prog 11 := ⟨_, Try.func11, rfl, rfl⟩
noncomputable def S_glossatorlaw3_evalError (m : Option Nat) (a0 : G_QProgram) (a1 : List Int) (a2 : Int) : Option Int :=
  (S_glossatorref3_CheckProgram m a0).bind fun v1 =>
  if (v1 != 0) = true then
    some v1
  else
    if (((((a1.map e_i64).length : Int) != a0.f_Inputs) || (decide (a2 < 0))) || (decide (a2 ≥ ((a0.f_Queries.map e_sl_QOp).length : Int)))) = true then
      some 1
    else
      some 0

def f11_Q (a0 : G_QProgram) (a1 : List Int) (a2 : Int) (o : Int) : Exit → Env → AHeap → Nat → Prop := FinK f11_res (PureEnd (.int .i64 o))

theorem f11_start {a0 : G_QProgram} {a1 : List Int} {a2 : Int} {m : Option Nat} {o : Int} (h : S_glossatorlaw3_evalError m a0 a1 a2 = some o) : LWp Try.prog f11_lay 0 f11_c0 (f11_Q a0 a1 a2 o) (initEnv 0 [.agg [.int .i64 a0.f_Inputs, .isl 1 (a0.f_Queries.map e_sl_QOp) false], .isl 1 (a1.map e_i64) false, .int .i64 a2]) [] 0 := by
  unfold S_glossatorlaw3_evalError at h
  refine seqI ?_
  refine regI ?_
  refine seqI ?_
  refine seqI ?_
  refine regI ?_
  obtain ⟨v1, h1, h⟩ := bind_some h
  refine PFn.call (f9_ok h1) (And.intro (Vw.same _ rfl) trivial) ?_
  refine seqI ?_
  refine regI ?_
  refine condI (v := (v1 != 0)) rfl trivial (fun h2 => ?_) (fun h2 => ?_)
  · have h := ite_tt h2 h
    refine seqI ?_
    refine regI ?_
    refine LWp.sim (e := [(6, .int .i64 v1)]) (L := []) (n := 0) ?_ ?_
    · exact simI (M := []) rfl (And.intro (Vw.same _ rfl) trivial) trivial
    refine retI ?_
    cases h
    exact And.intro trivial (And.intro rfl (Vw.same _ rfl))
  · have h := ite_ff h2 h
    refine skipI ?_
    refine seqI ?_
    refine seqI ?_
    refine regI ?_
    refine And.intro (fun hp => hp) ?_
    show yops _ _ _ [(20, .cnd ((((a1.map e_i64).length : Int) != a0.f_Inputs) == false) (.bool (decide (a2 < 0)))), (19, .cnd ((((a1.map e_i64).length : Int) != a0.f_Inputs) == false) (.int .i64 a2)), (18, .bool (((a1.map e_i64).length : Int) != a0.f_Inputs)), (17, .bool (((a1.map e_i64).length : Int) != a0.f_Inputs)), (16, .int .i64 a0.f_Inputs), (15, .ptr (0, 0) 0 0), (14, .int .i64 ((a1.map e_i64).length : Int)), (13, .isl 1 (a1.map e_i64) false), (11, .bool (v1 != 0)), (10, .int .i64 v1), (7, .int .i64 v1), (9, .int .i64 v1), (8, .agg [.int .i64 a0.f_Inputs, .isl 1 (a0.f_Queries.map e_sl_QOp) false]), (6, .int .i64 0), (3, .ptr (0, 0) 0 0), (0, .agg [.int .i64 a0.f_Inputs, .isl 1 (a0.f_Queries.map e_sl_QOp) false]), (1, .isl 1 (a1.map e_i64) false), (2, .int .i64 a2)] _ _
    refine And.intro (fun hc => (bqf hc)) ?_
    refine And.intro (fun hp => hp) ?_
    show yops _ _ _ [(25, .cnd (((((a1.map e_i64).length : Int) != a0.f_Inputs) || (decide (a2 < 0))) == false) (.isl 1 (a0.f_Queries.map e_sl_QOp) false)), (24, .cnd (((((a1.map e_i64).length : Int) != a0.f_Inputs) || (decide (a2 < 0))) == false) (.ptr (0, 0) 0 1)), (23, .cnd (((((a1.map e_i64).length : Int) != a0.f_Inputs) || (decide (a2 < 0))) == false) (.int .i64 a2)), (22, .bool ((((a1.map e_i64).length : Int) != a0.f_Inputs) || (decide (a2 < 0)))), (21, .bool ((((a1.map e_i64).length : Int) != a0.f_Inputs) || (decide (a2 < 0)))), (20, .cnd ((((a1.map e_i64).length : Int) != a0.f_Inputs) == false) (.bool (decide (a2 < 0)))), (19, .cnd ((((a1.map e_i64).length : Int) != a0.f_Inputs) == false) (.int .i64 a2)), (18, .bool (((a1.map e_i64).length : Int) != a0.f_Inputs)), (17, .bool (((a1.map e_i64).length : Int) != a0.f_Inputs)), (16, .int .i64 a0.f_Inputs), (15, .ptr (0, 0) 0 0), (14, .int .i64 ((a1.map e_i64).length : Int)), (13, .isl 1 (a1.map e_i64) false), (11, .bool (v1 != 0)), (10, .int .i64 v1), (7, .int .i64 v1), (9, .int .i64 v1), (8, .agg [.int .i64 a0.f_Inputs, .isl 1 (a0.f_Queries.map e_sl_QOp) false]), (6, .int .i64 0), (3, .ptr (0, 0) 0 0), (0, .agg [.int .i64 a0.f_Inputs, .isl 1 (a0.f_Queries.map e_sl_QOp) false]), (1, .isl 1 (a1.map e_i64) false), (2, .int .i64 a2)] _ _
    refine And.intro (fun hp => hp) ?_
    refine And.intro (fun hp => (And.intro hp hp)) ?_
    refine And.intro (fun hc => (bqf hc)) ?_
    refine LWp.sim (e := [(28, .bool (((((a1.map e_i64).length : Int) != a0.f_Inputs) || (decide (a2 < 0))) || (decide (a2 ≥ ((a0.f_Queries.map e_sl_QOp).length : Int)))))]) (L := []) (n := 0) ?_ ?_
    · exact simI (M := []) rfl (And.intro (Vw.same _ rfl) trivial) trivial
    refine condI (v := (((((a1.map e_i64).length : Int) != a0.f_Inputs) || (decide (a2 < 0))) || (decide (a2 ≥ ((a0.f_Queries.map e_sl_QOp).length : Int))))) rfl trivial (fun h3 => ?_) (fun h3 => ?_)
    · have h := ite_tt h3 h
      refine seqI ?_
      refine regI ?_
      refine retI ?_
      cases h
      exact And.intro trivial (And.intro rfl (Vw.same _ rfl))
    · have h := ite_ff h3 h
      refine skipI ?_
      refine seqI ?_
      refine regI ?_
      refine retI ?_
      cases h
      exact And.intro trivial (And.intro rfl (Vw.same _ rfl))

theorem f11_ok {a0 : G_QProgram} {a1 : List Int} {a2 : Int} {m : Option Nat} {o : Int} (h : S_glossatorlaw3_evalError m a0 a1 a2 = some o) : PFn Try.prog 11 [.agg [.int .i64 a0.f_Inputs, .isl 1 (a0.f_Queries.map e_sl_QOp) false], .isl 1 (a1.map e_i64) false, .int .i64 a2] (.int .i64 o) := PFn.ofFnW (L := f11_L) f11_low f11_fok (Nat.le_of_ble_eq_true rfl) rfl (f11_start h)

def f17_c0 : LCode := (.seq (.region [⟨some 14, .mv (.t 5), none⟩,
   ⟨some 4, .mv (.t 14), none⟩])
 .ret)
def f17_c1 : LCode := (.seq (.region [⟨some 4, .mv (.c (.int .i64 0)), none⟩])
 (.seq (.region [⟨some 6, .mv (.t 0), none⟩,
   ⟨some 7, .mv (.t 1), none⟩,
   ⟨some 8, .bin .rem (.t 6) (.t 7), none⟩,
   ⟨some 5, .mv (.t 8), none⟩])
 (.seq (.seq (.region [⟨some 9, .mv (.t 5), none⟩,
   ⟨some 10, .bin .lss (.t 9) (.c (.int .i64 0)), none⟩])
 (.cond (.t 10)
  (.region [⟨some 11, .mv (.t 5), none⟩,
    ⟨some 12, .mv (.t 1), none⟩,
    ⟨some 13, .bin .add (.t 11) (.t 12), none⟩,
    ⟨some 5, .mv (.t 13), none⟩])
  .skip))
 f17_c0)))
def f17_lay : Lay := ⟨15, []⟩
def f17_res : List LRes := [.t 4]
def f17_L : LFn := ⟨2, f17_lay, f17_c1, f17_res⟩
theorem f17_low : lowFn Try.prog [] 17 = some f17_L := by kernel_rfl
theorem f17_fok : FnOk Try.prog 17 := ⟨_, Try.func17, rfl, rfl⟩
noncomputable def S_glossatorref3_Mod_j1 (m : Option Nat) (v1 : Int) : Option Int :=
  some v1

def f17_Q (a0 : Int) (a1 : Int) (o : Int) : Exit → Env → AHeap → Nat → Prop := FinK f17_res (PureEnd (.int .i64 o))

theorem f17_j1_ok {a0 : Int} {a1 : Int} {v1 : Int} {m : Option Nat} {o : Int} (h : S_glossatorref3_Mod_j1 m v1 = some o) :
    LWp Try.prog f17_lay 0 f17_c0 (f17_Q a0 a1 o) [(5, .int .i64 v1)] [] 0 := by
  unfold S_glossatorref3_Mod_j1 at h
  refine seqI ?_
  refine regI ?_
  refine retI ?_
  cases h
  exact And.intro trivial (And.intro rfl (Vw.same _ rfl))

noncomputable def S_glossatorref3_Mod (m : Option Nat) (a0 : Int) (a1 : Int) : Option Int :=
  if a1 ≠ 0 then
  if (decide ((a0.tmod a1) < 0)) = true then
    S_glossatorref3_Mod_j1 m (W ((a0.tmod a1) + a1))
  else
    S_glossatorref3_Mod_j1 m (a0.tmod a1)
  else none

theorem f17_start {a0 : Int} {a1 : Int} {m : Option Nat} {o : Int} (h : S_glossatorref3_Mod m a0 a1 = some o) : LWp Try.prog f17_lay 0 f17_c1 (f17_Q a0 a1 o) (initEnv 0 [.int .i64 a0, .int .i64 a1]) [] 0 := by
  unfold S_glossatorref3_Mod at h
  refine seqI ?_
  refine regI ?_
  refine seqI ?_
  refine regI ?_
  obtain ⟨h1, h⟩ := ite_some h
  refine And.intro h1 ?_
  refine seqI ?_
  refine seqI ?_
  refine regI ?_
  refine condI (v := (decide ((a0.tmod a1) < 0))) rfl trivial (fun h2 => ?_) (fun h2 => ?_)
  · have h := ite_tt h2 h
    refine regI ?_
    refine LWp.sim ?_ (f17_j1_ok h)
    exact simI (M := []) rfl (And.intro (Vw.same _ rfl) trivial) trivial
  · have h := ite_ff h2 h
    refine skipI ?_
    refine LWp.sim ?_ (f17_j1_ok h)
    exact simI (M := []) rfl (And.intro (Vw.same _ rfl) trivial) trivial

theorem f17_ok {a0 : Int} {a1 : Int} {m : Option Nat} {o : Int} (h : S_glossatorref3_Mod m a0 a1 = some o) : PFn Try.prog 17 [.int .i64 a0, .int .i64 a1] (.int .i64 o) := PFn.ofFnW (L := f17_L) f17_low f17_fok (Nat.le_of_ble_eq_true rfl) rfl (f17_start h)

def f30c0_c0 : LCode := (.seq (.region [⟨some 6, .mv (.c (.int .i64 0)), none⟩,
   ⟨some 7, .mv (.c (.bool false)), none⟩])
 (.seq (.seq (.region [⟨some 8, .mv (.t 0), none⟩,
   ⟨some 9, .bin .eql (.t 8) (.c (.int .i64 0)), none⟩])
 (.cond (.t 9)
  (.seq (.region [⟨some 10, .load false 1 (.t 2), none⟩,
    ⟨some 11, .mv (.t 1), none⟩,
    ⟨some 12, .iaddr 1 (.t 10) (.t 11), none⟩,
    ⟨some 13, .load false 1 (.t 12), none⟩,
    ⟨some 14, .call 17 [(.t 13), (.c (.int .i64 1000003))], none⟩,
    ⟨some 6, .mv (.t 14), none⟩,
    ⟨some 7, .mv (.c (.bool true)), none⟩])
  .ret)
  .skip))
 (.seq (.region [⟨some 15, .load false 1 (.t 3), none⟩,
   ⟨some 16, .mv (.t 1), none⟩,
   ⟨some 17, .iaddr 1 (.t 15) (.t 16), none⟩,
   ⟨some 18, .load false 1 (.t 17), none⟩,
   ⟨some 6, .mv (.t 18), none⟩,
   ⟨some 7, .mv (.c (.bool true)), none⟩])
 .ret)))
def f30c0_lay : Lay := ⟨19, []⟩
def f30c0_res : List LRes := [.t 6, .t 7]
def f30c0_L : LFn := ⟨4, f30c0_lay, f30c0_c0, f30c0_res⟩
theorem f30c0_low : lowFn Try.prog [] 30 = some f30c0_L := by kernel_rfl
theorem f30c0_fok : FnOk Try.prog 30 := ⟨_, Try.func30, rfl, rfl⟩
noncomputable def S_glossatorref3_Values_1c (m : Option Nat) (a0 : List Int) (a1 : List Int) (a2 : Int) (a3 : Int) : Option (Int × Bool) :=
  if (a2 == 0) = true then
    if (0 : Int) ≤ a3 ∧ a3 < ((a0.map e_i64).length : Int) then
    (S_glossatorref3_Mod m (a0.getD a3.toNat default) 1000003).bind fun v1 =>
    some (v1, true)
    else none
  else
    if (0 : Int) ≤ a3 ∧ a3 < ((a1.length : Nat) : Int) then
    if (0 + a3.toNat) < a1.length then
    some ((a1.getD (0 + a3.toNat) default), true)
    else none
    else none

def f30c0_Q (a0 : List Int) (a1 : List Int) (a2 : Int) (a3 : Int) (o : Int × Bool) : Exit → Env → AHeap → Nat → Prop := FinK f30c0_res (FinTo 3 4 (.tup [.int .i64 o.1, .bool o.2]) [((1, 0), .one [.isl 1 (a0.map e_i64) false]), ((1, 1), .one [.msl (3, 0) 1 0 a1.length false]), ((3, 0), .rows 1 (a1.map e_i64))])

theorem f30c0_start {a0 : List Int} {a1 : List Int} {a2 : Int} {a3 : Int} {m : Option Nat} {o : Int × Bool} (h : S_glossatorref3_Values_1c m a0 a1 a2 a3 = some o) : LWp Try.prog f30c0_lay 3 f30c0_c0 (f30c0_Q a0 a1 a2 a3 o) (initEnv 0 [.int .i64 a2, .int .i64 a3, .ptr (1, 0) 0 0, .ptr (1, 1) 0 0]) [((1, 0), .one [.isl 1 (a0.map e_i64) false]), ((1, 1), .one [.msl (2, 0) 1 0 a1.length false]), ((2, 0), .rows 1 (a1.map e_i64))] 3 := by
  unfold S_glossatorref3_Values_1c at h
  refine seqI ?_
  refine regI ?_
  refine seqI ?_
  refine seqI ?_
  refine regI ?_
  refine condI (v := (a2 == 0)) rfl trivial (fun h1 => ?_) (fun h1 => ?_)
  · have h := ite_tt h1 h
    refine seqI ?_
    refine regI ?_
    obtain ⟨h2, h⟩ := ite_some h
    refine And.intro h2 ?_
    show yops _ _ _ [(12, .iptr 1 (a0.map e_i64) a3.toNat 0), (11, .int .i64 a3), (10, .isl 1 (a0.map e_i64) false), (9, .bool (a2 == 0)), (8, .int .i64 a2), (7, .bool false), (6, .int .i64 0), (0, .int .i64 a2), (1, .int .i64 a3), (2, .ptr (1, 0) 0 0), (3, .ptr (1, 1) 0 0)] _ _
    refine Exists.intro (e_i64 (a0.getD a3.toNat default)) (And.intro (getD_enc e_i64 _ _ (idx_ltL e_i64 h2)) (And.intro (And.intro (idx_lt h2) (Nat.le_of_ble_eq_true rfl)) ?_))
    obtain ⟨v1, h3, h⟩ := bind_some h
    refine PFn.call (f17_ok h3) (And.intro (Vw.same _ rfl) (And.intro (Vw.same _ rfl) trivial)) ?_
    refine LWp.sim (e := [(6, .int .i64 v1), (7, .bool true)]) (L := [((1, 0), .one [.isl 1 (a0.map e_i64) false]), ((1, 1), .one [.msl (3, 0) 1 0 a1.length false]), ((3, 0), .rows 1 (a1.map e_i64))]) (n := 4) ?_ ?_
    · exact simI (M := [((3, 0), (2, 0))]) rfl (And.intro (Vw.same _ rfl) (And.intro (Vw.same _ rfl) trivial)) (And.intro (And.intro rfl (BVw.oneL (And.intro (Vw.same _ rfl) trivial))) (And.intro (And.intro rfl (BVw.oneL (And.intro (Vw.mslE rfl (by first | rfl | simp) rfl) trivial))) (And.intro (And.intro rfl (BVw.enc e_i64 (fun _ => rfl) _ a1)) trivial)))
    refine retI ?_
    cases h
    exact And.intro trivial (And.intro trivial (finI (n' := 4) [((3, 0), (3, 0))] [] rfl rfl (Vw.same _ rfl) (And.intro (And.intro rfl (BVw.oneL (And.intro (Vw.same _ rfl) trivial))) (And.intro (And.intro rfl (BVw.oneL (And.intro (Vw.mslE rfl (by first | rfl | simp) rfl) trivial))) (And.intro (And.intro rfl (BVw.enc e_i64 (fun _ => rfl) _ a1)) trivial)))))
  · have h := ite_ff h1 h
    refine skipI ?_
    refine seqI ?_
    refine regI ?_
    obtain ⟨h4, h⟩ := ite_some h
    refine And.intro h4 ?_
    show yops _ _ _ [(17, .ptr (2, 0) (0 + a3.toNat) 0), (16, .int .i64 a3), (15, .msl (2, 0) 1 0 a1.length false), (9, .bool (a2 == 0)), (8, .int .i64 a2), (7, .bool false), (6, .int .i64 0), (0, .int .i64 a2), (1, .int .i64 a3), (2, .ptr (1, 0) 0 0), (3, .ptr (1, 1) 0 0)] _ _
    obtain ⟨h5, h⟩ := ite_some h
    refine Exists.intro (e_i64 (a1.getD (0 + a3.toNat) default)) (And.intro (getD_enc e_i64 _ _ h5) (And.intro (And.intro (lt_map e_i64 h5) (Nat.le_of_ble_eq_true rfl)) ?_))
    refine LWp.sim (e := [(6, .int .i64 (a1.getD (0 + a3.toNat) default)), (7, .bool true)]) (L := [((1, 0), .one [.isl 1 (a0.map e_i64) false]), ((1, 1), .one [.msl (3, 0) 1 0 a1.length false]), ((3, 0), .rows 1 (a1.map e_i64))]) (n := 4) ?_ ?_
    · exact simI (M := [((3, 0), (2, 0))]) rfl (And.intro (Vw.same _ rfl) (And.intro (Vw.same _ rfl) trivial)) (And.intro (And.intro rfl (BVw.oneL (And.intro (Vw.same _ rfl) trivial))) (And.intro (And.intro rfl (BVw.oneL (And.intro (Vw.mslE rfl (by first | rfl | simp) rfl) trivial))) (And.intro (And.intro rfl (BVw.enc e_i64 (fun _ => rfl) _ a1)) trivial)))
    refine retI ?_
    cases h
    exact And.intro trivial (And.intro trivial (finI (n' := 4) [((3, 0), (3, 0))] [] rfl rfl (Vw.same _ rfl) (And.intro (And.intro rfl (BVw.oneL (And.intro (Vw.same _ rfl) trivial))) (And.intro (And.intro rfl (BVw.oneL (And.intro (Vw.mslE rfl (by first | rfl | simp) rfl) trivial))) (And.intro (And.intro rfl (BVw.enc e_i64 (fun _ => rfl) _ a1)) trivial)))))

theorem f30c0_ok {a0 : List Int} {a1 : List Int} {a2 : Int} {a3 : Int} {m : Option Nat} {o : Int × Bool} (h : S_glossatorref3_Values_1c m a0 a1 a2 a3 = some o) : ACalls Try.prog 30 [.int .i64 a2, .int .i64 a3, .ptr (1, 0) 0 0, .ptr (1, 1) 0 0] [((1, 0), .one [.isl 1 (a0.map e_i64) false]), ((1, 1), .one [.msl (2, 0) 1 0 a1.length false]), ((2, 0), .rows 1 (a1.map e_i64))] 3 (Gives 4 (.tup [.int .i64 o.1, .bool o.2]) [((1, 0), .one [.isl 1 (a0.map e_i64) false]), ((1, 1), .one [.msl (3, 0) 1 0 a1.length false]), ((3, 0), .rows 1 (a1.map e_i64))]) := bfn_of (L := f30c0_L) f30c0_low f30c0_fok (Nat.le_of_ble_eq_true rfl) (f30c0_start h)

def f21b0_c2 : LCode := (.seq (.region [⟨some 109, .mv (.t 9), none⟩,
   ⟨some 110, .mv (.t 17), none⟩,
   ⟨some 111, .bin .sub (.t 109) (.t 110), none⟩,
   ⟨some 9, .mv (.t 111), none⟩])
 (.seq (.region [⟨some 112, .mv (.t 9), none⟩,
   ⟨some 113, .mv (.t 16), none⟩,
   ⟨some 114, .iaddrR 24 1 (.t 8) (.t 112), none⟩,
   ⟨none, .store 1 (.t 114) (.t 113), none⟩])
 (.region [⟨some 115, .mv (.t 9), none⟩,
   ⟨some 116, .bin .add (.t 115) (.c (.int .i64 1)), none⟩,
   ⟨some 9, .mv (.t 116), none⟩])))
def f21b0_c3 : LCode := (.seq (.seq (.region [⟨some 97, .mv (.t 14), none⟩,
   ⟨some 98, .bin .geq (.t 97) (.c (.int .i64 0)), none⟩])
 (.cond (.t 98)
  (.seq (.region [⟨some 100, .mv (.t 2), none⟩,
    ⟨some 101, .mv (.t 14), none⟩,
    ⟨some 102, .mv (.t 15), none⟩,
    ⟨some 103, .callv (.t 100) [(.t 101), (.t 102)], none⟩,
    ⟨some 99, .mv (.t 103), none⟩,
    ⟨some 104, .ext 0 (.t 99), none⟩,
    ⟨some 105, .ext 1 (.t 99), none⟩,
    ⟨some 18, .mv (.t 104), none⟩,
    ⟨some 19, .mv (.t 105), none⟩])
  (.seq (.seq (.region [⟨some 106, .mv (.t 19), none⟩,
    ⟨some 107, .un .not (.t 106), none⟩])
  (.cond (.t 107)
   (.seq (.region [⟨some 6, .mv (.c (.int .i64 0)), none⟩,
     ⟨some 7, .mv (.c (.bool false)), none⟩])
   .ret)
   .skip))
  (.region [⟨some 108, .mv (.t 18), none⟩,
    ⟨some 16, .mv (.t 108), none⟩])))
  .skip))
 f21b0_c2)
def f21b0_c4 : LCode := (.seq (.region [⟨some 14, .mv (.c (.int .i64 (-1))), none⟩,
   ⟨some 15, .mv (.c (.int .i64 0)), none⟩])
 (.seq (.region [⟨some 16, .mv (.c (.int .i64 0)), none⟩,
   ⟨some 17, .mv (.c (.int .i64 2)), none⟩])
 (.seq (.seq (.region [⟨some 38, .faddr 0 (.t 11), none⟩,
   ⟨some 39, .load false 1 (.t 38), none⟩])
 (.block 2
  (.seq (.region [⟨some 44, .bin .eql (.t 39) (.c (.int .i64 1)), none⟩,
    ⟨some 43, .mv (.t 44), none⟩])
  (.cond (.t 43)
   (.region [⟨some 45, .faddr 1 (.t 11), none⟩,
     ⟨some 46, .load false 1 (.t 45), none⟩,
     ⟨some 47, .call 17 [(.t 46), (.c (.int .i64 1000003))], none⟩,
     ⟨some 16, .mv (.t 47), none⟩,
     ⟨some 17, .mv (.c (.int .i64 0)), none⟩])
   (.seq (.region [⟨some 49, .bin .eql (.t 39) (.c (.int .i64 2)), none⟩,
     ⟨some 48, .mv (.t 49), none⟩])
   (.cond (.t 48)
    (.quiet [⟨some 50, .faddr 1 (.t 11), none⟩,
      ⟨some 51, .load false 1 (.t 50), none⟩,
      ⟨some 14, .mv (.c (.int .i64 0)), none⟩,
      ⟨some 15, .mv (.t 51), none⟩,
      ⟨some 17, .mv (.c (.int .i64 0)), none⟩])
    (.seq (.region [⟨some 53, .bin .eql (.t 39) (.c (.int .i64 3)), none⟩,
      ⟨some 52, .mv (.t 53), none⟩])
    (.cond (.t 52)
     (.quiet [⟨some 54, .faddr 1 (.t 11), none⟩,
       ⟨some 55, .load false 1 (.t 54), none⟩,
       ⟨some 14, .mv (.c (.int .i64 1)), none⟩,
       ⟨some 15, .mv (.t 55), none⟩,
       ⟨some 17, .mv (.c (.int .i64 0)), none⟩])
     (.seq (.region [⟨some 57, .bin .eql (.t 39) (.c (.int .i64 4)), none⟩,
       ⟨some 56, .mv (.t 57), none⟩])
     (.cond (.t 56)
      (.quiet [⟨some 58, .mv (.t 13), none⟩,
        ⟨some 59, .mv (.t 1), none⟩,
        ⟨some 60, .bin .rem (.t 58) (.t 59), none⟩,
        ⟨some 14, .mv (.c (.int .i64 1)), none⟩,
        ⟨some 15, .mv (.t 60), none⟩,
        ⟨some 17, .mv (.c (.int .i64 1)), none⟩])
      (.seq (.region [⟨some 62, .bin .eql (.t 39) (.c (.int .i64 5)), none⟩,
        ⟨some 61, .mv (.t 62), none⟩])
      (.cond (.t 61)
       (.seq (.quiet [⟨some 63, .faddr 1 (.t 11), none⟩,
         ⟨some 64, .load false 1 (.t 63), none⟩,
         ⟨some 14, .mv (.c (.int .i64 1)), none⟩,
         ⟨some 15, .mv (.t 64), none⟩,
         ⟨some 17, .mv (.c (.int .i64 1)), none⟩])
       (.seq (.region [⟨some 65, .mv (.t 13), none⟩,
         ⟨some 66, .bin .eql (.t 65) (.c (.int .i64 0)), none⟩])
       (.cond (.t 66)
        (.region [⟨some 67, .faddr 2 (.t 11), none⟩,
          ⟨some 68, .load false 1 (.t 67), none⟩,
          ⟨some 15, .mv (.t 68), none⟩])
        .skip)))
       (.seq (.region [⟨some 70, .bin .eql (.t 39) (.c (.int .i64 6)), none⟩,
         ⟨some 69, .mv (.t 70), none⟩])
       (.cond (.t 69)
        (.region [⟨some 71, .mv (.t 12), none⟩,
          ⟨some 72, .mv (.t 13), none⟩,
          ⟨some 73, .bin .add (.t 71) (.t 72), none⟩,
          ⟨some 74, .call 17 [(.t 73), (.c (.int .i64 1000003))], none⟩,
          ⟨some 16, .mv (.t 74), none⟩])
        (.seq (.region [⟨some 76, .bin .eql (.t 39) (.c (.int .i64 7)), none⟩,
          ⟨some 75, .mv (.t 76), none⟩])
        (.cond (.t 75)
         (.region [⟨some 77, .mv (.t 12), none⟩,
           ⟨some 78, .mv (.t 13), none⟩,
           ⟨some 79, .bin .sub (.t 77) (.t 78), none⟩,
           ⟨some 80, .call 17 [(.t 79), (.c (.int .i64 1000003))], none⟩,
           ⟨some 16, .mv (.t 80), none⟩])
         (.seq (.region [⟨some 82, .bin .eql (.t 39) (.c (.int .i64 8)), none⟩,
           ⟨some 81, .mv (.t 82), none⟩])
         (.cond (.t 81)
          (.region [⟨some 83, .mv (.t 12), none⟩,
            ⟨some 84, .mv (.t 13), none⟩,
            ⟨some 85, .bin .mul (.t 83) (.t 84), none⟩,
            ⟨some 86, .call 17 [(.t 85), (.c (.int .i64 1000003))], none⟩,
            ⟨some 16, .mv (.t 86), none⟩])
          (.seq (.region [⟨some 88, .bin .eql (.t 39) (.c (.int .i64 9)), none⟩,
            ⟨some 87, .mv (.t 88), none⟩])
          (.cond (.t 87)
           (.region [⟨some 89, .mv (.t 12), none⟩,
             ⟨some 90, .mv (.t 13), none⟩,
             ⟨some 91, .mnx false [(.t 89), (.t 90)], none⟩,
             ⟨some 16, .mv (.t 91), none⟩])
           (.seq (.region [⟨some 93, .bin .eql (.t 39) (.c (.int .i64 10)), none⟩,
             ⟨some 92, .mv (.t 93), none⟩])
           (.cond (.t 92)
            (.region [⟨some 94, .mv (.t 12), none⟩,
              ⟨some 95, .mv (.t 13), none⟩,
              ⟨some 96, .mnx true [(.t 94), (.t 95)], none⟩,
              ⟨some 16, .mv (.t 96), none⟩])
            (.seq (.region [⟨some 40, .mv (.t 12), none⟩,
              ⟨some 41, .mv (.t 13), none⟩,
              ⟨some 42, .bin .lss (.t 40) (.t 41), none⟩])
            (.cond (.t 42)
             (.region [⟨some 16, .mv (.c (.int .i64 1)), none⟩])
             .skip))))))))))))))))))))))))
 f21b0_c3)))
def f21b0_c5 : LCode := (.seq (.seq (.region [⟨some 32, .mv (.t 9), none⟩,
   ⟨some 33, .bin .gtr (.t 32) (.c (.int .i64 1)), none⟩])
 (.cond (.t 33)
  (.region [⟨some 34, .mv (.t 9), none⟩,
    ⟨some 35, .bin .sub (.t 34) (.c (.int .i64 2)), none⟩,
    ⟨some 36, .iaddrR 24 1 (.t 8) (.t 35), none⟩,
    ⟨some 37, .load false 1 (.t 36), none⟩,
    ⟨some 12, .mv (.t 37), none⟩])
  .skip))
 f21b0_c4)
def f21b0_c0 : LCode := (.region [⟨some 117, .bin .add (.t 22) (.c (.int .i64 1)), none⟩,
   ⟨some 22, .mv (.t 117), none⟩])
def f21b0_c6 : LCode := (.seq (.region [⟨some 23, .bin .lss (.t 22) (.t 21), none⟩])
 (.seq (.cond (.t 23)
  .skip
  (.exit 0))
 (.seq (.block 1
  (.seq (.region [⟨some 24, .iaddr 3 (.t 20) (.t 22), none⟩,
    ⟨some 25, .load true 3 (.t 24), none⟩,
    ⟨some 11, .alloc [(.int .i64 0), (.int .i64 0), (.int .i64 0)], none⟩,
    ⟨none, .store 3 (.t 11) (.t 25), none⟩])
  (.seq (.region [⟨some 12, .mv (.c (.int .i64 0)), none⟩,
    ⟨some 13, .mv (.c (.int .i64 0)), none⟩])
  (.seq (.seq (.region [⟨some 26, .mv (.t 9), none⟩,
    ⟨some 27, .bin .gtr (.t 26) (.c (.int .i64 0)), none⟩])
  (.cond (.t 27)
   (.region [⟨some 28, .mv (.t 9), none⟩,
     ⟨some 29, .bin .sub (.t 28) (.c (.int .i64 1)), none⟩,
     ⟨some 30, .iaddrR 24 1 (.t 8) (.t 29), none⟩,
     ⟨some 31, .load false 1 (.t 30), none⟩,
     ⟨some 13, .mv (.t 31), none⟩])
   .skip))
  f21b0_c5))))
 f21b0_c0)))
def f21b0_c1 : LCode := (.seq (.region [⟨some 118, .iaddrR 24 1 (.t 8) (.c (.int .i64 0)), none⟩,
   ⟨some 119, .load false 1 (.t 118), none⟩,
   ⟨some 6, .mv (.t 119), none⟩,
   ⟨some 7, .mv (.c (.bool true)), none⟩])
 .ret)
def f21b0_c7 : LCode := (.seq (.region [⟨some 6, .mv (.c (.int .i64 0)), none⟩,
   ⟨some 7, .mv (.c (.bool false)), none⟩])
 (.seq (.region [⟨some 8, .allocR 1 [(.int .i64 0), (.int .i64 0), (.int .i64 0), (.int .i64 0), (.int .i64 0), (.int .i64 0), (.int .i64 0), (.int .i64 0), (.int .i64 0), (.int .i64 0), (.int .i64 0), (.int .i64 0), (.int .i64 0), (.int .i64 0), (.int .i64 0), (.int .i64 0), (.int .i64 0), (.int .i64 0), (.int .i64 0), (.int .i64 0), (.int .i64 0), (.int .i64 0), (.int .i64 0), (.int .i64 0)], none⟩])
 (.seq (.region [⟨some 9, .mv (.c (.int .i64 0)), none⟩])
 (.seq (.seq (.region [⟨some 20, .mv (.t 0), none⟩,
   ⟨some 21, .len false (.t 20), none⟩,
   ⟨some 22, .mv (.c (.int .i64 0)), none⟩])
 (.block 0
  (.loop
   f21b0_c6)))
 f21b0_c1))))
def f21b0_lay : Lay := ⟨120, [8, 30, 36, 114, 118]⟩
def f21b0_res : List LRes := [.t 6, .t 7]
def f21b0_L : LFn := ⟨3, f21b0_lay, f21b0_c7, f21b0_res⟩
theorem f21b0_low : lowFn Try.prog [8, 30, 36, 114, 118] 21 = some f21b0_L := by kernel_rfl
theorem f21b0_fok : FnOk Try.prog 21 := ⟨_, Try.func21, rfl, rfl⟩
def f21b0_Q {σ : Type} (Hc : σ → AHeap) (fi0 : FuncId) (ff0 fc0 : List AVal) (a0 : List G_QOp) (a1 : Int) (z0 : σ) (o : Int × Bool × σ) : Exit → Env → AHeap → Nat → Prop := FinK f21b0_res (FinTo 3 4 (.tup [.int .i64 o.1, .bool o.2.1]) ([] ++ up 3 (Hc o.2.2)))

def f21b0_L1_env {σ : Type} (Hc : σ → AHeap) (fi0 : FuncId) (ff0 fc0 : List AVal) (a0 : List G_QOp) (a1 : Int) (s : (Int × Int × (List Int) × σ)) : Env := [(1, .int .i64 a1), (2, .fn (.func fi0) ff0 fc0), (8, .ptr (4, 0) 0 0), (9, .int .i64 s.1), (20, .isl 3 (a0.map e_QOp) false), (21, .int .i64 ((a0.map e_QOp).length : Int)), (22, .int .i64 s.2.1)]
def f21b0_L1_hp {σ : Type} (Hc : σ → AHeap) (fi0 : FuncId) (ff0 fc0 : List AVal) (a0 : List G_QOp) (a1 : Int) (s : (Int × Int × (List Int) × σ)) : AHeap := ([((4, 0), .rows 1 (s.2.2.1.map e_i64))] ++ up 3 (Hc s.2.2.2))
def f21b0_L1_Q {σ : Type} (Hc : σ → AHeap) (fi0 : FuncId) (ff0 fc0 : List AVal) (a0 : List G_QOp) (a1 : Int) (z0 : σ) (o : (Int × Bool × σ)) : Exit → Env → AHeap → Nat → Prop := (QBlock 0 (QSeq Try.prog f21b0_lay 3 f21b0_c1 (f21b0_Q Hc fi0 ff0 fc0 a0 a1 z0 o)))

noncomputable def S_glossatorref3_Exec_j12 {σ : Type} (g0 : σ → (Int × Int) → Option ((Int × Bool) × σ)) (m : Option Nat) (a0 : List G_QOp) (a1 : Int) (v14 : Int) (v15 : Int) (v16 : List Int) (v40 : Int) (v42 : Int) (v43 : σ) : Option ((Int × Int × (List Int) × σ) ⊕ (Int × Bool × σ)) :=
  if (0 : Int) ≤ (W (v14 - v40)) ∧ (W (v14 - v40)) < ((24 : Nat) : Int) then
  if (0 + (W (v14 - v40)).toNat) < v16.length then
  some (.inl ((W ((W (v14 - v40)) + 1)), (W (v15 + 1)), (v16.set (0 + (W (v14 - v40)).toNat) v42), v43))
  else none
  else none

theorem f21b0_j12_ok {σ : Type} {Hc : σ → AHeap} {fi0 : FuncId} {ff0 fc0 : List AVal} {g0 : σ → (Int × Int) → Option ((Int × Bool) × σ)} (hg0 : Clo Try.prog fi0 ff0 fc0 Hc (fun (x : (Int × Int)) => [.int .i64 x.1, .int .i64 x.2]) (fun (b : (Int × Bool)) => .tup [.int .i64 b.1, .bool b.2]) g0) {z0 : σ} {a0 : List G_QOp} {a1 : Int} {v14 : Int} {v15 : Int} {v16 : List Int} {v40 : Int} {v42 : Int} {v43 : σ} {m : Option Nat} {o : ((Int × Int × (List Int) × σ) ⊕ (Int × Bool × σ))} (h : S_glossatorref3_Exec_j12 g0 m a0 a1 v14 v15 v16 v40 v42 v43 = some o) :
    LWp Try.prog f21b0_lay 3 f21b0_c2 (QBlock 1 (QSeq Try.prog f21b0_lay 3 f21b0_c0 (BodyQ 3 5 (f21b0_L1_env Hc fi0 ff0 fc0 a0 a1) (f21b0_L1_hp Hc fi0 ff0 fc0 a0 a1) (f21b0_L1_Q Hc fi0 ff0 fc0 a0 a1 z0) o))) [(1, .int .i64 a1), (2, .fn (.func fi0) ff0 fc0), (8, .ptr (4, 0) 0 0), (9, .int .i64 v14), (16, .int .i64 v42), (17, .int .i64 v40), (20, .isl 3 (a0.map e_QOp) false), (21, .int .i64 ((a0.map e_QOp).length : Int)), (22, .int .i64 v15)] ([((4, 0), .rows 1 (v16.map e_i64))] ++ up 3 (Hc v43)) 5 := by
  unfold S_glossatorref3_Exec_j12 at h
  refine seqI ?_
  refine regI ?_
  refine seqI ?_
  refine regI ?_
  obtain ⟨h89, h⟩ := ite_some h
  refine And.intro h89 ?_
  show yops _ _ _ [(114, .ptr (4, 0) (0 + (W (v14 - v40)).toNat) 0), (113, .int .i64 v42), (112, .int .i64 (W (v14 - v40))), (9, .int .i64 (W (v14 - v40))), (111, .int .i64 (W (v14 - v40))), (110, .int .i64 v40), (109, .int .i64 v14), (1, .int .i64 a1), (2, .fn (.func fi0) ff0 fc0), (8, .ptr (4, 0) 0 0), (9, .int .i64 v14), (16, .int .i64 v42), (17, .int .i64 v40), (20, .isl 3 (a0.map e_QOp) false), (21, .int .i64 ((a0.map e_QOp).length : Int)), (22, .int .i64 v15)] _ _
  obtain ⟨h90, h⟩ := ite_some h
  refine Exists.intro ((v16.set (0 + (W (v14 - v40)).toNat) v42).map e_i64) (And.intro (set_enc e_i64 _ _ _ _ _ h90 rfl) (And.intro (And.intro rfl (And.intro (lt_map e_i64 h90) (Nat.le_of_ble_eq_true rfl))) ?_))
  refine LWp.sim (e := [(1, .int .i64 a1), (2, .fn (.func fi0) ff0 fc0), (8, .ptr (4, 0) 0 0), (9, .int .i64 (W (v14 - v40))), (20, .isl 3 (a0.map e_QOp) false), (21, .int .i64 ((a0.map e_QOp).length : Int)), (22, .int .i64 v15)]) (L := ([((4, 0), .rows 1 ((v16.set (0 + (W (v14 - v40)).toNat) v42).map e_i64))] ++ up 3 (Hc v43))) (n := 5) ?_ ?_
  · exact simT (M := [((4, 0), (4, 0))]) (lit' := [((4, 0), .rows 1 ((v16.set (0 + (W (v14 - v40)).toNat) v42).map e_i64))]) (hg0.tl _) rfl (And.intro (Vw.same _ rfl) (And.intro (Vw.clo hg0.hf hg0.hc (by decide) (rhoT_1 (chkT_ok (n := 5) (q := 3) (lit' := [((4, 0), .rows 1 ((v16.set (0 + (W (v14 - v40)).toNat) v42).map e_i64))]) rfl))) (And.intro (Vw.ptr _ _ _ _ rfl) (And.intro (Vw.same _ rfl) (And.intro (Vw.same _ rfl) (And.intro (Vw.same _ rfl) (And.intro (Vw.same _ rfl) trivial))))))) (And.intro (And.intro rfl (BVw.enc e_i64 (fun _ => rfl) _ (v16.set (0 + (W (v14 - v40)).toNat) v42))) trivial)
  refine regI ?_
  refine regI ?_
  cases h
  exact And.intro rfl (simT (M := [((4, 0), (4, 0))]) (lit' := [((4, 0), .rows 1 ((v16.set (0 + (W (v14 - v40)).toNat) v42).map e_i64))]) (hg0.tl _) rfl (And.intro (Vw.same _ rfl) (And.intro (Vw.clo hg0.hf hg0.hc (by decide) (rhoT_1 (chkT_ok (n := 5) (q := 3) (lit' := [((4, 0), .rows 1 ((v16.set (0 + (W (v14 - v40)).toNat) v42).map e_i64))]) rfl))) (And.intro (Vw.ptr _ _ _ _ rfl) (And.intro (Vw.same _ rfl) (And.intro (Vw.same _ rfl) (And.intro (Vw.same _ rfl) (And.intro (Vw.same _ rfl) trivial))))))) (And.intro (And.intro rfl (BVw.enc e_i64 (fun _ => rfl) _ (v16.set (0 + (W (v14 - v40)).toNat) v42))) trivial))

noncomputable def S_glossatorref3_Exec_j11 {σ : Type} (g0 : σ → (Int × Int) → Option ((Int × Bool) × σ)) (m : Option Nat) (a0 : List G_QOp) (a1 : Int) (v14 : Int) (v15 : Int) (v16 : List Int) (v17 : σ) (v37 : Int) (v38 : Int) (v39 : Int) (v40 : Int) : Option ((Int × Int × (List Int) × σ) ⊕ (Int × Bool × σ)) :=
  if (decide (v37 ≥ 0)) = true then
    (g0 v17 (v37, v38)).bind fun v41 =>
    if (!v41.1.2) = true then
      Option.map Sum.inr (
        some (0, false, v41.2))
    else
      S_glossatorref3_Exec_j12 g0 m a0 a1 v14 v15 v16 v40 v41.1.1 v41.2
  else
    S_glossatorref3_Exec_j12 g0 m a0 a1 v14 v15 v16 v40 v39 v17

theorem f21b0_j11_ok {σ : Type} {Hc : σ → AHeap} {fi0 : FuncId} {ff0 fc0 : List AVal} {g0 : σ → (Int × Int) → Option ((Int × Bool) × σ)} (hg0 : Clo Try.prog fi0 ff0 fc0 Hc (fun (x : (Int × Int)) => [.int .i64 x.1, .int .i64 x.2]) (fun (b : (Int × Bool)) => .tup [.int .i64 b.1, .bool b.2]) g0) {z0 : σ} {a0 : List G_QOp} {a1 : Int} {v14 : Int} {v15 : Int} {v16 : List Int} {v17 : σ} {v37 : Int} {v38 : Int} {v39 : Int} {v40 : Int} {m : Option Nat} {o : ((Int × Int × (List Int) × σ) ⊕ (Int × Bool × σ))} (h : S_glossatorref3_Exec_j11 g0 m a0 a1 v14 v15 v16 v17 v37 v38 v39 v40 = some o) :
    LWp Try.prog f21b0_lay 3 f21b0_c3 (QBlock 1 (QSeq Try.prog f21b0_lay 3 f21b0_c0 (BodyQ 3 5 (f21b0_L1_env Hc fi0 ff0 fc0 a0 a1) (f21b0_L1_hp Hc fi0 ff0 fc0 a0 a1) (f21b0_L1_Q Hc fi0 ff0 fc0 a0 a1 z0) o))) [(1, .int .i64 a1), (2, .fn (.func fi0) ff0 fc0), (8, .ptr (4, 0) 0 0), (9, .int .i64 v14), (14, .int .i64 v37), (15, .int .i64 v38), (16, .int .i64 v39), (17, .int .i64 v40), (20, .isl 3 (a0.map e_QOp) false), (21, .int .i64 ((a0.map e_QOp).length : Int)), (22, .int .i64 v15)] ([((4, 0), .rows 1 (v16.map e_i64))] ++ up 3 (Hc v17)) 5 := by
  unfold S_glossatorref3_Exec_j11 at h
  refine seqI ?_
  refine seqI ?_
  refine regI ?_
  refine condI (v := (decide (v37 ≥ 0))) rfl trivial (fun h86 => ?_) (fun h86 => ?_)
  · have h := ite_tt h86 h
    refine seqI ?_
    refine regI ?_
    obtain ⟨v41, h87, h⟩ := bind_some h
    refine Clo.use (q := 3) (lit := [((4, 0), .rows 1 (v16.map e_i64))]) hg0 h87 rfl rfl (And.intro (Vw.same _ rfl) (And.intro (Vw.same _ rfl) trivial)) ?_
    show yops _ _ _ [(103, .tup [.int .i64 v41.1.1, .bool v41.1.2]), (102, .int .i64 v38), (101, .int .i64 v37), (100, .fn (.func fi0) ff0 fc0), (98, .bool (decide (v37 ≥ 0))), (97, .int .i64 v37), (1, .int .i64 a1), (2, .fn (.func fi0) ff0 fc0), (8, .ptr (4, 0) 0 0), (9, .int .i64 v14), (14, .int .i64 v37), (15, .int .i64 v38), (16, .int .i64 v39), (17, .int .i64 v40), (20, .isl 3 (a0.map e_QOp) false), (21, .int .i64 ((a0.map e_QOp).length : Int)), (22, .int .i64 v15)] _ _
    refine LWp.sim (e := [(1, .int .i64 a1), (2, .fn (.func fi0) ff0 fc0), (8, .ptr (4, 0) 0 0), (9, .int .i64 v14), (17, .int .i64 v40), (18, .int .i64 v41.1.1), (19, .bool v41.1.2), (20, .isl 3 (a0.map e_QOp) false), (21, .int .i64 ((a0.map e_QOp).length : Int)), (22, .int .i64 v15)]) (L := ([((4, 0), .rows 1 (v16.map e_i64))] ++ up 3 (Hc v41.2))) (n := 5) ?_ ?_
    · exact simT (M := [((4, 0), (4, 0))]) (lit' := [((4, 0), .rows 1 (v16.map e_i64))]) (hg0.tl _) rfl (And.intro (Vw.same _ rfl) (And.intro (Vw.clo hg0.hf hg0.hc (by decide) (rhoT_1 (chkT_ok (n := 5) (q := 5) (lit' := [((4, 0), .rows 1 (v16.map e_i64))]) rfl))) (And.intro (Vw.ptr _ _ _ _ rfl) (And.intro (Vw.same _ rfl) (And.intro (Vw.same _ rfl) (And.intro (Vw.same _ rfl) (And.intro (Vw.same _ rfl) (And.intro (Vw.same _ rfl) (And.intro (Vw.same _ rfl) (And.intro (Vw.same _ rfl) trivial)))))))))) (And.intro (And.intro rfl (BVw.enc e_i64 (fun _ => rfl) _ v16)) trivial)
    refine seqI ?_
    refine seqI ?_
    refine regI ?_
    refine condI (v := (!v41.1.2)) rfl trivial (fun h88 => ?_) (fun h88 => ?_)
    · have h := ite_tt h88 h
      refine seqI ?_
      refine regI ?_
      refine retI ?_
      obtain ⟨o, hq, rfl⟩ := Option.map_eq_some_iff.1 h
      replace h := hq; clear hq
      refine And.intro nofun ?_
      cases h
      exact And.intro trivial (And.intro trivial (finT (n' := 5) (q := 3) (lit' := [((4, 0), .rows 1 (v16.map e_i64))]) (hg0.tl _) [] [] rfl rfl (Vw.same _ rfl) trivial))
    · have h := ite_ff h88 h
      refine skipI ?_
      refine regI ?_
      refine LWp.sim ?_ (f21b0_j12_ok hg0 h)
      exact simT (M := [((4, 0), (4, 0))]) (lit' := [((4, 0), .rows 1 (v16.map e_i64))]) (hg0.tl _) rfl (And.intro (Vw.same _ rfl) (And.intro (Vw.clo hg0.hf hg0.hc (by decide) (rhoT_1 (chkT_ok (n := 5) (q := 3) (lit' := [((4, 0), .rows 1 (v16.map e_i64))]) rfl))) (And.intro (Vw.ptr _ _ _ _ rfl) (And.intro (Vw.same _ rfl) (And.intro (Vw.same _ rfl) (And.intro (Vw.same _ rfl) (And.intro (Vw.same _ rfl) (And.intro (Vw.same _ rfl) (And.intro (Vw.same _ rfl) trivial))))))))) (And.intro (And.intro rfl (BVw.enc e_i64 (fun _ => rfl) _ v16)) trivial)
  · have h := ite_ff h86 h
    refine skipI ?_
    refine LWp.sim ?_ (f21b0_j12_ok hg0 h)
    exact simT (M := [((4, 0), (4, 0))]) (lit' := [((4, 0), .rows 1 (v16.map e_i64))]) (hg0.tl _) rfl (And.intro (Vw.same _ rfl) (And.intro (Vw.clo hg0.hf hg0.hc (by decide) (rhoT_1 (chkT_ok (n := 5) (q := 3) (lit' := [((4, 0), .rows 1 (v16.map e_i64))]) rfl))) (And.intro (Vw.ptr _ _ _ _ rfl) (And.intro (Vw.same _ rfl) (And.intro (Vw.same _ rfl) (And.intro (Vw.same _ rfl) (And.intro (Vw.same _ rfl) (And.intro (Vw.same _ rfl) (And.intro (Vw.same _ rfl) trivial))))))))) (And.intro (And.intro rfl (BVw.enc e_i64 (fun _ => rfl) _ v16)) trivial)

noncomputable def S_glossatorref3_Exec_j10 {σ : Type} (g0 : σ → (Int × Int) → Option ((Int × Bool) × σ)) (m : Option Nat) (a0 : List G_QOp) (a1 : Int) (v14 : Int) (v15 : Int) (v16 : List Int) (v17 : σ) (v31 : Int) (v32 : Int) : Option ((Int × Int × (List Int) × σ) ⊕ (Int × Bool × σ)) :=
  if ((a0.getD v15.toNat default).f_Op == 1) = true then
    (S_glossatorref3_Mod m ((a0.getD v15.toNat default).f_A) 1000003).bind fun v33 =>
    S_glossatorref3_Exec_j11 g0 m a0 a1 v14 v15 v16 v17 (-1) 0 v33 0
  else
    if ((a0.getD v15.toNat default).f_Op == 2) = true then
      S_glossatorref3_Exec_j11 g0 m a0 a1 v14 v15 v16 v17 0 ((a0.getD v15.toNat default).f_A) 0 0
    else
      if ((a0.getD v15.toNat default).f_Op == 3) = true then
        S_glossatorref3_Exec_j11 g0 m a0 a1 v14 v15 v16 v17 1 ((a0.getD v15.toNat default).f_A) 0 0
      else
        if ((a0.getD v15.toNat default).f_Op == 4) = true then
          if a1 ≠ 0 then
          S_glossatorref3_Exec_j11 g0 m a0 a1 v14 v15 v16 v17 1 (v31.tmod a1) 0 1
          else none
        else
          if ((a0.getD v15.toNat default).f_Op == 5) = true then
            if (v31 == 0) = true then
              S_glossatorref3_Exec_j11 g0 m a0 a1 v14 v15 v16 v17 1 ((a0.getD v15.toNat default).f_B) 0 1
            else
              S_glossatorref3_Exec_j11 g0 m a0 a1 v14 v15 v16 v17 1 ((a0.getD v15.toNat default).f_A) 0 1
          else
            if ((a0.getD v15.toNat default).f_Op == 6) = true then
              (S_glossatorref3_Mod m (W (v32 + v31)) 1000003).bind fun v34 =>
              S_glossatorref3_Exec_j11 g0 m a0 a1 v14 v15 v16 v17 (-1) 0 v34 2
            else
              if ((a0.getD v15.toNat default).f_Op == 7) = true then
                (S_glossatorref3_Mod m (W (v32 - v31)) 1000003).bind fun v35 =>
                S_glossatorref3_Exec_j11 g0 m a0 a1 v14 v15 v16 v17 (-1) 0 v35 2
              else
                if ((a0.getD v15.toNat default).f_Op == 8) = true then
                  (S_glossatorref3_Mod m (W (v32 * v31)) 1000003).bind fun v36 =>
                  S_glossatorref3_Exec_j11 g0 m a0 a1 v14 v15 v16 v17 (-1) 0 v36 2
                else
                  if ((a0.getD v15.toNat default).f_Op == 9) = true then
                    S_glossatorref3_Exec_j11 g0 m a0 a1 v14 v15 v16 v17 (-1) 0 (if v31 < v32 then v31 else v32) 2
                  else
                    if ((a0.getD v15.toNat default).f_Op == 10) = true then
                      S_glossatorref3_Exec_j11 g0 m a0 a1 v14 v15 v16 v17 (-1) 0 (if v31 > v32 then v31 else v32) 2
                    else
                      if (decide (v32 < v31)) = true then
                        S_glossatorref3_Exec_j11 g0 m a0 a1 v14 v15 v16 v17 (-1) 0 1 2
                      else
                        S_glossatorref3_Exec_j11 g0 m a0 a1 v14 v15 v16 v17 (-1) 0 0 2

theorem f21b0_j10_ok {σ : Type} {Hc : σ → AHeap} {fi0 : FuncId} {ff0 fc0 : List AVal} {g0 : σ → (Int × Int) → Option ((Int × Bool) × σ)} (hg0 : Clo Try.prog fi0 ff0 fc0 Hc (fun (x : (Int × Int)) => [.int .i64 x.1, .int .i64 x.2]) (fun (b : (Int × Bool)) => .tup [.int .i64 b.1, .bool b.2]) g0) {z0 : σ} {a0 : List G_QOp} {a1 : Int} {v14 : Int} {v15 : Int} {v16 : List Int} {v17 : σ} {v31 : Int} {v32 : Int} {m : Option Nat} {o : ((Int × Int × (List Int) × σ) ⊕ (Int × Bool × σ))} (h : S_glossatorref3_Exec_j10 g0 m a0 a1 v14 v15 v16 v17 v31 v32 = some o) :
    LWp Try.prog f21b0_lay 3 f21b0_c4 (QBlock 1 (QSeq Try.prog f21b0_lay 3 f21b0_c0 (BodyQ 3 5 (f21b0_L1_env Hc fi0 ff0 fc0 a0 a1) (f21b0_L1_hp Hc fi0 ff0 fc0 a0 a1) (f21b0_L1_Q Hc fi0 ff0 fc0 a0 a1 z0) o))) [(1, .int .i64 a1), (2, .fn (.func fi0) ff0 fc0), (8, .ptr (4, 0) 0 0), (9, .int .i64 v14), (11, .ptr (5, 0) 0 0), (12, .int .i64 v32), (13, .int .i64 v31), (20, .isl 3 (a0.map e_QOp) false), (21, .int .i64 ((a0.map e_QOp).length : Int)), (22, .int .i64 v15)] ([((4, 0), .rows 1 (v16.map e_i64)), ((5, 0), .one [.int .i64 ((a0.getD v15.toNat default).f_Op), .int .i64 ((a0.getD v15.toNat default).f_A), .int .i64 ((a0.getD v15.toNat default).f_B)])] ++ up 3 (Hc v17)) 6 := by
  unfold S_glossatorref3_Exec_j10 at h
  refine seqI ?_
  refine regI ?_
  refine seqI ?_
  refine regI ?_
  refine seqI ?_
  refine seqI ?_
  refine regI ?_
  refine blockI ?_
  refine seqI ?_
  refine regI ?_
  refine LWp.sim (e := [(1, .int .i64 a1), (2, .fn (.func fi0) ff0 fc0), (8, .ptr (4, 0) 0 0), (9, .int .i64 v14), (11, .ptr (5, 0) 0 0), (12, .int .i64 v32), (13, .int .i64 v31), (14, .int .i64 (-1)), (15, .int .i64 0), (16, .int .i64 0), (17, .int .i64 2), (20, .isl 3 (a0.map e_QOp) false), (21, .int .i64 ((a0.map e_QOp).length : Int)), (22, .int .i64 v15), (39, .int .i64 ((a0.getD v15.toNat default).f_Op)), (43, .bool ((a0.getD v15.toNat default).f_Op == 1))]) (L := ([((4, 0), .rows 1 (v16.map e_i64)), ((5, 0), .one [.int .i64 ((a0.getD v15.toNat default).f_Op), .int .i64 ((a0.getD v15.toNat default).f_A), .int .i64 ((a0.getD v15.toNat default).f_B)])] ++ up 3 (Hc v17))) (n := 6) ?_ ?_
  · exact simT (M := [((4, 0), (4, 0)), ((5, 0), (5, 0))]) (lit' := [((4, 0), .rows 1 (v16.map e_i64)), ((5, 0), .one [.int .i64 ((a0.getD v15.toNat default).f_Op), .int .i64 ((a0.getD v15.toNat default).f_A), .int .i64 ((a0.getD v15.toNat default).f_B)])]) (hg0.tl _) rfl (And.intro (Vw.same _ rfl) (And.intro (Vw.clo hg0.hf hg0.hc (by decide) (rhoT_1 (chkT_ok (n := 6) (q := 3) (lit' := [((4, 0), .rows 1 (v16.map e_i64)), ((5, 0), .one [.int .i64 ((a0.getD v15.toNat default).f_Op), .int .i64 ((a0.getD v15.toNat default).f_A), .int .i64 ((a0.getD v15.toNat default).f_B)])]) rfl))) (And.intro (Vw.ptr _ _ _ _ rfl) (And.intro (Vw.same _ rfl) (And.intro (Vw.ptr _ _ _ _ rfl) (And.intro (Vw.same _ rfl) (And.intro (Vw.same _ rfl) (And.intro (Vw.same _ rfl) (And.intro (Vw.same _ rfl) (And.intro (Vw.same _ rfl) (And.intro (Vw.same _ rfl) (And.intro (Vw.same _ rfl) (And.intro (Vw.same _ rfl) (And.intro (Vw.same _ rfl) (And.intro (Vw.same _ rfl) (And.intro (Vw.same _ rfl) trivial)))))))))))))))) (And.intro (And.intro rfl (BVw.enc e_i64 (fun _ => rfl) _ v16)) (And.intro (And.intro rfl (BVw.oneL (And.intro (Vw.same _ rfl) (And.intro (Vw.same _ rfl) (And.intro (Vw.same _ rfl) trivial))))) trivial))
  refine condI (v := ((a0.getD v15.toNat default).f_Op == 1)) rfl trivial (fun h69 => ?_) (fun h69 => ?_)
  · have h := ite_tt h69 h
    refine regI ?_
    obtain ⟨v33, h70, h⟩ := bind_some h
    refine PFn.call (f17_ok h70) (And.intro (Vw.same _ rfl) (And.intro (Vw.same _ rfl) trivial)) ?_
    refine LWp.sim ?_ (f21b0_j11_ok hg0 h)
    exact simT (M := [((4, 0), (4, 0))]) (lit' := [((4, 0), .rows 1 (v16.map e_i64)), ((5, 0), .one [.int .i64 ((a0.getD v15.toNat default).f_Op), .int .i64 ((a0.getD v15.toNat default).f_A), .int .i64 ((a0.getD v15.toNat default).f_B)])]) (hg0.tl _) rfl (And.intro (Vw.same _ rfl) (And.intro (Vw.clo hg0.hf hg0.hc (by decide) (rhoT_1 (chkT_ok (n := 5) (q := 3) (lit' := [((4, 0), .rows 1 (v16.map e_i64)), ((5, 0), .one [.int .i64 ((a0.getD v15.toNat default).f_Op), .int .i64 ((a0.getD v15.toNat default).f_A), .int .i64 ((a0.getD v15.toNat default).f_B)])]) rfl))) (And.intro (Vw.ptr _ _ _ _ rfl) (And.intro (Vw.same _ rfl) (And.intro (Vw.same _ rfl) (And.intro (Vw.same _ rfl) (And.intro (Vw.same _ rfl) (And.intro (Vw.same _ rfl) (And.intro (Vw.same _ rfl) (And.intro (Vw.same _ rfl) (And.intro (Vw.same _ rfl) trivial))))))))))) (And.intro (And.intro rfl (BVw.enc e_i64 (fun _ => rfl) _ v16)) trivial)
  · have h := ite_ff h69 h
    refine seqI ?_
    refine regI ?_
    refine condI (v := ((a0.getD v15.toNat default).f_Op == 2)) rfl trivial (fun h71 => ?_) (fun h71 => ?_)
    · have h := ite_tt h71 h
      refine quietI ?_
      refine LWp.sim ?_ (f21b0_j11_ok hg0 h)
      exact simT (M := [((4, 0), (4, 0))]) (lit' := [((4, 0), .rows 1 (v16.map e_i64)), ((5, 0), .one [.int .i64 ((a0.getD v15.toNat default).f_Op), .int .i64 ((a0.getD v15.toNat default).f_A), .int .i64 ((a0.getD v15.toNat default).f_B)])]) (hg0.tl _) rfl (And.intro (Vw.same _ rfl) (And.intro (Vw.clo hg0.hf hg0.hc (by decide) (rhoT_1 (chkT_ok (n := 5) (q := 3) (lit' := [((4, 0), .rows 1 (v16.map e_i64)), ((5, 0), .one [.int .i64 ((a0.getD v15.toNat default).f_Op), .int .i64 ((a0.getD v15.toNat default).f_A), .int .i64 ((a0.getD v15.toNat default).f_B)])]) rfl))) (And.intro (Vw.ptr _ _ _ _ rfl) (And.intro (Vw.same _ rfl) (And.intro (Vw.same _ rfl) (And.intro (Vw.same _ rfl) (And.intro (Vw.same _ rfl) (And.intro (Vw.same _ rfl) (And.intro (Vw.same _ rfl) (And.intro (Vw.same _ rfl) (And.intro (Vw.same _ rfl) trivial))))))))))) (And.intro (And.intro rfl (BVw.enc e_i64 (fun _ => rfl) _ v16)) trivial)
    · have h := ite_ff h71 h
      refine seqI ?_
      refine regI ?_
      refine condI (v := ((a0.getD v15.toNat default).f_Op == 3)) rfl trivial (fun h72 => ?_) (fun h72 => ?_)
      · have h := ite_tt h72 h
        refine quietI ?_
        refine LWp.sim ?_ (f21b0_j11_ok hg0 h)
        exact simT (M := [((4, 0), (4, 0))]) (lit' := [((4, 0), .rows 1 (v16.map e_i64)), ((5, 0), .one [.int .i64 ((a0.getD v15.toNat default).f_Op), .int .i64 ((a0.getD v15.toNat default).f_A), .int .i64 ((a0.getD v15.toNat default).f_B)])]) (hg0.tl _) rfl (And.intro (Vw.same _ rfl) (And.intro (Vw.clo hg0.hf hg0.hc (by decide) (rhoT_1 (chkT_ok (n := 5) (q := 3) (lit' := [((4, 0), .rows 1 (v16.map e_i64)), ((5, 0), .one [.int .i64 ((a0.getD v15.toNat default).f_Op), .int .i64 ((a0.getD v15.toNat default).f_A), .int .i64 ((a0.getD v15.toNat default).f_B)])]) rfl))) (And.intro (Vw.ptr _ _ _ _ rfl) (And.intro (Vw.same _ rfl) (And.intro (Vw.same _ rfl) (And.intro (Vw.same _ rfl) (And.intro (Vw.same _ rfl) (And.intro (Vw.same _ rfl) (And.intro (Vw.same _ rfl) (And.intro (Vw.same _ rfl) (And.intro (Vw.same _ rfl) trivial))))))))))) (And.intro (And.intro rfl (BVw.enc e_i64 (fun _ => rfl) _ v16)) trivial)
      · have h := ite_ff h72 h
        refine seqI ?_
        refine regI ?_
        refine condI (v := ((a0.getD v15.toNat default).f_Op == 4)) rfl trivial (fun h73 => ?_) (fun h73 => ?_)
        · have h := ite_tt h73 h
          refine quietI ?_
          obtain ⟨h74, h⟩ := ite_some h
          refine And.intro h74 ?_
          show yqs _ _ [(60, .int .i64 (v31.tmod a1)), (59, .int .i64 a1), (58, .int .i64 v31), (56, .bool ((a0.getD v15.toNat default).f_Op == 4)), (57, .bool ((a0.getD v15.toNat default).f_Op == 4)), (52, .bool ((a0.getD v15.toNat default).f_Op == 3)), (53, .bool ((a0.getD v15.toNat default).f_Op == 3)), (48, .bool ((a0.getD v15.toNat default).f_Op == 2)), (49, .bool ((a0.getD v15.toNat default).f_Op == 2)), (1, .int .i64 a1), (2, .fn (.func fi0) ff0 fc0), (8, .ptr (4, 0) 0 0), (9, .int .i64 v14), (11, .ptr (5, 0) 0 0), (12, .int .i64 v32), (13, .int .i64 v31), (14, .int .i64 (-1)), (15, .int .i64 0), (16, .int .i64 0), (17, .int .i64 2), (20, .isl 3 (a0.map e_QOp) false), (21, .int .i64 ((a0.map e_QOp).length : Int)), (22, .int .i64 v15), (39, .int .i64 ((a0.getD v15.toNat default).f_Op)), (43, .bool ((a0.getD v15.toNat default).f_Op == 1))] _ _
          refine LWp.sim ?_ (f21b0_j11_ok hg0 h)
          exact simT (M := [((4, 0), (4, 0))]) (lit' := [((4, 0), .rows 1 (v16.map e_i64)), ((5, 0), .one [.int .i64 ((a0.getD v15.toNat default).f_Op), .int .i64 ((a0.getD v15.toNat default).f_A), .int .i64 ((a0.getD v15.toNat default).f_B)])]) (hg0.tl _) rfl (And.intro (Vw.same _ rfl) (And.intro (Vw.clo hg0.hf hg0.hc (by decide) (rhoT_1 (chkT_ok (n := 5) (q := 3) (lit' := [((4, 0), .rows 1 (v16.map e_i64)), ((5, 0), .one [.int .i64 ((a0.getD v15.toNat default).f_Op), .int .i64 ((a0.getD v15.toNat default).f_A), .int .i64 ((a0.getD v15.toNat default).f_B)])]) rfl))) (And.intro (Vw.ptr _ _ _ _ rfl) (And.intro (Vw.same _ rfl) (And.intro (Vw.same _ rfl) (And.intro (Vw.same _ rfl) (And.intro (Vw.same _ rfl) (And.intro (Vw.same _ rfl) (And.intro (Vw.same _ rfl) (And.intro (Vw.same _ rfl) (And.intro (Vw.same _ rfl) trivial))))))))))) (And.intro (And.intro rfl (BVw.enc e_i64 (fun _ => rfl) _ v16)) trivial)
        · have h := ite_ff h73 h
          refine seqI ?_
          refine regI ?_
          refine LWp.sim (e := [(1, .int .i64 a1), (2, .fn (.func fi0) ff0 fc0), (8, .ptr (4, 0) 0 0), (9, .int .i64 v14), (11, .ptr (5, 0) 0 0), (12, .int .i64 v32), (13, .int .i64 v31), (14, .int .i64 (-1)), (15, .int .i64 0), (16, .int .i64 0), (17, .int .i64 2), (20, .isl 3 (a0.map e_QOp) false), (21, .int .i64 ((a0.map e_QOp).length : Int)), (22, .int .i64 v15), (39, .int .i64 ((a0.getD v15.toNat default).f_Op)), (61, .bool ((a0.getD v15.toNat default).f_Op == 5))]) (L := ([((4, 0), .rows 1 (v16.map e_i64)), ((5, 0), .one [.int .i64 ((a0.getD v15.toNat default).f_Op), .int .i64 ((a0.getD v15.toNat default).f_A), .int .i64 ((a0.getD v15.toNat default).f_B)])] ++ up 3 (Hc v17))) (n := 6) ?_ ?_
          · exact simT (M := [((4, 0), (4, 0)), ((5, 0), (5, 0))]) (lit' := [((4, 0), .rows 1 (v16.map e_i64)), ((5, 0), .one [.int .i64 ((a0.getD v15.toNat default).f_Op), .int .i64 ((a0.getD v15.toNat default).f_A), .int .i64 ((a0.getD v15.toNat default).f_B)])]) (hg0.tl _) rfl (And.intro (Vw.same _ rfl) (And.intro (Vw.clo hg0.hf hg0.hc (by decide) (rhoT_1 (chkT_ok (n := 6) (q := 3) (lit' := [((4, 0), .rows 1 (v16.map e_i64)), ((5, 0), .one [.int .i64 ((a0.getD v15.toNat default).f_Op), .int .i64 ((a0.getD v15.toNat default).f_A), .int .i64 ((a0.getD v15.toNat default).f_B)])]) rfl))) (And.intro (Vw.ptr _ _ _ _ rfl) (And.intro (Vw.same _ rfl) (And.intro (Vw.ptr _ _ _ _ rfl) (And.intro (Vw.same _ rfl) (And.intro (Vw.same _ rfl) (And.intro (Vw.same _ rfl) (And.intro (Vw.same _ rfl) (And.intro (Vw.same _ rfl) (And.intro (Vw.same _ rfl) (And.intro (Vw.same _ rfl) (And.intro (Vw.same _ rfl) (And.intro (Vw.same _ rfl) (And.intro (Vw.same _ rfl) (And.intro (Vw.same _ rfl) trivial)))))))))))))))) (And.intro (And.intro rfl (BVw.enc e_i64 (fun _ => rfl) _ v16)) (And.intro (And.intro rfl (BVw.oneL (And.intro (Vw.same _ rfl) (And.intro (Vw.same _ rfl) (And.intro (Vw.same _ rfl) trivial))))) trivial))
          refine condI (v := ((a0.getD v15.toNat default).f_Op == 5)) rfl trivial (fun h75 => ?_) (fun h75 => ?_)
          · have h := ite_tt h75 h
            refine seqI ?_
            refine quietI ?_
            refine seqI ?_
            refine regI ?_
            refine condI (v := (v31 == 0)) rfl trivial (fun h76 => ?_) (fun h76 => ?_)
            · have h := ite_tt h76 h
              refine regI ?_
              refine LWp.sim ?_ (f21b0_j11_ok hg0 h)
              exact simT (M := [((4, 0), (4, 0))]) (lit' := [((4, 0), .rows 1 (v16.map e_i64)), ((5, 0), .one [.int .i64 ((a0.getD v15.toNat default).f_Op), .int .i64 ((a0.getD v15.toNat default).f_A), .int .i64 ((a0.getD v15.toNat default).f_B)])]) (hg0.tl _) rfl (And.intro (Vw.same _ rfl) (And.intro (Vw.clo hg0.hf hg0.hc (by decide) (rhoT_1 (chkT_ok (n := 5) (q := 3) (lit' := [((4, 0), .rows 1 (v16.map e_i64)), ((5, 0), .one [.int .i64 ((a0.getD v15.toNat default).f_Op), .int .i64 ((a0.getD v15.toNat default).f_A), .int .i64 ((a0.getD v15.toNat default).f_B)])]) rfl))) (And.intro (Vw.ptr _ _ _ _ rfl) (And.intro (Vw.same _ rfl) (And.intro (Vw.same _ rfl) (And.intro (Vw.same _ rfl) (And.intro (Vw.same _ rfl) (And.intro (Vw.same _ rfl) (And.intro (Vw.same _ rfl) (And.intro (Vw.same _ rfl) (And.intro (Vw.same _ rfl) trivial))))))))))) (And.intro (And.intro rfl (BVw.enc e_i64 (fun _ => rfl) _ v16)) trivial)
            · have h := ite_ff h76 h
              refine skipI ?_
              refine LWp.sim ?_ (f21b0_j11_ok hg0 h)
              exact simT (M := [((4, 0), (4, 0))]) (lit' := [((4, 0), .rows 1 (v16.map e_i64)), ((5, 0), .one [.int .i64 ((a0.getD v15.toNat default).f_Op), .int .i64 ((a0.getD v15.toNat default).f_A), .int .i64 ((a0.getD v15.toNat default).f_B)])]) (hg0.tl _) rfl (And.intro (Vw.same _ rfl) (And.intro (Vw.clo hg0.hf hg0.hc (by decide) (rhoT_1 (chkT_ok (n := 5) (q := 3) (lit' := [((4, 0), .rows 1 (v16.map e_i64)), ((5, 0), .one [.int .i64 ((a0.getD v15.toNat default).f_Op), .int .i64 ((a0.getD v15.toNat default).f_A), .int .i64 ((a0.getD v15.toNat default).f_B)])]) rfl))) (And.intro (Vw.ptr _ _ _ _ rfl) (And.intro (Vw.same _ rfl) (And.intro (Vw.same _ rfl) (And.intro (Vw.same _ rfl) (And.intro (Vw.same _ rfl) (And.intro (Vw.same _ rfl) (And.intro (Vw.same _ rfl) (And.intro (Vw.same _ rfl) (And.intro (Vw.same _ rfl) trivial))))))))))) (And.intro (And.intro rfl (BVw.enc e_i64 (fun _ => rfl) _ v16)) trivial)
          · have h := ite_ff h75 h
            refine seqI ?_
            refine regI ?_
            refine condI (v := ((a0.getD v15.toNat default).f_Op == 6)) rfl trivial (fun h77 => ?_) (fun h77 => ?_)
            · have h := ite_tt h77 h
              refine regI ?_
              obtain ⟨v34, h78, h⟩ := bind_some h
              refine PFn.call (f17_ok h78) (And.intro (Vw.same _ rfl) (And.intro (Vw.same _ rfl) trivial)) ?_
              show yops _ _ _ [(74, .int .i64 v34), (73, .int .i64 (W (v32 + v31))), (72, .int .i64 v31), (71, .int .i64 v32), (69, .bool ((a0.getD v15.toNat default).f_Op == 6)), (70, .bool ((a0.getD v15.toNat default).f_Op == 6)), (1, .int .i64 a1), (2, .fn (.func fi0) ff0 fc0), (8, .ptr (4, 0) 0 0), (9, .int .i64 v14), (11, .ptr (5, 0) 0 0), (12, .int .i64 v32), (13, .int .i64 v31), (14, .int .i64 (-1)), (15, .int .i64 0), (16, .int .i64 0), (17, .int .i64 2), (20, .isl 3 (a0.map e_QOp) false), (21, .int .i64 ((a0.map e_QOp).length : Int)), (22, .int .i64 v15), (39, .int .i64 ((a0.getD v15.toNat default).f_Op)), (61, .bool ((a0.getD v15.toNat default).f_Op == 5))] _ _
              refine LWp.sim ?_ (f21b0_j11_ok hg0 h)
              exact simT (M := [((4, 0), (4, 0))]) (lit' := [((4, 0), .rows 1 (v16.map e_i64)), ((5, 0), .one [.int .i64 ((a0.getD v15.toNat default).f_Op), .int .i64 ((a0.getD v15.toNat default).f_A), .int .i64 ((a0.getD v15.toNat default).f_B)])]) (hg0.tl _) rfl (And.intro (Vw.same _ rfl) (And.intro (Vw.clo hg0.hf hg0.hc (by decide) (rhoT_1 (chkT_ok (n := 5) (q := 3) (lit' := [((4, 0), .rows 1 (v16.map e_i64)), ((5, 0), .one [.int .i64 ((a0.getD v15.toNat default).f_Op), .int .i64 ((a0.getD v15.toNat default).f_A), .int .i64 ((a0.getD v15.toNat default).f_B)])]) rfl))) (And.intro (Vw.ptr _ _ _ _ rfl) (And.intro (Vw.same _ rfl) (And.intro (Vw.same _ rfl) (And.intro (Vw.same _ rfl) (And.intro (Vw.same _ rfl) (And.intro (Vw.same _ rfl) (And.intro (Vw.same _ rfl) (And.intro (Vw.same _ rfl) (And.intro (Vw.same _ rfl) trivial))))))))))) (And.intro (And.intro rfl (BVw.enc e_i64 (fun _ => rfl) _ v16)) trivial)
            · have h := ite_ff h77 h
              refine seqI ?_
              refine regI ?_
              refine condI (v := ((a0.getD v15.toNat default).f_Op == 7)) rfl trivial (fun h79 => ?_) (fun h79 => ?_)
              · have h := ite_tt h79 h
                refine regI ?_
                obtain ⟨v35, h80, h⟩ := bind_some h
                refine PFn.call (f17_ok h80) (And.intro (Vw.same _ rfl) (And.intro (Vw.same _ rfl) trivial)) ?_
                show yops _ _ _ [(80, .int .i64 v35), (79, .int .i64 (W (v32 - v31))), (78, .int .i64 v31), (77, .int .i64 v32), (75, .bool ((a0.getD v15.toNat default).f_Op == 7)), (76, .bool ((a0.getD v15.toNat default).f_Op == 7)), (69, .bool ((a0.getD v15.toNat default).f_Op == 6)), (70, .bool ((a0.getD v15.toNat default).f_Op == 6)), (1, .int .i64 a1), (2, .fn (.func fi0) ff0 fc0), (8, .ptr (4, 0) 0 0), (9, .int .i64 v14), (11, .ptr (5, 0) 0 0), (12, .int .i64 v32), (13, .int .i64 v31), (14, .int .i64 (-1)), (15, .int .i64 0), (16, .int .i64 0), (17, .int .i64 2), (20, .isl 3 (a0.map e_QOp) false), (21, .int .i64 ((a0.map e_QOp).length : Int)), (22, .int .i64 v15), (39, .int .i64 ((a0.getD v15.toNat default).f_Op)), (61, .bool ((a0.getD v15.toNat default).f_Op == 5))] _ _
                refine LWp.sim ?_ (f21b0_j11_ok hg0 h)
                exact simT (M := [((4, 0), (4, 0))]) (lit' := [((4, 0), .rows 1 (v16.map e_i64)), ((5, 0), .one [.int .i64 ((a0.getD v15.toNat default).f_Op), .int .i64 ((a0.getD v15.toNat default).f_A), .int .i64 ((a0.getD v15.toNat default).f_B)])]) (hg0.tl _) rfl (And.intro (Vw.same _ rfl) (And.intro (Vw.clo hg0.hf hg0.hc (by decide) (rhoT_1 (chkT_ok (n := 5) (q := 3) (lit' := [((4, 0), .rows 1 (v16.map e_i64)), ((5, 0), .one [.int .i64 ((a0.getD v15.toNat default).f_Op), .int .i64 ((a0.getD v15.toNat default).f_A), .int .i64 ((a0.getD v15.toNat default).f_B)])]) rfl))) (And.intro (Vw.ptr _ _ _ _ rfl) (And.intro (Vw.same _ rfl) (And.intro (Vw.same _ rfl) (And.intro (Vw.same _ rfl) (And.intro (Vw.same _ rfl) (And.intro (Vw.same _ rfl) (And.intro (Vw.same _ rfl) (And.intro (Vw.same _ rfl) (And.intro (Vw.same _ rfl) trivial))))))))))) (And.intro (And.intro rfl (BVw.enc e_i64 (fun _ => rfl) _ v16)) trivial)
              · have h := ite_ff h79 h
                refine seqI ?_
                refine regI ?_
                refine condI (v := ((a0.getD v15.toNat default).f_Op == 8)) rfl trivial (fun h81 => ?_) (fun h81 => ?_)
                · have h := ite_tt h81 h
                  refine regI ?_
                  obtain ⟨v36, h82, h⟩ := bind_some h
                  refine PFn.call (f17_ok h82) (And.intro (Vw.same _ rfl) (And.intro (Vw.same _ rfl) trivial)) ?_
                  show yops _ _ _ [(86, .int .i64 v36), (85, .int .i64 (W (v32 * v31))), (84, .int .i64 v31), (83, .int .i64 v32), (81, .bool ((a0.getD v15.toNat default).f_Op == 8)), (82, .bool ((a0.getD v15.toNat default).f_Op == 8)), (75, .bool ((a0.getD v15.toNat default).f_Op == 7)), (76, .bool ((a0.getD v15.toNat default).f_Op == 7)), (69, .bool ((a0.getD v15.toNat default).f_Op == 6)), (70, .bool ((a0.getD v15.toNat default).f_Op == 6)), (1, .int .i64 a1), (2, .fn (.func fi0) ff0 fc0), (8, .ptr (4, 0) 0 0), (9, .int .i64 v14), (11, .ptr (5, 0) 0 0), (12, .int .i64 v32), (13, .int .i64 v31), (14, .int .i64 (-1)), (15, .int .i64 0), (16, .int .i64 0), (17, .int .i64 2), (20, .isl 3 (a0.map e_QOp) false), (21, .int .i64 ((a0.map e_QOp).length : Int)), (22, .int .i64 v15), (39, .int .i64 ((a0.getD v15.toNat default).f_Op)), (61, .bool ((a0.getD v15.toNat default).f_Op == 5))] _ _
                  refine LWp.sim ?_ (f21b0_j11_ok hg0 h)
                  exact simT (M := [((4, 0), (4, 0))]) (lit' := [((4, 0), .rows 1 (v16.map e_i64)), ((5, 0), .one [.int .i64 ((a0.getD v15.toNat default).f_Op), .int .i64 ((a0.getD v15.toNat default).f_A), .int .i64 ((a0.getD v15.toNat default).f_B)])]) (hg0.tl _) rfl (And.intro (Vw.same _ rfl) (And.intro (Vw.clo hg0.hf hg0.hc (by decide) (rhoT_1 (chkT_ok (n := 5) (q := 3) (lit' := [((4, 0), .rows 1 (v16.map e_i64)), ((5, 0), .one [.int .i64 ((a0.getD v15.toNat default).f_Op), .int .i64 ((a0.getD v15.toNat default).f_A), .int .i64 ((a0.getD v15.toNat default).f_B)])]) rfl))) (And.intro (Vw.ptr _ _ _ _ rfl) (And.intro (Vw.same _ rfl) (And.intro (Vw.same _ rfl) (And.intro (Vw.same _ rfl) (And.intro (Vw.same _ rfl) (And.intro (Vw.same _ rfl) (And.intro (Vw.same _ rfl) (And.intro (Vw.same _ rfl) (And.intro (Vw.same _ rfl) trivial))))))))))) (And.intro (And.intro rfl (BVw.enc e_i64 (fun _ => rfl) _ v16)) trivial)
                · have h := ite_ff h81 h
                  refine seqI ?_
                  refine regI ?_
                  refine LWp.sim (e := [(1, .int .i64 a1), (2, .fn (.func fi0) ff0 fc0), (8, .ptr (4, 0) 0 0), (9, .int .i64 v14), (12, .int .i64 v32), (13, .int .i64 v31), (14, .int .i64 (-1)), (15, .int .i64 0), (16, .int .i64 0), (17, .int .i64 2), (20, .isl 3 (a0.map e_QOp) false), (21, .int .i64 ((a0.map e_QOp).length : Int)), (22, .int .i64 v15), (39, .int .i64 ((a0.getD v15.toNat default).f_Op)), (87, .bool ((a0.getD v15.toNat default).f_Op == 9))]) (L := ([((4, 0), .rows 1 (v16.map e_i64))] ++ up 3 (Hc v17))) (n := 5) ?_ ?_
                  · exact simT (M := [((4, 0), (4, 0))]) (lit' := [((4, 0), .rows 1 (v16.map e_i64)), ((5, 0), .one [.int .i64 ((a0.getD v15.toNat default).f_Op), .int .i64 ((a0.getD v15.toNat default).f_A), .int .i64 ((a0.getD v15.toNat default).f_B)])]) (hg0.tl _) rfl (And.intro (Vw.same _ rfl) (And.intro (Vw.clo hg0.hf hg0.hc (by decide) (rhoT_1 (chkT_ok (n := 5) (q := 3) (lit' := [((4, 0), .rows 1 (v16.map e_i64)), ((5, 0), .one [.int .i64 ((a0.getD v15.toNat default).f_Op), .int .i64 ((a0.getD v15.toNat default).f_A), .int .i64 ((a0.getD v15.toNat default).f_B)])]) rfl))) (And.intro (Vw.ptr _ _ _ _ rfl) (And.intro (Vw.same _ rfl) (And.intro (Vw.same _ rfl) (And.intro (Vw.same _ rfl) (And.intro (Vw.same _ rfl) (And.intro (Vw.same _ rfl) (And.intro (Vw.same _ rfl) (And.intro (Vw.same _ rfl) (And.intro (Vw.same _ rfl) (And.intro (Vw.same _ rfl) (And.intro (Vw.same _ rfl) (And.intro (Vw.same _ rfl) (And.intro (Vw.same _ rfl) trivial))))))))))))))) (And.intro (And.intro rfl (BVw.enc e_i64 (fun _ => rfl) _ v16)) trivial)
                  refine condI (v := ((a0.getD v15.toNat default).f_Op == 9)) rfl trivial (fun h83 => ?_) (fun h83 => ?_)
                  · have h := ite_tt h83 h
                    refine regI ?_
                    refine LWp.sim ?_ (f21b0_j11_ok hg0 h)
                    exact simT (M := [((4, 0), (4, 0))]) (lit' := [((4, 0), .rows 1 (v16.map e_i64))]) (hg0.tl _) rfl (And.intro (Vw.same _ rfl) (And.intro (Vw.clo hg0.hf hg0.hc (by decide) (rhoT_1 (chkT_ok (n := 5) (q := 3) (lit' := [((4, 0), .rows 1 (v16.map e_i64))]) rfl))) (And.intro (Vw.ptr _ _ _ _ rfl) (And.intro (Vw.same _ rfl) (And.intro (Vw.same _ rfl) (And.intro (Vw.same _ rfl) (And.intro (Vw.same _ rfl) (And.intro (Vw.same _ rfl) (And.intro (Vw.same _ rfl) (And.intro (Vw.same _ rfl) (And.intro (Vw.same _ rfl) trivial))))))))))) (And.intro (And.intro rfl (BVw.enc e_i64 (fun _ => rfl) _ v16)) trivial)
                  · have h := ite_ff h83 h
                    refine seqI ?_
                    refine regI ?_
                    refine condI (v := ((a0.getD v15.toNat default).f_Op == 10)) rfl trivial (fun h84 => ?_) (fun h84 => ?_)
                    · have h := ite_tt h84 h
                      refine regI ?_
                      refine LWp.sim ?_ (f21b0_j11_ok hg0 h)
                      exact simT (M := [((4, 0), (4, 0))]) (lit' := [((4, 0), .rows 1 (v16.map e_i64))]) (hg0.tl _) rfl (And.intro (Vw.same _ rfl) (And.intro (Vw.clo hg0.hf hg0.hc (by decide) (rhoT_1 (chkT_ok (n := 5) (q := 3) (lit' := [((4, 0), .rows 1 (v16.map e_i64))]) rfl))) (And.intro (Vw.ptr _ _ _ _ rfl) (And.intro (Vw.same _ rfl) (And.intro (Vw.same _ rfl) (And.intro (Vw.same _ rfl) (And.intro (Vw.same _ rfl) (And.intro (Vw.same _ rfl) (And.intro (Vw.same _ rfl) (And.intro (Vw.same _ rfl) (And.intro (Vw.same _ rfl) trivial))))))))))) (And.intro (And.intro rfl (BVw.enc e_i64 (fun _ => rfl) _ v16)) trivial)
                    · have h := ite_ff h84 h
                      refine seqI ?_
                      refine regI ?_
                      refine condI (v := (decide (v32 < v31))) rfl trivial (fun h85 => ?_) (fun h85 => ?_)
                      · have h := ite_tt h85 h
                        refine regI ?_
                        refine LWp.sim ?_ (f21b0_j11_ok hg0 h)
                        exact simT (M := [((4, 0), (4, 0))]) (lit' := [((4, 0), .rows 1 (v16.map e_i64))]) (hg0.tl _) rfl (And.intro (Vw.same _ rfl) (And.intro (Vw.clo hg0.hf hg0.hc (by decide) (rhoT_1 (chkT_ok (n := 5) (q := 3) (lit' := [((4, 0), .rows 1 (v16.map e_i64))]) rfl))) (And.intro (Vw.ptr _ _ _ _ rfl) (And.intro (Vw.same _ rfl) (And.intro (Vw.same _ rfl) (And.intro (Vw.same _ rfl) (And.intro (Vw.same _ rfl) (And.intro (Vw.same _ rfl) (And.intro (Vw.same _ rfl) (And.intro (Vw.same _ rfl) (And.intro (Vw.same _ rfl) trivial))))))))))) (And.intro (And.intro rfl (BVw.enc e_i64 (fun _ => rfl) _ v16)) trivial)
                      · have h := ite_ff h85 h
                        refine skipI ?_
                        refine LWp.sim ?_ (f21b0_j11_ok hg0 h)
                        exact simT (M := [((4, 0), (4, 0))]) (lit' := [((4, 0), .rows 1 (v16.map e_i64))]) (hg0.tl _) rfl (And.intro (Vw.same _ rfl) (And.intro (Vw.clo hg0.hf hg0.hc (by decide) (rhoT_1 (chkT_ok (n := 5) (q := 3) (lit' := [((4, 0), .rows 1 (v16.map e_i64))]) rfl))) (And.intro (Vw.ptr _ _ _ _ rfl) (And.intro (Vw.same _ rfl) (And.intro (Vw.same _ rfl) (And.intro (Vw.same _ rfl) (And.intro (Vw.same _ rfl) (And.intro (Vw.same _ rfl) (And.intro (Vw.same _ rfl) (And.intro (Vw.same _ rfl) (And.intro (Vw.same _ rfl) trivial))))))))))) (And.intro (And.intro rfl (BVw.enc e_i64 (fun _ => rfl) _ v16)) trivial)

noncomputable def S_glossatorref3_Exec_j9 {σ : Type} (g0 : σ → (Int × Int) → Option ((Int × Bool) × σ)) (m : Option Nat) (a0 : List G_QOp) (a1 : Int) (v14 : Int) (v15 : Int) (v16 : List Int) (v17 : σ) (v31 : Int) : Option ((Int × Int × (List Int) × σ) ⊕ (Int × Bool × σ)) :=
  if (decide (v14 > 1)) = true then
    if (0 : Int) ≤ (W (v14 - 2)) ∧ (W (v14 - 2)) < ((24 : Nat) : Int) then
    if (0 + (W (v14 - 2)).toNat) < v16.length then
    S_glossatorref3_Exec_j10 g0 m a0 a1 v14 v15 v16 v17 v31 (v16.getD (0 + (W (v14 - 2)).toNat) default)
    else none
    else none
  else
    S_glossatorref3_Exec_j10 g0 m a0 a1 v14 v15 v16 v17 v31 0

theorem f21b0_j9_ok {σ : Type} {Hc : σ → AHeap} {fi0 : FuncId} {ff0 fc0 : List AVal} {g0 : σ → (Int × Int) → Option ((Int × Bool) × σ)} (hg0 : Clo Try.prog fi0 ff0 fc0 Hc (fun (x : (Int × Int)) => [.int .i64 x.1, .int .i64 x.2]) (fun (b : (Int × Bool)) => .tup [.int .i64 b.1, .bool b.2]) g0) {z0 : σ} {a0 : List G_QOp} {a1 : Int} {v14 : Int} {v15 : Int} {v16 : List Int} {v17 : σ} {v31 : Int} {m : Option Nat} {o : ((Int × Int × (List Int) × σ) ⊕ (Int × Bool × σ))} (h : S_glossatorref3_Exec_j9 g0 m a0 a1 v14 v15 v16 v17 v31 = some o) :
    LWp Try.prog f21b0_lay 3 f21b0_c5 (QBlock 1 (QSeq Try.prog f21b0_lay 3 f21b0_c0 (BodyQ 3 5 (f21b0_L1_env Hc fi0 ff0 fc0 a0 a1) (f21b0_L1_hp Hc fi0 ff0 fc0 a0 a1) (f21b0_L1_Q Hc fi0 ff0 fc0 a0 a1 z0) o))) [(1, .int .i64 a1), (2, .fn (.func fi0) ff0 fc0), (8, .ptr (4, 0) 0 0), (9, .int .i64 v14), (11, .ptr (5, 0) 0 0), (12, .int .i64 0), (13, .int .i64 v31), (20, .isl 3 (a0.map e_QOp) false), (21, .int .i64 ((a0.map e_QOp).length : Int)), (22, .int .i64 v15)] ([((4, 0), .rows 1 (v16.map e_i64)), ((5, 0), .one [.int .i64 ((a0.getD v15.toNat default).f_Op), .int .i64 ((a0.getD v15.toNat default).f_A), .int .i64 ((a0.getD v15.toNat default).f_B)])] ++ up 3 (Hc v17)) 6 := by
  unfold S_glossatorref3_Exec_j9 at h
  refine seqI ?_
  refine seqI ?_
  refine regI ?_
  refine condI (v := (decide (v14 > 1))) rfl trivial (fun h66 => ?_) (fun h66 => ?_)
  · have h := ite_tt h66 h
    refine regI ?_
    obtain ⟨h67, h⟩ := ite_some h
    refine And.intro h67 ?_
    show yops _ _ _ [(36, .ptr (4, 0) (0 + (W (v14 - 2)).toNat) 0), (35, .int .i64 (W (v14 - 2))), (34, .int .i64 v14), (33, .bool (decide (v14 > 1))), (32, .int .i64 v14), (1, .int .i64 a1), (2, .fn (.func fi0) ff0 fc0), (8, .ptr (4, 0) 0 0), (9, .int .i64 v14), (11, .ptr (5, 0) 0 0), (12, .int .i64 0), (13, .int .i64 v31), (20, .isl 3 (a0.map e_QOp) false), (21, .int .i64 ((a0.map e_QOp).length : Int)), (22, .int .i64 v15)] _ _
    obtain ⟨h68, h⟩ := ite_some h
    refine Exists.intro (e_i64 (v16.getD (0 + (W (v14 - 2)).toNat) default)) (And.intro (getD_enc e_i64 _ _ h68) (And.intro (And.intro (lt_map e_i64 h68) (Nat.le_of_ble_eq_true rfl)) ?_))
    refine LWp.sim ?_ (f21b0_j10_ok hg0 h)
    exact simT (M := [((4, 0), (4, 0)), ((5, 0), (5, 0))]) (lit' := [((4, 0), .rows 1 (v16.map e_i64)), ((5, 0), .one [.int .i64 ((a0.getD v15.toNat default).f_Op), .int .i64 ((a0.getD v15.toNat default).f_A), .int .i64 ((a0.getD v15.toNat default).f_B)])]) (hg0.tl _) rfl (And.intro (Vw.same _ rfl) (And.intro (Vw.clo hg0.hf hg0.hc (by decide) (rhoT_1 (chkT_ok (n := 6) (q := 3) (lit' := [((4, 0), .rows 1 (v16.map e_i64)), ((5, 0), .one [.int .i64 ((a0.getD v15.toNat default).f_Op), .int .i64 ((a0.getD v15.toNat default).f_A), .int .i64 ((a0.getD v15.toNat default).f_B)])]) rfl))) (And.intro (Vw.ptr _ _ _ _ rfl) (And.intro (Vw.same _ rfl) (And.intro (Vw.ptr _ _ _ _ rfl) (And.intro (Vw.same _ rfl) (And.intro (Vw.same _ rfl) (And.intro (Vw.same _ rfl) (And.intro (Vw.same _ rfl) (And.intro (Vw.same _ rfl) trivial)))))))))) (And.intro (And.intro rfl (BVw.enc e_i64 (fun _ => rfl) _ v16)) (And.intro (And.intro rfl (BVw.oneL (And.intro (Vw.same _ rfl) (And.intro (Vw.same _ rfl) (And.intro (Vw.same _ rfl) trivial))))) trivial))
  · have h := ite_ff h66 h
    refine skipI ?_
    refine LWp.sim ?_ (f21b0_j10_ok hg0 h)
    exact simT (M := [((4, 0), (4, 0)), ((5, 0), (5, 0))]) (lit' := [((4, 0), .rows 1 (v16.map e_i64)), ((5, 0), .one [.int .i64 ((a0.getD v15.toNat default).f_Op), .int .i64 ((a0.getD v15.toNat default).f_A), .int .i64 ((a0.getD v15.toNat default).f_B)])]) (hg0.tl _) rfl (And.intro (Vw.same _ rfl) (And.intro (Vw.clo hg0.hf hg0.hc (by decide) (rhoT_1 (chkT_ok (n := 6) (q := 3) (lit' := [((4, 0), .rows 1 (v16.map e_i64)), ((5, 0), .one [.int .i64 ((a0.getD v15.toNat default).f_Op), .int .i64 ((a0.getD v15.toNat default).f_A), .int .i64 ((a0.getD v15.toNat default).f_B)])]) rfl))) (And.intro (Vw.ptr _ _ _ _ rfl) (And.intro (Vw.same _ rfl) (And.intro (Vw.ptr _ _ _ _ rfl) (And.intro (Vw.same _ rfl) (And.intro (Vw.same _ rfl) (And.intro (Vw.same _ rfl) (And.intro (Vw.same _ rfl) (And.intro (Vw.same _ rfl) trivial)))))))))) (And.intro (And.intro rfl (BVw.enc e_i64 (fun _ => rfl) _ v16)) (And.intro (And.intro rfl (BVw.oneL (And.intro (Vw.same _ rfl) (And.intro (Vw.same _ rfl) (And.intro (Vw.same _ rfl) trivial))))) trivial))

noncomputable def S_glossatorref3_Exec_j13 {σ : Type} (g0 : σ → (Int × Int) → Option ((Int × Bool) × σ)) (m : Option Nat) (v16 : List Int) (v17 : σ) : Option (Int × Bool × σ) :=
  if (0 : Int) ≤ 0 ∧ 0 < ((24 : Nat) : Int) then
  if (0 + (0 : Int).toNat) < v16.length then
  some ((v16.getD (0 + (0 : Int).toNat) default), true, v17)
  else none
  else none

noncomputable def S_glossatorref3_Exec_b1 {σ : Type} (g0 : σ → (Int × Int) → Option ((Int × Bool) × σ)) (m : Option Nat) (a0 : List G_QOp) (a1 : Int) (v14 : Int) (v15 : Int) (v16 : List Int) (v17 : σ) : Option ((Int × Int × (List Int) × σ) ⊕ (Int × Bool × σ)) :=
  if (decide (v15 < ((a0.map e_QOp).length : Int))) = true then
    if (0 : Int) ≤ v15 ∧ v15 < ((a0.map e_QOp).length : Int) then
    if (decide (v14 > 0)) = true then
      if (0 : Int) ≤ (W (v14 - 1)) ∧ (W (v14 - 1)) < ((24 : Nat) : Int) then
      if (0 + (W (v14 - 1)).toNat) < v16.length then
      S_glossatorref3_Exec_j9 g0 m a0 a1 v14 v15 v16 v17 (v16.getD (0 + (W (v14 - 1)).toNat) default)
      else none
      else none
    else
      S_glossatorref3_Exec_j9 g0 m a0 a1 v14 v15 v16 v17 0
    else none
  else
    Option.map Sum.inr (
      S_glossatorref3_Exec_j13 g0 m v16 v17)

noncomputable def S_glossatorref3_Exec_l1 {σ : Type} (g0 : σ → (Int × Int) → Option ((Int × Bool) × σ)) (m : Option Nat) (a0 : List G_QOp) (a1 : Int) (v14 : Int) (v15 : Int) (v16 : List Int) (v17 : σ) : Option (Int × Bool × σ) := loopM m (fun (s : (Int × Int × (List Int) × σ)) => S_glossatorref3_Exec_b1 g0 m a0 a1 s.1 s.2.1 s.2.2.1 s.2.2.2) (v14, v15, v16, v17)

theorem f21b0_j13_ok {σ : Type} {Hc : σ → AHeap} {fi0 : FuncId} {ff0 fc0 : List AVal} {g0 : σ → (Int × Int) → Option ((Int × Bool) × σ)} (hg0 : Clo Try.prog fi0 ff0 fc0 Hc (fun (x : (Int × Int)) => [.int .i64 x.1, .int .i64 x.2]) (fun (b : (Int × Bool)) => .tup [.int .i64 b.1, .bool b.2]) g0) {a0 : List G_QOp} {a1 : Int} {z0 : σ} {v16 : List Int} {v17 : σ} {m : Option Nat} {o : (Int × Bool × σ)} (h : S_glossatorref3_Exec_j13 g0 m v16 v17 = some o) :
    LWp Try.prog f21b0_lay 3 f21b0_c1 (f21b0_Q Hc fi0 ff0 fc0 a0 a1 z0 o) [(8, .ptr (4, 0) 0 0)] ([((4, 0), .rows 1 (v16.map e_i64))] ++ up 3 (Hc v17)) 5 := by
  unfold S_glossatorref3_Exec_j13 at h
  refine seqI ?_
  refine regI ?_
  obtain ⟨h91, h⟩ := ite_some h
  refine And.intro h91 ?_
  obtain ⟨h92, h⟩ := ite_some h
  refine Exists.intro (e_i64 (v16.getD (0 + (0 : Int).toNat) default)) (And.intro (getD_enc e_i64 _ _ h92) (And.intro (And.intro (lt_map e_i64 h92) (Nat.le_of_ble_eq_true rfl)) ?_))
  refine retI ?_
  cases h
  exact And.intro trivial (And.intro trivial (finT (n' := 5) (q := 3) (lit' := [((4, 0), .rows 1 (v16.map e_i64))]) (hg0.tl _) [] [] rfl rfl (Vw.same _ rfl) trivial))

theorem f21b0_L1_bok {σ : Type} {Hc : σ → AHeap} {fi0 : FuncId} {ff0 fc0 : List AVal} {g0 : σ → (Int × Int) → Option ((Int × Bool) × σ)} (hg0 : Clo Try.prog fi0 ff0 fc0 Hc (fun (x : (Int × Int)) => [.int .i64 x.1, .int .i64 x.2]) (fun (b : (Int × Bool)) => .tup [.int .i64 b.1, .bool b.2]) g0) {z0 : σ} {a0 : List G_QOp} {a1 : Int} {v14 : Int} {v15 : Int} {v16 : List Int} {v17 : σ} {m : Option Nat} {o : (Int × Int × (List Int) × σ) ⊕ (Int × Bool × σ)} (h : S_glossatorref3_Exec_b1 g0 m a0 a1 v14 v15 v16 v17 = some o) :
    LWp Try.prog f21b0_lay 3 f21b0_c6 (BodyQ 3 5 (f21b0_L1_env Hc fi0 ff0 fc0 a0 a1) (f21b0_L1_hp Hc fi0 ff0 fc0 a0 a1) (f21b0_L1_Q Hc fi0 ff0 fc0 a0 a1 z0) o) [(1, .int .i64 a1), (2, .fn (.func fi0) ff0 fc0), (8, .ptr (4, 0) 0 0), (9, .int .i64 v14), (20, .isl 3 (a0.map e_QOp) false), (21, .int .i64 ((a0.map e_QOp).length : Int)), (22, .int .i64 v15)] ([((4, 0), .rows 1 (v16.map e_i64))] ++ up 3 (Hc v17)) 5 := by
  unfold S_glossatorref3_Exec_b1 at h
  refine seqI ?_
  refine regI ?_
  refine seqI ?_
  refine condI (v := (decide (v15 < ((a0.map e_QOp).length : Int)))) rfl trivial (fun h61 => ?_) (fun h61 => ?_)
  · have h := ite_tt h61 h
    refine skipI ?_
    refine seqI ?_
    refine blockI ?_
    refine seqI ?_
    refine regI ?_
    obtain ⟨h62, h⟩ := ite_some h
    refine And.intro h62 ?_
    refine Exists.intro (e_QOp (a0.getD v15.toNat default)) (And.intro (getD_enc e_QOp _ _ (idx_ltL e_QOp h62)) (And.intro (And.intro (idx_lt h62) (Nat.le_of_ble_eq_true rfl)) ?_))
    refine seqI ?_
    refine regI ?_
    refine seqI ?_
    refine seqI ?_
    refine regI ?_
    refine LWp.sim (e := [(1, .int .i64 a1), (2, .fn (.func fi0) ff0 fc0), (8, .ptr (4, 0) 0 0), (9, .int .i64 v14), (11, .ptr (5, 0) 0 0), (12, .int .i64 0), (13, .int .i64 0), (20, .isl 3 (a0.map e_QOp) false), (21, .int .i64 ((a0.map e_QOp).length : Int)), (22, .int .i64 v15), (27, .bool (decide (v14 > 0)))]) (L := ([((4, 0), .rows 1 (v16.map e_i64)), ((5, 0), .one [.int .i64 ((a0.getD v15.toNat default).f_Op), .int .i64 ((a0.getD v15.toNat default).f_A), .int .i64 ((a0.getD v15.toNat default).f_B)])] ++ up 3 (Hc v17))) (n := 6) ?_ ?_
    · exact simT (M := [((4, 0), (4, 0)), ((5, 0), (5, 0))]) (lit' := [((5, 0), .one [.int .i64 ((a0.getD v15.toNat default).f_Op), .int .i64 ((a0.getD v15.toNat default).f_A), .int .i64 ((a0.getD v15.toNat default).f_B)]), ((4, 0), .rows 1 (v16.map e_i64))]) (hg0.tl _) rfl (And.intro (Vw.same _ rfl) (And.intro (Vw.clo hg0.hf hg0.hc (by decide) (rhoT_1 (chkT_ok (n := 6) (q := 3) (lit' := [((5, 0), .one [.int .i64 ((a0.getD v15.toNat default).f_Op), .int .i64 ((a0.getD v15.toNat default).f_A), .int .i64 ((a0.getD v15.toNat default).f_B)]), ((4, 0), .rows 1 (v16.map e_i64))]) rfl))) (And.intro (Vw.ptr _ _ _ _ rfl) (And.intro (Vw.same _ rfl) (And.intro (Vw.ptr _ _ _ _ rfl) (And.intro (Vw.same _ rfl) (And.intro (Vw.same _ rfl) (And.intro (Vw.same _ rfl) (And.intro (Vw.same _ rfl) (And.intro (Vw.same _ rfl) (And.intro (Vw.same _ rfl) trivial))))))))))) (And.intro (And.intro rfl (BVw.enc e_i64 (fun _ => rfl) _ v16)) (And.intro (And.intro rfl (BVw.oneL (And.intro (Vw.same _ rfl) (And.intro (Vw.same _ rfl) (And.intro (Vw.same _ rfl) trivial))))) trivial))
    refine condI (v := (decide (v14 > 0))) rfl trivial (fun h63 => ?_) (fun h63 => ?_)
    · have h := ite_tt h63 h
      refine regI ?_
      obtain ⟨h64, h⟩ := ite_some h
      refine And.intro h64 ?_
      obtain ⟨h65, h⟩ := ite_some h
      refine Exists.intro (e_i64 (v16.getD (0 + (W (v14 - 1)).toNat) default)) (And.intro (getD_enc e_i64 _ _ h65) (And.intro (And.intro (lt_map e_i64 h65) (Nat.le_of_ble_eq_true rfl)) ?_))
      refine LWp.sim ?_ (f21b0_j9_ok hg0 h)
      exact simT (M := [((4, 0), (4, 0)), ((5, 0), (5, 0))]) (lit' := [((4, 0), .rows 1 (v16.map e_i64)), ((5, 0), .one [.int .i64 ((a0.getD v15.toNat default).f_Op), .int .i64 ((a0.getD v15.toNat default).f_A), .int .i64 ((a0.getD v15.toNat default).f_B)])]) (hg0.tl _) rfl (And.intro (Vw.same _ rfl) (And.intro (Vw.clo hg0.hf hg0.hc (by decide) (rhoT_1 (chkT_ok (n := 6) (q := 3) (lit' := [((4, 0), .rows 1 (v16.map e_i64)), ((5, 0), .one [.int .i64 ((a0.getD v15.toNat default).f_Op), .int .i64 ((a0.getD v15.toNat default).f_A), .int .i64 ((a0.getD v15.toNat default).f_B)])]) rfl))) (And.intro (Vw.ptr _ _ _ _ rfl) (And.intro (Vw.same _ rfl) (And.intro (Vw.ptr _ _ _ _ rfl) (And.intro (Vw.same _ rfl) (And.intro (Vw.same _ rfl) (And.intro (Vw.same _ rfl) (And.intro (Vw.same _ rfl) (And.intro (Vw.same _ rfl) trivial)))))))))) (And.intro (And.intro rfl (BVw.enc e_i64 (fun _ => rfl) _ v16)) (And.intro (And.intro rfl (BVw.oneL (And.intro (Vw.same _ rfl) (And.intro (Vw.same _ rfl) (And.intro (Vw.same _ rfl) trivial))))) trivial))
    · have h := ite_ff h63 h
      refine skipI ?_
      refine LWp.sim ?_ (f21b0_j9_ok hg0 h)
      exact simT (M := [((4, 0), (4, 0)), ((5, 0), (5, 0))]) (lit' := [((4, 0), .rows 1 (v16.map e_i64)), ((5, 0), .one [.int .i64 ((a0.getD v15.toNat default).f_Op), .int .i64 ((a0.getD v15.toNat default).f_A), .int .i64 ((a0.getD v15.toNat default).f_B)])]) (hg0.tl _) rfl (And.intro (Vw.same _ rfl) (And.intro (Vw.clo hg0.hf hg0.hc (by decide) (rhoT_1 (chkT_ok (n := 6) (q := 3) (lit' := [((4, 0), .rows 1 (v16.map e_i64)), ((5, 0), .one [.int .i64 ((a0.getD v15.toNat default).f_Op), .int .i64 ((a0.getD v15.toNat default).f_A), .int .i64 ((a0.getD v15.toNat default).f_B)])]) rfl))) (And.intro (Vw.ptr _ _ _ _ rfl) (And.intro (Vw.same _ rfl) (And.intro (Vw.ptr _ _ _ _ rfl) (And.intro (Vw.same _ rfl) (And.intro (Vw.same _ rfl) (And.intro (Vw.same _ rfl) (And.intro (Vw.same _ rfl) (And.intro (Vw.same _ rfl) trivial)))))))))) (And.intro (And.intro rfl (BVw.enc e_i64 (fun _ => rfl) _ v16)) (And.intro (And.intro rfl (BVw.oneL (And.intro (Vw.same _ rfl) (And.intro (Vw.same _ rfl) (And.intro (Vw.same _ rfl) trivial))))) trivial))
  · have h := ite_ff h61 h
    refine exitI ?_
    obtain ⟨o, hq, rfl⟩ := Option.map_eq_some_iff.1 h
    replace h := hq; clear hq
    refine And.intro nofun ?_
    refine LWp.sim ?_ (f21b0_j13_ok hg0 h)
    exact simT (M := [((4, 0), (4, 0))]) (lit' := [((4, 0), .rows 1 (v16.map e_i64))]) (hg0.tl _) rfl (And.intro (Vw.ptr _ _ _ _ rfl) trivial) (And.intro (And.intro rfl (BVw.enc e_i64 (fun _ => rfl) _ v16)) trivial)

theorem f21b0_L1_ok {σ : Type} {Hc : σ → AHeap} {fi0 : FuncId} {ff0 fc0 : List AVal} {g0 : σ → (Int × Int) → Option ((Int × Bool) × σ)} (hg0 : Clo Try.prog fi0 ff0 fc0 Hc (fun (x : (Int × Int)) => [.int .i64 x.1, .int .i64 x.2]) (fun (b : (Int × Bool)) => .tup [.int .i64 b.1, .bool b.2]) g0) {z0 : σ} {a0 : List G_QOp} {a1 : Int} {v14 : Int} {v15 : Int} {v16 : List Int} {v17 : σ} {m : Option Nat} {o : (Int × Bool × σ)} (h : S_glossatorref3_Exec_l1 g0 m a0 a1 v14 v15 v16 v17 = some o) :
    LWp Try.prog f21b0_lay 3 (.loop f21b0_c6) (QBlock 0 (QSeq Try.prog f21b0_lay 3 f21b0_c1 (f21b0_Q Hc fi0 ff0 fc0 a0 a1 z0 o))) [(1, .int .i64 a1), (2, .fn (.func fi0) ff0 fc0), (8, .ptr (4, 0) 0 0), (9, .int .i64 v14), (20, .isl 3 (a0.map e_QOp) false), (21, .int .i64 ((a0.map e_QOp).length : Int)), (22, .int .i64 v15)] ([((4, 0), .rows 1 (v16.map e_i64))] ++ up 3 (Hc v17)) 5 :=
  LWp_loopM (m := m) (s := ((v14, v15, v16, v17) : (Int × Int × (List Int) × σ))) (r := o) (fun (s : (Int × Int × (List Int) × σ)) => S_glossatorref3_Exec_b1 g0 m a0 a1 s.1 s.2.1 s.2.2.1 s.2.2.2) (f21b0_L1_env Hc fi0 ff0 fc0 a0 a1) (f21b0_L1_hp Hc fi0 ff0 fc0 a0 a1) (f21b0_L1_Q Hc fi0 ff0 fc0 a0 a1 z0) (fun s o h => f21b0_L1_bok hg0 h) h

noncomputable def S_glossatorref3_Exec {σ : Type} (g0 : σ → (Int × Int) → Option ((Int × Bool) × σ)) (m : Option Nat) (a0 : List G_QOp) (a1 : Int) (z0 : σ) : Option (Int × Bool × σ) :=
  S_glossatorref3_Exec_l1 g0 m a0 a1 0 0 (List.replicate 24 0 : List Int) z0

theorem f21b0_start {σ : Type} {Hc : σ → AHeap} {fi0 : FuncId} {ff0 fc0 : List AVal} {g0 : σ → (Int × Int) → Option ((Int × Bool) × σ)} (hg0 : Clo Try.prog fi0 ff0 fc0 Hc (fun (x : (Int × Int)) => [.int .i64 x.1, .int .i64 x.2]) (fun (b : (Int × Bool)) => .tup [.int .i64 b.1, .bool b.2]) g0) {a0 : List G_QOp} {a1 : Int} {z0 : σ} {m : Option Nat} {o : Int × Bool × σ} (h : S_glossatorref3_Exec g0 m a0 a1 z0 = some o) : LWp Try.prog f21b0_lay 3 f21b0_c7 (f21b0_Q Hc fi0 ff0 fc0 a0 a1 z0 o) (initEnv 0 [.isl 3 (a0.map e_QOp) false, .int .i64 a1, .fn (.func fi0) ff0 fc0]) ([] ++ Hc z0) 3 := by
  unfold S_glossatorref3_Exec at h
  refine LWp.sim (e := [(0, .isl 3 (a0.map e_QOp) false), (1, .int .i64 a1), (2, .fn (.func fi0) ff0 fc0)]) (L := ([] ++ up 3 (Hc z0))) (n := 4) (entryT (lit' := []) (lit := []) (hg0.tl z0) rfl rfl (And.intro (Vw.same _ rfl) (And.intro (Vw.same _ rfl) (And.intro (Vw.clo hg0.hf hg0.hc (by decide) (rhoE_1 _)) trivial))) trivial) ?_
  refine seqI ?_
  refine regI ?_
  refine seqI ?_
  refine regI ?_
  refine Exists.intro ((List.replicate 24 0 : List Int).map e_i64) (And.intro rfl ?_)
  refine seqI ?_
  refine regI ?_
  refine seqI ?_
  refine seqI ?_
  refine regI ?_
  refine blockI ?_
  refine LWp.sim ?_ (f21b0_L1_ok hg0 h)
  exact simT (M := [((4, 0), (4, 0))]) (lit' := [((4, 0), .rows 1 ((List.replicate 24 0 : List Int).map e_i64))]) (hg0.tl _) rfl (And.intro (Vw.same _ rfl) (And.intro (Vw.clo hg0.hf hg0.hc (by decide) (rhoT_1 (chkT_ok (n := 5) (q := 3) (lit' := [((4, 0), .rows 1 ((List.replicate 24 0 : List Int).map e_i64))]) rfl))) (And.intro (Vw.ptr _ _ _ _ rfl) (And.intro (Vw.same _ rfl) (And.intro (Vw.same _ rfl) (And.intro (Vw.same _ rfl) (And.intro (Vw.same _ rfl) trivial))))))) (And.intro (And.intro rfl (BVw.enc e_i64 (fun _ => rfl) _ (List.replicate 24 0 : List Int))) trivial)

theorem f21b0_ok {σ : Type} {Hc : σ → AHeap} {fi0 : FuncId} {ff0 fc0 : List AVal} {g0 : σ → (Int × Int) → Option ((Int × Bool) × σ)} (hg0 : Clo Try.prog fi0 ff0 fc0 Hc (fun (x : (Int × Int)) => [.int .i64 x.1, .int .i64 x.2]) (fun (b : (Int × Bool)) => .tup [.int .i64 b.1, .bool b.2]) g0) {a0 : List G_QOp} {a1 : Int} {z0 : σ} {m : Option Nat} {o : Int × Bool × σ} (h : S_glossatorref3_Exec g0 m a0 a1 z0 = some o) : ACalls Try.prog 21 [.isl 3 (a0.map e_QOp) false, .int .i64 a1, .fn (.func fi0) ff0 fc0] ([] ++ Hc z0) 3 (Gives 4 (.tup [.int .i64 o.1, .bool o.2.1]) ([] ++ up 3 (Hc o.2.2))) := bfn_of (L := f21b0_L) f21b0_low f21b0_fok (Nat.le_of_ble_eq_true rfl) (f21b0_start hg0 h)

def f12_c1 : LCode := (.seq (.region [⟨some 14, .bin .lss (.t 13) (.t 12), none⟩])
 (.seq (.cond (.t 14)
  .skip
  (.exit 0))
 (.seq (.block 1
  (.seq (.region [⟨some 15, .mv (.t 13), none⟩,
    ⟨some 16, .iaddr 1 (.t 11) (.t 13), none⟩,
    ⟨some 17, .load false 1 (.t 16), none⟩,
    ⟨some 6, .mv (.t 15), none⟩,
    ⟨some 7, .mv (.t 17), none⟩])
  (.seq (.region [⟨some 19, .mv (.t 7), none⟩,
    ⟨some 20, .mv (.t 6), none⟩,
    ⟨some 21, .mkfn (.func 30) [] [(.t 3), (.t 5)], none⟩,
    ⟨some 22, .call 21 [(.t 19), (.t 20), (.t 21)], none⟩,
    ⟨some 18, .mv (.t 22), none⟩,
    ⟨some 23, .ext 0 (.t 18), none⟩,
    ⟨some 24, .ext 1 (.t 18), none⟩,
    ⟨some 8, .mv (.t 23), none⟩,
    ⟨some 9, .mv (.t 24), none⟩])
  (.region [⟨some 25, .load false 1 (.t 5), none⟩,
    ⟨some 26, .mv (.t 8), none⟩,
    ⟨some 27, .mkSl true 1 [(.int .i64 0)] 1 [(0, (.t 26))], none⟩,
    ⟨some 28, .app false 1 8 (.t 25) (.t 27), none⟩,
    ⟨none, .store 1 (.t 5) (.t 28), none⟩]))))
 (.region [⟨some 29, .bin .add (.t 13) (.c (.int .i64 1)), none⟩,
   ⟨some 13, .mv (.t 29), none⟩]))))
def f12_c0 : LCode := (.seq (.region [⟨some 30, .load false 1 (.t 5), none⟩,
   ⟨some 4, .mv (.t 30), none⟩])
 .ret)
def f12_c2 : LCode := (.seq (.region [⟨some 2, .box (.t 0), none⟩,
   ⟨some 3, .box (.t 1), none⟩,
   ⟨some 4, .mv (.c (.val (.slice none 0 0))), none⟩])
 (.seq (.region [⟨some 5, .alloc [(.isl 1 [] true)], none⟩])
 (.seq (.seq (.region [⟨some 10, .faddr 1 (.t 2), none⟩,
   ⟨some 11, .load false 1 (.t 10), none⟩,
   ⟨some 12, .len false (.t 11), none⟩,
   ⟨some 13, .mv (.c (.int .i64 0)), none⟩])
 (.block 0
  (.loop
   f12_c1)))
 f12_c0)))
def f12_lay : Lay := ⟨31, [28]⟩
def f12_res : List LRes := [.t 4]
def f12_L : LFn := ⟨2, f12_lay, f12_c2, f12_res⟩
theorem f12_low : lowFn Try.prog [28] 12 = some f12_L := by kernel_rfl
theorem f12_fok : FnOk Try.prog 12 := ⟨_, Try.func12, rfl, rfl⟩
def f12_Q (a0 : G_QProgram) (a1 : List Int) (o : (List Int)) : Exit → Env → AHeap → Nat → Prop := FinK f12_res (PureEnd (.isl 1 (o.map e_i64) false))

def f12_L1_env (a0 : G_QProgram) (a1 : List Int) (s : (Int × (List Int))) : Env := [(3, .ptr (0, 0) 0 0), (5, .ptr (1, 0) 0 0), (11, .isl 1 (a0.f_Queries.map e_sl_QOp) false), (12, .int .i64 ((a0.f_Queries.map e_sl_QOp).length : Int)), (13, .int .i64 s.1)]
def f12_L1_hp (a0 : G_QProgram) (a1 : List Int) (s : (Int × (List Int))) : AHeap := [((0, 0), .one [.isl 1 (a1.map e_i64) false]), ((1, 0), .one [.msl (2, 0) 1 0 s.2.length false]), ((2, 0), .rows 1 (s.2.map e_i64))]
def f12_L1_Q (a0 : G_QProgram) (a1 : List Int) (o : (List Int)) : Exit → Env → AHeap → Nat → Prop := (QBlock 0 (QSeq Try.prog f12_lay 0 f12_c0 (f12_Q a0 a1 o)))

noncomputable def S_glossatorref3_Values_j1 (m : Option Nat) (v3 : List Int) : Option (List Int) :=
  some v3

noncomputable def S_glossatorref3_Values_b1 (m : Option Nat) (a0 : G_QProgram) (a1 : List Int) (v2 : Int) (v3 : List Int) : Option ((Int × (List Int)) ⊕ (List Int)) :=
  if (decide (v2 < ((a0.f_Queries.map e_sl_QOp).length : Int))) = true then
    if (0 : Int) ≤ v2 ∧ v2 < ((a0.f_Queries.map e_sl_QOp).length : Int) then
    (S_glossatorref3_Exec (fun (s : Unit) (x : (Int × Int)) => (S_glossatorref3_Values_1c m a1 v3 x.1 x.2).map fun o => ((o.1, o.2), ())) m (a0.f_Queries.getD v2.toNat default) v2 ()).bind fun v5 =>
    if ((v3 ++ ([v5.1] : List Int)).map e_i64).length * 8 ≤ 140737488355328 then
    some (.inl ((W (v2 + 1)), (v3 ++ ([v5.1] : List Int))))
    else none
    else none
  else
    Option.map Sum.inr (
      S_glossatorref3_Values_j1 m v3)

noncomputable def S_glossatorref3_Values_l1 (m : Option Nat) (a0 : G_QProgram) (a1 : List Int) (v2 : Int) (v3 : List Int) : Option (List Int) := loopM m (fun (s : (Int × (List Int))) => S_glossatorref3_Values_b1 m a0 a1 s.1 s.2) (v2, v3)

theorem f12_j1_ok {a0 : G_QProgram} {a1 : List Int} {v3 : List Int} {m : Option Nat} {o : (List Int)} (h : S_glossatorref3_Values_j1 m v3 = some o) :
    LWp Try.prog f12_lay 0 f12_c0 (f12_Q a0 a1 o) [(5, .ptr (0, 0) 0 0)] [((0, 0), .one [.msl (1, 0) 1 0 v3.length false]), ((1, 0), .rows 1 (v3.map e_i64))] 2 := by
  unfold S_glossatorref3_Values_j1 at h
  refine seqI ?_
  refine regI ?_
  refine retI ?_
  cases h
  exact And.intro trivial (And.intro rfl (Vw.frzB e_i64 e_i64_ok (fun h => h) rfl rfl (by first | rfl | simp)))

theorem f12_L1_bok {a0 : G_QProgram} {a1 : List Int} {v2 : Int} {v3 : List Int} {m : Option Nat} {o : (Int × (List Int)) ⊕ (List Int)} (h : S_glossatorref3_Values_b1 m a0 a1 v2 v3 = some o) :
    LWp Try.prog f12_lay 0 f12_c1 (BodyQ 0 3 (f12_L1_env a0 a1) (f12_L1_hp a0 a1) (f12_L1_Q a0 a1) o) [(3, .ptr (0, 0) 0 0), (5, .ptr (1, 0) 0 0), (11, .isl 1 (a0.f_Queries.map e_sl_QOp) false), (12, .int .i64 ((a0.f_Queries.map e_sl_QOp).length : Int)), (13, .int .i64 v2)] [((0, 0), .one [.isl 1 (a1.map e_i64) false]), ((1, 0), .one [.msl (2, 0) 1 0 v3.length false]), ((2, 0), .rows 1 (v3.map e_i64))] 3 := by
  unfold S_glossatorref3_Values_b1 at h
  refine seqI ?_
  refine regI ?_
  refine seqI ?_
  refine condI (v := (decide (v2 < ((a0.f_Queries.map e_sl_QOp).length : Int)))) rfl trivial (fun h9 => ?_) (fun h9 => ?_)
  · have h := ite_tt h9 h
    refine skipI ?_
    refine seqI ?_
    refine blockI ?_
    refine seqI ?_
    refine regI ?_
    obtain ⟨h10, h⟩ := ite_some h
    refine And.intro h10 ?_
    refine Exists.intro (e_sl_QOp (a0.f_Queries.getD v2.toNat default)) (And.intro (getD_enc e_sl_QOp _ _ (idx_ltL e_sl_QOp h10)) (And.intro (And.intro (idx_lt h10) (Nat.le_of_ble_eq_true rfl)) ?_))
    refine seqI ?_
    refine regI ?_
    obtain ⟨v5, h11, h⟩ := bind_some h
    refine bcall (k := 3) (m := 1) (L' := [((0, 0), .one [.isl 1 (a1.map e_i64) false]), ((1, 0), .one [.msl (3, 0) 1 0 v3.length false]), ((3, 0), .rows 1 (v3.map e_i64))]) (rest := []) (R' := .tup [.int .i64 v5.1, .bool v5.2.1]) [((1, 0), (0, 0)), ((1, 1), (1, 0)), ((2, 0), (2, 0))] (f21b0_ok (show Clo Try.prog 30 [] [.ptr (1, 0) 0 0, .ptr (1, 1) 0 0] (fun (s : Unit) => [((1, 0), .one [.isl 1 (a1.map e_i64) false]), ((1, 1), .one [.msl (2, 0) 1 0 v3.length false]), ((2, 0), .rows 1 (v3.map e_i64))]) (fun (x : (Int × Int)) => [.int .i64 x.1, .int .i64 x.2]) (fun (b : (Int × Bool)) => .tup [.int .i64 b.1, .bool b.2]) (fun (s : Unit) (x : (Int × Int)) => (S_glossatorref3_Values_1c m a1 v3 x.1 x.2).map fun o => ((o.1, o.2), ())) from Clo.mk' (fun s => Tl.lit rfl (And.intro (rfl) (And.intro (rfl) (And.intro (rows_inP e_i64 (fun _ => rfl) _ _) trivial))) rfl) rfl rfl (fun _ => rfl) (fun s x o h => by obtain ⟨o1, h1, rfl⟩ := Option.map_eq_some_iff.1 h; exact Exists.intro _ (And.intro (f30c0_ok h1) (And.intro rfl (And.intro rfl (And.intro rfl (And.intro rfl (And.intro rfl (And.intro (rows_ren e_i64 (fun _ => rfl) _ _) trivial))))))))) h11) rfl rfl rfl (And.intro (Vw.same _ rfl) (And.intro (Vw.same _ rfl) (And.intro (Vw.fnL trivial (And.intro (Vw.ptr _ _ _ _ rfl) (And.intro (Vw.ptr _ _ _ _ rfl) trivial))) trivial))) (And.intro (h0I (0, 0) rfl rfl (BVw.oneL (And.intro (Vw.same _ rfl) trivial))) (And.intro (h0I (1, 0) rfl rfl (BVw.oneL (And.intro (Vw.mslE rfl (by first | rfl | simp) rfl) trivial))) (And.intro (h0I (2, 0) rfl rfl (BVw.enc e_i64 (fun _ => rfl) _ v3)) trivial))) (nid_ren _ rfl) (And.intro rfl (And.intro rfl (And.intro rfl (And.intro rfl (And.intro rfl (And.intro ((congrArg (ABlock.ren _) (rows_ren e_i64 (fun _ => rfl) _ _)).trans (rows_ren e_i64 (fun _ => rfl) _ _)) trivial)))))) rfl ?_
    show yops _ _ _ [(22, .tup [.int .i64 v5.1, .bool v5.2.1]), (21, .fn (.func 30) [] [.ptr (0, 0) 0 0, .ptr (1, 0) 0 0]), (20, .int .i64 v2), (19, .isl 3 ((a0.f_Queries.getD v2.toNat default).map e_QOp) false), (7, .isl 3 ((a0.f_Queries.getD v2.toNat default).map e_QOp) false), (6, .int .i64 v2), (17, .isl 3 ((a0.f_Queries.getD v2.toNat default).map e_QOp) false), (16, .iptr 1 (a0.f_Queries.map e_sl_QOp) v2.toNat 0), (15, .int .i64 v2), (14, .bool (decide (v2 < ((a0.f_Queries.map e_sl_QOp).length : Int)))), (3, .ptr (0, 0) 0 0), (5, .ptr (1, 0) 0 0), (11, .isl 1 (a0.f_Queries.map e_sl_QOp) false), (12, .int .i64 ((a0.f_Queries.map e_sl_QOp).length : Int)), (13, .int .i64 v2)] _ _
    refine LWp.sim (e := [(3, .ptr (0, 0) 0 0), (5, .ptr (1, 0) 0 0), (8, .int .i64 v5.1), (11, .isl 1 (a0.f_Queries.map e_sl_QOp) false), (12, .int .i64 ((a0.f_Queries.map e_sl_QOp).length : Int)), (13, .int .i64 v2)]) (L := [((0, 0), .one [.isl 1 (a1.map e_i64) false]), ((1, 0), .one [.msl (2, 0) 1 0 v3.length false]), ((2, 0), .rows 1 (v3.map e_i64))]) (n := 3) ?_ ?_
    · exact simI (M := [((0, 0), (0, 0)), ((1, 0), (1, 0)), ((2, 0), (3, 0))]) rfl (And.intro (Vw.ptr _ _ _ _ rfl) (And.intro (Vw.ptr _ _ _ _ rfl) (And.intro (Vw.same _ rfl) (And.intro (Vw.same _ rfl) (And.intro (Vw.same _ rfl) (And.intro (Vw.same _ rfl) trivial)))))) (And.intro (And.intro rfl (BVw.oneL (And.intro (Vw.same _ rfl) trivial))) (And.intro (And.intro rfl (BVw.oneL (And.intro (Vw.mslE rfl (by first | rfl | simp) rfl) trivial))) (And.intro (And.intro rfl (BVw.enc e_i64 (fun _ => rfl) _ v3)) trivial)))
    refine regI ?_
    obtain ⟨h12, h⟩ := ite_some h
    refine And.intro (List.cons_ne_nil _ _) (And.intro (lenW e_i64 (by first | rfl | simp)) (Exists.intro ((v3 ++ ([v5.1] : List Int)).map e_i64) (And.intro (appW e_i64 v3 ([v5.1] : List Int) (by first | rfl | simp)) (And.intro h12 ?_))))
    refine regI ?_
    cases h
    exact And.intro rfl (simI (M := [((0, 0), (0, 0)), ((1, 0), (1, 0)), ((2, 0), (3, 0))]) rfl (And.intro (Vw.ptr _ _ _ _ rfl) (And.intro (Vw.ptr _ _ _ _ rfl) (And.intro (Vw.same _ rfl) (And.intro (Vw.same _ rfl) (And.intro (Vw.same _ rfl) trivial))))) (And.intro (And.intro rfl (BVw.oneL (And.intro (Vw.same _ rfl) trivial))) (And.intro (And.intro rfl (BVw.oneL (And.intro (Vw.mslE rfl (by first | rfl | simp) rfl) trivial))) (And.intro (And.intro rfl (BVw.enc e_i64 (fun _ => rfl) _ (v3 ++ ([v5.1] : List Int)))) trivial))))
  · have h := ite_ff h9 h
    refine exitI ?_
    obtain ⟨o, hq, rfl⟩ := Option.map_eq_some_iff.1 h
    replace h := hq; clear hq
    refine And.intro nofun ?_
    refine LWp.sim ?_ (f12_j1_ok h)
    exact simI (M := [((0, 0), (1, 0)), ((1, 0), (2, 0))]) rfl (And.intro (Vw.ptr _ _ _ _ rfl) trivial) (And.intro (And.intro rfl (BVw.oneL (And.intro (Vw.mslE rfl (by first | rfl | simp) rfl) trivial))) (And.intro (And.intro rfl (BVw.enc e_i64 (fun _ => rfl) _ v3)) trivial))

theorem f12_L1_ok {a0 : G_QProgram} {a1 : List Int} {v2 : Int} {v3 : List Int} {m : Option Nat} {o : (List Int)} (h : S_glossatorref3_Values_l1 m a0 a1 v2 v3 = some o) :
    LWp Try.prog f12_lay 0 (.loop f12_c1) (QBlock 0 (QSeq Try.prog f12_lay 0 f12_c0 (f12_Q a0 a1 o))) [(3, .ptr (0, 0) 0 0), (5, .ptr (1, 0) 0 0), (11, .isl 1 (a0.f_Queries.map e_sl_QOp) false), (12, .int .i64 ((a0.f_Queries.map e_sl_QOp).length : Int)), (13, .int .i64 v2)] [((0, 0), .one [.isl 1 (a1.map e_i64) false]), ((1, 0), .one [.msl (2, 0) 1 0 v3.length false]), ((2, 0), .rows 1 (v3.map e_i64))] 3 :=
  LWp_loopM (m := m) (s := ((v2, v3) : (Int × (List Int)))) (r := o) (fun (s : (Int × (List Int))) => S_glossatorref3_Values_b1 m a0 a1 s.1 s.2) (f12_L1_env a0 a1) (f12_L1_hp a0 a1) (f12_L1_Q a0 a1) (fun s o h => f12_L1_bok h) h

noncomputable def S_glossatorref3_Values (m : Option Nat) (a0 : G_QProgram) (a1 : List Int) : Option (List Int) :=
  S_glossatorref3_Values_l1 m a0 a1 0 ([] : List Int)

theorem f12_start {a0 : G_QProgram} {a1 : List Int} {m : Option Nat} {o : (List Int)} (h : S_glossatorref3_Values m a0 a1 = some o) : LWp Try.prog f12_lay 0 f12_c2 (f12_Q a0 a1 o) (initEnv 0 [.agg [.int .i64 a0.f_Inputs, .isl 1 (a0.f_Queries.map e_sl_QOp) false], .isl 1 (a1.map e_i64) false]) [] 0 := by
  unfold S_glossatorref3_Values at h
  refine seqI ?_
  refine regI ?_
  refine seqI ?_
  refine regI ?_
  refine LWp.ghost (b := (2, 0)) 1 rfl rfl ?_
  refine LWp.sim (e := [(2, .ptr (0, 0) 0 0), (3, .ptr (1, 0) 0 0), (5, .ptr (2, 0) 0 0)]) (L := [((0, 0), .one [.int .i64 a0.f_Inputs, .isl 1 (a0.f_Queries.map e_sl_QOp) false]), ((1, 0), .one [.isl 1 (a1.map e_i64) false]), ((2, 0), .one [.msl (3, 0) 1 0 (([] : List Int).length) false]), ((3, 0), .rows 1 (([] : List Int).map e_i64))]) (n := 4) ?_ ?_
  · exact simI (M := [((0, 0), (0, 0)), ((1, 0), (1, 0)), ((2, 0), (2, 0)), ((3, 0), (3, 0))]) rfl (And.intro (Vw.ptr _ _ _ _ rfl) (And.intro (Vw.ptr _ _ _ _ rfl) (And.intro (Vw.ptr _ _ _ _ rfl) trivial))) (And.intro (And.intro rfl (BVw.oneL (And.intro (Vw.same _ rfl) (And.intro (Vw.same _ rfl) trivial)))) (And.intro (And.intro rfl (BVw.oneL (And.intro (Vw.same _ rfl) trivial))) (And.intro (And.intro rfl (BVw.oneL (And.intro (Vw.islM _ _ _ _ _ _ rfl rfl) trivial))) (And.intro (And.intro rfl (BVw.enc e_i64 (fun _ => rfl) _ ([] : List Int))) trivial))))
  refine seqI ?_
  refine seqI ?_
  refine regI ?_
  refine blockI ?_
  refine LWp.sim ?_ (f12_L1_ok h)
  exact simI (M := [((0, 0), (1, 0)), ((1, 0), (2, 0)), ((2, 0), (3, 0))]) rfl (And.intro (Vw.ptr _ _ _ _ rfl) (And.intro (Vw.ptr _ _ _ _ rfl) (And.intro (Vw.same _ rfl) (And.intro (Vw.same _ rfl) (And.intro (Vw.same _ rfl) trivial))))) (And.intro (And.intro rfl (BVw.oneL (And.intro (Vw.same _ rfl) trivial))) (And.intro (And.intro rfl (BVw.oneL (And.intro (Vw.mslE rfl (by first | rfl | simp) rfl) trivial))) (And.intro (And.intro rfl (BVw.enc e_i64 (fun _ => rfl) _ ([] : List Int))) trivial)))

theorem f12_ok {a0 : G_QProgram} {a1 : List Int} {m : Option Nat} {o : (List Int)} (h : S_glossatorref3_Values m a0 a1 = some o) : PFn Try.prog 12 [.agg [.int .i64 a0.f_Inputs, .isl 1 (a0.f_Queries.map e_sl_QOp) false], .isl 1 (a1.map e_i64) false] (.isl 1 (o.map e_i64) false) := PFn.ofFnW (L := f12_L) f12_low f12_fok (Nat.le_of_ble_eq_true rfl) rfl (f12_start h)

def f4_c0 : LCode := (.seq (.region [⟨some 3, .box (.t 0), none⟩,
   ⟨some 6, .mv (.c (.bool false)), none⟩])
 (.seq (.seq (.region [⟨some 10, .call 7 [], none⟩,
   ⟨some 11, .un .not (.t 10), none⟩])
 (.cond (.t 11)
  (.seq (.region [⟨some 6, .mv (.c (.bool false)), none⟩])
  .ret)
  .skip))
 (.seq (.region [⟨some 13, .load true 2 (.t 3), none⟩,
   ⟨some 14, .mv (.t 1), none⟩,
   ⟨some 15, .mv (.t 2), none⟩,
   ⟨some 16, .call 10 [(.t 13), (.t 14), (.t 15)], none⟩,
   ⟨some 12, .mv (.t 16), none⟩,
   ⟨some 17, .ext 0 (.t 12), none⟩,
   ⟨some 18, .ext 1 (.t 12), none⟩,
   ⟨some 7, .mv (.t 17), none⟩,
   ⟨some 8, .mv (.t 18), none⟩])
 (.seq (.region [⟨some 19, .load true 2 (.t 3), none⟩,
   ⟨some 20, .mv (.t 1), none⟩,
   ⟨some 21, .mv (.t 2), none⟩,
   ⟨some 22, .call 11 [(.t 19), (.t 20), (.t 21)], none⟩,
   ⟨some 9, .mv (.t 22), none⟩])
 (.seq (.seq (.region [⟨some 23, .mv (.t 9), none⟩,
   ⟨some 24, .bin .neq (.t 23) (.c (.int .i64 0)), none⟩])
 (.cond (.t 24)
  (.seq (.region [⟨some 25, .call 7 [], none⟩,
    ⟨some 26, .mv (.t 25), none⟩,
    ⟨some 27, .mv (.t 8), some (26, true)⟩,
    ⟨some 28, .mv (.t 9), some (26, true)⟩,
    ⟨some 29, .bin .eql (.t 27) (.t 28), some (26, true)⟩,
    ⟨some 30, .pick (.t 26) (.t 29) (.c (.bool false)), none⟩,
    ⟨some 31, .mv (.t 30), none⟩,
    ⟨some 32, .mv (.t 7), some (31, true)⟩,
    ⟨some 33, .bin .eql (.t 32) (.c (.int .i64 0)), some (31, true)⟩,
    ⟨some 34, .pick (.t 31) (.t 33) (.c (.bool false)), none⟩,
    ⟨some 6, .mv (.t 34), none⟩])
  .ret)
  .skip))
 (.seq (.region [⟨some 35, .call 7 [], none⟩,
   ⟨some 36, .mv (.t 35), none⟩,
   ⟨some 37, .mv (.t 8), some (36, true)⟩,
   ⟨some 38, .bin .eql (.t 37) (.c (.int .i64 0)), some (36, true)⟩,
   ⟨some 39, .pick (.t 36) (.t 38) (.c (.bool false)), none⟩,
   ⟨some 40, .mv (.t 39), none⟩,
   ⟨some 41, .mv (.t 7), some (40, true)⟩,
   ⟨some 42, .load true 2 (.t 3), some (40, true)⟩,
   ⟨some 43, .mv (.t 1), some (40, true)⟩,
   ⟨some 44, .call 12 [(.t 42), (.t 43)], some (40, true)⟩,
   ⟨some 45, .mv (.t 2), some (40, true)⟩,
   ⟨some 46, .iaddr 1 (.t 44) (.t 45), some (40, true)⟩,
   ⟨some 47, .load false 1 (.t 46), some (40, true)⟩,
   ⟨some 48, .bin .eql (.t 41) (.t 47), some (40, true)⟩,
   ⟨some 49, .pick (.t 40) (.t 48) (.c (.bool false)), none⟩,
   ⟨some 6, .mv (.t 49), none⟩])
 .ret))))))
def f4_lay : Lay := ⟨50, []⟩
def f4_res : List LRes := [.t 6]
def f4_L : LFn := ⟨3, f4_lay, f4_c0, f4_res⟩
theorem f4_low : lowFn Try.prog [] 4 = some f4_L := by kernel_rfl
theorem f4_fok : FnOk Try.prog 4 := ⟨_, Try.func4, rfl, rfl⟩
noncomputable def S_glossatorlaw3_QuerylangEval (m : Option Nat) (a0 : G_QProgram) (a1 : List Int) (a2 : Int) : Option Bool :=
  (S_glossatorlaw3_queryExample (some 4096)).bind fun v1 =>
  if (!v1) = true then
    some false
  else
    (S_querylang_Eval m a0 a1 a2).bind fun v2 =>
    (S_glossatorlaw3_evalError m a0 a1 a2).bind fun v3 =>
    if (v3 != 0) = true then
      (S_glossatorlaw3_queryExample (some 4096)).bind fun v4 =>
      some ((v4 && (v2.2 == v3)) && (v2.1 == 0))
    else
      (S_glossatorlaw3_queryExample (some 4096)).bind fun v5 =>
      (if ((v5 && (v2.2 == 0)) == true) = true then S_glossatorref3_Values m a0 a1 else some default).bind fun v6 =>
      if (((v5 && (v2.2 == 0)) == true) = true → (0 : Int) ≤ a2 ∧ a2 < ((v6.map e_i64).length : Int)) then
      some ((v5 && (v2.2 == 0)) && (v2.1 == (v6.getD a2.toNat default)))
      else none

def f4_Q (a0 : G_QProgram) (a1 : List Int) (a2 : Int) (o : Bool) : Exit → Env → AHeap → Nat → Prop := FinK f4_res (PureEnd (.bool o))

theorem f4_start {a0 : G_QProgram} {a1 : List Int} {a2 : Int} {m : Option Nat} {o : Bool} (h : S_glossatorlaw3_QuerylangEval m a0 a1 a2 = some o) : LWp Try.prog f4_lay 0 f4_c0 (f4_Q a0 a1 a2 o) (initEnv 0 [.agg [.int .i64 a0.f_Inputs, .isl 1 (a0.f_Queries.map e_sl_QOp) false], .isl 1 (a1.map e_i64) false, .int .i64 a2]) [] 0 := by
  unfold S_glossatorlaw3_QuerylangEval at h
  refine seqI ?_
  refine regI ?_
  refine seqI ?_
  refine seqI ?_
  refine regI ?_
  obtain ⟨v1, h1, h⟩ := bind_some h
  refine PFn.call (f7_ok h1) trivial ?_
  refine condI (v := (!v1)) rfl trivial (fun h2 => ?_) (fun h2 => ?_)
  · have h := ite_tt h2 h
    refine seqI ?_
    refine regI ?_
    refine retI ?_
    cases h
    exact And.intro trivial (And.intro rfl (Vw.same _ rfl))
  · have h := ite_ff h2 h
    refine skipI ?_
    refine seqI ?_
    refine regI ?_
    obtain ⟨v2, h3, h⟩ := bind_some h
    refine PFn.call (f10_ok h3) (And.intro (Vw.same _ rfl) (And.intro (Vw.same _ rfl) (And.intro (Vw.same _ rfl) trivial))) ?_
    show yops _ _ _ [(16, .tup [.int .i64 v2.1, .int .i64 v2.2]), (15, .int .i64 a2), (14, .isl 1 (a1.map e_i64) false), (13, .agg [.int .i64 a0.f_Inputs, .isl 1 (a0.f_Queries.map e_sl_QOp) false]), (11, .bool (!v1)), (10, .bool v1), (6, .bool false), (3, .ptr (0, 0) 0 0), (0, .agg [.int .i64 a0.f_Inputs, .isl 1 (a0.f_Queries.map e_sl_QOp) false]), (1, .isl 1 (a1.map e_i64) false), (2, .int .i64 a2)] _ _
    refine LWp.sim (e := [(1, .isl 1 (a1.map e_i64) false), (2, .int .i64 a2), (3, .ptr (0, 0) 0 0), (7, .int .i64 v2.1), (8, .int .i64 v2.2)]) (L := [((0, 0), .one [.int .i64 a0.f_Inputs, .isl 1 (a0.f_Queries.map e_sl_QOp) false])]) (n := 1) ?_ ?_
    · exact simI (M := [((0, 0), (0, 0))]) rfl (And.intro (Vw.same _ rfl) (And.intro (Vw.same _ rfl) (And.intro (Vw.ptr _ _ _ _ rfl) (And.intro (Vw.same _ rfl) (And.intro (Vw.same _ rfl) trivial))))) (And.intro (And.intro rfl (BVw.oneL (And.intro (Vw.same _ rfl) (And.intro (Vw.same _ rfl) trivial)))) trivial)
    refine seqI ?_
    refine regI ?_
    obtain ⟨v3, h4, h⟩ := bind_some h
    refine PFn.call (f11_ok h4) (And.intro (Vw.same _ rfl) (And.intro (Vw.same _ rfl) (And.intro (Vw.same _ rfl) trivial))) ?_
    refine seqI ?_
    refine seqI ?_
    refine regI ?_
    refine condI (v := (v3 != 0)) rfl trivial (fun h5 => ?_) (fun h5 => ?_)
    · have h := ite_tt h5 h
      refine seqI ?_
      refine regI ?_
      obtain ⟨v4, h6, h⟩ := bind_some h
      refine PFn.call (f7_ok h6) trivial ?_
      show yops _ _ _ [(25, .bool v4), (24, .bool (v3 != 0)), (23, .int .i64 v3), (9, .int .i64 v3), (22, .int .i64 v3), (21, .int .i64 a2), (20, .isl 1 (a1.map e_i64) false), (19, .agg [.int .i64 a0.f_Inputs, .isl 1 (a0.f_Queries.map e_sl_QOp) false]), (1, .isl 1 (a1.map e_i64) false), (2, .int .i64 a2), (3, .ptr (0, 0) 0 0), (7, .int .i64 v2.1), (8, .int .i64 v2.2)] _ _
      refine And.intro (fun hp => (And.intro hp hp)) ?_
      refine And.intro (fun hc => (bqt hc)) ?_
      show yops _ _ _ [(30, .bool (v4 && (v2.2 == v3))), (29, .cnd (v4 == true) (.bool (v2.2 == v3))), (28, .cnd (v4 == true) (.int .i64 v3)), (27, .cnd (v4 == true) (.int .i64 v2.2)), (26, .bool v4), (25, .bool v4), (24, .bool (v3 != 0)), (23, .int .i64 v3), (9, .int .i64 v3), (22, .int .i64 v3), (21, .int .i64 a2), (20, .isl 1 (a1.map e_i64) false), (19, .agg [.int .i64 a0.f_Inputs, .isl 1 (a0.f_Queries.map e_sl_QOp) false]), (1, .isl 1 (a1.map e_i64) false), (2, .int .i64 a2), (3, .ptr (0, 0) 0 0), (7, .int .i64 v2.1), (8, .int .i64 v2.2)] _ _
      refine And.intro (fun hp => hp) ?_
      refine And.intro (fun hc => (bqt hc)) ?_
      refine LWp.sim (e := [(6, .bool ((v4 && (v2.2 == v3)) && (v2.1 == 0)))]) (L := []) (n := 0) ?_ ?_
      · exact simI (M := []) rfl (And.intro (Vw.same _ rfl) trivial) trivial
      refine retI ?_
      cases h
      exact And.intro trivial (And.intro rfl (Vw.same _ rfl))
    · have h := ite_ff h5 h
      refine skipI ?_
      refine seqI ?_
      refine regI ?_
      obtain ⟨v5, h7, h⟩ := bind_some h
      refine PFn.call (f7_ok h7) trivial ?_
      show yops _ _ _ [(35, .bool v5), (24, .bool (v3 != 0)), (23, .int .i64 v3), (9, .int .i64 v3), (22, .int .i64 v3), (21, .int .i64 a2), (20, .isl 1 (a1.map e_i64) false), (19, .agg [.int .i64 a0.f_Inputs, .isl 1 (a0.f_Queries.map e_sl_QOp) false]), (1, .isl 1 (a1.map e_i64) false), (2, .int .i64 a2), (3, .ptr (0, 0) 0 0), (7, .int .i64 v2.1), (8, .int .i64 v2.2)] _ _
      refine And.intro (fun hp => hp) ?_
      refine And.intro (fun hc => (bqt hc)) ?_
      obtain ⟨v6, h8, h⟩ := bind_some h
      refine Or.inl (Exists.intro (.isl 1 (v6.map e_i64) false) (And.intro (fun hp => And.intro (And.intro hp hp) (PFn.call (f12_ok (ite_tt hp h8)) (And.intro (Vw.same _ rfl) (And.intro (Vw.same _ rfl) trivial)) (And.intro rfl (And.intro rfl rfl)))) ?_))
      obtain ⟨h9, h⟩ := ite_some h
      refine And.intro (fun hp => (And.intro (And.intro hp hp) (h9 hp))) ?_
      show yops _ _ _ [(46, .cnd ((v5 && (v2.2 == 0)) == true) (.iptr 1 (v6.map e_i64) a2.toNat 0)), (45, .cnd ((v5 && (v2.2 == 0)) == true) (.int .i64 a2)), (44, .cnd ((v5 && (v2.2 == 0)) == true) (.isl 1 (v6.map e_i64) false)), (43, .cnd ((v5 && (v2.2 == 0)) == true) (.isl 1 (a1.map e_i64) false)), (42, .cnd ((v5 && (v2.2 == 0)) == true) (.agg [.int .i64 a0.f_Inputs, .isl 1 (a0.f_Queries.map e_sl_QOp) false])), (41, .cnd ((v5 && (v2.2 == 0)) == true) (.int .i64 v2.1)), (40, .bool (v5 && (v2.2 == 0))), (39, .bool (v5 && (v2.2 == 0))), (38, .cnd (v5 == true) (.bool (v2.2 == 0))), (37, .cnd (v5 == true) (.int .i64 v2.2)), (36, .bool v5), (35, .bool v5), (24, .bool (v3 != 0)), (23, .int .i64 v3), (9, .int .i64 v3), (22, .int .i64 v3), (21, .int .i64 a2), (20, .isl 1 (a1.map e_i64) false), (19, .agg [.int .i64 a0.f_Inputs, .isl 1 (a0.f_Queries.map e_sl_QOp) false]), (1, .isl 1 (a1.map e_i64) false), (2, .int .i64 a2), (3, .ptr (0, 0) 0 0), (7, .int .i64 v2.1), (8, .int .i64 v2.2)] _ _
      refine Exists.intro (e_i64 (v6.getD a2.toNat default)) (And.intro (fun hp => And.intro (getD_enc e_i64 _ _ (idx_ltL e_i64 (h9 hp))) (And.intro hp (And.intro (idx_lt (h9 hp)) (Nat.le_of_ble_eq_true rfl)))) ?_)
      refine And.intro (fun hp => (And.intro hp hp)) ?_
      refine And.intro (fun hc => (bqt hc)) ?_
      refine LWp.sim (e := [(6, .bool ((v5 && (v2.2 == 0)) && (v2.1 == (v6.getD a2.toNat default))))]) (L := []) (n := 0) ?_ ?_
      · exact simI (M := []) rfl (And.intro (Vw.same _ rfl) trivial) trivial
      refine retI ?_
      cases h
      exact And.intro trivial (And.intro rfl (Vw.same _ rfl))

theorem f4_ok {a0 : G_QProgram} {a1 : List Int} {a2 : Int} {m : Option Nat} {o : Bool} (h : S_glossatorlaw3_QuerylangEval m a0 a1 a2 = some o) : PFn Try.prog 4 [.agg [.int .i64 a0.f_Inputs, .isl 1 (a0.f_Queries.map e_sl_QOp) false], .isl 1 (a1.map e_i64) false, .int .i64 a2] (.bool o) := PFn.ofFnW (L := f4_L) f4_low f4_fok (Nat.le_of_ble_eq_true rfl) rfl (f4_start h)

def f46_c1 : LCode := (.seq (.region [⟨some 9, .bin .lss (.t 8) (.t 7), none⟩])
 (.seq (.cond (.t 9)
  .skip
  (.exit 0))
 (.seq (.block 1
  (.seq (.region [⟨some 10, .mv (.t 8), none⟩,
    ⟨some 5, .mv (.t 10), none⟩])
  (.seq (.quiet [⟨some 11, .load true 3 (.t 3), none⟩,
    ⟨some 12, .mv (.t 0), none⟩,
    ⟨some 13, .mv (.t 5), none⟩,
    ⟨some 14, .iaddr 3 (.t 12) (.t 13), none⟩,
    ⟨some 15, .load true 3 (.t 14), none⟩,
    ⟨some 16, .eq false (.agg [.int, .int, .int]) (.t 11) (.t 15), none⟩])
  (.cond (.t 16)
   (.seq (.region [⟨some 17, .mv (.t 5), none⟩,
     ⟨some 4, .mv (.t 17), none⟩])
   .ret)
   .skip))))
 (.region [⟨some 18, .bin .add (.t 8) (.c (.int .i64 1)), none⟩,
   ⟨some 8, .mv (.t 18), none⟩]))))
def f46_c0 : LCode := (.seq (.region [⟨some 4, .mv (.c (.int .i64 (-1))), none⟩])
 .ret)
def f46_c2 : LCode := (.seq (.region [⟨some 3, .box (.t 1), none⟩,
   ⟨some 4, .mv (.c (.int .i64 0)), none⟩])
 (.seq (.seq (.region [⟨some 6, .mv (.t 0), none⟩,
   ⟨some 7, .len false (.t 6), none⟩,
   ⟨some 8, .mv (.c (.int .i64 0)), none⟩])
 (.block 0
  (.loop
   f46_c1)))
 f46_c0))
def f46_lay : Lay := ⟨19, []⟩
def f46_res : List LRes := [.t 4]
def f46_L : LFn := ⟨2, f46_lay, f46_c2, f46_res⟩
theorem f46_low : lowFn Try.prog [] 46 = some f46_L := by kernel_rfl
theorem f46_fok : FnOk Try.prog 46 := ⟨_, Try.func46, rfl, rfl⟩
def f46_Q (a0 : List G_QKey) (a1 : G_QKey) (o : Int) : Exit → Env → AHeap → Nat → Prop := FinK f46_res (PureEnd (.int .i64 o))

def f46_L1_env (a0 : List G_QKey) (a1 : G_QKey) (s : Int) : Env := [(0, .isl 3 (a0.map e_QKey) false), (3, .ptr (0, 0) 0 0), (7, .int .i64 ((a0.map e_QKey).length : Int)), (8, .int .i64 s)]
def f46_L1_hp (a0 : List G_QKey) (a1 : G_QKey) (s : Int) : AHeap := [((0, 0), .one [.int .i64 a1.f_Kind, .int .i64 a1.f_A, .int .i64 a1.f_B])]
def f46_L1_Q (a0 : List G_QKey) (a1 : G_QKey) (o : Int) : Exit → Env → AHeap → Nat → Prop := (QBlock 0 (QSeq Try.prog f46_lay 0 f46_c0 (f46_Q a0 a1 o)))

noncomputable def S_slices_Index_api_QKey_j1 (m : Option Nat) : Option Int :=
  some (-1)

noncomputable def S_slices_Index_api_QKey_b1 (m : Option Nat) (a0 : List G_QKey) (a1 : G_QKey) (v1 : Int) : Option (Int ⊕ Int) :=
  if (decide (v1 < ((a0.map e_QKey).length : Int))) = true then
    if (0 : Int) ≤ v1 ∧ v1 < ((a0.map e_QKey).length : Int) then
    if ((a1.f_Kind == (a0.getD v1.toNat default).f_Kind) && ((a1.f_A == (a0.getD v1.toNat default).f_A) && ((a1.f_B == (a0.getD v1.toNat default).f_B) && true))) = true then
      Option.map Sum.inr (
        some v1)
    else
      some (.inl (W (v1 + 1)))
    else none
  else
    Option.map Sum.inr (
      S_slices_Index_api_QKey_j1 m)

noncomputable def S_slices_Index_api_QKey_l1 (m : Option Nat) (a0 : List G_QKey) (a1 : G_QKey) (v1 : Int) : Option Int := loopM m (fun (s : Int) => S_slices_Index_api_QKey_b1 m a0 a1 s) v1

theorem f46_j1_ok {a0 : List G_QKey} {a1 : G_QKey} {m : Option Nat} {o : Int} (h : S_slices_Index_api_QKey_j1 m = some o) :
    LWp Try.prog f46_lay 0 f46_c0 (f46_Q a0 a1 o) [] [] 0 := by
  unfold S_slices_Index_api_QKey_j1 at h
  refine seqI ?_
  refine regI ?_
  refine retI ?_
  cases h
  exact And.intro trivial (And.intro rfl (Vw.same _ rfl))

theorem f46_L1_bok {a0 : List G_QKey} {a1 : G_QKey} {v1 : Int} {m : Option Nat} {o : Int ⊕ Int} (h : S_slices_Index_api_QKey_b1 m a0 a1 v1 = some o) :
    LWp Try.prog f46_lay 0 f46_c1 (BodyQ 0 1 (f46_L1_env a0 a1) (f46_L1_hp a0 a1) (f46_L1_Q a0 a1) o) [(0, .isl 3 (a0.map e_QKey) false), (3, .ptr (0, 0) 0 0), (7, .int .i64 ((a0.map e_QKey).length : Int)), (8, .int .i64 v1)] [((0, 0), .one [.int .i64 a1.f_Kind, .int .i64 a1.f_A, .int .i64 a1.f_B])] 1 := by
  unfold S_slices_Index_api_QKey_b1 at h
  refine seqI ?_
  refine regI ?_
  refine seqI ?_
  refine condI (v := (decide (v1 < ((a0.map e_QKey).length : Int)))) rfl trivial (fun h7 => ?_) (fun h7 => ?_)
  · have h := ite_tt h7 h
    refine skipI ?_
    refine seqI ?_
    refine blockI ?_
    refine seqI ?_
    refine regI ?_
    refine seqI ?_
    refine quietI ?_
    obtain ⟨h8, h⟩ := ite_some h
    refine And.intro h8 ?_
    show yqs _ _ [(14, .iptr 3 (a0.map e_QKey) v1.toNat 0), (13, .int .i64 v1), (12, .isl 3 (a0.map e_QKey) false), (11, .agg [.int .i64 a1.f_Kind, .int .i64 a1.f_A, .int .i64 a1.f_B]), (5, .int .i64 v1), (10, .int .i64 v1), (9, .bool (decide (v1 < ((a0.map e_QKey).length : Int)))), (0, .isl 3 (a0.map e_QKey) false), (3, .ptr (0, 0) 0 0), (7, .int .i64 ((a0.map e_QKey).length : Int)), (8, .int .i64 v1)] _ _
    refine Exists.intro (e_QKey (a0.getD v1.toNat default)) (And.intro (getD_enc e_QKey _ _ (idx_ltL e_QKey h8)) (And.intro (And.intro (idx_lt h8) (Nat.le_of_ble_eq_true rfl)) ?_))
    refine LWp.sim (e := [(0, .isl 3 (a0.map e_QKey) false), (3, .ptr (0, 0) 0 0), (5, .int .i64 v1), (7, .int .i64 ((a0.map e_QKey).length : Int)), (8, .int .i64 v1), (16, .bool ((a1.f_Kind == (a0.getD v1.toNat default).f_Kind) && ((a1.f_A == (a0.getD v1.toNat default).f_A) && ((a1.f_B == (a0.getD v1.toNat default).f_B) && true))))]) (L := [((0, 0), .one [.int .i64 a1.f_Kind, .int .i64 a1.f_A, .int .i64 a1.f_B])]) (n := 1) ?_ ?_
    · exact simI (M := [((0, 0), (0, 0))]) rfl (And.intro (Vw.same _ rfl) (And.intro (Vw.ptr _ _ _ _ rfl) (And.intro (Vw.same _ rfl) (And.intro (Vw.same _ rfl) (And.intro (Vw.same _ rfl) (And.intro (Vw.same _ rfl) trivial)))))) (And.intro (And.intro rfl (BVw.oneL (And.intro (Vw.same _ rfl) (And.intro (Vw.same _ rfl) (And.intro (Vw.same _ rfl) trivial))))) trivial)
    refine condI (v := ((a1.f_Kind == (a0.getD v1.toNat default).f_Kind) && ((a1.f_A == (a0.getD v1.toNat default).f_A) && ((a1.f_B == (a0.getD v1.toNat default).f_B) && true)))) rfl trivial (fun h9 => ?_) (fun h9 => ?_)
    · have h := ite_tt h9 h
      refine seqI ?_
      refine regI ?_
      refine retI ?_
      obtain ⟨o, hq, rfl⟩ := Option.map_eq_some_iff.1 h
      replace h := hq; clear hq
      refine And.intro nofun ?_
      cases h
      exact And.intro trivial (And.intro rfl (Vw.same _ rfl))
    · have h := ite_ff h9 h
      refine skipI ?_
      refine regI ?_
      cases h
      exact And.intro rfl (simI (M := [((0, 0), (0, 0))]) rfl (And.intro (Vw.same _ rfl) (And.intro (Vw.ptr _ _ _ _ rfl) (And.intro (Vw.same _ rfl) (And.intro (Vw.same _ rfl) trivial)))) (And.intro (And.intro rfl (BVw.oneL (And.intro (Vw.same _ rfl) (And.intro (Vw.same _ rfl) (And.intro (Vw.same _ rfl) trivial))))) trivial))
  · have h := ite_ff h7 h
    refine exitI ?_
    obtain ⟨o, hq, rfl⟩ := Option.map_eq_some_iff.1 h
    replace h := hq; clear hq
    refine And.intro nofun ?_
    refine LWp.sim ?_ (f46_j1_ok h)
    exact simI (M := []) rfl trivial trivial

theorem f46_L1_ok {a0 : List G_QKey} {a1 : G_QKey} {v1 : Int} {m : Option Nat} {o : Int} (h : S_slices_Index_api_QKey_l1 m a0 a1 v1 = some o) :
    LWp Try.prog f46_lay 0 (.loop f46_c1) (QBlock 0 (QSeq Try.prog f46_lay 0 f46_c0 (f46_Q a0 a1 o))) [(0, .isl 3 (a0.map e_QKey) false), (3, .ptr (0, 0) 0 0), (7, .int .i64 ((a0.map e_QKey).length : Int)), (8, .int .i64 v1)] [((0, 0), .one [.int .i64 a1.f_Kind, .int .i64 a1.f_A, .int .i64 a1.f_B])] 1 :=
  LWp_loopM (m := m) (s := (v1 : Int)) (r := o) (fun (s : Int) => S_slices_Index_api_QKey_b1 m a0 a1 s) (f46_L1_env a0 a1) (f46_L1_hp a0 a1) (f46_L1_Q a0 a1) (fun s o h => f46_L1_bok h) h

noncomputable def S_slices_Index_api_QKey (m : Option Nat) (a0 : List G_QKey) (a1 : G_QKey) : Option Int :=
  S_slices_Index_api_QKey_l1 m a0 a1 0

theorem f46_start {a0 : List G_QKey} {a1 : G_QKey} {m : Option Nat} {o : Int} (h : S_slices_Index_api_QKey m a0 a1 = some o) : LWp Try.prog f46_lay 0 f46_c2 (f46_Q a0 a1 o) (initEnv 0 [.isl 3 (a0.map e_QKey) false, .agg [.int .i64 a1.f_Kind, .int .i64 a1.f_A, .int .i64 a1.f_B]]) [] 0 := by
  unfold S_slices_Index_api_QKey at h
  refine seqI ?_
  refine regI ?_
  refine seqI ?_
  refine seqI ?_
  refine regI ?_
  refine blockI ?_
  refine LWp.sim ?_ (f46_L1_ok h)
  exact simI (M := [((0, 0), (0, 0))]) rfl (And.intro (Vw.same _ rfl) (And.intro (Vw.ptr _ _ _ _ rfl) (And.intro (Vw.same _ rfl) (And.intro (Vw.same _ rfl) trivial)))) (And.intro (And.intro rfl (BVw.oneL (And.intro (Vw.same _ rfl) (And.intro (Vw.same _ rfl) (And.intro (Vw.same _ rfl) trivial))))) trivial)

theorem f46_ok {a0 : List G_QKey} {a1 : G_QKey} {m : Option Nat} {o : Int} (h : S_slices_Index_api_QKey m a0 a1 = some o) : PFn Try.prog 46 [.isl 3 (a0.map e_QKey) false, .agg [.int .i64 a1.f_Kind, .int .i64 a1.f_A, .int .i64 a1.f_B]] (.int .i64 o) := PFn.ofFnW (L := f46_L) f46_low f46_fok (Nat.le_of_ble_eq_true rfl) rfl (f46_start h)

def f33_c0 : LCode := (.seq (.region [⟨some 3, .box (.t 1), none⟩,
   ⟨some 4, .mv (.c (.bool false)), none⟩])
 (.seq (.region [⟨some 5, .mv (.t 0), none⟩,
   ⟨some 6, .load true 3 (.t 3), none⟩,
   ⟨some 7, .call 46 [(.t 5), (.t 6)], none⟩,
   ⟨some 8, .bin .geq (.t 7) (.c (.int .i64 0)), none⟩,
   ⟨some 4, .mv (.t 8), none⟩])
 .ret))
def f33_lay : Lay := ⟨9, []⟩
def f33_res : List LRes := [.t 4]
def f33_L : LFn := ⟨2, f33_lay, f33_c0, f33_res⟩
theorem f33_low : lowFn Try.prog [] 33 = some f33_L := by kernel_rfl
theorem f33_fok : FnOk Try.prog 33 := ⟨_, Try.func33, rfl, rfl⟩
noncomputable def S_slices_Contains_api_QKey (m : Option Nat) (a0 : List G_QKey) (a1 : G_QKey) : Option Bool :=
  (S_slices_Index_api_QKey m a0 a1).bind fun v1 =>
  some (decide (v1 ≥ 0))

def f33_Q (a0 : List G_QKey) (a1 : G_QKey) (o : Bool) : Exit → Env → AHeap → Nat → Prop := FinK f33_res (PureEnd (.bool o))

theorem f33_start {a0 : List G_QKey} {a1 : G_QKey} {m : Option Nat} {o : Bool} (h : S_slices_Contains_api_QKey m a0 a1 = some o) : LWp Try.prog f33_lay 0 f33_c0 (f33_Q a0 a1 o) (initEnv 0 [.isl 3 (a0.map e_QKey) false, .agg [.int .i64 a1.f_Kind, .int .i64 a1.f_A, .int .i64 a1.f_B]]) [] 0 := by
  unfold S_slices_Contains_api_QKey at h
  refine seqI ?_
  refine regI ?_
  refine seqI ?_
  refine regI ?_
  obtain ⟨v1, h1, h⟩ := bind_some h
  refine PFn.call (f46_ok h1) (And.intro (Vw.same _ rfl) (And.intro (Vw.same _ rfl) trivial)) ?_
  show yops _ _ _ [(7, .int .i64 v1), (6, .agg [.int .i64 a1.f_Kind, .int .i64 a1.f_A, .int .i64 a1.f_B]), (5, .isl 3 (a0.map e_QKey) false), (4, .bool false), (3, .ptr (0, 0) 0 0), (0, .isl 3 (a0.map e_QKey) false), (1, .agg [.int .i64 a1.f_Kind, .int .i64 a1.f_A, .int .i64 a1.f_B])] _ _
  refine retI ?_
  cases h
  exact And.intro trivial (And.intro rfl (Vw.same _ rfl))

theorem f33_ok {a0 : List G_QKey} {a1 : G_QKey} {m : Option Nat} {o : Bool} (h : S_slices_Contains_api_QKey m a0 a1 = some o) : PFn Try.prog 33 [.isl 3 (a0.map e_QKey) false, .agg [.int .i64 a1.f_Kind, .int .i64 a1.f_A, .int .i64 a1.f_B]] (.bool o) := PFn.ofFnW (L := f33_L) f33_low f33_fok (Nat.le_of_ble_eq_true rfl) rfl (f33_start h)

def f32c1_c0 : LCode := (.seq (.region [⟨some 13, .load false 1 (.t 2), none⟩,
   ⟨some 14, .load true 3 (.t 3), none⟩,
   ⟨some 15, .call 29 [(.t 13), (.t 14)], none⟩,
   ⟨some 4, .mv (.t 15), none⟩])
 .ret)
def f32c1_c1 : LCode := (.seq (.region [⟨some 3, .box (.t 0), none⟩,
   ⟨some 4, .mv (.c (.int .i64 0)), none⟩])
 (.seq (.seq (.region [⟨some 5, .load false 1 (.t 1), none⟩,
   ⟨some 6, .load true 3 (.t 3), none⟩,
   ⟨some 7, .call 33 [(.t 5), (.t 6)], none⟩,
   ⟨some 8, .un .not (.t 7), none⟩])
 (.cond (.t 8)
  (.region [⟨some 9, .load false 1 (.t 1), none⟩,
    ⟨some 10, .load true 3 (.t 3), none⟩,
    ⟨some 11, .mkSl true 3 [(.int .i64 0), (.int .i64 0), (.int .i64 0)] 1 [(0, (.t 10))], none⟩,
    ⟨some 12, .app false 3 24 (.t 9) (.t 11), none⟩,
    ⟨none, .store 1 (.t 1) (.t 12), none⟩])
  .skip))
 f32c1_c0))
def f32c1_lay : Lay := ⟨16, [12]⟩
def f32c1_res : List LRes := [.t 4]
def f32c1_L : LFn := ⟨3, f32c1_lay, f32c1_c1, f32c1_res⟩
theorem f32c1_low : lowFn Try.prog [12] 32 = some f32c1_L := by kernel_rfl
theorem f32c1_fok : FnOk Try.prog 32 := ⟨_, Try.func32, rfl, rfl⟩
noncomputable def S_querylang_Reads_1c_32_j1 (m : Option Nat) (a1 : Int) (a2 : List (List G_QOp)) (a3 : List Int) (a4 : List (Int × Int)) (a5 : G_QKey) (v2 : List G_QKey) : Option (Int × (List G_QKey) × Int × (List (List G_QOp)) × (List Int) × (List (Int × Int))) :=
  (S_querylang_evaluator_get_29_2 m a5 a1 a2 a3 a4).bind fun v3 =>
  some (v3.1, v2, v3.2.1, v3.2.2.1, v3.2.2.2.1, v3.2.2.2.2)

def f32c1_Q (a0 : List G_QKey) (a1 : Int) (a2 : List (List G_QOp)) (a3 : List Int) (a4 : List (Int × Int)) (a5 : G_QKey) (o : Int × (List G_QKey) × Int × (List (List G_QOp)) × (List Int) × (List (Int × Int))) : Exit → Env → AHeap → Nat → Prop := FinK f32c1_res (FinTo 3 4 (.int .i64 o.1) [((1, 0), .one [.msl (3, 0) 3 0 o.2.1.length false]), ((1, 1), .one [.ptr (3, 1) 0 0]), ((3, 0), .rows 3 (o.2.1.map e_QKey)), ((3, 1), .one [.int .i64 o.2.2.1, .isl 1 (o.2.2.2.1.map e_sl_QOp) false, .isl 1 (o.2.2.2.2.1.map e_i64) false, .map (3, 2)]), ((3, 2), .amap (o.2.2.2.2.2.map (em a_i64 a_i64)))])

theorem f32c1_j1_ok {a0 : List G_QKey} {a1 : Int} {a2 : List (List G_QOp)} {a3 : List Int} {a4 : List (Int × Int)} {a5 : G_QKey} {v2 : List G_QKey} {m : Option Nat} {o : (Int × (List G_QKey) × Int × (List (List G_QOp)) × (List Int) × (List (Int × Int)))} (h : S_querylang_Reads_1c_32_j1 m a1 a2 a3 a4 a5 v2 = some o) :
    LWp Try.prog f32c1_lay 3 f32c1_c0 (f32c1_Q a0 a1 a2 a3 a4 a5 o) [(2, .ptr (1, 1) 0 0), (3, .ptr (5, 0) 0 0)] [((1, 0), .one [.msl (3, 0) 3 0 v2.length false]), ((1, 1), .one [.ptr (4, 0) 0 0]), ((3, 0), .rows 3 (v2.map e_QKey)), ((4, 0), .one [.int .i64 a1, .isl 1 (a2.map e_sl_QOp) false, .isl 1 (a3.map e_i64) false, .map (6, 0)]), ((5, 0), .one [.int .i64 a5.f_Kind, .int .i64 a5.f_A, .int .i64 a5.f_B]), ((6, 0), .amap (a4.map (em a_i64 a_i64)))] 7 := by
  unfold S_querylang_Reads_1c_32_j1 at h
  refine seqI ?_
  refine regI ?_
  obtain ⟨v3, h4, h⟩ := bind_some h
  refine bcall (k := 3) (m := 1) (L' := [((4, 0), .one [.int .i64 v3.2.1, .isl 1 (v3.2.2.1.map e_sl_QOp) false, .isl 1 (v3.2.2.2.1.map e_i64) false, .map (7, 0)]), ((7, 0), .amap (v3.2.2.2.2.map (em a_i64 a_i64)))]) (rest := [((1, 0), .one [.msl (3, 0) 3 0 v2.length false]), ((1, 1), .one [.ptr (4, 0) 0 0]), ((3, 0), .rows 3 (v2.map e_QKey)), ((5, 0), .one [.int .i64 a5.f_Kind, .int .i64 a5.f_A, .int .i64 a5.f_B])]) (R' := .int .i64 v3.1) [((0, 0), (4, 0)), ((0, 1), (6, 0))] (f29b2_ok h4) rfl rfl rfl (And.intro (Vw.ptr _ _ _ _ rfl) (And.intro (Vw.same _ rfl) trivial)) (And.intro (h0I (4, 0) rfl rfl (BVw.oneL (And.intro (Vw.same _ rfl) (And.intro (Vw.same _ rfl) (And.intro (Vw.same _ rfl) (And.intro (Vw.map _ _ rfl) trivial)))))) (And.intro (h0I (6, 0) rfl rfl (BVw.ofMap a_i64 a_i64 a_i64_nid a4)) trivial)) (nid_ren _ rfl) (And.intro rfl (And.intro rfl (And.intro rfl (And.intro (map_ren a_i64 a_i64 a_i64_nid a_i64_nid _) trivial)))) rfl ?_
  refine retI ?_
  cases h
  exact And.intro trivial (finI (n' := 9) [((3, 0), (3, 0)), ((3, 1), (4, 0)), ((3, 2), (7, 0))] [] rfl rfl (Vw.same _ rfl) (And.intro (And.intro rfl (BVw.oneL (And.intro (Vw.mslE rfl (by first | rfl | simp) rfl) trivial))) (And.intro (And.intro rfl (BVw.oneL (And.intro (Vw.ptr _ _ _ _ rfl) trivial))) (And.intro (And.intro rfl (BVw.enc e_QKey (fun _ => rfl) _ v2)) (And.intro (And.intro rfl (BVw.oneL (And.intro (Vw.same _ rfl) (And.intro (Vw.same _ rfl) (And.intro (Vw.same _ rfl) (And.intro (Vw.map _ _ rfl) trivial)))))) (And.intro (And.intro rfl (BVw.ofMap a_i64 a_i64 a_i64_nid v3.2.2.2.2)) trivial))))))

noncomputable def S_querylang_Reads_1c_32 (m : Option Nat) (a0 : List G_QKey) (a1 : Int) (a2 : List (List G_QOp)) (a3 : List Int) (a4 : List (Int × Int)) (a5 : G_QKey) : Option (Int × (List G_QKey) × Int × (List (List G_QOp)) × (List Int) × (List (Int × Int))) :=
  (S_slices_Contains_api_QKey m a0 a5).bind fun v1 =>
  if (!v1) = true then
    if ((a0 ++ ([a5] : List G_QKey)).map e_QKey).length * 24 ≤ 140737488355328 then
    S_querylang_Reads_1c_32_j1 m a1 a2 a3 a4 a5 (a0 ++ ([a5] : List G_QKey))
    else none
  else
    S_querylang_Reads_1c_32_j1 m a1 a2 a3 a4 a5 a0

theorem f32c1_start {a0 : List G_QKey} {a1 : Int} {a2 : List (List G_QOp)} {a3 : List Int} {a4 : List (Int × Int)} {a5 : G_QKey} {m : Option Nat} {o : Int × (List G_QKey) × Int × (List (List G_QOp)) × (List Int) × (List (Int × Int))} (h : S_querylang_Reads_1c_32 m a0 a1 a2 a3 a4 a5 = some o) : LWp Try.prog f32c1_lay 3 f32c1_c1 (f32c1_Q a0 a1 a2 a3 a4 a5 o) (initEnv 0 [.agg [.int .i64 a5.f_Kind, .int .i64 a5.f_A, .int .i64 a5.f_B], .ptr (1, 0) 0 0, .ptr (1, 1) 0 0]) [((1, 0), .one [.msl (2, 0) 3 0 a0.length false]), ((1, 1), .one [.ptr (2, 1) 0 0]), ((2, 0), .rows 3 (a0.map e_QKey)), ((2, 1), .one [.int .i64 a1, .isl 1 (a2.map e_sl_QOp) false, .isl 1 (a3.map e_i64) false, .map (2, 2)]), ((2, 2), .amap (a4.map (em a_i64 a_i64)))] 3 := by
  unfold S_querylang_Reads_1c_32 at h
  refine seqI ?_
  refine regI ?_
  refine seqI ?_
  refine seqI ?_
  refine regI ?_
  obtain ⟨v1, h1, h⟩ := bind_some h
  refine PFn.readB [(2, 0)] (f33_ok h1) rfl (And.intro (Vw.frzB e_QKey e_QKey_ok (fun h => h) rfl rfl (by first | rfl | simp)) (And.intro (Vw.same _ rfl) trivial)) ?_
  show yops _ _ _ [(7, .bool v1), (6, .agg [.int .i64 a5.f_Kind, .int .i64 a5.f_A, .int .i64 a5.f_B]), (5, .msl (2, 0) 3 0 a0.length false), (4, .int .i64 0), (3, .ptr (3, 0) 0 0), (0, .agg [.int .i64 a5.f_Kind, .int .i64 a5.f_A, .int .i64 a5.f_B]), (1, .ptr (1, 0) 0 0), (2, .ptr (1, 1) 0 0)] _ _
  refine condI (v := (!v1)) rfl trivial (fun h2 => ?_) (fun h2 => ?_)
  · have h := ite_tt h2 h
    refine regI ?_
    obtain ⟨h3, h⟩ := ite_some h
    refine And.intro (List.cons_ne_nil _ _) (And.intro (lenW e_QKey (by first | rfl | simp)) (Exists.intro ((a0 ++ ([a5] : List G_QKey)).map e_QKey) (And.intro (appW e_QKey a0 ([a5] : List G_QKey) (by first | rfl | simp)) (And.intro h3 ?_))))
    refine LWp.sim ?_ (f32c1_j1_ok h)
    exact simI (M := [((3, 0), (4, 0)), ((4, 0), (2, 1)), ((5, 0), (3, 0)), ((6, 0), (2, 2))]) rfl (And.intro (Vw.ptr _ _ _ _ rfl) (And.intro (Vw.ptr _ _ _ _ rfl) trivial)) (And.intro (And.intro rfl (BVw.oneL (And.intro (Vw.mslE rfl (by first | rfl | simp) rfl) trivial))) (And.intro (And.intro rfl (BVw.oneL (And.intro (Vw.ptr _ _ _ _ rfl) trivial))) (And.intro (And.intro rfl (BVw.enc e_QKey (fun _ => rfl) _ (a0 ++ ([a5] : List G_QKey)))) (And.intro (And.intro rfl (BVw.oneL (And.intro (Vw.same _ rfl) (And.intro (Vw.same _ rfl) (And.intro (Vw.same _ rfl) (And.intro (Vw.map _ _ rfl) trivial)))))) (And.intro (And.intro rfl (BVw.oneL (And.intro (Vw.same _ rfl) (And.intro (Vw.same _ rfl) (And.intro (Vw.same _ rfl) trivial))))) (And.intro (And.intro rfl (BVw.ofMap a_i64 a_i64 a_i64_nid a4)) trivial))))))
  · have h := ite_ff h2 h
    refine skipI ?_
    refine LWp.sim ?_ (f32c1_j1_ok h)
    exact simI (M := [((3, 0), (2, 0)), ((4, 0), (2, 1)), ((5, 0), (3, 0)), ((6, 0), (2, 2))]) rfl (And.intro (Vw.ptr _ _ _ _ rfl) (And.intro (Vw.ptr _ _ _ _ rfl) trivial)) (And.intro (And.intro rfl (BVw.oneL (And.intro (Vw.mslE rfl (by first | rfl | simp) rfl) trivial))) (And.intro (And.intro rfl (BVw.oneL (And.intro (Vw.ptr _ _ _ _ rfl) trivial))) (And.intro (And.intro rfl (BVw.enc e_QKey (fun _ => rfl) _ a0)) (And.intro (And.intro rfl (BVw.oneL (And.intro (Vw.same _ rfl) (And.intro (Vw.same _ rfl) (And.intro (Vw.same _ rfl) (And.intro (Vw.map _ _ rfl) trivial)))))) (And.intro (And.intro rfl (BVw.oneL (And.intro (Vw.same _ rfl) (And.intro (Vw.same _ rfl) (And.intro (Vw.same _ rfl) trivial))))) (And.intro (And.intro rfl (BVw.ofMap a_i64 a_i64 a_i64_nid a4)) trivial))))))

theorem f32c1_ok {a0 : List G_QKey} {a1 : Int} {a2 : List (List G_QOp)} {a3 : List Int} {a4 : List (Int × Int)} {a5 : G_QKey} {m : Option Nat} {o : Int × (List G_QKey) × Int × (List (List G_QOp)) × (List Int) × (List (Int × Int))} (h : S_querylang_Reads_1c_32 m a0 a1 a2 a3 a4 a5 = some o) : ACalls Try.prog 32 [.agg [.int .i64 a5.f_Kind, .int .i64 a5.f_A, .int .i64 a5.f_B], .ptr (1, 0) 0 0, .ptr (1, 1) 0 0] [((1, 0), .one [.msl (2, 0) 3 0 a0.length false]), ((1, 1), .one [.ptr (2, 1) 0 0]), ((2, 0), .rows 3 (a0.map e_QKey)), ((2, 1), .one [.int .i64 a1, .isl 1 (a2.map e_sl_QOp) false, .isl 1 (a3.map e_i64) false, .map (2, 2)]), ((2, 2), .amap (a4.map (em a_i64 a_i64)))] 3 (Gives 4 (.int .i64 o.1) [((1, 0), .one [.msl (3, 0) 3 0 o.2.1.length false]), ((1, 1), .one [.ptr (3, 1) 0 0]), ((3, 0), .rows 3 (o.2.1.map e_QKey)), ((3, 1), .one [.int .i64 o.2.2.1, .isl 1 (o.2.2.2.1.map e_sl_QOp) false, .isl 1 (o.2.2.2.2.1.map e_i64) false, .map (3, 2)]), ((3, 2), .amap (o.2.2.2.2.2.map (em a_i64 a_i64)))]) := bfn_of (L := f32c1_L) f32c1_low f32c1_fok (Nat.le_of_ble_eq_true rfl) (f32c1_start h)

def f13_c0 : LCode := (.seq (.region [⟨some 3, .box (.t 0), none⟩,
   ⟨some 6, .mv (.c (.val (.slice none 0 0))), none⟩,
   ⟨some 7, .mv (.c (.int .i64 0)), none⟩])
 (.seq (.region [⟨some 12, .load true 2 (.t 3), none⟩,
   ⟨some 13, .mv (.t 1), none⟩,
   ⟨some 14, .mv (.t 2), none⟩,
   ⟨some 15, .call 28 [(.t 12), (.t 13), (.t 14)], none⟩,
   ⟨some 11, .mv (.t 15), none⟩,
   ⟨some 16, .ext 0 (.t 11), none⟩,
   ⟨some 17, .ext 1 (.t 11), none⟩,
   ⟨some 8, .alloc [(.val (.pointer none))], none⟩,
   ⟨none, .store 1 (.t 8) (.t 16), none⟩,
   ⟨some 9, .mv (.t 17), none⟩])
 (.seq (.seq (.region [⟨some 18, .mv (.t 9), none⟩,
   ⟨some 19, .bin .neq (.t 18) (.c (.int .i64 0)), none⟩])
 (.cond (.t 19)
  (.seq (.region [⟨some 20, .mv (.t 9), none⟩,
    ⟨some 6, .mv (.c (.val (.slice none 0 0))), none⟩,
    ⟨some 7, .mv (.t 20), none⟩])
  .ret)
  .skip))
 (.seq (.region [⟨some 10, .alloc [(.isl 3 [] true)], none⟩])
 (.seq (.region [⟨some 21, .faddr 1 (.t 3), none⟩,
   ⟨some 22, .load false 1 (.t 21), none⟩,
   ⟨some 23, .mv (.t 2), none⟩,
   ⟨some 24, .iaddr 1 (.t 22) (.t 23), none⟩,
   ⟨some 25, .load false 1 (.t 24), none⟩,
   ⟨some 26, .mv (.t 2), none⟩,
   ⟨some 27, .mkfn (.func 32) [] [(.t 10), (.t 8)], none⟩,
   ⟨some 28, .call 31 [(.t 25), (.t 26), (.t 27)], none⟩])
 (.seq (.region [⟨some 29, .load false 1 (.t 10), none⟩,
   ⟨some 6, .mv (.t 29), none⟩,
   ⟨some 7, .mv (.c (.int .i64 0)), none⟩])
 .ret))))))
def f13_lay : Lay := ⟨30, [10]⟩
def f13_res : List LRes := [.t 6, .t 7]
def f13_L : LFn := ⟨3, f13_lay, f13_c0, f13_res⟩
theorem f13_low : lowFn Try.prog [10] 13 = some f13_L := by kernel_rfl
theorem f13_fok : FnOk Try.prog 13 := ⟨_, Try.func13, rfl, rfl⟩
noncomputable def S_querylang_Reads (m : Option Nat) (a0 : G_QProgram) (a1 : List Int) (a2 : Int) : Option ((List G_QKey) × Int) :=
  (S_querylang_newEvaluator m a0 a1 a2).bind fun v1 => match v1 with
  | (.inl v2) =>
    if (v2 != 0) = true then
      some ([], v2)
    else
      if (0 : Int) ≤ a2 ∧ a2 < ((a0.f_Queries.map e_sl_QOp).length : Int) then
      none
      else none
  | (.inr v3) =>
    if (v3.1 != 0) = true then
      some ([], v3.1)
    else
      if (0 : Int) ≤ a2 ∧ a2 < ((a0.f_Queries.map e_sl_QOp).length : Int) then
      (S_querylang_run (fun (s : ((List G_QKey) × Int × (List (List G_QOp)) × (List Int) × (List (Int × Int)))) (x : G_QKey) => (S_querylang_Reads_1c_32 m s.1 s.2.1 s.2.2.1 s.2.2.2.1 s.2.2.2.2 x).map fun o => (o.1, (o.2.1, o.2.2.1, o.2.2.2.1, o.2.2.2.2.1, o.2.2.2.2.2))) m (a0.f_Queries.getD a2.toNat default) a2 (([] : List G_QKey), v3.2.1, v3.2.2, a1, ([] : List (Int × Int)))).bind fun v4 =>
      some (v4.2.1, 0)
      else none

def f13_Q (a0 : G_QProgram) (a1 : List Int) (a2 : Int) (o : (List G_QKey) × Int) : Exit → Env → AHeap → Nat → Prop := FinK f13_res (PureEnd (.tup [.isl 3 (o.1.map e_QKey) false, .int .i64 o.2]))

theorem f13_start {a0 : G_QProgram} {a1 : List Int} {a2 : Int} {m : Option Nat} {o : (List G_QKey) × Int} (h : S_querylang_Reads m a0 a1 a2 = some o) : LWp Try.prog f13_lay 0 f13_c0 (f13_Q a0 a1 a2 o) (initEnv 0 [.agg [.int .i64 a0.f_Inputs, .isl 1 (a0.f_Queries.map e_sl_QOp) false], .isl 1 (a1.map e_i64) false, .int .i64 a2]) [] 0 := by
  unfold S_querylang_Reads at h
  refine seqI ?_
  refine regI ?_
  refine seqI ?_
  refine regI ?_
  obtain ⟨v1, h1, h⟩ := bind_some h
  rcases v1 with v2 | v3
  · dsimp only at h
    refine bcall (k := 3) (m := 0) (L' := []) (rest := [((0, 0), .one [.int .i64 a0.f_Inputs, .isl 1 (a0.f_Queries.map e_sl_QOp) false])]) (R' := .tup [.val (.pointer none), .int .i64 v2]) [] (f28b0_ok0 h1) rfl rfl rfl (And.intro (Vw.same _ rfl) (And.intro (Vw.same _ rfl) (And.intro (Vw.same _ rfl) trivial))) trivial (nid_ren _ rfl) trivial rfl ?_
    show yops _ _ _ [(15, .tup [.val (.pointer none), .int .i64 v2]), (14, .int .i64 a2), (13, .isl 1 (a1.map e_i64) false), (12, .agg [.int .i64 a0.f_Inputs, .isl 1 (a0.f_Queries.map e_sl_QOp) false]), (7, .int .i64 0), (6, .val (.slice none 0 0)), (3, .ptr (0, 0) 0 0), (0, .agg [.int .i64 a0.f_Inputs, .isl 1 (a0.f_Queries.map e_sl_QOp) false]), (1, .isl 1 (a1.map e_i64) false), (2, .int .i64 a2)] _ _
    refine LWp.sim (e := [(2, .int .i64 a2), (3, .ptr (0, 0) 0 0), (8, .ptr (1, 0) 0 0), (9, .int .i64 v2)]) (L := [((0, 0), .one [.int .i64 a0.f_Inputs, .isl 1 (a0.f_Queries.map e_sl_QOp) false]), ((1, 0), .one [.val (.pointer none)])]) (n := 2) ?_ ?_
    · exact simI (M := [((0, 0), (0, 0)), ((1, 0), (2, 0))]) rfl (And.intro (Vw.same _ rfl) (And.intro (Vw.ptr _ _ _ _ rfl) (And.intro (Vw.ptr _ _ _ _ rfl) (And.intro (Vw.same _ rfl) trivial)))) (And.intro (And.intro rfl (BVw.oneL (And.intro (Vw.same _ rfl) (And.intro (Vw.same _ rfl) trivial)))) (And.intro (And.intro rfl (BVw.oneL (And.intro (Vw.same _ rfl) trivial))) trivial))
    refine seqI ?_
    refine seqI ?_
    refine regI ?_
    refine condI (v := (v2 != 0)) rfl trivial (fun h2 => ?_) (fun h2 => ?_)
    · have h := ite_tt h2 h
      refine seqI ?_
      refine regI ?_
      refine retI ?_
      cases h
      exact And.intro trivial (And.intro trivial (And.intro rfl (Vw.tupL (And.intro (Vw.nilI _ _) (And.intro (Vw.same _ rfl) trivial)))))
    · have h := ite_ff h2 h
      refine skipI ?_
      refine seqI ?_
      refine regI ?_
      refine LWp.ghost (b := (2, 0)) 3 rfl rfl ?_
      refine LWp.sim (e := [(2, .int .i64 a2), (3, .ptr (0, 0) 0 0), (8, .ptr (1, 0) 0 0), (10, .ptr (2, 0) 0 0)]) (L := [((0, 0), .one [.int .i64 a0.f_Inputs, .isl 1 (a0.f_Queries.map e_sl_QOp) false]), ((1, 0), .one [.val (.pointer none)]), ((2, 0), .one [.msl (3, 0) 3 0 (([] : List G_QKey).length) false]), ((3, 0), .rows 3 (([] : List G_QKey).map e_QKey))]) (n := 4) ?_ ?_
      · exact simI (M := [((0, 0), (0, 0)), ((1, 0), (1, 0)), ((2, 0), (2, 0)), ((3, 0), (3, 0))]) rfl (And.intro (Vw.same _ rfl) (And.intro (Vw.ptr _ _ _ _ rfl) (And.intro (Vw.ptr _ _ _ _ rfl) (And.intro (Vw.ptr _ _ _ _ rfl) trivial)))) (And.intro (And.intro rfl (BVw.oneL (And.intro (Vw.same _ rfl) (And.intro (Vw.same _ rfl) trivial)))) (And.intro (And.intro rfl (BVw.oneL (And.intro (Vw.same _ rfl) trivial))) (And.intro (And.intro rfl (BVw.oneL (And.intro (Vw.islM _ _ _ _ _ _ rfl rfl) trivial))) (And.intro (And.intro rfl (BVw.enc e_QKey (fun _ => rfl) _ ([] : List G_QKey))) trivial))))
      refine seqI ?_
      refine regI ?_
      obtain ⟨h3, h⟩ := ite_some h
      refine And.intro h3 ?_
      refine Exists.intro (e_sl_QOp (a0.f_Queries.getD a2.toNat default)) (And.intro (getD_enc e_sl_QOp _ _ (idx_ltL e_sl_QOp h3)) (And.intro (And.intro (idx_lt h3) (Nat.le_of_ble_eq_true rfl)) ?_))
      cases h
  · dsimp only at h
    refine bcall (k := 3) (m := 2) (L' := [((1, 0), .one [.int .i64 v3.2.1, .isl 1 (v3.2.2.map e_sl_QOp) false, .isl 1 (a1.map e_i64) false, .map (2, 0)]), ((2, 0), .amap (([] : List (Int × Int)).map (em a_i64 a_i64)))]) (rest := [((0, 0), .one [.int .i64 a0.f_Inputs, .isl 1 (a0.f_Queries.map e_sl_QOp) false])]) (R' := .tup [.ptr (1, 0) 0 0, .int .i64 v3.1]) [] (f28b0_ok1 h1) rfl rfl rfl (And.intro (Vw.same _ rfl) (And.intro (Vw.same _ rfl) (And.intro (Vw.same _ rfl) trivial))) trivial rfl (And.intro rfl (And.intro rfl (And.intro rfl (And.intro (map_ren a_i64 a_i64 a_i64_nid a_i64_nid _) trivial)))) rfl ?_
    show yops _ _ _ [(15, .tup [.ptr (1, 0) 0 0, .int .i64 v3.1]), (14, .int .i64 a2), (13, .isl 1 (a1.map e_i64) false), (12, .agg [.int .i64 a0.f_Inputs, .isl 1 (a0.f_Queries.map e_sl_QOp) false]), (7, .int .i64 0), (6, .val (.slice none 0 0)), (3, .ptr (0, 0) 0 0), (0, .agg [.int .i64 a0.f_Inputs, .isl 1 (a0.f_Queries.map e_sl_QOp) false]), (1, .isl 1 (a1.map e_i64) false), (2, .int .i64 a2)] _ _
    refine LWp.sim (e := [(2, .int .i64 a2), (3, .ptr (0, 0) 0 0), (8, .ptr (1, 0) 0 0), (9, .int .i64 v3.1)]) (L := [((0, 0), .one [.int .i64 a0.f_Inputs, .isl 1 (a0.f_Queries.map e_sl_QOp) false]), ((1, 0), .one [.ptr (2, 0) 0 0]), ((2, 0), .one [.int .i64 v3.2.1, .isl 1 (v3.2.2.map e_sl_QOp) false, .isl 1 (a1.map e_i64) false, .map (3, 0)]), ((3, 0), .amap (([] : List (Int × Int)).map (em a_i64 a_i64)))]) (n := 4) ?_ ?_
    · exact simI (M := [((0, 0), (0, 0)), ((1, 0), (4, 0)), ((2, 0), (1, 0)), ((3, 0), (2, 0))]) rfl (And.intro (Vw.same _ rfl) (And.intro (Vw.ptr _ _ _ _ rfl) (And.intro (Vw.ptr _ _ _ _ rfl) (And.intro (Vw.same _ rfl) trivial)))) (And.intro (And.intro rfl (BVw.oneL (And.intro (Vw.same _ rfl) (And.intro (Vw.same _ rfl) trivial)))) (And.intro (And.intro rfl (BVw.oneL (And.intro (Vw.ptr _ _ _ _ rfl) trivial))) (And.intro (And.intro rfl (BVw.oneL (And.intro (Vw.same _ rfl) (And.intro (Vw.same _ rfl) (And.intro (Vw.same _ rfl) (And.intro (Vw.map _ _ rfl) trivial)))))) (And.intro (And.intro rfl (BVw.ofMap a_i64 a_i64 a_i64_nid ([] : List (Int × Int)))) trivial))))
    refine seqI ?_
    refine seqI ?_
    refine regI ?_
    refine condI (v := (v3.1 != 0)) rfl trivial (fun h4 => ?_) (fun h4 => ?_)
    · have h := ite_tt h4 h
      refine seqI ?_
      refine regI ?_
      refine retI ?_
      cases h
      exact And.intro trivial (And.intro trivial (And.intro rfl (Vw.tupL (And.intro (Vw.nilI _ _) (And.intro (Vw.same _ rfl) trivial)))))
    · have h := ite_ff h4 h
      refine skipI ?_
      refine seqI ?_
      refine regI ?_
      refine LWp.ghost (b := (4, 0)) 3 rfl rfl ?_
      refine LWp.sim (e := [(2, .int .i64 a2), (3, .ptr (0, 0) 0 0), (8, .ptr (1, 0) 0 0), (10, .ptr (2, 0) 0 0)]) (L := [((0, 0), .one [.int .i64 a0.f_Inputs, .isl 1 (a0.f_Queries.map e_sl_QOp) false]), ((1, 0), .one [.ptr (3, 0) 0 0]), ((2, 0), .one [.msl (4, 0) 3 0 (([] : List G_QKey).length) false]), ((3, 0), .one [.int .i64 v3.2.1, .isl 1 (v3.2.2.map e_sl_QOp) false, .isl 1 (a1.map e_i64) false, .map (5, 0)]), ((4, 0), .rows 3 (([] : List G_QKey).map e_QKey)), ((5, 0), .amap (([] : List (Int × Int)).map (em a_i64 a_i64)))]) (n := 6) ?_ ?_
      · exact simI (M := [((0, 0), (0, 0)), ((1, 0), (1, 0)), ((2, 0), (4, 0)), ((3, 0), (2, 0)), ((4, 0), (5, 0)), ((5, 0), (3, 0))]) rfl (And.intro (Vw.same _ rfl) (And.intro (Vw.ptr _ _ _ _ rfl) (And.intro (Vw.ptr _ _ _ _ rfl) (And.intro (Vw.ptr _ _ _ _ rfl) trivial)))) (And.intro (And.intro rfl (BVw.oneL (And.intro (Vw.same _ rfl) (And.intro (Vw.same _ rfl) trivial)))) (And.intro (And.intro rfl (BVw.oneL (And.intro (Vw.ptr _ _ _ _ rfl) trivial))) (And.intro (And.intro rfl (BVw.oneL (And.intro (Vw.islM _ _ _ _ _ _ rfl rfl) trivial))) (And.intro (And.intro rfl (BVw.oneL (And.intro (Vw.same _ rfl) (And.intro (Vw.same _ rfl) (And.intro (Vw.same _ rfl) (And.intro (Vw.map _ _ rfl) trivial)))))) (And.intro (And.intro rfl (BVw.enc e_QKey (fun _ => rfl) _ ([] : List G_QKey))) (And.intro (And.intro rfl (BVw.ofMap a_i64 a_i64 a_i64_nid ([] : List (Int × Int)))) trivial))))))
      refine seqI ?_
      refine regI ?_
      obtain ⟨h5, h⟩ := ite_some h
      refine And.intro h5 ?_
      refine Exists.intro (e_sl_QOp (a0.f_Queries.getD a2.toNat default)) (And.intro (getD_enc e_sl_QOp _ _ (idx_ltL e_sl_QOp h5)) (And.intro (And.intro (idx_lt h5) (Nat.le_of_ble_eq_true rfl)) ?_))
      obtain ⟨v4, h6, h⟩ := bind_some h
      refine bcall (k := 3) (m := 1) (L' := [((2, 0), .one [.msl (6, 0) 3 0 v4.2.1.length false]), ((1, 0), .one [.ptr (6, 1) 0 0]), ((6, 0), .rows 3 (v4.2.1.map e_QKey)), ((6, 1), .one [.int .i64 v4.2.2.1, .isl 1 (v4.2.2.2.1.map e_sl_QOp) false, .isl 1 (v4.2.2.2.2.1.map e_i64) false, .map (6, 2)]), ((6, 2), .amap (v4.2.2.2.2.2.map (em a_i64 a_i64)))]) (rest := [((0, 0), .one [.int .i64 a0.f_Inputs, .isl 1 (a0.f_Queries.map e_sl_QOp) false])]) (R' := .int .i64 v4.1) [((1, 0), (2, 0)), ((1, 1), (1, 0)), ((2, 0), (4, 0)), ((2, 1), (3, 0)), ((2, 2), (5, 0))] (f31b0_ok (show Clo Try.prog 32 [] [.ptr (1, 0) 0 0, .ptr (1, 1) 0 0] (fun (s : ((List G_QKey) × Int × (List (List G_QOp)) × (List Int) × (List (Int × Int)))) => [((1, 0), .one [.msl (2, 0) 3 0 s.1.length false]), ((1, 1), .one [.ptr (2, 1) 0 0]), ((2, 0), .rows 3 (s.1.map e_QKey)), ((2, 1), .one [.int .i64 s.2.1, .isl 1 (s.2.2.1.map e_sl_QOp) false, .isl 1 (s.2.2.2.1.map e_i64) false, .map (2, 2)]), ((2, 2), .amap (s.2.2.2.2.map (em a_i64 a_i64)))]) (fun (x : G_QKey) => [.agg [.int .i64 x.f_Kind, .int .i64 x.f_A, .int .i64 x.f_B]]) (fun (b : Int) => .int .i64 b) (fun (s : ((List G_QKey) × Int × (List (List G_QOp)) × (List Int) × (List (Int × Int)))) (x : G_QKey) => (S_querylang_Reads_1c_32 m s.1 s.2.1 s.2.2.1 s.2.2.2.1 s.2.2.2.2 x).map fun o => (o.1, (o.2.1, o.2.2.1, o.2.2.2.1, o.2.2.2.2.1, o.2.2.2.2.2))) from Clo.mk' (fun s => Tl.lit rfl (And.intro (rfl) (And.intro (rfl) (And.intro (rows_inP e_QKey (fun _ => rfl) _ _) (And.intro (rfl) (And.intro (map_inP a_i64 a_i64 a_i64_nid a_i64_nid _) trivial))))) rfl) rfl rfl (fun _ => rfl) (fun s x o h => by obtain ⟨o1, h1, rfl⟩ := Option.map_eq_some_iff.1 h; exact Exists.intro _ (And.intro (f32c1_ok h1) (And.intro rfl (And.intro rfl (And.intro rfl (And.intro rfl (And.intro rfl (And.intro (rows_ren e_QKey (fun _ => rfl) _ _) (And.intro rfl (And.intro rfl (And.intro rfl (And.intro (map_ren a_i64 a_i64 a_i64_nid a_i64_nid _) trivial))))))))))))) h6) rfl rfl rfl (And.intro (Vw.same _ rfl) (And.intro (Vw.same _ rfl) (And.intro (Vw.fnL trivial (And.intro (Vw.ptr _ _ _ _ rfl) (And.intro (Vw.ptr _ _ _ _ rfl) trivial))) trivial))) (And.intro (h0I (2, 0) rfl rfl (BVw.oneL (And.intro (Vw.mslE rfl (by first | rfl | simp) rfl) trivial))) (And.intro (h0I (1, 0) rfl rfl (BVw.oneL (And.intro (Vw.ptr _ _ _ _ rfl) trivial))) (And.intro (h0I (4, 0) rfl rfl (BVw.enc e_QKey (fun _ => rfl) _ ([] : List G_QKey))) (And.intro (h0I (3, 0) rfl rfl (BVw.oneL (And.intro (Vw.same _ rfl) (And.intro (Vw.same _ rfl) (And.intro (Vw.same _ rfl) (And.intro (Vw.map _ _ rfl) trivial)))))) (And.intro (h0I (5, 0) rfl rfl (BVw.ofMap a_i64 a_i64 a_i64_nid ([] : List (Int × Int)))) trivial))))) (nid_ren _ rfl) (And.intro rfl (And.intro rfl (And.intro rfl (And.intro rfl (And.intro rfl (And.intro ((congrArg (ABlock.ren _) (rows_ren e_QKey (fun _ => rfl) _ _)).trans (rows_ren e_QKey (fun _ => rfl) _ _)) (And.intro rfl (And.intro rfl (And.intro rfl (And.intro ((congrArg (ABlock.ren _) (map_ren a_i64 a_i64 a_i64_nid a_i64_nid _)).trans (map_ren a_i64 a_i64 a_i64_nid a_i64_nid _)) trivial)))))))))) rfl ?_
      show yops _ _ _ [(28, .int .i64 v4.1), (27, .fn (.func 32) [] [.ptr (2, 0) 0 0, .ptr (1, 0) 0 0]), (26, .int .i64 a2), (25, .isl 3 ((a0.f_Queries.getD a2.toNat default).map e_QOp) false), (24, .iptr 1 (a0.f_Queries.map e_sl_QOp) a2.toNat 0), (23, .int .i64 a2), (22, .isl 1 (a0.f_Queries.map e_sl_QOp) false), (21, .ptr (0, 0) 0 1), (2, .int .i64 a2), (3, .ptr (0, 0) 0 0), (8, .ptr (1, 0) 0 0), (10, .ptr (2, 0) 0 0)] _ _
      refine LWp.sim (e := [(10, .ptr (0, 0) 0 0)]) (L := [((0, 0), .one [.msl (1, 0) 3 0 v4.2.1.length false]), ((1, 0), .rows 3 (v4.2.1.map e_QKey))]) (n := 2) ?_ ?_
      · exact simI (M := [((0, 0), (2, 0)), ((1, 0), (6, 0))]) rfl (And.intro (Vw.ptr _ _ _ _ rfl) trivial) (And.intro (And.intro rfl (BVw.oneL (And.intro (Vw.mslE rfl (by first | rfl | simp) rfl) trivial))) (And.intro (And.intro rfl (BVw.enc e_QKey (fun _ => rfl) _ v4.2.1)) trivial))
      refine seqI ?_
      refine regI ?_
      refine retI ?_
      cases h
      exact And.intro trivial (And.intro trivial (And.intro rfl (Vw.tupL (And.intro (Vw.frzB e_QKey e_QKey_ok (fun h => h) rfl rfl (by first | rfl | simp)) (And.intro (Vw.same _ rfl) trivial)))))

theorem f13_ok {a0 : G_QProgram} {a1 : List Int} {a2 : Int} {m : Option Nat} {o : (List G_QKey) × Int} (h : S_querylang_Reads m a0 a1 a2 = some o) : PFn Try.prog 13 [.agg [.int .i64 a0.f_Inputs, .isl 1 (a0.f_Queries.map e_sl_QOp) false], .isl 1 (a1.map e_i64) false, .int .i64 a2] (.tup [.isl 3 (o.1.map e_QKey) false, .int .i64 o.2]) := PFn.ofFnW (L := f13_L) f13_low f13_fok (Nat.le_of_ble_eq_true rfl) rfl (f13_start h)

def f47_c1 : LCode := (.seq (.region [⟨some 10, .bin .lss (.t 9) (.t 8), none⟩])
 (.seq (.cond (.t 10)
  .skip
  (.exit 0))
 (.seq (.block 1
  (.seq (.region [⟨some 11, .mv (.t 9), none⟩,
    ⟨some 12, .iaddr 3 (.t 7) (.t 9), none⟩,
    ⟨some 13, .load true 3 (.t 12), none⟩,
    ⟨some 6, .alloc [(.int .i64 0), (.int .i64 0), (.int .i64 0)], none⟩,
    ⟨some 5, .mv (.t 11), none⟩,
    ⟨none, .store 3 (.t 6) (.t 13), none⟩])
  (.seq (.region [⟨some 14, .load true 3 (.t 3), none⟩,
    ⟨some 15, .load true 3 (.t 6), none⟩,
    ⟨some 16, .eq false (.agg [.int, .int, .int]) (.t 14) (.t 15), none⟩])
  (.cond (.t 16)
   (.seq (.region [⟨some 17, .mv (.t 5), none⟩,
     ⟨some 4, .mv (.t 17), none⟩])
   .ret)
   .skip))))
 (.region [⟨some 18, .bin .add (.t 9) (.c (.int .i64 1)), none⟩,
   ⟨some 9, .mv (.t 18), none⟩]))))
def f47_c0 : LCode := (.seq (.region [⟨some 4, .mv (.c (.int .i64 (-1))), none⟩])
 .ret)
def f47_c2 : LCode := (.seq (.region [⟨some 3, .box (.t 1), none⟩,
   ⟨some 4, .mv (.c (.int .i64 0)), none⟩])
 (.seq (.seq (.region [⟨some 7, .mv (.t 0), none⟩,
   ⟨some 8, .len false (.t 7), none⟩,
   ⟨some 9, .mv (.c (.int .i64 0)), none⟩])
 (.block 0
  (.loop
   f47_c1)))
 f47_c0))
def f47_lay : Lay := ⟨19, []⟩
def f47_res : List LRes := [.t 4]
def f47_L : LFn := ⟨2, f47_lay, f47_c2, f47_res⟩
theorem f47_low : lowFn Try.prog [] 47 = some f47_L := by kernel_rfl
theorem f47_fok : FnOk Try.prog 47 := ⟨_, Try.func47, rfl, rfl⟩
def f47_Q (a0 : List G_QKey) (a1 : G_QKey) (o : Int) : Exit → Env → AHeap → Nat → Prop := FinK f47_res (PureEnd (.int .i64 o))

def f47_L1_env (a0 : List G_QKey) (a1 : G_QKey) (s : Int) : Env := [(3, .ptr (0, 0) 0 0), (7, .isl 3 (a0.map e_QKey) false), (8, .int .i64 ((a0.map e_QKey).length : Int)), (9, .int .i64 s)]
def f47_L1_hp (a0 : List G_QKey) (a1 : G_QKey) (s : Int) : AHeap := [((0, 0), .one [.int .i64 a1.f_Kind, .int .i64 a1.f_A, .int .i64 a1.f_B])]
def f47_L1_Q (a0 : List G_QKey) (a1 : G_QKey) (o : Int) : Exit → Env → AHeap → Nat → Prop := (QBlock 0 (QSeq Try.prog f47_lay 0 f47_c0 (f47_Q a0 a1 o)))

noncomputable def S_glossatorref3_Index_api_QKey_j1 (m : Option Nat) : Option Int :=
  some (-1)

noncomputable def S_glossatorref3_Index_api_QKey_b1 (m : Option Nat) (a0 : List G_QKey) (a1 : G_QKey) (v1 : Int) : Option (Int ⊕ Int) :=
  if (decide (v1 < ((a0.map e_QKey).length : Int))) = true then
    if (0 : Int) ≤ v1 ∧ v1 < ((a0.map e_QKey).length : Int) then
    if ((a1.f_Kind == (a0.getD v1.toNat default).f_Kind) && ((a1.f_A == (a0.getD v1.toNat default).f_A) && ((a1.f_B == (a0.getD v1.toNat default).f_B) && true))) = true then
      Option.map Sum.inr (
        some v1)
    else
      some (.inl (W (v1 + 1)))
    else none
  else
    Option.map Sum.inr (
      S_glossatorref3_Index_api_QKey_j1 m)

noncomputable def S_glossatorref3_Index_api_QKey_l1 (m : Option Nat) (a0 : List G_QKey) (a1 : G_QKey) (v1 : Int) : Option Int := loopM m (fun (s : Int) => S_glossatorref3_Index_api_QKey_b1 m a0 a1 s) v1

theorem f47_j1_ok {a0 : List G_QKey} {a1 : G_QKey} {m : Option Nat} {o : Int} (h : S_glossatorref3_Index_api_QKey_j1 m = some o) :
    LWp Try.prog f47_lay 0 f47_c0 (f47_Q a0 a1 o) [] [] 0 := by
  unfold S_glossatorref3_Index_api_QKey_j1 at h
  refine seqI ?_
  refine regI ?_
  refine retI ?_
  cases h
  exact And.intro trivial (And.intro rfl (Vw.same _ rfl))

theorem f47_L1_bok {a0 : List G_QKey} {a1 : G_QKey} {v1 : Int} {m : Option Nat} {o : Int ⊕ Int} (h : S_glossatorref3_Index_api_QKey_b1 m a0 a1 v1 = some o) :
    LWp Try.prog f47_lay 0 f47_c1 (BodyQ 0 1 (f47_L1_env a0 a1) (f47_L1_hp a0 a1) (f47_L1_Q a0 a1) o) [(3, .ptr (0, 0) 0 0), (7, .isl 3 (a0.map e_QKey) false), (8, .int .i64 ((a0.map e_QKey).length : Int)), (9, .int .i64 v1)] [((0, 0), .one [.int .i64 a1.f_Kind, .int .i64 a1.f_A, .int .i64 a1.f_B])] 1 := by
  unfold S_glossatorref3_Index_api_QKey_b1 at h
  refine seqI ?_
  refine regI ?_
  refine seqI ?_
  refine condI (v := (decide (v1 < ((a0.map e_QKey).length : Int)))) rfl trivial (fun h7 => ?_) (fun h7 => ?_)
  · have h := ite_tt h7 h
    refine skipI ?_
    refine seqI ?_
    refine blockI ?_
    refine seqI ?_
    refine regI ?_
    obtain ⟨h8, h⟩ := ite_some h
    refine And.intro h8 ?_
    refine Exists.intro (e_QKey (a0.getD v1.toNat default)) (And.intro (getD_enc e_QKey _ _ (idx_ltL e_QKey h8)) (And.intro (And.intro (idx_lt h8) (Nat.le_of_ble_eq_true rfl)) ?_))
    refine seqI ?_
    refine regI ?_
    refine LWp.sim (e := [(3, .ptr (0, 0) 0 0), (5, .int .i64 v1), (7, .isl 3 (a0.map e_QKey) false), (8, .int .i64 ((a0.map e_QKey).length : Int)), (9, .int .i64 v1), (16, .bool ((a1.f_Kind == (a0.getD v1.toNat default).f_Kind) && ((a1.f_A == (a0.getD v1.toNat default).f_A) && ((a1.f_B == (a0.getD v1.toNat default).f_B) && true))))]) (L := [((0, 0), .one [.int .i64 a1.f_Kind, .int .i64 a1.f_A, .int .i64 a1.f_B])]) (n := 1) ?_ ?_
    · exact simI (M := [((0, 0), (0, 0))]) rfl (And.intro (Vw.ptr _ _ _ _ rfl) (And.intro (Vw.same _ rfl) (And.intro (Vw.same _ rfl) (And.intro (Vw.same _ rfl) (And.intro (Vw.same _ rfl) (And.intro (Vw.same _ rfl) trivial)))))) (And.intro (And.intro rfl (BVw.oneL (And.intro (Vw.same _ rfl) (And.intro (Vw.same _ rfl) (And.intro (Vw.same _ rfl) trivial))))) trivial)
    refine condI (v := ((a1.f_Kind == (a0.getD v1.toNat default).f_Kind) && ((a1.f_A == (a0.getD v1.toNat default).f_A) && ((a1.f_B == (a0.getD v1.toNat default).f_B) && true)))) rfl trivial (fun h9 => ?_) (fun h9 => ?_)
    · have h := ite_tt h9 h
      refine seqI ?_
      refine regI ?_
      refine retI ?_
      obtain ⟨o, hq, rfl⟩ := Option.map_eq_some_iff.1 h
      replace h := hq; clear hq
      refine And.intro nofun ?_
      cases h
      exact And.intro trivial (And.intro rfl (Vw.same _ rfl))
    · have h := ite_ff h9 h
      refine skipI ?_
      refine regI ?_
      cases h
      exact And.intro rfl (simI (M := [((0, 0), (0, 0))]) rfl (And.intro (Vw.ptr _ _ _ _ rfl) (And.intro (Vw.same _ rfl) (And.intro (Vw.same _ rfl) (And.intro (Vw.same _ rfl) trivial)))) (And.intro (And.intro rfl (BVw.oneL (And.intro (Vw.same _ rfl) (And.intro (Vw.same _ rfl) (And.intro (Vw.same _ rfl) trivial))))) trivial))
  · have h := ite_ff h7 h
    refine exitI ?_
    obtain ⟨o, hq, rfl⟩ := Option.map_eq_some_iff.1 h
    replace h := hq; clear hq
    refine And.intro nofun ?_
    refine LWp.sim ?_ (f47_j1_ok h)
    exact simI (M := []) rfl trivial trivial

theorem f47_L1_ok {a0 : List G_QKey} {a1 : G_QKey} {v1 : Int} {m : Option Nat} {o : Int} (h : S_glossatorref3_Index_api_QKey_l1 m a0 a1 v1 = some o) :
    LWp Try.prog f47_lay 0 (.loop f47_c1) (QBlock 0 (QSeq Try.prog f47_lay 0 f47_c0 (f47_Q a0 a1 o))) [(3, .ptr (0, 0) 0 0), (7, .isl 3 (a0.map e_QKey) false), (8, .int .i64 ((a0.map e_QKey).length : Int)), (9, .int .i64 v1)] [((0, 0), .one [.int .i64 a1.f_Kind, .int .i64 a1.f_A, .int .i64 a1.f_B])] 1 :=
  LWp_loopM (m := m) (s := (v1 : Int)) (r := o) (fun (s : Int) => S_glossatorref3_Index_api_QKey_b1 m a0 a1 s) (f47_L1_env a0 a1) (f47_L1_hp a0 a1) (f47_L1_Q a0 a1) (fun s o h => f47_L1_bok h) h

noncomputable def S_glossatorref3_Index_api_QKey (m : Option Nat) (a0 : List G_QKey) (a1 : G_QKey) : Option Int :=
  S_glossatorref3_Index_api_QKey_l1 m a0 a1 0

theorem f47_start {a0 : List G_QKey} {a1 : G_QKey} {m : Option Nat} {o : Int} (h : S_glossatorref3_Index_api_QKey m a0 a1 = some o) : LWp Try.prog f47_lay 0 f47_c2 (f47_Q a0 a1 o) (initEnv 0 [.isl 3 (a0.map e_QKey) false, .agg [.int .i64 a1.f_Kind, .int .i64 a1.f_A, .int .i64 a1.f_B]]) [] 0 := by
  unfold S_glossatorref3_Index_api_QKey at h
  refine seqI ?_
  refine regI ?_
  refine seqI ?_
  refine seqI ?_
  refine regI ?_
  refine blockI ?_
  refine LWp.sim ?_ (f47_L1_ok h)
  exact simI (M := [((0, 0), (0, 0))]) rfl (And.intro (Vw.ptr _ _ _ _ rfl) (And.intro (Vw.same _ rfl) (And.intro (Vw.same _ rfl) (And.intro (Vw.same _ rfl) trivial)))) (And.intro (And.intro rfl (BVw.oneL (And.intro (Vw.same _ rfl) (And.intro (Vw.same _ rfl) (And.intro (Vw.same _ rfl) trivial))))) trivial)

theorem f47_ok {a0 : List G_QKey} {a1 : G_QKey} {m : Option Nat} {o : Int} (h : S_glossatorref3_Index_api_QKey m a0 a1 = some o) : PFn Try.prog 47 [.isl 3 (a0.map e_QKey) false, .agg [.int .i64 a1.f_Kind, .int .i64 a1.f_A, .int .i64 a1.f_B]] (.int .i64 o) := PFn.ofFnW (L := f47_L) f47_low f47_fok (Nat.le_of_ble_eq_true rfl) rfl (f47_start h)

def f35_c0 : LCode := (.seq (.region [⟨some 3, .box (.t 1), none⟩,
   ⟨some 4, .mv (.c (.bool false)), none⟩])
 (.seq (.region [⟨some 5, .mv (.t 0), none⟩,
   ⟨some 6, .load true 3 (.t 3), none⟩,
   ⟨some 7, .call 47 [(.t 5), (.t 6)], none⟩,
   ⟨some 8, .bin .geq (.t 7) (.c (.int .i64 0)), none⟩,
   ⟨some 4, .mv (.t 8), none⟩])
 .ret))
def f35_lay : Lay := ⟨9, []⟩
def f35_res : List LRes := [.t 4]
def f35_L : LFn := ⟨2, f35_lay, f35_c0, f35_res⟩
theorem f35_low : lowFn Try.prog [] 35 = some f35_L := by kernel_rfl
theorem f35_fok : FnOk Try.prog 35 := ⟨_, Try.func35, rfl, rfl⟩
noncomputable def S_glossatorref3_Contains_api_QKey (m : Option Nat) (a0 : List G_QKey) (a1 : G_QKey) : Option Bool :=
  (S_glossatorref3_Index_api_QKey m a0 a1).bind fun v1 =>
  some (decide (v1 ≥ 0))

def f35_Q (a0 : List G_QKey) (a1 : G_QKey) (o : Bool) : Exit → Env → AHeap → Nat → Prop := FinK f35_res (PureEnd (.bool o))

theorem f35_start {a0 : List G_QKey} {a1 : G_QKey} {m : Option Nat} {o : Bool} (h : S_glossatorref3_Contains_api_QKey m a0 a1 = some o) : LWp Try.prog f35_lay 0 f35_c0 (f35_Q a0 a1 o) (initEnv 0 [.isl 3 (a0.map e_QKey) false, .agg [.int .i64 a1.f_Kind, .int .i64 a1.f_A, .int .i64 a1.f_B]]) [] 0 := by
  unfold S_glossatorref3_Contains_api_QKey at h
  refine seqI ?_
  refine regI ?_
  refine seqI ?_
  refine regI ?_
  obtain ⟨v1, h1, h⟩ := bind_some h
  refine PFn.call (f47_ok h1) (And.intro (Vw.same _ rfl) (And.intro (Vw.same _ rfl) trivial)) ?_
  show yops _ _ _ [(7, .int .i64 v1), (6, .agg [.int .i64 a1.f_Kind, .int .i64 a1.f_A, .int .i64 a1.f_B]), (5, .isl 3 (a0.map e_QKey) false), (4, .bool false), (3, .ptr (0, 0) 0 0), (0, .isl 3 (a0.map e_QKey) false), (1, .agg [.int .i64 a1.f_Kind, .int .i64 a1.f_A, .int .i64 a1.f_B])] _ _
  refine retI ?_
  cases h
  exact And.intro trivial (And.intro rfl (Vw.same _ rfl))

theorem f35_ok {a0 : List G_QKey} {a1 : G_QKey} {m : Option Nat} {o : Bool} (h : S_glossatorref3_Contains_api_QKey m a0 a1 = some o) : PFn Try.prog 35 [.isl 3 (a0.map e_QKey) false, .agg [.int .i64 a1.f_Kind, .int .i64 a1.f_A, .int .i64 a1.f_B]] (.bool o) := PFn.ofFnW (L := f35_L) f35_low f35_fok (Nat.le_of_ble_eq_true rfl) rfl (f35_start h)

def f34c0_c0 : LCode := (.seq (.seq (.region [⟨some 21, .mv (.t 0), none⟩,
   ⟨some 22, .bin .eql (.t 21) (.c (.int .i64 0)), none⟩])
 (.cond (.t 22)
  (.seq (.region [⟨some 23, .load false 1 (.t 3), none⟩,
    ⟨some 24, .mv (.t 1), none⟩,
    ⟨some 25, .iaddr 1 (.t 23) (.t 24), none⟩,
    ⟨some 26, .load false 1 (.t 25), none⟩,
    ⟨some 27, .call 17 [(.t 26), (.c (.int .i64 1000003))], none⟩,
    ⟨some 7, .mv (.t 27), none⟩,
    ⟨some 8, .mv (.c (.bool true)), none⟩])
  .ret)
  .skip))
 (.seq (.region [⟨some 28, .load false 1 (.t 4), none⟩,
   ⟨some 29, .mv (.t 1), none⟩,
   ⟨some 30, .iaddr 1 (.t 28) (.t 29), none⟩,
   ⟨some 31, .load false 1 (.t 30), none⟩,
   ⟨some 7, .mv (.t 31), none⟩,
   ⟨some 8, .mv (.c (.bool true)), none⟩])
 .ret))
def f34c0_c1 : LCode := (.seq (.region [⟨some 7, .mv (.c (.int .i64 0)), none⟩,
   ⟨some 8, .mv (.c (.bool false)), none⟩])
 (.seq (.seq (.region [⟨some 10, .mv (.t 0), none⟩,
   ⟨some 11, .mv (.t 1), none⟩,
   ⟨some 12, .build [(.int .i64 0), (.int .i64 0), (.int .i64 0)] [(0, 1, (.t 10)), (1, 1, (.t 11))], none⟩,
   ⟨some 9, .alloc [(.int .i64 0), (.int .i64 0), (.int .i64 0)], none⟩,
   ⟨none, .store 3 (.t 9) (.t 12), none⟩])
 (.seq (.region [⟨some 13, .load false 1 (.t 2), none⟩,
   ⟨some 14, .load true 3 (.t 9), none⟩,
   ⟨some 15, .call 35 [(.t 13), (.t 14)], none⟩,
   ⟨some 16, .un .not (.t 15), none⟩])
 (.cond (.t 16)
  (.region [⟨some 17, .load false 1 (.t 2), none⟩,
    ⟨some 18, .load true 3 (.t 9), none⟩,
    ⟨some 19, .mkSl true 3 [(.int .i64 0), (.int .i64 0), (.int .i64 0)] 1 [(0, (.t 18))], none⟩,
    ⟨some 20, .app false 3 24 (.t 17) (.t 19), none⟩,
    ⟨none, .store 1 (.t 2) (.t 20), none⟩])
  .skip)))
 f34c0_c0))
def f34c0_lay : Lay := ⟨32, [20]⟩
def f34c0_res : List LRes := [.t 7, .t 8]
def f34c0_L : LFn := ⟨5, f34c0_lay, f34c0_c1, f34c0_res⟩
theorem f34c0_low : lowFn Try.prog [20] 34 = some f34c0_L := by kernel_rfl
theorem f34c0_fok : FnOk Try.prog 34 := ⟨_, Try.func34, rfl, rfl⟩
noncomputable def S_glossatorref3_Reads_1c_j1 (m : Option Nat) (a0 : List Int) (a1 : List Int) (a3 : Int) (a4 : Int) (v2 : List G_QKey) : Option (Int × Bool × (List G_QKey)) :=
  if (a3 == 0) = true then
    if (0 : Int) ≤ a4 ∧ a4 < ((a0.map e_i64).length : Int) then
    (S_glossatorref3_Mod m (a0.getD a4.toNat default) 1000003).bind fun v3 =>
    some (v3, true, v2)
    else none
  else
    if (0 : Int) ≤ a4 ∧ a4 < ((a1.map e_i64).length : Int) then
    some ((a1.getD a4.toNat default), true, v2)
    else none

def f34c0_Q (a0 : List Int) (a1 : List Int) (a2 : List G_QKey) (a3 : Int) (a4 : Int) (o : Int × Bool × (List G_QKey)) : Exit → Env → AHeap → Nat → Prop := FinK f34c0_res (FinTo 3 4 (.tup [.int .i64 o.1, .bool o.2.1]) [((1, 0), .one [.msl (3, 0) 3 0 o.2.2.length false]), ((1, 1), .one [.isl 1 (a0.map e_i64) false]), ((1, 2), .one [.isl 1 (a1.map e_i64) false]), ((3, 0), .rows 3 (o.2.2.map e_QKey))])

theorem f34c0_j1_ok {a2 : List G_QKey} {a0 : List Int} {a1 : List Int} {a3 : Int} {a4 : Int} {v2 : List G_QKey} {m : Option Nat} {o : (Int × Bool × (List G_QKey))} (h : S_glossatorref3_Reads_1c_j1 m a0 a1 a3 a4 v2 = some o) :
    LWp Try.prog f34c0_lay 3 f34c0_c0 (f34c0_Q a0 a1 a2 a3 a4 o) [(0, .int .i64 a3), (1, .int .i64 a4), (3, .ptr (1, 1) 0 0), (4, .ptr (1, 2) 0 0)] [((1, 0), .one [.msl (3, 0) 3 0 v2.length false]), ((1, 1), .one [.isl 1 (a0.map e_i64) false]), ((1, 2), .one [.isl 1 (a1.map e_i64) false]), ((3, 0), .rows 3 (v2.map e_QKey))] 4 := by
  unfold S_glossatorref3_Reads_1c_j1 at h
  refine seqI ?_
  refine seqI ?_
  refine regI ?_
  refine condI (v := (a3 == 0)) rfl trivial (fun h4 => ?_) (fun h4 => ?_)
  · have h := ite_tt h4 h
    refine seqI ?_
    refine regI ?_
    obtain ⟨h5, h⟩ := ite_some h
    refine And.intro h5 ?_
    show yops _ _ _ [(25, .iptr 1 (a0.map e_i64) a4.toNat 0), (24, .int .i64 a4), (23, .isl 1 (a0.map e_i64) false), (22, .bool (a3 == 0)), (21, .int .i64 a3), (0, .int .i64 a3), (1, .int .i64 a4), (3, .ptr (1, 1) 0 0), (4, .ptr (1, 2) 0 0)] _ _
    refine Exists.intro (e_i64 (a0.getD a4.toNat default)) (And.intro (getD_enc e_i64 _ _ (idx_ltL e_i64 h5)) (And.intro (And.intro (idx_lt h5) (Nat.le_of_ble_eq_true rfl)) ?_))
    obtain ⟨v3, h6, h⟩ := bind_some h
    refine PFn.call (f17_ok h6) (And.intro (Vw.same _ rfl) (And.intro (Vw.same _ rfl) trivial)) ?_
    refine LWp.sim (e := [(7, .int .i64 v3), (8, .bool true)]) (L := [((1, 0), .one [.msl (3, 0) 3 0 v2.length false]), ((1, 1), .one [.isl 1 (a0.map e_i64) false]), ((1, 2), .one [.isl 1 (a1.map e_i64) false]), ((3, 0), .rows 3 (v2.map e_QKey))]) (n := 4) ?_ ?_
    · exact simI (M := [((3, 0), (3, 0))]) rfl (And.intro (Vw.same _ rfl) (And.intro (Vw.same _ rfl) trivial)) (And.intro (And.intro rfl (BVw.oneL (And.intro (Vw.mslE rfl (by first | rfl | simp) rfl) trivial))) (And.intro (And.intro rfl (BVw.oneL (And.intro (Vw.same _ rfl) trivial))) (And.intro (And.intro rfl (BVw.oneL (And.intro (Vw.same _ rfl) trivial))) (And.intro (And.intro rfl (BVw.enc e_QKey (fun _ => rfl) _ v2)) trivial))))
    refine retI ?_
    cases h
    exact And.intro trivial (And.intro trivial (finI (n' := 4) [((3, 0), (3, 0))] [] rfl rfl (Vw.same _ rfl) (And.intro (And.intro rfl (BVw.oneL (And.intro (Vw.mslE rfl (by first | rfl | simp) rfl) trivial))) (And.intro (And.intro rfl (BVw.oneL (And.intro (Vw.same _ rfl) trivial))) (And.intro (And.intro rfl (BVw.oneL (And.intro (Vw.same _ rfl) trivial))) (And.intro (And.intro rfl (BVw.enc e_QKey (fun _ => rfl) _ v2)) trivial))))))
  · have h := ite_ff h4 h
    refine skipI ?_
    refine seqI ?_
    refine regI ?_
    obtain ⟨h7, h⟩ := ite_some h
    refine And.intro h7 ?_
    show yops _ _ _ [(30, .iptr 1 (a1.map e_i64) a4.toNat 0), (29, .int .i64 a4), (28, .isl 1 (a1.map e_i64) false), (22, .bool (a3 == 0)), (21, .int .i64 a3), (0, .int .i64 a3), (1, .int .i64 a4), (3, .ptr (1, 1) 0 0), (4, .ptr (1, 2) 0 0)] _ _
    refine Exists.intro (e_i64 (a1.getD a4.toNat default)) (And.intro (getD_enc e_i64 _ _ (idx_ltL e_i64 h7)) (And.intro (And.intro (idx_lt h7) (Nat.le_of_ble_eq_true rfl)) ?_))
    refine LWp.sim (e := [(7, .int .i64 (a1.getD a4.toNat default)), (8, .bool true)]) (L := [((1, 0), .one [.msl (3, 0) 3 0 v2.length false]), ((1, 1), .one [.isl 1 (a0.map e_i64) false]), ((1, 2), .one [.isl 1 (a1.map e_i64) false]), ((3, 0), .rows 3 (v2.map e_QKey))]) (n := 4) ?_ ?_
    · exact simI (M := [((3, 0), (3, 0))]) rfl (And.intro (Vw.same _ rfl) (And.intro (Vw.same _ rfl) trivial)) (And.intro (And.intro rfl (BVw.oneL (And.intro (Vw.mslE rfl (by first | rfl | simp) rfl) trivial))) (And.intro (And.intro rfl (BVw.oneL (And.intro (Vw.same _ rfl) trivial))) (And.intro (And.intro rfl (BVw.oneL (And.intro (Vw.same _ rfl) trivial))) (And.intro (And.intro rfl (BVw.enc e_QKey (fun _ => rfl) _ v2)) trivial))))
    refine retI ?_
    cases h
    exact And.intro trivial (And.intro trivial (finI (n' := 4) [((3, 0), (3, 0))] [] rfl rfl (Vw.same _ rfl) (And.intro (And.intro rfl (BVw.oneL (And.intro (Vw.mslE rfl (by first | rfl | simp) rfl) trivial))) (And.intro (And.intro rfl (BVw.oneL (And.intro (Vw.same _ rfl) trivial))) (And.intro (And.intro rfl (BVw.oneL (And.intro (Vw.same _ rfl) trivial))) (And.intro (And.intro rfl (BVw.enc e_QKey (fun _ => rfl) _ v2)) trivial))))))

noncomputable def S_glossatorref3_Reads_1c (m : Option Nat) (a0 : List Int) (a1 : List Int) (a2 : List G_QKey) (a3 : Int) (a4 : Int) : Option (Int × Bool × (List G_QKey)) :=
  (S_glossatorref3_Contains_api_QKey m a2 (G_QKey.mk a3 a4 0)).bind fun v1 =>
  if (!v1) = true then
    if ((a2 ++ ([(G_QKey.mk a3 a4 0)] : List G_QKey)).map e_QKey).length * 24 ≤ 140737488355328 then
    S_glossatorref3_Reads_1c_j1 m a0 a1 a3 a4 (a2 ++ ([(G_QKey.mk a3 a4 0)] : List G_QKey))
    else none
  else
    S_glossatorref3_Reads_1c_j1 m a0 a1 a3 a4 a2

theorem f34c0_start {a0 : List Int} {a1 : List Int} {a2 : List G_QKey} {a3 : Int} {a4 : Int} {m : Option Nat} {o : Int × Bool × (List G_QKey)} (h : S_glossatorref3_Reads_1c m a0 a1 a2 a3 a4 = some o) : LWp Try.prog f34c0_lay 3 f34c0_c1 (f34c0_Q a0 a1 a2 a3 a4 o) (initEnv 0 [.int .i64 a3, .int .i64 a4, .ptr (1, 0) 0 0, .ptr (1, 1) 0 0, .ptr (1, 2) 0 0]) [((1, 0), .one [.msl (2, 0) 3 0 a2.length false]), ((1, 1), .one [.isl 1 (a0.map e_i64) false]), ((1, 2), .one [.isl 1 (a1.map e_i64) false]), ((2, 0), .rows 3 (a2.map e_QKey))] 3 := by
  unfold S_glossatorref3_Reads_1c at h
  refine seqI ?_
  refine regI ?_
  refine seqI ?_
  refine seqI ?_
  refine regI ?_
  refine seqI ?_
  refine regI ?_
  obtain ⟨v1, h1, h⟩ := bind_some h
  refine PFn.readB [(2, 0)] (f35_ok h1) rfl (And.intro (Vw.frzB e_QKey e_QKey_ok (fun h => h) rfl rfl (by first | rfl | simp)) (And.intro (Vw.same _ rfl) trivial)) ?_
  show yops _ _ _ [(15, .bool v1), (14, .agg [.int .i64 a3, .int .i64 a4, .int .i64 0]), (13, .msl (2, 0) 3 0 a2.length false), (9, .ptr (3, 0) 0 0), (12, .agg [.int .i64 a3, .int .i64 a4, .int .i64 0]), (11, .int .i64 a4), (10, .int .i64 a3), (8, .bool false), (7, .int .i64 0), (0, .int .i64 a3), (1, .int .i64 a4), (2, .ptr (1, 0) 0 0), (3, .ptr (1, 1) 0 0), (4, .ptr (1, 2) 0 0)] _ _
  refine LWp.sim (e := [(0, .int .i64 a3), (1, .int .i64 a4), (2, .ptr (1, 0) 0 0), (3, .ptr (1, 1) 0 0), (4, .ptr (1, 2) 0 0), (9, .ptr (3, 0) 0 0), (16, .bool (!v1))]) (L := [((1, 0), .one [.msl (4, 0) 3 0 a2.length false]), ((1, 1), .one [.isl 1 (a0.map e_i64) false]), ((1, 2), .one [.isl 1 (a1.map e_i64) false]), ((3, 0), .one [.int .i64 a3, .int .i64 a4, .int .i64 0]), ((4, 0), .rows 3 (a2.map e_QKey))]) (n := 5) ?_ ?_
  · exact simI (M := [((3, 0), (3, 0)), ((4, 0), (2, 0))]) rfl (And.intro (Vw.same _ rfl) (And.intro (Vw.same _ rfl) (And.intro (Vw.ptr _ _ _ _ rfl) (And.intro (Vw.ptr _ _ _ _ rfl) (And.intro (Vw.ptr _ _ _ _ rfl) (And.intro (Vw.ptr _ _ _ _ rfl) (And.intro (Vw.same _ rfl) trivial))))))) (And.intro (And.intro rfl (BVw.oneL (And.intro (Vw.mslE rfl (by first | rfl | simp) rfl) trivial))) (And.intro (And.intro rfl (BVw.oneL (And.intro (Vw.same _ rfl) trivial))) (And.intro (And.intro rfl (BVw.oneL (And.intro (Vw.same _ rfl) trivial))) (And.intro (And.intro rfl (BVw.oneL (And.intro (Vw.same _ rfl) (And.intro (Vw.same _ rfl) (And.intro (Vw.same _ rfl) trivial))))) (And.intro (And.intro rfl (BVw.enc e_QKey (fun _ => rfl) _ a2)) trivial)))))
  refine condI (v := (!v1)) rfl trivial (fun h2 => ?_) (fun h2 => ?_)
  · have h := ite_tt h2 h
    refine regI ?_
    obtain ⟨h3, h⟩ := ite_some h
    refine And.intro (List.cons_ne_nil _ _) (And.intro (lenW e_QKey (by first | rfl | simp)) (Exists.intro ((a2 ++ ([(G_QKey.mk a3 a4 0)] : List G_QKey)).map e_QKey) (And.intro (appW e_QKey a2 ([(G_QKey.mk a3 a4 0)] : List G_QKey) (by first | rfl | simp)) (And.intro h3 ?_))))
    refine LWp.sim ?_ (f34c0_j1_ok h)
    exact simI (M := [((3, 0), (5, 0))]) rfl (And.intro (Vw.same _ rfl) (And.intro (Vw.same _ rfl) (And.intro (Vw.ptr _ _ _ _ rfl) (And.intro (Vw.ptr _ _ _ _ rfl) trivial)))) (And.intro (And.intro rfl (BVw.oneL (And.intro (Vw.mslE rfl (by first | rfl | simp) rfl) trivial))) (And.intro (And.intro rfl (BVw.oneL (And.intro (Vw.same _ rfl) trivial))) (And.intro (And.intro rfl (BVw.oneL (And.intro (Vw.same _ rfl) trivial))) (And.intro (And.intro rfl (BVw.enc e_QKey (fun _ => rfl) _ (a2 ++ ([(G_QKey.mk a3 a4 0)] : List G_QKey)))) trivial))))
  · have h := ite_ff h2 h
    refine skipI ?_
    refine LWp.sim ?_ (f34c0_j1_ok h)
    exact simI (M := [((3, 0), (4, 0))]) rfl (And.intro (Vw.same _ rfl) (And.intro (Vw.same _ rfl) (And.intro (Vw.ptr _ _ _ _ rfl) (And.intro (Vw.ptr _ _ _ _ rfl) trivial)))) (And.intro (And.intro rfl (BVw.oneL (And.intro (Vw.mslE rfl (by first | rfl | simp) rfl) trivial))) (And.intro (And.intro rfl (BVw.oneL (And.intro (Vw.same _ rfl) trivial))) (And.intro (And.intro rfl (BVw.oneL (And.intro (Vw.same _ rfl) trivial))) (And.intro (And.intro rfl (BVw.enc e_QKey (fun _ => rfl) _ a2)) trivial))))

theorem f34c0_ok {a0 : List Int} {a1 : List Int} {a2 : List G_QKey} {a3 : Int} {a4 : Int} {m : Option Nat} {o : Int × Bool × (List G_QKey)} (h : S_glossatorref3_Reads_1c m a0 a1 a2 a3 a4 = some o) : ACalls Try.prog 34 [.int .i64 a3, .int .i64 a4, .ptr (1, 0) 0 0, .ptr (1, 1) 0 0, .ptr (1, 2) 0 0] [((1, 0), .one [.msl (2, 0) 3 0 a2.length false]), ((1, 1), .one [.isl 1 (a0.map e_i64) false]), ((1, 2), .one [.isl 1 (a1.map e_i64) false]), ((2, 0), .rows 3 (a2.map e_QKey))] 3 (Gives 4 (.tup [.int .i64 o.1, .bool o.2.1]) [((1, 0), .one [.msl (3, 0) 3 0 o.2.2.length false]), ((1, 1), .one [.isl 1 (a0.map e_i64) false]), ((1, 2), .one [.isl 1 (a1.map e_i64) false]), ((3, 0), .rows 3 (o.2.2.map e_QKey))]) := bfn_of (L := f34c0_L) f34c0_low f34c0_fok (Nat.le_of_ble_eq_true rfl) (f34c0_start h)

def f15_c0 : LCode := (.seq (.region [⟨some 3, .box (.t 0), none⟩,
   ⟨some 4, .box (.t 1), none⟩,
   ⟨some 6, .mv (.c (.val (.slice none 0 0))), none⟩])
 (.seq (.region [⟨some 9, .load true 2 (.t 3), none⟩,
   ⟨some 10, .load false 1 (.t 4), none⟩,
   ⟨some 11, .call 12 [(.t 9), (.t 10)], none⟩,
   ⟨some 7, .alloc [(.isl 1 [] true)], none⟩,
   ⟨none, .store 1 (.t 7) (.t 11), none⟩])
 (.seq (.region [⟨some 8, .alloc [(.isl 3 [] true)], none⟩])
 (.seq (.region [⟨some 12, .faddr 1 (.t 3), none⟩,
   ⟨some 13, .load false 1 (.t 12), none⟩,
   ⟨some 14, .mv (.t 2), none⟩,
   ⟨some 15, .iaddr 1 (.t 13) (.t 14), none⟩,
   ⟨some 16, .load false 1 (.t 15), none⟩,
   ⟨some 17, .mv (.t 2), none⟩,
   ⟨some 18, .mkfn (.func 34) [] [(.t 8), (.t 4), (.t 7)], none⟩,
   ⟨some 19, .call 21 [(.t 16), (.t 17), (.t 18)], none⟩])
 (.seq (.region [⟨some 20, .load false 1 (.t 8), none⟩,
   ⟨some 6, .mv (.t 20), none⟩])
 .ret)))))
def f15_lay : Lay := ⟨21, [8]⟩
def f15_res : List LRes := [.t 6]
def f15_L : LFn := ⟨3, f15_lay, f15_c0, f15_res⟩
theorem f15_low : lowFn Try.prog [8] 15 = some f15_L := by kernel_rfl
theorem f15_fok : FnOk Try.prog 15 := ⟨_, Try.func15, rfl, rfl⟩
noncomputable def S_glossatorref3_Reads (m : Option Nat) (a0 : G_QProgram) (a1 : List Int) (a2 : Int) : Option (List G_QKey) :=
  (S_glossatorref3_Values m a0 a1).bind fun v1 =>
  if (0 : Int) ≤ a2 ∧ a2 < ((a0.f_Queries.map e_sl_QOp).length : Int) then
  (S_glossatorref3_Exec (fun (s : (List G_QKey)) (x : (Int × Int)) => (S_glossatorref3_Reads_1c m a1 v1 s x.1 x.2).map fun o => ((o.1, o.2.1), o.2.2)) m (a0.f_Queries.getD a2.toNat default) a2 ([] : List G_QKey)).bind fun v2 =>
  some v2.2.2
  else none

def f15_Q (a0 : G_QProgram) (a1 : List Int) (a2 : Int) (o : (List G_QKey)) : Exit → Env → AHeap → Nat → Prop := FinK f15_res (PureEnd (.isl 3 (o.map e_QKey) false))

theorem f15_start {a0 : G_QProgram} {a1 : List Int} {a2 : Int} {m : Option Nat} {o : (List G_QKey)} (h : S_glossatorref3_Reads m a0 a1 a2 = some o) : LWp Try.prog f15_lay 0 f15_c0 (f15_Q a0 a1 a2 o) (initEnv 0 [.agg [.int .i64 a0.f_Inputs, .isl 1 (a0.f_Queries.map e_sl_QOp) false], .isl 1 (a1.map e_i64) false, .int .i64 a2]) [] 0 := by
  unfold S_glossatorref3_Reads at h
  refine seqI ?_
  refine regI ?_
  refine seqI ?_
  refine regI ?_
  obtain ⟨v1, h1, h⟩ := bind_some h
  refine PFn.call (f12_ok h1) (And.intro (Vw.same _ rfl) (And.intro (Vw.same _ rfl) trivial)) ?_
  show yops _ _ _ [(11, .isl 1 (v1.map e_i64) false), (10, .isl 1 (a1.map e_i64) false), (9, .agg [.int .i64 a0.f_Inputs, .isl 1 (a0.f_Queries.map e_sl_QOp) false]), (6, .val (.slice none 0 0)), (4, .ptr (1, 0) 0 0), (3, .ptr (0, 0) 0 0), (0, .agg [.int .i64 a0.f_Inputs, .isl 1 (a0.f_Queries.map e_sl_QOp) false]), (1, .isl 1 (a1.map e_i64) false), (2, .int .i64 a2)] _ _
  refine LWp.sim (e := [(2, .int .i64 a2), (3, .ptr (0, 0) 0 0), (4, .ptr (1, 0) 0 0), (7, .ptr (2, 0) 0 0)]) (L := [((0, 0), .one [.int .i64 a0.f_Inputs, .isl 1 (a0.f_Queries.map e_sl_QOp) false]), ((1, 0), .one [.isl 1 (a1.map e_i64) false]), ((2, 0), .one [.isl 1 (v1.map e_i64) false])]) (n := 3) ?_ ?_
  · exact simI (M := [((0, 0), (0, 0)), ((1, 0), (1, 0)), ((2, 0), (2, 0))]) rfl (And.intro (Vw.same _ rfl) (And.intro (Vw.ptr _ _ _ _ rfl) (And.intro (Vw.ptr _ _ _ _ rfl) (And.intro (Vw.ptr _ _ _ _ rfl) trivial)))) (And.intro (And.intro rfl (BVw.oneL (And.intro (Vw.same _ rfl) (And.intro (Vw.same _ rfl) trivial)))) (And.intro (And.intro rfl (BVw.oneL (And.intro (Vw.same _ rfl) trivial))) (And.intro (And.intro rfl (BVw.oneL (And.intro (Vw.same _ rfl) trivial))) trivial)))
  refine seqI ?_
  refine regI ?_
  refine LWp.ghost (b := (3, 0)) 3 rfl rfl ?_
  refine LWp.sim (e := [(2, .int .i64 a2), (3, .ptr (0, 0) 0 0), (4, .ptr (1, 0) 0 0), (7, .ptr (2, 0) 0 0), (8, .ptr (3, 0) 0 0)]) (L := [((0, 0), .one [.int .i64 a0.f_Inputs, .isl 1 (a0.f_Queries.map e_sl_QOp) false]), ((1, 0), .one [.isl 1 (a1.map e_i64) false]), ((2, 0), .one [.isl 1 (v1.map e_i64) false]), ((3, 0), .one [.msl (4, 0) 3 0 (([] : List G_QKey).length) false]), ((4, 0), .rows 3 (([] : List G_QKey).map e_QKey))]) (n := 5) ?_ ?_
  · exact simI (M := [((0, 0), (0, 0)), ((1, 0), (1, 0)), ((2, 0), (2, 0)), ((3, 0), (3, 0)), ((4, 0), (4, 0))]) rfl (And.intro (Vw.same _ rfl) (And.intro (Vw.ptr _ _ _ _ rfl) (And.intro (Vw.ptr _ _ _ _ rfl) (And.intro (Vw.ptr _ _ _ _ rfl) (And.intro (Vw.ptr _ _ _ _ rfl) trivial))))) (And.intro (And.intro rfl (BVw.oneL (And.intro (Vw.same _ rfl) (And.intro (Vw.same _ rfl) trivial)))) (And.intro (And.intro rfl (BVw.oneL (And.intro (Vw.same _ rfl) trivial))) (And.intro (And.intro rfl (BVw.oneL (And.intro (Vw.same _ rfl) trivial))) (And.intro (And.intro rfl (BVw.oneL (And.intro (Vw.islM _ _ _ _ _ _ rfl rfl) trivial))) (And.intro (And.intro rfl (BVw.enc e_QKey (fun _ => rfl) _ ([] : List G_QKey))) trivial)))))
  refine seqI ?_
  refine regI ?_
  obtain ⟨h2, h⟩ := ite_some h
  refine And.intro h2 ?_
  refine Exists.intro (e_sl_QOp (a0.f_Queries.getD a2.toNat default)) (And.intro (getD_enc e_sl_QOp _ _ (idx_ltL e_sl_QOp h2)) (And.intro (And.intro (idx_lt h2) (Nat.le_of_ble_eq_true rfl)) ?_))
  obtain ⟨v2, h3, h⟩ := bind_some h
  refine bcall (k := 3) (m := 1) (L' := [((3, 0), .one [.msl (5, 0) 3 0 v2.2.2.length false]), ((1, 0), .one [.isl 1 (a1.map e_i64) false]), ((2, 0), .one [.isl 1 (v1.map e_i64) false]), ((5, 0), .rows 3 (v2.2.2.map e_QKey))]) (rest := [((0, 0), .one [.int .i64 a0.f_Inputs, .isl 1 (a0.f_Queries.map e_sl_QOp) false])]) (R' := .tup [.int .i64 v2.1, .bool v2.2.1]) [((1, 0), (3, 0)), ((1, 1), (1, 0)), ((1, 2), (2, 0)), ((2, 0), (4, 0))] (f21b0_ok (show Clo Try.prog 34 [] [.ptr (1, 0) 0 0, .ptr (1, 1) 0 0, .ptr (1, 2) 0 0] (fun (s : (List G_QKey)) => [((1, 0), .one [.msl (2, 0) 3 0 s.length false]), ((1, 1), .one [.isl 1 (a1.map e_i64) false]), ((1, 2), .one [.isl 1 (v1.map e_i64) false]), ((2, 0), .rows 3 (s.map e_QKey))]) (fun (x : (Int × Int)) => [.int .i64 x.1, .int .i64 x.2]) (fun (b : (Int × Bool)) => .tup [.int .i64 b.1, .bool b.2]) (fun (s : (List G_QKey)) (x : (Int × Int)) => (S_glossatorref3_Reads_1c m a1 v1 s x.1 x.2).map fun o => ((o.1, o.2.1), o.2.2)) from Clo.mk' (fun s => Tl.lit rfl (And.intro (rfl) (And.intro (rfl) (And.intro (rfl) (And.intro (rows_inP e_QKey (fun _ => rfl) _ _) trivial)))) rfl) rfl rfl (fun _ => rfl) (fun s x o h => by obtain ⟨o1, h1, rfl⟩ := Option.map_eq_some_iff.1 h; exact Exists.intro _ (And.intro (f34c0_ok h1) (And.intro rfl (And.intro rfl (And.intro rfl (And.intro rfl (And.intro rfl (And.intro rfl (And.intro rfl (And.intro (rows_ren e_QKey (fun _ => rfl) _ _) trivial))))))))))) h3) rfl rfl rfl (And.intro (Vw.same _ rfl) (And.intro (Vw.same _ rfl) (And.intro (Vw.fnL trivial (And.intro (Vw.ptr _ _ _ _ rfl) (And.intro (Vw.ptr _ _ _ _ rfl) (And.intro (Vw.ptr _ _ _ _ rfl) trivial)))) trivial))) (And.intro (h0I (3, 0) rfl rfl (BVw.oneL (And.intro (Vw.mslE rfl (by first | rfl | simp) rfl) trivial))) (And.intro (h0I (1, 0) rfl rfl (BVw.oneL (And.intro (Vw.same _ rfl) trivial))) (And.intro (h0I (2, 0) rfl rfl (BVw.oneL (And.intro (Vw.same _ rfl) trivial))) (And.intro (h0I (4, 0) rfl rfl (BVw.enc e_QKey (fun _ => rfl) _ ([] : List G_QKey))) trivial)))) (nid_ren _ rfl) (And.intro rfl (And.intro rfl (And.intro rfl (And.intro rfl (And.intro rfl (And.intro rfl (And.intro rfl (And.intro ((congrArg (ABlock.ren _) (rows_ren e_QKey (fun _ => rfl) _ _)).trans (rows_ren e_QKey (fun _ => rfl) _ _)) trivial)))))))) rfl ?_
  show yops _ _ _ [(19, .tup [.int .i64 v2.1, .bool v2.2.1]), (18, .fn (.func 34) [] [.ptr (3, 0) 0 0, .ptr (1, 0) 0 0, .ptr (2, 0) 0 0]), (17, .int .i64 a2), (16, .isl 3 ((a0.f_Queries.getD a2.toNat default).map e_QOp) false), (15, .iptr 1 (a0.f_Queries.map e_sl_QOp) a2.toNat 0), (14, .int .i64 a2), (13, .isl 1 (a0.f_Queries.map e_sl_QOp) false), (12, .ptr (0, 0) 0 1), (2, .int .i64 a2), (3, .ptr (0, 0) 0 0), (4, .ptr (1, 0) 0 0), (7, .ptr (2, 0) 0 0), (8, .ptr (3, 0) 0 0)] _ _
  refine LWp.sim (e := [(8, .ptr (0, 0) 0 0)]) (L := [((0, 0), .one [.msl (1, 0) 3 0 v2.2.2.length false]), ((1, 0), .rows 3 (v2.2.2.map e_QKey))]) (n := 2) ?_ ?_
  · exact simI (M := [((0, 0), (3, 0)), ((1, 0), (5, 0))]) rfl (And.intro (Vw.ptr _ _ _ _ rfl) trivial) (And.intro (And.intro rfl (BVw.oneL (And.intro (Vw.mslE rfl (by first | rfl | simp) rfl) trivial))) (And.intro (And.intro rfl (BVw.enc e_QKey (fun _ => rfl) _ v2.2.2)) trivial))
  refine seqI ?_
  refine regI ?_
  refine retI ?_
  cases h
  exact And.intro trivial (And.intro rfl (Vw.frzB e_QKey e_QKey_ok (fun h => h) rfl rfl (by first | rfl | simp)))

theorem f15_ok {a0 : G_QProgram} {a1 : List Int} {a2 : Int} {m : Option Nat} {o : (List G_QKey)} (h : S_glossatorref3_Reads m a0 a1 a2 = some o) : PFn Try.prog 15 [.agg [.int .i64 a0.f_Inputs, .isl 1 (a0.f_Queries.map e_sl_QOp) false], .isl 1 (a1.map e_i64) false, .int .i64 a2] (.isl 3 (o.map e_QKey) false) := PFn.ofFnW (L := f15_L) f15_low f15_fok (Nat.le_of_ble_eq_true rfl) rfl (f15_start h)

def f14_c1 : LCode := (.seq (.region [⟨some 15, .bin .lss (.t 14) (.t 13), none⟩])
 (.seq (.cond (.t 15)
  .skip
  (.exit 0))
 (.seq (.block 1
  (.seq (.region [⟨some 16, .mv (.t 14), none⟩,
    ⟨some 17, .iaddr 3 (.t 12) (.t 14), none⟩,
    ⟨some 18, .load true 3 (.t 17), none⟩,
    ⟨some 6, .alloc [(.int .i64 0), (.int .i64 0), (.int .i64 0)], none⟩,
    ⟨some 5, .mv (.t 16), none⟩,
    ⟨none, .store 3 (.t 6) (.t 18), none⟩])
  (.seq (.quiet [⟨some 19, .load true 3 (.t 6), none⟩,
    ⟨some 20, .mv (.t 1), none⟩,
    ⟨some 21, .mv (.t 5), none⟩,
    ⟨some 22, .iaddr 3 (.t 20) (.t 21), none⟩,
    ⟨some 23, .load true 3 (.t 22), none⟩,
    ⟨some 24, .eq true (.agg [.int, .int, .int]) (.t 19) (.t 23), none⟩])
  (.cond (.t 24)
   (.seq (.region [⟨some 4, .mv (.c (.bool false)), none⟩])
   .ret)
   .skip))))
 (.region [⟨some 25, .bin .add (.t 14) (.c (.int .i64 1)), none⟩,
   ⟨some 14, .mv (.t 25), none⟩]))))
def f14_c0 : LCode := (.seq (.region [⟨some 4, .mv (.c (.bool true)), none⟩])
 .ret)
def f14_c2 : LCode := (.seq (.region [⟨some 4, .mv (.c (.bool false)), none⟩])
 (.seq (.seq (.region [⟨some 7, .mv (.t 0), none⟩,
   ⟨some 8, .len false (.t 7), none⟩,
   ⟨some 9, .mv (.t 1), none⟩,
   ⟨some 10, .len false (.t 9), none⟩,
   ⟨some 11, .bin .neq (.t 8) (.t 10), none⟩])
 (.cond (.t 11)
  (.seq (.region [⟨some 4, .mv (.c (.bool false)), none⟩])
  .ret)
  .skip))
 (.seq (.seq (.region [⟨some 12, .mv (.t 0), none⟩,
   ⟨some 13, .len false (.t 12), none⟩,
   ⟨some 14, .mv (.c (.int .i64 0)), none⟩])
 (.block 0
  (.loop
   f14_c1)))
 f14_c0)))
def f14_lay : Lay := ⟨26, []⟩
def f14_res : List LRes := [.t 4]
def f14_L : LFn := ⟨2, f14_lay, f14_c2, f14_res⟩
theorem f14_low : lowFn Try.prog [] 14 = some f14_L := by kernel_rfl
theorem f14_fok : FnOk Try.prog 14 := ⟨_, Try.func14, rfl, rfl⟩
def f14_Q (a0 : List G_QKey) (a1 : List G_QKey) (o : Bool) : Exit → Env → AHeap → Nat → Prop := FinK f14_res (PureEnd (.bool o))

def f14_L1_env (a0 : List G_QKey) (a1 : List G_QKey) (s : Int) : Env := [(1, .isl 3 (a1.map e_QKey) false), (12, .isl 3 (a0.map e_QKey) false), (13, .int .i64 ((a0.map e_QKey).length : Int)), (14, .int .i64 s)]
def f14_L1_hp (a0 : List G_QKey) (a1 : List G_QKey) (s : Int) : AHeap := []
def f14_L1_Q (a0 : List G_QKey) (a1 : List G_QKey) (o : Bool) : Exit → Env → AHeap → Nat → Prop := (QBlock 0 (QSeq Try.prog f14_lay 0 f14_c0 (f14_Q a0 a1 o)))

noncomputable def S_glossatorref3_Equal_api_QKey_j1 (m : Option Nat) : Option Bool :=
  some true

noncomputable def S_glossatorref3_Equal_api_QKey_b1 (m : Option Nat) (a0 : List G_QKey) (a1 : List G_QKey) (v1 : Int) : Option (Int ⊕ Bool) :=
  if (decide (v1 < ((a0.map e_QKey).length : Int))) = true then
    if (0 : Int) ≤ v1 ∧ v1 < ((a0.map e_QKey).length : Int) then
    if (0 : Int) ≤ v1 ∧ v1 < ((a1.map e_QKey).length : Int) then
    if (!(((a0.getD v1.toNat default).f_Kind == (a1.getD v1.toNat default).f_Kind) && (((a0.getD v1.toNat default).f_A == (a1.getD v1.toNat default).f_A) && (((a0.getD v1.toNat default).f_B == (a1.getD v1.toNat default).f_B) && true)))) = true then
      Option.map Sum.inr (
        some false)
    else
      some (.inl (W (v1 + 1)))
    else none
    else none
  else
    Option.map Sum.inr (
      S_glossatorref3_Equal_api_QKey_j1 m)

noncomputable def S_glossatorref3_Equal_api_QKey_l1 (m : Option Nat) (a0 : List G_QKey) (a1 : List G_QKey) (v1 : Int) : Option Bool := loopM m (fun (s : Int) => S_glossatorref3_Equal_api_QKey_b1 m a0 a1 s) v1

theorem f14_j1_ok {a0 : List G_QKey} {a1 : List G_QKey} {m : Option Nat} {o : Bool} (h : S_glossatorref3_Equal_api_QKey_j1 m = some o) :
    LWp Try.prog f14_lay 0 f14_c0 (f14_Q a0 a1 o) [] [] 0 := by
  unfold S_glossatorref3_Equal_api_QKey_j1 at h
  refine seqI ?_
  refine regI ?_
  refine retI ?_
  cases h
  exact And.intro trivial (And.intro rfl (Vw.same _ rfl))

theorem f14_L1_bok {a0 : List G_QKey} {a1 : List G_QKey} {v1 : Int} {m : Option Nat} {o : Int ⊕ Bool} (h : S_glossatorref3_Equal_api_QKey_b1 m a0 a1 v1 = some o) :
    LWp Try.prog f14_lay 0 f14_c1 (BodyQ 0 0 (f14_L1_env a0 a1) (f14_L1_hp a0 a1) (f14_L1_Q a0 a1) o) [(1, .isl 3 (a1.map e_QKey) false), (12, .isl 3 (a0.map e_QKey) false), (13, .int .i64 ((a0.map e_QKey).length : Int)), (14, .int .i64 v1)] [] 0 := by
  unfold S_glossatorref3_Equal_api_QKey_b1 at h
  refine seqI ?_
  refine regI ?_
  refine seqI ?_
  refine condI (v := (decide (v1 < ((a0.map e_QKey).length : Int)))) rfl trivial (fun h10 => ?_) (fun h10 => ?_)
  · have h := ite_tt h10 h
    refine skipI ?_
    refine seqI ?_
    refine blockI ?_
    refine seqI ?_
    refine regI ?_
    obtain ⟨h11, h⟩ := ite_some h
    refine And.intro h11 ?_
    refine Exists.intro (e_QKey (a0.getD v1.toNat default)) (And.intro (getD_enc e_QKey _ _ (idx_ltL e_QKey h11)) (And.intro (And.intro (idx_lt h11) (Nat.le_of_ble_eq_true rfl)) ?_))
    refine seqI ?_
    refine quietI ?_
    obtain ⟨h12, h⟩ := ite_some h
    refine And.intro h12 ?_
    show yqs _ _ [(22, .iptr 3 (a1.map e_QKey) v1.toNat 0), (21, .int .i64 v1), (20, .isl 3 (a1.map e_QKey) false), (19, .agg [.int .i64 ((a0.getD v1.toNat default).f_Kind), .int .i64 ((a0.getD v1.toNat default).f_A), .int .i64 ((a0.getD v1.toNat default).f_B)]), (5, .int .i64 v1), (6, .ptr (0, 0) 0 0), (18, .agg [.int .i64 ((a0.getD v1.toNat default).f_Kind), .int .i64 ((a0.getD v1.toNat default).f_A), .int .i64 ((a0.getD v1.toNat default).f_B)]), (17, .iptr 3 (a0.map e_QKey) v1.toNat 0), (16, .int .i64 v1), (15, .bool (decide (v1 < ((a0.map e_QKey).length : Int)))), (1, .isl 3 (a1.map e_QKey) false), (12, .isl 3 (a0.map e_QKey) false), (13, .int .i64 ((a0.map e_QKey).length : Int)), (14, .int .i64 v1)] _ _
    refine Exists.intro (e_QKey (a1.getD v1.toNat default)) (And.intro (getD_enc e_QKey _ _ (idx_ltL e_QKey h12)) (And.intro (And.intro (idx_lt h12) (Nat.le_of_ble_eq_true rfl)) ?_))
    refine LWp.sim (e := [(1, .isl 3 (a1.map e_QKey) false), (12, .isl 3 (a0.map e_QKey) false), (13, .int .i64 ((a0.map e_QKey).length : Int)), (14, .int .i64 v1), (24, .bool (!(((a0.getD v1.toNat default).f_Kind == (a1.getD v1.toNat default).f_Kind) && (((a0.getD v1.toNat default).f_A == (a1.getD v1.toNat default).f_A) && (((a0.getD v1.toNat default).f_B == (a1.getD v1.toNat default).f_B) && true)))))]) (L := []) (n := 0) ?_ ?_
    · exact simI (M := []) rfl (And.intro (Vw.same _ rfl) (And.intro (Vw.same _ rfl) (And.intro (Vw.same _ rfl) (And.intro (Vw.same _ rfl) (And.intro (Vw.same _ rfl) trivial))))) trivial
    refine condI (v := (!(((a0.getD v1.toNat default).f_Kind == (a1.getD v1.toNat default).f_Kind) && (((a0.getD v1.toNat default).f_A == (a1.getD v1.toNat default).f_A) && (((a0.getD v1.toNat default).f_B == (a1.getD v1.toNat default).f_B) && true))))) rfl trivial (fun h13 => ?_) (fun h13 => ?_)
    · have h := ite_tt h13 h
      refine seqI ?_
      refine regI ?_
      refine retI ?_
      obtain ⟨o, hq, rfl⟩ := Option.map_eq_some_iff.1 h
      replace h := hq; clear hq
      refine And.intro nofun ?_
      cases h
      exact And.intro trivial (And.intro rfl (Vw.same _ rfl))
    · have h := ite_ff h13 h
      refine skipI ?_
      refine regI ?_
      cases h
      exact And.intro rfl (simI (M := []) rfl (And.intro (Vw.same _ rfl) (And.intro (Vw.same _ rfl) (And.intro (Vw.same _ rfl) (And.intro (Vw.same _ rfl) trivial)))) trivial)
  · have h := ite_ff h10 h
    refine exitI ?_
    obtain ⟨o, hq, rfl⟩ := Option.map_eq_some_iff.1 h
    replace h := hq; clear hq
    refine And.intro nofun ?_
    refine LWp.sim ?_ (f14_j1_ok h)
    exact simI (M := []) rfl trivial trivial

theorem f14_L1_ok {a0 : List G_QKey} {a1 : List G_QKey} {v1 : Int} {m : Option Nat} {o : Bool} (h : S_glossatorref3_Equal_api_QKey_l1 m a0 a1 v1 = some o) :
    LWp Try.prog f14_lay 0 (.loop f14_c1) (QBlock 0 (QSeq Try.prog f14_lay 0 f14_c0 (f14_Q a0 a1 o))) [(1, .isl 3 (a1.map e_QKey) false), (12, .isl 3 (a0.map e_QKey) false), (13, .int .i64 ((a0.map e_QKey).length : Int)), (14, .int .i64 v1)] [] 0 :=
  LWp_loopM (m := m) (s := (v1 : Int)) (r := o) (fun (s : Int) => S_glossatorref3_Equal_api_QKey_b1 m a0 a1 s) (f14_L1_env a0 a1) (f14_L1_hp a0 a1) (f14_L1_Q a0 a1) (fun s o h => f14_L1_bok h) h

noncomputable def S_glossatorref3_Equal_api_QKey (m : Option Nat) (a0 : List G_QKey) (a1 : List G_QKey) : Option Bool :=
  if (((a0.map e_QKey).length : Int) != ((a1.map e_QKey).length : Int)) = true then
    some false
  else
    S_glossatorref3_Equal_api_QKey_l1 m a0 a1 0

theorem f14_start {a0 : List G_QKey} {a1 : List G_QKey} {m : Option Nat} {o : Bool} (h : S_glossatorref3_Equal_api_QKey m a0 a1 = some o) : LWp Try.prog f14_lay 0 f14_c2 (f14_Q a0 a1 o) (initEnv 0 [.isl 3 (a0.map e_QKey) false, .isl 3 (a1.map e_QKey) false]) [] 0 := by
  unfold S_glossatorref3_Equal_api_QKey at h
  refine seqI ?_
  refine regI ?_
  refine seqI ?_
  refine seqI ?_
  refine regI ?_
  refine condI (v := (((a0.map e_QKey).length : Int) != ((a1.map e_QKey).length : Int))) rfl trivial (fun h1 => ?_) (fun h1 => ?_)
  · have h := ite_tt h1 h
    refine seqI ?_
    refine regI ?_
    refine retI ?_
    cases h
    exact And.intro trivial (And.intro rfl (Vw.same _ rfl))
  · have h := ite_ff h1 h
    refine skipI ?_
    refine seqI ?_
    refine seqI ?_
    refine regI ?_
    refine LWp.sim (e := [(1, .isl 3 (a1.map e_QKey) false), (12, .isl 3 (a0.map e_QKey) false), (13, .int .i64 ((a0.map e_QKey).length : Int)), (14, .int .i64 0)]) (L := []) (n := 0) ?_ ?_
    · exact simI (M := []) rfl (And.intro (Vw.same _ rfl) (And.intro (Vw.same _ rfl) (And.intro (Vw.same _ rfl) (And.intro (Vw.same _ rfl) trivial)))) trivial
    refine blockI ?_
    refine LWp.sim ?_ (f14_L1_ok h)
    exact simI (M := []) rfl (And.intro (Vw.same _ rfl) (And.intro (Vw.same _ rfl) (And.intro (Vw.same _ rfl) (And.intro (Vw.same _ rfl) trivial)))) trivial

theorem f14_ok {a0 : List G_QKey} {a1 : List G_QKey} {m : Option Nat} {o : Bool} (h : S_glossatorref3_Equal_api_QKey m a0 a1 = some o) : PFn Try.prog 14 [.isl 3 (a0.map e_QKey) false, .isl 3 (a1.map e_QKey) false] (.bool o) := PFn.ofFnW (L := f14_L) f14_low f14_fok (Nat.le_of_ble_eq_true rfl) rfl (f14_start h)

def f5_c0 : LCode := (.seq (.region [⟨some 3, .box (.t 0), none⟩,
   ⟨some 6, .mv (.c (.bool false)), none⟩])
 (.seq (.seq (.region [⟨some 10, .call 7 [], none⟩,
   ⟨some 11, .un .not (.t 10), none⟩])
 (.cond (.t 11)
  (.seq (.region [⟨some 6, .mv (.c (.bool false)), none⟩])
  .ret)
  .skip))
 (.seq (.region [⟨some 13, .load true 2 (.t 3), none⟩,
   ⟨some 14, .mv (.t 1), none⟩,
   ⟨some 15, .mv (.t 2), none⟩,
   ⟨some 16, .call 13 [(.t 13), (.t 14), (.t 15)], none⟩,
   ⟨some 12, .mv (.t 16), none⟩,
   ⟨some 17, .ext 0 (.t 12), none⟩,
   ⟨some 18, .ext 1 (.t 12), none⟩,
   ⟨some 7, .mv (.t 17), none⟩,
   ⟨some 8, .mv (.t 18), none⟩])
 (.seq (.region [⟨some 19, .load true 2 (.t 3), none⟩,
   ⟨some 20, .mv (.t 1), none⟩,
   ⟨some 21, .mv (.t 2), none⟩,
   ⟨some 22, .call 11 [(.t 19), (.t 20), (.t 21)], none⟩,
   ⟨some 9, .mv (.t 22), none⟩])
 (.seq (.seq (.region [⟨some 23, .mv (.t 9), none⟩,
   ⟨some 24, .bin .neq (.t 23) (.c (.int .i64 0)), none⟩])
 (.cond (.t 24)
  (.seq (.region [⟨some 25, .call 7 [], none⟩,
    ⟨some 26, .mv (.t 25), none⟩,
    ⟨some 27, .mv (.t 8), some (26, true)⟩,
    ⟨some 28, .mv (.t 9), some (26, true)⟩,
    ⟨some 29, .bin .eql (.t 27) (.t 28), some (26, true)⟩,
    ⟨some 30, .pick (.t 26) (.t 29) (.c (.bool false)), none⟩,
    ⟨some 31, .mv (.t 30), none⟩,
    ⟨some 32, .mv (.t 7), some (31, true)⟩,
    ⟨some 33, .len false (.t 32), some (31, true)⟩,
    ⟨some 34, .bin .eql (.t 33) (.c (.int .i64 0)), some (31, true)⟩,
    ⟨some 35, .pick (.t 31) (.t 34) (.c (.bool false)), none⟩,
    ⟨some 6, .mv (.t 35), none⟩])
  .ret)
  .skip))
 (.seq (.region [⟨some 36, .call 7 [], none⟩,
   ⟨some 37, .mv (.t 36), none⟩,
   ⟨some 38, .mv (.t 8), some (37, true)⟩,
   ⟨some 39, .bin .eql (.t 38) (.c (.int .i64 0)), some (37, true)⟩,
   ⟨some 40, .pick (.t 37) (.t 39) (.c (.bool false)), none⟩,
   ⟨some 41, .mv (.t 40), none⟩,
   ⟨some 42, .mv (.t 7), some (41, true)⟩,
   ⟨some 43, .load true 2 (.t 3), some (41, true)⟩,
   ⟨some 44, .mv (.t 1), some (41, true)⟩,
   ⟨some 45, .mv (.t 2), some (41, true)⟩,
   ⟨some 46, .call 15 [(.t 43), (.t 44), (.t 45)], some (41, true)⟩,
   ⟨some 47, .call 14 [(.t 42), (.t 46)], some (41, true)⟩,
   ⟨some 48, .pick (.t 41) (.t 47) (.c (.bool false)), none⟩,
   ⟨some 6, .mv (.t 48), none⟩])
 .ret))))))
def f5_lay : Lay := ⟨49, []⟩
def f5_res : List LRes := [.t 6]
def f5_L : LFn := ⟨3, f5_lay, f5_c0, f5_res⟩
theorem f5_low : lowFn Try.prog [] 5 = some f5_L := by kernel_rfl
theorem f5_fok : FnOk Try.prog 5 := ⟨_, Try.func5, rfl, rfl⟩
noncomputable def S_glossatorlaw3_QuerylangReads (m : Option Nat) (a0 : G_QProgram) (a1 : List Int) (a2 : Int) : Option Bool :=
  (S_glossatorlaw3_queryExample (some 4096)).bind fun v1 =>
  if (!v1) = true then
    some false
  else
    (S_querylang_Reads m a0 a1 a2).bind fun v2 =>
    (S_glossatorlaw3_evalError m a0 a1 a2).bind fun v3 =>
    if (v3 != 0) = true then
      (S_glossatorlaw3_queryExample (some 4096)).bind fun v4 =>
      some ((v4 && (v2.2 == v3)) && (((v2.1.map e_QKey).length : Int) == 0))
    else
      (S_glossatorlaw3_queryExample (some 4096)).bind fun v5 =>
      (if ((v5 && (v2.2 == 0)) == true) = true then S_glossatorref3_Reads m a0 a1 a2 else some default).bind fun v6 =>
      (if ((v5 && (v2.2 == 0)) == true) = true then S_glossatorref3_Equal_api_QKey m v2.1 v6 else some default).bind fun v7 =>
      some ((v5 && (v2.2 == 0)) && v7)

def f5_Q (a0 : G_QProgram) (a1 : List Int) (a2 : Int) (o : Bool) : Exit → Env → AHeap → Nat → Prop := FinK f5_res (PureEnd (.bool o))

theorem f5_start {a0 : G_QProgram} {a1 : List Int} {a2 : Int} {m : Option Nat} {o : Bool} (h : S_glossatorlaw3_QuerylangReads m a0 a1 a2 = some o) : LWp Try.prog f5_lay 0 f5_c0 (f5_Q a0 a1 a2 o) (initEnv 0 [.agg [.int .i64 a0.f_Inputs, .isl 1 (a0.f_Queries.map e_sl_QOp) false], .isl 1 (a1.map e_i64) false, .int .i64 a2]) [] 0 := by
  unfold S_glossatorlaw3_QuerylangReads at h
  refine seqI ?_
  refine regI ?_
  refine seqI ?_
  refine seqI ?_
  refine regI ?_
  obtain ⟨v1, h1, h⟩ := bind_some h
  refine PFn.call (f7_ok h1) trivial ?_
  refine condI (v := (!v1)) rfl trivial (fun h2 => ?_) (fun h2 => ?_)
  · have h := ite_tt h2 h
    refine seqI ?_
    refine regI ?_
    refine retI ?_
    cases h
    exact And.intro trivial (And.intro rfl (Vw.same _ rfl))
  · have h := ite_ff h2 h
    refine skipI ?_
    refine seqI ?_
    refine regI ?_
    obtain ⟨v2, h3, h⟩ := bind_some h
    refine PFn.call (f13_ok h3) (And.intro (Vw.same _ rfl) (And.intro (Vw.same _ rfl) (And.intro (Vw.same _ rfl) trivial))) ?_
    show yops _ _ _ [(16, .tup [.isl 3 (v2.1.map e_QKey) false, .int .i64 v2.2]), (15, .int .i64 a2), (14, .isl 1 (a1.map e_i64) false), (13, .agg [.int .i64 a0.f_Inputs, .isl 1 (a0.f_Queries.map e_sl_QOp) false]), (11, .bool (!v1)), (10, .bool v1), (6, .bool false), (3, .ptr (0, 0) 0 0), (0, .agg [.int .i64 a0.f_Inputs, .isl 1 (a0.f_Queries.map e_sl_QOp) false]), (1, .isl 1 (a1.map e_i64) false), (2, .int .i64 a2)] _ _
    refine LWp.sim (e := [(1, .isl 1 (a1.map e_i64) false), (2, .int .i64 a2), (3, .ptr (0, 0) 0 0), (7, .isl 3 (v2.1.map e_QKey) false), (8, .int .i64 v2.2)]) (L := [((0, 0), .one [.int .i64 a0.f_Inputs, .isl 1 (a0.f_Queries.map e_sl_QOp) false])]) (n := 1) ?_ ?_
    · exact simI (M := [((0, 0), (0, 0))]) rfl (And.intro (Vw.same _ rfl) (And.intro (Vw.same _ rfl) (And.intro (Vw.ptr _ _ _ _ rfl) (And.intro (Vw.same _ rfl) (And.intro (Vw.same _ rfl) trivial))))) (And.intro (And.intro rfl (BVw.oneL (And.intro (Vw.same _ rfl) (And.intro (Vw.same _ rfl) trivial)))) trivial)
    refine seqI ?_
    refine regI ?_
    obtain ⟨v3, h4, h⟩ := bind_some h
    refine PFn.call (f11_ok h4) (And.intro (Vw.same _ rfl) (And.intro (Vw.same _ rfl) (And.intro (Vw.same _ rfl) trivial))) ?_
    refine seqI ?_
    refine seqI ?_
    refine regI ?_
    refine condI (v := (v3 != 0)) rfl trivial (fun h5 => ?_) (fun h5 => ?_)
    · have h := ite_tt h5 h
      refine seqI ?_
      refine regI ?_
      obtain ⟨v4, h6, h⟩ := bind_some h
      refine PFn.call (f7_ok h6) trivial ?_
      show yops _ _ _ [(25, .bool v4), (24, .bool (v3 != 0)), (23, .int .i64 v3), (9, .int .i64 v3), (22, .int .i64 v3), (21, .int .i64 a2), (20, .isl 1 (a1.map e_i64) false), (19, .agg [.int .i64 a0.f_Inputs, .isl 1 (a0.f_Queries.map e_sl_QOp) false]), (1, .isl 1 (a1.map e_i64) false), (2, .int .i64 a2), (3, .ptr (0, 0) 0 0), (7, .isl 3 (v2.1.map e_QKey) false), (8, .int .i64 v2.2)] _ _
      refine And.intro (fun hp => (And.intro hp hp)) ?_
      refine And.intro (fun hc => (bqt hc)) ?_
      show yops _ _ _ [(30, .bool (v4 && (v2.2 == v3))), (29, .cnd (v4 == true) (.bool (v2.2 == v3))), (28, .cnd (v4 == true) (.int .i64 v3)), (27, .cnd (v4 == true) (.int .i64 v2.2)), (26, .bool v4), (25, .bool v4), (24, .bool (v3 != 0)), (23, .int .i64 v3), (9, .int .i64 v3), (22, .int .i64 v3), (21, .int .i64 a2), (20, .isl 1 (a1.map e_i64) false), (19, .agg [.int .i64 a0.f_Inputs, .isl 1 (a0.f_Queries.map e_sl_QOp) false]), (1, .isl 1 (a1.map e_i64) false), (2, .int .i64 a2), (3, .ptr (0, 0) 0 0), (7, .isl 3 (v2.1.map e_QKey) false), (8, .int .i64 v2.2)] _ _
      refine And.intro (fun hp => hp) ?_
      refine And.intro (fun hp => hp) ?_
      refine And.intro (fun hc => (bqt hc)) ?_
      show yops _ _ _ [(35, .bool ((v4 && (v2.2 == v3)) && (((v2.1.map e_QKey).length : Int) == 0))), (34, .cnd ((v4 && (v2.2 == v3)) == true) (.bool (((v2.1.map e_QKey).length : Int) == 0))), (33, .cnd ((v4 && (v2.2 == v3)) == true) (.int .i64 ((v2.1.map e_QKey).length : Int))), (32, .cnd ((v4 && (v2.2 == v3)) == true) (.isl 3 (v2.1.map e_QKey) false)), (31, .bool (v4 && (v2.2 == v3))), (30, .bool (v4 && (v2.2 == v3))), (29, .cnd (v4 == true) (.bool (v2.2 == v3))), (28, .cnd (v4 == true) (.int .i64 v3)), (27, .cnd (v4 == true) (.int .i64 v2.2)), (26, .bool v4), (25, .bool v4), (24, .bool (v3 != 0)), (23, .int .i64 v3), (9, .int .i64 v3), (22, .int .i64 v3), (21, .int .i64 a2), (20, .isl 1 (a1.map e_i64) false), (19, .agg [.int .i64 a0.f_Inputs, .isl 1 (a0.f_Queries.map e_sl_QOp) false]), (1, .isl 1 (a1.map e_i64) false), (2, .int .i64 a2), (3, .ptr (0, 0) 0 0), (7, .isl 3 (v2.1.map e_QKey) false), (8, .int .i64 v2.2)] _ _
      refine LWp.sim (e := [(6, .bool ((v4 && (v2.2 == v3)) && (((v2.1.map e_QKey).length : Int) == 0)))]) (L := []) (n := 0) ?_ ?_
      · exact simI (M := []) rfl (And.intro (Vw.same _ rfl) trivial) trivial
      refine retI ?_
      cases h
      exact And.intro trivial (And.intro rfl (Vw.same _ rfl))
    · have h := ite_ff h5 h
      refine skipI ?_
      refine seqI ?_
      refine regI ?_
      obtain ⟨v5, h7, h⟩ := bind_some h
      refine PFn.call (f7_ok h7) trivial ?_
      show yops _ _ _ [(36, .bool v5), (24, .bool (v3 != 0)), (23, .int .i64 v3), (9, .int .i64 v3), (22, .int .i64 v3), (21, .int .i64 a2), (20, .isl 1 (a1.map e_i64) false), (19, .agg [.int .i64 a0.f_Inputs, .isl 1 (a0.f_Queries.map e_sl_QOp) false]), (1, .isl 1 (a1.map e_i64) false), (2, .int .i64 a2), (3, .ptr (0, 0) 0 0), (7, .isl 3 (v2.1.map e_QKey) false), (8, .int .i64 v2.2)] _ _
      refine And.intro (fun hp => hp) ?_
      refine And.intro (fun hc => (bqt hc)) ?_
      obtain ⟨v6, h8, h⟩ := bind_some h
      refine Or.inl (Exists.intro (.isl 3 (v6.map e_QKey) false) (And.intro (fun hp => And.intro (And.intro hp (And.intro hp hp)) (PFn.call (f15_ok (ite_tt hp h8)) (And.intro (Vw.same _ rfl) (And.intro (Vw.same _ rfl) (And.intro (Vw.same _ rfl) trivial))) (And.intro rfl (And.intro rfl rfl)))) ?_))
      obtain ⟨v7, h9, h⟩ := bind_some h
      refine Or.inl (Exists.intro (.bool v7) (And.intro (fun hp => And.intro (And.intro hp hp) (PFn.call (f14_ok (ite_tt hp h9)) (And.intro (Vw.same _ rfl) (And.intro (Vw.same _ rfl) trivial)) (And.intro rfl (And.intro rfl rfl)))) ?_))
      refine And.intro (fun hc => (bqt hc)) ?_
      show yops _ _ _ [(48, .bool ((v5 && (v2.2 == 0)) && v7)), (47, .cnd ((v5 && (v2.2 == 0)) == true) (.bool v7)), (46, .cnd ((v5 && (v2.2 == 0)) == true) (.isl 3 (v6.map e_QKey) false)), (45, .cnd ((v5 && (v2.2 == 0)) == true) (.int .i64 a2)), (44, .cnd ((v5 && (v2.2 == 0)) == true) (.isl 1 (a1.map e_i64) false)), (43, .cnd ((v5 && (v2.2 == 0)) == true) (.agg [.int .i64 a0.f_Inputs, .isl 1 (a0.f_Queries.map e_sl_QOp) false])), (42, .cnd ((v5 && (v2.2 == 0)) == true) (.isl 3 (v2.1.map e_QKey) false)), (41, .bool (v5 && (v2.2 == 0))), (40, .bool (v5 && (v2.2 == 0))), (39, .cnd (v5 == true) (.bool (v2.2 == 0))), (38, .cnd (v5 == true) (.int .i64 v2.2)), (37, .bool v5), (36, .bool v5), (24, .bool (v3 != 0)), (23, .int .i64 v3), (9, .int .i64 v3), (22, .int .i64 v3), (21, .int .i64 a2), (20, .isl 1 (a1.map e_i64) false), (19, .agg [.int .i64 a0.f_Inputs, .isl 1 (a0.f_Queries.map e_sl_QOp) false]), (1, .isl 1 (a1.map e_i64) false), (2, .int .i64 a2), (3, .ptr (0, 0) 0 0), (7, .isl 3 (v2.1.map e_QKey) false), (8, .int .i64 v2.2)] _ _
      refine LWp.sim (e := [(6, .bool ((v5 && (v2.2 == 0)) && v7))]) (L := []) (n := 0) ?_ ?_
      · exact simI (M := []) rfl (And.intro (Vw.same _ rfl) trivial) trivial
      refine retI ?_
      cases h
      exact And.intro trivial (And.intro rfl (Vw.same _ rfl))

theorem f5_ok {a0 : G_QProgram} {a1 : List Int} {a2 : Int} {m : Option Nat} {o : Bool} (h : S_glossatorlaw3_QuerylangReads m a0 a1 a2 = some o) : PFn Try.prog 5 [.agg [.int .i64 a0.f_Inputs, .isl 1 (a0.f_Queries.map e_sl_QOp) false], .isl 1 (a1.map e_i64) false, .int .i64 a2] (.bool o) := PFn.ofFnW (L := f5_L) f5_low f5_fok (Nat.le_of_ble_eq_true rfl) rfl (f5_start h)
end Go.Proofs.Ytjbndlijmgnpnaa
