/-
  Own text GenC of this claim.
-/
import Derived.Test.YtjcckmpeflflbaaGenB
namespace Go.Proofs.Ytjcckmpeflflbaa
open Go.Fx
set_option linter.unusedVariables false
def f33b0_c2 : LCode := (.seq (.region [⟨some 35, .bin .lss (.t 34) (.t 33), none⟩])
 (.seq (.cond (.t 35)
  .skip
  (.exit 4))
 (.seq (.block 5
  (.seq (.region [⟨some 36, .iaddr 1 (.t 32) (.t 34), none⟩,
    ⟨some 37, .load false 1 (.t 36), none⟩,
    ⟨some 12, .mv (.t 37), none⟩])
  (.region [⟨some 38, .mv (.t 10), none⟩,
    ⟨some 39, .mv (.t 1), none⟩,
    ⟨some 40, .mv (.t 12), none⟩,
    ⟨some 41, .iaddr 1 (.t 39) (.t 40), none⟩,
    ⟨some 42, .load false 1 (.t 41), none⟩,
    ⟨some 43, .bin .and (.t 38) (.t 42), none⟩,
    ⟨some 10, .mv (.t 43), none⟩])))
 (.region [⟨some 44, .bin .add (.t 34) (.c (.int .i64 1)), none⟩,
   ⟨some 34, .mv (.t 44), none⟩]))))
def f33b0_c0 : LCode := (.region [⟨some 45, .mv (.t 5), none⟩,
   ⟨some 46, .mv (.t 6), none⟩,
   ⟨some 47, .mv (.t 5), none⟩,
   ⟨some 48, .mv (.t 6), none⟩,
   ⟨some 49, .iaddr 1 (.t 47) (.t 48), none⟩,
   ⟨some 50, .load false 1 (.t 49), none⟩,
   ⟨some 51, .mv (.t 10), none⟩,
   ⟨some 52, .bin .or (.t 50) (.t 51), none⟩,
   ⟨some 53, .iaddr 1 (.t 45) (.t 46), none⟩,
   ⟨none, .store 1 (.t 53) (.t 52), none⟩])
def f33b0_c1 : LCode := (.region [⟨some 54, .bin .add (.t 25) (.c (.int .i64 1)), none⟩,
   ⟨some 25, .mv (.t 54), none⟩])
def f33b0_c4 : LCode := (.seq (.region [⟨some 26, .bin .lss (.t 25) (.t 24), none⟩])
 (.seq (.cond (.t 26)
  .skip
  (.exit 2))
 (.seq (.block 3
  (.seq (.region [⟨some 27, .iaddr 2 (.t 23) (.t 25), none⟩,
    ⟨some 28, .load true 2 (.t 27), none⟩,
    ⟨some 9, .alloc [(.int .i64 0), (.isl 1 [] true)], none⟩,
    ⟨none, .store 2 (.t 9) (.t 28), none⟩])
  (.seq (.region [⟨some 29, .faddr 0 (.t 9), none⟩,
    ⟨some 30, .load false 1 (.t 29), none⟩,
    ⟨some 10, .mv (.t 30), none⟩])
  (.seq (.seq (.region [⟨some 31, .faddr 1 (.t 9), none⟩,
    ⟨some 32, .load false 1 (.t 31), none⟩,
    ⟨some 33, .len false (.t 32), none⟩,
    ⟨some 34, .mv (.c (.int .i64 0)), none⟩])
  (.block 4
   (.loop
    f33b0_c2)))
  f33b0_c0))))
 f33b0_c1)))
def f33b0_c3 : LCode := (.region [⟨some 55, .bin .add (.t 18) (.c (.int .i64 1)), none⟩,
   ⟨some 18, .mv (.t 55), none⟩])
def f33b0_c6 : LCode := (.seq (.region [⟨some 19, .bin .lss (.t 18) (.t 17), none⟩])
 (.seq (.cond (.t 19)
  .skip
  (.exit 0))
 (.seq (.block 1
  (.seq (.region [⟨some 20, .mv (.t 18), none⟩,
    ⟨some 21, .iaddr 1 (.t 16) (.t 18), none⟩,
    ⟨some 22, .load false 1 (.t 21), none⟩,
    ⟨some 6, .mv (.t 20), none⟩,
    ⟨some 7, .mv (.t 22), none⟩])
  (.seq (.region [⟨some 23, .mv (.t 7), none⟩,
    ⟨some 24, .len false (.t 23), none⟩,
    ⟨some 25, .mv (.c (.int .i64 0)), none⟩])
  (.block 2
   (.loop
    f33b0_c4)))))
 f33b0_c3)))
def f33b0_c5 : LCode := (.seq (.region [⟨some 56, .mv (.t 5), none⟩,
   ⟨some 4, .mv (.t 56), none⟩])
 .ret)
def f33b0_c7 : LCode := (.seq (.region [⟨some 4, .mv (.c (.val (.slice none 0 0))), none⟩])
 (.seq (.region [⟨some 13, .mv (.t 0), none⟩,
   ⟨some 14, .len false (.t 13), none⟩,
   ⟨some 15, .mkslice false 1 8 [(.int .i64 0)] (.t 14) (.t 14), none⟩,
   ⟨some 5, .mv (.t 15), none⟩])
 (.seq (.seq (.region [⟨some 16, .mv (.t 0), none⟩,
   ⟨some 17, .len false (.t 16), none⟩,
   ⟨some 18, .mv (.c (.int .i64 0)), none⟩])
 (.block 0
  (.loop
   f33b0_c6)))
 f33b0_c5)))
def f33b0_lay : Lay := ⟨57, [15], false⟩
def f33b0_res : List LRes := [.t 4]
def f33b0_L : LFn := ⟨2, f33b0_lay, f33b0_c7, f33b0_res⟩
theorem f33b0_low : lowFn Try.prog [15] 33 = some f33b0_L := by kernel_rfl
theorem f33b0_fok : FnOk Try.prog 33 := ⟨_, Try.func33, rfl, rfl⟩
def f33b0_Q (a0 : List (List G_QRule)) (a1 : List Int) (o : (List Int)) : Exit → Env → AHeap → Nat → Prop := FinK f33b0_res (FinTo 3 4 (.msl (3, 0) 1 0 o.length true) [((0, 0), .rows 1 (a1.map e_i64)), ((3, 0), .rows 1 (o.map e_i64))])

def f33b0_L9_env (a0 : List (List G_QRule)) (a1 : List Int) (s : (Int × (List Int))) : Env := [(1, .msl (0, 0) 1 0 a1.length true), (5, .msl (3, 0) 1 0 s.2.length true), (16, .isl 1 (a0.map eB) false), (17, .int .i64 ((a0.map eB).length : Int)), (18, .int .i64 s.1)]
def f33b0_L9_hp (a0 : List (List G_QRule)) (a1 : List Int) (s : (Int × (List Int))) : AHeap := [((0, 0), .rows 1 (a1.map e_i64)), ((3, 0), .rows 1 (s.2.map e_i64))]
def f33b0_L9_Q (a0 : List (List G_QRule)) (a1 : List Int) (o : (List Int)) : Exit → Env → AHeap → Nat → Prop := (QBlock 0 (QSeq Try.prog f33b0_lay 3 f33b0_c5 (f33b0_Q a0 a1 o)))

def f33b0_L12_env (a0 : List (List G_QRule)) (a1 : List Int) (v9 : Int) (s : (Int × (List Int))) : Env := [(1, .msl (0, 0) 1 0 a1.length true), (5, .msl (3, 0) 1 0 s.2.length true), (6, .int .i64 v9), (16, .isl 1 (a0.map eB) false), (17, .int .i64 ((a0.map eB).length : Int)), (18, .int .i64 v9), (23, .isl 2 ((a0.getD v9.toNat default).map e_QRule) false), (24, .int .i64 (((a0.getD v9.toNat default).map e_QRule).length : Int)), (25, .int .i64 s.1)]
def f33b0_L12_hp (a0 : List (List G_QRule)) (a1 : List Int) (v9 : Int) (s : (Int × (List Int))) : AHeap := [((0, 0), .rows 1 (a1.map e_i64)), ((3, 0), .rows 1 (s.2.map e_i64))]
def f33b0_L12_Q (a0 : List (List G_QRule)) (a1 : List Int) (o : ((Int × (List Int)) ⊕ (List Int))) : Exit → Env → AHeap → Nat → Prop := (QBlock 2 (QBlock 1 (QSeq Try.prog f33b0_lay 3 f33b0_c3 (BodyQ 3 4 (f33b0_L9_env a0 a1) (f33b0_L9_hp a0 a1) (f33b0_L9_Q a0 a1) o))))

def f33b0_L13_env (a0 : List (List G_QRule)) (a1 : List Int) (v9 : Int) (v21 : Int) (v22 : List Int) (s : (Int × Int)) : Env := [(1, .msl (0, 0) 1 0 a1.length true), (5, .msl (3, 0) 1 0 v22.length true), (6, .int .i64 v9), (10, .int .i64 s.1), (16, .isl 1 (a0.map eB) false), (17, .int .i64 ((a0.map eB).length : Int)), (18, .int .i64 v9), (23, .isl 2 ((a0.getD v9.toNat default).map e_QRule) false), (24, .int .i64 (((a0.getD v9.toNat default).map e_QRule).length : Int)), (25, .int .i64 v21), (32, .isl 1 ((((a0.getD v9.toNat default).getD v21.toNat default).f_All).map e_i64) false), (33, .int .i64 (((((a0.getD v9.toNat default).getD v21.toNat default).f_All).map e_i64).length : Int)), (34, .int .i64 s.2)]
def f33b0_L13_hp (a0 : List (List G_QRule)) (a1 : List Int) (v9 : Int) (v21 : Int) (v22 : List Int) (s : (Int × Int)) : AHeap := [((0, 0), .rows 1 (a1.map e_i64)), ((3, 0), .rows 1 (v22.map e_i64))]
def f33b0_L13_Q (a0 : List (List G_QRule)) (a1 : List Int) (v9 : Int) (o : ((Int × (List Int)) ⊕ ((Int × (List Int)) ⊕ (List Int)))) : Exit → Env → AHeap → Nat → Prop := (QBlock 4 (QSeq Try.prog f33b0_lay 3 f33b0_c0 (QBlock 3 (QSeq Try.prog f33b0_lay 3 f33b0_c1 (BodyQ 3 4 (f33b0_L12_env a0 a1 v9) (f33b0_L12_hp a0 a1 v9) (f33b0_L12_Q a0 a1) o)))))

noncomputable def S_glossatorref3_Round_j20 (m : Option Nat) (a0 : List (List G_QRule)) (a1 : List Int) (v9 : Int) (v21 : Int) (v22 : List Int) (v25 : Int) : Option ((Int × (List Int)) ⊕ ((Int × (List Int)) ⊕ (List Int))) :=
  some (.inl ((W (v21 + 1)), (v22.set (0 + v9.toNat) (ibits .or .i64 (v22.getD (0 + v9.toNat) default) v25))))

noncomputable def S_glossatorref3_Round_j19 (m : Option Nat) (a0 : List (List G_QRule)) (a1 : List Int) (v9 : Int) (v21 : Int) (v22 : List Int) (v25 : Int) : Option ((Int × (List Int)) ⊕ ((Int × (List Int)) ⊕ (List Int))) :=
  if (0 : Int) ≤ v9 ∧ v9 < ((v22.length : Nat) : Int) then
  if (0 + v9.toNat) < v22.length then
  if (0 : Int) ≤ v9 ∧ v9 < ((v22.length : Nat) : Int) then
  if (0 + v9.toNat) < v22.length then
  S_glossatorref3_Round_j20 m a0 a1 v9 v21 v22 v25
  else none
  else none
  else none
  else none

noncomputable def S_glossatorref3_Round_b13 (m : Option Nat) (a0 : List (List G_QRule)) (a1 : List Int) (v9 : Int) (v21 : Int) (v22 : List Int) (v25 : Int) (v26 : Int) : Option ((Int × Int) ⊕ ((Int × (List Int)) ⊕ ((Int × (List Int)) ⊕ (List Int)))) :=
  if (decide (v26 < (((((a0.getD v9.toNat default).getD v21.toNat default).f_All).map e_i64).length : Int))) = true then
    if (0 : Int) ≤ v26 ∧ v26 < (((((a0.getD v9.toNat default).getD v21.toNat default).f_All).map e_i64).length : Int) then
    if (0 : Int) ≤ ((((a0.getD v9.toNat default).getD v21.toNat default).f_All).getD v26.toNat default) ∧ ((((a0.getD v9.toNat default).getD v21.toNat default).f_All).getD v26.toNat default) < ((a1.length : Nat) : Int) then
    if (0 + ((((a0.getD v9.toNat default).getD v21.toNat default).f_All).getD v26.toNat default).toNat) < a1.length then
    some (.inl ((ibits .and .i64 v25 (a1.getD (0 + ((((a0.getD v9.toNat default).getD v21.toNat default).f_All).getD v26.toNat default).toNat) default)), (W (v26 + 1))))
    else none
    else none
    else none
  else
    Option.map Sum.inr (
      S_glossatorref3_Round_j19 m a0 a1 v9 v21 v22 v25)

noncomputable def S_glossatorref3_Round_l13 (m : Option Nat) (a0 : List (List G_QRule)) (a1 : List Int) (v9 : Int) (v21 : Int) (v22 : List Int) (v25 : Int) (v26 : Int) : Option ((Int × (List Int)) ⊕ ((Int × (List Int)) ⊕ (List Int))) := loopM m (fun (s : (Int × Int)) => S_glossatorref3_Round_b13 m a0 a1 v9 v21 v22 s.1 s.2) (v25, v26)

theorem f33b0_j20_ok {a0 : List (List G_QRule)} {a1 : List Int} {v9 : Int} {v21 : Int} {v22 : List Int} {v25 : Int} {m : Option Nat} {o : ((Int × (List Int)) ⊕ ((Int × (List Int)) ⊕ (List Int)))} (h : S_glossatorref3_Round_j20 m a0 a1 v9 v21 v22 v25 = some o) :
    LWp Try.prog f33b0_lay 3 f33b0_c1 (BodyQ 3 4 (f33b0_L12_env a0 a1 v9) (f33b0_L12_hp a0 a1 v9) (f33b0_L12_Q a0 a1) o) [(1, .msl (0, 0) 1 0 a1.length true), (5, .msl (3, 0) 1 0 v22.length true), (6, .int .i64 v9), (16, .isl 1 (a0.map eB) false), (17, .int .i64 ((a0.map eB).length : Int)), (18, .int .i64 v9), (23, .isl 2 ((a0.getD v9.toNat default).map e_QRule) false), (24, .int .i64 (((a0.getD v9.toNat default).map e_QRule).length : Int)), (25, .int .i64 v21)] [((0, 0), .rows 1 (a1.map e_i64)), ((3, 0), .rows 1 ((v22.set (0 + v9.toNat) (ibits .or .i64 (v22.getD (0 + v9.toNat) default) v25)).map e_i64))] 4 := by
  unfold S_glossatorref3_Round_j20 at h
  refine regI ?_
  cases h
  exact AI rfl (simI (M := [((3, 0), (3, 0))]) rfl (AI (Vw.mslE rfl (by first | rfl | (simp; done) | (simp at *; omega)) rfl) (AI (Vw.mslE rfl (by first | rfl | (simp; done) | (simp at *; omega)) rfl) (AI (VS rfl) (AI (VS rfl) (AI (VS rfl) (AI (VS rfl) (AI (VS rfl) (AI (VS rfl) (AI (VS rfl) TT))))))))) (AI (AI rfl (BVw.enc e_i64 (fun _ => rfl) _ a1)) (AI (AI rfl (BVw.enc e_i64 (fun _ => rfl) _ (v22.set (0 + v9.toNat) (ibits .or .i64 (v22.getD (0 + v9.toNat) default) v25)))) TT)))

theorem f33b0_j19_ok {a0 : List (List G_QRule)} {a1 : List Int} {v9 : Int} {v21 : Int} {v22 : List Int} {v25 : Int} {m : Option Nat} {o : ((Int × (List Int)) ⊕ ((Int × (List Int)) ⊕ (List Int)))} (h : S_glossatorref3_Round_j19 m a0 a1 v9 v21 v22 v25 = some o) :
    LWp Try.prog f33b0_lay 3 f33b0_c0 (QBlock 3 (QSeq Try.prog f33b0_lay 3 f33b0_c1 (BodyQ 3 4 (f33b0_L12_env a0 a1 v9) (f33b0_L12_hp a0 a1 v9) (f33b0_L12_Q a0 a1) o))) [(1, .msl (0, 0) 1 0 a1.length true), (5, .msl (3, 0) 1 0 v22.length true), (6, .int .i64 v9), (10, .int .i64 v25), (16, .isl 1 (a0.map eB) false), (17, .int .i64 ((a0.map eB).length : Int)), (18, .int .i64 v9), (23, .isl 2 ((a0.getD v9.toNat default).map e_QRule) false), (24, .int .i64 (((a0.getD v9.toNat default).map e_QRule).length : Int)), (25, .int .i64 v21)] [((0, 0), .rows 1 (a1.map e_i64)), ((3, 0), .rows 1 (v22.map e_i64))] 4 := by
  unfold S_glossatorref3_Round_j19 at h
  refine regI ?_
  obtain ⟨h166, h⟩ := ite_some h
  refine AI h166 ?_
  obtain ⟨h167, h⟩ := ite_some h
  refine EX (e_i64 (v22.getD (0 + v9.toNat) default)) (AI (getD_enc e_i64 _ _ h167) (AI (AI (lt_map e_i64 h167) (NB rfl)) ?_))
  obtain ⟨h168, h⟩ := ite_some h
  refine AI h168 ?_
  obtain ⟨h169, h⟩ := ite_some h
  refine EX ((v22.set (0 + v9.toNat) (ibits .or .i64 (v22.getD (0 + v9.toNat) default) v25)).map e_i64) (AI (set_enc e_i64 _ _ _ _ _ h169 rfl) (AI (AI rfl (AI (lt_map e_i64 h169) (NB rfl))) ?_))
  refine LWp.sim ?_ (f33b0_j20_ok h)
  exact simI (M := [((3, 0), (3, 0))]) rfl (AI (Vw.mslE rfl (by first | rfl | (simp; done) | (simp at *; omega)) rfl) (AI (Vw.mslE rfl (by first | rfl | (simp; done) | (simp at *; omega)) rfl) (AI (VS rfl) (AI (VS rfl) (AI (VS rfl) (AI (VS rfl) (AI (VS rfl) (AI (VS rfl) (AI (VS rfl) TT))))))))) (AI (AI rfl (BVw.enc e_i64 (fun _ => rfl) _ a1)) (AI (AI rfl (BVw.enc e_i64 (fun _ => rfl) _ (v22.set (0 + v9.toNat) (ibits .or .i64 (v22.getD (0 + v9.toNat) default) v25)))) TT))

theorem f33b0_L13_bok {a0 : List (List G_QRule)} {a1 : List Int} {v9 : Int} {v21 : Int} {v22 : List Int} {v25 : Int} {v26 : Int} {m : Option Nat} {o : (Int × Int) ⊕ ((Int × (List Int)) ⊕ ((Int × (List Int)) ⊕ (List Int)))} (h : S_glossatorref3_Round_b13 m a0 a1 v9 v21 v22 v25 v26 = some o) :
    LWp Try.prog f33b0_lay 3 f33b0_c2 (BodyQ 3 4 (f33b0_L13_env a0 a1 v9 v21 v22) (f33b0_L13_hp a0 a1 v9 v21 v22) (f33b0_L13_Q a0 a1 v9) o) [(1, .msl (0, 0) 1 0 a1.length true), (5, .msl (3, 0) 1 0 v22.length true), (6, .int .i64 v9), (10, .int .i64 v25), (16, .isl 1 (a0.map eB) false), (17, .int .i64 ((a0.map eB).length : Int)), (18, .int .i64 v9), (23, .isl 2 ((a0.getD v9.toNat default).map e_QRule) false), (24, .int .i64 (((a0.getD v9.toNat default).map e_QRule).length : Int)), (25, .int .i64 v21), (32, .isl 1 ((((a0.getD v9.toNat default).getD v21.toNat default).f_All).map e_i64) false), (33, .int .i64 (((((a0.getD v9.toNat default).getD v21.toNat default).f_All).map e_i64).length : Int)), (34, .int .i64 v26)] [((0, 0), .rows 1 (a1.map e_i64)), ((3, 0), .rows 1 (v22.map e_i64))] 4 := by
  unfold S_glossatorref3_Round_b13 at h
  refine seqI ?_
  refine regI ?_
  refine seqI ?_
  refine condI (v := (decide (v26 < (((((a0.getD v9.toNat default).getD v21.toNat default).f_All).map e_i64).length : Int)))) rfl TT (fun h162 => ?_) (fun h162 => ?_)
  · have h := ite_tt h162 h
    refine skipI ?_
    refine seqI ?_
    refine blockI ?_
    refine seqI ?_
    refine regI ?_
    obtain ⟨h163, h⟩ := ite_some h
    refine AI h163 ?_
    refine EX (e_i64 ((((a0.getD v9.toNat default).getD v21.toNat default).f_All).getD v26.toNat default)) (AI (getD_enc e_i64 _ _ (idx_ltL e_i64 h163)) (AI (AI (idx_lt h163) (NB rfl)) ?_))
    refine regI ?_
    obtain ⟨h164, h⟩ := ite_some h
    refine AI h164 ?_
    obtain ⟨h165, h⟩ := ite_some h
    refine EX (e_i64 (a1.getD (0 + ((((a0.getD v9.toNat default).getD v21.toNat default).f_All).getD v26.toNat default).toNat) default)) (AI (getD_enc e_i64 _ _ h165) (AI (AI (lt_map e_i64 h165) (NB rfl)) ?_))
    refine LWp.sim (e := [(1, .msl (0, 0) 1 0 a1.length true), (5, .msl (3, 0) 1 0 v22.length true), (6, .int .i64 v9), (10, .int .i64 (ibits .and .i64 v25 (a1.getD (0 + ((((a0.getD v9.toNat default).getD v21.toNat default).f_All).getD v26.toNat default).toNat) default))), (16, .isl 1 (a0.map eB) false), (17, .int .i64 ((a0.map eB).length : Int)), (18, .int .i64 v9), (23, .isl 2 ((a0.getD v9.toNat default).map e_QRule) false), (24, .int .i64 (((a0.getD v9.toNat default).map e_QRule).length : Int)), (25, .int .i64 v21), (32, .isl 1 ((((a0.getD v9.toNat default).getD v21.toNat default).f_All).map e_i64) false), (33, .int .i64 (((((a0.getD v9.toNat default).getD v21.toNat default).f_All).map e_i64).length : Int)), (34, .int .i64 v26)]) (L := [((0, 0), .rows 1 (a1.map e_i64)), ((3, 0), .rows 1 (v22.map e_i64))]) (n := 4) ?_ ?_
    · exact simI (M := [((3, 0), (3, 0))]) rfl (AI (Vw.mslE rfl (by first | rfl | (simp; done) | (simp at *; omega)) rfl) (AI (Vw.mslE rfl (by first | rfl | (simp; done) | (simp at *; omega)) rfl) (AI (VS rfl) (AI (VS rfl) (AI (VS rfl) (AI (VS rfl) (AI (VS rfl) (AI (VS rfl) (AI (VS rfl) (AI (VS rfl) (AI (VS rfl) (AI (VS rfl) (AI (VS rfl) TT))))))))))))) (AI (AI rfl (BVw.enc e_i64 (fun _ => rfl) _ a1)) (AI (AI rfl (BVw.enc e_i64 (fun _ => rfl) _ v22)) TT))
    refine regI ?_
    cases h
    exact AI rfl (simI (M := [((3, 0), (3, 0))]) rfl (AI (Vw.mslE rfl (by first | rfl | (simp; done) | (simp at *; omega)) rfl) (AI (Vw.mslE rfl (by first | rfl | (simp; done) | (simp at *; omega)) rfl) (AI (VS rfl) (AI (VS rfl) (AI (VS rfl) (AI (VS rfl) (AI (VS rfl) (AI (VS rfl) (AI (VS rfl) (AI (VS rfl) (AI (VS rfl) (AI (VS rfl) (AI (VS rfl) TT))))))))))))) (AI (AI rfl (BVw.enc e_i64 (fun _ => rfl) _ a1)) (AI (AI rfl (BVw.enc e_i64 (fun _ => rfl) _ v22)) TT)))
  · have h := ite_ff h162 h
    refine exitI ?_
    obtain ⟨o, hq, rfl⟩ := Option.map_eq_some_iff.1 h
    replace h := hq; clear hq
    refine AI nofun ?_
    refine LWp.sim ?_ (f33b0_j19_ok h)
    exact simI (M := [((3, 0), (3, 0))]) rfl (AI (Vw.mslE rfl (by first | rfl | (simp; done) | (simp at *; omega)) rfl) (AI (Vw.mslE rfl (by first | rfl | (simp; done) | (simp at *; omega)) rfl) (AI (VS rfl) (AI (VS rfl) (AI (VS rfl) (AI (VS rfl) (AI (VS rfl) (AI (VS rfl) (AI (VS rfl) (AI (VS rfl) TT)))))))))) (AI (AI rfl (BVw.enc e_i64 (fun _ => rfl) _ a1)) (AI (AI rfl (BVw.enc e_i64 (fun _ => rfl) _ v22)) TT))

theorem f33b0_L13_ok {a0 : List (List G_QRule)} {a1 : List Int} {v9 : Int} {v21 : Int} {v22 : List Int} {v25 : Int} {v26 : Int} {m : Option Nat} {o : ((Int × (List Int)) ⊕ ((Int × (List Int)) ⊕ (List Int)))} (h : S_glossatorref3_Round_l13 m a0 a1 v9 v21 v22 v25 v26 = some o) :
    LWp Try.prog f33b0_lay 3 (.loop f33b0_c2) (QBlock 4 (QSeq Try.prog f33b0_lay 3 f33b0_c0 (QBlock 3 (QSeq Try.prog f33b0_lay 3 f33b0_c1 (BodyQ 3 4 (f33b0_L12_env a0 a1 v9) (f33b0_L12_hp a0 a1 v9) (f33b0_L12_Q a0 a1) o))))) [(1, .msl (0, 0) 1 0 a1.length true), (5, .msl (3, 0) 1 0 v22.length true), (6, .int .i64 v9), (10, .int .i64 v25), (16, .isl 1 (a0.map eB) false), (17, .int .i64 ((a0.map eB).length : Int)), (18, .int .i64 v9), (23, .isl 2 ((a0.getD v9.toNat default).map e_QRule) false), (24, .int .i64 (((a0.getD v9.toNat default).map e_QRule).length : Int)), (25, .int .i64 v21), (32, .isl 1 ((((a0.getD v9.toNat default).getD v21.toNat default).f_All).map e_i64) false), (33, .int .i64 (((((a0.getD v9.toNat default).getD v21.toNat default).f_All).map e_i64).length : Int)), (34, .int .i64 v26)] [((0, 0), .rows 1 (a1.map e_i64)), ((3, 0), .rows 1 (v22.map e_i64))] 4 :=
  LWp_loopM (m := m) (s := ((v25, v26) : (Int × Int))) (r := o) (fun (s : (Int × Int)) => S_glossatorref3_Round_b13 m a0 a1 v9 v21 v22 s.1 s.2) (f33b0_L13_env a0 a1 v9 v21 v22) (f33b0_L13_hp a0 a1 v9 v21 v22) (f33b0_L13_Q a0 a1 v9) (fun s o h => f33b0_L13_bok h) h

noncomputable def S_glossatorref3_Round_j21 (m : Option Nat) (a0 : List (List G_QRule)) (a1 : List Int) (v9 : Int) (v22 : List Int) : Option ((Int × (List Int)) ⊕ (List Int)) :=
  some (.inl ((W (v9 + 1)), v22))

noncomputable def S_glossatorref3_Round_b12 (m : Option Nat) (a0 : List (List G_QRule)) (a1 : List Int) (v9 : Int) (v21 : Int) (v22 : List Int) : Option ((Int × (List Int)) ⊕ ((Int × (List Int)) ⊕ (List Int))) :=
  if (decide (v21 < (((a0.getD v9.toNat default).map e_QRule).length : Int))) = true then
    if (0 : Int) ≤ v21 ∧ v21 < (((a0.getD v9.toNat default).map e_QRule).length : Int) then
    S_glossatorref3_Round_l13 m a0 a1 v9 v21 v22 (((a0.getD v9.toNat default).getD v21.toNat default).f_Mask) 0
    else none
  else
    Option.map Sum.inr (
      S_glossatorref3_Round_j21 m a0 a1 v9 v22)

noncomputable def S_glossatorref3_Round_l12 (m : Option Nat) (a0 : List (List G_QRule)) (a1 : List Int) (v9 : Int) (v21 : Int) (v22 : List Int) : Option ((Int × (List Int)) ⊕ (List Int)) := loopM m (fun (s : (Int × (List Int))) => S_glossatorref3_Round_b12 m a0 a1 v9 s.1 s.2) (v21, v22)

theorem f33b0_j21_ok {a0 : List (List G_QRule)} {a1 : List Int} {v9 : Int} {v22 : List Int} {m : Option Nat} {o : ((Int × (List Int)) ⊕ (List Int))} (h : S_glossatorref3_Round_j21 m a0 a1 v9 v22 = some o) :
    LWp Try.prog f33b0_lay 3 f33b0_c3 (BodyQ 3 4 (f33b0_L9_env a0 a1) (f33b0_L9_hp a0 a1) (f33b0_L9_Q a0 a1) o) [(1, .msl (0, 0) 1 0 a1.length true), (5, .msl (3, 0) 1 0 v22.length true), (16, .isl 1 (a0.map eB) false), (17, .int .i64 ((a0.map eB).length : Int)), (18, .int .i64 v9)] [((0, 0), .rows 1 (a1.map e_i64)), ((3, 0), .rows 1 (v22.map e_i64))] 4 := by
  unfold S_glossatorref3_Round_j21 at h
  refine regI ?_
  cases h
  exact AI rfl (simI (M := [((3, 0), (3, 0))]) rfl (AI (Vw.mslE rfl (by first | rfl | (simp; done) | (simp at *; omega)) rfl) (AI (Vw.mslE rfl (by first | rfl | (simp; done) | (simp at *; omega)) rfl) (AI (VS rfl) (AI (VS rfl) (AI (VS rfl) TT))))) (AI (AI rfl (BVw.enc e_i64 (fun _ => rfl) _ a1)) (AI (AI rfl (BVw.enc e_i64 (fun _ => rfl) _ v22)) TT)))

theorem f33b0_L12_bok {a0 : List (List G_QRule)} {a1 : List Int} {v9 : Int} {v21 : Int} {v22 : List Int} {m : Option Nat} {o : (Int × (List Int)) ⊕ ((Int × (List Int)) ⊕ (List Int))} (h : S_glossatorref3_Round_b12 m a0 a1 v9 v21 v22 = some o) :
    LWp Try.prog f33b0_lay 3 f33b0_c4 (BodyQ 3 4 (f33b0_L12_env a0 a1 v9) (f33b0_L12_hp a0 a1 v9) (f33b0_L12_Q a0 a1) o) [(1, .msl (0, 0) 1 0 a1.length true), (5, .msl (3, 0) 1 0 v22.length true), (6, .int .i64 v9), (16, .isl 1 (a0.map eB) false), (17, .int .i64 ((a0.map eB).length : Int)), (18, .int .i64 v9), (23, .isl 2 ((a0.getD v9.toNat default).map e_QRule) false), (24, .int .i64 (((a0.getD v9.toNat default).map e_QRule).length : Int)), (25, .int .i64 v21)] [((0, 0), .rows 1 (a1.map e_i64)), ((3, 0), .rows 1 (v22.map e_i64))] 4 := by
  unfold S_glossatorref3_Round_b12 at h
  refine seqI ?_
  refine regI ?_
  refine seqI ?_
  refine condI (v := (decide (v21 < (((a0.getD v9.toNat default).map e_QRule).length : Int)))) rfl TT (fun h152 => ?_) (fun h152 => ?_)
  · have h := ite_tt h152 h
    refine skipI ?_
    refine seqI ?_
    refine blockI ?_
    refine seqI ?_
    refine regI ?_
    obtain ⟨h153, h⟩ := ite_some h
    refine AI h153 ?_
    refine EX (e_QRule ((a0.getD v9.toNat default).getD v21.toNat default)) (AI (getD_enc e_QRule _ _ (idx_ltL e_QRule h153)) (AI (AI (idx_lt h153) (NB rfl)) ?_))
    refine seqI ?_
    refine regI ?_
    refine LWp.sim (e := [(1, .msl (0, 0) 1 0 a1.length true), (5, .msl (3, 0) 1 0 v22.length true), (6, .int .i64 v9), (9, .ptr (4, 0) 0 0), (10, .int .i64 (((a0.getD v9.toNat default).getD v21.toNat default).f_Mask)), (16, .isl 1 (a0.map eB) false), (17, .int .i64 ((a0.map eB).length : Int)), (18, .int .i64 v9), (23, .isl 2 ((a0.getD v9.toNat default).map e_QRule) false), (24, .int .i64 (((a0.getD v9.toNat default).map e_QRule).length : Int)), (25, .int .i64 v21)]) (L := [((0, 0), .rows 1 (a1.map e_i64)), ((3, 0), .rows 1 (v22.map e_i64)), ((4, 0), .one [.int .i64 (((a0.getD v9.toNat default).getD v21.toNat default).f_Mask), .isl 1 ((((a0.getD v9.toNat default).getD v21.toNat default).f_All).map e_i64) false])]) (n := 5) ?_ ?_
    · exact simI (M := [((3, 0), (3, 0)), ((4, 0), (4, 0))]) rfl (AI (Vw.mslE rfl (by first | rfl | (simp; done) | (simp at *; omega)) rfl) (AI (Vw.mslE rfl (by first | rfl | (simp; done) | (simp at *; omega)) rfl) (AI (VS rfl) (AI (Vw.ptr _ _ _ _ rfl) (AI (VS rfl) (AI (VS rfl) (AI (VS rfl) (AI (VS rfl) (AI (VS rfl) (AI (VS rfl) (AI (VS rfl) TT))))))))))) (AI (AI rfl (BVw.enc e_i64 (fun _ => rfl) _ a1)) (AI (AI rfl (BVw.enc e_i64 (fun _ => rfl) _ v22)) (AI (AI rfl (BVw.oneL (AI (VS rfl) (AI (VS rfl) TT)))) TT)))
    refine seqI ?_
    refine seqI ?_
    refine regI ?_
    refine blockI ?_
    refine LWp.sim ?_ (f33b0_L13_ok h)
    exact simI (M := [((3, 0), (3, 0))]) rfl (AI (Vw.mslE rfl (by first | rfl | (simp; done) | (simp at *; omega)) rfl) (AI (Vw.mslE rfl (by first | rfl | (simp; done) | (simp at *; omega)) rfl) (AI (VS rfl) (AI (VS rfl) (AI (VS rfl) (AI (VS rfl) (AI (VS rfl) (AI (VS rfl) (AI (VS rfl) (AI (VS rfl) (AI (VS rfl) (AI (VS rfl) (AI (VS rfl) TT))))))))))))) (AI (AI rfl (BVw.enc e_i64 (fun _ => rfl) _ a1)) (AI (AI rfl (BVw.enc e_i64 (fun _ => rfl) _ v22)) TT))
  · have h := ite_ff h152 h
    refine exitI ?_
    obtain ⟨o, hq, rfl⟩ := Option.map_eq_some_iff.1 h
    replace h := hq; clear hq
    refine AI nofun ?_
    refine LWp.sim ?_ (f33b0_j21_ok h)
    exact simI (M := [((3, 0), (3, 0))]) rfl (AI (Vw.mslE rfl (by first | rfl | (simp; done) | (simp at *; omega)) rfl) (AI (Vw.mslE rfl (by first | rfl | (simp; done) | (simp at *; omega)) rfl) (AI (VS rfl) (AI (VS rfl) (AI (VS rfl) TT))))) (AI (AI rfl (BVw.enc e_i64 (fun _ => rfl) _ a1)) (AI (AI rfl (BVw.enc e_i64 (fun _ => rfl) _ v22)) TT))

theorem f33b0_L12_ok {a0 : List (List G_QRule)} {a1 : List Int} {v9 : Int} {v21 : Int} {v22 : List Int} {m : Option Nat} {o : ((Int × (List Int)) ⊕ (List Int))} (h : S_glossatorref3_Round_l12 m a0 a1 v9 v21 v22 = some o) :
    LWp Try.prog f33b0_lay 3 (.loop f33b0_c4) (QBlock 2 (QBlock 1 (QSeq Try.prog f33b0_lay 3 f33b0_c3 (BodyQ 3 4 (f33b0_L9_env a0 a1) (f33b0_L9_hp a0 a1) (f33b0_L9_Q a0 a1) o)))) [(1, .msl (0, 0) 1 0 a1.length true), (5, .msl (3, 0) 1 0 v22.length true), (6, .int .i64 v9), (16, .isl 1 (a0.map eB) false), (17, .int .i64 ((a0.map eB).length : Int)), (18, .int .i64 v9), (23, .isl 2 ((a0.getD v9.toNat default).map e_QRule) false), (24, .int .i64 (((a0.getD v9.toNat default).map e_QRule).length : Int)), (25, .int .i64 v21)] [((0, 0), .rows 1 (a1.map e_i64)), ((3, 0), .rows 1 (v22.map e_i64))] 4 :=
  LWp_loopM (m := m) (s := ((v21, v22) : (Int × (List Int)))) (r := o) (fun (s : (Int × (List Int))) => S_glossatorref3_Round_b12 m a0 a1 v9 s.1 s.2) (f33b0_L12_env a0 a1 v9) (f33b0_L12_hp a0 a1 v9) (f33b0_L12_Q a0 a1) (fun s o h => f33b0_L12_bok h) h

noncomputable def S_glossatorref3_Round_j22 (m : Option Nat) (a1 : List Int) (v10 : List Int) : Option (List Int) :=
  some v10

noncomputable def S_glossatorref3_Round_b9 (m : Option Nat) (a0 : List (List G_QRule)) (a1 : List Int) (v9 : Int) (v10 : List Int) : Option ((Int × (List Int)) ⊕ (List Int)) :=
  if (decide (v9 < ((a0.map eB).length : Int))) = true then
    if (0 : Int) ≤ v9 ∧ v9 < ((a0.map eB).length : Int) then
    S_glossatorref3_Round_l12 m a0 a1 v9 0 v10
    else none
  else
    Option.map Sum.inr (
      S_glossatorref3_Round_j22 m a1 v10)

noncomputable def S_glossatorref3_Round_l9 (m : Option Nat) (a0 : List (List G_QRule)) (a1 : List Int) (v9 : Int) (v10 : List Int) : Option (List Int) := loopM m (fun (s : (Int × (List Int))) => S_glossatorref3_Round_b9 m a0 a1 s.1 s.2) (v9, v10)

theorem f33b0_j22_ok {a0 : List (List G_QRule)} {a1 : List Int} {v10 : List Int} {m : Option Nat} {o : (List Int)} (h : S_glossatorref3_Round_j22 m a1 v10 = some o) :
    LWp Try.prog f33b0_lay 3 f33b0_c5 (f33b0_Q a0 a1 o) [(5, .msl (3, 0) 1 0 v10.length true)] [((0, 0), .rows 1 (a1.map e_i64)), ((3, 0), .rows 1 (v10.map e_i64))] 4 := by
  unfold S_glossatorref3_Round_j22 at h
  refine seqI ?_
  refine regI ?_
  refine retI ?_
  cases h
  exact AI TT (finI (n' := 4) [((3, 0), (3, 0))] [] rfl rfl (Vw.mslE rfl (by first | rfl | (simp; done) | (simp at *; omega)) rfl) (AI (AI rfl (BVw.enc e_i64 (fun _ => rfl) _ a1)) (AI (AI rfl (BVw.enc e_i64 (fun _ => rfl) _ v10)) TT)))

theorem f33b0_L9_bok {a0 : List (List G_QRule)} {a1 : List Int} {v9 : Int} {v10 : List Int} {m : Option Nat} {o : (Int × (List Int)) ⊕ (List Int)} (h : S_glossatorref3_Round_b9 m a0 a1 v9 v10 = some o) :
    LWp Try.prog f33b0_lay 3 f33b0_c6 (BodyQ 3 4 (f33b0_L9_env a0 a1) (f33b0_L9_hp a0 a1) (f33b0_L9_Q a0 a1) o) [(1, .msl (0, 0) 1 0 a1.length true), (5, .msl (3, 0) 1 0 v10.length true), (16, .isl 1 (a0.map eB) false), (17, .int .i64 ((a0.map eB).length : Int)), (18, .int .i64 v9)] [((0, 0), .rows 1 (a1.map e_i64)), ((3, 0), .rows 1 (v10.map e_i64))] 4 := by
  unfold S_glossatorref3_Round_b9 at h
  refine seqI ?_
  refine regI ?_
  refine seqI ?_
  refine condI (v := (decide (v9 < ((a0.map eB).length : Int)))) rfl TT (fun h114 => ?_) (fun h114 => ?_)
  · have h := ite_tt h114 h
    refine skipI ?_
    refine seqI ?_
    refine blockI ?_
    refine seqI ?_
    refine regI ?_
    obtain ⟨h115, h⟩ := ite_some h
    refine AI h115 ?_
    refine EX (eB (a0.getD v9.toNat default)) (AI (getD_enc eB _ _ (idx_ltL eB h115)) (AI (AI (idx_lt h115) (NB rfl)) ?_))
    refine seqI ?_
    refine regI ?_
    refine LWp.sim (e := [(1, .msl (0, 0) 1 0 a1.length true), (5, .msl (3, 0) 1 0 v10.length true), (6, .int .i64 v9), (16, .isl 1 (a0.map eB) false), (17, .int .i64 ((a0.map eB).length : Int)), (18, .int .i64 v9), (23, .isl 2 ((a0.getD v9.toNat default).map e_QRule) false), (24, .int .i64 (((a0.getD v9.toNat default).map e_QRule).length : Int)), (25, .int .i64 0)]) (L := [((0, 0), .rows 1 (a1.map e_i64)), ((3, 0), .rows 1 (v10.map e_i64))]) (n := 4) ?_ ?_
    · exact simI (M := [((3, 0), (3, 0))]) rfl (AI (Vw.mslE rfl (by first | rfl | (simp; done) | (simp at *; omega)) rfl) (AI (Vw.mslE rfl (by first | rfl | (simp; done) | (simp at *; omega)) rfl) (AI (VS rfl) (AI (VS rfl) (AI (VS rfl) (AI (VS rfl) (AI (VS rfl) (AI (VS rfl) (AI (VS rfl) TT))))))))) (AI (AI rfl (BVw.enc e_i64 (fun _ => rfl) _ a1)) (AI (AI rfl (BVw.enc e_i64 (fun _ => rfl) _ v10)) TT))
    refine blockI ?_
    refine LWp.sim ?_ (f33b0_L12_ok h)
    exact simI (M := [((3, 0), (3, 0))]) rfl (AI (Vw.mslE rfl (by first | rfl | (simp; done) | (simp at *; omega)) rfl) (AI (Vw.mslE rfl (by first | rfl | (simp; done) | (simp at *; omega)) rfl) (AI (VS rfl) (AI (VS rfl) (AI (VS rfl) (AI (VS rfl) (AI (VS rfl) (AI (VS rfl) (AI (VS rfl) TT))))))))) (AI (AI rfl (BVw.enc e_i64 (fun _ => rfl) _ a1)) (AI (AI rfl (BVw.enc e_i64 (fun _ => rfl) _ v10)) TT))
  · have h := ite_ff h114 h
    refine exitI ?_
    obtain ⟨o, hq, rfl⟩ := Option.map_eq_some_iff.1 h
    replace h := hq; clear hq
    refine AI nofun ?_
    refine LWp.sim ?_ (f33b0_j22_ok h)
    exact simI (M := [((3, 0), (3, 0))]) rfl (AI (Vw.mslE rfl (by first | rfl | (simp; done) | (simp at *; omega)) rfl) TT) (AI (AI rfl (BVw.enc e_i64 (fun _ => rfl) _ a1)) (AI (AI rfl (BVw.enc e_i64 (fun _ => rfl) _ v10)) TT))

theorem f33b0_L9_ok {a0 : List (List G_QRule)} {a1 : List Int} {v9 : Int} {v10 : List Int} {m : Option Nat} {o : (List Int)} (h : S_glossatorref3_Round_l9 m a0 a1 v9 v10 = some o) :
    LWp Try.prog f33b0_lay 3 (.loop f33b0_c6) (QBlock 0 (QSeq Try.prog f33b0_lay 3 f33b0_c5 (f33b0_Q a0 a1 o))) [(1, .msl (0, 0) 1 0 a1.length true), (5, .msl (3, 0) 1 0 v10.length true), (16, .isl 1 (a0.map eB) false), (17, .int .i64 ((a0.map eB).length : Int)), (18, .int .i64 v9)] [((0, 0), .rows 1 (a1.map e_i64)), ((3, 0), .rows 1 (v10.map e_i64))] 4 :=
  LWp_loopM (m := m) (s := ((v9, v10) : (Int × (List Int)))) (r := o) (fun (s : (Int × (List Int))) => S_glossatorref3_Round_b9 m a0 a1 s.1 s.2) (f33b0_L9_env a0 a1) (f33b0_L9_hp a0 a1) (f33b0_L9_Q a0 a1) (fun s o h => f33b0_L9_bok h) h

noncomputable def S_glossatorref3_Round (m : Option Nat) (a0 : List (List G_QRule)) (a1 : List Int) : Option (List Int) :=
  if (0 : Int) ≤ ((a0.map eB).length : Int) ∧ ((a0.map eB).length : Int) ≤ ((a0.map eB).length : Int) ∧ ((a0.map eB).length : Int) * 8 ≤ 140737488355328 then
  S_glossatorref3_Round_l9 m a0 a1 0 (List.replicate ((a0.map eB).length : Int).toNat 0)
  else none

theorem f33b0_start {a0 : List (List G_QRule)} {a1 : List Int} {m : Option Nat} {o : (List Int)} (h : S_glossatorref3_Round m a0 a1 = some o) : LWp Try.prog f33b0_lay 3 f33b0_c7 (f33b0_Q a0 a1 o) (initEnv 0 [.isl 1 (a0.map eB) false, .msl (0, 0) 1 0 a1.length true]) [((0, 0), .rows 1 (a1.map e_i64))] 3 := by
  unfold S_glossatorref3_Round at h
  refine seqI ?_
  refine LWp.ghost (b := (0, 0)) 1 rfl rfl ?_
  refine regI ?_
  refine LWp.sim (e := [(0, .isl 1 (a0.map eB) false), (1, .msl (0, 0) 1 0 a1.length true)]) (L := [((0, 0), .rows 1 (a1.map e_i64))]) (n := 3) ?_ ?_
  · exact simI (M := []) rfl (AI (VS rfl) (AI (Vw.mslE rfl (by first | rfl | (simp; done) | (simp at *; omega)) rfl) TT)) (AI (AI rfl (BVw.enc e_i64 (fun _ => rfl) _ a1)) TT)
  refine seqI ?_
  refine regI ?_
  obtain ⟨h1, h⟩ := ite_some h
  refine EX ((List.replicate ((a0.map eB).length : Int).toNat 0).map e_i64) (EX true (AI (Or.inl (repl_enc e_i64 ((a0.map eB).length : Int).toNat 0)) (AI (by simp) (AI h1 ?_))))
  refine seqI ?_
  refine seqI ?_
  refine regI ?_
  refine blockI ?_
  refine LWp.sim ?_ (f33b0_L9_ok h)
  exact simI (M := [((3, 0), (3, 0))]) rfl (AI (Vw.mslE rfl (by first | rfl | (simp; done) | (simp at *; omega)) rfl) (AI (Vw.mslE rfl (by first | rfl | (simp; done) | (simp at *; omega)) rfl) (AI (VS rfl) (AI (VS rfl) (AI (VS rfl) TT))))) (AI (AI rfl (BVw.enc e_i64 (fun _ => rfl) _ a1)) (AI (AI rfl (BVw.enc e_i64 (fun _ => rfl) _ (List.replicate ((a0.map eB).length : Int).toNat 0))) TT))

theorem f33b0_ok {a0 : List (List G_QRule)} {a1 : List Int} {m : Option Nat} {o : (List Int)} (h : S_glossatorref3_Round m a0 a1 = some o) : ACalls Try.prog 33 [.isl 1 (a0.map eB) false, .msl (0, 0) 1 0 a1.length true] [((0, 0), .rows 1 (a1.map e_i64))] 3 (Gives 4 (.msl (3, 0) 1 0 o.length true) [((0, 0), .rows 1 (a1.map e_i64)), ((3, 0), .rows 1 (o.map e_i64))]) := bfn_of (L := f33b0_L) f33b0_low f33b0_fok (NB rfl) (f33b0_start h)

def f11_c0 : LCode := (.seq (.block 1
  (.seq (.region [⟨some 12, .mv (.t 0), none⟩,
    ⟨some 13, .mv (.t 4), none⟩,
    ⟨some 14, .call 33 [(.t 12), (.t 13)], none⟩,
    ⟨some 6, .mv (.t 14), none⟩])
  (.seq (.seq (.region [⟨some 15, .mv (.t 6), none⟩,
    ⟨some 16, .mv (.t 4), none⟩,
    ⟨some 17, .call 12 [(.t 15), (.t 16)], none⟩])
  (.cond (.t 17)
   (.seq (.region [⟨some 18, .mv (.t 4), none⟩,
     ⟨some 19, .mv (.t 5), none⟩,
     ⟨some 2, .mv (.t 18), none⟩,
     ⟨some 3, .mv (.t 19), none⟩])
   .ret)
   .skip))
  (.region [⟨some 20, .mv (.t 6), none⟩,
    ⟨some 4, .mv (.t 20), none⟩]))))
 (.region [⟨some 10, .mv (.t 5), none⟩,
   ⟨some 11, .bin .add (.t 10) (.c (.int .i64 1)), none⟩,
   ⟨some 5, .mv (.t 11), none⟩]))
def f11_c1 : LCode := (.seq (.region [⟨some 2, .mv (.c (.val (.slice none 0 0))), none⟩,
   ⟨some 3, .mv (.c (.int .i64 0)), none⟩])
 (.seq (.region [⟨some 7, .mv (.t 0), none⟩,
   ⟨some 8, .len false (.t 7), none⟩,
   ⟨some 9, .mkslice false 1 8 [(.int .i64 0)] (.t 8) (.t 8), none⟩,
   ⟨some 4, .mv (.t 9), none⟩])
 (.seq (.region [⟨some 5, .mv (.c (.int .i64 0)), none⟩])
 (.block 0
  (.loop
   f11_c0)))))
def f11_lay : Lay := ⟨21, [9], false⟩
def f11_res : List LRes := [.t 2, .t 3]
def f11_L : LFn := ⟨1, f11_lay, f11_c1, f11_res⟩
theorem f11_low : lowFn Try.prog [9] 11 = some f11_L := by kernel_rfl
theorem f11_fok : FnOk Try.prog 11 := ⟨_, Try.func11, rfl, rfl⟩
def f11_Q (a0 : List (List G_QRule)) (o : (List Int) × Int) : Exit → Env → AHeap → Nat → Prop := FinK f11_res (PureEnd (.tup [.isl 1 (o.1.map e_i64) false, .int .i64 o.2]))

def f11_L1_env (a0 : List (List G_QRule)) (s : (Int × (List Int))) : Env := [(0, .isl 1 (a0.map eB) false), (4, .msl (0, 0) 1 0 s.2.length true), (5, .int .i64 s.1)]
def f11_L1_hp (a0 : List (List G_QRule)) (s : (Int × (List Int))) : AHeap := [((0, 0), .rows 1 (s.2.map e_i64))]
def f11_L1_Q (a0 : List (List G_QRule)) (o : ((List Int) × Int)) : Exit → Env → AHeap → Nat → Prop := (QBlock 0 (f11_Q a0 o))

noncomputable def S_glossatorref3_Kleene_b1 (m : Option Nat) (a0 : List (List G_QRule)) (v3 : Int) (v4 : List Int) : Option ((Int × (List Int)) ⊕ ((List Int) × Int)) :=
  (S_glossatorref3_Round m a0 v4).bind fun v7 =>
  (S_glossatorref3_Equal_int m v7 v4).bind fun v8 =>
  if v8 = true then
    Option.map Sum.inr (
      some (v4, v3))
  else
    some (.inl ((W (v3 + 1)), v7))

noncomputable def S_glossatorref3_Kleene_l1 (m : Option Nat) (a0 : List (List G_QRule)) (v3 : Int) (v4 : List Int) : Option ((List Int) × Int) := loopM m (fun (s : (Int × (List Int))) => S_glossatorref3_Kleene_b1 m a0 s.1 s.2) (v3, v4)

theorem f11_L1_bok {a0 : List (List G_QRule)} {v3 : Int} {v4 : List Int} {m : Option Nat} {o : (Int × (List Int)) ⊕ ((List Int) × Int)} (h : S_glossatorref3_Kleene_b1 m a0 v3 v4 = some o) :
    LWp Try.prog f11_lay 0 f11_c0 (BodyQ 0 1 (f11_L1_env a0) (f11_L1_hp a0) (f11_L1_Q a0) o) [(0, .isl 1 (a0.map eB) false), (4, .msl (0, 0) 1 0 v4.length true), (5, .int .i64 v3)] [((0, 0), .rows 1 (v4.map e_i64))] 1 := by
  unfold S_glossatorref3_Kleene_b1 at h
  refine seqI ?_
  refine blockI ?_
  refine seqI ?_
  refine regI ?_
  obtain ⟨v7, h8, h⟩ := bind_some h
  refine bcall (k := 3) (m := 1) (L' := [((0, 0), .rows 1 (v4.map e_i64)), ((1, 0), .rows 1 (v7.map e_i64))]) (rest := []) (R' := .msl (1, 0) 1 0 v7.length true) [((0, 0), (0, 0))] (f33b0_ok h8) rfl rfl rfl (AI (VS rfl) (AI (Vw.mslE rfl (by first | rfl | (simp; done) | (simp at *; omega)) rfl) TT)) (AI (h0I (0, 0) rfl rfl (BVw.enc e_i64 (fun _ => rfl) _ v4)) TT) rfl (AI rfl (AI (rows_ren e_i64 (fun _ => rfl) _ _) (AI rfl (AI (rows_ren e_i64 (fun _ => rfl) _ _) TT)))) rfl ?_
  refine seqI ?_
  refine seqI ?_
  refine regI ?_
  obtain ⟨v8, h9, h⟩ := bind_some h
  refine PFn.readB [(1, 0), (0, 0)] (f12_ok h9) rfl (AI (Vw.frzB e_i64 e_i64_ok (fun h => Bool.noConfusion h) rfl rfl (by first | rfl | (simp; done) | (simp at *; omega))) (AI (Vw.frzB e_i64 e_i64_ok (fun h => Bool.noConfusion h) rfl rfl (by first | rfl | (simp; done) | (simp at *; omega))) TT)) ?_
  refine condI (v := v8) rfl TT (fun h10 => ?_) (fun h10 => ?_)
  · have h := ite_tt h10 h
    refine seqI ?_
    refine regI ?_
    refine LWp.sim (e := [(2, .msl (0, 0) 1 0 v4.length true), (3, .int .i64 v3)]) (L := [((0, 0), .rows 1 (v4.map e_i64))]) (n := 1) ?_ ?_
    · exact simI (M := [((0, 0), (0, 0))]) rfl (AI (Vw.mslE rfl (by first | rfl | (simp; done) | (simp at *; omega)) rfl) (AI (VS rfl) TT)) (AI (AI rfl (BVw.enc e_i64 (fun _ => rfl) _ v4)) TT)
    refine retI ?_
    obtain ⟨o, hq, rfl⟩ := Option.map_eq_some_iff.1 h
    replace h := hq; clear hq
    refine AI nofun ?_
    cases h
    exact AI TT (AI TT (AI rfl (Vw.tupL (AI (Vw.frzB e_i64 e_i64_ok (fun h => Bool.noConfusion h) rfl rfl (by first | rfl | (simp; done) | (simp at *; omega))) (AI (VS rfl) TT)))))
  · have h := ite_ff h10 h
    refine skipI ?_
    refine regI ?_
    refine LWp.sim (e := [(0, .isl 1 (a0.map eB) false), (4, .msl (0, 0) 1 0 v7.length true), (5, .int .i64 v3)]) (L := [((0, 0), .rows 1 (v7.map e_i64))]) (n := 1) ?_ ?_
    · exact simI (M := [((0, 0), (1, 0))]) rfl (AI (VS rfl) (AI (Vw.mslE rfl (by first | rfl | (simp; done) | (simp at *; omega)) rfl) (AI (VS rfl) TT))) (AI (AI rfl (BVw.enc e_i64 (fun _ => rfl) _ v7)) TT)
    refine regI ?_
    cases h
    exact AI rfl (simI (M := [((0, 0), (0, 0))]) rfl (AI (VS rfl) (AI (Vw.mslE rfl (by first | rfl | (simp; done) | (simp at *; omega)) rfl) (AI (VS rfl) TT))) (AI (AI rfl (BVw.enc e_i64 (fun _ => rfl) _ v7)) TT))

theorem f11_L1_ok {a0 : List (List G_QRule)} {v3 : Int} {v4 : List Int} {m : Option Nat} {o : ((List Int) × Int)} (h : S_glossatorref3_Kleene_l1 m a0 v3 v4 = some o) :
    LWp Try.prog f11_lay 0 (.loop f11_c0) (QBlock 0 (f11_Q a0 o)) [(0, .isl 1 (a0.map eB) false), (4, .msl (0, 0) 1 0 v4.length true), (5, .int .i64 v3)] [((0, 0), .rows 1 (v4.map e_i64))] 1 :=
  LWp_loopM (m := m) (s := ((v3, v4) : (Int × (List Int)))) (r := o) (fun (s : (Int × (List Int))) => S_glossatorref3_Kleene_b1 m a0 s.1 s.2) (f11_L1_env a0) (f11_L1_hp a0) (f11_L1_Q a0) (fun s o h => f11_L1_bok h) h

noncomputable def S_glossatorref3_Kleene (m : Option Nat) (a0 : List (List G_QRule)) : Option ((List Int) × Int) :=
  if (0 : Int) ≤ ((a0.map eB).length : Int) ∧ ((a0.map eB).length : Int) ≤ ((a0.map eB).length : Int) ∧ ((a0.map eB).length : Int) * 8 ≤ 140737488355328 then
  S_glossatorref3_Kleene_l1 m a0 0 (List.replicate ((a0.map eB).length : Int).toNat 0)
  else none

theorem f11_start {a0 : List (List G_QRule)} {m : Option Nat} {o : (List Int) × Int} (h : S_glossatorref3_Kleene m a0 = some o) : LWp Try.prog f11_lay 0 f11_c1 (f11_Q a0 o) (initEnv 0 [.isl 1 (a0.map eB) false]) [] 0 := by
  unfold S_glossatorref3_Kleene at h
  refine seqI ?_
  refine regI ?_
  refine seqI ?_
  refine regI ?_
  obtain ⟨h1, h⟩ := ite_some h
  refine EX ((List.replicate ((a0.map eB).length : Int).toNat 0).map e_i64) (EX true (AI (Or.inl (repl_enc e_i64 ((a0.map eB).length : Int).toNat 0)) (AI (by simp) (AI h1 ?_))))
  refine seqI ?_
  refine regI ?_
  refine blockI ?_
  refine LWp.sim ?_ (f11_L1_ok h)
  exact simI (M := [((0, 0), (0, 0))]) rfl (AI (VS rfl) (AI (Vw.mslE rfl (by first | rfl | (simp; done) | (simp at *; omega)) rfl) (AI (VS rfl) TT))) (AI (AI rfl (BVw.enc e_i64 (fun _ => rfl) _ (List.replicate ((a0.map eB).length : Int).toNat 0))) TT)

theorem f11_ok {a0 : List (List G_QRule)} {m : Option Nat} {o : (List Int) × Int} (h : S_glossatorref3_Kleene m a0 = some o) : PFn Try.prog 11 [.isl 1 (a0.map eB) false] (.tup [.isl 1 (o.1.map e_i64) false, .int .i64 o.2]) := PFn.ofFnW (L := f11_L) f11_low f11_fok (NB rfl) rfl (f11_start h)

def f5_c0 : LCode := (.seq (.seq (.region [⟨some 73, .mv (.t 11), none⟩,
   ⟨some 74, .bin .neq (.t 73) (.c (.int .i64 0)), none⟩])
 (.cond (.t 74)
  (.seq (.region [⟨some 75, .call 6 [], none⟩,
    ⟨some 76, .mv (.t 75), none⟩,
    ⟨some 77, .mv (.t 10), some (76, true)⟩,
    ⟨some 78, .mv (.t 11), some (76, true)⟩,
    ⟨some 79, .bin .eql (.t 77) (.t 78), some (76, true)⟩,
    ⟨some 80, .pick (.t 76) (.t 79) (.c (.bool false)), none⟩,
    ⟨some 81, .mv (.t 80), none⟩,
    ⟨some 82, .mv (.t 9), some (81, true)⟩,
    ⟨some 83, .len false (.t 82), some (81, true)⟩,
    ⟨some 84, .bin .eql (.t 83) (.c (.int .i64 0)), some (81, true)⟩,
    ⟨some 85, .pick (.t 81) (.t 84) (.c (.bool false)), none⟩,
    ⟨some 8, .mv (.t 85), none⟩])
  .ret)
  .skip))
 (.seq (.region [⟨some 86, .call 6 [], none⟩,
   ⟨some 87, .mv (.t 86), none⟩,
   ⟨some 88, .mv (.t 10), some (87, true)⟩,
   ⟨some 89, .bin .eql (.t 88) (.c (.int .i64 0)), some (87, true)⟩,
   ⟨some 90, .pick (.t 87) (.t 89) (.c (.bool false)), none⟩,
   ⟨some 91, .mv (.t 90), none⟩,
   ⟨some 92, .mv (.t 9), some (91, true)⟩,
   ⟨some 93, .len false (.t 92), some (91, true)⟩,
   ⟨some 94, .mv (.t 0), some (91, true)⟩,
   ⟨some 95, .len false (.t 94), some (91, true)⟩,
   ⟨some 96, .bin .leq (.t 93) (.t 95), some (91, true)⟩,
   ⟨some 97, .pick (.t 91) (.t 96) (.c (.bool false)), none⟩,
   ⟨some 98, .mv (.t 97), none⟩,
   ⟨some 99, .mv (.t 0), some (98, true)⟩,
   ⟨some 100, .mv (.t 9), some (98, true)⟩,
   ⟨some 101, .mv (.t 1), some (98, true)⟩,
   ⟨some 102, .mv (.t 2), some (98, true)⟩,
   ⟨some 103, .call 23 [(.t 99), (.t 100), (.t 101), (.t 102)], some (98, true)⟩,
   ⟨some 104, .pick (.t 98) (.t 103) (.c (.bool false)), none⟩,
   ⟨some 8, .mv (.t 104), none⟩])
 .ret))
def f5_c1 : LCode := (.seq (.region [⟨some 8, .mv (.c (.bool false)), none⟩])
 (.seq (.seq (.region [⟨some 15, .call 6 [], none⟩,
   ⟨some 16, .un .not (.t 15), none⟩])
 (.cond (.t 16)
  (.seq (.region [⟨some 8, .mv (.c (.bool false)), none⟩])
  .ret)
  .skip))
 (.seq (.region [⟨some 18, .mv (.t 0), none⟩,
   ⟨some 19, .mv (.t 1), none⟩,
   ⟨some 20, .mv (.t 2), none⟩,
   ⟨some 21, .call 22 [(.t 18), (.t 19), (.t 20)], none⟩,
   ⟨some 17, .mv (.t 21), none⟩,
   ⟨some 22, .ext 0 (.t 17), none⟩,
   ⟨some 23, .ext 1 (.t 17), none⟩,
   ⟨some 9, .mv (.t 22), none⟩,
   ⟨some 10, .mv (.t 23), none⟩])
 (.seq (.region [⟨some 24, .mv (.t 0), none⟩,
   ⟨some 25, .call 9 [(.t 24)], none⟩,
   ⟨some 11, .mv (.t 25), none⟩])
 (.seq (.region [⟨some 26, .mv (.t 11), none⟩,
   ⟨some 27, .bin .eql (.t 26) (.c (.int .i64 0)), none⟩,
   ⟨some 28, .mv (.t 27), none⟩,
   ⟨some 29, .mv (.t 0), some (28, true)⟩,
   ⟨some 30, .mv (.t 3), some (28, true)⟩,
   ⟨some 31, .mv (.t 1), some (28, true)⟩,
   ⟨some 32, .mv (.t 2), some (28, true)⟩,
   ⟨some 33, .call 23 [(.t 29), (.t 30), (.t 31), (.t 32)], some (28, true)⟩,
   ⟨some 34, .pick (.t 28) (.t 33) (.c (.bool false)), none⟩,
   ⟨some 12, .mv (.t 34), none⟩])
 (.seq (.seq (.region [⟨some 35, .mv (.t 0), none⟩,
   ⟨some 36, .mv (.t 3), none⟩,
   ⟨some 37, .mv (.t 1), none⟩,
   ⟨some 38, .mv (.t 2), none⟩,
   ⟨some 39, .call 24 [(.t 35), (.t 36), (.t 37), (.t 38)], none⟩,
   ⟨some 40, .mv (.t 12), none⟩,
   ⟨some 41, .eq true .bool (.t 39) (.t 40), none⟩])
 (.cond (.t 41)
  (.seq (.region [⟨some 8, .mv (.c (.bool false)), none⟩])
  .ret)
  .skip))
 (.seq (.seq (.region [⟨some 42, .mv (.t 11), none⟩,
   ⟨some 43, .bin .eql (.t 42) (.c (.int .i64 0)), none⟩])
 (.cond (.t 43)
  (.seq (.region [⟨some 44, .mv (.t 1), none⟩,
    ⟨some 45, .bin .lss (.t 44) (.c (.int .i64 0)), none⟩,
    ⟨some 46, .mv (.t 45), none⟩,
    ⟨some 47, .mv (.t 1), some (46, false)⟩,
    ⟨some 48, .mv (.t 0), some (46, false)⟩,
    ⟨some 49, .len false (.t 48), some (46, false)⟩,
    ⟨some 50, .bin .geq (.t 47) (.t 49), some (46, false)⟩,
    ⟨some 51, .pick (.t 46) (.c (.bool true)) (.t 50), none⟩,
    ⟨some 52, .mv (.t 51), none⟩,
    ⟨some 53, .mv (.t 2), some (52, false)⟩,
    ⟨some 54, .bin .lss (.t 53) (.c (.int .i64 0)), some (52, false)⟩,
    ⟨some 55, .pick (.t 52) (.c (.bool true)) (.t 54), none⟩,
    ⟨some 56, .mv (.t 55), none⟩,
    ⟨some 57, .mv (.t 2), some (56, false)⟩,
    ⟨some 58, .bin .geq (.t 57) (.c (.int .i64 20)), some (56, false)⟩,
    ⟨some 59, .pick (.t 56) (.c (.bool true)) (.t 58), none⟩])
  (.cond (.t 59)
   (.region [⟨some 11, .mv (.c (.int .i64 1)), none⟩])
   (.seq (.region [⟨some 61, .mv (.t 0), none⟩,
     ⟨some 62, .call 11 [(.t 61)], none⟩,
     ⟨some 60, .mv (.t 62), none⟩,
     ⟨some 63, .ext 0 (.t 60), none⟩,
     ⟨some 64, .ext 1 (.t 60), none⟩,
     ⟨some 13, .mv (.t 63), none⟩,
     ⟨some 14, .mv (.t 64), none⟩])
   (.seq (.quiet [⟨some 65, .mv (.t 13), none⟩,
     ⟨some 66, .mv (.t 1), none⟩,
     ⟨some 67, .iaddr 1 (.t 65) (.t 66), none⟩,
     ⟨some 68, .load false 1 (.t 67), none⟩,
     ⟨some 69, .mv (.t 2), none⟩,
     ⟨some 70, .bin .shl (.c (.int .i64 1)) (.t 69), none⟩,
     ⟨some 71, .bin .and (.t 68) (.t 70), none⟩,
     ⟨some 72, .bin .eql (.t 71) (.c (.int .i64 0)), none⟩])
   (.cond (.t 72)
    (.region [⟨some 11, .mv (.c (.int .i64 5)), none⟩])
    .skip)))))
  .skip))
 f5_c0)))))))
def f5_lay : Lay := ⟨105, [], false⟩
def f5_res : List LRes := [.t 8]
def f5_L : LFn := ⟨4, f5_lay, f5_c1, f5_res⟩
theorem f5_low : lowFn Try.prog [] 5 = some f5_L := by kernel_rfl
theorem f5_fok : FnOk Try.prog 5 := ⟨_, Try.func5, rfl, rfl⟩
noncomputable def S_glossatorlaw3_FixpointProofs_j1 (m : Option Nat) (a0 : List (List G_QRule)) (a1 : Int) (a2 : Int) (v2 : (List G_QDerivation) × Int) (v7 : Int) : Option Bool :=
  if (v7 != 0) = true then
    (S_glossatorlaw3_ruleExample (some 4096)).bind fun v8 =>
    some ((v8 && (v2.2 == v7)) && (((v2.1.map eD).length : Int) == 0))
  else
    (S_glossatorlaw3_ruleExample (some 4096)).bind fun v9 =>
    (if (((v9 && (v2.2 == 0)) && (decide (((v2.1.map eD).length : Int) ≤ ((a0.map eB).length : Int)))) == true) = true then S_glossatorref3_Proves m a0 v2.1 a1 a2 else some default).bind fun v10 =>
    some (((v9 && (v2.2 == 0)) && (decide (((v2.1.map eD).length : Int) ≤ ((a0.map eB).length : Int)))) && v10)

def f5_Q (a0 : List (List G_QRule)) (a1 : Int) (a2 : Int) (a3 : List G_QDerivation) (o : Bool) : Exit → Env → AHeap → Nat → Prop := FinK f5_res (PureEnd (.bool o))

theorem f5_j1_ok {a3 : List G_QDerivation} {a0 : List (List G_QRule)} {a1 : Int} {a2 : Int} {v2 : (List G_QDerivation) × Int} {v7 : Int} {m : Option Nat} {o : Bool} (h : S_glossatorlaw3_FixpointProofs_j1 m a0 a1 a2 v2 v7 = some o) :
    LWp Try.prog f5_lay 0 f5_c0 (f5_Q a0 a1 a2 a3 o) [(0, .isl 1 (a0.map eB) false), (1, .int .i64 a1), (2, .int .i64 a2), (9, .isl 3 (v2.1.map eD) false), (10, .int .i64 v2.2), (11, .int .i64 v7)] [] 0 := by
  unfold S_glossatorlaw3_FixpointProofs_j1 at h
  refine seqI ?_
  refine seqI ?_
  refine regI ?_
  refine condI (v := (v7 != 0)) rfl TT (fun h14 => ?_) (fun h14 => ?_)
  · have h := ite_tt h14 h
    refine seqI ?_
    refine regI ?_
    obtain ⟨v8, h15, h⟩ := bind_some h
    refine PFn.call (f6_ok h15) TT ?_
    refine AI (fun hp => (AI hp hp)) ?_
    refine AI (fun hc => (bqt hc)) ?_
    refine AI (fun hp => hp) ?_
    refine AI (fun hp => hp) ?_
    refine AI (fun hc => (bqt hc)) ?_
    refine LWp.sim (e := [(8, .bool ((v8 && (v2.2 == v7)) && (((v2.1.map eD).length : Int) == 0)))]) (L := []) (n := 0) ?_ ?_
    · exact simI (M := []) rfl (AI (VS rfl) TT) TT
    refine retI ?_
    cases h
    exact AI TT (AI rfl (VS rfl))
  · have h := ite_ff h14 h
    refine skipI ?_
    refine seqI ?_
    refine regI ?_
    obtain ⟨v9, h16, h⟩ := bind_some h
    refine PFn.call (f6_ok h16) TT ?_
    refine AI (fun hp => hp) ?_
    refine AI (fun hc => (bqt hc)) ?_
    refine AI (fun hp => hp) ?_
    refine AI (fun hp => hp) ?_
    refine AI (fun hp => (AI hp hp)) ?_
    refine AI (fun hc => (bqt hc)) ?_
    obtain ⟨v10, h17, h⟩ := bind_some h
    refine Or.inl (EX (.bool v10) (AI (fun hp => AI (AI hp (AI hp (AI hp hp))) (PFn.call (f23_ok (ite_tt hp h17)) (AI (VS rfl) (AI (VS rfl) (AI (VS rfl) (AI (VS rfl) TT)))) (AI rfl (AI rfl rfl)))) ?_))
    refine AI (fun hc => (bqt hc)) ?_
    refine LWp.sim (e := [(8, .bool (((v9 && (v2.2 == 0)) && (decide (((v2.1.map eD).length : Int) ≤ ((a0.map eB).length : Int)))) && v10))]) (L := []) (n := 0) ?_ ?_
    · exact simI (M := []) rfl (AI (VS rfl) TT) TT
    refine retI ?_
    cases h
    exact AI TT (AI rfl (VS rfl))

noncomputable def S_glossatorlaw3_FixpointProofs (m : Option Nat) (a0 : List (List G_QRule)) (a1 : Int) (a2 : Int) (a3 : List G_QDerivation) : Option Bool :=
  (S_glossatorlaw3_ruleExample (some 4096)).bind fun v1 =>
  if (!v1) = true then
    some false
  else
    (S_fixpoint_Derive m a0 a1 a2).bind fun v2 =>
    (S_glossatorref3_CheckRules m a0).bind fun v3 =>
    (if ((v3 == 0) == true) = true then S_glossatorref3_Proves m a0 a3 a1 a2 else some default).bind fun v4 =>
    (S_fixpoint_Verify m a0 a3 a1 a2).bind fun v5 =>
    if (!(v5 == ((v3 == 0) && v4))) = true then
      some false
    else
      if (v3 == 0) = true then
        if ((((decide (a1 < 0)) || (decide (a1 ≥ ((a0.map eB).length : Int)))) || (decide (a2 < 0))) || (decide (a2 ≥ 20))) = true then
          S_glossatorlaw3_FixpointProofs_j1 m a0 a1 a2 v2 1
        else
          (S_glossatorref3_Kleene m a0).bind fun v6 =>
          if (0 : Int) ≤ a1 ∧ a1 < ((v6.1.map e_i64).length : Int) then
          if (0 : Int) ≤ a2 then
          if ((ibits .and .i64 (v6.1.getD a1.toNat default) (W (1 * 2 ^ (min a2.toNat (IntKind.bits .i64))))) == 0) = true then
            S_glossatorlaw3_FixpointProofs_j1 m a0 a1 a2 v2 5
          else
            S_glossatorlaw3_FixpointProofs_j1 m a0 a1 a2 v2 v3
          else none
          else none
      else
        S_glossatorlaw3_FixpointProofs_j1 m a0 a1 a2 v2 v3

theorem f5_start {a0 : List (List G_QRule)} {a1 : Int} {a2 : Int} {a3 : List G_QDerivation} {m : Option Nat} {o : Bool} (h : S_glossatorlaw3_FixpointProofs m a0 a1 a2 a3 = some o) : LWp Try.prog f5_lay 0 f5_c1 (f5_Q a0 a1 a2 a3 o) (initEnv 0 [.isl 1 (a0.map eB) false, .int .i64 a1, .int .i64 a2, .isl 3 (a3.map eD) false]) [] 0 := by
  unfold S_glossatorlaw3_FixpointProofs at h
  refine seqI ?_
  refine regI ?_
  refine seqI ?_
  refine seqI ?_
  refine regI ?_
  obtain ⟨v1, h1, h⟩ := bind_some h
  refine PFn.call (f6_ok h1) TT ?_
  refine condI (v := (!v1)) rfl TT (fun h2 => ?_) (fun h2 => ?_)
  · have h := ite_tt h2 h
    refine seqI ?_
    refine regI ?_
    refine retI ?_
    cases h
    exact AI TT (AI rfl (VS rfl))
  · have h := ite_ff h2 h
    refine skipI ?_
    refine seqI ?_
    refine regI ?_
    obtain ⟨v2, h3, h⟩ := bind_some h
    refine PFn.call (f22_ok h3) (AI (VS rfl) (AI (VS rfl) (AI (VS rfl) TT))) ?_
    refine LWp.sim (e := [(0, .isl 1 (a0.map eB) false), (1, .int .i64 a1), (2, .int .i64 a2), (3, .isl 3 (a3.map eD) false), (9, .isl 3 (v2.1.map eD) false), (10, .int .i64 v2.2)]) (L := []) (n := 0) ?_ ?_
    · exact simI (M := []) rfl (AI (VS rfl) (AI (VS rfl) (AI (VS rfl) (AI (VS rfl) (AI (VS rfl) (AI (VS rfl) TT)))))) TT
    refine seqI ?_
    refine regI ?_
    obtain ⟨v3, h4, h⟩ := bind_some h
    refine PFn.call (f9_ok h4) (AI (VS rfl) TT) ?_
    refine seqI ?_
    refine regI ?_
    obtain ⟨v4, h5, h⟩ := bind_some h
    refine Or.inl (EX (.bool v4) (AI (fun hp => AI (AI hp (AI hp (AI hp hp))) (PFn.call (f23_ok (ite_tt hp h5)) (AI (VS rfl) (AI (VS rfl) (AI (VS rfl) (AI (VS rfl) TT)))) (AI rfl (AI rfl rfl)))) ?_))
    refine AI (fun hc => (bqt hc)) ?_
    refine LWp.sim (e := [(0, .isl 1 (a0.map eB) false), (1, .int .i64 a1), (2, .int .i64 a2), (3, .isl 3 (a3.map eD) false), (9, .isl 3 (v2.1.map eD) false), (10, .int .i64 v2.2), (11, .int .i64 v3), (12, .bool ((v3 == 0) && v4))]) (L := []) (n := 0) ?_ ?_
    · exact simI (M := []) rfl (AI (VS rfl) (AI (VS rfl) (AI (VS rfl) (AI (VS rfl) (AI (VS rfl) (AI (VS rfl) (AI (VS rfl) (AI (VS rfl) TT)))))))) TT
    refine seqI ?_
    refine seqI ?_
    refine regI ?_
    obtain ⟨v5, h6, h⟩ := bind_some h
    refine PFn.call (f24_ok h6) (AI (VS rfl) (AI (VS rfl) (AI (VS rfl) (AI (VS rfl) TT)))) ?_
    refine condI (v := (!(v5 == ((v3 == 0) && v4)))) rfl TT (fun h7 => ?_) (fun h7 => ?_)
    · have h := ite_tt h7 h
      refine seqI ?_
      refine regI ?_
      refine LWp.sim (e := [(8, .bool false)]) (L := []) (n := 0) ?_ ?_
      · exact simI (M := []) rfl (AI (VS rfl) TT) TT
      refine retI ?_
      cases h
      exact AI TT (AI rfl (VS rfl))
    · have h := ite_ff h7 h
      refine skipI ?_
      refine seqI ?_
      refine seqI ?_
      refine regI ?_
      refine LWp.sim (e := [(0, .isl 1 (a0.map eB) false), (1, .int .i64 a1), (2, .int .i64 a2), (9, .isl 3 (v2.1.map eD) false), (10, .int .i64 v2.2), (11, .int .i64 v3), (43, .bool (v3 == 0))]) (L := []) (n := 0) ?_ ?_
      · exact simI (M := []) rfl (AI (VS rfl) (AI (VS rfl) (AI (VS rfl) (AI (VS rfl) (AI (VS rfl) (AI (VS rfl) (AI (VS rfl) TT))))))) TT
      refine condI (v := (v3 == 0)) rfl TT (fun h8 => ?_) (fun h8 => ?_)
      · have h := ite_tt h8 h
        refine seqI ?_
        refine regI ?_
        refine AI (fun hp => hp) ?_
        refine AI (fun hp => (AI hp hp)) ?_
        refine AI (fun hc => (bqf hc)) ?_
        refine AI (fun hp => hp) ?_
        refine AI (fun hc => (bqf hc)) ?_
        refine AI (fun hp => hp) ?_
        refine AI (fun hc => (bqf hc)) ?_
        refine LWp.sim (e := [(0, .isl 1 (a0.map eB) false), (1, .int .i64 a1), (2, .int .i64 a2), (9, .isl 3 (v2.1.map eD) false), (10, .int .i64 v2.2), (11, .int .i64 v3), (59, .bool ((((decide (a1 < 0)) || (decide (a1 ≥ ((a0.map eB).length : Int)))) || (decide (a2 < 0))) || (decide (a2 ≥ 20))))]) (L := []) (n := 0) ?_ ?_
        · exact simI (M := []) rfl (AI (VS rfl) (AI (VS rfl) (AI (VS rfl) (AI (VS rfl) (AI (VS rfl) (AI (VS rfl) (AI (VS rfl) TT))))))) TT
        refine condI (v := ((((decide (a1 < 0)) || (decide (a1 ≥ ((a0.map eB).length : Int)))) || (decide (a2 < 0))) || (decide (a2 ≥ 20)))) rfl TT (fun h9 => ?_) (fun h9 => ?_)
        · have h := ite_tt h9 h
          refine regI ?_
          refine LWp.sim ?_ (f5_j1_ok h)
          exact simI (M := []) rfl (AI (VS rfl) (AI (VS rfl) (AI (VS rfl) (AI (VS rfl) (AI (VS rfl) (AI (VS rfl) TT)))))) TT
        · have h := ite_ff h9 h
          refine seqI ?_
          refine regI ?_
          obtain ⟨v6, h10, h⟩ := bind_some h
          refine PFn.call (f11_ok h10) (AI (VS rfl) TT) ?_
          refine seqI ?_
          refine quietI ?_
          obtain ⟨h11, h⟩ := ite_some h
          refine AI h11 ?_
          refine EX (e_i64 (v6.1.getD a1.toNat default)) (AI (getD_enc e_i64 _ _ (idx_ltL e_i64 h11)) (AI (AI (idx_lt h11) (NB rfl)) ?_))
          obtain ⟨h12, h⟩ := ite_some h
          refine AI h12 ?_
          refine LWp.sim (e := [(0, .isl 1 (a0.map eB) false), (1, .int .i64 a1), (2, .int .i64 a2), (9, .isl 3 (v2.1.map eD) false), (10, .int .i64 v2.2), (11, .int .i64 v3), (72, .bool ((ibits .and .i64 (v6.1.getD a1.toNat default) (W (1 * 2 ^ (min a2.toNat (IntKind.bits .i64))))) == 0))]) (L := []) (n := 0) ?_ ?_
          · exact simI (M := []) rfl (AI (VS rfl) (AI (VS rfl) (AI (VS rfl) (AI (VS rfl) (AI (VS rfl) (AI (VS rfl) (AI (VS rfl) TT))))))) TT
          refine condI (v := ((ibits .and .i64 (v6.1.getD a1.toNat default) (W (1 * 2 ^ (min a2.toNat (IntKind.bits .i64))))) == 0)) rfl TT (fun h13 => ?_) (fun h13 => ?_)
          · have h := ite_tt h13 h
            refine regI ?_
            refine LWp.sim ?_ (f5_j1_ok h)
            exact simI (M := []) rfl (AI (VS rfl) (AI (VS rfl) (AI (VS rfl) (AI (VS rfl) (AI (VS rfl) (AI (VS rfl) TT)))))) TT
          · have h := ite_ff h13 h
            refine skipI ?_
            refine LWp.sim ?_ (f5_j1_ok h)
            exact simI (M := []) rfl (AI (VS rfl) (AI (VS rfl) (AI (VS rfl) (AI (VS rfl) (AI (VS rfl) (AI (VS rfl) TT)))))) TT
      · have h := ite_ff h8 h
        refine skipI ?_
        refine LWp.sim ?_ (f5_j1_ok h)
        exact simI (M := []) rfl (AI (VS rfl) (AI (VS rfl) (AI (VS rfl) (AI (VS rfl) (AI (VS rfl) (AI (VS rfl) TT)))))) TT

theorem f5_ok {a0 : List (List G_QRule)} {a1 : Int} {a2 : Int} {a3 : List G_QDerivation} {m : Option Nat} {o : Bool} (h : S_glossatorlaw3_FixpointProofs m a0 a1 a2 a3 = some o) : PFn Try.prog 5 [.isl 1 (a0.map eB) false, .int .i64 a1, .int .i64 a2, .isl 3 (a3.map eD) false] (.bool o) := PFn.ofFnW (L := f5_L) f5_low f5_fok (NB rfl) rfl (f5_start h)
end Go.Proofs.Ytjcckmpeflflbaa
