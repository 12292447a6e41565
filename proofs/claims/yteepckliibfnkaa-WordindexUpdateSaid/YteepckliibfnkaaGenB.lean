/-
  Own text GenB of this claim: what functions of the given program compute, in plain Lean, and the proof; no condition.
-/
import Derived.Test.YteepckliibfnkaaGenA


namespace Go.Proofs.Yteepckliibfnkaa
open Go.Fx
set_option linter.unusedVariables false
def f8_c1 : LCode := (.seq (.region [⟨some 44, .bin .lss (.t 43) (.t 42), none⟩])
 (.seq (.cond (.t 44)
  .skip
  (.exit 2))
 (.seq (.block 3
  (.seq (.region [⟨some 45, .iaddr 3 (.t 41) (.t 43), none⟩,
    ⟨some 46, .load true 3 (.t 45), none⟩,
    ⟨some 9, .alloc [(.str []), (.int .i64 0), (.str [])], none⟩,
    ⟨none, .store 3 (.t 9) (.t 46), none⟩])
  (.region [⟨some 47, .mv (.t 5), none⟩,
    ⟨some 48, .mv (.t 47), none⟩,
    ⟨some 49, .faddr 0 (.t 9), some (48, false)⟩,
    ⟨some 50, .load false 1 (.t 49), some (48, false)⟩,
    ⟨some 51, .faddr 0 (.t 7), some (48, false)⟩,
    ⟨some 52, .load false 1 (.t 51), some (48, false)⟩,
    ⟨some 53, .bin .eql (.t 50) (.t 52), some (48, false)⟩,
    ⟨some 54, .pick (.t 48) (.c (.bool true)) (.t 53), none⟩,
    ⟨some 5, .mv (.t 54), none⟩])))
 (.region [⟨some 55, .bin .add (.t 43) (.c (.int .i64 1)), none⟩,
   ⟨some 43, .mv (.t 55), none⟩]))))
def f8_c0 : LCode := (.region [⟨some 56, .bin .add (.t 15) (.c (.int .i64 1)), none⟩,
   ⟨some 15, .mv (.t 56), none⟩])
def f8_c3 : LCode := (.seq (.region [⟨some 16, .bin .lss (.t 15) (.t 14), none⟩])
 (.seq (.cond (.t 16)
  .skip
  (.exit 0))
 (.seq (.block 1
  (.seq (.region [⟨some 17, .mv (.t 15), none⟩,
    ⟨some 18, .iaddr 3 (.t 13) (.t 15), none⟩,
    ⟨some 19, .load true 3 (.t 18), none⟩,
    ⟨some 7, .alloc [(.str []), (.int .i64 0), (.str [])], none⟩,
    ⟨some 6, .mv (.t 17), none⟩,
    ⟨none, .store 3 (.t 7) (.t 19), none⟩])
  (.seq (.region [⟨some 20, .mv (.t 3), none⟩,
    ⟨some 21, .mv (.t 20), none⟩,
    ⟨some 22, .faddr 0 (.t 7), some (21, false)⟩,
    ⟨some 23, .load false 1 (.t 22), some (21, false)⟩,
    ⟨some 24, .len true (.t 23), some (21, false)⟩,
    ⟨some 25, .bin .gtr (.t 24) (.c (.int .i64 60)), some (21, false)⟩,
    ⟨some 26, .pick (.t 21) (.c (.bool true)) (.t 25), none⟩,
    ⟨some 27, .mv (.t 26), none⟩,
    ⟨some 28, .faddr 2 (.t 7), some (27, false)⟩,
    ⟨some 29, .load false 1 (.t 28), some (27, false)⟩,
    ⟨some 30, .len true (.t 29), some (27, false)⟩,
    ⟨some 31, .bin .gtr (.t 30) (.c (.int .i64 2000)), some (27, false)⟩,
    ⟨some 32, .pick (.t 27) (.c (.bool true)) (.t 31), none⟩,
    ⟨some 3, .mv (.t 32), none⟩])
  (.seq (.region [⟨some 33, .mv (.t 4), none⟩,
    ⟨some 34, .mv (.t 33), none⟩,
    ⟨some 35, .faddr 0 (.t 7), some (34, false)⟩,
    ⟨some 36, .load false 1 (.t 35), some (34, false)⟩,
    ⟨some 37, .bin .eql (.t 36) (.c (.str [])), some (34, false)⟩,
    ⟨some 38, .pick (.t 34) (.c (.bool true)) (.t 37), none⟩,
    ⟨some 4, .mv (.t 38), none⟩])
  (.seq (.region [⟨some 39, .mv (.t 0), none⟩,
    ⟨some 40, .mv (.t 6), none⟩,
    ⟨some 41, .slSl 3 (.t 39) none (some (.t 40)) none, none⟩,
    ⟨some 42, .len false (.t 41), none⟩,
    ⟨some 43, .mv (.c (.int .i64 0)), none⟩])
  (.block 2
   (.loop
    f8_c1)))))))
 f8_c0)))
def f8_c2 : LCode := (.seq (.block 4
  (.seq (.region [⟨some 58, .mv (.t 3), none⟩,
    ⟨some 57, .mv (.t 58), none⟩])
  (.cond (.t 57)
   (.seq (.region [⟨some 2, .mv (.c (.int .i64 2)), none⟩])
   .ret)
   (.seq (.region [⟨some 60, .mv (.t 4), none⟩,
     ⟨some 59, .mv (.t 60), none⟩])
   (.cond (.t 59)
    (.seq (.region [⟨some 2, .mv (.c (.int .i64 3)), none⟩])
    .ret)
    (.seq (.region [⟨some 62, .mv (.t 5), none⟩,
      ⟨some 61, .mv (.t 62), none⟩])
    (.cond (.t 61)
     (.seq (.region [⟨some 2, .mv (.c (.int .i64 6)), none⟩])
     .ret)
     .skip)))))))
 (.seq (.region [⟨some 2, .mv (.c (.int .i64 0)), none⟩])
 .ret))
def f8_c4 : LCode := (.seq (.region [⟨some 2, .mv (.c (.int .i64 0)), none⟩])
 (.seq (.region [⟨some 10, .mv (.t 0), none⟩,
   ⟨some 11, .len false (.t 10), none⟩,
   ⟨some 12, .bin .gtr (.t 11) (.c (.int .i64 20)), none⟩,
   ⟨some 3, .mv (.t 12), none⟩,
   ⟨some 4, .mv (.c (.bool false)), none⟩,
   ⟨some 5, .mv (.c (.bool false)), none⟩])
 (.seq (.seq (.region [⟨some 13, .mv (.t 0), none⟩,
   ⟨some 14, .len false (.t 13), none⟩,
   ⟨some 15, .mv (.c (.int .i64 0)), none⟩])
 (.block 0
  (.loop
   f8_c3)))
 f8_c2)))
def f8_lay : Lay := ⟨63, [], false⟩
def f8_res : List LRes := [.t 2]
def f8_L : LFn := ⟨1, f8_lay, f8_c4, f8_res⟩
theorem f8_low : lowFn Try.prog [] 8 = some f8_L := by kernel_rfl
theorem f8_fok : FnOk Try.prog 8 := ⟨_, Try.func8, rfl, rfl⟩
def f8_Q (a0 : List G_QDocument) (o : Int) : Exit → Env → AHeap → Nat → Prop := FinK f8_res (PureEnd (.int .i64 o))

def f8_L3_env (a0 : List G_QDocument) (s : (Bool × Bool × Bool × Int)) : Env := [(0, .isl 3 (a0.map e_QDocument) false), (3, .bool s.1), (4, .bool s.2.1), (5, .bool s.2.2.1), (13, .isl 3 (a0.map e_QDocument) false), (14, .int .i64 ((a0.map e_QDocument).length : Int)), (15, .int .i64 s.2.2.2)]
def f8_L3_hp (a0 : List G_QDocument) (s : (Bool × Bool × Bool × Int)) : AHeap := []
def f8_L3_Q (a0 : List G_QDocument) (o : Int) : Exit → Env → AHeap → Nat → Prop := (QBlock 0 (QSeq Try.prog f8_lay 0 f8_c2 (f8_Q a0 o)))

def f8_L4_env (a0 : List G_QDocument) (v3 : Bool) (v4 : Bool) (v6 : Int) (s : (Bool × Int)) : Env := [(0, .isl 3 (a0.map e_QDocument) false), (3, .bool ((v3 || (decide ((((a0.getD v6.toNat default).f_Name).length : Int) > 60))) || (decide ((((a0.getD v6.toNat default).f_Text).length : Int) > 2000)))), (4, .bool (v4 || ((a0.getD v6.toNat default).f_Name == ([] : List UInt8)))), (5, .bool s.1), (7, .ptr (0, 0) 0 0), (13, .isl 3 (a0.map e_QDocument) false), (14, .int .i64 ((a0.map e_QDocument).length : Int)), (15, .int .i64 v6), (41, .isl 3 ((a0.take v6.toNat).map e_QDocument) false), (42, .int .i64 (((a0.take v6.toNat).map e_QDocument).length : Int)), (43, .int .i64 s.2)]
def f8_L4_hp (a0 : List G_QDocument) (v3 : Bool) (v4 : Bool) (v6 : Int) (s : (Bool × Int)) : AHeap := [((0, 0), .one [.str ((a0.getD v6.toNat default).f_Name), .int .i64 ((a0.getD v6.toNat default).f_Version), .str ((a0.getD v6.toNat default).f_Text)])]
def f8_L4_Q (a0 : List G_QDocument) (o : ((Bool × Bool × Bool × Int) ⊕ Int)) : Exit → Env → AHeap → Nat → Prop := (QBlock 2 (QBlock 1 (QSeq Try.prog f8_lay 0 f8_c0 (BodyQ 0 0 (f8_L3_env a0) (f8_L3_hp a0) (f8_L3_Q a0) o))))

noncomputable def S_glossatorref3_CheckDocuments_j3 (m : Option Nat) (a0 : List G_QDocument) (v3 : Bool) (v4 : Bool) (v6 : Int) (v9 : Bool) : Option ((Bool × Bool × Bool × Int) ⊕ Int) :=
  some (.inl (((v3 || (decide ((((a0.getD v6.toNat default).f_Name).length : Int) > 60))) || (decide ((((a0.getD v6.toNat default).f_Text).length : Int) > 2000))), (v4 || ((a0.getD v6.toNat default).f_Name == ([] : List UInt8))), v9, (W (v6 + 1))))

noncomputable def S_glossatorref3_CheckDocuments_b4 (m : Option Nat) (a0 : List G_QDocument) (v3 : Bool) (v4 : Bool) (v6 : Int) (v9 : Bool) (v10 : Int) : Option ((Bool × Int) ⊕ ((Bool × Bool × Bool × Int) ⊕ Int)) :=
  if (decide (v10 < (((a0.take v6.toNat).map e_QDocument).length : Int))) = true then
    if (0 : Int) ≤ v10 ∧ v10 < (((a0.take v6.toNat).map e_QDocument).length : Int) then
    some (.inl ((v9 || (((a0.take v6.toNat).getD v10.toNat default).f_Name == (a0.getD v6.toNat default).f_Name)), (W (v10 + 1))))
    else none
  else
    Option.map Sum.inr (
      S_glossatorref3_CheckDocuments_j3 m a0 v3 v4 v6 v9)

noncomputable def S_glossatorref3_CheckDocuments_l4 (m : Option Nat) (a0 : List G_QDocument) (v3 : Bool) (v4 : Bool) (v6 : Int) (v9 : Bool) (v10 : Int) : Option ((Bool × Bool × Bool × Int) ⊕ Int) := loopM m (fun (s : (Bool × Int)) => S_glossatorref3_CheckDocuments_b4 m a0 v3 v4 v6 s.1 s.2) (v9, v10)

theorem f8_j3_ok {a0 : List G_QDocument} {v3 : Bool} {v4 : Bool} {v6 : Int} {v9 : Bool} {m : Option Nat} {o : ((Bool × Bool × Bool × Int) ⊕ Int)} (h : S_glossatorref3_CheckDocuments_j3 m a0 v3 v4 v6 v9 = some o) :
    LWp Try.prog f8_lay 0 f8_c0 (BodyQ 0 0 (f8_L3_env a0) (f8_L3_hp a0) (f8_L3_Q a0) o) [(0, .isl 3 (a0.map e_QDocument) false), (3, .bool ((v3 || (decide ((((a0.getD v6.toNat default).f_Name).length : Int) > 60))) || (decide ((((a0.getD v6.toNat default).f_Text).length : Int) > 2000)))), (4, .bool (v4 || ((a0.getD v6.toNat default).f_Name == ([] : List UInt8)))), (5, .bool v9), (13, .isl 3 (a0.map e_QDocument) false), (14, .int .i64 ((a0.map e_QDocument).length : Int)), (15, .int .i64 v6)] [] 0 := by
  unfold S_glossatorref3_CheckDocuments_j3 at h
  refine regI ?_
  cases h
  exact AI rfl (simI (M := []) rfl (AI (VS rfl) (AI (VS rfl) (AI (VS rfl) (AI (VS rfl) (AI (VS rfl) (AI (VS rfl) (AI (VS rfl) TT))))))) TT)

theorem f8_L4_bok {a0 : List G_QDocument} {v3 : Bool} {v4 : Bool} {v6 : Int} {v9 : Bool} {v10 : Int} {m : Option Nat} {o : (Bool × Int) ⊕ ((Bool × Bool × Bool × Int) ⊕ Int)} (h : S_glossatorref3_CheckDocuments_b4 m a0 v3 v4 v6 v9 v10 = some o) :
    LWp Try.prog f8_lay 0 f8_c1 (BodyQ 0 1 (f8_L4_env a0 v3 v4 v6) (f8_L4_hp a0 v3 v4 v6) (f8_L4_Q a0) o) [(0, .isl 3 (a0.map e_QDocument) false), (3, .bool ((v3 || (decide ((((a0.getD v6.toNat default).f_Name).length : Int) > 60))) || (decide ((((a0.getD v6.toNat default).f_Text).length : Int) > 2000)))), (4, .bool (v4 || ((a0.getD v6.toNat default).f_Name == ([] : List UInt8)))), (5, .bool v9), (7, .ptr (0, 0) 0 0), (13, .isl 3 (a0.map e_QDocument) false), (14, .int .i64 ((a0.map e_QDocument).length : Int)), (15, .int .i64 v6), (41, .isl 3 ((a0.take v6.toNat).map e_QDocument) false), (42, .int .i64 (((a0.take v6.toNat).map e_QDocument).length : Int)), (43, .int .i64 v10)] [((0, 0), .one [.str ((a0.getD v6.toNat default).f_Name), .int .i64 ((a0.getD v6.toNat default).f_Version), .str ((a0.getD v6.toNat default).f_Text)])] 1 := by
  unfold S_glossatorref3_CheckDocuments_b4 at h
  refine seqI ?_
  refine regI ?_
  refine seqI ?_
  refine condI (v := (decide (v10 < (((a0.take v6.toNat).map e_QDocument).length : Int)))) rfl TT (fun h26 => ?_) (fun h26 => ?_)
  · have h := ite_tt h26 h
    refine skipI ?_
    refine seqI ?_
    refine blockI ?_
    refine seqI ?_
    refine regI ?_
    obtain ⟨h27, h⟩ := ite_some h
    refine AI h27 ?_
    refine EX (e_QDocument ((a0.take v6.toNat).getD v10.toNat default)) (AI (getD_enc e_QDocument _ _ (idx_ltL e_QDocument h27)) (AI (AI (idx_lt h27) (NB rfl)) ?_))
    refine regI ?_
    refine AI (fun hp => hp) ?_
    refine AI (fun hp => hp) ?_
    refine AI (fun hp => (AI hp hp)) ?_
    refine AI (fun hc => (bqf hc)) ?_
    refine LWp.sim (e := [(0, .isl 3 (a0.map e_QDocument) false), (3, .bool ((v3 || (decide ((((a0.getD v6.toNat default).f_Name).length : Int) > 60))) || (decide ((((a0.getD v6.toNat default).f_Text).length : Int) > 2000)))), (4, .bool (v4 || ((a0.getD v6.toNat default).f_Name == ([] : List UInt8)))), (5, .bool (v9 || (((a0.take v6.toNat).getD v10.toNat default).f_Name == (a0.getD v6.toNat default).f_Name))), (7, .ptr (0, 0) 0 0), (13, .isl 3 (a0.map e_QDocument) false), (14, .int .i64 ((a0.map e_QDocument).length : Int)), (15, .int .i64 v6), (41, .isl 3 ((a0.take v6.toNat).map e_QDocument) false), (42, .int .i64 (((a0.take v6.toNat).map e_QDocument).length : Int)), (43, .int .i64 v10)]) (L := [((0, 0), .one [.str ((a0.getD v6.toNat default).f_Name), .int .i64 ((a0.getD v6.toNat default).f_Version), .str ((a0.getD v6.toNat default).f_Text)])]) (n := 1) ?_ ?_
    · exact simI (M := [((0, 0), (0, 0))]) rfl (AI (VS rfl) (AI (VS rfl) (AI (VS rfl) (AI (VS rfl) (AI (Vw.ptr _ _ _ _ rfl) (AI (VS rfl) (AI (VS rfl) (AI (VS rfl) (AI (VS rfl) (AI (VS rfl) (AI (VS rfl) TT))))))))))) (AI (AI rfl (BVw.oneL (AI (VS rfl) (AI (VS rfl) (AI (VS rfl) TT))))) TT)
    refine regI ?_
    cases h
    exact AI rfl (simI (M := [((0, 0), (0, 0))]) rfl (AI (VS rfl) (AI (VS rfl) (AI (VS rfl) (AI (VS rfl) (AI (Vw.ptr _ _ _ _ rfl) (AI (VS rfl) (AI (VS rfl) (AI (VS rfl) (AI (VS rfl) (AI (VS rfl) (AI (VS rfl) TT))))))))))) (AI (AI rfl (BVw.oneL (AI (VS rfl) (AI (VS rfl) (AI (VS rfl) TT))))) TT))
  · have h := ite_ff h26 h
    refine exitI ?_
    obtain ⟨o, hq, rfl⟩ := Option.map_eq_some_iff.1 h
    replace h := hq; clear hq
    refine AI nofun ?_
    refine LWp.sim ?_ (f8_j3_ok h)
    exact simI (M := []) rfl (AI (VS rfl) (AI (VS rfl) (AI (VS rfl) (AI (VS rfl) (AI (VS rfl) (AI (VS rfl) (AI (VS rfl) TT))))))) TT

theorem f8_L4_ok {a0 : List G_QDocument} {v3 : Bool} {v4 : Bool} {v6 : Int} {v9 : Bool} {v10 : Int} {m : Option Nat} {o : ((Bool × Bool × Bool × Int) ⊕ Int)} (h : S_glossatorref3_CheckDocuments_l4 m a0 v3 v4 v6 v9 v10 = some o) :
    LWp Try.prog f8_lay 0 (.loop f8_c1) (QBlock 2 (QBlock 1 (QSeq Try.prog f8_lay 0 f8_c0 (BodyQ 0 0 (f8_L3_env a0) (f8_L3_hp a0) (f8_L3_Q a0) o)))) [(0, .isl 3 (a0.map e_QDocument) false), (3, .bool ((v3 || (decide ((((a0.getD v6.toNat default).f_Name).length : Int) > 60))) || (decide ((((a0.getD v6.toNat default).f_Text).length : Int) > 2000)))), (4, .bool (v4 || ((a0.getD v6.toNat default).f_Name == ([] : List UInt8)))), (5, .bool v9), (7, .ptr (0, 0) 0 0), (13, .isl 3 (a0.map e_QDocument) false), (14, .int .i64 ((a0.map e_QDocument).length : Int)), (15, .int .i64 v6), (41, .isl 3 ((a0.take v6.toNat).map e_QDocument) false), (42, .int .i64 (((a0.take v6.toNat).map e_QDocument).length : Int)), (43, .int .i64 v10)] [((0, 0), .one [.str ((a0.getD v6.toNat default).f_Name), .int .i64 ((a0.getD v6.toNat default).f_Version), .str ((a0.getD v6.toNat default).f_Text)])] 1 :=
  LWp_loopM (m := m) (s := ((v9, v10) : (Bool × Int))) (r := o) (fun (s : (Bool × Int)) => S_glossatorref3_CheckDocuments_b4 m a0 v3 v4 v6 s.1 s.2) (f8_L4_env a0 v3 v4 v6) (f8_L4_hp a0 v3 v4 v6) (f8_L4_Q a0) (fun s o h => f8_L4_bok h) h

noncomputable def S_glossatorref3_CheckDocuments_j4 (m : Option Nat) (v3 : Bool) (v4 : Bool) (v5 : Bool) : Option Int :=
  if v3 = true then
    some 2
  else
    if v4 = true then
      some 3
    else
      if v5 = true then
        some 6
      else
        some 0

noncomputable def S_glossatorref3_CheckDocuments_b3 (m : Option Nat) (a0 : List G_QDocument) (v3 : Bool) (v4 : Bool) (v5 : Bool) (v6 : Int) : Option ((Bool × Bool × Bool × Int) ⊕ Int) :=
  if (decide (v6 < ((a0.map e_QDocument).length : Int))) = true then
    if (0 : Int) ≤ v6 ∧ v6 < ((a0.map e_QDocument).length : Int) then
    if (0 : Int) ≤ v6 ∧ v6 ≤ ((a0.map e_QDocument).length : Int) then
    S_glossatorref3_CheckDocuments_l4 m a0 v3 v4 v6 v5 0
    else none
    else none
  else
    Option.map Sum.inr (
      S_glossatorref3_CheckDocuments_j4 m v3 v4 v5)

noncomputable def S_glossatorref3_CheckDocuments_l3 (m : Option Nat) (a0 : List G_QDocument) (v3 : Bool) (v4 : Bool) (v5 : Bool) (v6 : Int) : Option Int := loopM m (fun (s : (Bool × Bool × Bool × Int)) => S_glossatorref3_CheckDocuments_b3 m a0 s.1 s.2.1 s.2.2.1 s.2.2.2) (v3, v4, v5, v6)

theorem f8_j4_ok {a0 : List G_QDocument} {v3 : Bool} {v4 : Bool} {v5 : Bool} {m : Option Nat} {o : Int} (h : S_glossatorref3_CheckDocuments_j4 m v3 v4 v5 = some o) :
    LWp Try.prog f8_lay 0 f8_c2 (f8_Q a0 o) [(3, .bool v3), (4, .bool v4), (5, .bool v5)] [] 0 := by
  unfold S_glossatorref3_CheckDocuments_j4 at h
  refine seqI ?_
  refine blockI ?_
  refine seqI ?_
  refine regI ?_
  refine condI (v := v3) rfl TT (fun h28 => ?_) (fun h28 => ?_)
  · have h := ite_tt h28 h
    refine seqI ?_
    refine regI ?_
    refine retI ?_
    cases h
    exact AI TT (AI rfl (VS rfl))
  · have h := ite_ff h28 h
    refine seqI ?_
    refine regI ?_
    refine condI (v := v4) rfl TT (fun h29 => ?_) (fun h29 => ?_)
    · have h := ite_tt h29 h
      refine seqI ?_
      refine regI ?_
      refine retI ?_
      cases h
      exact AI TT (AI rfl (VS rfl))
    · have h := ite_ff h29 h
      refine seqI ?_
      refine regI ?_
      refine condI (v := v5) rfl TT (fun h30 => ?_) (fun h30 => ?_)
      · have h := ite_tt h30 h
        refine seqI ?_
        refine regI ?_
        refine retI ?_
        cases h
        exact AI TT (AI rfl (VS rfl))
      · have h := ite_ff h30 h
        refine skipI ?_
        refine seqI ?_
        refine regI ?_
        refine retI ?_
        cases h
        exact AI TT (AI rfl (VS rfl))

theorem f8_L3_bok {a0 : List G_QDocument} {v3 : Bool} {v4 : Bool} {v5 : Bool} {v6 : Int} {m : Option Nat} {o : (Bool × Bool × Bool × Int) ⊕ Int} (h : S_glossatorref3_CheckDocuments_b3 m a0 v3 v4 v5 v6 = some o) :
    LWp Try.prog f8_lay 0 f8_c3 (BodyQ 0 0 (f8_L3_env a0) (f8_L3_hp a0) (f8_L3_Q a0) o) [(0, .isl 3 (a0.map e_QDocument) false), (3, .bool v3), (4, .bool v4), (5, .bool v5), (13, .isl 3 (a0.map e_QDocument) false), (14, .int .i64 ((a0.map e_QDocument).length : Int)), (15, .int .i64 v6)] [] 0 := by
  unfold S_glossatorref3_CheckDocuments_b3 at h
  refine seqI ?_
  refine regI ?_
  refine seqI ?_
  refine condI (v := (decide (v6 < ((a0.map e_QDocument).length : Int)))) rfl TT (fun h19 => ?_) (fun h19 => ?_)
  · have h := ite_tt h19 h
    refine skipI ?_
    refine seqI ?_
    refine blockI ?_
    refine seqI ?_
    refine regI ?_
    obtain ⟨h20, h⟩ := ite_some h
    refine AI h20 ?_
    refine EX (e_QDocument (a0.getD v6.toNat default)) (AI (getD_enc e_QDocument _ _ (idx_ltL e_QDocument h20)) (AI (AI (idx_lt h20) (NB rfl)) ?_))
    refine seqI ?_
    refine regI ?_
    refine AI (fun hp => hp) ?_
    refine AI (fun hp => hp) ?_
    refine AI (fun hp => hp) ?_
    refine AI (fun hc => (bqf hc)) ?_
    refine AI (fun hp => hp) ?_
    refine AI (fun hp => hp) ?_
    refine AI (fun hp => hp) ?_
    refine AI (fun hc => (bqf hc)) ?_
    refine LWp.sim (e := [(0, .isl 3 (a0.map e_QDocument) false), (3, .bool ((v3 || (decide ((((a0.getD v6.toNat default).f_Name).length : Int) > 60))) || (decide ((((a0.getD v6.toNat default).f_Text).length : Int) > 2000)))), (4, .bool v4), (5, .bool v5), (6, .int .i64 v6), (7, .ptr (0, 0) 0 0), (13, .isl 3 (a0.map e_QDocument) false), (14, .int .i64 ((a0.map e_QDocument).length : Int)), (15, .int .i64 v6)]) (L := [((0, 0), .one [.str ((a0.getD v6.toNat default).f_Name), .int .i64 ((a0.getD v6.toNat default).f_Version), .str ((a0.getD v6.toNat default).f_Text)])]) (n := 1) ?_ ?_
    · exact simI (M := [((0, 0), (0, 0))]) rfl (AI (VS rfl) (AI (VS rfl) (AI (VS rfl) (AI (VS rfl) (AI (VS rfl) (AI (Vw.ptr _ _ _ _ rfl) (AI (VS rfl) (AI (VS rfl) (AI (VS rfl) TT))))))))) (AI (AI rfl (BVw.oneL (AI (VS rfl) (AI (VS rfl) (AI (VS rfl) TT))))) TT)
    refine seqI ?_
    refine regI ?_
    refine AI (fun hp => hp) ?_
    refine AI (fun hp => hp) ?_
    refine AI (fun hc => (bqf hc)) ?_
    refine seqI ?_
    refine regI ?_
    obtain ⟨h21, h⟩ := ite_some h
    refine EX (.isl 3 ((a0.take v6.toNat).map e_QDocument) false) (AI (sl_eq e_QDocument (slB e_QDocument a0 _) rfl) (AI (AI rfl (AI (Int.le_refl _) h21)) ?_))
    refine LWp.sim (e := [(0, .isl 3 (a0.map e_QDocument) false), (3, .bool ((v3 || (decide ((((a0.getD v6.toNat default).f_Name).length : Int) > 60))) || (decide ((((a0.getD v6.toNat default).f_Text).length : Int) > 2000)))), (4, .bool (v4 || ((a0.getD v6.toNat default).f_Name == ([] : List UInt8)))), (5, .bool v5), (7, .ptr (0, 0) 0 0), (13, .isl 3 (a0.map e_QDocument) false), (14, .int .i64 ((a0.map e_QDocument).length : Int)), (15, .int .i64 v6), (41, .isl 3 ((a0.take v6.toNat).map e_QDocument) false), (42, .int .i64 (((a0.take v6.toNat).map e_QDocument).length : Int)), (43, .int .i64 0)]) (L := [((0, 0), .one [.str ((a0.getD v6.toNat default).f_Name), .int .i64 ((a0.getD v6.toNat default).f_Version), .str ((a0.getD v6.toNat default).f_Text)])]) (n := 1) ?_ ?_
    · exact simI (M := [((0, 0), (0, 0))]) rfl (AI (VS rfl) (AI (VS rfl) (AI (VS rfl) (AI (VS rfl) (AI (Vw.ptr _ _ _ _ rfl) (AI (VS rfl) (AI (VS rfl) (AI (VS rfl) (AI (VS rfl) (AI (VS rfl) (AI (VS rfl) TT))))))))))) (AI (AI rfl (BVw.oneL (AI (VS rfl) (AI (VS rfl) (AI (VS rfl) TT))))) TT)
    refine blockI ?_
    refine LWp.sim ?_ (f8_L4_ok h)
    exact simI (M := [((0, 0), (0, 0))]) rfl (AI (VS rfl) (AI (VS rfl) (AI (VS rfl) (AI (VS rfl) (AI (Vw.ptr _ _ _ _ rfl) (AI (VS rfl) (AI (VS rfl) (AI (VS rfl) (AI (VS rfl) (AI (VS rfl) (AI (VS rfl) TT))))))))))) (AI (AI rfl (BVw.oneL (AI (VS rfl) (AI (VS rfl) (AI (VS rfl) TT))))) TT)
  · have h := ite_ff h19 h
    refine exitI ?_
    obtain ⟨o, hq, rfl⟩ := Option.map_eq_some_iff.1 h
    replace h := hq; clear hq
    refine AI nofun ?_
    refine LWp.sim ?_ (f8_j4_ok h)
    exact simI (M := []) rfl (AI (VS rfl) (AI (VS rfl) (AI (VS rfl) TT))) TT

theorem f8_L3_ok {a0 : List G_QDocument} {v3 : Bool} {v4 : Bool} {v5 : Bool} {v6 : Int} {m : Option Nat} {o : Int} (h : S_glossatorref3_CheckDocuments_l3 m a0 v3 v4 v5 v6 = some o) :
    LWp Try.prog f8_lay 0 (.loop f8_c3) (QBlock 0 (QSeq Try.prog f8_lay 0 f8_c2 (f8_Q a0 o))) [(0, .isl 3 (a0.map e_QDocument) false), (3, .bool v3), (4, .bool v4), (5, .bool v5), (13, .isl 3 (a0.map e_QDocument) false), (14, .int .i64 ((a0.map e_QDocument).length : Int)), (15, .int .i64 v6)] [] 0 :=
  LWp_loopM (m := m) (s := ((v3, v4, v5, v6) : (Bool × Bool × Bool × Int))) (r := o) (fun (s : (Bool × Bool × Bool × Int)) => S_glossatorref3_CheckDocuments_b3 m a0 s.1 s.2.1 s.2.2.1 s.2.2.2) (f8_L3_env a0) (f8_L3_hp a0) (f8_L3_Q a0) (fun s o h => f8_L3_bok h) h

noncomputable def S_glossatorref3_CheckDocuments (m : Option Nat) (a0 : List G_QDocument) : Option Int :=
  S_glossatorref3_CheckDocuments_l3 m a0 (decide (((a0.map e_QDocument).length : Int) > 20)) false false 0

theorem f8_start {a0 : List G_QDocument} {m : Option Nat} {o : Int} (h : S_glossatorref3_CheckDocuments m a0 = some o) : LWp Try.prog f8_lay 0 f8_c4 (f8_Q a0 o) (initEnv 0 [.isl 3 (a0.map e_QDocument) false]) [] 0 := by
  unfold S_glossatorref3_CheckDocuments at h
  refine seqI ?_
  refine regI ?_
  refine seqI ?_
  refine regI ?_
  refine seqI ?_
  refine seqI ?_
  refine regI ?_
  refine LWp.sim (e := [(0, .isl 3 (a0.map e_QDocument) false), (3, .bool (decide (((a0.map e_QDocument).length : Int) > 20))), (4, .bool false), (5, .bool false), (13, .isl 3 (a0.map e_QDocument) false), (14, .int .i64 ((a0.map e_QDocument).length : Int)), (15, .int .i64 0)]) (L := []) (n := 0) ?_ ?_
  · exact simI (M := []) rfl (AI (VS rfl) (AI (VS rfl) (AI (VS rfl) (AI (VS rfl) (AI (VS rfl) (AI (VS rfl) (AI (VS rfl) TT))))))) TT
  refine blockI ?_
  refine LWp.sim ?_ (f8_L3_ok h)
  exact simI (M := []) rfl (AI (VS rfl) (AI (VS rfl) (AI (VS rfl) (AI (VS rfl) (AI (VS rfl) (AI (VS rfl) (AI (VS rfl) TT))))))) TT

theorem f8_ok {a0 : List G_QDocument} {m : Option Nat} {o : Int} (h : S_glossatorref3_CheckDocuments m a0 = some o) : PFn Try.prog 8 [.isl 3 (a0.map e_QDocument) false] (.int .i64 o) := PFn.ofFnW (L := f8_L) f8_low f8_fok (NB rfl) rfl (f8_start h)

def f38_c1 : LCode := (.seq (.region [⟨some 8, .bin .lss (.t 7) (.t 6), none⟩])
 (.seq (.cond (.t 8)
  .skip
  (.exit 0))
 (.seq (.block 1
  (.seq (.region [⟨some 9, .mv (.t 7), none⟩,
    ⟨some 4, .mv (.t 9), none⟩])
  (.region [⟨some 10, .mv (.t 3), none⟩,
    ⟨some 11, .mv (.t 0), none⟩,
    ⟨some 12, .mv (.t 4), none⟩,
    ⟨some 13, .idxS (.t 11) (.t 12), none⟩,
    ⟨some 14, .conv (.int .u64) (.t 13), none⟩,
    ⟨some 15, .bin .xor (.t 10) (.t 14), none⟩,
    ⟨some 16, .bin .mul (.t 15) (.c (.int .u64 16777619)), none⟩,
    ⟨some 17, .bin .rem (.t 16) (.c (.int .u64 4294967296)), none⟩,
    ⟨some 3, .mv (.t 17), none⟩])))
 (.region [⟨some 18, .bin .add (.t 7) (.c (.int .i64 1)), none⟩,
   ⟨some 7, .mv (.t 18), none⟩]))))
def f38_c0 : LCode := (.seq (.region [⟨some 19, .mv (.t 3), none⟩,
   ⟨some 20, .conv (.int .u32) (.t 19), none⟩,
   ⟨some 2, .mv (.t 20), none⟩])
 .ret)
def f38_c2 : LCode := (.seq (.region [⟨some 2, .mv (.c (.int .u32 0)), none⟩])
 (.seq (.region [⟨some 3, .mv (.c (.int .u64 2166136261)), none⟩])
 (.seq (.seq (.region [⟨some 5, .mv (.t 0), none⟩,
   ⟨some 6, .len true (.t 5), none⟩,
   ⟨some 7, .mv (.c (.int .i64 0)), none⟩])
 (.block 0
  (.loop
   f38_c1)))
 f38_c0)))
def f38_lay : Lay := ⟨21, [], false⟩
def f38_res : List LRes := [.t 2]
def f38_L : LFn := ⟨1, f38_lay, f38_c2, f38_res⟩
theorem f38_low : lowFn Try.prog [] 38 = some f38_L := by kernel_rfl
theorem f38_fok : FnOk Try.prog 38 := ⟨_, Try.func38, rfl, rfl⟩
def f38_Q (a0 : List UInt8) (o : Int) : Exit → Env → AHeap → Nat → Prop := FinK f38_res (PureEnd (.int .u32 o))

def f38_L1_env (a0 : List UInt8) (s : (Int × Int)) : Env := [(0, .str a0), (3, .int .u64 s.1), (6, .int .i64 (a0.length : Int)), (7, .int .i64 s.2)]
def f38_L1_hp (a0 : List UInt8) (s : (Int × Int)) : AHeap := []
def f38_L1_Q (a0 : List UInt8) (o : Int) : Exit → Env → AHeap → Nat → Prop := (QBlock 0 (QSeq Try.prog f38_lay 0 f38_c0 (f38_Q a0 o)))

noncomputable def S_glossatorref3_Checksum_j1 (m : Option Nat) (v1 : Int) : Option Int :=
  some (IntKind.wrap .u32 v1)

noncomputable def S_glossatorref3_Checksum_b1 (m : Option Nat) (a0 : List UInt8) (v1 : Int) (v2 : Int) : Option ((Int × Int) ⊕ Int) :=
  if (decide (v2 < (a0.length : Int))) = true then
    if (0 : Int) ≤ v2 ∧ v2 < (a0.length : Int) then
    some (.inl (((IntKind.wrap .u64 ((ibits .xor .u64 v1 (IntKind.wrap .u64 (((a0.getD v2.toNat 0).toNat : Nat) : Int))) * 16777619)).tmod 4294967296), (W (v2 + 1))))
    else none
  else
    Option.map Sum.inr (
      S_glossatorref3_Checksum_j1 m v1)

noncomputable def S_glossatorref3_Checksum_l1 (m : Option Nat) (a0 : List UInt8) (v1 : Int) (v2 : Int) : Option Int := loopM m (fun (s : (Int × Int)) => S_glossatorref3_Checksum_b1 m a0 s.1 s.2) (v1, v2)

theorem f38_j1_ok {a0 : List UInt8} {v1 : Int} {m : Option Nat} {o : Int} (h : S_glossatorref3_Checksum_j1 m v1 = some o) :
    LWp Try.prog f38_lay 0 f38_c0 (f38_Q a0 o) [(3, .int .u64 v1)] [] 0 := by
  unfold S_glossatorref3_Checksum_j1 at h
  refine seqI ?_
  refine regI ?_
  refine retI ?_
  cases h
  exact AI TT (AI rfl (VS rfl))

theorem f38_L1_bok {a0 : List UInt8} {v1 : Int} {v2 : Int} {m : Option Nat} {o : (Int × Int) ⊕ Int} (h : S_glossatorref3_Checksum_b1 m a0 v1 v2 = some o) :
    LWp Try.prog f38_lay 0 f38_c1 (BodyQ 0 0 (f38_L1_env a0) (f38_L1_hp a0) (f38_L1_Q a0) o) [(0, .str a0), (3, .int .u64 v1), (6, .int .i64 (a0.length : Int)), (7, .int .i64 v2)] [] 0 := by
  unfold S_glossatorref3_Checksum_b1 at h
  refine seqI ?_
  refine regI ?_
  refine seqI ?_
  refine condI (v := (decide (v2 < (a0.length : Int)))) rfl TT (fun h5 => ?_) (fun h5 => ?_)
  · have h := ite_tt h5 h
    refine skipI ?_
    refine seqI ?_
    refine blockI ?_
    refine seqI ?_
    refine regI ?_
    refine regI ?_
    obtain ⟨h6, h⟩ := ite_some h
    refine AI h6 ?_
    refine AI (by decide) ?_
    refine LWp.sim (e := [(0, .str a0), (3, .int .u64 ((IntKind.wrap .u64 ((ibits .xor .u64 v1 (IntKind.wrap .u64 (((a0.getD v2.toNat 0).toNat : Nat) : Int))) * 16777619)).tmod 4294967296)), (6, .int .i64 (a0.length : Int)), (7, .int .i64 v2)]) (L := []) (n := 0) ?_ ?_
    · exact simI (M := []) rfl (AI (VS rfl) (AI (VS rfl) (AI (VS rfl) (AI (VS rfl) TT)))) TT
    refine regI ?_
    cases h
    exact AI rfl (simI (M := []) rfl (AI (VS rfl) (AI (VS rfl) (AI (VS rfl) (AI (VS rfl) TT)))) TT)
  · have h := ite_ff h5 h
    refine exitI ?_
    obtain ⟨o, hq, rfl⟩ := Option.map_eq_some_iff.1 h
    replace h := hq; clear hq
    refine AI nofun ?_
    refine LWp.sim ?_ (f38_j1_ok h)
    exact simI (M := []) rfl (AI (VS rfl) TT) TT

theorem f38_L1_ok {a0 : List UInt8} {v1 : Int} {v2 : Int} {m : Option Nat} {o : Int} (h : S_glossatorref3_Checksum_l1 m a0 v1 v2 = some o) :
    LWp Try.prog f38_lay 0 (.loop f38_c1) (QBlock 0 (QSeq Try.prog f38_lay 0 f38_c0 (f38_Q a0 o))) [(0, .str a0), (3, .int .u64 v1), (6, .int .i64 (a0.length : Int)), (7, .int .i64 v2)] [] 0 :=
  LWp_loopM (m := m) (s := ((v1, v2) : (Int × Int))) (r := o) (fun (s : (Int × Int)) => S_glossatorref3_Checksum_b1 m a0 s.1 s.2) (f38_L1_env a0) (f38_L1_hp a0) (f38_L1_Q a0) (fun s o h => f38_L1_bok h) h

noncomputable def S_glossatorref3_Checksum (m : Option Nat) (a0 : List UInt8) : Option Int :=
  S_glossatorref3_Checksum_l1 m a0 2166136261 0

theorem f38_start {a0 : List UInt8} {m : Option Nat} {o : Int} (h : S_glossatorref3_Checksum m a0 = some o) : LWp Try.prog f38_lay 0 f38_c2 (f38_Q a0 o) (initEnv 0 [.str a0]) [] 0 := by
  unfold S_glossatorref3_Checksum at h
  refine seqI ?_
  refine regI ?_
  refine seqI ?_
  refine regI ?_
  refine seqI ?_
  refine seqI ?_
  refine regI ?_
  refine blockI ?_
  refine LWp.sim ?_ (f38_L1_ok h)
  exact simI (M := []) rfl (AI (VS rfl) (AI (VS rfl) (AI (VS rfl) (AI (VS rfl) TT)))) TT

theorem f38_ok {a0 : List UInt8} {m : Option Nat} {o : Int} (h : S_glossatorref3_Checksum m a0 = some o) : PFn Try.prog 38 [.str a0] (.int .u32 o) := PFn.ofFnW (L := f38_L) f38_low f38_fok (NB rfl) rfl (f38_start h)

def f11_c2 : LCode := (.region [⟨some 4, .mv (.c (.str [])), none⟩])
def f11_c0 : LCode := (.region [⟨some 35, .bin .add (.t 9) (.c (.int .i64 1)), none⟩,
   ⟨some 9, .mv (.t 35), none⟩])
def f11_c3 : LCode := (.seq (.region [⟨some 10, .bin .lss (.t 9) (.t 8), none⟩])
 (.seq (.cond (.t 10)
  .skip
  (.exit 0))
 (.seq (.block 1
  (.seq (.region [⟨some 11, .mv (.t 9), none⟩,
    ⟨some 5, .mv (.t 11), none⟩])
  (.seq (.seq (.region [⟨some 12, .mv (.t 5), none⟩,
    ⟨some 13, .mv (.t 0), none⟩,
    ⟨some 14, .len true (.t 13), none⟩,
    ⟨some 15, .bin .lss (.t 12) (.t 14), none⟩,
    ⟨some 16, .mv (.t 15), none⟩,
    ⟨some 17, .mv (.t 0), some (16, true)⟩,
    ⟨some 18, .mv (.t 5), some (16, true)⟩,
    ⟨some 19, .idxS (.t 17) (.t 18), some (16, true)⟩,
    ⟨some 20, .call 31 [(.t 19)], some (16, true)⟩,
    ⟨some 21, .pick (.t 16) (.t 20) (.c (.bool false)), none⟩])
  (.cond (.t 21)
   (.seq (.region [⟨some 22, .mv (.t 4), none⟩,
     ⟨some 23, .mv (.t 0), none⟩,
     ⟨some 24, .mv (.t 5), none⟩,
     ⟨some 25, .mv (.t 5), none⟩,
     ⟨some 26, .bin .add (.t 25) (.c (.int .i64 1)), none⟩,
     ⟨some 27, .slStr (.t 23) (some (.t 24)) (some (.t 26)), none⟩,
     ⟨some 28, .bin .add (.t 22) (.t 27), none⟩,
     ⟨some 4, .mv (.t 28), none⟩])
   (.exit 1))
   .skip))
  (.seq (.seq (.region [⟨some 29, .mv (.t 4), none⟩,
    ⟨some 30, .bin .neq (.t 29) (.c (.str [])), none⟩])
  (.cond (.t 30)
   (.region [⟨some 31, .mv (.t 3), none⟩,
     ⟨some 32, .mv (.t 4), none⟩,
     ⟨some 33, .mkSl true 1 [(.str [])] 1 [(0, (.t 32))], none⟩,
     ⟨some 34, .app true 1 16 (.t 31) (.t 33), none⟩,
     ⟨some 3, .mv (.t 34), none⟩])
   .skip))
  f11_c2))))
 f11_c0)))
def f11_c1 : LCode := (.seq (.region [⟨some 36, .mv (.t 3), none⟩,
   ⟨some 37, .call 32 [(.t 36)], none⟩,
   ⟨some 3, .mv (.t 37), none⟩])
 (.seq (.region [⟨some 38, .mv (.t 3), none⟩,
   ⟨some 39, .mv (.t 3), none⟩,
   ⟨some 40, .len false (.t 39), none⟩,
   ⟨some 41, .mnx false [(.t 40), (.c (.int .i64 400))], none⟩,
   ⟨some 42, .slSl 1 (.t 38) none (some (.t 41)) none, none⟩,
   ⟨some 2, .mv (.t 42), none⟩])
 .ret))
def f11_c4 : LCode := (.seq (.region [⟨some 2, .mv (.c (.val (.slice none 0 0))), none⟩])
 (.seq (.region [⟨some 3, .mv (.c (.val (.slice none 0 0))), none⟩])
 (.seq (.region [⟨some 4, .mv (.c (.str [])), none⟩])
 (.seq (.seq (.region [⟨some 6, .mv (.t 0), none⟩,
   ⟨some 7, .len true (.t 6), none⟩,
   ⟨some 8, .bin .add (.t 7) (.c (.int .i64 1)), none⟩,
   ⟨some 9, .mv (.c (.int .i64 0)), none⟩])
 (.block 0
  (.loop
   f11_c3)))
 f11_c1))))
def f11_lay : Lay := ⟨43, [], false⟩
def f11_res : List LRes := [.t 2]
def f11_L : LFn := ⟨1, f11_lay, f11_c4, f11_res⟩
theorem f11_low : lowFn Try.prog [] 11 = some f11_L := by kernel_rfl
theorem f11_fok : FnOk Try.prog 11 := ⟨_, Try.func11, rfl, rfl⟩
def f11_Q (a0 : List UInt8) (o : (List (List UInt8))) : Exit → Env → AHeap → Nat → Prop := FinK f11_res (PureEnd (.isl 1 (o.map e_str) false))

def f11_L1_env (a0 : List UInt8) (s : ((List (List UInt8)) × (List UInt8) × Int)) : Env := [(0, .str a0), (3, .osl (0, 0) 1 (s.1.map e_str)), (4, .str s.2.1), (8, .int .i64 (W ((a0.length : Int) + 1))), (9, .int .i64 s.2.2)]
def f11_L1_hp (a0 : List UInt8) (s : ((List (List UInt8)) × (List UInt8) × Int)) : AHeap := [((0, 0), .tok)]
def f11_L1_Q (a0 : List UInt8) (o : (List (List UInt8))) : Exit → Env → AHeap → Nat → Prop := (QBlock 0 (QSeq Try.prog f11_lay 0 f11_c1 (f11_Q a0 o)))

noncomputable def S_glossatorref3_Words_j6 (m : Option Nat) (a0 : List UInt8) (v7 : Int) (v14 : List (List UInt8)) (v15 : List UInt8) : Option (((List (List UInt8)) × (List UInt8) × Int) ⊕ (List (List UInt8))) :=
  some (.inl (v14, v15, (W (v7 + 1))))

noncomputable def S_glossatorref3_Words_j5 (m : Option Nat) (a0 : List UInt8) (v7 : Int) (v13 : List (List UInt8)) : Option (((List (List UInt8)) × (List UInt8) × Int) ⊕ (List (List UInt8))) :=
  S_glossatorref3_Words_j6 m a0 v7 v13 ([] : List UInt8)

theorem f11_j6_ok {a0 : List UInt8} {v7 : Int} {v14 : List (List UInt8)} {v15 : List UInt8} {m : Option Nat} {o : (((List (List UInt8)) × (List UInt8) × Int) ⊕ (List (List UInt8)))} (h : S_glossatorref3_Words_j6 m a0 v7 v14 v15 = some o) :
    LWp Try.prog f11_lay 0 f11_c0 (BodyQ 0 1 (f11_L1_env a0) (f11_L1_hp a0) (f11_L1_Q a0) o) [(0, .str a0), (3, .osl (0, 0) 1 (v14.map e_str)), (4, .str v15), (8, .int .i64 (W ((a0.length : Int) + 1))), (9, .int .i64 v7)] [((0, 0), .tok)] 1 := by
  unfold S_glossatorref3_Words_j6 at h
  refine regI ?_
  cases h
  exact AI rfl (simI (M := [((0, 0), (0, 0))]) rfl (AI (VS rfl) (AI (Vw.osl _ _ _ _ rfl) (AI (VS rfl) (AI (VS rfl) (AI (VS rfl) TT))))) (AI (AI rfl BVw.tok) TT))

theorem f11_j5_ok {a0 : List UInt8} {v7 : Int} {v13 : List (List UInt8)} {m : Option Nat} {o : (((List (List UInt8)) × (List UInt8) × Int) ⊕ (List (List UInt8)))} (h : S_glossatorref3_Words_j5 m a0 v7 v13 = some o) :
    LWp Try.prog f11_lay 0 f11_c2 (QBlock 1 (QSeq Try.prog f11_lay 0 f11_c0 (BodyQ 0 1 (f11_L1_env a0) (f11_L1_hp a0) (f11_L1_Q a0) o))) [(0, .str a0), (3, .osl (0, 0) 1 (v13.map e_str)), (8, .int .i64 (W ((a0.length : Int) + 1))), (9, .int .i64 v7)] [((0, 0), .tok)] 1 := by
  unfold S_glossatorref3_Words_j5 at h
  refine regI ?_
  refine LWp.sim ?_ (f11_j6_ok h)
  exact simI (M := [((0, 0), (0, 0))]) rfl (AI (VS rfl) (AI (Vw.osl _ _ _ _ rfl) (AI (VS rfl) (AI (VS rfl) (AI (VS rfl) TT))))) (AI (AI rfl BVw.tok) TT)

noncomputable def S_glossatorref3_Words_j7 (m : Option Nat) (v5 : List (List UInt8)) : Option (List (List UInt8)) :=
  (S_glossatorref3_SortStrings m v5).bind fun v16 =>
  if (0 : Int) ≤ (if 400 < ((v16.map e_str).length : Int) then 400 else ((v16.map e_str).length : Int)) ∧ (if 400 < ((v16.map e_str).length : Int) then 400 else ((v16.map e_str).length : Int)) ≤ ((v16.map e_str).length : Int) then
  some (v16.take (if 400 < ((v16.map e_str).length : Int) then 400 else ((v16.map e_str).length : Int)).toNat)
  else none

noncomputable def S_glossatorref3_Words_b1 (m : Option Nat) (a0 : List UInt8) (v5 : List (List UInt8)) (v6 : List UInt8) (v7 : Int) : Option (((List (List UInt8)) × (List UInt8) × Int) ⊕ (List (List UInt8))) :=
  if (decide (v7 < (W ((a0.length : Int) + 1)))) = true then
    if (((decide (v7 < (a0.length : Int))) == true) = true → (0 : Int) ≤ v7 ∧ v7 < (a0.length : Int)) then
    (if ((decide (v7 < (a0.length : Int))) == true) = true then S_glossatorref3_wordByte m (((a0.getD v7.toNat 0).toNat : Nat) : Int) else some default).bind fun v12 =>
    if ((decide (v7 < (a0.length : Int))) && v12) = true then
      if (0 : Int) ≤ v7 ∧ v7 ≤ (W (v7 + 1)) ∧ (W (v7 + 1)) ≤ (a0.length : Int) then
      if (((v6.length + ((a0.take (W (v7 + 1)).toNat).drop v7.toNat).length : Nat) : Int) ≤ 9223372036854775807) then
      S_glossatorref3_Words_j6 m a0 v7 v5 (v6 ++ ((a0.take (W (v7 + 1)).toNat).drop v7.toNat))
      else none
      else none
    else
      if (!(v6 == ([] : List UInt8))) = true then
        if ((v5 ++ ([v6] : List (List UInt8))).map e_str).length * 16 ≤ 140737488355328 then
        S_glossatorref3_Words_j5 m a0 v7 (v5 ++ ([v6] : List (List UInt8)))
        else none
      else
        S_glossatorref3_Words_j5 m a0 v7 v5
    else none
  else
    Option.map Sum.inr (
      S_glossatorref3_Words_j7 m v5)

noncomputable def S_glossatorref3_Words_l1 (m : Option Nat) (a0 : List UInt8) (v5 : List (List UInt8)) (v6 : List UInt8) (v7 : Int) : Option (List (List UInt8)) := loopM m (fun (s : ((List (List UInt8)) × (List UInt8) × Int)) => S_glossatorref3_Words_b1 m a0 s.1 s.2.1 s.2.2) (v5, v6, v7)

theorem f11_j7_ok {a0 : List UInt8} {v5 : List (List UInt8)} {m : Option Nat} {o : (List (List UInt8))} (h : S_glossatorref3_Words_j7 m v5 = some o) :
    LWp Try.prog f11_lay 0 f11_c1 (f11_Q a0 o) [(3, .osl (0, 0) 1 (v5.map e_str))] [((0, 0), .tok)] 1 := by
  unfold S_glossatorref3_Words_j7 at h
  refine seqI ?_
  refine regI ?_
  obtain ⟨v16, h25, h⟩ := bind_some h
  refine PFn.call (f32_ok h25) (AI (Vw.oslI _ _ _) TT) ?_
  refine seqI ?_
  refine regI ?_
  obtain ⟨h26, h⟩ := ite_some h
  refine EX (.isl 1 ((v16.take (if 400 < ((v16.map e_str).length : Int) then 400 else ((v16.map e_str).length : Int)).toNat).map e_str) false) (AI (sl_eq e_str (slB e_str v16 _) rfl) (AI (AI rfl (AI (Int.le_refl _) h26)) ?_))
  refine LWp.sim (e := [(2, .isl 1 ((v16.take (if 400 < ((v16.map e_str).length : Int) then 400 else ((v16.map e_str).length : Int)).toNat).map e_str) false)]) (L := []) (n := 0) ?_ ?_
  · exact simI (M := []) rfl (AI (VS rfl) TT) TT
  refine retI ?_
  cases h
  exact AI TT (AI rfl (VS rfl))

theorem f11_L1_bok {a0 : List UInt8} {v5 : List (List UInt8)} {v6 : List UInt8} {v7 : Int} {m : Option Nat} {o : ((List (List UInt8)) × (List UInt8) × Int) ⊕ (List (List UInt8))} (h : S_glossatorref3_Words_b1 m a0 v5 v6 v7 = some o) :
    LWp Try.prog f11_lay 0 f11_c3 (BodyQ 0 1 (f11_L1_env a0) (f11_L1_hp a0) (f11_L1_Q a0) o) [(0, .str a0), (3, .osl (0, 0) 1 (v5.map e_str)), (4, .str v6), (8, .int .i64 (W ((a0.length : Int) + 1))), (9, .int .i64 v7)] [((0, 0), .tok)] 1 := by
  unfold S_glossatorref3_Words_b1 at h
  refine seqI ?_
  refine regI ?_
  refine seqI ?_
  refine condI (v := (decide (v7 < (W ((a0.length : Int) + 1))))) rfl TT (fun h17 => ?_) (fun h17 => ?_)
  · have h := ite_tt h17 h
    refine skipI ?_
    refine seqI ?_
    refine blockI ?_
    refine seqI ?_
    refine regI ?_
    refine seqI ?_
    refine seqI ?_
    refine regI ?_
    obtain ⟨h18, h⟩ := ite_some h
    refine AI (fun hp => (AI (AI hp hp) (h18 hp))) ?_
    obtain ⟨v12, h19, h⟩ := bind_some h
    refine Or.inl (EX (.bool v12) (AI (fun hp => AI hp (PFn.call (f31_ok (ite_tt hp h19)) (AI (VS rfl) TT) (AI rfl (AI rfl rfl)))) ?_))
    refine AI (fun hc => (bqt hc)) ?_
    refine LWp.sim (e := [(0, .str a0), (3, .osl (0, 0) 1 (v5.map e_str)), (4, .str v6), (5, .int .i64 v7), (8, .int .i64 (W ((a0.length : Int) + 1))), (9, .int .i64 v7), (21, .bool ((decide (v7 < (a0.length : Int))) && v12))]) (L := [((0, 0), .tok)]) (n := 1) ?_ ?_
    · exact simI (M := [((0, 0), (0, 0))]) rfl (AI (VS rfl) (AI (Vw.osl _ _ _ _ rfl) (AI (VS rfl) (AI (VS rfl) (AI (VS rfl) (AI (VS rfl) (AI (VS rfl) TT))))))) (AI (AI rfl BVw.tok) TT)
    refine condI (v := ((decide (v7 < (a0.length : Int))) && v12)) rfl TT (fun h20 => ?_) (fun h20 => ?_)
    · have h := ite_tt h20 h
      refine seqI ?_
      refine regI ?_
      obtain ⟨h21, h⟩ := ite_some h
      refine AI h21 ?_
      obtain ⟨h22, h⟩ := ite_some h
      refine AI h22 ?_
      refine LWp.sim (e := [(0, .str a0), (3, .osl (0, 0) 1 (v5.map e_str)), (4, .str (v6 ++ ((a0.take (W (v7 + 1)).toNat).drop v7.toNat))), (8, .int .i64 (W ((a0.length : Int) + 1))), (9, .int .i64 v7)]) (L := [((0, 0), .tok)]) (n := 1) ?_ ?_
      · exact simI (M := [((0, 0), (0, 0))]) rfl (AI (VS rfl) (AI (Vw.osl _ _ _ _ rfl) (AI (VS rfl) (AI (VS rfl) (AI (VS rfl) TT))))) (AI (AI rfl BVw.tok) TT)
      refine exitI ?_
      refine LWp.sim ?_ (f11_j6_ok h)
      exact simI (M := [((0, 0), (0, 0))]) rfl (AI (VS rfl) (AI (Vw.osl _ _ _ _ rfl) (AI (VS rfl) (AI (VS rfl) (AI (VS rfl) TT))))) (AI (AI rfl BVw.tok) TT)
    · have h := ite_ff h20 h
      refine skipI ?_
      refine seqI ?_
      refine seqI ?_
      refine regI ?_
      refine condI (v := (!(v6 == ([] : List UInt8)))) rfl TT (fun h23 => ?_) (fun h23 => ?_)
      · have h := ite_tt h23 h
        refine regI ?_
        obtain ⟨h24, h⟩ := ite_some h
        refine EX ((v5 ++ ([v6] : List (List UInt8))).map e_str) (AI (app_enc e_str v5 ([v6] : List (List UInt8))) (AI h24 ?_))
        refine LWp.sim ?_ (f11_j5_ok h)
        exact simI (M := [((0, 0), (1, 0))]) rfl (AI (VS rfl) (AI (Vw.osl _ _ _ _ rfl) (AI (VS rfl) (AI (VS rfl) TT)))) (AI (AI rfl BVw.tok) TT)
      · have h := ite_ff h23 h
        refine skipI ?_
        refine LWp.sim ?_ (f11_j5_ok h)
        exact simI (M := [((0, 0), (0, 0))]) rfl (AI (VS rfl) (AI (Vw.osl _ _ _ _ rfl) (AI (VS rfl) (AI (VS rfl) TT)))) (AI (AI rfl BVw.tok) TT)
  · have h := ite_ff h17 h
    refine exitI ?_
    obtain ⟨o, hq, rfl⟩ := Option.map_eq_some_iff.1 h
    replace h := hq; clear hq
    refine AI nofun ?_
    refine LWp.sim ?_ (f11_j7_ok h)
    exact simI (M := [((0, 0), (0, 0))]) rfl (AI (Vw.osl _ _ _ _ rfl) TT) (AI (AI rfl BVw.tok) TT)

theorem f11_L1_ok {a0 : List UInt8} {v5 : List (List UInt8)} {v6 : List UInt8} {v7 : Int} {m : Option Nat} {o : (List (List UInt8))} (h : S_glossatorref3_Words_l1 m a0 v5 v6 v7 = some o) :
    LWp Try.prog f11_lay 0 (.loop f11_c3) (QBlock 0 (QSeq Try.prog f11_lay 0 f11_c1 (f11_Q a0 o))) [(0, .str a0), (3, .osl (0, 0) 1 (v5.map e_str)), (4, .str v6), (8, .int .i64 (W ((a0.length : Int) + 1))), (9, .int .i64 v7)] [((0, 0), .tok)] 1 :=
  LWp_loopM (m := m) (s := ((v5, v6, v7) : ((List (List UInt8)) × (List UInt8) × Int))) (r := o) (fun (s : ((List (List UInt8)) × (List UInt8) × Int)) => S_glossatorref3_Words_b1 m a0 s.1 s.2.1 s.2.2) (f11_L1_env a0) (f11_L1_hp a0) (f11_L1_Q a0) (fun s o h => f11_L1_bok h) h

noncomputable def S_glossatorref3_Words (m : Option Nat) (a0 : List UInt8) : Option (List (List UInt8)) :=
  S_glossatorref3_Words_l1 m a0 [] ([] : List UInt8) 0

theorem f11_start {a0 : List UInt8} {m : Option Nat} {o : (List (List UInt8))} (h : S_glossatorref3_Words m a0 = some o) : LWp Try.prog f11_lay 0 f11_c4 (f11_Q a0 o) (initEnv 0 [.str a0]) [] 0 := by
  unfold S_glossatorref3_Words at h
  refine seqI ?_
  refine regI ?_
  refine seqI ?_
  refine regI ?_
  refine seqI ?_
  refine regI ?_
  refine seqI ?_
  refine seqI ?_
  refine regI ?_
  refine blockI ?_
  refine LWp.sim ?_ (f11_L1_ok h)
  exact simI (M := []) rfl (AI (VS rfl) (AI (Vw.nilO _ _ (by decide)) (AI (VS rfl) (AI (VS rfl) (AI (VS rfl) TT))))) (AI (AI rfl (AI (by decide) (by decide))) TT)

theorem f11_ok {a0 : List UInt8} {m : Option Nat} {o : (List (List UInt8))} (h : S_glossatorref3_Words m a0 = some o) : PFn Try.prog 11 [.str a0] (.isl 1 (o.map e_str) false) := PFn.ofFnW (L := f11_L) f11_low f11_fok (NB rfl) rfl (f11_start h)

def f22_c0 : LCode := (.seq (.region [⟨some 1, .box (.t 0), none⟩,
   ⟨some 2, .alloc [(.str []), (.int .u32 0), (.isl 1 [] true)], none⟩])
 (.seq (.draw [⟨⟨some 3, .faddr 0 (.t 1), none⟩, []⟩,
   ⟨⟨some 4, .load false 1 (.t 3), none⟩, []⟩,
   ⟨⟨some 5, .faddr 2 (.t 1), none⟩, []⟩,
   ⟨⟨some 6, .load false 1 (.t 5), none⟩, []⟩,
   ⟨⟨some 8, .faddr 2 (.t 1), none⟩, []⟩,
   ⟨⟨some 9, .load false 1 (.t 8), none⟩, []⟩,
   ⟨⟨some 7, .call 38 [(.t 6)], none⟩, [1, 5]⟩,
   ⟨⟨some 10, .call 11 [(.t 9)], none⟩, [1]⟩,
   ⟨⟨some 11, .build [(.str []), (.int .u32 0), (.isl 1 [] true)] [(0, 1, (.t 4)), (1, 1, (.t 7)), (2, 1, (.t 10))], none⟩, []⟩,
   ⟨⟨none, .store 3 (.t 2) (.t 11), none⟩, []⟩])
 .ret))
def f22_lay : Lay := ⟨12, [], false⟩
def f22_res : List LRes := [.cell 2 true 3]
def f22_L : LFn := ⟨1, f22_lay, f22_c0, f22_res⟩
theorem f22_low : lowFn Try.prog [] 22 = some f22_L := by kernel_rfl
theorem f22_fok : FnOk Try.prog 22 := ⟨_, Try.func22, rfl, rfl⟩
noncomputable def S_glossatorref3_Entry (m : Option Nat) (a0 : G_QDocument) : Option G_QIndexEntry :=
  (S_glossatorref3_Checksum m a0.f_Text).bind fun v1 =>
  (S_glossatorref3_Words m a0.f_Text).bind fun v2 =>
  some (G_QIndexEntry.mk a0.f_Name v1 v2)

def f22_Q (a0 : G_QDocument) (o : G_QIndexEntry) : Exit → Env → AHeap → Nat → Prop := FinK f22_res (PureEnd (.agg [.str o.f_Name, .int .u32 o.f_Sum, .isl 1 (o.f_Words.map e_str) false]))

theorem f22_start {a0 : G_QDocument} {m : Option Nat} {o : G_QIndexEntry} (h : S_glossatorref3_Entry m a0 = some o) : LWp Try.prog f22_lay 0 f22_c0 (f22_Q a0 o) (initEnv 0 [.agg [.str a0.f_Name, .int .i64 a0.f_Version, .str a0.f_Text]]) [] 0 := by
  unfold S_glossatorref3_Entry at h
  refine seqI ?_
  refine regI ?_
  refine seqI ?_
  refine drawI ?_
  obtain ⟨v1, h1, h⟩ := bind_some h
  refine PFn.call (f38_ok h1) (AI (VS rfl) TT) ?_
  refine AI rfl ?_
  refine AI rfl ?_
  obtain ⟨v2, h2, h⟩ := bind_some h
  refine PFn.call (f11_ok h2) (AI (VS rfl) TT) ?_
  refine AI rfl ?_
  refine LWp.sim (e := [(2, .ptr (0, 0) 0 0)]) (L := [((0, 0), .one [.str a0.f_Name, .int .u32 v1, .isl 1 (v2.map e_str) false])]) (n := 1) ?_ ?_
  · exact simI (M := [((0, 0), (1, 0))]) rfl (AI (Vw.ptr _ _ _ _ rfl) TT) (AI (AI rfl (BVw.oneL (AI (VS rfl) (AI (VS rfl) (AI (VS rfl) TT))))) TT)
  refine retI ?_
  cases h
  exact AI (AI TT (AI rfl (NB rfl))) (AI rfl (VS rfl))

theorem f22_ok {a0 : G_QDocument} {m : Option Nat} {o : G_QIndexEntry} (h : S_glossatorref3_Entry m a0 = some o) : PFn Try.prog 22 [.agg [.str a0.f_Name, .int .i64 a0.f_Version, .str a0.f_Text]] (.agg [.str o.f_Name, .int .u32 o.f_Sum, .isl 1 (o.f_Words.map e_str) false]) := PFn.ofFnW (L := f22_L) f22_low f22_fok (NB rfl) rfl (f22_start h)

def f21_c2 : LCode := (.seq (.region [⟨some 28, .faddr 0 (.t 8), none⟩,
   ⟨some 29, .load false 1 (.t 28), none⟩,
   ⟨some 30, .faddr 0 (.t 3), none⟩,
   ⟨some 31, .load false 1 (.t 30), none⟩,
   ⟨some 32, .bin .neq (.t 29) (.t 31), none⟩])
 (.cond (.t 32)
  (.region [⟨some 33, .mv (.t 5), none⟩,
    ⟨some 34, .load true 3 (.t 8), none⟩,
    ⟨some 35, .mkSl true 3 [(.str []), (.int .u32 0), (.isl 1 [] true)] 1 [(0, (.t 34))], none⟩,
    ⟨some 36, .app true 3 48 (.t 33) (.t 35), none⟩,
    ⟨some 5, .mv (.t 36), none⟩])
  .skip))
def f21_c0 : LCode := (.region [⟨some 37, .bin .add (.t 11) (.c (.int .i64 1)), none⟩,
   ⟨some 11, .mv (.t 37), none⟩])
def f21_c3 : LCode := (.seq (.region [⟨some 12, .bin .lss (.t 11) (.t 10), none⟩])
 (.seq (.cond (.t 12)
  .skip
  (.exit 0))
 (.seq (.block 1
  (.seq (.region [⟨some 13, .iaddr 3 (.t 9) (.t 11), none⟩,
    ⟨some 14, .load true 3 (.t 13), none⟩,
    ⟨some 8, .alloc [(.str []), (.int .u32 0), (.isl 1 [] true)], none⟩,
    ⟨none, .store 3 (.t 8) (.t 14), none⟩])
  (.seq (.seq (.region [⟨some 15, .mv (.t 6), none⟩,
    ⟨some 16, .un .not (.t 15), none⟩,
    ⟨some 17, .mv (.t 16), none⟩,
    ⟨some 18, .faddr 0 (.t 8), some (17, true)⟩,
    ⟨some 19, .load false 1 (.t 18), some (17, true)⟩,
    ⟨some 20, .faddr 0 (.t 3), some (17, true)⟩,
    ⟨some 21, .load false 1 (.t 20), some (17, true)⟩,
    ⟨some 22, .bin .geq (.t 19) (.t 21), some (17, true)⟩,
    ⟨some 23, .pick (.t 17) (.t 22) (.c (.bool false)), none⟩])
  (.cond (.t 23)
   (.seq (.region [⟨some 24, .mv (.t 5), none⟩,
     ⟨some 25, .load true 3 (.t 3), none⟩,
     ⟨some 26, .mkSl true 3 [(.str []), (.int .u32 0), (.isl 1 [] true)] 1 [(0, (.t 25))], none⟩,
     ⟨some 27, .app true 3 48 (.t 24) (.t 26), none⟩,
     ⟨some 5, .mv (.t 27), none⟩])
   (.region [⟨some 6, .mv (.c (.bool true)), none⟩]))
   .skip))
  f21_c2)))
 f21_c0)))
def f21_c4 : LCode := (.seq (.region [⟨some 44, .mv (.t 5), none⟩,
   ⟨some 4, .mv (.t 44), none⟩])
 .ret)
def f21_c1 : LCode := (.seq (.seq (.region [⟨some 38, .mv (.t 6), none⟩,
   ⟨some 39, .un .not (.t 38), none⟩])
 (.cond (.t 39)
  (.region [⟨some 40, .mv (.t 5), none⟩,
    ⟨some 41, .load true 3 (.t 3), none⟩,
    ⟨some 42, .mkSl true 3 [(.str []), (.int .u32 0), (.isl 1 [] true)] 1 [(0, (.t 41))], none⟩,
    ⟨some 43, .app true 3 48 (.t 40) (.t 42), none⟩,
    ⟨some 5, .mv (.t 43), none⟩])
  .skip))
 f21_c4)
def f21_c5 : LCode := (.seq (.region [⟨some 3, .box (.t 1), none⟩,
   ⟨some 4, .mv (.c (.val (.slice none 0 0))), none⟩])
 (.seq (.region [⟨some 5, .mv (.c (.val (.slice none 0 0))), none⟩])
 (.seq (.region [⟨some 6, .mv (.c (.bool false)), none⟩])
 (.seq (.seq (.region [⟨some 9, .mv (.t 0), none⟩,
   ⟨some 10, .len false (.t 9), none⟩,
   ⟨some 11, .mv (.c (.int .i64 0)), none⟩])
 (.block 0
  (.loop
   f21_c3)))
 f21_c1))))
def f21_lay : Lay := ⟨45, [], false⟩
def f21_res : List LRes := [.t 4]
def f21_L : LFn := ⟨2, f21_lay, f21_c5, f21_res⟩
theorem f21_low : lowFn Try.prog [] 21 = some f21_L := by kernel_rfl
theorem f21_fok : FnOk Try.prog 21 := ⟨_, Try.func21, rfl, rfl⟩
def f21_Q (a0 : List G_QIndexEntry) (a1 : G_QIndexEntry) (o : (List G_QIndexEntry)) : Exit → Env → AHeap → Nat → Prop := FinK f21_res (PureEnd (.isl 3 (o.map e_QIndexEntry) false))

def f21_L1_env (a0 : List G_QIndexEntry) (a1 : G_QIndexEntry) (s : ((List G_QIndexEntry) × Bool × Int)) : Env := [(3, .ptr (0, 0) 0 0), (5, .osl (1, 0) 3 (s.1.map e_QIndexEntry)), (6, .bool s.2.1), (9, .isl 3 (a0.map e_QIndexEntry) false), (10, .int .i64 ((a0.map e_QIndexEntry).length : Int)), (11, .int .i64 s.2.2)]
def f21_L1_hp (a0 : List G_QIndexEntry) (a1 : G_QIndexEntry) (s : ((List G_QIndexEntry) × Bool × Int)) : AHeap := [((0, 0), .one [.str a1.f_Name, .int .u32 a1.f_Sum, .isl 1 (a1.f_Words.map e_str) false]), ((1, 0), .tok)]
def f21_L1_Q (a0 : List G_QIndexEntry) (a1 : G_QIndexEntry) (o : (List G_QIndexEntry)) : Exit → Env → AHeap → Nat → Prop := (QBlock 0 (QSeq Try.prog f21_lay 0 f21_c1 (f21_Q a0 a1 o)))

noncomputable def S_glossatorref3_InsertEntry_j6 (m : Option Nat) (a0 : List G_QIndexEntry) (a1 : G_QIndexEntry) (v6 : Int) (v11 : Bool) (v12 : List G_QIndexEntry) : Option (((List G_QIndexEntry) × Bool × Int) ⊕ (List G_QIndexEntry)) :=
  some (.inl (v12, v11, (W (v6 + 1))))

theorem f21_j6_ok {a0 : List G_QIndexEntry} {a1 : G_QIndexEntry} {v6 : Int} {v11 : Bool} {v12 : List G_QIndexEntry} {m : Option Nat} {o : (((List G_QIndexEntry) × Bool × Int) ⊕ (List G_QIndexEntry))} (h : S_glossatorref3_InsertEntry_j6 m a0 a1 v6 v11 v12 = some o) :
    LWp Try.prog f21_lay 0 f21_c0 (BodyQ 0 2 (f21_L1_env a0 a1) (f21_L1_hp a0 a1) (f21_L1_Q a0 a1) o) [(3, .ptr (0, 0) 0 0), (5, .osl (1, 0) 3 (v12.map e_QIndexEntry)), (6, .bool v11), (9, .isl 3 (a0.map e_QIndexEntry) false), (10, .int .i64 ((a0.map e_QIndexEntry).length : Int)), (11, .int .i64 v6)] [((0, 0), .one [.str a1.f_Name, .int .u32 a1.f_Sum, .isl 1 (a1.f_Words.map e_str) false]), ((1, 0), .tok)] 2 := by
  unfold S_glossatorref3_InsertEntry_j6 at h
  refine regI ?_
  cases h
  exact AI rfl (simI (M := [((0, 0), (0, 0)), ((1, 0), (1, 0))]) rfl (AI (Vw.ptr _ _ _ _ rfl) (AI (Vw.osl _ _ _ _ rfl) (AI (VS rfl) (AI (VS rfl) (AI (VS rfl) (AI (VS rfl) TT)))))) (AI (AI rfl (BVw.oneL (AI (VS rfl) (AI (VS rfl) (AI (VS rfl) TT))))) (AI (AI rfl BVw.tok) TT)))

noncomputable def S_glossatorref3_InsertEntry_j5 (m : Option Nat) (a0 : List G_QIndexEntry) (a1 : G_QIndexEntry) (v6 : Int) (v10 : List G_QIndexEntry) (v11 : Bool) : Option (((List G_QIndexEntry) × Bool × Int) ⊕ (List G_QIndexEntry)) :=
  if (!((a0.getD v6.toNat default).f_Name == a1.f_Name)) = true then
    if ((v10 ++ ([(G_QIndexEntry.mk ((a0.getD v6.toNat default).f_Name) ((a0.getD v6.toNat default).f_Sum) ((a0.getD v6.toNat default).f_Words))] : List G_QIndexEntry)).map e_QIndexEntry).length * 48 ≤ 140737488355328 then
    S_glossatorref3_InsertEntry_j6 m a0 a1 v6 v11 (v10 ++ ([(G_QIndexEntry.mk ((a0.getD v6.toNat default).f_Name) ((a0.getD v6.toNat default).f_Sum) ((a0.getD v6.toNat default).f_Words))] : List G_QIndexEntry))
    else none
  else
    S_glossatorref3_InsertEntry_j6 m a0 a1 v6 v11 v10

theorem f21_j5_ok {a0 : List G_QIndexEntry} {a1 : G_QIndexEntry} {v6 : Int} {v10 : List G_QIndexEntry} {v11 : Bool} {m : Option Nat} {o : (((List G_QIndexEntry) × Bool × Int) ⊕ (List G_QIndexEntry))} (h : S_glossatorref3_InsertEntry_j5 m a0 a1 v6 v10 v11 = some o) :
    LWp Try.prog f21_lay 0 f21_c2 (QBlock 1 (QSeq Try.prog f21_lay 0 f21_c0 (BodyQ 0 2 (f21_L1_env a0 a1) (f21_L1_hp a0 a1) (f21_L1_Q a0 a1) o))) [(3, .ptr (0, 0) 0 0), (5, .osl (1, 0) 3 (v10.map e_QIndexEntry)), (6, .bool v11), (8, .ptr (2, 0) 0 0), (9, .isl 3 (a0.map e_QIndexEntry) false), (10, .int .i64 ((a0.map e_QIndexEntry).length : Int)), (11, .int .i64 v6)] [((0, 0), .one [.str a1.f_Name, .int .u32 a1.f_Sum, .isl 1 (a1.f_Words.map e_str) false]), ((1, 0), .tok), ((2, 0), .one [.str ((a0.getD v6.toNat default).f_Name), .int .u32 ((a0.getD v6.toNat default).f_Sum), .isl 1 (((a0.getD v6.toNat default).f_Words).map e_str) false])] 3 := by
  unfold S_glossatorref3_InsertEntry_j5 at h
  refine seqI ?_
  refine regI ?_
  refine condI (v := (!((a0.getD v6.toNat default).f_Name == a1.f_Name))) rfl TT (fun h17 => ?_) (fun h17 => ?_)
  · have h := ite_tt h17 h
    refine regI ?_
    obtain ⟨h18, h⟩ := ite_some h
    refine EX ((v10 ++ ([(G_QIndexEntry.mk ((a0.getD v6.toNat default).f_Name) ((a0.getD v6.toNat default).f_Sum) ((a0.getD v6.toNat default).f_Words))] : List G_QIndexEntry)).map e_QIndexEntry) (AI (app_enc e_QIndexEntry v10 ([(G_QIndexEntry.mk ((a0.getD v6.toNat default).f_Name) ((a0.getD v6.toNat default).f_Sum) ((a0.getD v6.toNat default).f_Words))] : List G_QIndexEntry)) (AI h18 ?_))
    refine LWp.sim ?_ (f21_j6_ok h)
    exact simI (M := [((0, 0), (0, 0)), ((1, 0), (3, 0))]) rfl (AI (Vw.ptr _ _ _ _ rfl) (AI (Vw.osl _ _ _ _ rfl) (AI (VS rfl) (AI (VS rfl) (AI (VS rfl) (AI (VS rfl) TT)))))) (AI (AI rfl (BVw.oneL (AI (VS rfl) (AI (VS rfl) (AI (VS rfl) TT))))) (AI (AI rfl BVw.tok) TT))
  · have h := ite_ff h17 h
    refine skipI ?_
    refine LWp.sim ?_ (f21_j6_ok h)
    exact simI (M := [((0, 0), (0, 0)), ((1, 0), (1, 0))]) rfl (AI (Vw.ptr _ _ _ _ rfl) (AI (Vw.osl _ _ _ _ rfl) (AI (VS rfl) (AI (VS rfl) (AI (VS rfl) (AI (VS rfl) TT)))))) (AI (AI rfl (BVw.oneL (AI (VS rfl) (AI (VS rfl) (AI (VS rfl) TT))))) (AI (AI rfl BVw.tok) TT))

noncomputable def S_glossatorref3_InsertEntry_j8 (m : Option Nat) (v13 : List G_QIndexEntry) : Option (List G_QIndexEntry) :=
  some v13

noncomputable def S_glossatorref3_InsertEntry_j7 (m : Option Nat) (a1 : G_QIndexEntry) (v4 : List G_QIndexEntry) (v5 : Bool) : Option (List G_QIndexEntry) :=
  if (!v5) = true then
    if ((v4 ++ ([a1] : List G_QIndexEntry)).map e_QIndexEntry).length * 48 ≤ 140737488355328 then
    S_glossatorref3_InsertEntry_j8 m (v4 ++ ([a1] : List G_QIndexEntry))
    else none
  else
    S_glossatorref3_InsertEntry_j8 m v4

noncomputable def S_glossatorref3_InsertEntry_b1 (m : Option Nat) (a0 : List G_QIndexEntry) (a1 : G_QIndexEntry) (v4 : List G_QIndexEntry) (v5 : Bool) (v6 : Int) : Option (((List G_QIndexEntry) × Bool × Int) ⊕ (List G_QIndexEntry)) :=
  if (decide (v6 < ((a0.map e_QIndexEntry).length : Int))) = true then
    if (0 : Int) ≤ v6 ∧ v6 < ((a0.map e_QIndexEntry).length : Int) then
    if ((!v5) && (!(Op.bytesLess ((a0.getD v6.toNat default).f_Name) a1.f_Name))) = true then
      if ((v4 ++ ([a1] : List G_QIndexEntry)).map e_QIndexEntry).length * 48 ≤ 140737488355328 then
      S_glossatorref3_InsertEntry_j5 m a0 a1 v6 (v4 ++ ([a1] : List G_QIndexEntry)) true
      else none
    else
      S_glossatorref3_InsertEntry_j5 m a0 a1 v6 v4 v5
    else none
  else
    Option.map Sum.inr (
      S_glossatorref3_InsertEntry_j7 m a1 v4 v5)

noncomputable def S_glossatorref3_InsertEntry_l1 (m : Option Nat) (a0 : List G_QIndexEntry) (a1 : G_QIndexEntry) (v4 : List G_QIndexEntry) (v5 : Bool) (v6 : Int) : Option (List G_QIndexEntry) := loopM m (fun (s : ((List G_QIndexEntry) × Bool × Int)) => S_glossatorref3_InsertEntry_b1 m a0 a1 s.1 s.2.1 s.2.2) (v4, v5, v6)

theorem f21_j8_ok {a0 : List G_QIndexEntry} {a1 : G_QIndexEntry} {v13 : List G_QIndexEntry} {m : Option Nat} {o : (List G_QIndexEntry)} (h : S_glossatorref3_InsertEntry_j8 m v13 = some o) :
    LWp Try.prog f21_lay 0 f21_c4 (f21_Q a0 a1 o) [(5, .osl (0, 0) 3 (v13.map e_QIndexEntry))] [((0, 0), .tok)] 1 := by
  unfold S_glossatorref3_InsertEntry_j8 at h
  refine seqI ?_
  refine regI ?_
  refine retI ?_
  cases h
  exact AI TT (AI rfl (Vw.oslI _ _ _))

theorem f21_j7_ok {a0 : List G_QIndexEntry} {a1 : G_QIndexEntry} {v4 : List G_QIndexEntry} {v5 : Bool} {m : Option Nat} {o : (List G_QIndexEntry)} (h : S_glossatorref3_InsertEntry_j7 m a1 v4 v5 = some o) :
    LWp Try.prog f21_lay 0 f21_c1 (f21_Q a0 a1 o) [(3, .ptr (0, 0) 0 0), (5, .osl (1, 0) 3 (v4.map e_QIndexEntry)), (6, .bool v5)] [((0, 0), .one [.str a1.f_Name, .int .u32 a1.f_Sum, .isl 1 (a1.f_Words.map e_str) false]), ((1, 0), .tok)] 2 := by
  unfold S_glossatorref3_InsertEntry_j7 at h
  refine seqI ?_
  refine seqI ?_
  refine regI ?_
  refine condI (v := (!v5)) rfl TT (fun h19 => ?_) (fun h19 => ?_)
  · have h := ite_tt h19 h
    refine regI ?_
    obtain ⟨h20, h⟩ := ite_some h
    refine EX ((v4 ++ ([a1] : List G_QIndexEntry)).map e_QIndexEntry) (AI (app_enc e_QIndexEntry v4 ([a1] : List G_QIndexEntry)) (AI h20 ?_))
    refine LWp.sim ?_ (f21_j8_ok h)
    exact simI (M := [((0, 0), (2, 0))]) rfl (AI (Vw.osl _ _ _ _ rfl) TT) (AI (AI rfl BVw.tok) TT)
  · have h := ite_ff h19 h
    refine skipI ?_
    refine LWp.sim ?_ (f21_j8_ok h)
    exact simI (M := [((0, 0), (1, 0))]) rfl (AI (Vw.osl _ _ _ _ rfl) TT) (AI (AI rfl BVw.tok) TT)

theorem f21_L1_bok {a0 : List G_QIndexEntry} {a1 : G_QIndexEntry} {v4 : List G_QIndexEntry} {v5 : Bool} {v6 : Int} {m : Option Nat} {o : ((List G_QIndexEntry) × Bool × Int) ⊕ (List G_QIndexEntry)} (h : S_glossatorref3_InsertEntry_b1 m a0 a1 v4 v5 v6 = some o) :
    LWp Try.prog f21_lay 0 f21_c3 (BodyQ 0 2 (f21_L1_env a0 a1) (f21_L1_hp a0 a1) (f21_L1_Q a0 a1) o) [(3, .ptr (0, 0) 0 0), (5, .osl (1, 0) 3 (v4.map e_QIndexEntry)), (6, .bool v5), (9, .isl 3 (a0.map e_QIndexEntry) false), (10, .int .i64 ((a0.map e_QIndexEntry).length : Int)), (11, .int .i64 v6)] [((0, 0), .one [.str a1.f_Name, .int .u32 a1.f_Sum, .isl 1 (a1.f_Words.map e_str) false]), ((1, 0), .tok)] 2 := by
  unfold S_glossatorref3_InsertEntry_b1 at h
  refine seqI ?_
  refine regI ?_
  refine seqI ?_
  refine condI (v := (decide (v6 < ((a0.map e_QIndexEntry).length : Int)))) rfl TT (fun h13 => ?_) (fun h13 => ?_)
  · have h := ite_tt h13 h
    refine skipI ?_
    refine seqI ?_
    refine blockI ?_
    refine seqI ?_
    refine regI ?_
    obtain ⟨h14, h⟩ := ite_some h
    refine AI h14 ?_
    refine EX (e_QIndexEntry (a0.getD v6.toNat default)) (AI (getD_enc e_QIndexEntry _ _ (idx_ltL e_QIndexEntry h14)) (AI (AI (idx_lt h14) (NB rfl)) ?_))
    refine seqI ?_
    refine seqI ?_
    refine regI ?_
    refine AI (fun hp => hp) ?_
    refine AI (fun hp => hp) ?_
    refine AI (fun hp => (AI hp hp)) ?_
    refine AI (fun hc => (bqt hc)) ?_
    refine LWp.sim (e := [(3, .ptr (0, 0) 0 0), (5, .osl (1, 0) 3 (v4.map e_QIndexEntry)), (6, .bool v5), (8, .ptr (2, 0) 0 0), (9, .isl 3 (a0.map e_QIndexEntry) false), (10, .int .i64 ((a0.map e_QIndexEntry).length : Int)), (11, .int .i64 v6), (23, .bool ((!v5) && (!(Op.bytesLess ((a0.getD v6.toNat default).f_Name) a1.f_Name))))]) (L := [((0, 0), .one [.str a1.f_Name, .int .u32 a1.f_Sum, .isl 1 (a1.f_Words.map e_str) false]), ((1, 0), .tok), ((2, 0), .one [.str ((a0.getD v6.toNat default).f_Name), .int .u32 ((a0.getD v6.toNat default).f_Sum), .isl 1 (((a0.getD v6.toNat default).f_Words).map e_str) false])]) (n := 3) ?_ ?_
    · exact simI (M := [((0, 0), (0, 0)), ((1, 0), (1, 0)), ((2, 0), (2, 0))]) rfl (AI (Vw.ptr _ _ _ _ rfl) (AI (Vw.osl _ _ _ _ rfl) (AI (VS rfl) (AI (Vw.ptr _ _ _ _ rfl) (AI (VS rfl) (AI (VS rfl) (AI (VS rfl) (AI (VS rfl) TT)))))))) (AI (AI rfl (BVw.oneL (AI (VS rfl) (AI (VS rfl) (AI (VS rfl) TT))))) (AI (AI rfl BVw.tok) (AI (AI rfl (BVw.oneL (AI (VS rfl) (AI (VS rfl) (AI (VS rfl) TT))))) TT)))
    refine condI (v := ((!v5) && (!(Op.bytesLess ((a0.getD v6.toNat default).f_Name) a1.f_Name)))) rfl TT (fun h15 => ?_) (fun h15 => ?_)
    · have h := ite_tt h15 h
      refine seqI ?_
      refine regI ?_
      obtain ⟨h16, h⟩ := ite_some h
      refine EX ((v4 ++ ([a1] : List G_QIndexEntry)).map e_QIndexEntry) (AI (app_enc e_QIndexEntry v4 ([a1] : List G_QIndexEntry)) (AI h16 ?_))
      refine regI ?_
      refine LWp.sim ?_ (f21_j5_ok h)
      exact simI (M := [((0, 0), (0, 0)), ((1, 0), (3, 0)), ((2, 0), (2, 0))]) rfl (AI (Vw.ptr _ _ _ _ rfl) (AI (Vw.osl _ _ _ _ rfl) (AI (VS rfl) (AI (Vw.ptr _ _ _ _ rfl) (AI (VS rfl) (AI (VS rfl) (AI (VS rfl) TT))))))) (AI (AI rfl (BVw.oneL (AI (VS rfl) (AI (VS rfl) (AI (VS rfl) TT))))) (AI (AI rfl BVw.tok) (AI (AI rfl (BVw.oneL (AI (VS rfl) (AI (VS rfl) (AI (VS rfl) TT))))) TT)))
    · have h := ite_ff h15 h
      refine skipI ?_
      refine LWp.sim ?_ (f21_j5_ok h)
      exact simI (M := [((0, 0), (0, 0)), ((1, 0), (1, 0)), ((2, 0), (2, 0))]) rfl (AI (Vw.ptr _ _ _ _ rfl) (AI (Vw.osl _ _ _ _ rfl) (AI (VS rfl) (AI (Vw.ptr _ _ _ _ rfl) (AI (VS rfl) (AI (VS rfl) (AI (VS rfl) TT))))))) (AI (AI rfl (BVw.oneL (AI (VS rfl) (AI (VS rfl) (AI (VS rfl) TT))))) (AI (AI rfl BVw.tok) (AI (AI rfl (BVw.oneL (AI (VS rfl) (AI (VS rfl) (AI (VS rfl) TT))))) TT)))
  · have h := ite_ff h13 h
    refine exitI ?_
    obtain ⟨o, hq, rfl⟩ := Option.map_eq_some_iff.1 h
    replace h := hq; clear hq
    refine AI nofun ?_
    refine LWp.sim ?_ (f21_j7_ok h)
    exact simI (M := [((0, 0), (0, 0)), ((1, 0), (1, 0))]) rfl (AI (Vw.ptr _ _ _ _ rfl) (AI (Vw.osl _ _ _ _ rfl) (AI (VS rfl) TT))) (AI (AI rfl (BVw.oneL (AI (VS rfl) (AI (VS rfl) (AI (VS rfl) TT))))) (AI (AI rfl BVw.tok) TT))

theorem f21_L1_ok {a0 : List G_QIndexEntry} {a1 : G_QIndexEntry} {v4 : List G_QIndexEntry} {v5 : Bool} {v6 : Int} {m : Option Nat} {o : (List G_QIndexEntry)} (h : S_glossatorref3_InsertEntry_l1 m a0 a1 v4 v5 v6 = some o) :
    LWp Try.prog f21_lay 0 (.loop f21_c3) (QBlock 0 (QSeq Try.prog f21_lay 0 f21_c1 (f21_Q a0 a1 o))) [(3, .ptr (0, 0) 0 0), (5, .osl (1, 0) 3 (v4.map e_QIndexEntry)), (6, .bool v5), (9, .isl 3 (a0.map e_QIndexEntry) false), (10, .int .i64 ((a0.map e_QIndexEntry).length : Int)), (11, .int .i64 v6)] [((0, 0), .one [.str a1.f_Name, .int .u32 a1.f_Sum, .isl 1 (a1.f_Words.map e_str) false]), ((1, 0), .tok)] 2 :=
  LWp_loopM (m := m) (s := ((v4, v5, v6) : ((List G_QIndexEntry) × Bool × Int))) (r := o) (fun (s : ((List G_QIndexEntry) × Bool × Int)) => S_glossatorref3_InsertEntry_b1 m a0 a1 s.1 s.2.1 s.2.2) (f21_L1_env a0 a1) (f21_L1_hp a0 a1) (f21_L1_Q a0 a1) (fun s o h => f21_L1_bok h) h

noncomputable def S_glossatorref3_InsertEntry (m : Option Nat) (a0 : List G_QIndexEntry) (a1 : G_QIndexEntry) : Option (List G_QIndexEntry) :=
  S_glossatorref3_InsertEntry_l1 m a0 a1 [] false 0

theorem f21_start {a0 : List G_QIndexEntry} {a1 : G_QIndexEntry} {m : Option Nat} {o : (List G_QIndexEntry)} (h : S_glossatorref3_InsertEntry m a0 a1 = some o) : LWp Try.prog f21_lay 0 f21_c5 (f21_Q a0 a1 o) (initEnv 0 [.isl 3 (a0.map e_QIndexEntry) false, .agg [.str a1.f_Name, .int .u32 a1.f_Sum, .isl 1 (a1.f_Words.map e_str) false]]) [] 0 := by
  unfold S_glossatorref3_InsertEntry at h
  refine seqI ?_
  refine regI ?_
  refine seqI ?_
  refine regI ?_
  refine seqI ?_
  refine regI ?_
  refine seqI ?_
  refine seqI ?_
  refine regI ?_
  refine blockI ?_
  refine LWp.sim ?_ (f21_L1_ok h)
  exact simI (M := [((0, 0), (0, 0))]) rfl (AI (Vw.ptr _ _ _ _ rfl) (AI (Vw.nilO _ _ (by decide)) (AI (VS rfl) (AI (VS rfl) (AI (VS rfl) (AI (VS rfl) TT)))))) (AI (AI rfl (BVw.oneL (AI (VS rfl) (AI (VS rfl) (AI (VS rfl) TT))))) (AI (AI rfl (AI (by decide) (by decide))) TT))

theorem f21_ok {a0 : List G_QIndexEntry} {a1 : G_QIndexEntry} {m : Option Nat} {o : (List G_QIndexEntry)} (h : S_glossatorref3_InsertEntry m a0 a1 = some o) : PFn Try.prog 21 [.isl 3 (a0.map e_QIndexEntry) false, .agg [.str a1.f_Name, .int .u32 a1.f_Sum, .isl 1 (a1.f_Words.map e_str) false]] (.isl 3 (o.map e_QIndexEntry) false) := PFn.ofFnW (L := f21_L) f21_low f21_fok (NB rfl) rfl (f21_start h)

def f12_c1 : LCode := (.seq (.region [⟨some 14, .bin .lss (.t 13) (.t 12), none⟩])
 (.seq (.cond (.t 14)
  .skip
  (.exit 0))
 (.seq (.block 1
  (.seq (.region [⟨some 15, .mv (.t 13), none⟩,
    ⟨some 5, .mv (.t 15), none⟩])
  (.seq (.draw [⟨⟨some 16, .mv (.t 0), none⟩, []⟩,
    ⟨⟨some 17, .mv (.t 5), none⟩, []⟩,
    ⟨⟨some 18, .iaddr 3 (.t 16) (.t 17), none⟩, []⟩,
    ⟨⟨some 19, .faddr 0 (.t 18), none⟩, []⟩,
    ⟨⟨some 20, .load false 1 (.t 19), none⟩, []⟩,
    ⟨⟨some 21, .mv (.t 1), none⟩, []⟩,
    ⟨⟨some 22, .mv (.t 5), none⟩, []⟩,
    ⟨⟨some 23, .iaddr 3 (.t 21) (.t 22), none⟩, []⟩,
    ⟨⟨some 24, .faddr 0 (.t 23), none⟩, []⟩,
    ⟨⟨some 25, .load false 1 (.t 24), none⟩, []⟩,
    ⟨⟨some 26, .bin .neq (.t 20) (.t 25), none⟩, []⟩,
    ⟨⟨some 27, .mv (.t 26), none⟩, []⟩,
    ⟨⟨some 28, .mv (.t 0), some (27, false)⟩, []⟩,
    ⟨⟨some 29, .mv (.t 5), some (27, false)⟩, []⟩,
    ⟨⟨some 30, .iaddr 3 (.t 28) (.t 29), some (27, false)⟩, []⟩,
    ⟨⟨some 31, .faddr 1 (.t 30), some (27, false)⟩, []⟩,
    ⟨⟨some 32, .load false 1 (.t 31), some (27, false)⟩, []⟩,
    ⟨⟨some 33, .mv (.t 1), some (27, false)⟩, []⟩,
    ⟨⟨some 34, .mv (.t 5), some (27, false)⟩, []⟩,
    ⟨⟨some 35, .iaddr 3 (.t 33) (.t 34), some (27, false)⟩, []⟩,
    ⟨⟨some 36, .faddr 1 (.t 35), some (27, false)⟩, []⟩,
    ⟨⟨some 37, .load false 1 (.t 36), some (27, false)⟩, []⟩,
    ⟨⟨some 38, .bin .neq (.t 32) (.t 37), some (27, false)⟩, []⟩,
    ⟨⟨some 39, .pick (.t 27) (.c (.bool true)) (.t 38), none⟩, []⟩,
    ⟨⟨some 40, .mv (.t 39), none⟩, []⟩,
    ⟨⟨some 41, .mv (.t 0), some (40, false)⟩, []⟩,
    ⟨⟨some 42, .mv (.t 5), some (40, false)⟩, []⟩,
    ⟨⟨some 43, .iaddr 3 (.t 41) (.t 42), some (40, false)⟩, []⟩,
    ⟨⟨some 44, .faddr 2 (.t 43), some (40, false)⟩, []⟩,
    ⟨⟨some 45, .load false 1 (.t 44), some (40, false)⟩, []⟩,
    ⟨⟨some 46, .mv (.t 1), some (40, false)⟩, []⟩,
    ⟨⟨some 47, .mv (.t 5), some (40, false)⟩, []⟩,
    ⟨⟨some 48, .iaddr 3 (.t 46) (.t 47), some (40, false)⟩, []⟩,
    ⟨⟨some 49, .faddr 2 (.t 48), some (40, false)⟩, []⟩,
    ⟨⟨some 50, .load false 1 (.t 49), some (40, false)⟩, []⟩,
    ⟨⟨some 51, .call 9 [(.t 45), (.t 50)], some (40, false)⟩, []⟩,
    ⟨⟨some 52, .un .not (.t 51), some (40, false)⟩, []⟩,
    ⟨⟨some 53, .pick (.t 40) (.c (.bool true)) (.t 52), none⟩, []⟩])
  (.cond (.t 53)
   (.seq (.region [⟨some 4, .mv (.c (.bool false)), none⟩])
   .ret)
   .skip))))
 (.region [⟨some 54, .bin .add (.t 13) (.c (.int .i64 1)), none⟩,
   ⟨some 13, .mv (.t 54), none⟩]))))
def f12_c0 : LCode := (.seq (.region [⟨some 4, .mv (.c (.bool true)), none⟩])
 .ret)
def f12_c2 : LCode := (.seq (.region [⟨some 4, .mv (.c (.bool false)), none⟩])
 (.seq (.seq (.region [⟨some 6, .mv (.t 0), none⟩,
   ⟨some 7, .len false (.t 6), none⟩,
   ⟨some 8, .mv (.t 1), none⟩,
   ⟨some 9, .len false (.t 8), none⟩,
   ⟨some 10, .bin .neq (.t 7) (.t 9), none⟩])
 (.cond (.t 10)
  (.seq (.region [⟨some 4, .mv (.c (.bool false)), none⟩])
  .ret)
  .skip))
 (.seq (.seq (.region [⟨some 11, .mv (.t 0), none⟩,
   ⟨some 12, .len false (.t 11), none⟩,
   ⟨some 13, .mv (.c (.int .i64 0)), none⟩])
 (.block 0
  (.loop
   f12_c1)))
 f12_c0)))
def f12_lay : Lay := ⟨55, [], false⟩
def f12_res : List LRes := [.t 4]
def f12_L : LFn := ⟨2, f12_lay, f12_c2, f12_res⟩
theorem f12_low : lowFn Try.prog [] 12 = some f12_L := by kernel_rfl
theorem f12_fok : FnOk Try.prog 12 := ⟨_, Try.func12, rfl, rfl⟩
def f12_Q (a0 : List G_QIndexEntry) (a1 : List G_QIndexEntry) (o : Bool) : Exit → Env → AHeap → Nat → Prop := FinK f12_res (PureEnd (.bool o))

def f12_L1_env (a0 : List G_QIndexEntry) (a1 : List G_QIndexEntry) (s : Int) : Env := [(0, .isl 3 (a0.map e_QIndexEntry) false), (1, .isl 3 (a1.map e_QIndexEntry) false), (12, .int .i64 ((a0.map e_QIndexEntry).length : Int)), (13, .int .i64 s)]
def f12_L1_hp (a0 : List G_QIndexEntry) (a1 : List G_QIndexEntry) (s : Int) : AHeap := []
def f12_L1_Q (a0 : List G_QIndexEntry) (a1 : List G_QIndexEntry) (o : Bool) : Exit → Env → AHeap → Nat → Prop := (QBlock 0 (QSeq Try.prog f12_lay 0 f12_c0 (f12_Q a0 a1 o)))

noncomputable def S_glossatorref3_EqualIndexes_j1 (m : Option Nat) : Option Bool :=
  some true

noncomputable def S_glossatorref3_EqualIndexes_b1 (m : Option Nat) (a0 : List G_QIndexEntry) (a1 : List G_QIndexEntry) (v2 : Int) : Option (Int ⊕ Bool) :=
  if (decide (v2 < ((a0.map e_QIndexEntry).length : Int))) = true then
    if (0 : Int) ≤ v2 ∧ v2 < ((a0.map e_QIndexEntry).length : Int) then
    if (0 : Int) ≤ v2 ∧ v2 < ((a1.map e_QIndexEntry).length : Int) then
    if (((!((a0.getD v2.toNat default).f_Name == (a1.getD v2.toNat default).f_Name)) == false) = true → (0 : Int) ≤ v2 ∧ v2 < ((a0.map e_QIndexEntry).length : Int)) then
    if (((!((a0.getD v2.toNat default).f_Name == (a1.getD v2.toNat default).f_Name)) == false) = true → (0 : Int) ≤ v2 ∧ v2 < ((a1.map e_QIndexEntry).length : Int)) then
    if ((((!((a0.getD v2.toNat default).f_Name == (a1.getD v2.toNat default).f_Name)) || ((a0.getD v2.toNat default).f_Sum != (a1.getD v2.toNat default).f_Sum)) == false) = true → (0 : Int) ≤ v2 ∧ v2 < ((a0.map e_QIndexEntry).length : Int)) then
    if ((((!((a0.getD v2.toNat default).f_Name == (a1.getD v2.toNat default).f_Name)) || ((a0.getD v2.toNat default).f_Sum != (a1.getD v2.toNat default).f_Sum)) == false) = true → (0 : Int) ≤ v2 ∧ v2 < ((a1.map e_QIndexEntry).length : Int)) then
    (if (((!((a0.getD v2.toNat default).f_Name == (a1.getD v2.toNat default).f_Name)) || ((a0.getD v2.toNat default).f_Sum != (a1.getD v2.toNat default).f_Sum)) == false) = true then S_glossatorref3_Equal_string m ((a0.getD v2.toNat default).f_Words) ((a1.getD v2.toNat default).f_Words) else some default).bind fun v4 =>
    if (((!((a0.getD v2.toNat default).f_Name == (a1.getD v2.toNat default).f_Name)) || ((a0.getD v2.toNat default).f_Sum != (a1.getD v2.toNat default).f_Sum)) || (!v4)) = true then
      Option.map Sum.inr (
        some false)
    else
      some (.inl (W (v2 + 1)))
    else none
    else none
    else none
    else none
    else none
    else none
  else
    Option.map Sum.inr (
      S_glossatorref3_EqualIndexes_j1 m)

noncomputable def S_glossatorref3_EqualIndexes_l1 (m : Option Nat) (a0 : List G_QIndexEntry) (a1 : List G_QIndexEntry) (v2 : Int) : Option Bool := loopM m (fun (s : Int) => S_glossatorref3_EqualIndexes_b1 m a0 a1 s) v2

theorem f12_j1_ok {a0 : List G_QIndexEntry} {a1 : List G_QIndexEntry} {m : Option Nat} {o : Bool} (h : S_glossatorref3_EqualIndexes_j1 m = some o) :
    LWp Try.prog f12_lay 0 f12_c0 (f12_Q a0 a1 o) [] [] 0 := by
  unfold S_glossatorref3_EqualIndexes_j1 at h
  refine seqI ?_
  refine regI ?_
  refine retI ?_
  cases h
  exact AI TT (AI rfl (VS rfl))

theorem f12_L1_bok {a0 : List G_QIndexEntry} {a1 : List G_QIndexEntry} {v2 : Int} {m : Option Nat} {o : Int ⊕ Bool} (h : S_glossatorref3_EqualIndexes_b1 m a0 a1 v2 = some o) :
    LWp Try.prog f12_lay 0 f12_c1 (BodyQ 0 0 (f12_L1_env a0 a1) (f12_L1_hp a0 a1) (f12_L1_Q a0 a1) o) [(0, .isl 3 (a0.map e_QIndexEntry) false), (1, .isl 3 (a1.map e_QIndexEntry) false), (12, .int .i64 ((a0.map e_QIndexEntry).length : Int)), (13, .int .i64 v2)] [] 0 := by
  unfold S_glossatorref3_EqualIndexes_b1 at h
  refine seqI ?_
  refine regI ?_
  refine seqI ?_
  refine condI (v := (decide (v2 < ((a0.map e_QIndexEntry).length : Int)))) rfl TT (fun h20 => ?_) (fun h20 => ?_)
  · have h := ite_tt h20 h
    refine skipI ?_
    refine seqI ?_
    refine blockI ?_
    refine seqI ?_
    refine regI ?_
    refine seqI ?_
    refine drawO rfl ?_
    obtain ⟨h21, h⟩ := ite_some h
    refine AI h21 ?_
    refine EX (e_QIndexEntry (a0.getD v2.toNat default)) (AI (getD_enc e_QIndexEntry _ _ (idx_ltL e_QIndexEntry h21)) (AI (AI (idx_lt h21) (NB rfl)) ?_))
    obtain ⟨h22, h⟩ := ite_some h
    refine AI h22 ?_
    refine EX (e_QIndexEntry (a1.getD v2.toNat default)) (AI (getD_enc e_QIndexEntry _ _ (idx_ltL e_QIndexEntry h22)) (AI (AI (idx_lt h22) (NB rfl)) ?_))
    obtain ⟨h23, h⟩ := ite_some h
    refine AI (fun hp => (AI (AI hp hp) (h23 hp))) ?_
    refine AI (fun hp => hp) ?_
    refine EX (e_QIndexEntry (a0.getD v2.toNat default)) (AI (fun hp => AI (getD_enc e_QIndexEntry _ _ (idx_ltL e_QIndexEntry (h23 hp))) (AI hp (AI (idx_lt (h23 hp)) (NB rfl)))) ?_)
    obtain ⟨h24, h⟩ := ite_some h
    refine AI (fun hp => (AI (AI hp hp) (h24 hp))) ?_
    refine AI (fun hp => hp) ?_
    refine EX (e_QIndexEntry (a1.getD v2.toNat default)) (AI (fun hp => AI (getD_enc e_QIndexEntry _ _ (idx_ltL e_QIndexEntry (h24 hp))) (AI hp (AI (idx_lt (h24 hp)) (NB rfl)))) ?_)
    refine AI (fun hp => (AI hp hp)) ?_
    refine AI (fun hc => (bqf hc)) ?_
    obtain ⟨h25, h⟩ := ite_some h
    refine AI (fun hp => (AI (AI hp hp) (h25 hp))) ?_
    refine AI (fun hp => hp) ?_
    refine EX (e_QIndexEntry (a0.getD v2.toNat default)) (AI (fun hp => AI (getD_enc e_QIndexEntry _ _ (idx_ltL e_QIndexEntry (h25 hp))) (AI hp (AI (idx_lt (h25 hp)) (NB rfl)))) ?_)
    obtain ⟨h26, h⟩ := ite_some h
    refine AI (fun hp => (AI (AI hp hp) (h26 hp))) ?_
    refine AI (fun hp => hp) ?_
    refine EX (e_QIndexEntry (a1.getD v2.toNat default)) (AI (fun hp => AI (getD_enc e_QIndexEntry _ _ (idx_ltL e_QIndexEntry (h26 hp))) (AI hp (AI (idx_lt (h26 hp)) (NB rfl)))) ?_)
    obtain ⟨v4, h27, h⟩ := bind_some h
    refine Or.inl (EX (.bool v4) (AI (fun hp => AI (AI hp hp) (PFn.call (f9_ok (ite_tt hp h27)) (AI (VS rfl) (AI (VS rfl) TT)) (AI rfl (AI rfl rfl)))) ?_))
    refine AI (fun hp => hp) ?_
    refine AI (fun hc => (bqf hc)) ?_
    refine LWp.sim (e := [(0, .isl 3 (a0.map e_QIndexEntry) false), (1, .isl 3 (a1.map e_QIndexEntry) false), (12, .int .i64 ((a0.map e_QIndexEntry).length : Int)), (13, .int .i64 v2), (53, .bool (((!((a0.getD v2.toNat default).f_Name == (a1.getD v2.toNat default).f_Name)) || ((a0.getD v2.toNat default).f_Sum != (a1.getD v2.toNat default).f_Sum)) || (!v4)))]) (L := []) (n := 0) ?_ ?_
    · exact simI (M := []) rfl (AI (VS rfl) (AI (VS rfl) (AI (VS rfl) (AI (VS rfl) (AI (VS rfl) TT))))) TT
    refine condI (v := (((!((a0.getD v2.toNat default).f_Name == (a1.getD v2.toNat default).f_Name)) || ((a0.getD v2.toNat default).f_Sum != (a1.getD v2.toNat default).f_Sum)) || (!v4))) rfl TT (fun h28 => ?_) (fun h28 => ?_)
    · have h := ite_tt h28 h
      refine seqI ?_
      refine regI ?_
      refine retI ?_
      obtain ⟨o, hq, rfl⟩ := Option.map_eq_some_iff.1 h
      replace h := hq; clear hq
      refine AI nofun ?_
      cases h
      exact AI TT (AI rfl (VS rfl))
    · have h := ite_ff h28 h
      refine skipI ?_
      refine regI ?_
      cases h
      exact AI rfl (simI (M := []) rfl (AI (VS rfl) (AI (VS rfl) (AI (VS rfl) (AI (VS rfl) TT)))) TT)
  · have h := ite_ff h20 h
    refine exitI ?_
    obtain ⟨o, hq, rfl⟩ := Option.map_eq_some_iff.1 h
    replace h := hq; clear hq
    refine AI nofun ?_
    refine LWp.sim ?_ (f12_j1_ok h)
    exact simI (M := []) rfl TT TT

theorem f12_L1_ok {a0 : List G_QIndexEntry} {a1 : List G_QIndexEntry} {v2 : Int} {m : Option Nat} {o : Bool} (h : S_glossatorref3_EqualIndexes_l1 m a0 a1 v2 = some o) :
    LWp Try.prog f12_lay 0 (.loop f12_c1) (QBlock 0 (QSeq Try.prog f12_lay 0 f12_c0 (f12_Q a0 a1 o))) [(0, .isl 3 (a0.map e_QIndexEntry) false), (1, .isl 3 (a1.map e_QIndexEntry) false), (12, .int .i64 ((a0.map e_QIndexEntry).length : Int)), (13, .int .i64 v2)] [] 0 :=
  LWp_loopM (m := m) (s := (v2 : Int)) (r := o) (fun (s : Int) => S_glossatorref3_EqualIndexes_b1 m a0 a1 s) (f12_L1_env a0 a1) (f12_L1_hp a0 a1) (f12_L1_Q a0 a1) (fun s o h => f12_L1_bok h) h

noncomputable def S_glossatorref3_EqualIndexes (m : Option Nat) (a0 : List G_QIndexEntry) (a1 : List G_QIndexEntry) : Option Bool :=
  if (((a0.map e_QIndexEntry).length : Int) != ((a1.map e_QIndexEntry).length : Int)) = true then
    some false
  else
    S_glossatorref3_EqualIndexes_l1 m a0 a1 0

theorem f12_start {a0 : List G_QIndexEntry} {a1 : List G_QIndexEntry} {m : Option Nat} {o : Bool} (h : S_glossatorref3_EqualIndexes m a0 a1 = some o) : LWp Try.prog f12_lay 0 f12_c2 (f12_Q a0 a1 o) (initEnv 0 [.isl 3 (a0.map e_QIndexEntry) false, .isl 3 (a1.map e_QIndexEntry) false]) [] 0 := by
  unfold S_glossatorref3_EqualIndexes at h
  refine seqI ?_
  refine regI ?_
  refine seqI ?_
  refine seqI ?_
  refine regI ?_
  refine condI (v := (((a0.map e_QIndexEntry).length : Int) != ((a1.map e_QIndexEntry).length : Int))) rfl TT (fun h1 => ?_) (fun h1 => ?_)
  · have h := ite_tt h1 h
    refine seqI ?_
    refine regI ?_
    refine retI ?_
    cases h
    exact AI TT (AI rfl (VS rfl))
  · have h := ite_ff h1 h
    refine skipI ?_
    refine seqI ?_
    refine seqI ?_
    refine regI ?_
    refine LWp.sim (e := [(0, .isl 3 (a0.map e_QIndexEntry) false), (1, .isl 3 (a1.map e_QIndexEntry) false), (12, .int .i64 ((a0.map e_QIndexEntry).length : Int)), (13, .int .i64 0)]) (L := []) (n := 0) ?_ ?_
    · exact simI (M := []) rfl (AI (VS rfl) (AI (VS rfl) (AI (VS rfl) (AI (VS rfl) TT)))) TT
    refine blockI ?_
    refine LWp.sim ?_ (f12_L1_ok h)
    exact simI (M := []) rfl (AI (VS rfl) (AI (VS rfl) (AI (VS rfl) (AI (VS rfl) TT)))) TT

theorem f12_ok {a0 : List G_QIndexEntry} {a1 : List G_QIndexEntry} {m : Option Nat} {o : Bool} (h : S_glossatorref3_EqualIndexes m a0 a1 = some o) : PFn Try.prog 12 [.isl 3 (a0.map e_QIndexEntry) false, .isl 3 (a1.map e_QIndexEntry) false] (.bool o) := PFn.ofFnW (L := f12_L) f12_low f12_fok (NB rfl) rfl (f12_start h)

def f5_c2 : LCode := (.seq (.region [⟨some 48, .faddr 2 (.t 19), none⟩,
   ⟨some 49, .load false 1 (.t 48), none⟩,
   ⟨some 50, .mv (.t 3), none⟩,
   ⟨some 51, .call 20 [(.t 49), (.t 50)], none⟩])
 (.cond (.t 51)
  (.region [⟨some 52, .mv (.t 17), none⟩,
    ⟨some 53, .faddr 0 (.t 19), none⟩,
    ⟨some 54, .load false 1 (.t 53), none⟩,
    ⟨some 55, .mkSl true 1 [(.str [])] 1 [(0, (.t 54))], none⟩,
    ⟨some 56, .app true 1 16 (.t 52) (.t 55), none⟩,
    ⟨some 17, .mv (.t 56), none⟩])
  .skip))
def f5_c0 : LCode := (.region [⟨some 57, .bin .add (.t 36) (.c (.int .i64 1)), none⟩,
   ⟨some 36, .mv (.t 57), none⟩])
def f5_c3 : LCode := (.seq (.region [⟨some 37, .bin .lss (.t 36) (.t 35), none⟩])
 (.seq (.cond (.t 37)
  .skip
  (.exit 0))
 (.seq (.block 1
  (.seq (.region [⟨some 38, .iaddr 3 (.t 34) (.t 36), none⟩,
    ⟨some 39, .load true 3 (.t 38), none⟩,
    ⟨some 19, .alloc [(.str []), (.int .u32 0), (.isl 1 [] true)], none⟩,
    ⟨none, .store 3 (.t 19) (.t 39), none⟩])
  (.seq (.seq (.region [⟨some 40, .faddr 0 (.t 19), none⟩,
    ⟨some 41, .load false 1 (.t 40), none⟩,
    ⟨some 42, .mv (.t 2), none⟩,
    ⟨some 43, .bin .eql (.t 41) (.t 42), none⟩])
  (.cond (.t 43)
   (.region [⟨some 14, .mv (.c (.int .i64 0)), none⟩])
   (.region [⟨some 44, .mv (.t 16), none⟩,
     ⟨some 45, .load true 3 (.t 19), none⟩,
     ⟨some 46, .mkSl true 3 [(.str []), (.int .u32 0), (.isl 1 [] true)] 1 [(0, (.t 45))], none⟩,
     ⟨some 47, .app true 3 48 (.t 44) (.t 46), none⟩,
     ⟨some 16, .mv (.t 47), none⟩])))
  f5_c2)))
 f5_c0)))
def f5_c4 : LCode := (.seq (.region [⟨some 75, .call 6 [], none⟩,
   ⟨some 76, .mv (.t 75), none⟩,
   ⟨some 77, .mv (.t 10), some (76, true)⟩,
   ⟨some 78, .mv (.t 13), some (76, true)⟩,
   ⟨some 79, .bin .eql (.t 77) (.t 78), some (76, true)⟩,
   ⟨some 80, .pick (.t 76) (.t 79) (.c (.bool false)), none⟩,
   ⟨some 81, .mv (.t 80), none⟩,
   ⟨some 82, .mv (.t 9), some (81, true)⟩,
   ⟨some 83, .mv (.t 15), some (81, true)⟩,
   ⟨some 84, .call 12 [(.t 82), (.t 83)], some (81, true)⟩,
   ⟨some 85, .pick (.t 81) (.t 84) (.c (.bool false)), none⟩,
   ⟨some 86, .mv (.t 85), none⟩,
   ⟨some 87, .mv (.t 12), some (86, true)⟩,
   ⟨some 88, .mv (.t 14), some (86, true)⟩,
   ⟨some 89, .bin .eql (.t 87) (.t 88), some (86, true)⟩,
   ⟨some 90, .pick (.t 86) (.t 89) (.c (.bool false)), none⟩,
   ⟨some 91, .mv (.t 90), none⟩,
   ⟨some 92, .mv (.t 11), some (91, true)⟩,
   ⟨some 93, .mv (.t 16), some (91, true)⟩,
   ⟨some 94, .call 12 [(.t 92), (.t 93)], some (91, true)⟩,
   ⟨some 95, .pick (.t 91) (.t 94) (.c (.bool false)), none⟩,
   ⟨some 96, .mv (.t 95), none⟩,
   ⟨some 97, .mv (.t 0), some (96, true)⟩,
   ⟨some 98, .mv (.t 3), some (96, true)⟩,
   ⟨some 99, .call 23 [(.t 97), (.t 98)], some (96, true)⟩,
   ⟨some 100, .mv (.t 17), some (96, true)⟩,
   ⟨some 101, .call 9 [(.t 99), (.t 100)], some (96, true)⟩,
   ⟨some 102, .pick (.t 96) (.t 101) (.c (.bool false)), none⟩,
   ⟨some 8, .mv (.t 102), none⟩])
 .ret)
def f5_c5 : LCode := (.seq (.seq (.region [⟨some 73, .mv (.t 14), none⟩,
   ⟨some 74, .bin .neq (.t 73) (.c (.int .i64 0)), none⟩])
 (.cond (.t 74)
  (.region [⟨some 16, .mv (.c (.val (.slice none 0 0))), none⟩])
  .skip))
 f5_c4)
def f5_c1 : LCode := (.seq (.seq (.region [⟨some 58, .mv (.t 0), none⟩,
   ⟨some 59, .call 15 [(.t 58)], none⟩,
   ⟨some 60, .un .not (.t 59), none⟩])
 (.cond (.t 60)
  (.region [⟨some 13, .mv (.c (.int .i64 3)), none⟩,
    ⟨some 14, .mv (.c (.int .i64 3)), none⟩])
  (.seq (.region [⟨some 61, .load true 3 (.t 5), none⟩,
    ⟨some 62, .mkSl true 3 [(.str []), (.int .i64 0), (.str [])] 1 [(0, (.t 61))], none⟩,
    ⟨some 63, .call 8 [(.t 62)], none⟩,
    ⟨some 13, .mv (.t 63), none⟩])
  (.seq (.region [⟨some 64, .mv (.t 13), none⟩,
    ⟨some 65, .bin .eql (.t 64) (.c (.int .i64 0)), none⟩])
  (.cond (.t 65)
   (.seq (.region [⟨some 66, .mv (.t 0), none⟩,
     ⟨some 67, .load true 3 (.t 5), none⟩,
     ⟨some 68, .call 22 [(.t 67)], none⟩,
     ⟨some 69, .call 21 [(.t 66), (.t 68)], none⟩,
     ⟨some 15, .mv (.t 69), none⟩])
   (.seq (.region [⟨some 70, .mv (.t 15), none⟩,
     ⟨some 71, .len false (.t 70), none⟩,
     ⟨some 72, .bin .gtr (.t 71) (.c (.int .i64 20)), none⟩])
   (.cond (.t 72)
    (.region [⟨some 15, .mv (.c (.val (.slice none 0 0))), none⟩,
      ⟨some 13, .mv (.c (.int .i64 2)), none⟩])
    .skip)))
   .skip)))))
 f5_c5)
def f5_c6 : LCode := (.seq (.region [⟨some 5, .box (.t 1), none⟩,
   ⟨some 8, .mv (.c (.bool false)), none⟩])
 (.seq (.seq (.region [⟨some 20, .call 6 [], none⟩,
   ⟨some 21, .un .not (.t 20), none⟩])
 (.cond (.t 21)
  (.seq (.region [⟨some 8, .mv (.c (.bool false)), none⟩])
  .ret)
  .skip))
 (.seq (.region [⟨some 23, .mv (.t 0), none⟩,
   ⟨some 24, .load true 3 (.t 5), none⟩,
   ⟨some 25, .call 18 [(.t 23), (.t 24)], none⟩,
   ⟨some 22, .mv (.t 25), none⟩,
   ⟨some 26, .ext 0 (.t 22), none⟩,
   ⟨some 27, .ext 1 (.t 22), none⟩,
   ⟨some 9, .mv (.t 26), none⟩,
   ⟨some 10, .mv (.t 27), none⟩])
 (.seq (.region [⟨some 29, .mv (.t 0), none⟩,
   ⟨some 30, .mv (.t 2), none⟩,
   ⟨some 31, .call 19 [(.t 29), (.t 30)], none⟩,
   ⟨some 28, .mv (.t 31), none⟩,
   ⟨some 32, .ext 0 (.t 28), none⟩,
   ⟨some 33, .ext 1 (.t 28), none⟩,
   ⟨some 11, .mv (.t 32), none⟩,
   ⟨some 12, .mv (.t 33), none⟩])
 (.seq (.region [⟨some 13, .mv (.c (.int .i64 0)), none⟩,
   ⟨some 14, .mv (.c (.int .i64 5)), none⟩])
 (.seq (.region [⟨some 15, .mv (.c (.val (.slice none 0 0))), none⟩,
   ⟨some 16, .mv (.c (.val (.slice none 0 0))), none⟩])
 (.seq (.region [⟨some 17, .mv (.c (.val (.slice none 0 0))), none⟩])
 (.seq (.seq (.region [⟨some 34, .mv (.t 0), none⟩,
   ⟨some 35, .len false (.t 34), none⟩,
   ⟨some 36, .mv (.c (.int .i64 0)), none⟩])
 (.block 0
  (.loop
   f5_c3)))
 f5_c1))))))))
def f5_lay : Lay := ⟨103, [], false⟩
def f5_res : List LRes := [.t 8]
def f5_L : LFn := ⟨4, f5_lay, f5_c6, f5_res⟩
theorem f5_low : lowFn Try.prog [] 5 = some f5_L := by kernel_rfl
theorem f5_fok : FnOk Try.prog 5 := ⟨_, Try.func5, rfl, rfl⟩
def f5_Q (a0 : List G_QIndexEntry) (a1 : G_QDocument) (a2 : List UInt8) (a3 : List UInt8) (o : Bool) : Exit → Env → AHeap → Nat → Prop := FinK f5_res (PureEnd (.bool o))

def f5_L1_env (a0 : List G_QIndexEntry) (a1 : G_QDocument) (a2 : List UInt8) (a3 : List UInt8) (v2 : (List G_QIndexEntry) × Int) (v3 : (List G_QIndexEntry) × Int) (s : (Int × (List G_QIndexEntry) × (List (List UInt8)) × Int)) : Env := [(0, .isl 3 (a0.map e_QIndexEntry) false), (2, .str a2), (3, .str a3), (5, .ptr (0, 0) 0 0), (9, .isl 3 (v2.1.map e_QIndexEntry) false), (10, .int .i64 v2.2), (11, .isl 3 (v3.1.map e_QIndexEntry) false), (12, .int .i64 v3.2), (14, .int .i64 s.1), (15, .val (.slice none 0 0)), (16, .osl (1, 0) 3 (s.2.1.map e_QIndexEntry)), (17, .osl (2, 0) 1 (s.2.2.1.map e_str)), (34, .isl 3 (a0.map e_QIndexEntry) false), (35, .int .i64 ((a0.map e_QIndexEntry).length : Int)), (36, .int .i64 s.2.2.2)]
def f5_L1_hp (a0 : List G_QIndexEntry) (a1 : G_QDocument) (a2 : List UInt8) (a3 : List UInt8) (v2 : (List G_QIndexEntry) × Int) (v3 : (List G_QIndexEntry) × Int) (s : (Int × (List G_QIndexEntry) × (List (List UInt8)) × Int)) : AHeap := [((0, 0), .one [.str a1.f_Name, .int .i64 a1.f_Version, .str a1.f_Text]), ((1, 0), .tok), ((2, 0), .tok)]
def f5_L1_Q (a0 : List G_QIndexEntry) (a1 : G_QDocument) (a2 : List UInt8) (a3 : List UInt8) (o : Bool) : Exit → Env → AHeap → Nat → Prop := (QBlock 0 (QSeq Try.prog f5_lay 0 f5_c1 (f5_Q a0 a1 a2 a3 o)))

noncomputable def S_glossatorlaw3_WordindexUpdate_j6 (m : Option Nat) (a0 : List G_QIndexEntry) (a1 : G_QDocument) (a2 : List UInt8) (a3 : List UInt8) (v2 : (List G_QIndexEntry) × Int) (v3 : (List G_QIndexEntry) × Int) (v11 : Int) (v16 : Int) (v17 : List G_QIndexEntry) (v19 : List (List UInt8)) : Option ((Int × (List G_QIndexEntry) × (List (List UInt8)) × Int) ⊕ Bool) :=
  some (.inl (v16, v17, v19, (W (v11 + 1))))

theorem f5_j6_ok {a0 : List G_QIndexEntry} {a1 : G_QDocument} {a2 : List UInt8} {a3 : List UInt8} {v2 : (List G_QIndexEntry) × Int} {v3 : (List G_QIndexEntry) × Int} {v11 : Int} {v16 : Int} {v17 : List G_QIndexEntry} {v19 : List (List UInt8)} {m : Option Nat} {o : ((Int × (List G_QIndexEntry) × (List (List UInt8)) × Int) ⊕ Bool)} (h : S_glossatorlaw3_WordindexUpdate_j6 m a0 a1 a2 a3 v2 v3 v11 v16 v17 v19 = some o) :
    LWp Try.prog f5_lay 0 f5_c0 (BodyQ 0 3 (f5_L1_env a0 a1 a2 a3 v2 v3) (f5_L1_hp a0 a1 a2 a3 v2 v3) (f5_L1_Q a0 a1 a2 a3) o) [(0, .isl 3 (a0.map e_QIndexEntry) false), (2, .str a2), (3, .str a3), (5, .ptr (0, 0) 0 0), (9, .isl 3 (v2.1.map e_QIndexEntry) false), (10, .int .i64 v2.2), (11, .isl 3 (v3.1.map e_QIndexEntry) false), (12, .int .i64 v3.2), (14, .int .i64 v16), (15, .val (.slice none 0 0)), (16, .osl (1, 0) 3 (v17.map e_QIndexEntry)), (17, .osl (2, 0) 1 (v19.map e_str)), (34, .isl 3 (a0.map e_QIndexEntry) false), (35, .int .i64 ((a0.map e_QIndexEntry).length : Int)), (36, .int .i64 v11)] [((0, 0), .one [.str a1.f_Name, .int .i64 a1.f_Version, .str a1.f_Text]), ((1, 0), .tok), ((2, 0), .tok)] 3 := by
  unfold S_glossatorlaw3_WordindexUpdate_j6 at h
  refine regI ?_
  cases h
  exact AI rfl (simI (M := [((0, 0), (0, 0)), ((1, 0), (1, 0)), ((2, 0), (2, 0))]) rfl (AI (VS rfl) (AI (VS rfl) (AI (VS rfl) (AI (Vw.ptr _ _ _ _ rfl) (AI (VS rfl) (AI (VS rfl) (AI (VS rfl) (AI (VS rfl) (AI (VS rfl) (AI (VS rfl) (AI (Vw.osl _ _ _ _ rfl) (AI (Vw.osl _ _ _ _ rfl) (AI (VS rfl) (AI (VS rfl) (AI (VS rfl) TT))))))))))))))) (AI (AI rfl (BVw.oneL (AI (VS rfl) (AI (VS rfl) (AI (VS rfl) TT))))) (AI (AI rfl BVw.tok) (AI (AI rfl BVw.tok) TT))))

noncomputable def S_glossatorlaw3_WordindexUpdate_j5 (m : Option Nat) (a0 : List G_QIndexEntry) (a1 : G_QDocument) (a2 : List UInt8) (a3 : List UInt8) (v2 : (List G_QIndexEntry) × Int) (v3 : (List G_QIndexEntry) × Int) (v10 : List (List UInt8)) (v11 : Int) (v16 : Int) (v17 : List G_QIndexEntry) : Option ((Int × (List G_QIndexEntry) × (List (List UInt8)) × Int) ⊕ Bool) :=
  (S_glossatorref3_Contains_string m ((a0.getD v11.toNat default).f_Words) a3).bind fun v18 =>
  if v18 = true then
    if ((v10 ++ ([(a0.getD v11.toNat default).f_Name] : List (List UInt8))).map e_str).length * 16 ≤ 140737488355328 then
    S_glossatorlaw3_WordindexUpdate_j6 m a0 a1 a2 a3 v2 v3 v11 v16 v17 (v10 ++ ([(a0.getD v11.toNat default).f_Name] : List (List UInt8)))
    else none
  else
    S_glossatorlaw3_WordindexUpdate_j6 m a0 a1 a2 a3 v2 v3 v11 v16 v17 v10

theorem f5_j5_ok {a0 : List G_QIndexEntry} {a1 : G_QDocument} {a2 : List UInt8} {a3 : List UInt8} {v2 : (List G_QIndexEntry) × Int} {v3 : (List G_QIndexEntry) × Int} {v10 : List (List UInt8)} {v11 : Int} {v16 : Int} {v17 : List G_QIndexEntry} {m : Option Nat} {o : ((Int × (List G_QIndexEntry) × (List (List UInt8)) × Int) ⊕ Bool)} (h : S_glossatorlaw3_WordindexUpdate_j5 m a0 a1 a2 a3 v2 v3 v10 v11 v16 v17 = some o) :
    LWp Try.prog f5_lay 0 f5_c2 (QBlock 1 (QSeq Try.prog f5_lay 0 f5_c0 (BodyQ 0 3 (f5_L1_env a0 a1 a2 a3 v2 v3) (f5_L1_hp a0 a1 a2 a3 v2 v3) (f5_L1_Q a0 a1 a2 a3) o))) [(0, .isl 3 (a0.map e_QIndexEntry) false), (2, .str a2), (3, .str a3), (5, .ptr (0, 0) 0 0), (9, .isl 3 (v2.1.map e_QIndexEntry) false), (10, .int .i64 v2.2), (11, .isl 3 (v3.1.map e_QIndexEntry) false), (12, .int .i64 v3.2), (14, .int .i64 v16), (15, .val (.slice none 0 0)), (16, .osl (1, 0) 3 (v17.map e_QIndexEntry)), (17, .osl (2, 0) 1 (v10.map e_str)), (19, .ptr (3, 0) 0 0), (34, .isl 3 (a0.map e_QIndexEntry) false), (35, .int .i64 ((a0.map e_QIndexEntry).length : Int)), (36, .int .i64 v11)] [((0, 0), .one [.str a1.f_Name, .int .i64 a1.f_Version, .str a1.f_Text]), ((1, 0), .tok), ((2, 0), .tok), ((3, 0), .one [.str ((a0.getD v11.toNat default).f_Name), .int .u32 ((a0.getD v11.toNat default).f_Sum), .isl 1 (((a0.getD v11.toNat default).f_Words).map e_str) false])] 4 := by
  unfold S_glossatorlaw3_WordindexUpdate_j5 at h
  refine seqI ?_
  refine regI ?_
  obtain ⟨v18, h23, h⟩ := bind_some h
  refine PFn.call (f20_ok h23) (AI (VS rfl) (AI (VS rfl) TT)) ?_
  refine condI (v := v18) rfl TT (fun h24 => ?_) (fun h24 => ?_)
  · have h := ite_tt h24 h
    refine regI ?_
    obtain ⟨h25, h⟩ := ite_some h
    refine EX ((v10 ++ ([(a0.getD v11.toNat default).f_Name] : List (List UInt8))).map e_str) (AI (app_enc e_str v10 ([(a0.getD v11.toNat default).f_Name] : List (List UInt8))) (AI h25 ?_))
    refine LWp.sim ?_ (f5_j6_ok h)
    exact simI (M := [((0, 0), (0, 0)), ((1, 0), (1, 0)), ((2, 0), (4, 0))]) rfl (AI (VS rfl) (AI (VS rfl) (AI (VS rfl) (AI (Vw.ptr _ _ _ _ rfl) (AI (VS rfl) (AI (VS rfl) (AI (VS rfl) (AI (VS rfl) (AI (VS rfl) (AI (VS rfl) (AI (Vw.osl _ _ _ _ rfl) (AI (Vw.osl _ _ _ _ rfl) (AI (VS rfl) (AI (VS rfl) (AI (VS rfl) TT))))))))))))))) (AI (AI rfl (BVw.oneL (AI (VS rfl) (AI (VS rfl) (AI (VS rfl) TT))))) (AI (AI rfl BVw.tok) (AI (AI rfl BVw.tok) TT)))
  · have h := ite_ff h24 h
    refine skipI ?_
    refine LWp.sim ?_ (f5_j6_ok h)
    exact simI (M := [((0, 0), (0, 0)), ((1, 0), (1, 0)), ((2, 0), (2, 0))]) rfl (AI (VS rfl) (AI (VS rfl) (AI (VS rfl) (AI (Vw.ptr _ _ _ _ rfl) (AI (VS rfl) (AI (VS rfl) (AI (VS rfl) (AI (VS rfl) (AI (VS rfl) (AI (VS rfl) (AI (Vw.osl _ _ _ _ rfl) (AI (Vw.osl _ _ _ _ rfl) (AI (VS rfl) (AI (VS rfl) (AI (VS rfl) TT))))))))))))))) (AI (AI rfl (BVw.oneL (AI (VS rfl) (AI (VS rfl) (AI (VS rfl) TT))))) (AI (AI rfl BVw.tok) (AI (AI rfl BVw.tok) TT)))

noncomputable def S_glossatorlaw3_WordindexUpdate_j9 (m : Option Nat) (a0 : List G_QIndexEntry) (a3 : List UInt8) (v2 : (List G_QIndexEntry) × Int) (v3 : (List G_QIndexEntry) × Int) (v10 : List (List UInt8)) (v24 : Int) (v25 : Int) (v26 : List G_QIndexEntry) (v27 : List G_QIndexEntry) : Option Bool :=
  (S_glossatorlaw3_indexExample m).bind fun v28 =>
  (if ((v28 && (v2.2 == v24)) == true) = true then S_glossatorref3_EqualIndexes m v2.1 v26 else some default).bind fun v29 =>
  (if ((((v28 && (v2.2 == v24)) && v29) && (v3.2 == v25)) == true) = true then S_glossatorref3_EqualIndexes m v3.1 v27 else some default).bind fun v30 =>
  (if (((((v28 && (v2.2 == v24)) && v29) && (v3.2 == v25)) && v30) == true) = true then S_wordindex_Find m a0 a3 else some default).bind fun v31 =>
  (if (((((v28 && (v2.2 == v24)) && v29) && (v3.2 == v25)) && v30) == true) = true then S_glossatorref3_Equal_string m v31 v10 else some default).bind fun v32 =>
  some (((((v28 && (v2.2 == v24)) && v29) && (v3.2 == v25)) && v30) && v32)

noncomputable def S_glossatorlaw3_WordindexUpdate_j8 (m : Option Nat) (a0 : List G_QIndexEntry) (a3 : List UInt8) (v2 : (List G_QIndexEntry) × Int) (v3 : (List G_QIndexEntry) × Int) (v9 : List G_QIndexEntry) (v10 : List (List UInt8)) (v24 : Int) (v25 : Int) (v26 : List G_QIndexEntry) : Option Bool :=
  if (v25 != 0) = true then
    S_glossatorlaw3_WordindexUpdate_j9 m a0 a3 v2 v3 v10 v24 v25 v26 []
  else
    S_glossatorlaw3_WordindexUpdate_j9 m a0 a3 v2 v3 v10 v24 v25 v26 v9

noncomputable def S_glossatorlaw3_WordindexUpdate_j7 (m : Option Nat) (a0 : List G_QIndexEntry) (a1 : G_QDocument) (a3 : List UInt8) (v2 : (List G_QIndexEntry) × Int) (v3 : (List G_QIndexEntry) × Int) (v8 : Int) (v9 : List G_QIndexEntry) (v10 : List (List UInt8)) : Option Bool :=
  (S_glossatorref3_ValidIndex m a0).bind fun v20 =>
  if (!v20) = true then
    S_glossatorlaw3_WordindexUpdate_j8 m a0 a3 v2 v3 v9 v10 3 3 []
  else
    (S_glossatorref3_CheckDocuments m ([a1] : List G_QDocument)).bind fun v21 =>
    if (v21 == 0) = true then
      (S_glossatorref3_Entry m a1).bind fun v22 =>
      (S_glossatorref3_InsertEntry m a0 v22).bind fun v23 =>
      if (decide (((v23.map e_QIndexEntry).length : Int) > 20)) = true then
        S_glossatorlaw3_WordindexUpdate_j8 m a0 a3 v2 v3 v9 v10 2 v8 []
      else
        S_glossatorlaw3_WordindexUpdate_j8 m a0 a3 v2 v3 v9 v10 v21 v8 v23
    else
      S_glossatorlaw3_WordindexUpdate_j8 m a0 a3 v2 v3 v9 v10 v21 v8 []

noncomputable def S_glossatorlaw3_WordindexUpdate_b1 (m : Option Nat) (a0 : List G_QIndexEntry) (a1 : G_QDocument) (a2 : List UInt8) (a3 : List UInt8) (v2 : (List G_QIndexEntry) × Int) (v3 : (List G_QIndexEntry) × Int) (v8 : Int) (v9 : List G_QIndexEntry) (v10 : List (List UInt8)) (v11 : Int) : Option ((Int × (List G_QIndexEntry) × (List (List UInt8)) × Int) ⊕ Bool) :=
  if (decide (v11 < ((a0.map e_QIndexEntry).length : Int))) = true then
    if (0 : Int) ≤ v11 ∧ v11 < ((a0.map e_QIndexEntry).length : Int) then
    if ((a0.getD v11.toNat default).f_Name == a2) = true then
      S_glossatorlaw3_WordindexUpdate_j5 m a0 a1 a2 a3 v2 v3 v10 v11 0 v9
    else
      if ((v9 ++ ([(G_QIndexEntry.mk ((a0.getD v11.toNat default).f_Name) ((a0.getD v11.toNat default).f_Sum) ((a0.getD v11.toNat default).f_Words))] : List G_QIndexEntry)).map e_QIndexEntry).length * 48 ≤ 140737488355328 then
      S_glossatorlaw3_WordindexUpdate_j5 m a0 a1 a2 a3 v2 v3 v10 v11 v8 (v9 ++ ([(G_QIndexEntry.mk ((a0.getD v11.toNat default).f_Name) ((a0.getD v11.toNat default).f_Sum) ((a0.getD v11.toNat default).f_Words))] : List G_QIndexEntry))
      else none
    else none
  else
    Option.map Sum.inr (
      S_glossatorlaw3_WordindexUpdate_j7 m a0 a1 a3 v2 v3 v8 v9 v10)

noncomputable def S_glossatorlaw3_WordindexUpdate_l1 (m : Option Nat) (a0 : List G_QIndexEntry) (a1 : G_QDocument) (a2 : List UInt8) (a3 : List UInt8) (v2 : (List G_QIndexEntry) × Int) (v3 : (List G_QIndexEntry) × Int) (v8 : Int) (v9 : List G_QIndexEntry) (v10 : List (List UInt8)) (v11 : Int) : Option Bool := loopM m (fun (s : (Int × (List G_QIndexEntry) × (List (List UInt8)) × Int)) => S_glossatorlaw3_WordindexUpdate_b1 m a0 a1 a2 a3 v2 v3 s.1 s.2.1 s.2.2.1 s.2.2.2) (v8, v9, v10, v11)

theorem f5_j9_ok {a1 : G_QDocument} {a2 : List UInt8} {a0 : List G_QIndexEntry} {a3 : List UInt8} {v2 : (List G_QIndexEntry) × Int} {v3 : (List G_QIndexEntry) × Int} {v10 : List (List UInt8)} {v24 : Int} {v25 : Int} {v26 : List G_QIndexEntry} {v27 : List G_QIndexEntry} {m : Option Nat} {o : Bool} (h : S_glossatorlaw3_WordindexUpdate_j9 m a0 a3 v2 v3 v10 v24 v25 v26 v27 = some o) :
    LWp Try.prog f5_lay 0 f5_c4 (f5_Q a0 a1 a2 a3 o) [(0, .isl 3 (a0.map e_QIndexEntry) false), (3, .str a3), (9, .isl 3 (v2.1.map e_QIndexEntry) false), (10, .int .i64 v2.2), (11, .isl 3 (v3.1.map e_QIndexEntry) false), (12, .int .i64 v3.2), (13, .int .i64 v24), (14, .int .i64 v25), (15, .isl 3 (v26.map e_QIndexEntry) false), (16, .osl (0, 0) 3 (v27.map e_QIndexEntry)), (17, .osl (1, 0) 1 (v10.map e_str))] [((0, 0), .tok), ((1, 0), .tok)] 2 := by
  unfold S_glossatorlaw3_WordindexUpdate_j9 at h
  refine seqI ?_
  refine regI ?_
  obtain ⟨v28, h34, h⟩ := bind_some h
  refine PFn.call (f6_ok h34) TT ?_
  refine AI (fun hp => (AI hp hp)) ?_
  refine AI (fun hc => (bqt hc)) ?_
  obtain ⟨v29, h35, h⟩ := bind_some h
  refine Or.inl (EX (.bool v29) (AI (fun hp => AI (AI hp hp) (PFn.call (f12_ok (ite_tt hp h35)) (AI (VS rfl) (AI (VS rfl) TT)) (AI rfl (AI rfl rfl)))) ?_))
  refine AI (fun hc => (bqt hc)) ?_
  refine AI (fun hp => (AI hp hp)) ?_
  refine AI (fun hc => (bqt hc)) ?_
  obtain ⟨v30, h36, h⟩ := bind_some h
  refine Or.inl (EX (.bool v30) (AI (fun hp => AI (AI hp hp) (PFn.call (f12_ok (ite_tt hp h36)) (AI (VS rfl) (AI (Vw.oslI _ _ _) TT)) (AI rfl (AI rfl rfl)))) ?_))
  refine AI (fun hc => (bqt hc)) ?_
  obtain ⟨v31, h37, h⟩ := bind_some h
  refine Or.inl (EX (.isl 1 (v31.map e_str) false) (AI (fun hp => AI (AI hp hp) (PFn.call (f23_ok (ite_tt hp h37)) (AI (VS rfl) (AI (VS rfl) TT)) (AI rfl (AI rfl rfl)))) ?_))
  obtain ⟨v32, h38, h⟩ := bind_some h
  refine Or.inl (EX (.bool v32) (AI (fun hp => AI (AI hp hp) (PFn.call (f9_ok (ite_tt hp h38)) (AI (VS rfl) (AI (Vw.oslI _ _ _) TT)) (AI rfl (AI rfl rfl)))) ?_))
  refine AI (fun hc => (bqt hc)) ?_
  refine LWp.sim (e := [(8, .bool (((((v28 && (v2.2 == v24)) && v29) && (v3.2 == v25)) && v30) && v32))]) (L := []) (n := 0) ?_ ?_
  · exact simI (M := []) rfl (AI (VS rfl) TT) TT
  refine retI ?_
  cases h
  exact AI TT (AI rfl (VS rfl))

theorem f5_j8_ok {a1 : G_QDocument} {a2 : List UInt8} {a0 : List G_QIndexEntry} {a3 : List UInt8} {v2 : (List G_QIndexEntry) × Int} {v3 : (List G_QIndexEntry) × Int} {v9 : List G_QIndexEntry} {v10 : List (List UInt8)} {v24 : Int} {v25 : Int} {v26 : List G_QIndexEntry} {m : Option Nat} {o : Bool} (h : S_glossatorlaw3_WordindexUpdate_j8 m a0 a3 v2 v3 v9 v10 v24 v25 v26 = some o) :
    LWp Try.prog f5_lay 0 f5_c5 (f5_Q a0 a1 a2 a3 o) [(0, .isl 3 (a0.map e_QIndexEntry) false), (3, .str a3), (9, .isl 3 (v2.1.map e_QIndexEntry) false), (10, .int .i64 v2.2), (11, .isl 3 (v3.1.map e_QIndexEntry) false), (12, .int .i64 v3.2), (13, .int .i64 v24), (14, .int .i64 v25), (15, .isl 3 (v26.map e_QIndexEntry) false), (16, .osl (0, 0) 3 (v9.map e_QIndexEntry)), (17, .osl (1, 0) 1 (v10.map e_str))] [((0, 0), .tok), ((1, 0), .tok)] 2 := by
  unfold S_glossatorlaw3_WordindexUpdate_j8 at h
  refine seqI ?_
  refine seqI ?_
  refine regI ?_
  refine condI (v := (v25 != 0)) rfl TT (fun h33 => ?_) (fun h33 => ?_)
  · have h := ite_tt h33 h
    refine regI ?_
    refine LWp.sim ?_ (f5_j9_ok h)
    exact simI (M := [((1, 0), (1, 0))]) rfl (AI (VS rfl) (AI (VS rfl) (AI (VS rfl) (AI (VS rfl) (AI (VS rfl) (AI (VS rfl) (AI (VS rfl) (AI (VS rfl) (AI (VS rfl) (AI (Vw.nilO _ _ (by decide)) (AI (Vw.osl _ _ _ _ rfl) TT))))))))))) (AI (AI rfl (AI (by decide) (by decide))) (AI (AI rfl BVw.tok) TT))
  · have h := ite_ff h33 h
    refine skipI ?_
    refine LWp.sim ?_ (f5_j9_ok h)
    exact simI (M := [((0, 0), (0, 0)), ((1, 0), (1, 0))]) rfl (AI (VS rfl) (AI (VS rfl) (AI (VS rfl) (AI (VS rfl) (AI (VS rfl) (AI (VS rfl) (AI (VS rfl) (AI (VS rfl) (AI (VS rfl) (AI (Vw.osl _ _ _ _ rfl) (AI (Vw.osl _ _ _ _ rfl) TT))))))))))) (AI (AI rfl BVw.tok) (AI (AI rfl BVw.tok) TT))

theorem f5_j7_ok {a2 : List UInt8} {a0 : List G_QIndexEntry} {a1 : G_QDocument} {a3 : List UInt8} {v2 : (List G_QIndexEntry) × Int} {v3 : (List G_QIndexEntry) × Int} {v8 : Int} {v9 : List G_QIndexEntry} {v10 : List (List UInt8)} {m : Option Nat} {o : Bool} (h : S_glossatorlaw3_WordindexUpdate_j7 m a0 a1 a3 v2 v3 v8 v9 v10 = some o) :
    LWp Try.prog f5_lay 0 f5_c1 (f5_Q a0 a1 a2 a3 o) [(0, .isl 3 (a0.map e_QIndexEntry) false), (3, .str a3), (5, .ptr (0, 0) 0 0), (9, .isl 3 (v2.1.map e_QIndexEntry) false), (10, .int .i64 v2.2), (11, .isl 3 (v3.1.map e_QIndexEntry) false), (12, .int .i64 v3.2), (14, .int .i64 v8), (15, .val (.slice none 0 0)), (16, .osl (1, 0) 3 (v9.map e_QIndexEntry)), (17, .osl (2, 0) 1 (v10.map e_str))] [((0, 0), .one [.str a1.f_Name, .int .i64 a1.f_Version, .str a1.f_Text]), ((1, 0), .tok), ((2, 0), .tok)] 3 := by
  unfold S_glossatorlaw3_WordindexUpdate_j7 at h
  refine seqI ?_
  refine seqI ?_
  refine regI ?_
  obtain ⟨v20, h26, h⟩ := bind_some h
  refine PFn.call (f15_ok h26) (AI (VS rfl) TT) ?_
  refine condI (v := (!v20)) rfl TT (fun h27 => ?_) (fun h27 => ?_)
  · have h := ite_tt h27 h
    refine regI ?_
    refine LWp.sim ?_ (f5_j8_ok h)
    exact simI (M := [((0, 0), (1, 0)), ((1, 0), (2, 0))]) rfl (AI (VS rfl) (AI (VS rfl) (AI (VS rfl) (AI (VS rfl) (AI (VS rfl) (AI (VS rfl) (AI (VS rfl) (AI (VS rfl) (AI (Vw.nilI _ _) (AI (Vw.osl _ _ _ _ rfl) (AI (Vw.osl _ _ _ _ rfl) TT))))))))))) (AI (AI rfl BVw.tok) (AI (AI rfl BVw.tok) TT))
  · have h := ite_ff h27 h
    refine seqI ?_
    refine regI ?_
    obtain ⟨v21, h28, h⟩ := bind_some h
    refine PFn.call (f8_ok h28) (AI (Vw.islF _ _ _) TT) ?_
    refine seqI ?_
    refine regI ?_
    refine LWp.sim (e := [(0, .isl 3 (a0.map e_QIndexEntry) false), (3, .str a3), (5, .ptr (0, 0) 0 0), (9, .isl 3 (v2.1.map e_QIndexEntry) false), (10, .int .i64 v2.2), (11, .isl 3 (v3.1.map e_QIndexEntry) false), (12, .int .i64 v3.2), (13, .int .i64 v21), (14, .int .i64 v8), (15, .val (.slice none 0 0)), (16, .osl (1, 0) 3 (v9.map e_QIndexEntry)), (17, .osl (2, 0) 1 (v10.map e_str)), (65, .bool (v21 == 0))]) (L := [((0, 0), .one [.str a1.f_Name, .int .i64 a1.f_Version, .str a1.f_Text]), ((1, 0), .tok), ((2, 0), .tok)]) (n := 3) ?_ ?_
    · exact simI (M := [((0, 0), (0, 0)), ((1, 0), (1, 0)), ((2, 0), (2, 0))]) rfl (AI (VS rfl) (AI (VS rfl) (AI (Vw.ptr _ _ _ _ rfl) (AI (VS rfl) (AI (VS rfl) (AI (VS rfl) (AI (VS rfl) (AI (VS rfl) (AI (VS rfl) (AI (VS rfl) (AI (Vw.osl _ _ _ _ rfl) (AI (Vw.osl _ _ _ _ rfl) (AI (VS rfl) TT))))))))))))) (AI (AI rfl (BVw.oneL (AI (VS rfl) (AI (VS rfl) (AI (VS rfl) TT))))) (AI (AI rfl BVw.tok) (AI (AI rfl BVw.tok) TT)))
    refine condI (v := (v21 == 0)) rfl TT (fun h29 => ?_) (fun h29 => ?_)
    · have h := ite_tt h29 h
      refine seqI ?_
      refine regI ?_
      obtain ⟨v22, h30, h⟩ := bind_some h
      refine PFn.call (f22_ok h30) (AI (VS rfl) TT) ?_
      obtain ⟨v23, h31, h⟩ := bind_some h
      refine PFn.call (f21_ok h31) (AI (VS rfl) (AI (VS rfl) TT)) ?_
      refine seqI ?_
      refine regI ?_
      refine LWp.sim (e := [(0, .isl 3 (a0.map e_QIndexEntry) false), (3, .str a3), (9, .isl 3 (v2.1.map e_QIndexEntry) false), (10, .int .i64 v2.2), (11, .isl 3 (v3.1.map e_QIndexEntry) false), (12, .int .i64 v3.2), (13, .int .i64 v21), (14, .int .i64 v8), (15, .isl 3 (v23.map e_QIndexEntry) false), (16, .osl (0, 0) 3 (v9.map e_QIndexEntry)), (17, .osl (1, 0) 1 (v10.map e_str)), (72, .bool (decide (((v23.map e_QIndexEntry).length : Int) > 20)))]) (L := [((0, 0), .tok), ((1, 0), .tok)]) (n := 2) ?_ ?_
      · exact simI (M := [((0, 0), (1, 0)), ((1, 0), (2, 0))]) rfl (AI (VS rfl) (AI (VS rfl) (AI (VS rfl) (AI (VS rfl) (AI (VS rfl) (AI (VS rfl) (AI (VS rfl) (AI (VS rfl) (AI (VS rfl) (AI (Vw.osl _ _ _ _ rfl) (AI (Vw.osl _ _ _ _ rfl) (AI (VS rfl) TT)))))))))))) (AI (AI rfl BVw.tok) (AI (AI rfl BVw.tok) TT))
      refine condI (v := (decide (((v23.map e_QIndexEntry).length : Int) > 20))) rfl TT (fun h32 => ?_) (fun h32 => ?_)
      · have h := ite_tt h32 h
        refine regI ?_
        refine LWp.sim ?_ (f5_j8_ok h)
        exact simI (M := [((0, 0), (0, 0)), ((1, 0), (1, 0))]) rfl (AI (VS rfl) (AI (VS rfl) (AI (VS rfl) (AI (VS rfl) (AI (VS rfl) (AI (VS rfl) (AI (VS rfl) (AI (VS rfl) (AI (Vw.nilI _ _) (AI (Vw.osl _ _ _ _ rfl) (AI (Vw.osl _ _ _ _ rfl) TT))))))))))) (AI (AI rfl BVw.tok) (AI (AI rfl BVw.tok) TT))
      · have h := ite_ff h32 h
        refine skipI ?_
        refine LWp.sim ?_ (f5_j8_ok h)
        exact simI (M := [((0, 0), (0, 0)), ((1, 0), (1, 0))]) rfl (AI (VS rfl) (AI (VS rfl) (AI (VS rfl) (AI (VS rfl) (AI (VS rfl) (AI (VS rfl) (AI (VS rfl) (AI (VS rfl) (AI (VS rfl) (AI (Vw.osl _ _ _ _ rfl) (AI (Vw.osl _ _ _ _ rfl) TT))))))))))) (AI (AI rfl BVw.tok) (AI (AI rfl BVw.tok) TT))
    · have h := ite_ff h29 h
      refine skipI ?_
      refine LWp.sim ?_ (f5_j8_ok h)
      exact simI (M := [((0, 0), (1, 0)), ((1, 0), (2, 0))]) rfl (AI (VS rfl) (AI (VS rfl) (AI (VS rfl) (AI (VS rfl) (AI (VS rfl) (AI (VS rfl) (AI (VS rfl) (AI (VS rfl) (AI (Vw.nilI _ _) (AI (Vw.osl _ _ _ _ rfl) (AI (Vw.osl _ _ _ _ rfl) TT))))))))))) (AI (AI rfl BVw.tok) (AI (AI rfl BVw.tok) TT))

theorem f5_L1_bok {a0 : List G_QIndexEntry} {a1 : G_QDocument} {a2 : List UInt8} {a3 : List UInt8} {v2 : (List G_QIndexEntry) × Int} {v3 : (List G_QIndexEntry) × Int} {v8 : Int} {v9 : List G_QIndexEntry} {v10 : List (List UInt8)} {v11 : Int} {m : Option Nat} {o : (Int × (List G_QIndexEntry) × (List (List UInt8)) × Int) ⊕ Bool} (h : S_glossatorlaw3_WordindexUpdate_b1 m a0 a1 a2 a3 v2 v3 v8 v9 v10 v11 = some o) :
    LWp Try.prog f5_lay 0 f5_c3 (BodyQ 0 3 (f5_L1_env a0 a1 a2 a3 v2 v3) (f5_L1_hp a0 a1 a2 a3 v2 v3) (f5_L1_Q a0 a1 a2 a3) o) [(0, .isl 3 (a0.map e_QIndexEntry) false), (2, .str a2), (3, .str a3), (5, .ptr (0, 0) 0 0), (9, .isl 3 (v2.1.map e_QIndexEntry) false), (10, .int .i64 v2.2), (11, .isl 3 (v3.1.map e_QIndexEntry) false), (12, .int .i64 v3.2), (14, .int .i64 v8), (15, .val (.slice none 0 0)), (16, .osl (1, 0) 3 (v9.map e_QIndexEntry)), (17, .osl (2, 0) 1 (v10.map e_str)), (34, .isl 3 (a0.map e_QIndexEntry) false), (35, .int .i64 ((a0.map e_QIndexEntry).length : Int)), (36, .int .i64 v11)] [((0, 0), .one [.str a1.f_Name, .int .i64 a1.f_Version, .str a1.f_Text]), ((1, 0), .tok), ((2, 0), .tok)] 3 := by
  unfold S_glossatorlaw3_WordindexUpdate_b1 at h
  refine seqI ?_
  refine regI ?_
  refine seqI ?_
  refine condI (v := (decide (v11 < ((a0.map e_QIndexEntry).length : Int)))) rfl TT (fun h19 => ?_) (fun h19 => ?_)
  · have h := ite_tt h19 h
    refine skipI ?_
    refine seqI ?_
    refine blockI ?_
    refine seqI ?_
    refine regI ?_
    obtain ⟨h20, h⟩ := ite_some h
    refine AI h20 ?_
    refine EX (e_QIndexEntry (a0.getD v11.toNat default)) (AI (getD_enc e_QIndexEntry _ _ (idx_ltL e_QIndexEntry h20)) (AI (AI (idx_lt h20) (NB rfl)) ?_))
    refine seqI ?_
    refine seqI ?_
    refine regI ?_
    refine LWp.sim (e := [(0, .isl 3 (a0.map e_QIndexEntry) false), (2, .str a2), (3, .str a3), (5, .ptr (0, 0) 0 0), (9, .isl 3 (v2.1.map e_QIndexEntry) false), (10, .int .i64 v2.2), (11, .isl 3 (v3.1.map e_QIndexEntry) false), (12, .int .i64 v3.2), (14, .int .i64 v8), (15, .val (.slice none 0 0)), (16, .osl (1, 0) 3 (v9.map e_QIndexEntry)), (17, .osl (2, 0) 1 (v10.map e_str)), (19, .ptr (3, 0) 0 0), (34, .isl 3 (a0.map e_QIndexEntry) false), (35, .int .i64 ((a0.map e_QIndexEntry).length : Int)), (36, .int .i64 v11), (43, .bool ((a0.getD v11.toNat default).f_Name == a2))]) (L := [((0, 0), .one [.str a1.f_Name, .int .i64 a1.f_Version, .str a1.f_Text]), ((1, 0), .tok), ((2, 0), .tok), ((3, 0), .one [.str ((a0.getD v11.toNat default).f_Name), .int .u32 ((a0.getD v11.toNat default).f_Sum), .isl 1 (((a0.getD v11.toNat default).f_Words).map e_str) false])]) (n := 4) ?_ ?_
    · exact simI (M := [((0, 0), (0, 0)), ((1, 0), (1, 0)), ((2, 0), (2, 0)), ((3, 0), (3, 0))]) rfl (AI (VS rfl) (AI (VS rfl) (AI (VS rfl) (AI (Vw.ptr _ _ _ _ rfl) (AI (VS rfl) (AI (VS rfl) (AI (VS rfl) (AI (VS rfl) (AI (VS rfl) (AI (VS rfl) (AI (Vw.osl _ _ _ _ rfl) (AI (Vw.osl _ _ _ _ rfl) (AI (Vw.ptr _ _ _ _ rfl) (AI (VS rfl) (AI (VS rfl) (AI (VS rfl) (AI (VS rfl) TT))))))))))))))))) (AI (AI rfl (BVw.oneL (AI (VS rfl) (AI (VS rfl) (AI (VS rfl) TT))))) (AI (AI rfl BVw.tok) (AI (AI rfl BVw.tok) (AI (AI rfl (BVw.oneL (AI (VS rfl) (AI (VS rfl) (AI (VS rfl) TT))))) TT))))
    refine condI (v := ((a0.getD v11.toNat default).f_Name == a2)) rfl TT (fun h21 => ?_) (fun h21 => ?_)
    · have h := ite_tt h21 h
      refine regI ?_
      refine LWp.sim ?_ (f5_j5_ok h)
      exact simI (M := [((0, 0), (0, 0)), ((1, 0), (1, 0)), ((2, 0), (2, 0)), ((3, 0), (3, 0))]) rfl (AI (VS rfl) (AI (VS rfl) (AI (VS rfl) (AI (Vw.ptr _ _ _ _ rfl) (AI (VS rfl) (AI (VS rfl) (AI (VS rfl) (AI (VS rfl) (AI (VS rfl) (AI (VS rfl) (AI (Vw.osl _ _ _ _ rfl) (AI (Vw.osl _ _ _ _ rfl) (AI (Vw.ptr _ _ _ _ rfl) (AI (VS rfl) (AI (VS rfl) (AI (VS rfl) TT)))))))))))))))) (AI (AI rfl (BVw.oneL (AI (VS rfl) (AI (VS rfl) (AI (VS rfl) TT))))) (AI (AI rfl BVw.tok) (AI (AI rfl BVw.tok) (AI (AI rfl (BVw.oneL (AI (VS rfl) (AI (VS rfl) (AI (VS rfl) TT))))) TT))))
    · have h := ite_ff h21 h
      refine regI ?_
      obtain ⟨h22, h⟩ := ite_some h
      refine EX ((v9 ++ ([(G_QIndexEntry.mk ((a0.getD v11.toNat default).f_Name) ((a0.getD v11.toNat default).f_Sum) ((a0.getD v11.toNat default).f_Words))] : List G_QIndexEntry)).map e_QIndexEntry) (AI (app_enc e_QIndexEntry v9 ([(G_QIndexEntry.mk ((a0.getD v11.toNat default).f_Name) ((a0.getD v11.toNat default).f_Sum) ((a0.getD v11.toNat default).f_Words))] : List G_QIndexEntry)) (AI h22 ?_))
      refine LWp.sim ?_ (f5_j5_ok h)
      exact simI (M := [((0, 0), (0, 0)), ((1, 0), (4, 0)), ((2, 0), (2, 0)), ((3, 0), (3, 0))]) rfl (AI (VS rfl) (AI (VS rfl) (AI (VS rfl) (AI (Vw.ptr _ _ _ _ rfl) (AI (VS rfl) (AI (VS rfl) (AI (VS rfl) (AI (VS rfl) (AI (VS rfl) (AI (VS rfl) (AI (Vw.osl _ _ _ _ rfl) (AI (Vw.osl _ _ _ _ rfl) (AI (Vw.ptr _ _ _ _ rfl) (AI (VS rfl) (AI (VS rfl) (AI (VS rfl) TT)))))))))))))))) (AI (AI rfl (BVw.oneL (AI (VS rfl) (AI (VS rfl) (AI (VS rfl) TT))))) (AI (AI rfl BVw.tok) (AI (AI rfl BVw.tok) (AI (AI rfl (BVw.oneL (AI (VS rfl) (AI (VS rfl) (AI (VS rfl) TT))))) TT))))
  · have h := ite_ff h19 h
    refine exitI ?_
    obtain ⟨o, hq, rfl⟩ := Option.map_eq_some_iff.1 h
    replace h := hq; clear hq
    refine AI nofun ?_
    refine LWp.sim ?_ (f5_j7_ok h)
    exact simI (M := [((0, 0), (0, 0)), ((1, 0), (1, 0)), ((2, 0), (2, 0))]) rfl (AI (VS rfl) (AI (VS rfl) (AI (Vw.ptr _ _ _ _ rfl) (AI (VS rfl) (AI (VS rfl) (AI (VS rfl) (AI (VS rfl) (AI (VS rfl) (AI (VS rfl) (AI (Vw.osl _ _ _ _ rfl) (AI (Vw.osl _ _ _ _ rfl) TT))))))))))) (AI (AI rfl (BVw.oneL (AI (VS rfl) (AI (VS rfl) (AI (VS rfl) TT))))) (AI (AI rfl BVw.tok) (AI (AI rfl BVw.tok) TT)))

theorem f5_L1_ok {a0 : List G_QIndexEntry} {a1 : G_QDocument} {a2 : List UInt8} {a3 : List UInt8} {v2 : (List G_QIndexEntry) × Int} {v3 : (List G_QIndexEntry) × Int} {v8 : Int} {v9 : List G_QIndexEntry} {v10 : List (List UInt8)} {v11 : Int} {m : Option Nat} {o : Bool} (h : S_glossatorlaw3_WordindexUpdate_l1 m a0 a1 a2 a3 v2 v3 v8 v9 v10 v11 = some o) :
    LWp Try.prog f5_lay 0 (.loop f5_c3) (QBlock 0 (QSeq Try.prog f5_lay 0 f5_c1 (f5_Q a0 a1 a2 a3 o))) [(0, .isl 3 (a0.map e_QIndexEntry) false), (2, .str a2), (3, .str a3), (5, .ptr (0, 0) 0 0), (9, .isl 3 (v2.1.map e_QIndexEntry) false), (10, .int .i64 v2.2), (11, .isl 3 (v3.1.map e_QIndexEntry) false), (12, .int .i64 v3.2), (14, .int .i64 v8), (15, .val (.slice none 0 0)), (16, .osl (1, 0) 3 (v9.map e_QIndexEntry)), (17, .osl (2, 0) 1 (v10.map e_str)), (34, .isl 3 (a0.map e_QIndexEntry) false), (35, .int .i64 ((a0.map e_QIndexEntry).length : Int)), (36, .int .i64 v11)] [((0, 0), .one [.str a1.f_Name, .int .i64 a1.f_Version, .str a1.f_Text]), ((1, 0), .tok), ((2, 0), .tok)] 3 :=
  LWp_loopM (m := m) (s := ((v8, v9, v10, v11) : (Int × (List G_QIndexEntry) × (List (List UInt8)) × Int))) (r := o) (fun (s : (Int × (List G_QIndexEntry) × (List (List UInt8)) × Int)) => S_glossatorlaw3_WordindexUpdate_b1 m a0 a1 a2 a3 v2 v3 s.1 s.2.1 s.2.2.1 s.2.2.2) (f5_L1_env a0 a1 a2 a3 v2 v3) (f5_L1_hp a0 a1 a2 a3 v2 v3) (f5_L1_Q a0 a1 a2 a3) (fun s o h => f5_L1_bok h) h

noncomputable def S_glossatorlaw3_WordindexUpdate (m : Option Nat) (a0 : List G_QIndexEntry) (a1 : G_QDocument) (a2 : List UInt8) (a3 : List UInt8) : Option Bool :=
  (S_glossatorlaw3_indexExample m).bind fun v1 =>
  if (!v1) = true then
    some false
  else
    (S_wordindex_Update m a0 a1).bind fun v2 =>
    (S_wordindex_Remove m a0 a2).bind fun v3 =>
    S_glossatorlaw3_WordindexUpdate_l1 m a0 a1 a2 a3 v2 v3 5 [] [] 0

theorem f5_start {a0 : List G_QIndexEntry} {a1 : G_QDocument} {a2 : List UInt8} {a3 : List UInt8} {m : Option Nat} {o : Bool} (h : S_glossatorlaw3_WordindexUpdate m a0 a1 a2 a3 = some o) : LWp Try.prog f5_lay 0 f5_c6 (f5_Q a0 a1 a2 a3 o) (initEnv 0 [.isl 3 (a0.map e_QIndexEntry) false, .agg [.str a1.f_Name, .int .i64 a1.f_Version, .str a1.f_Text], .str a2, .str a3]) [] 0 := by
  unfold S_glossatorlaw3_WordindexUpdate at h
  refine seqI ?_
  refine regI ?_
  refine seqI ?_
  refine seqI ?_
  refine regI ?_
  obtain ⟨v1, h1, h⟩ := bind_some h
  refine PFn.call (f6_ok h1) TT ?_
  refine condI (v := (!v1)) rfl TT (fun h2 => ?_) (fun h2 => ?_)
  · have h := ite_tt h2 h
    refine seqI ?_
    refine regI ?_
    refine retI ?_
    cases h
    exact AI TT (AI rfl (VS rfl))
  · have h := ite_ff h2 h
    refine skipI ?_
    refine seqI ?_
    refine regI ?_
    obtain ⟨v2, h3, h⟩ := bind_some h
    refine PFn.call (f18_ok h3) (AI (VS rfl) (AI (VS rfl) TT)) ?_
    refine LWp.sim (e := [(0, .isl 3 (a0.map e_QIndexEntry) false), (2, .str a2), (3, .str a3), (5, .ptr (0, 0) 0 0), (9, .isl 3 (v2.1.map e_QIndexEntry) false), (10, .int .i64 v2.2)]) (L := [((0, 0), .one [.str a1.f_Name, .int .i64 a1.f_Version, .str a1.f_Text])]) (n := 1) ?_ ?_
    · exact simI (M := [((0, 0), (0, 0))]) rfl (AI (VS rfl) (AI (VS rfl) (AI (VS rfl) (AI (Vw.ptr _ _ _ _ rfl) (AI (VS rfl) (AI (VS rfl) TT)))))) (AI (AI rfl (BVw.oneL (AI (VS rfl) (AI (VS rfl) (AI (VS rfl) TT))))) TT)
    refine seqI ?_
    refine regI ?_
    obtain ⟨v3, h4, h⟩ := bind_some h
    refine PFn.call (f19_ok h4) (AI (VS rfl) (AI (VS rfl) TT)) ?_
    refine LWp.sim (e := [(0, .isl 3 (a0.map e_QIndexEntry) false), (2, .str a2), (3, .str a3), (5, .ptr (0, 0) 0 0), (9, .isl 3 (v2.1.map e_QIndexEntry) false), (10, .int .i64 v2.2), (11, .isl 3 (v3.1.map e_QIndexEntry) false), (12, .int .i64 v3.2)]) (L := [((0, 0), .one [.str a1.f_Name, .int .i64 a1.f_Version, .str a1.f_Text])]) (n := 1) ?_ ?_
    · exact simI (M := [((0, 0), (0, 0))]) rfl (AI (VS rfl) (AI (VS rfl) (AI (VS rfl) (AI (Vw.ptr _ _ _ _ rfl) (AI (VS rfl) (AI (VS rfl) (AI (VS rfl) (AI (VS rfl) TT)))))))) (AI (AI rfl (BVw.oneL (AI (VS rfl) (AI (VS rfl) (AI (VS rfl) TT))))) TT)
    refine seqI ?_
    refine regI ?_
    refine seqI ?_
    refine regI ?_
    refine seqI ?_
    refine regI ?_
    refine seqI ?_
    refine seqI ?_
    refine regI ?_
    refine LWp.sim (e := [(0, .isl 3 (a0.map e_QIndexEntry) false), (2, .str a2), (3, .str a3), (5, .ptr (0, 0) 0 0), (9, .isl 3 (v2.1.map e_QIndexEntry) false), (10, .int .i64 v2.2), (11, .isl 3 (v3.1.map e_QIndexEntry) false), (12, .int .i64 v3.2), (14, .int .i64 5), (15, .val (.slice none 0 0)), (16, .val (.slice none 0 0)), (17, .val (.slice none 0 0)), (34, .isl 3 (a0.map e_QIndexEntry) false), (35, .int .i64 ((a0.map e_QIndexEntry).length : Int)), (36, .int .i64 0)]) (L := [((0, 0), .one [.str a1.f_Name, .int .i64 a1.f_Version, .str a1.f_Text])]) (n := 1) ?_ ?_
    · exact simI (M := [((0, 0), (0, 0))]) rfl (AI (VS rfl) (AI (VS rfl) (AI (VS rfl) (AI (Vw.ptr _ _ _ _ rfl) (AI (VS rfl) (AI (VS rfl) (AI (VS rfl) (AI (VS rfl) (AI (VS rfl) (AI (VS rfl) (AI (VS rfl) (AI (VS rfl) (AI (VS rfl) (AI (VS rfl) (AI (VS rfl) TT))))))))))))))) (AI (AI rfl (BVw.oneL (AI (VS rfl) (AI (VS rfl) (AI (VS rfl) TT))))) TT)
    refine blockI ?_
    refine LWp.sim ?_ (f5_L1_ok h)
    exact simI (M := [((0, 0), (0, 0))]) rfl (AI (VS rfl) (AI (VS rfl) (AI (VS rfl) (AI (Vw.ptr _ _ _ _ rfl) (AI (VS rfl) (AI (VS rfl) (AI (VS rfl) (AI (VS rfl) (AI (VS rfl) (AI (VS rfl) (AI (Vw.nilO _ _ (by decide)) (AI (Vw.nilO _ _ (by decide)) (AI (VS rfl) (AI (VS rfl) (AI (VS rfl) TT))))))))))))))) (AI (AI rfl (BVw.oneL (AI (VS rfl) (AI (VS rfl) (AI (VS rfl) TT))))) (AI (AI rfl (AI (by decide) (by decide))) (AI (AI rfl (AI (by decide) (by decide))) TT)))

theorem f5_ok {a0 : List G_QIndexEntry} {a1 : G_QDocument} {a2 : List UInt8} {a3 : List UInt8} {m : Option Nat} {o : Bool} (h : S_glossatorlaw3_WordindexUpdate m a0 a1 a2 a3 = some o) : PFn Try.prog 5 [.isl 3 (a0.map e_QIndexEntry) false, .agg [.str a1.f_Name, .int .i64 a1.f_Version, .str a1.f_Text], .str a2, .str a3] (.bool o) := PFn.ofFnW (L := f5_L) f5_low f5_fok (NB rfl) rfl (f5_start h)
end Go.Proofs.Yteepckliibfnkaa
