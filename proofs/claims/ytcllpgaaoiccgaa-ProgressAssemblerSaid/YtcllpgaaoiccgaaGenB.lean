/-
  Own text GenB of this claim: what functions of the given program compute, in plain Lean, and the proof; no condition.
-/
import Derived.Test.YtcllpgaaoiccgaaGenA
namespace Go.Proofs.Ytcllpgaaoiccgaa
open Go.Fx
set_option linter.unusedVariables false
def f9_c1 : LCode := (.region [⟨some 63, .bin .add (.t 34) (.c (.int .i64 1)), none⟩,
   ⟨some 34, .mv (.t 63), none⟩])
def f9_c2 : LCode := (.seq (.region [⟨some 35, .bin .lss (.t 34) (.t 33), none⟩])
 (.seq (.cond (.t 35)
  .skip
  (.exit 1))
 (.seq (.block 2
  (.seq (.region [⟨some 36, .iaddr 1 (.t 32) (.t 34), none⟩,
    ⟨some 37, .load false 1 (.t 36), none⟩,
    ⟨some 11, .mv (.t 37), none⟩])
  (.seq (.region [⟨some 38, .mv (.t 11), none⟩,
    ⟨some 39, .mnx true [(.t 38), (.c (.int .i64 0))], none⟩,
    ⟨some 40, .mv (.t 1), none⟩,
    ⟨some 41, .mnx false [(.t 39), (.t 40)], none⟩,
    ⟨some 42, .bin .mul (.t 41) (.c (.int .i64 100)), none⟩,
    ⟨some 43, .mv (.t 1), none⟩,
    ⟨some 44, .bin .quo (.t 42) (.t 43), none⟩,
    ⟨some 12, .mv (.t 44), none⟩])
  (.seq (.region [⟨some 45, .mv (.t 12), none⟩,
    ⟨some 46, .bin .eql (.t 45) (.c (.int .i64 100)), none⟩,
    ⟨some 47, .mv (.t 46), none⟩,
    ⟨some 48, .mv (.t 9), some (47, true)⟩,
    ⟨some 49, .bin .lss (.t 48) (.c (.int .i64 100)), some (47, true)⟩,
    ⟨some 50, .pick (.t 47) (.t 49) (.c (.bool false)), none⟩,
    ⟨some 51, .mv (.t 50), none⟩,
    ⟨some 52, .mv (.t 12), some (51, false)⟩,
    ⟨some 53, .mv (.t 9), some (51, false)⟩,
    ⟨some 54, .mv (.t 2), some (51, false)⟩,
    ⟨some 55, .bin .add (.t 53) (.t 54), some (51, false)⟩,
    ⟨some 56, .bin .geq (.t 52) (.t 55), some (51, false)⟩,
    ⟨some 57, .pick (.t 51) (.c (.bool true)) (.t 56), none⟩])
  (.cond (.t 57)
   (.seq (.region [⟨some 58, .mv (.t 8), none⟩,
     ⟨some 59, .mv (.t 12), none⟩,
     ⟨some 60, .mkSl true 1 [(.int .i64 0)] 1 [(0, (.t 59))], none⟩,
     ⟨some 61, .app true 1 8 (.t 58) (.t 60), none⟩,
     ⟨some 8, .mv (.t 61), none⟩])
   (.region [⟨some 62, .mv (.t 12), none⟩,
     ⟨some 9, .mv (.t 62), none⟩]))
   .skip)))))
 f9_c1)))
def f9_c0 : LCode := (.seq (.region [⟨some 64, .mv (.t 8), none⟩,
   ⟨some 6, .mv (.t 64), none⟩,
   ⟨some 7, .mv (.c (.int .i64 0)), none⟩])
 .ret)
def f9_c3 : LCode := (.seq (.region [⟨some 6, .mv (.c (.val (.slice none 0 0))), none⟩,
   ⟨some 7, .mv (.c (.int .i64 0)), none⟩])
 (.seq (.block 0
  (.seq (.region [⟨some 14, .mv (.t 1), none⟩,
    ⟨some 15, .bin .lss (.t 14) (.c (.int .i64 1)), none⟩,
    ⟨some 16, .mv (.t 15), none⟩,
    ⟨some 17, .mv (.t 1), some (16, false)⟩,
    ⟨some 18, .bin .gtr (.t 17) (.c (.int .i64 2147483647)), some (16, false)⟩,
    ⟨some 19, .pick (.t 16) (.c (.bool true)) (.t 18), none⟩,
    ⟨some 20, .mv (.t 19), none⟩,
    ⟨some 21, .mv (.t 2), some (20, false)⟩,
    ⟨some 22, .bin .lss (.t 21) (.c (.int .i64 1)), some (20, false)⟩,
    ⟨some 23, .pick (.t 20) (.c (.bool true)) (.t 22), none⟩,
    ⟨some 24, .mv (.t 23), none⟩,
    ⟨some 25, .mv (.t 2), some (24, false)⟩,
    ⟨some 26, .bin .gtr (.t 25) (.c (.int .i64 100)), some (24, false)⟩,
    ⟨some 27, .pick (.t 24) (.c (.bool true)) (.t 26), none⟩,
    ⟨some 13, .mv (.t 27), none⟩])
  (.cond (.t 13)
   (.seq (.region [⟨some 6, .mv (.c (.val (.slice none 0 0))), none⟩,
     ⟨some 7, .mv (.c (.int .i64 1)), none⟩])
   .ret)
   (.seq (.region [⟨some 29, .mv (.t 0), none⟩,
     ⟨some 30, .len false (.t 29), none⟩,
     ⟨some 31, .bin .gtr (.t 30) (.c (.int .i64 1000)), none⟩,
     ⟨some 28, .mv (.t 31), none⟩])
   (.cond (.t 28)
    (.seq (.region [⟨some 6, .mv (.c (.val (.slice none 0 0))), none⟩,
      ⟨some 7, .mv (.c (.int .i64 2)), none⟩])
    .ret)
    .skip)))))
 (.seq (.region [⟨some 8, .mv (.c (.val (.slice none 0 0))), none⟩])
 (.seq (.region [⟨some 9, .mv (.c (.int .i64 0)), none⟩])
 (.seq (.seq (.region [⟨some 32, .mv (.t 0), none⟩,
   ⟨some 33, .len false (.t 32), none⟩,
   ⟨some 34, .mv (.c (.int .i64 0)), none⟩])
 (.block 1
  (.loop
   f9_c2)))
 f9_c0)))))
def f9_lay : Lay := ⟨65, [], false⟩
def f9_res : List LRes := [.t 6, .t 7]
def f9_L : LFn := ⟨3, f9_lay, f9_c3, f9_res⟩
theorem f9_low : lowFn Try.prog [] 9 = some f9_L := by kernel_rfl
theorem f9_fok : FnOk Try.prog 9 := ⟨_, Try.func9, rfl, rfl⟩
def f9_Q (a0 : List Int) (a1 : Int) (a2 : Int) (o : (List Int) × Int) : Exit → Env → AHeap → Nat → Prop := FinK f9_res (PureEnd (.tup [.isl 1 (o.1.map e_i64) false, .int .i64 o.2]))

def f9_L1_env (a0 : List Int) (a1 : Int) (a2 : Int) (s : ((List Int) × Int × Int)) : Env := [(1, .int .i64 a1), (2, .int .i64 a2), (8, .osl (0, 0) 1 (s.1.map e_i64)), (9, .int .i64 s.2.1), (32, .isl 1 (a0.map e_i64) false), (33, .int .i64 ((a0.map e_i64).length : Int)), (34, .int .i64 s.2.2)]
def f9_L1_hp (a0 : List Int) (a1 : Int) (a2 : Int) (s : ((List Int) × Int × Int)) : AHeap := [((0, 0), .tok)]
def f9_L1_Q (a0 : List Int) (a1 : Int) (a2 : Int) (o : ((List Int) × Int)) : Exit → Env → AHeap → Nat → Prop := (QBlock 1 (QSeq Try.prog f9_lay 0 f9_c0 (f9_Q a0 a1 a2 o)))

noncomputable def S_progress_Percentages_j3 (m : Option Nat) (a0 : List Int) (a1 : Int) (a2 : Int) (v5 : Int) (v8 : List Int) (v9 : Int) : Option (((List Int) × Int × Int) ⊕ ((List Int) × Int)) :=
  some (.inl (v8, v9, (W (v5 + 1))))

theorem f9_j3_ok {a0 : List Int} {a1 : Int} {a2 : Int} {v5 : Int} {v8 : List Int} {v9 : Int} {m : Option Nat} {o : (((List Int) × Int × Int) ⊕ ((List Int) × Int))} (h : S_progress_Percentages_j3 m a0 a1 a2 v5 v8 v9 = some o) :
    LWp Try.prog f9_lay 0 f9_c1 (BodyQ 0 1 (f9_L1_env a0 a1 a2) (f9_L1_hp a0 a1 a2) (f9_L1_Q a0 a1 a2) o) [(1, .int .i64 a1), (2, .int .i64 a2), (8, .osl (0, 0) 1 (v8.map e_i64)), (9, .int .i64 v9), (32, .isl 1 (a0.map e_i64) false), (33, .int .i64 ((a0.map e_i64).length : Int)), (34, .int .i64 v5)] [((0, 0), .tok)] 1 := by
  unfold S_progress_Percentages_j3 at h
  refine regI ?_
  cases h
  exact And.intro rfl (simI (M := [((0, 0), (0, 0))]) rfl (And.intro (Vw.same _ rfl) (And.intro (Vw.same _ rfl) (And.intro (Vw.osl _ _ _ _ rfl) (And.intro (Vw.same _ rfl) (And.intro (Vw.same _ rfl) (And.intro (Vw.same _ rfl) (And.intro (Vw.same _ rfl) trivial))))))) (And.intro (And.intro rfl BVw.tok) trivial))

noncomputable def S_progress_Percentages_j4 (m : Option Nat) (v3 : List Int) : Option ((List Int) × Int) :=
  some (v3, 0)

noncomputable def S_progress_Percentages_b1 (m : Option Nat) (a0 : List Int) (a1 : Int) (a2 : Int) (v3 : List Int) (v4 : Int) (v5 : Int) : Option (((List Int) × Int × Int) ⊕ ((List Int) × Int)) :=
  if (decide (v5 < ((a0.map e_i64).length : Int))) = true then
    if (0 : Int) ≤ v5 ∧ v5 < ((a0.map e_i64).length : Int) then
    if a1 ≠ 0 then
    if ((((W ((W ((if a1 < (if 0 > (a0.getD v5.toNat default) then 0 else (a0.getD v5.toNat default)) then a1 else (if 0 > (a0.getD v5.toNat default) then 0 else (a0.getD v5.toNat default))) * 100)).tdiv a1)) == 100) && (decide (v4 < 100))) || (decide ((W ((W ((if a1 < (if 0 > (a0.getD v5.toNat default) then 0 else (a0.getD v5.toNat default)) then a1 else (if 0 > (a0.getD v5.toNat default) then 0 else (a0.getD v5.toNat default))) * 100)).tdiv a1)) ≥ (W (v4 + a2))))) = true then
      if ((v3 ++ ([(W ((W ((if a1 < (if 0 > (a0.getD v5.toNat default) then 0 else (a0.getD v5.toNat default)) then a1 else (if 0 > (a0.getD v5.toNat default) then 0 else (a0.getD v5.toNat default))) * 100)).tdiv a1))] : List Int)).map e_i64).length * 8 ≤ 140737488355328 then
      S_progress_Percentages_j3 m a0 a1 a2 v5 (v3 ++ ([(W ((W ((if a1 < (if 0 > (a0.getD v5.toNat default) then 0 else (a0.getD v5.toNat default)) then a1 else (if 0 > (a0.getD v5.toNat default) then 0 else (a0.getD v5.toNat default))) * 100)).tdiv a1))] : List Int)) (W ((W ((if a1 < (if 0 > (a0.getD v5.toNat default) then 0 else (a0.getD v5.toNat default)) then a1 else (if 0 > (a0.getD v5.toNat default) then 0 else (a0.getD v5.toNat default))) * 100)).tdiv a1))
      else none
    else
      S_progress_Percentages_j3 m a0 a1 a2 v5 v3 v4
    else none
    else none
  else
    Option.map Sum.inr (
      S_progress_Percentages_j4 m v3)

noncomputable def S_progress_Percentages_l1 (m : Option Nat) (a0 : List Int) (a1 : Int) (a2 : Int) (v3 : List Int) (v4 : Int) (v5 : Int) : Option ((List Int) × Int) := loopM m (fun (s : ((List Int) × Int × Int)) => S_progress_Percentages_b1 m a0 a1 a2 s.1 s.2.1 s.2.2) (v3, v4, v5)

theorem f9_j4_ok {a0 : List Int} {a1 : Int} {a2 : Int} {v3 : List Int} {m : Option Nat} {o : ((List Int) × Int)} (h : S_progress_Percentages_j4 m v3 = some o) :
    LWp Try.prog f9_lay 0 f9_c0 (f9_Q a0 a1 a2 o) [(8, .osl (0, 0) 1 (v3.map e_i64))] [((0, 0), .tok)] 1 := by
  unfold S_progress_Percentages_j4 at h
  refine seqI ?_
  refine regI ?_
  refine retI ?_
  cases h
  exact And.intro trivial (And.intro trivial (And.intro rfl (Vw.tupL (And.intro (Vw.oslI _ _ _) (And.intro (Vw.same _ rfl) trivial)))))

theorem f9_L1_bok {a0 : List Int} {a1 : Int} {a2 : Int} {v3 : List Int} {v4 : Int} {v5 : Int} {m : Option Nat} {o : ((List Int) × Int × Int) ⊕ ((List Int) × Int)} (h : S_progress_Percentages_b1 m a0 a1 a2 v3 v4 v5 = some o) :
    LWp Try.prog f9_lay 0 f9_c2 (BodyQ 0 1 (f9_L1_env a0 a1 a2) (f9_L1_hp a0 a1 a2) (f9_L1_Q a0 a1 a2) o) [(1, .int .i64 a1), (2, .int .i64 a2), (8, .osl (0, 0) 1 (v3.map e_i64)), (9, .int .i64 v4), (32, .isl 1 (a0.map e_i64) false), (33, .int .i64 ((a0.map e_i64).length : Int)), (34, .int .i64 v5)] [((0, 0), .tok)] 1 := by
  unfold S_progress_Percentages_b1 at h
  refine seqI ?_
  refine regI ?_
  refine seqI ?_
  refine condI (v := (decide (v5 < ((a0.map e_i64).length : Int)))) rfl trivial (fun h13 => ?_) (fun h13 => ?_)
  · have h := ite_tt h13 h
    refine skipI ?_
    refine seqI ?_
    refine blockI ?_
    refine seqI ?_
    refine regI ?_
    obtain ⟨h14, h⟩ := ite_some h
    refine And.intro h14 ?_
    refine Exists.intro (e_i64 (a0.getD v5.toNat default)) (And.intro (getD_enc e_i64 _ _ (idx_ltL e_i64 h14)) (And.intro (And.intro (idx_lt h14) (Nat.le_of_ble_eq_true rfl)) ?_))
    refine seqI ?_
    refine regI ?_
    obtain ⟨h15, h⟩ := ite_some h
    refine And.intro h15 ?_
    show yops _ _ _ [(44, .int .i64 (W ((W ((if a1 < (if 0 > (a0.getD v5.toNat default) then 0 else (a0.getD v5.toNat default)) then a1 else (if 0 > (a0.getD v5.toNat default) then 0 else (a0.getD v5.toNat default))) * 100)).tdiv a1))), (43, .int .i64 a1), (42, .int .i64 (W ((if a1 < (if 0 > (a0.getD v5.toNat default) then 0 else (a0.getD v5.toNat default)) then a1 else (if 0 > (a0.getD v5.toNat default) then 0 else (a0.getD v5.toNat default))) * 100))), (41, .int .i64 (if a1 < (if 0 > (a0.getD v5.toNat default) then 0 else (a0.getD v5.toNat default)) then a1 else (if 0 > (a0.getD v5.toNat default) then 0 else (a0.getD v5.toNat default)))), (40, .int .i64 a1), (39, .int .i64 (if 0 > (a0.getD v5.toNat default) then 0 else (a0.getD v5.toNat default))), (38, .int .i64 (a0.getD v5.toNat default)), (11, .int .i64 (a0.getD v5.toNat default)), (37, .int .i64 (a0.getD v5.toNat default)), (36, .iptr 1 (a0.map e_i64) v5.toNat 0), (35, .bool (decide (v5 < ((a0.map e_i64).length : Int)))), (1, .int .i64 a1), (2, .int .i64 a2), (8, .osl (0, 0) 1 (v3.map e_i64)), (9, .int .i64 v4), (32, .isl 1 (a0.map e_i64) false), (33, .int .i64 ((a0.map e_i64).length : Int)), (34, .int .i64 v5)] _ _
    refine LWp.sim (e := [(1, .int .i64 a1), (2, .int .i64 a2), (8, .osl (0, 0) 1 (v3.map e_i64)), (9, .int .i64 v4), (12, .int .i64 (W ((W ((if a1 < (if 0 > (a0.getD v5.toNat default) then 0 else (a0.getD v5.toNat default)) then a1 else (if 0 > (a0.getD v5.toNat default) then 0 else (a0.getD v5.toNat default))) * 100)).tdiv a1))), (32, .isl 1 (a0.map e_i64) false), (33, .int .i64 ((a0.map e_i64).length : Int)), (34, .int .i64 v5)]) (L := [((0, 0), .tok)]) (n := 1) ?_ ?_
    · exact simI (M := [((0, 0), (0, 0))]) rfl (And.intro (Vw.same _ rfl) (And.intro (Vw.same _ rfl) (And.intro (Vw.osl _ _ _ _ rfl) (And.intro (Vw.same _ rfl) (And.intro (Vw.same _ rfl) (And.intro (Vw.same _ rfl) (And.intro (Vw.same _ rfl) (And.intro (Vw.same _ rfl) trivial)))))))) (And.intro (And.intro rfl BVw.tok) trivial)
    refine seqI ?_
    refine regI ?_
    refine And.intro (fun hp => hp) ?_
    show yops _ _ _ [(49, .cnd (((W ((W ((if a1 < (if 0 > (a0.getD v5.toNat default) then 0 else (a0.getD v5.toNat default)) then a1 else (if 0 > (a0.getD v5.toNat default) then 0 else (a0.getD v5.toNat default))) * 100)).tdiv a1)) == 100) == true) (.bool (decide (v4 < 100)))), (48, .cnd (((W ((W ((if a1 < (if 0 > (a0.getD v5.toNat default) then 0 else (a0.getD v5.toNat default)) then a1 else (if 0 > (a0.getD v5.toNat default) then 0 else (a0.getD v5.toNat default))) * 100)).tdiv a1)) == 100) == true) (.int .i64 v4)), (47, .bool ((W ((W ((if a1 < (if 0 > (a0.getD v5.toNat default) then 0 else (a0.getD v5.toNat default)) then a1 else (if 0 > (a0.getD v5.toNat default) then 0 else (a0.getD v5.toNat default))) * 100)).tdiv a1)) == 100)), (46, .bool ((W ((W ((if a1 < (if 0 > (a0.getD v5.toNat default) then 0 else (a0.getD v5.toNat default)) then a1 else (if 0 > (a0.getD v5.toNat default) then 0 else (a0.getD v5.toNat default))) * 100)).tdiv a1)) == 100)), (45, .int .i64 (W ((W ((if a1 < (if 0 > (a0.getD v5.toNat default) then 0 else (a0.getD v5.toNat default)) then a1 else (if 0 > (a0.getD v5.toNat default) then 0 else (a0.getD v5.toNat default))) * 100)).tdiv a1))), (1, .int .i64 a1), (2, .int .i64 a2), (8, .osl (0, 0) 1 (v3.map e_i64)), (9, .int .i64 v4), (12, .int .i64 (W ((W ((if a1 < (if 0 > (a0.getD v5.toNat default) then 0 else (a0.getD v5.toNat default)) then a1 else (if 0 > (a0.getD v5.toNat default) then 0 else (a0.getD v5.toNat default))) * 100)).tdiv a1))), (32, .isl 1 (a0.map e_i64) false), (33, .int .i64 ((a0.map e_i64).length : Int)), (34, .int .i64 v5)] _ _
    refine And.intro (fun hc => (bqt hc)) ?_
    refine And.intro (fun hp => (And.intro hp hp)) ?_
    show yops _ _ _ [(55, .cnd ((((W ((W ((if a1 < (if 0 > (a0.getD v5.toNat default) then 0 else (a0.getD v5.toNat default)) then a1 else (if 0 > (a0.getD v5.toNat default) then 0 else (a0.getD v5.toNat default))) * 100)).tdiv a1)) == 100) && (decide (v4 < 100))) == false) (.int .i64 (W (v4 + a2)))), (54, .cnd ((((W ((W ((if a1 < (if 0 > (a0.getD v5.toNat default) then 0 else (a0.getD v5.toNat default)) then a1 else (if 0 > (a0.getD v5.toNat default) then 0 else (a0.getD v5.toNat default))) * 100)).tdiv a1)) == 100) && (decide (v4 < 100))) == false) (.int .i64 a2)), (53, .cnd ((((W ((W ((if a1 < (if 0 > (a0.getD v5.toNat default) then 0 else (a0.getD v5.toNat default)) then a1 else (if 0 > (a0.getD v5.toNat default) then 0 else (a0.getD v5.toNat default))) * 100)).tdiv a1)) == 100) && (decide (v4 < 100))) == false) (.int .i64 v4)), (52, .cnd ((((W ((W ((if a1 < (if 0 > (a0.getD v5.toNat default) then 0 else (a0.getD v5.toNat default)) then a1 else (if 0 > (a0.getD v5.toNat default) then 0 else (a0.getD v5.toNat default))) * 100)).tdiv a1)) == 100) && (decide (v4 < 100))) == false) (.int .i64 (W ((W ((if a1 < (if 0 > (a0.getD v5.toNat default) then 0 else (a0.getD v5.toNat default)) then a1 else (if 0 > (a0.getD v5.toNat default) then 0 else (a0.getD v5.toNat default))) * 100)).tdiv a1)))), (51, .bool (((W ((W ((if a1 < (if 0 > (a0.getD v5.toNat default) then 0 else (a0.getD v5.toNat default)) then a1 else (if 0 > (a0.getD v5.toNat default) then 0 else (a0.getD v5.toNat default))) * 100)).tdiv a1)) == 100) && (decide (v4 < 100)))), (50, .bool (((W ((W ((if a1 < (if 0 > (a0.getD v5.toNat default) then 0 else (a0.getD v5.toNat default)) then a1 else (if 0 > (a0.getD v5.toNat default) then 0 else (a0.getD v5.toNat default))) * 100)).tdiv a1)) == 100) && (decide (v4 < 100)))), (49, .cnd (((W ((W ((if a1 < (if 0 > (a0.getD v5.toNat default) then 0 else (a0.getD v5.toNat default)) then a1 else (if 0 > (a0.getD v5.toNat default) then 0 else (a0.getD v5.toNat default))) * 100)).tdiv a1)) == 100) == true) (.bool (decide (v4 < 100)))), (48, .cnd (((W ((W ((if a1 < (if 0 > (a0.getD v5.toNat default) then 0 else (a0.getD v5.toNat default)) then a1 else (if 0 > (a0.getD v5.toNat default) then 0 else (a0.getD v5.toNat default))) * 100)).tdiv a1)) == 100) == true) (.int .i64 v4)), (47, .bool ((W ((W ((if a1 < (if 0 > (a0.getD v5.toNat default) then 0 else (a0.getD v5.toNat default)) then a1 else (if 0 > (a0.getD v5.toNat default) then 0 else (a0.getD v5.toNat default))) * 100)).tdiv a1)) == 100)), (46, .bool ((W ((W ((if a1 < (if 0 > (a0.getD v5.toNat default) then 0 else (a0.getD v5.toNat default)) then a1 else (if 0 > (a0.getD v5.toNat default) then 0 else (a0.getD v5.toNat default))) * 100)).tdiv a1)) == 100)), (45, .int .i64 (W ((W ((if a1 < (if 0 > (a0.getD v5.toNat default) then 0 else (a0.getD v5.toNat default)) then a1 else (if 0 > (a0.getD v5.toNat default) then 0 else (a0.getD v5.toNat default))) * 100)).tdiv a1))), (1, .int .i64 a1), (2, .int .i64 a2), (8, .osl (0, 0) 1 (v3.map e_i64)), (9, .int .i64 v4), (12, .int .i64 (W ((W ((if a1 < (if 0 > (a0.getD v5.toNat default) then 0 else (a0.getD v5.toNat default)) then a1 else (if 0 > (a0.getD v5.toNat default) then 0 else (a0.getD v5.toNat default))) * 100)).tdiv a1))), (32, .isl 1 (a0.map e_i64) false), (33, .int .i64 ((a0.map e_i64).length : Int)), (34, .int .i64 v5)] _ _
    refine And.intro (fun hp => (And.intro hp hp)) ?_
    refine And.intro (fun hc => (bqf hc)) ?_
    refine LWp.sim (e := [(1, .int .i64 a1), (2, .int .i64 a2), (8, .osl (0, 0) 1 (v3.map e_i64)), (9, .int .i64 v4), (12, .int .i64 (W ((W ((if a1 < (if 0 > (a0.getD v5.toNat default) then 0 else (a0.getD v5.toNat default)) then a1 else (if 0 > (a0.getD v5.toNat default) then 0 else (a0.getD v5.toNat default))) * 100)).tdiv a1))), (32, .isl 1 (a0.map e_i64) false), (33, .int .i64 ((a0.map e_i64).length : Int)), (34, .int .i64 v5), (57, .bool ((((W ((W ((if a1 < (if 0 > (a0.getD v5.toNat default) then 0 else (a0.getD v5.toNat default)) then a1 else (if 0 > (a0.getD v5.toNat default) then 0 else (a0.getD v5.toNat default))) * 100)).tdiv a1)) == 100) && (decide (v4 < 100))) || (decide ((W ((W ((if a1 < (if 0 > (a0.getD v5.toNat default) then 0 else (a0.getD v5.toNat default)) then a1 else (if 0 > (a0.getD v5.toNat default) then 0 else (a0.getD v5.toNat default))) * 100)).tdiv a1)) ≥ (W (v4 + a2))))))]) (L := [((0, 0), .tok)]) (n := 1) ?_ ?_
    · exact simI (M := [((0, 0), (0, 0))]) rfl (And.intro (Vw.same _ rfl) (And.intro (Vw.same _ rfl) (And.intro (Vw.osl _ _ _ _ rfl) (And.intro (Vw.same _ rfl) (And.intro (Vw.same _ rfl) (And.intro (Vw.same _ rfl) (And.intro (Vw.same _ rfl) (And.intro (Vw.same _ rfl) (And.intro (Vw.same _ rfl) trivial))))))))) (And.intro (And.intro rfl BVw.tok) trivial)
    refine condI (v := ((((W ((W ((if a1 < (if 0 > (a0.getD v5.toNat default) then 0 else (a0.getD v5.toNat default)) then a1 else (if 0 > (a0.getD v5.toNat default) then 0 else (a0.getD v5.toNat default))) * 100)).tdiv a1)) == 100) && (decide (v4 < 100))) || (decide ((W ((W ((if a1 < (if 0 > (a0.getD v5.toNat default) then 0 else (a0.getD v5.toNat default)) then a1 else (if 0 > (a0.getD v5.toNat default) then 0 else (a0.getD v5.toNat default))) * 100)).tdiv a1)) ≥ (W (v4 + a2)))))) rfl trivial (fun h16 => ?_) (fun h16 => ?_)
    · have h := ite_tt h16 h
      refine seqI ?_
      refine regI ?_
      obtain ⟨h17, h⟩ := ite_some h
      refine Exists.intro ((v3 ++ ([(W ((W ((if a1 < (if 0 > (a0.getD v5.toNat default) then 0 else (a0.getD v5.toNat default)) then a1 else (if 0 > (a0.getD v5.toNat default) then 0 else (a0.getD v5.toNat default))) * 100)).tdiv a1))] : List Int)).map e_i64) (And.intro (app_enc e_i64 v3 ([(W ((W ((if a1 < (if 0 > (a0.getD v5.toNat default) then 0 else (a0.getD v5.toNat default)) then a1 else (if 0 > (a0.getD v5.toNat default) then 0 else (a0.getD v5.toNat default))) * 100)).tdiv a1))] : List Int)) (And.intro h17 ?_))
      refine regI ?_
      refine LWp.sim ?_ (f9_j3_ok h)
      exact simI (M := [((0, 0), (1, 0))]) rfl (And.intro (Vw.same _ rfl) (And.intro (Vw.same _ rfl) (And.intro (Vw.osl _ _ _ _ rfl) (And.intro (Vw.same _ rfl) (And.intro (Vw.same _ rfl) (And.intro (Vw.same _ rfl) (And.intro (Vw.same _ rfl) trivial))))))) (And.intro (And.intro rfl BVw.tok) trivial)
    · have h := ite_ff h16 h
      refine skipI ?_
      refine LWp.sim ?_ (f9_j3_ok h)
      exact simI (M := [((0, 0), (0, 0))]) rfl (And.intro (Vw.same _ rfl) (And.intro (Vw.same _ rfl) (And.intro (Vw.osl _ _ _ _ rfl) (And.intro (Vw.same _ rfl) (And.intro (Vw.same _ rfl) (And.intro (Vw.same _ rfl) (And.intro (Vw.same _ rfl) trivial))))))) (And.intro (And.intro rfl BVw.tok) trivial)
  · have h := ite_ff h13 h
    refine exitI ?_
    obtain ⟨o, hq, rfl⟩ := Option.map_eq_some_iff.1 h
    replace h := hq; clear hq
    refine And.intro nofun ?_
    refine LWp.sim ?_ (f9_j4_ok h)
    exact simI (M := [((0, 0), (0, 0))]) rfl (And.intro (Vw.osl _ _ _ _ rfl) trivial) (And.intro (And.intro rfl BVw.tok) trivial)

theorem f9_L1_ok {a0 : List Int} {a1 : Int} {a2 : Int} {v3 : List Int} {v4 : Int} {v5 : Int} {m : Option Nat} {o : ((List Int) × Int)} (h : S_progress_Percentages_l1 m a0 a1 a2 v3 v4 v5 = some o) :
    LWp Try.prog f9_lay 0 (.loop f9_c2) (QBlock 1 (QSeq Try.prog f9_lay 0 f9_c0 (f9_Q a0 a1 a2 o))) [(1, .int .i64 a1), (2, .int .i64 a2), (8, .osl (0, 0) 1 (v3.map e_i64)), (9, .int .i64 v4), (32, .isl 1 (a0.map e_i64) false), (33, .int .i64 ((a0.map e_i64).length : Int)), (34, .int .i64 v5)] [((0, 0), .tok)] 1 :=
  LWp_loopM (m := m) (s := ((v3, v4, v5) : ((List Int) × Int × Int))) (r := o) (fun (s : ((List Int) × Int × Int)) => S_progress_Percentages_b1 m a0 a1 a2 s.1 s.2.1 s.2.2) (f9_L1_env a0 a1 a2) (f9_L1_hp a0 a1 a2) (f9_L1_Q a0 a1 a2) (fun s o h => f9_L1_bok h) h

noncomputable def S_progress_Percentages (m : Option Nat) (a0 : List Int) (a1 : Int) (a2 : Int) : Option ((List Int) × Int) :=
  if ((((decide (a1 < 1)) || (decide (a1 > 2147483647))) || (decide (a2 < 1))) || (decide (a2 > 100))) = true then
    some ([], 1)
  else
    if (decide (((a0.map e_i64).length : Int) > 1000)) = true then
      some ([], 2)
    else
      S_progress_Percentages_l1 m a0 a1 a2 [] 0 0

theorem f9_start {a0 : List Int} {a1 : Int} {a2 : Int} {m : Option Nat} {o : (List Int) × Int} (h : S_progress_Percentages m a0 a1 a2 = some o) : LWp Try.prog f9_lay 0 f9_c3 (f9_Q a0 a1 a2 o) (initEnv 0 [.isl 1 (a0.map e_i64) false, .int .i64 a1, .int .i64 a2]) [] 0 := by
  unfold S_progress_Percentages at h
  refine seqI ?_
  refine regI ?_
  refine seqI ?_
  refine blockI ?_
  refine seqI ?_
  refine regI ?_
  refine And.intro (fun hp => hp) ?_
  show yops _ _ _ [(18, .cnd ((decide (a1 < 1)) == false) (.bool (decide (a1 > 2147483647)))), (17, .cnd ((decide (a1 < 1)) == false) (.int .i64 a1)), (16, .bool (decide (a1 < 1))), (15, .bool (decide (a1 < 1))), (14, .int .i64 a1), (7, .int .i64 0), (6, .val (.slice none 0 0)), (0, .isl 1 (a0.map e_i64) false), (1, .int .i64 a1), (2, .int .i64 a2)] _ _
  refine And.intro (fun hc => (bqf hc)) ?_
  refine And.intro (fun hp => hp) ?_
  refine And.intro (fun hc => (bqf hc)) ?_
  show yops _ _ _ [(23, .bool (((decide (a1 < 1)) || (decide (a1 > 2147483647))) || (decide (a2 < 1)))), (22, .cnd (((decide (a1 < 1)) || (decide (a1 > 2147483647))) == false) (.bool (decide (a2 < 1)))), (21, .cnd (((decide (a1 < 1)) || (decide (a1 > 2147483647))) == false) (.int .i64 a2)), (20, .bool ((decide (a1 < 1)) || (decide (a1 > 2147483647)))), (19, .bool ((decide (a1 < 1)) || (decide (a1 > 2147483647)))), (18, .cnd ((decide (a1 < 1)) == false) (.bool (decide (a1 > 2147483647)))), (17, .cnd ((decide (a1 < 1)) == false) (.int .i64 a1)), (16, .bool (decide (a1 < 1))), (15, .bool (decide (a1 < 1))), (14, .int .i64 a1), (7, .int .i64 0), (6, .val (.slice none 0 0)), (0, .isl 1 (a0.map e_i64) false), (1, .int .i64 a1), (2, .int .i64 a2)] _ _
  refine And.intro (fun hp => hp) ?_
  refine And.intro (fun hc => (bqf hc)) ?_
  refine LWp.sim (e := [(0, .isl 1 (a0.map e_i64) false), (1, .int .i64 a1), (2, .int .i64 a2), (13, .bool ((((decide (a1 < 1)) || (decide (a1 > 2147483647))) || (decide (a2 < 1))) || (decide (a2 > 100))))]) (L := []) (n := 0) ?_ ?_
  · exact simI (M := []) rfl (And.intro (Vw.same _ rfl) (And.intro (Vw.same _ rfl) (And.intro (Vw.same _ rfl) (And.intro (Vw.same _ rfl) trivial)))) trivial
  refine condI (v := ((((decide (a1 < 1)) || (decide (a1 > 2147483647))) || (decide (a2 < 1))) || (decide (a2 > 100)))) rfl trivial (fun h1 => ?_) (fun h1 => ?_)
  · have h := ite_tt h1 h
    refine seqI ?_
    refine regI ?_
    refine retI ?_
    cases h
    exact And.intro trivial (And.intro trivial (And.intro rfl (Vw.tupL (And.intro (Vw.nilI _ _) (And.intro (Vw.same _ rfl) trivial)))))
  · have h := ite_ff h1 h
    refine seqI ?_
    refine regI ?_
    refine condI (v := (decide (((a0.map e_i64).length : Int) > 1000))) rfl trivial (fun h2 => ?_) (fun h2 => ?_)
    · have h := ite_tt h2 h
      refine seqI ?_
      refine regI ?_
      refine retI ?_
      cases h
      exact And.intro trivial (And.intro trivial (And.intro rfl (Vw.tupL (And.intro (Vw.nilI _ _) (And.intro (Vw.same _ rfl) trivial)))))
    · have h := ite_ff h2 h
      refine skipI ?_
      refine seqI ?_
      refine regI ?_
      refine seqI ?_
      refine regI ?_
      refine seqI ?_
      refine seqI ?_
      refine regI ?_
      refine LWp.sim (e := [(1, .int .i64 a1), (2, .int .i64 a2), (8, .val (.slice none 0 0)), (9, .int .i64 0), (32, .isl 1 (a0.map e_i64) false), (33, .int .i64 ((a0.map e_i64).length : Int)), (34, .int .i64 0)]) (L := []) (n := 0) ?_ ?_
      · exact simI (M := []) rfl (And.intro (Vw.same _ rfl) (And.intro (Vw.same _ rfl) (And.intro (Vw.same _ rfl) (And.intro (Vw.same _ rfl) (And.intro (Vw.same _ rfl) (And.intro (Vw.same _ rfl) (And.intro (Vw.same _ rfl) trivial))))))) trivial
      refine blockI ?_
      refine LWp.sim ?_ (f9_L1_ok h)
      exact simI (M := []) rfl (And.intro (Vw.same _ rfl) (And.intro (Vw.same _ rfl) (And.intro (Vw.nilO _ _ (by decide)) (And.intro (Vw.same _ rfl) (And.intro (Vw.same _ rfl) (And.intro (Vw.same _ rfl) (And.intro (Vw.same _ rfl) trivial))))))) (And.intro (And.intro rfl (And.intro (by decide) (by decide))) trivial)

theorem f9_ok {a0 : List Int} {a1 : Int} {a2 : Int} {m : Option Nat} {o : (List Int) × Int} (h : S_progress_Percentages m a0 a1 a2 = some o) : PFn Try.prog 9 [.isl 1 (a0.map e_i64) false, .int .i64 a1, .int .i64 a2] (.tup [.isl 1 (o.1.map e_i64) false, .int .i64 o.2]) := PFn.ofFnW (L := f9_L) f9_low f9_fok (Nat.le_of_ble_eq_true rfl) rfl (f9_start h)

def f10_c1 : LCode := (.seq (.region [⟨some 15, .bin .lss (.t 14) (.t 13), none⟩])
 (.seq (.cond (.t 15)
  .skip
  (.exit 0))
 (.seq (.block 1
  (.seq (.region [⟨some 16, .mv (.t 14), none⟩,
    ⟨some 17, .iaddr 1 (.t 12) (.t 14), none⟩,
    ⟨some 18, .load false 1 (.t 17), none⟩,
    ⟨some 5, .mv (.t 16), none⟩,
    ⟨some 6, .mv (.t 18), none⟩])
  (.seq (.region [⟨some 19, .mv (.t 6), none⟩,
    ⟨some 20, .mv (.t 1), none⟩,
    ⟨some 21, .mv (.t 5), none⟩,
    ⟨some 22, .iaddr 1 (.t 20) (.t 21), none⟩,
    ⟨some 23, .load false 1 (.t 22), none⟩,
    ⟨some 24, .bin .neq (.t 19) (.t 23), none⟩])
  (.cond (.t 24)
   (.seq (.region [⟨some 4, .mv (.c (.bool false)), none⟩])
   .ret)
   .skip))))
 (.region [⟨some 25, .bin .add (.t 14) (.c (.int .i64 1)), none⟩,
   ⟨some 14, .mv (.t 25), none⟩]))))
def f10_c0 : LCode := (.seq (.region [⟨some 4, .mv (.c (.bool true)), none⟩])
 .ret)
def f10_c2 : LCode := (.seq (.region [⟨some 4, .mv (.c (.bool false)), none⟩])
 (.seq (.seq (.region [⟨some 7, .mv (.t 0), none⟩,
   ⟨some 8, .len false (.t 7), none⟩,
   ⟨some 9, .mv (.t 1), none⟩,
   ⟨some 10, .len false (.t 9), none⟩,
   ⟨some 11, .bin .neq (.t 8) (.t 10), none⟩])
 (.cond (.t 11)
  (.seq (.region [⟨some 4, .mv (.c (.bool false)), none⟩])
  .ret)
  .skip))
 (.seq (.seq (.region [⟨some 12, .mv (.t 0), none⟩,
   ⟨some 13, .len false (.t 12), none⟩,
   ⟨some 14, .mv (.c (.int .i64 0)), none⟩])
 (.block 0
  (.loop
   f10_c1)))
 f10_c0)))
def f10_lay : Lay := ⟨26, [], false⟩
def f10_res : List LRes := [.t 4]
def f10_L : LFn := ⟨2, f10_lay, f10_c2, f10_res⟩
theorem f10_low : lowFn Try.prog [] 10 = some f10_L := by kernel_rfl
theorem f10_fok : FnOk Try.prog 10 := ⟨_, Try.func10, rfl, rfl⟩
def f10_Q (a0 : List Int) (a1 : List Int) (o : Bool) : Exit → Env → AHeap → Nat → Prop := FinK f10_res (PureEnd (.bool o))

def f10_L1_env (a0 : List Int) (a1 : List Int) (s : Int) : Env := [(1, .isl 1 (a1.map e_i64) false), (12, .isl 1 (a0.map e_i64) false), (13, .int .i64 ((a0.map e_i64).length : Int)), (14, .int .i64 s)]
def f10_L1_hp (a0 : List Int) (a1 : List Int) (s : Int) : AHeap := []
def f10_L1_Q (a0 : List Int) (a1 : List Int) (o : Bool) : Exit → Env → AHeap → Nat → Prop := (QBlock 0 (QSeq Try.prog f10_lay 0 f10_c0 (f10_Q a0 a1 o)))

noncomputable def S_glossatorref3_Equal_int_j1 (m : Option Nat) : Option Bool :=
  some true

noncomputable def S_glossatorref3_Equal_int_b1 (m : Option Nat) (a0 : List Int) (a1 : List Int) (v1 : Int) : Option (Int ⊕ Bool) :=
  if (decide (v1 < ((a0.map e_i64).length : Int))) = true then
    if (0 : Int) ≤ v1 ∧ v1 < ((a0.map e_i64).length : Int) then
    if (0 : Int) ≤ v1 ∧ v1 < ((a1.map e_i64).length : Int) then
    if ((a0.getD v1.toNat default) != (a1.getD v1.toNat default)) = true then
      Option.map Sum.inr (
        some false)
    else
      some (.inl (W (v1 + 1)))
    else none
    else none
  else
    Option.map Sum.inr (
      S_glossatorref3_Equal_int_j1 m)

noncomputable def S_glossatorref3_Equal_int_l1 (m : Option Nat) (a0 : List Int) (a1 : List Int) (v1 : Int) : Option Bool := loopM m (fun (s : Int) => S_glossatorref3_Equal_int_b1 m a0 a1 s) v1

theorem f10_j1_ok {a0 : List Int} {a1 : List Int} {m : Option Nat} {o : Bool} (h : S_glossatorref3_Equal_int_j1 m = some o) :
    LWp Try.prog f10_lay 0 f10_c0 (f10_Q a0 a1 o) [] [] 0 := by
  unfold S_glossatorref3_Equal_int_j1 at h
  refine seqI ?_
  refine regI ?_
  refine retI ?_
  cases h
  exact And.intro trivial (And.intro rfl (Vw.same _ rfl))

theorem f10_L1_bok {a0 : List Int} {a1 : List Int} {v1 : Int} {m : Option Nat} {o : Int ⊕ Bool} (h : S_glossatorref3_Equal_int_b1 m a0 a1 v1 = some o) :
    LWp Try.prog f10_lay 0 f10_c1 (BodyQ 0 0 (f10_L1_env a0 a1) (f10_L1_hp a0 a1) (f10_L1_Q a0 a1) o) [(1, .isl 1 (a1.map e_i64) false), (12, .isl 1 (a0.map e_i64) false), (13, .int .i64 ((a0.map e_i64).length : Int)), (14, .int .i64 v1)] [] 0 := by
  unfold S_glossatorref3_Equal_int_b1 at h
  refine seqI ?_
  refine regI ?_
  refine seqI ?_
  refine condI (v := (decide (v1 < ((a0.map e_i64).length : Int)))) rfl trivial (fun h10 => ?_) (fun h10 => ?_)
  · have h := ite_tt h10 h
    refine skipI ?_
    refine seqI ?_
    refine blockI ?_
    refine seqI ?_
    refine regI ?_
    obtain ⟨h11, h⟩ := ite_some h
    refine And.intro h11 ?_
    refine Exists.intro (e_i64 (a0.getD v1.toNat default)) (And.intro (getD_enc e_i64 _ _ (idx_ltL e_i64 h11)) (And.intro (And.intro (idx_lt h11) (Nat.le_of_ble_eq_true rfl)) ?_))
    refine seqI ?_
    refine regI ?_
    obtain ⟨h12, h⟩ := ite_some h
    refine And.intro h12 ?_
    show yops _ _ _ [(22, .iptr 1 (a1.map e_i64) v1.toNat 0), (21, .int .i64 v1), (20, .isl 1 (a1.map e_i64) false), (19, .int .i64 (a0.getD v1.toNat default)), (6, .int .i64 (a0.getD v1.toNat default)), (5, .int .i64 v1), (18, .int .i64 (a0.getD v1.toNat default)), (17, .iptr 1 (a0.map e_i64) v1.toNat 0), (16, .int .i64 v1), (15, .bool (decide (v1 < ((a0.map e_i64).length : Int)))), (1, .isl 1 (a1.map e_i64) false), (12, .isl 1 (a0.map e_i64) false), (13, .int .i64 ((a0.map e_i64).length : Int)), (14, .int .i64 v1)] _ _
    refine Exists.intro (e_i64 (a1.getD v1.toNat default)) (And.intro (getD_enc e_i64 _ _ (idx_ltL e_i64 h12)) (And.intro (And.intro (idx_lt h12) (Nat.le_of_ble_eq_true rfl)) ?_))
    refine LWp.sim (e := [(1, .isl 1 (a1.map e_i64) false), (12, .isl 1 (a0.map e_i64) false), (13, .int .i64 ((a0.map e_i64).length : Int)), (14, .int .i64 v1), (24, .bool ((a0.getD v1.toNat default) != (a1.getD v1.toNat default)))]) (L := []) (n := 0) ?_ ?_
    · exact simI (M := []) rfl (And.intro (Vw.same _ rfl) (And.intro (Vw.same _ rfl) (And.intro (Vw.same _ rfl) (And.intro (Vw.same _ rfl) (And.intro (Vw.same _ rfl) trivial))))) trivial
    refine condI (v := ((a0.getD v1.toNat default) != (a1.getD v1.toNat default))) rfl trivial (fun h13 => ?_) (fun h13 => ?_)
    · have h := ite_tt h13 h
      refine seqI ?_
      refine regI ?_
      refine retI ?_
      obtain ⟨o, hq, rfl⟩ := Option.map_eq_some_iff.1 h
      replace h := hq; clear hq
      refine And.intro nofun ?_
      cases h
      exact And.intro trivial (And.intro rfl (Vw.same _ rfl))
    · have h := ite_ff h13 h
      refine skipI ?_
      refine regI ?_
      cases h
      exact And.intro rfl (simI (M := []) rfl (And.intro (Vw.same _ rfl) (And.intro (Vw.same _ rfl) (And.intro (Vw.same _ rfl) (And.intro (Vw.same _ rfl) trivial)))) trivial)
  · have h := ite_ff h10 h
    refine exitI ?_
    obtain ⟨o, hq, rfl⟩ := Option.map_eq_some_iff.1 h
    replace h := hq; clear hq
    refine And.intro nofun ?_
    refine LWp.sim ?_ (f10_j1_ok h)
    exact simI (M := []) rfl trivial trivial

theorem f10_L1_ok {a0 : List Int} {a1 : List Int} {v1 : Int} {m : Option Nat} {o : Bool} (h : S_glossatorref3_Equal_int_l1 m a0 a1 v1 = some o) :
    LWp Try.prog f10_lay 0 (.loop f10_c1) (QBlock 0 (QSeq Try.prog f10_lay 0 f10_c0 (f10_Q a0 a1 o))) [(1, .isl 1 (a1.map e_i64) false), (12, .isl 1 (a0.map e_i64) false), (13, .int .i64 ((a0.map e_i64).length : Int)), (14, .int .i64 v1)] [] 0 :=
  LWp_loopM (m := m) (s := (v1 : Int)) (r := o) (fun (s : Int) => S_glossatorref3_Equal_int_b1 m a0 a1 s) (f10_L1_env a0 a1) (f10_L1_hp a0 a1) (f10_L1_Q a0 a1) (fun s o h => f10_L1_bok h) h

noncomputable def S_glossatorref3_Equal_int (m : Option Nat) (a0 : List Int) (a1 : List Int) : Option Bool :=
  if (((a0.map e_i64).length : Int) != ((a1.map e_i64).length : Int)) = true then
    some false
  else
    S_glossatorref3_Equal_int_l1 m a0 a1 0

theorem f10_start {a0 : List Int} {a1 : List Int} {m : Option Nat} {o : Bool} (h : S_glossatorref3_Equal_int m a0 a1 = some o) : LWp Try.prog f10_lay 0 f10_c2 (f10_Q a0 a1 o) (initEnv 0 [.isl 1 (a0.map e_i64) false, .isl 1 (a1.map e_i64) false]) [] 0 := by
  unfold S_glossatorref3_Equal_int at h
  refine seqI ?_
  refine regI ?_
  refine seqI ?_
  refine seqI ?_
  refine regI ?_
  refine condI (v := (((a0.map e_i64).length : Int) != ((a1.map e_i64).length : Int))) rfl trivial (fun h1 => ?_) (fun h1 => ?_)
  · have h := ite_tt h1 h
    refine seqI ?_
    refine regI ?_
    refine retI ?_
    cases h
    exact And.intro trivial (And.intro rfl (Vw.same _ rfl))
  · have h := ite_ff h1 h
    refine skipI ?_
    refine seqI ?_
    refine seqI ?_
    refine regI ?_
    refine LWp.sim (e := [(1, .isl 1 (a1.map e_i64) false), (12, .isl 1 (a0.map e_i64) false), (13, .int .i64 ((a0.map e_i64).length : Int)), (14, .int .i64 0)]) (L := []) (n := 0) ?_ ?_
    · exact simI (M := []) rfl (And.intro (Vw.same _ rfl) (And.intro (Vw.same _ rfl) (And.intro (Vw.same _ rfl) (And.intro (Vw.same _ rfl) trivial)))) trivial
    refine blockI ?_
    refine LWp.sim ?_ (f10_L1_ok h)
    exact simI (M := []) rfl (And.intro (Vw.same _ rfl) (And.intro (Vw.same _ rfl) (And.intro (Vw.same _ rfl) (And.intro (Vw.same _ rfl) trivial)))) trivial

theorem f10_ok {a0 : List Int} {a1 : List Int} {m : Option Nat} {o : Bool} (h : S_glossatorref3_Equal_int m a0 a1 = some o) : PFn Try.prog 10 [.isl 1 (a0.map e_i64) false, .isl 1 (a1.map e_i64) false] (.bool o) := PFn.ofFnW (L := f10_L) f10_low f10_fok (Nat.le_of_ble_eq_true rfl) rfl (f10_start h)

def f5_c0 : LCode := (.seq (.region [⟨some 0, .mv (.c (.bool false)), none⟩])
 (.seq (.region [⟨some 6, .mkSl true 1 [(.int .i64 0)] 5 [(0, (.c (.int .i64 1))), (1, (.c (.int .i64 2))), (2, (.c (.int .i64 3))), (3, (.c (.int .i64 4))), (4, (.c (.int .i64 5)))], none⟩,
   ⟨some 7, .call 6 [(.c (.int .i64 7)), (.t 6), (.c (.int .i64 2))], none⟩,
   ⟨some 5, .mv (.t 7), none⟩,
   ⟨some 8, .ext 0 (.t 5), none⟩,
   ⟨some 9, .ext 1 (.t 5), none⟩,
   ⟨some 1, .mv (.t 8), none⟩,
   ⟨some 2, .mv (.t 9), none⟩])
 (.seq (.region [⟨some 11, .mkSl true 1 [(.int .i64 0)] 4 [(0, (.c (.int .i64 1))), (1, (.c (.int .i64 2))), (2, (.c (.int .i64 5))), (3, (.c (.int .i64 10)))], none⟩,
   ⟨some 12, .call 9 [(.t 11), (.c (.int .i64 10)), (.c (.int .i64 15))], none⟩,
   ⟨some 10, .mv (.t 12), none⟩,
   ⟨some 13, .ext 0 (.t 10), none⟩,
   ⟨some 14, .ext 1 (.t 10), none⟩,
   ⟨some 3, .mv (.t 13), none⟩,
   ⟨some 4, .mv (.t 14), none⟩])
 (.seq (.region [⟨some 15, .mv (.t 2), none⟩,
   ⟨some 16, .bin .eql (.t 15) (.c (.int .i64 0)), none⟩,
   ⟨some 17, .mv (.t 16), none⟩,
   ⟨some 18, .mv (.t 1), some (17, true)⟩,
   ⟨some 19, .len false (.t 18), some (17, true)⟩,
   ⟨some 20, .bin .eql (.t 19) (.c (.int .i64 3)), some (17, true)⟩,
   ⟨some 21, .pick (.t 17) (.t 20) (.c (.bool false)), none⟩,
   ⟨some 22, .mv (.t 21), none⟩,
   ⟨some 23, .mv (.t 1), some (22, true)⟩,
   ⟨some 24, .iaddr 4 (.t 23) (.c (.int .i64 2)), some (22, true)⟩,
   ⟨some 25, .faddr 2 (.t 24), some (22, true)⟩,
   ⟨some 26, .load false 1 (.t 25), some (22, true)⟩,
   ⟨some 27, .pick (.t 22) (.t 26) (.c (.bool false)), none⟩,
   ⟨some 28, .mv (.t 27), none⟩,
   ⟨some 29, .mv (.t 1), some (28, true)⟩,
   ⟨some 30, .iaddr 4 (.t 29) (.c (.int .i64 2)), some (28, true)⟩,
   ⟨some 31, .faddr 3 (.t 30), some (28, true)⟩,
   ⟨some 32, .load false 1 (.t 31), some (28, true)⟩,
   ⟨some 33, .mkSl true 1 [(.int .i64 0)] 1 [(0, (.c (.int .i64 5)))], some (28, true)⟩,
   ⟨some 34, .call 10 [(.t 32), (.t 33)], some (28, true)⟩,
   ⟨some 35, .pick (.t 28) (.t 34) (.c (.bool false)), none⟩,
   ⟨some 36, .mv (.t 35), none⟩,
   ⟨some 37, .mv (.t 4), some (36, true)⟩,
   ⟨some 38, .bin .eql (.t 37) (.c (.int .i64 0)), some (36, true)⟩,
   ⟨some 39, .pick (.t 36) (.t 38) (.c (.bool false)), none⟩,
   ⟨some 40, .mv (.t 39), none⟩,
   ⟨some 41, .mv (.t 3), some (40, true)⟩,
   ⟨some 42, .mkSl true 1 [(.int .i64 0)] 3 [(0, (.c (.int .i64 20))), (1, (.c (.int .i64 50))), (2, (.c (.int .i64 100)))], some (40, true)⟩,
   ⟨some 43, .call 10 [(.t 41), (.t 42)], some (40, true)⟩,
   ⟨some 44, .pick (.t 40) (.t 43) (.c (.bool false)), none⟩,
   ⟨some 0, .mv (.t 44), none⟩])
 .ret))))
def f5_lay : Lay := ⟨45, [], false⟩
def f5_res : List LRes := [.t 0]
def f5_L : LFn := ⟨0, f5_lay, f5_c0, f5_res⟩
theorem f5_low : lowFn Try.prog [] 5 = some f5_L := by kernel_rfl
theorem f5_fok : FnOk Try.prog 5 := ⟨_, Try.func5, rfl, rfl⟩
noncomputable def S_glossatorlaw3_chunkExample (m : Option Nat) : Option Bool :=
  (S_progress_Split m 7 ([1, 2, 3, 4, 5] : List Int) 2).bind fun v1 =>
  (S_progress_Percentages m ([1, 2, 5, 10] : List Int) 10 15).bind fun v2 =>
  if ((((v1.2 == 0) && (((v1.1.map e_QChunk).length : Int) == 3)) == true) = true → (0 : Int) ≤ 2 ∧ 2 < ((v1.1.map e_QChunk).length : Int)) then
  if (((((v1.2 == 0) && (((v1.1.map e_QChunk).length : Int) == 3)) && (v1.1.getD ((2 : Int).toNat) default).f_Last) == true) = true → (0 : Int) ≤ 2 ∧ 2 < ((v1.1.map e_QChunk).length : Int)) then
  (if ((((v1.2 == 0) && (((v1.1.map e_QChunk).length : Int) == 3)) && (v1.1.getD ((2 : Int).toNat) default).f_Last) == true) = true then S_glossatorref3_Equal_int m ((v1.1.getD ((2 : Int).toNat) default).f_Items) ([5] : List Int) else some default).bind fun v3 =>
  (if ((((((v1.2 == 0) && (((v1.1.map e_QChunk).length : Int) == 3)) && (v1.1.getD ((2 : Int).toNat) default).f_Last) && v3) && (v2.2 == 0)) == true) = true then S_glossatorref3_Equal_int m v2.1 ([20, 50, 100] : List Int) else some default).bind fun v4 =>
  some ((((((v1.2 == 0) && (((v1.1.map e_QChunk).length : Int) == 3)) && (v1.1.getD ((2 : Int).toNat) default).f_Last) && v3) && (v2.2 == 0)) && v4)
  else none
  else none

def f5_Q (o : Bool) : Exit → Env → AHeap → Nat → Prop := FinK f5_res (PureEnd (.bool o))

theorem f5_start {m : Option Nat} {o : Bool} (h : S_glossatorlaw3_chunkExample m = some o) : LWp Try.prog f5_lay 0 f5_c0 (f5_Q o) (initEnv 0 []) [] 0 := by
  unfold S_glossatorlaw3_chunkExample at h
  refine seqI ?_
  refine regI ?_
  refine seqI ?_
  refine regI ?_
  obtain ⟨v1, h1, h⟩ := bind_some h
  refine PFn.call (f6_ok h1) (And.intro (Vw.same _ rfl) (And.intro (Vw.islF _ _ _) (And.intro (Vw.same _ rfl) trivial))) ?_
  refine LWp.sim (e := [(1, .isl 4 (v1.1.map e_QChunk) false), (2, .int .i64 v1.2)]) (L := []) (n := 0) ?_ ?_
  · exact simI (M := []) rfl (And.intro (Vw.same _ rfl) (And.intro (Vw.same _ rfl) trivial)) trivial
  refine seqI ?_
  refine regI ?_
  obtain ⟨v2, h2, h⟩ := bind_some h
  refine PFn.call (f9_ok h2) (And.intro (Vw.islF _ _ _) (And.intro (Vw.same _ rfl) (And.intro (Vw.same _ rfl) trivial))) ?_
  refine seqI ?_
  refine regI ?_
  refine And.intro (fun hp => hp) ?_
  show yops _ _ _ [(19, .cnd ((v1.2 == 0) == true) (.int .i64 ((v1.1.map e_QChunk).length : Int))), (18, .cnd ((v1.2 == 0) == true) (.isl 4 (v1.1.map e_QChunk) false)), (17, .bool (v1.2 == 0)), (16, .bool (v1.2 == 0)), (15, .int .i64 v1.2), (4, .int .i64 v2.2), (3, .isl 1 (v2.1.map e_i64) false), (14, .int .i64 v2.2), (13, .isl 1 (v2.1.map e_i64) false), (10, .tup [.isl 1 (v2.1.map e_i64) false, .int .i64 v2.2]), (12, .tup [.isl 1 (v2.1.map e_i64) false, .int .i64 v2.2]), (11, .isl 1 (([1, 2, 5, 10] : List Int).map e_i64) true), (1, .isl 4 (v1.1.map e_QChunk) false), (2, .int .i64 v1.2)] _ _
  refine And.intro (fun hp => hp) ?_
  refine And.intro (fun hc => (bqt hc)) ?_
  obtain ⟨h3, h⟩ := ite_some h
  refine And.intro (fun hp => (And.intro hp (h3 hp))) ?_
  show yops _ _ _ [(24, .cnd (((v1.2 == 0) && (((v1.1.map e_QChunk).length : Int) == 3)) == true) (.iptr 4 (v1.1.map e_QChunk) ((2 : Int).toNat) 0)), (23, .cnd (((v1.2 == 0) && (((v1.1.map e_QChunk).length : Int) == 3)) == true) (.isl 4 (v1.1.map e_QChunk) false)), (22, .bool ((v1.2 == 0) && (((v1.1.map e_QChunk).length : Int) == 3))), (21, .bool ((v1.2 == 0) && (((v1.1.map e_QChunk).length : Int) == 3))), (20, .cnd ((v1.2 == 0) == true) (.bool (((v1.1.map e_QChunk).length : Int) == 3))), (19, .cnd ((v1.2 == 0) == true) (.int .i64 ((v1.1.map e_QChunk).length : Int))), (18, .cnd ((v1.2 == 0) == true) (.isl 4 (v1.1.map e_QChunk) false)), (17, .bool (v1.2 == 0)), (16, .bool (v1.2 == 0)), (15, .int .i64 v1.2), (4, .int .i64 v2.2), (3, .isl 1 (v2.1.map e_i64) false), (14, .int .i64 v2.2), (13, .isl 1 (v2.1.map e_i64) false), (10, .tup [.isl 1 (v2.1.map e_i64) false, .int .i64 v2.2]), (12, .tup [.isl 1 (v2.1.map e_i64) false, .int .i64 v2.2]), (11, .isl 1 (([1, 2, 5, 10] : List Int).map e_i64) true), (1, .isl 4 (v1.1.map e_QChunk) false), (2, .int .i64 v1.2)] _ _
  refine And.intro (fun hp => hp) ?_
  refine Exists.intro (e_QChunk (v1.1.getD ((2 : Int).toNat) default)) (And.intro (fun hp => And.intro (getD_enc e_QChunk _ _ (idx_ltL e_QChunk (h3 hp))) (And.intro hp (And.intro (idx_lt (h3 hp)) (Nat.le_of_ble_eq_true rfl)))) ?_)
  refine And.intro (fun hc => (bqt hc)) ?_
  obtain ⟨h4, h⟩ := ite_some h
  refine And.intro (fun hp => (And.intro hp (h4 hp))) ?_
  show yops _ _ _ [(30, .cnd ((((v1.2 == 0) && (((v1.1.map e_QChunk).length : Int) == 3)) && (v1.1.getD ((2 : Int).toNat) default).f_Last) == true) (.iptr 4 (v1.1.map e_QChunk) ((2 : Int).toNat) 0)), (29, .cnd ((((v1.2 == 0) && (((v1.1.map e_QChunk).length : Int) == 3)) && (v1.1.getD ((2 : Int).toNat) default).f_Last) == true) (.isl 4 (v1.1.map e_QChunk) false)), (28, .bool (((v1.2 == 0) && (((v1.1.map e_QChunk).length : Int) == 3)) && (v1.1.getD ((2 : Int).toNat) default).f_Last)), (27, .bool (((v1.2 == 0) && (((v1.1.map e_QChunk).length : Int) == 3)) && (v1.1.getD ((2 : Int).toNat) default).f_Last)), (26, .cnd (((v1.2 == 0) && (((v1.1.map e_QChunk).length : Int) == 3)) == true) (.bool ((v1.1.getD ((2 : Int).toNat) default).f_Last))), (25, .cnd (((v1.2 == 0) && (((v1.1.map e_QChunk).length : Int) == 3)) == true) (.iptr 4 (v1.1.map e_QChunk) ((2 : Int).toNat) 2)), (24, .cnd (((v1.2 == 0) && (((v1.1.map e_QChunk).length : Int) == 3)) == true) (.iptr 4 (v1.1.map e_QChunk) ((2 : Int).toNat) 0)), (23, .cnd (((v1.2 == 0) && (((v1.1.map e_QChunk).length : Int) == 3)) == true) (.isl 4 (v1.1.map e_QChunk) false)), (22, .bool ((v1.2 == 0) && (((v1.1.map e_QChunk).length : Int) == 3))), (21, .bool ((v1.2 == 0) && (((v1.1.map e_QChunk).length : Int) == 3))), (20, .cnd ((v1.2 == 0) == true) (.bool (((v1.1.map e_QChunk).length : Int) == 3))), (19, .cnd ((v1.2 == 0) == true) (.int .i64 ((v1.1.map e_QChunk).length : Int))), (18, .cnd ((v1.2 == 0) == true) (.isl 4 (v1.1.map e_QChunk) false)), (17, .bool (v1.2 == 0)), (16, .bool (v1.2 == 0)), (15, .int .i64 v1.2), (4, .int .i64 v2.2), (3, .isl 1 (v2.1.map e_i64) false), (14, .int .i64 v2.2), (13, .isl 1 (v2.1.map e_i64) false), (10, .tup [.isl 1 (v2.1.map e_i64) false, .int .i64 v2.2]), (12, .tup [.isl 1 (v2.1.map e_i64) false, .int .i64 v2.2]), (11, .isl 1 (([1, 2, 5, 10] : List Int).map e_i64) true), (1, .isl 4 (v1.1.map e_QChunk) false), (2, .int .i64 v1.2)] _ _
  refine And.intro (fun hp => hp) ?_
  refine Exists.intro (e_QChunk (v1.1.getD ((2 : Int).toNat) default)) (And.intro (fun hp => And.intro (getD_enc e_QChunk _ _ (idx_ltL e_QChunk (h4 hp))) (And.intro hp (And.intro (idx_lt (h4 hp)) (Nat.le_of_ble_eq_true rfl)))) ?_)
  refine Or.inl (Exists.intro (.isl 1 (([5] : List Int).map e_i64) true) (And.intro (fun hp => And.intro rfl (And.intro rfl rfl)) ?_))
  obtain ⟨v3, h5, h⟩ := bind_some h
  refine Or.inl (Exists.intro (.bool v3) (And.intro (fun hp => And.intro (And.intro hp hp) (PFn.call (f10_ok (ite_tt hp h5)) (And.intro (Vw.same _ rfl) (And.intro (Vw.islF _ _ _) trivial)) (And.intro rfl (And.intro rfl rfl)))) ?_))
  refine And.intro (fun hc => (bqt hc)) ?_
  show yops _ _ _ [(35, .bool ((((v1.2 == 0) && (((v1.1.map e_QChunk).length : Int) == 3)) && (v1.1.getD ((2 : Int).toNat) default).f_Last) && v3)), (34, .cnd ((((v1.2 == 0) && (((v1.1.map e_QChunk).length : Int) == 3)) && (v1.1.getD ((2 : Int).toNat) default).f_Last) == true) (.bool v3)), (33, .cnd ((((v1.2 == 0) && (((v1.1.map e_QChunk).length : Int) == 3)) && (v1.1.getD ((2 : Int).toNat) default).f_Last) == true) (.isl 1 (([5] : List Int).map e_i64) true)), (32, .cnd ((((v1.2 == 0) && (((v1.1.map e_QChunk).length : Int) == 3)) && (v1.1.getD ((2 : Int).toNat) default).f_Last) == true) (.isl 1 (((v1.1.getD ((2 : Int).toNat) default).f_Items).map e_i64) false)), (31, .cnd ((((v1.2 == 0) && (((v1.1.map e_QChunk).length : Int) == 3)) && (v1.1.getD ((2 : Int).toNat) default).f_Last) == true) (.iptr 4 (v1.1.map e_QChunk) ((2 : Int).toNat) 3)), (30, .cnd ((((v1.2 == 0) && (((v1.1.map e_QChunk).length : Int) == 3)) && (v1.1.getD ((2 : Int).toNat) default).f_Last) == true) (.iptr 4 (v1.1.map e_QChunk) ((2 : Int).toNat) 0)), (29, .cnd ((((v1.2 == 0) && (((v1.1.map e_QChunk).length : Int) == 3)) && (v1.1.getD ((2 : Int).toNat) default).f_Last) == true) (.isl 4 (v1.1.map e_QChunk) false)), (28, .bool (((v1.2 == 0) && (((v1.1.map e_QChunk).length : Int) == 3)) && (v1.1.getD ((2 : Int).toNat) default).f_Last)), (27, .bool (((v1.2 == 0) && (((v1.1.map e_QChunk).length : Int) == 3)) && (v1.1.getD ((2 : Int).toNat) default).f_Last)), (26, .cnd (((v1.2 == 0) && (((v1.1.map e_QChunk).length : Int) == 3)) == true) (.bool ((v1.1.getD ((2 : Int).toNat) default).f_Last))), (25, .cnd (((v1.2 == 0) && (((v1.1.map e_QChunk).length : Int) == 3)) == true) (.iptr 4 (v1.1.map e_QChunk) ((2 : Int).toNat) 2)), (24, .cnd (((v1.2 == 0) && (((v1.1.map e_QChunk).length : Int) == 3)) == true) (.iptr 4 (v1.1.map e_QChunk) ((2 : Int).toNat) 0)), (23, .cnd (((v1.2 == 0) && (((v1.1.map e_QChunk).length : Int) == 3)) == true) (.isl 4 (v1.1.map e_QChunk) false)), (22, .bool ((v1.2 == 0) && (((v1.1.map e_QChunk).length : Int) == 3))), (21, .bool ((v1.2 == 0) && (((v1.1.map e_QChunk).length : Int) == 3))), (20, .cnd ((v1.2 == 0) == true) (.bool (((v1.1.map e_QChunk).length : Int) == 3))), (19, .cnd ((v1.2 == 0) == true) (.int .i64 ((v1.1.map e_QChunk).length : Int))), (18, .cnd ((v1.2 == 0) == true) (.isl 4 (v1.1.map e_QChunk) false)), (17, .bool (v1.2 == 0)), (16, .bool (v1.2 == 0)), (15, .int .i64 v1.2), (4, .int .i64 v2.2), (3, .isl 1 (v2.1.map e_i64) false), (14, .int .i64 v2.2), (13, .isl 1 (v2.1.map e_i64) false), (10, .tup [.isl 1 (v2.1.map e_i64) false, .int .i64 v2.2]), (12, .tup [.isl 1 (v2.1.map e_i64) false, .int .i64 v2.2]), (11, .isl 1 (([1, 2, 5, 10] : List Int).map e_i64) true), (1, .isl 4 (v1.1.map e_QChunk) false), (2, .int .i64 v1.2)] _ _
  refine And.intro (fun hp => hp) ?_
  refine And.intro (fun hc => (bqt hc)) ?_
  refine Or.inl (Exists.intro (.isl 1 (([20, 50, 100] : List Int).map e_i64) true) (And.intro (fun hp => And.intro rfl (And.intro rfl rfl)) ?_))
  obtain ⟨v4, h6, h⟩ := bind_some h
  refine Or.inl (Exists.intro (.bool v4) (And.intro (fun hp => And.intro (And.intro hp hp) (PFn.call (f10_ok (ite_tt hp h6)) (And.intro (Vw.same _ rfl) (And.intro (Vw.islF _ _ _) trivial)) (And.intro rfl (And.intro rfl rfl)))) ?_))
  refine And.intro (fun hc => (bqt hc)) ?_
  show yops _ _ _ [(44, .bool ((((((v1.2 == 0) && (((v1.1.map e_QChunk).length : Int) == 3)) && (v1.1.getD ((2 : Int).toNat) default).f_Last) && v3) && (v2.2 == 0)) && v4)), (43, .cnd ((((((v1.2 == 0) && (((v1.1.map e_QChunk).length : Int) == 3)) && (v1.1.getD ((2 : Int).toNat) default).f_Last) && v3) && (v2.2 == 0)) == true) (.bool v4)), (42, .cnd ((((((v1.2 == 0) && (((v1.1.map e_QChunk).length : Int) == 3)) && (v1.1.getD ((2 : Int).toNat) default).f_Last) && v3) && (v2.2 == 0)) == true) (.isl 1 (([20, 50, 100] : List Int).map e_i64) true)), (41, .cnd ((((((v1.2 == 0) && (((v1.1.map e_QChunk).length : Int) == 3)) && (v1.1.getD ((2 : Int).toNat) default).f_Last) && v3) && (v2.2 == 0)) == true) (.isl 1 (v2.1.map e_i64) false)), (40, .bool (((((v1.2 == 0) && (((v1.1.map e_QChunk).length : Int) == 3)) && (v1.1.getD ((2 : Int).toNat) default).f_Last) && v3) && (v2.2 == 0))), (39, .bool (((((v1.2 == 0) && (((v1.1.map e_QChunk).length : Int) == 3)) && (v1.1.getD ((2 : Int).toNat) default).f_Last) && v3) && (v2.2 == 0))), (38, .cnd (((((v1.2 == 0) && (((v1.1.map e_QChunk).length : Int) == 3)) && (v1.1.getD ((2 : Int).toNat) default).f_Last) && v3) == true) (.bool (v2.2 == 0))), (37, .cnd (((((v1.2 == 0) && (((v1.1.map e_QChunk).length : Int) == 3)) && (v1.1.getD ((2 : Int).toNat) default).f_Last) && v3) == true) (.int .i64 v2.2)), (36, .bool ((((v1.2 == 0) && (((v1.1.map e_QChunk).length : Int) == 3)) && (v1.1.getD ((2 : Int).toNat) default).f_Last) && v3)), (35, .bool ((((v1.2 == 0) && (((v1.1.map e_QChunk).length : Int) == 3)) && (v1.1.getD ((2 : Int).toNat) default).f_Last) && v3)), (34, .cnd ((((v1.2 == 0) && (((v1.1.map e_QChunk).length : Int) == 3)) && (v1.1.getD ((2 : Int).toNat) default).f_Last) == true) (.bool v3)), (33, .cnd ((((v1.2 == 0) && (((v1.1.map e_QChunk).length : Int) == 3)) && (v1.1.getD ((2 : Int).toNat) default).f_Last) == true) (.isl 1 (([5] : List Int).map e_i64) true)), (32, .cnd ((((v1.2 == 0) && (((v1.1.map e_QChunk).length : Int) == 3)) && (v1.1.getD ((2 : Int).toNat) default).f_Last) == true) (.isl 1 (((v1.1.getD ((2 : Int).toNat) default).f_Items).map e_i64) false)), (31, .cnd ((((v1.2 == 0) && (((v1.1.map e_QChunk).length : Int) == 3)) && (v1.1.getD ((2 : Int).toNat) default).f_Last) == true) (.iptr 4 (v1.1.map e_QChunk) ((2 : Int).toNat) 3)), (30, .cnd ((((v1.2 == 0) && (((v1.1.map e_QChunk).length : Int) == 3)) && (v1.1.getD ((2 : Int).toNat) default).f_Last) == true) (.iptr 4 (v1.1.map e_QChunk) ((2 : Int).toNat) 0)), (29, .cnd ((((v1.2 == 0) && (((v1.1.map e_QChunk).length : Int) == 3)) && (v1.1.getD ((2 : Int).toNat) default).f_Last) == true) (.isl 4 (v1.1.map e_QChunk) false)), (28, .bool (((v1.2 == 0) && (((v1.1.map e_QChunk).length : Int) == 3)) && (v1.1.getD ((2 : Int).toNat) default).f_Last)), (27, .bool (((v1.2 == 0) && (((v1.1.map e_QChunk).length : Int) == 3)) && (v1.1.getD ((2 : Int).toNat) default).f_Last)), (26, .cnd (((v1.2 == 0) && (((v1.1.map e_QChunk).length : Int) == 3)) == true) (.bool ((v1.1.getD ((2 : Int).toNat) default).f_Last))), (25, .cnd (((v1.2 == 0) && (((v1.1.map e_QChunk).length : Int) == 3)) == true) (.iptr 4 (v1.1.map e_QChunk) ((2 : Int).toNat) 2)), (24, .cnd (((v1.2 == 0) && (((v1.1.map e_QChunk).length : Int) == 3)) == true) (.iptr 4 (v1.1.map e_QChunk) ((2 : Int).toNat) 0)), (23, .cnd (((v1.2 == 0) && (((v1.1.map e_QChunk).length : Int) == 3)) == true) (.isl 4 (v1.1.map e_QChunk) false)), (22, .bool ((v1.2 == 0) && (((v1.1.map e_QChunk).length : Int) == 3))), (21, .bool ((v1.2 == 0) && (((v1.1.map e_QChunk).length : Int) == 3))), (20, .cnd ((v1.2 == 0) == true) (.bool (((v1.1.map e_QChunk).length : Int) == 3))), (19, .cnd ((v1.2 == 0) == true) (.int .i64 ((v1.1.map e_QChunk).length : Int))), (18, .cnd ((v1.2 == 0) == true) (.isl 4 (v1.1.map e_QChunk) false)), (17, .bool (v1.2 == 0)), (16, .bool (v1.2 == 0)), (15, .int .i64 v1.2), (4, .int .i64 v2.2), (3, .isl 1 (v2.1.map e_i64) false), (14, .int .i64 v2.2), (13, .isl 1 (v2.1.map e_i64) false), (10, .tup [.isl 1 (v2.1.map e_i64) false, .int .i64 v2.2]), (12, .tup [.isl 1 (v2.1.map e_i64) false, .int .i64 v2.2]), (11, .isl 1 (([1, 2, 5, 10] : List Int).map e_i64) true), (1, .isl 4 (v1.1.map e_QChunk) false), (2, .int .i64 v1.2)] _ _
  refine LWp.sim (e := [(0, .bool ((((((v1.2 == 0) && (((v1.1.map e_QChunk).length : Int) == 3)) && (v1.1.getD ((2 : Int).toNat) default).f_Last) && v3) && (v2.2 == 0)) && v4))]) (L := []) (n := 0) ?_ ?_
  · exact simI (M := []) rfl (And.intro (Vw.same _ rfl) trivial) trivial
  refine retI ?_
  cases h
  exact And.intro trivial (And.intro rfl (Vw.same _ rfl))

theorem f5_ok {m : Option Nat} {o : Bool} (h : S_glossatorlaw3_chunkExample m = some o) : PFn Try.prog 5 [] (.bool o) := PFn.ofFnW (L := f5_L) f5_low f5_fok (Nat.le_of_ble_eq_true rfl) rfl (f5_start h)

def f12b0_c0 : LCode := (.seq (.region [⟨some 0, .mv (.c (.val (.pointer none))), none⟩])
 (.seq (.region [⟨some 1, .mkmap none, none⟩,
   ⟨some 2, .build [(.val (.map none))] [(0, 1, (.t 1))], none⟩,
   ⟨some 3, .box (.t 2), none⟩,
   ⟨some 0, .mv (.t 3), none⟩])
 .ret))
def f12b0_lay : Lay := ⟨4, [], false⟩
def f12b0_res : List LRes := [.t 0]
def f12b0_L : LFn := ⟨0, f12b0_lay, f12b0_c0, f12b0_res⟩
theorem f12b0_low : lowFn Try.prog [] 12 = some f12b0_L := by kernel_rfl
theorem f12b0_fok : FnOk Try.prog 12 := ⟨_, Try.func12, rfl, rfl⟩
noncomputable def S_progress_NewAssembler (m : Option Nat) : Option Unit :=
  some ()

def f12b0_Q (o : Unit) : Exit → Env → AHeap → Nat → Prop := FinK f12b0_res (FinTo 3 5 (.ptr (3, 0) 0 0) [((3, 0), .one [.map (4, 0)]), ((4, 0), .amap (([] : List (Int × Ref)).map (em a_i64 (eR none))))])

theorem f12b0_start {m : Option Nat} {o : Unit} (h : S_progress_NewAssembler m = some o) : LWp Try.prog f12b0_lay 3 f12b0_c0 (f12b0_Q o) (initEnv 0 []) [] 3 := by
  unfold S_progress_NewAssembler at h
  refine seqI ?_
  refine regI ?_
  refine seqI ?_
  refine regI ?_
  refine retI ?_
  cases h
  exact And.intro trivial (finI (n' := 5) [((3, 0), (4, 0)), ((4, 0), (3, 0))] [] rfl rfl (Vw.ptr _ _ _ _ rfl) (And.intro (And.intro rfl (BVw.oneL (And.intro (Vw.map _ _ rfl) trivial))) (And.intro (And.intro rfl (BVw.amap [] (fun _ h => by cases h))) trivial)))

theorem f12b0_ok {m : Option Nat} {o : Unit} (h : S_progress_NewAssembler m = some o) : ACalls Try.prog 12 [] [] 3 (Gives 5 (.ptr (3, 0) 0 0) [((3, 0), .one [.map (4, 0)]), ((4, 0), .amap (([] : List (Int × Ref)).map (em a_i64 (eR none))))]) := bfn_of (L := f12b0_L) f12b0_low f12b0_fok (Nat.le_of_ble_eq_true rfl) (f12b0_start h)

def f7_c1 : LCode := (.seq (.region [⟨some 15, .bin .lss (.t 14) (.t 13), none⟩])
 (.seq (.cond (.t 15)
  .skip
  (.exit 0))
 (.seq (.block 1
  (.seq (.region [⟨some 16, .mv (.t 14), none⟩,
    ⟨some 17, .iaddr 4 (.t 12) (.t 14), none⟩,
    ⟨some 18, .load true 4 (.t 17), none⟩,
    ⟨some 6, .alloc [(.int .i64 0), (.int .i64 0), (.bool false), (.isl 1 [] true)], none⟩,
    ⟨some 5, .mv (.t 16), none⟩,
    ⟨none, .store 4 (.t 6) (.t 18), none⟩])
  (.seq (.draw [⟨⟨some 19, .faddr 0 (.t 6), none⟩, []⟩,
    ⟨⟨some 20, .load false 1 (.t 19), none⟩, []⟩,
    ⟨⟨some 21, .mv (.t 1), none⟩, []⟩,
    ⟨⟨some 22, .mv (.t 5), none⟩, []⟩,
    ⟨⟨some 23, .iaddr 4 (.t 21) (.t 22), none⟩, []⟩,
    ⟨⟨some 24, .faddr 0 (.t 23), none⟩, []⟩,
    ⟨⟨some 25, .load false 1 (.t 24), none⟩, []⟩,
    ⟨⟨some 26, .bin .neq (.t 20) (.t 25), none⟩, []⟩,
    ⟨⟨some 27, .mv (.t 26), none⟩, []⟩,
    ⟨⟨some 28, .faddr 1 (.t 6), some (27, false)⟩, []⟩,
    ⟨⟨some 29, .load false 1 (.t 28), some (27, false)⟩, []⟩,
    ⟨⟨some 30, .mv (.t 1), some (27, false)⟩, []⟩,
    ⟨⟨some 31, .mv (.t 5), some (27, false)⟩, []⟩,
    ⟨⟨some 32, .iaddr 4 (.t 30) (.t 31), some (27, false)⟩, []⟩,
    ⟨⟨some 33, .faddr 1 (.t 32), some (27, false)⟩, []⟩,
    ⟨⟨some 34, .load false 1 (.t 33), some (27, false)⟩, []⟩,
    ⟨⟨some 35, .bin .neq (.t 29) (.t 34), some (27, false)⟩, []⟩,
    ⟨⟨some 36, .pick (.t 27) (.c (.bool true)) (.t 35), none⟩, []⟩,
    ⟨⟨some 37, .mv (.t 36), none⟩, []⟩,
    ⟨⟨some 38, .faddr 2 (.t 6), some (37, false)⟩, []⟩,
    ⟨⟨some 39, .load false 1 (.t 38), some (37, false)⟩, []⟩,
    ⟨⟨some 40, .mv (.t 1), some (37, false)⟩, []⟩,
    ⟨⟨some 41, .mv (.t 5), some (37, false)⟩, []⟩,
    ⟨⟨some 42, .iaddr 4 (.t 40) (.t 41), some (37, false)⟩, []⟩,
    ⟨⟨some 43, .faddr 2 (.t 42), some (37, false)⟩, []⟩,
    ⟨⟨some 44, .load false 1 (.t 43), some (37, false)⟩, []⟩,
    ⟨⟨some 45, .eq true .bool (.t 39) (.t 44), some (37, false)⟩, []⟩,
    ⟨⟨some 46, .pick (.t 37) (.c (.bool true)) (.t 45), none⟩, []⟩,
    ⟨⟨some 47, .mv (.t 46), none⟩, []⟩,
    ⟨⟨some 48, .faddr 3 (.t 6), some (47, false)⟩, []⟩,
    ⟨⟨some 49, .load false 1 (.t 48), some (47, false)⟩, []⟩,
    ⟨⟨some 50, .mv (.t 1), some (47, false)⟩, []⟩,
    ⟨⟨some 51, .mv (.t 5), some (47, false)⟩, []⟩,
    ⟨⟨some 52, .iaddr 4 (.t 50) (.t 51), some (47, false)⟩, []⟩,
    ⟨⟨some 53, .faddr 3 (.t 52), some (47, false)⟩, []⟩,
    ⟨⟨some 54, .load false 1 (.t 53), some (47, false)⟩, []⟩,
    ⟨⟨some 55, .call 10 [(.t 49), (.t 54)], some (47, false)⟩, []⟩,
    ⟨⟨some 56, .un .not (.t 55), some (47, false)⟩, []⟩,
    ⟨⟨some 57, .pick (.t 47) (.c (.bool true)) (.t 56), none⟩, []⟩])
  (.cond (.t 57)
   (.seq (.region [⟨some 4, .mv (.c (.bool false)), none⟩])
   .ret)
   .skip))))
 (.region [⟨some 58, .bin .add (.t 14) (.c (.int .i64 1)), none⟩,
   ⟨some 14, .mv (.t 58), none⟩]))))
def f7_c0 : LCode := (.seq (.region [⟨some 4, .mv (.c (.bool true)), none⟩])
 .ret)
def f7_c2 : LCode := (.seq (.region [⟨some 4, .mv (.c (.bool false)), none⟩])
 (.seq (.seq (.region [⟨some 7, .mv (.t 0), none⟩,
   ⟨some 8, .len false (.t 7), none⟩,
   ⟨some 9, .mv (.t 1), none⟩,
   ⟨some 10, .len false (.t 9), none⟩,
   ⟨some 11, .bin .neq (.t 8) (.t 10), none⟩])
 (.cond (.t 11)
  (.seq (.region [⟨some 4, .mv (.c (.bool false)), none⟩])
  .ret)
  .skip))
 (.seq (.seq (.region [⟨some 12, .mv (.t 0), none⟩,
   ⟨some 13, .len false (.t 12), none⟩,
   ⟨some 14, .mv (.c (.int .i64 0)), none⟩])
 (.block 0
  (.loop
   f7_c1)))
 f7_c0)))
def f7_lay : Lay := ⟨59, [], false⟩
def f7_res : List LRes := [.t 4]
def f7_L : LFn := ⟨2, f7_lay, f7_c2, f7_res⟩
theorem f7_low : lowFn Try.prog [] 7 = some f7_L := by kernel_rfl
theorem f7_fok : FnOk Try.prog 7 := ⟨_, Try.func7, rfl, rfl⟩
def f7_Q (a0 : List G_QChunk) (a1 : List G_QChunk) (o : Bool) : Exit → Env → AHeap → Nat → Prop := FinK f7_res (PureEnd (.bool o))

def f7_L1_env (a0 : List G_QChunk) (a1 : List G_QChunk) (s : Int) : Env := [(1, .isl 4 (a1.map e_QChunk) false), (12, .isl 4 (a0.map e_QChunk) false), (13, .int .i64 ((a0.map e_QChunk).length : Int)), (14, .int .i64 s)]
def f7_L1_hp (a0 : List G_QChunk) (a1 : List G_QChunk) (s : Int) : AHeap := []
def f7_L1_Q (a0 : List G_QChunk) (a1 : List G_QChunk) (o : Bool) : Exit → Env → AHeap → Nat → Prop := (QBlock 0 (QSeq Try.prog f7_lay 0 f7_c0 (f7_Q a0 a1 o)))

noncomputable def S_glossatorref3_EqualChunks_j1 (m : Option Nat) : Option Bool :=
  some true

noncomputable def S_glossatorref3_EqualChunks_b1 (m : Option Nat) (a0 : List G_QChunk) (a1 : List G_QChunk) (v2 : Int) : Option (Int ⊕ Bool) :=
  if (decide (v2 < ((a0.map e_QChunk).length : Int))) = true then
    if (0 : Int) ≤ v2 ∧ v2 < ((a0.map e_QChunk).length : Int) then
    if (0 : Int) ≤ v2 ∧ v2 < ((a1.map e_QChunk).length : Int) then
    if ((((a0.getD v2.toNat default).f_Token != (a1.getD v2.toNat default).f_Token) == false) = true → (0 : Int) ≤ v2 ∧ v2 < ((a1.map e_QChunk).length : Int)) then
    if (((((a0.getD v2.toNat default).f_Token != (a1.getD v2.toNat default).f_Token) || ((a0.getD v2.toNat default).f_Seq != (a1.getD v2.toNat default).f_Seq)) == false) = true → (0 : Int) ≤ v2 ∧ v2 < ((a1.map e_QChunk).length : Int)) then
    if ((((((a0.getD v2.toNat default).f_Token != (a1.getD v2.toNat default).f_Token) || ((a0.getD v2.toNat default).f_Seq != (a1.getD v2.toNat default).f_Seq)) || (!((a0.getD v2.toNat default).f_Last == (a1.getD v2.toNat default).f_Last))) == false) = true → (0 : Int) ≤ v2 ∧ v2 < ((a1.map e_QChunk).length : Int)) then
    (if (((((a0.getD v2.toNat default).f_Token != (a1.getD v2.toNat default).f_Token) || ((a0.getD v2.toNat default).f_Seq != (a1.getD v2.toNat default).f_Seq)) || (!((a0.getD v2.toNat default).f_Last == (a1.getD v2.toNat default).f_Last))) == false) = true then S_glossatorref3_Equal_int m ((a0.getD v2.toNat default).f_Items) ((a1.getD v2.toNat default).f_Items) else some default).bind fun v4 =>
    if (((((a0.getD v2.toNat default).f_Token != (a1.getD v2.toNat default).f_Token) || ((a0.getD v2.toNat default).f_Seq != (a1.getD v2.toNat default).f_Seq)) || (!((a0.getD v2.toNat default).f_Last == (a1.getD v2.toNat default).f_Last))) || (!v4)) = true then
      Option.map Sum.inr (
        some false)
    else
      some (.inl (W (v2 + 1)))
    else none
    else none
    else none
    else none
    else none
  else
    Option.map Sum.inr (
      S_glossatorref3_EqualChunks_j1 m)

noncomputable def S_glossatorref3_EqualChunks_l1 (m : Option Nat) (a0 : List G_QChunk) (a1 : List G_QChunk) (v2 : Int) : Option Bool := loopM m (fun (s : Int) => S_glossatorref3_EqualChunks_b1 m a0 a1 s) v2

theorem f7_j1_ok {a0 : List G_QChunk} {a1 : List G_QChunk} {m : Option Nat} {o : Bool} (h : S_glossatorref3_EqualChunks_j1 m = some o) :
    LWp Try.prog f7_lay 0 f7_c0 (f7_Q a0 a1 o) [] [] 0 := by
  unfold S_glossatorref3_EqualChunks_j1 at h
  refine seqI ?_
  refine regI ?_
  refine retI ?_
  cases h
  exact And.intro trivial (And.intro rfl (Vw.same _ rfl))

theorem f7_L1_bok {a0 : List G_QChunk} {a1 : List G_QChunk} {v2 : Int} {m : Option Nat} {o : Int ⊕ Bool} (h : S_glossatorref3_EqualChunks_b1 m a0 a1 v2 = some o) :
    LWp Try.prog f7_lay 0 f7_c1 (BodyQ 0 0 (f7_L1_env a0 a1) (f7_L1_hp a0 a1) (f7_L1_Q a0 a1) o) [(1, .isl 4 (a1.map e_QChunk) false), (12, .isl 4 (a0.map e_QChunk) false), (13, .int .i64 ((a0.map e_QChunk).length : Int)), (14, .int .i64 v2)] [] 0 := by
  unfold S_glossatorref3_EqualChunks_b1 at h
  refine seqI ?_
  refine regI ?_
  refine seqI ?_
  refine condI (v := (decide (v2 < ((a0.map e_QChunk).length : Int)))) rfl trivial (fun h18 => ?_) (fun h18 => ?_)
  · have h := ite_tt h18 h
    refine skipI ?_
    refine seqI ?_
    refine blockI ?_
    refine seqI ?_
    refine regI ?_
    obtain ⟨h19, h⟩ := ite_some h
    refine And.intro h19 ?_
    refine Exists.intro (e_QChunk (a0.getD v2.toNat default)) (And.intro (getD_enc e_QChunk _ _ (idx_ltL e_QChunk h19)) (And.intro (And.intro (idx_lt h19) (Nat.le_of_ble_eq_true rfl)) ?_))
    refine seqI ?_
    refine drawO rfl ?_
    obtain ⟨h20, h⟩ := ite_some h
    refine And.intro h20 ?_
    show yops _ _ _ [(23, .iptr 4 (a1.map e_QChunk) v2.toNat 0), (22, .int .i64 v2), (21, .isl 4 (a1.map e_QChunk) false), (20, .int .i64 ((a0.getD v2.toNat default).f_Token)), (19, .ptr (0, 0) 0 0), (5, .int .i64 v2), (6, .ptr (0, 0) 0 0), (18, .agg [.int .i64 ((a0.getD v2.toNat default).f_Token), .int .i64 ((a0.getD v2.toNat default).f_Seq), .bool ((a0.getD v2.toNat default).f_Last), .isl 1 (((a0.getD v2.toNat default).f_Items).map e_i64) false]), (17, .iptr 4 (a0.map e_QChunk) v2.toNat 0), (16, .int .i64 v2), (15, .bool (decide (v2 < ((a0.map e_QChunk).length : Int)))), (1, .isl 4 (a1.map e_QChunk) false), (12, .isl 4 (a0.map e_QChunk) false), (13, .int .i64 ((a0.map e_QChunk).length : Int)), (14, .int .i64 v2)] _ _
    refine Exists.intro (e_QChunk (a1.getD v2.toNat default)) (And.intro (getD_enc e_QChunk _ _ (idx_ltL e_QChunk h20)) (And.intro (And.intro (idx_lt h20) (Nat.le_of_ble_eq_true rfl)) ?_))
    refine And.intro (fun hp => hp) ?_
    show yops _ _ _ [(29, .cnd (((a0.getD v2.toNat default).f_Token != (a1.getD v2.toNat default).f_Token) == false) (.int .i64 ((a0.getD v2.toNat default).f_Seq))), (28, .cnd (((a0.getD v2.toNat default).f_Token != (a1.getD v2.toNat default).f_Token) == false) (.ptr (0, 0) 0 1)), (27, .bool ((a0.getD v2.toNat default).f_Token != (a1.getD v2.toNat default).f_Token)), (26, .bool ((a0.getD v2.toNat default).f_Token != (a1.getD v2.toNat default).f_Token)), (25, .int .i64 ((a1.getD v2.toNat default).f_Token)), (24, .iptr 4 (a1.map e_QChunk) v2.toNat 0), (23, .iptr 4 (a1.map e_QChunk) v2.toNat 0), (22, .int .i64 v2), (21, .isl 4 (a1.map e_QChunk) false), (20, .int .i64 ((a0.getD v2.toNat default).f_Token)), (19, .ptr (0, 0) 0 0), (5, .int .i64 v2), (6, .ptr (0, 0) 0 0), (18, .agg [.int .i64 ((a0.getD v2.toNat default).f_Token), .int .i64 ((a0.getD v2.toNat default).f_Seq), .bool ((a0.getD v2.toNat default).f_Last), .isl 1 (((a0.getD v2.toNat default).f_Items).map e_i64) false]), (17, .iptr 4 (a0.map e_QChunk) v2.toNat 0), (16, .int .i64 v2), (15, .bool (decide (v2 < ((a0.map e_QChunk).length : Int)))), (1, .isl 4 (a1.map e_QChunk) false), (12, .isl 4 (a0.map e_QChunk) false), (13, .int .i64 ((a0.map e_QChunk).length : Int)), (14, .int .i64 v2)] _ _
    obtain ⟨h21, h⟩ := ite_some h
    refine And.intro (fun hp => (And.intro (And.intro hp hp) (h21 hp))) ?_
    refine And.intro (fun hp => hp) ?_
    refine Exists.intro (e_QChunk (a1.getD v2.toNat default)) (And.intro (fun hp => And.intro (getD_enc e_QChunk _ _ (idx_ltL e_QChunk (h21 hp))) (And.intro hp (And.intro (idx_lt (h21 hp)) (Nat.le_of_ble_eq_true rfl)))) ?_)
    refine And.intro (fun hp => (And.intro hp hp)) ?_
    show yops _ _ _ [(35, .cnd (((a0.getD v2.toNat default).f_Token != (a1.getD v2.toNat default).f_Token) == false) (.bool ((a0.getD v2.toNat default).f_Seq != (a1.getD v2.toNat default).f_Seq))), (34, .cnd (((a0.getD v2.toNat default).f_Token != (a1.getD v2.toNat default).f_Token) == false) (.int .i64 ((a1.getD v2.toNat default).f_Seq))), (33, .cnd (((a0.getD v2.toNat default).f_Token != (a1.getD v2.toNat default).f_Token) == false) (.iptr 4 (a1.map e_QChunk) v2.toNat 1)), (32, .cnd (((a0.getD v2.toNat default).f_Token != (a1.getD v2.toNat default).f_Token) == false) (.iptr 4 (a1.map e_QChunk) v2.toNat 0)), (31, .cnd (((a0.getD v2.toNat default).f_Token != (a1.getD v2.toNat default).f_Token) == false) (.int .i64 v2)), (30, .cnd (((a0.getD v2.toNat default).f_Token != (a1.getD v2.toNat default).f_Token) == false) (.isl 4 (a1.map e_QChunk) false)), (29, .cnd (((a0.getD v2.toNat default).f_Token != (a1.getD v2.toNat default).f_Token) == false) (.int .i64 ((a0.getD v2.toNat default).f_Seq))), (28, .cnd (((a0.getD v2.toNat default).f_Token != (a1.getD v2.toNat default).f_Token) == false) (.ptr (0, 0) 0 1)), (27, .bool ((a0.getD v2.toNat default).f_Token != (a1.getD v2.toNat default).f_Token)), (26, .bool ((a0.getD v2.toNat default).f_Token != (a1.getD v2.toNat default).f_Token)), (25, .int .i64 ((a1.getD v2.toNat default).f_Token)), (24, .iptr 4 (a1.map e_QChunk) v2.toNat 0), (23, .iptr 4 (a1.map e_QChunk) v2.toNat 0), (22, .int .i64 v2), (21, .isl 4 (a1.map e_QChunk) false), (20, .int .i64 ((a0.getD v2.toNat default).f_Token)), (19, .ptr (0, 0) 0 0), (5, .int .i64 v2), (6, .ptr (0, 0) 0 0), (18, .agg [.int .i64 ((a0.getD v2.toNat default).f_Token), .int .i64 ((a0.getD v2.toNat default).f_Seq), .bool ((a0.getD v2.toNat default).f_Last), .isl 1 (((a0.getD v2.toNat default).f_Items).map e_i64) false]), (17, .iptr 4 (a0.map e_QChunk) v2.toNat 0), (16, .int .i64 v2), (15, .bool (decide (v2 < ((a0.map e_QChunk).length : Int)))), (1, .isl 4 (a1.map e_QChunk) false), (12, .isl 4 (a0.map e_QChunk) false), (13, .int .i64 ((a0.map e_QChunk).length : Int)), (14, .int .i64 v2)] _ _
    refine And.intro (fun hc => (bqf hc)) ?_
    refine And.intro (fun hp => hp) ?_
    obtain ⟨h22, h⟩ := ite_some h
    refine And.intro (fun hp => (And.intro (And.intro hp hp) (h22 hp))) ?_
    show yops _ _ _ [(42, .cnd ((((a0.getD v2.toNat default).f_Token != (a1.getD v2.toNat default).f_Token) || ((a0.getD v2.toNat default).f_Seq != (a1.getD v2.toNat default).f_Seq)) == false) (.iptr 4 (a1.map e_QChunk) v2.toNat 0)), (41, .cnd ((((a0.getD v2.toNat default).f_Token != (a1.getD v2.toNat default).f_Token) || ((a0.getD v2.toNat default).f_Seq != (a1.getD v2.toNat default).f_Seq)) == false) (.int .i64 v2)), (40, .cnd ((((a0.getD v2.toNat default).f_Token != (a1.getD v2.toNat default).f_Token) || ((a0.getD v2.toNat default).f_Seq != (a1.getD v2.toNat default).f_Seq)) == false) (.isl 4 (a1.map e_QChunk) false)), (39, .cnd ((((a0.getD v2.toNat default).f_Token != (a1.getD v2.toNat default).f_Token) || ((a0.getD v2.toNat default).f_Seq != (a1.getD v2.toNat default).f_Seq)) == false) (.bool ((a0.getD v2.toNat default).f_Last))), (38, .cnd ((((a0.getD v2.toNat default).f_Token != (a1.getD v2.toNat default).f_Token) || ((a0.getD v2.toNat default).f_Seq != (a1.getD v2.toNat default).f_Seq)) == false) (.ptr (0, 0) 0 2)), (37, .bool (((a0.getD v2.toNat default).f_Token != (a1.getD v2.toNat default).f_Token) || ((a0.getD v2.toNat default).f_Seq != (a1.getD v2.toNat default).f_Seq))), (36, .bool (((a0.getD v2.toNat default).f_Token != (a1.getD v2.toNat default).f_Token) || ((a0.getD v2.toNat default).f_Seq != (a1.getD v2.toNat default).f_Seq))), (35, .cnd (((a0.getD v2.toNat default).f_Token != (a1.getD v2.toNat default).f_Token) == false) (.bool ((a0.getD v2.toNat default).f_Seq != (a1.getD v2.toNat default).f_Seq))), (34, .cnd (((a0.getD v2.toNat default).f_Token != (a1.getD v2.toNat default).f_Token) == false) (.int .i64 ((a1.getD v2.toNat default).f_Seq))), (33, .cnd (((a0.getD v2.toNat default).f_Token != (a1.getD v2.toNat default).f_Token) == false) (.iptr 4 (a1.map e_QChunk) v2.toNat 1)), (32, .cnd (((a0.getD v2.toNat default).f_Token != (a1.getD v2.toNat default).f_Token) == false) (.iptr 4 (a1.map e_QChunk) v2.toNat 0)), (31, .cnd (((a0.getD v2.toNat default).f_Token != (a1.getD v2.toNat default).f_Token) == false) (.int .i64 v2)), (30, .cnd (((a0.getD v2.toNat default).f_Token != (a1.getD v2.toNat default).f_Token) == false) (.isl 4 (a1.map e_QChunk) false)), (29, .cnd (((a0.getD v2.toNat default).f_Token != (a1.getD v2.toNat default).f_Token) == false) (.int .i64 ((a0.getD v2.toNat default).f_Seq))), (28, .cnd (((a0.getD v2.toNat default).f_Token != (a1.getD v2.toNat default).f_Token) == false) (.ptr (0, 0) 0 1)), (27, .bool ((a0.getD v2.toNat default).f_Token != (a1.getD v2.toNat default).f_Token)), (26, .bool ((a0.getD v2.toNat default).f_Token != (a1.getD v2.toNat default).f_Token)), (25, .int .i64 ((a1.getD v2.toNat default).f_Token)), (24, .iptr 4 (a1.map e_QChunk) v2.toNat 0), (23, .iptr 4 (a1.map e_QChunk) v2.toNat 0), (22, .int .i64 v2), (21, .isl 4 (a1.map e_QChunk) false), (20, .int .i64 ((a0.getD v2.toNat default).f_Token)), (19, .ptr (0, 0) 0 0), (5, .int .i64 v2), (6, .ptr (0, 0) 0 0), (18, .agg [.int .i64 ((a0.getD v2.toNat default).f_Token), .int .i64 ((a0.getD v2.toNat default).f_Seq), .bool ((a0.getD v2.toNat default).f_Last), .isl 1 (((a0.getD v2.toNat default).f_Items).map e_i64) false]), (17, .iptr 4 (a0.map e_QChunk) v2.toNat 0), (16, .int .i64 v2), (15, .bool (decide (v2 < ((a0.map e_QChunk).length : Int)))), (1, .isl 4 (a1.map e_QChunk) false), (12, .isl 4 (a0.map e_QChunk) false), (13, .int .i64 ((a0.map e_QChunk).length : Int)), (14, .int .i64 v2)] _ _
    refine And.intro (fun hp => hp) ?_
    refine Exists.intro (e_QChunk (a1.getD v2.toNat default)) (And.intro (fun hp => And.intro (getD_enc e_QChunk _ _ (idx_ltL e_QChunk (h22 hp))) (And.intro hp (And.intro (idx_lt (h22 hp)) (Nat.le_of_ble_eq_true rfl)))) ?_)
    refine And.intro (fun hp => (And.intro hp hp)) ?_
    refine And.intro (fun hc => (bqf hc)) ?_
    refine And.intro (fun hp => hp) ?_
    show yops _ _ _ [(49, .cnd (((((a0.getD v2.toNat default).f_Token != (a1.getD v2.toNat default).f_Token) || ((a0.getD v2.toNat default).f_Seq != (a1.getD v2.toNat default).f_Seq)) || (!((a0.getD v2.toNat default).f_Last == (a1.getD v2.toNat default).f_Last))) == false) (.isl 1 (((a0.getD v2.toNat default).f_Items).map e_i64) false)), (48, .cnd (((((a0.getD v2.toNat default).f_Token != (a1.getD v2.toNat default).f_Token) || ((a0.getD v2.toNat default).f_Seq != (a1.getD v2.toNat default).f_Seq)) || (!((a0.getD v2.toNat default).f_Last == (a1.getD v2.toNat default).f_Last))) == false) (.ptr (0, 0) 0 3)), (47, .bool ((((a0.getD v2.toNat default).f_Token != (a1.getD v2.toNat default).f_Token) || ((a0.getD v2.toNat default).f_Seq != (a1.getD v2.toNat default).f_Seq)) || (!((a0.getD v2.toNat default).f_Last == (a1.getD v2.toNat default).f_Last)))), (46, .bool ((((a0.getD v2.toNat default).f_Token != (a1.getD v2.toNat default).f_Token) || ((a0.getD v2.toNat default).f_Seq != (a1.getD v2.toNat default).f_Seq)) || (!((a0.getD v2.toNat default).f_Last == (a1.getD v2.toNat default).f_Last)))), (45, .cnd ((((a0.getD v2.toNat default).f_Token != (a1.getD v2.toNat default).f_Token) || ((a0.getD v2.toNat default).f_Seq != (a1.getD v2.toNat default).f_Seq)) == false) (.bool (!((a0.getD v2.toNat default).f_Last == (a1.getD v2.toNat default).f_Last)))), (44, .cnd ((((a0.getD v2.toNat default).f_Token != (a1.getD v2.toNat default).f_Token) || ((a0.getD v2.toNat default).f_Seq != (a1.getD v2.toNat default).f_Seq)) == false) (.bool ((a1.getD v2.toNat default).f_Last))), (43, .cnd ((((a0.getD v2.toNat default).f_Token != (a1.getD v2.toNat default).f_Token) || ((a0.getD v2.toNat default).f_Seq != (a1.getD v2.toNat default).f_Seq)) == false) (.iptr 4 (a1.map e_QChunk) v2.toNat 2)), (42, .cnd ((((a0.getD v2.toNat default).f_Token != (a1.getD v2.toNat default).f_Token) || ((a0.getD v2.toNat default).f_Seq != (a1.getD v2.toNat default).f_Seq)) == false) (.iptr 4 (a1.map e_QChunk) v2.toNat 0)), (41, .cnd ((((a0.getD v2.toNat default).f_Token != (a1.getD v2.toNat default).f_Token) || ((a0.getD v2.toNat default).f_Seq != (a1.getD v2.toNat default).f_Seq)) == false) (.int .i64 v2)), (40, .cnd ((((a0.getD v2.toNat default).f_Token != (a1.getD v2.toNat default).f_Token) || ((a0.getD v2.toNat default).f_Seq != (a1.getD v2.toNat default).f_Seq)) == false) (.isl 4 (a1.map e_QChunk) false)), (39, .cnd ((((a0.getD v2.toNat default).f_Token != (a1.getD v2.toNat default).f_Token) || ((a0.getD v2.toNat default).f_Seq != (a1.getD v2.toNat default).f_Seq)) == false) (.bool ((a0.getD v2.toNat default).f_Last))), (38, .cnd ((((a0.getD v2.toNat default).f_Token != (a1.getD v2.toNat default).f_Token) || ((a0.getD v2.toNat default).f_Seq != (a1.getD v2.toNat default).f_Seq)) == false) (.ptr (0, 0) 0 2)), (37, .bool (((a0.getD v2.toNat default).f_Token != (a1.getD v2.toNat default).f_Token) || ((a0.getD v2.toNat default).f_Seq != (a1.getD v2.toNat default).f_Seq))), (36, .bool (((a0.getD v2.toNat default).f_Token != (a1.getD v2.toNat default).f_Token) || ((a0.getD v2.toNat default).f_Seq != (a1.getD v2.toNat default).f_Seq))), (35, .cnd (((a0.getD v2.toNat default).f_Token != (a1.getD v2.toNat default).f_Token) == false) (.bool ((a0.getD v2.toNat default).f_Seq != (a1.getD v2.toNat default).f_Seq))), (34, .cnd (((a0.getD v2.toNat default).f_Token != (a1.getD v2.toNat default).f_Token) == false) (.int .i64 ((a1.getD v2.toNat default).f_Seq))), (33, .cnd (((a0.getD v2.toNat default).f_Token != (a1.getD v2.toNat default).f_Token) == false) (.iptr 4 (a1.map e_QChunk) v2.toNat 1)), (32, .cnd (((a0.getD v2.toNat default).f_Token != (a1.getD v2.toNat default).f_Token) == false) (.iptr 4 (a1.map e_QChunk) v2.toNat 0)), (31, .cnd (((a0.getD v2.toNat default).f_Token != (a1.getD v2.toNat default).f_Token) == false) (.int .i64 v2)), (30, .cnd (((a0.getD v2.toNat default).f_Token != (a1.getD v2.toNat default).f_Token) == false) (.isl 4 (a1.map e_QChunk) false)), (29, .cnd (((a0.getD v2.toNat default).f_Token != (a1.getD v2.toNat default).f_Token) == false) (.int .i64 ((a0.getD v2.toNat default).f_Seq))), (28, .cnd (((a0.getD v2.toNat default).f_Token != (a1.getD v2.toNat default).f_Token) == false) (.ptr (0, 0) 0 1)), (27, .bool ((a0.getD v2.toNat default).f_Token != (a1.getD v2.toNat default).f_Token)), (26, .bool ((a0.getD v2.toNat default).f_Token != (a1.getD v2.toNat default).f_Token)), (25, .int .i64 ((a1.getD v2.toNat default).f_Token)), (24, .iptr 4 (a1.map e_QChunk) v2.toNat 0), (23, .iptr 4 (a1.map e_QChunk) v2.toNat 0), (22, .int .i64 v2), (21, .isl 4 (a1.map e_QChunk) false), (20, .int .i64 ((a0.getD v2.toNat default).f_Token)), (19, .ptr (0, 0) 0 0), (5, .int .i64 v2), (6, .ptr (0, 0) 0 0), (18, .agg [.int .i64 ((a0.getD v2.toNat default).f_Token), .int .i64 ((a0.getD v2.toNat default).f_Seq), .bool ((a0.getD v2.toNat default).f_Last), .isl 1 (((a0.getD v2.toNat default).f_Items).map e_i64) false]), (17, .iptr 4 (a0.map e_QChunk) v2.toNat 0), (16, .int .i64 v2), (15, .bool (decide (v2 < ((a0.map e_QChunk).length : Int)))), (1, .isl 4 (a1.map e_QChunk) false), (12, .isl 4 (a0.map e_QChunk) false), (13, .int .i64 ((a0.map e_QChunk).length : Int)), (14, .int .i64 v2)] _ _
    obtain ⟨h23, h⟩ := ite_some h
    refine And.intro (fun hp => (And.intro (And.intro hp hp) (h23 hp))) ?_
    refine And.intro (fun hp => hp) ?_
    refine Exists.intro (e_QChunk (a1.getD v2.toNat default)) (And.intro (fun hp => And.intro (getD_enc e_QChunk _ _ (idx_ltL e_QChunk (h23 hp))) (And.intro hp (And.intro (idx_lt (h23 hp)) (Nat.le_of_ble_eq_true rfl)))) ?_)
    obtain ⟨v4, h24, h⟩ := bind_some h
    refine Or.inl (Exists.intro (.bool v4) (And.intro (fun hp => And.intro (And.intro hp hp) (PFn.call (f10_ok (ite_tt hp h24)) (And.intro (Vw.same _ rfl) (And.intro (Vw.same _ rfl) trivial)) (And.intro rfl (And.intro rfl rfl)))) ?_))
    refine And.intro (fun hp => hp) ?_
    show yops _ _ _ [(56, .cnd (((((a0.getD v2.toNat default).f_Token != (a1.getD v2.toNat default).f_Token) || ((a0.getD v2.toNat default).f_Seq != (a1.getD v2.toNat default).f_Seq)) || (!((a0.getD v2.toNat default).f_Last == (a1.getD v2.toNat default).f_Last))) == false) (.bool (!v4))), (55, .cnd (((((a0.getD v2.toNat default).f_Token != (a1.getD v2.toNat default).f_Token) || ((a0.getD v2.toNat default).f_Seq != (a1.getD v2.toNat default).f_Seq)) || (!((a0.getD v2.toNat default).f_Last == (a1.getD v2.toNat default).f_Last))) == false) (.bool v4)), (54, .cnd (((((a0.getD v2.toNat default).f_Token != (a1.getD v2.toNat default).f_Token) || ((a0.getD v2.toNat default).f_Seq != (a1.getD v2.toNat default).f_Seq)) || (!((a0.getD v2.toNat default).f_Last == (a1.getD v2.toNat default).f_Last))) == false) (.isl 1 (((a1.getD v2.toNat default).f_Items).map e_i64) false)), (53, .cnd (((((a0.getD v2.toNat default).f_Token != (a1.getD v2.toNat default).f_Token) || ((a0.getD v2.toNat default).f_Seq != (a1.getD v2.toNat default).f_Seq)) || (!((a0.getD v2.toNat default).f_Last == (a1.getD v2.toNat default).f_Last))) == false) (.iptr 4 (a1.map e_QChunk) v2.toNat 3)), (52, .cnd (((((a0.getD v2.toNat default).f_Token != (a1.getD v2.toNat default).f_Token) || ((a0.getD v2.toNat default).f_Seq != (a1.getD v2.toNat default).f_Seq)) || (!((a0.getD v2.toNat default).f_Last == (a1.getD v2.toNat default).f_Last))) == false) (.iptr 4 (a1.map e_QChunk) v2.toNat 0)), (51, .cnd (((((a0.getD v2.toNat default).f_Token != (a1.getD v2.toNat default).f_Token) || ((a0.getD v2.toNat default).f_Seq != (a1.getD v2.toNat default).f_Seq)) || (!((a0.getD v2.toNat default).f_Last == (a1.getD v2.toNat default).f_Last))) == false) (.int .i64 v2)), (50, .cnd (((((a0.getD v2.toNat default).f_Token != (a1.getD v2.toNat default).f_Token) || ((a0.getD v2.toNat default).f_Seq != (a1.getD v2.toNat default).f_Seq)) || (!((a0.getD v2.toNat default).f_Last == (a1.getD v2.toNat default).f_Last))) == false) (.isl 4 (a1.map e_QChunk) false)), (49, .cnd (((((a0.getD v2.toNat default).f_Token != (a1.getD v2.toNat default).f_Token) || ((a0.getD v2.toNat default).f_Seq != (a1.getD v2.toNat default).f_Seq)) || (!((a0.getD v2.toNat default).f_Last == (a1.getD v2.toNat default).f_Last))) == false) (.isl 1 (((a0.getD v2.toNat default).f_Items).map e_i64) false)), (48, .cnd (((((a0.getD v2.toNat default).f_Token != (a1.getD v2.toNat default).f_Token) || ((a0.getD v2.toNat default).f_Seq != (a1.getD v2.toNat default).f_Seq)) || (!((a0.getD v2.toNat default).f_Last == (a1.getD v2.toNat default).f_Last))) == false) (.ptr (0, 0) 0 3)), (47, .bool ((((a0.getD v2.toNat default).f_Token != (a1.getD v2.toNat default).f_Token) || ((a0.getD v2.toNat default).f_Seq != (a1.getD v2.toNat default).f_Seq)) || (!((a0.getD v2.toNat default).f_Last == (a1.getD v2.toNat default).f_Last)))), (46, .bool ((((a0.getD v2.toNat default).f_Token != (a1.getD v2.toNat default).f_Token) || ((a0.getD v2.toNat default).f_Seq != (a1.getD v2.toNat default).f_Seq)) || (!((a0.getD v2.toNat default).f_Last == (a1.getD v2.toNat default).f_Last)))), (45, .cnd ((((a0.getD v2.toNat default).f_Token != (a1.getD v2.toNat default).f_Token) || ((a0.getD v2.toNat default).f_Seq != (a1.getD v2.toNat default).f_Seq)) == false) (.bool (!((a0.getD v2.toNat default).f_Last == (a1.getD v2.toNat default).f_Last)))), (44, .cnd ((((a0.getD v2.toNat default).f_Token != (a1.getD v2.toNat default).f_Token) || ((a0.getD v2.toNat default).f_Seq != (a1.getD v2.toNat default).f_Seq)) == false) (.bool ((a1.getD v2.toNat default).f_Last))), (43, .cnd ((((a0.getD v2.toNat default).f_Token != (a1.getD v2.toNat default).f_Token) || ((a0.getD v2.toNat default).f_Seq != (a1.getD v2.toNat default).f_Seq)) == false) (.iptr 4 (a1.map e_QChunk) v2.toNat 2)), (42, .cnd ((((a0.getD v2.toNat default).f_Token != (a1.getD v2.toNat default).f_Token) || ((a0.getD v2.toNat default).f_Seq != (a1.getD v2.toNat default).f_Seq)) == false) (.iptr 4 (a1.map e_QChunk) v2.toNat 0)), (41, .cnd ((((a0.getD v2.toNat default).f_Token != (a1.getD v2.toNat default).f_Token) || ((a0.getD v2.toNat default).f_Seq != (a1.getD v2.toNat default).f_Seq)) == false) (.int .i64 v2)), (40, .cnd ((((a0.getD v2.toNat default).f_Token != (a1.getD v2.toNat default).f_Token) || ((a0.getD v2.toNat default).f_Seq != (a1.getD v2.toNat default).f_Seq)) == false) (.isl 4 (a1.map e_QChunk) false)), (39, .cnd ((((a0.getD v2.toNat default).f_Token != (a1.getD v2.toNat default).f_Token) || ((a0.getD v2.toNat default).f_Seq != (a1.getD v2.toNat default).f_Seq)) == false) (.bool ((a0.getD v2.toNat default).f_Last))), (38, .cnd ((((a0.getD v2.toNat default).f_Token != (a1.getD v2.toNat default).f_Token) || ((a0.getD v2.toNat default).f_Seq != (a1.getD v2.toNat default).f_Seq)) == false) (.ptr (0, 0) 0 2)), (37, .bool (((a0.getD v2.toNat default).f_Token != (a1.getD v2.toNat default).f_Token) || ((a0.getD v2.toNat default).f_Seq != (a1.getD v2.toNat default).f_Seq))), (36, .bool (((a0.getD v2.toNat default).f_Token != (a1.getD v2.toNat default).f_Token) || ((a0.getD v2.toNat default).f_Seq != (a1.getD v2.toNat default).f_Seq))), (35, .cnd (((a0.getD v2.toNat default).f_Token != (a1.getD v2.toNat default).f_Token) == false) (.bool ((a0.getD v2.toNat default).f_Seq != (a1.getD v2.toNat default).f_Seq))), (34, .cnd (((a0.getD v2.toNat default).f_Token != (a1.getD v2.toNat default).f_Token) == false) (.int .i64 ((a1.getD v2.toNat default).f_Seq))), (33, .cnd (((a0.getD v2.toNat default).f_Token != (a1.getD v2.toNat default).f_Token) == false) (.iptr 4 (a1.map e_QChunk) v2.toNat 1)), (32, .cnd (((a0.getD v2.toNat default).f_Token != (a1.getD v2.toNat default).f_Token) == false) (.iptr 4 (a1.map e_QChunk) v2.toNat 0)), (31, .cnd (((a0.getD v2.toNat default).f_Token != (a1.getD v2.toNat default).f_Token) == false) (.int .i64 v2)), (30, .cnd (((a0.getD v2.toNat default).f_Token != (a1.getD v2.toNat default).f_Token) == false) (.isl 4 (a1.map e_QChunk) false)), (29, .cnd (((a0.getD v2.toNat default).f_Token != (a1.getD v2.toNat default).f_Token) == false) (.int .i64 ((a0.getD v2.toNat default).f_Seq))), (28, .cnd (((a0.getD v2.toNat default).f_Token != (a1.getD v2.toNat default).f_Token) == false) (.ptr (0, 0) 0 1)), (27, .bool ((a0.getD v2.toNat default).f_Token != (a1.getD v2.toNat default).f_Token)), (26, .bool ((a0.getD v2.toNat default).f_Token != (a1.getD v2.toNat default).f_Token)), (25, .int .i64 ((a1.getD v2.toNat default).f_Token)), (24, .iptr 4 (a1.map e_QChunk) v2.toNat 0), (23, .iptr 4 (a1.map e_QChunk) v2.toNat 0), (22, .int .i64 v2), (21, .isl 4 (a1.map e_QChunk) false), (20, .int .i64 ((a0.getD v2.toNat default).f_Token)), (19, .ptr (0, 0) 0 0), (5, .int .i64 v2), (6, .ptr (0, 0) 0 0), (18, .agg [.int .i64 ((a0.getD v2.toNat default).f_Token), .int .i64 ((a0.getD v2.toNat default).f_Seq), .bool ((a0.getD v2.toNat default).f_Last), .isl 1 (((a0.getD v2.toNat default).f_Items).map e_i64) false]), (17, .iptr 4 (a0.map e_QChunk) v2.toNat 0), (16, .int .i64 v2), (15, .bool (decide (v2 < ((a0.map e_QChunk).length : Int)))), (1, .isl 4 (a1.map e_QChunk) false), (12, .isl 4 (a0.map e_QChunk) false), (13, .int .i64 ((a0.map e_QChunk).length : Int)), (14, .int .i64 v2)] _ _
    refine And.intro (fun hc => (bqf hc)) ?_
    refine LWp.sim (e := [(1, .isl 4 (a1.map e_QChunk) false), (12, .isl 4 (a0.map e_QChunk) false), (13, .int .i64 ((a0.map e_QChunk).length : Int)), (14, .int .i64 v2), (57, .bool (((((a0.getD v2.toNat default).f_Token != (a1.getD v2.toNat default).f_Token) || ((a0.getD v2.toNat default).f_Seq != (a1.getD v2.toNat default).f_Seq)) || (!((a0.getD v2.toNat default).f_Last == (a1.getD v2.toNat default).f_Last))) || (!v4)))]) (L := []) (n := 0) ?_ ?_
    · exact simI (M := []) rfl (And.intro (Vw.same _ rfl) (And.intro (Vw.same _ rfl) (And.intro (Vw.same _ rfl) (And.intro (Vw.same _ rfl) (And.intro (Vw.same _ rfl) trivial))))) trivial
    refine condI (v := (((((a0.getD v2.toNat default).f_Token != (a1.getD v2.toNat default).f_Token) || ((a0.getD v2.toNat default).f_Seq != (a1.getD v2.toNat default).f_Seq)) || (!((a0.getD v2.toNat default).f_Last == (a1.getD v2.toNat default).f_Last))) || (!v4))) rfl trivial (fun h25 => ?_) (fun h25 => ?_)
    · have h := ite_tt h25 h
      refine seqI ?_
      refine regI ?_
      refine retI ?_
      obtain ⟨o, hq, rfl⟩ := Option.map_eq_some_iff.1 h
      replace h := hq; clear hq
      refine And.intro nofun ?_
      cases h
      exact And.intro trivial (And.intro rfl (Vw.same _ rfl))
    · have h := ite_ff h25 h
      refine skipI ?_
      refine regI ?_
      cases h
      exact And.intro rfl (simI (M := []) rfl (And.intro (Vw.same _ rfl) (And.intro (Vw.same _ rfl) (And.intro (Vw.same _ rfl) (And.intro (Vw.same _ rfl) trivial)))) trivial)
  · have h := ite_ff h18 h
    refine exitI ?_
    obtain ⟨o, hq, rfl⟩ := Option.map_eq_some_iff.1 h
    replace h := hq; clear hq
    refine And.intro nofun ?_
    refine LWp.sim ?_ (f7_j1_ok h)
    exact simI (M := []) rfl trivial trivial

theorem f7_L1_ok {a0 : List G_QChunk} {a1 : List G_QChunk} {v2 : Int} {m : Option Nat} {o : Bool} (h : S_glossatorref3_EqualChunks_l1 m a0 a1 v2 = some o) :
    LWp Try.prog f7_lay 0 (.loop f7_c1) (QBlock 0 (QSeq Try.prog f7_lay 0 f7_c0 (f7_Q a0 a1 o))) [(1, .isl 4 (a1.map e_QChunk) false), (12, .isl 4 (a0.map e_QChunk) false), (13, .int .i64 ((a0.map e_QChunk).length : Int)), (14, .int .i64 v2)] [] 0 :=
  LWp_loopM (m := m) (s := (v2 : Int)) (r := o) (fun (s : Int) => S_glossatorref3_EqualChunks_b1 m a0 a1 s) (f7_L1_env a0 a1) (f7_L1_hp a0 a1) (f7_L1_Q a0 a1) (fun s o h => f7_L1_bok h) h

noncomputable def S_glossatorref3_EqualChunks (m : Option Nat) (a0 : List G_QChunk) (a1 : List G_QChunk) : Option Bool :=
  if (((a0.map e_QChunk).length : Int) != ((a1.map e_QChunk).length : Int)) = true then
    some false
  else
    S_glossatorref3_EqualChunks_l1 m a0 a1 0

theorem f7_start {a0 : List G_QChunk} {a1 : List G_QChunk} {m : Option Nat} {o : Bool} (h : S_glossatorref3_EqualChunks m a0 a1 = some o) : LWp Try.prog f7_lay 0 f7_c2 (f7_Q a0 a1 o) (initEnv 0 [.isl 4 (a0.map e_QChunk) false, .isl 4 (a1.map e_QChunk) false]) [] 0 := by
  unfold S_glossatorref3_EqualChunks at h
  refine seqI ?_
  refine regI ?_
  refine seqI ?_
  refine seqI ?_
  refine regI ?_
  refine condI (v := (((a0.map e_QChunk).length : Int) != ((a1.map e_QChunk).length : Int))) rfl trivial (fun h1 => ?_) (fun h1 => ?_)
  · have h := ite_tt h1 h
    refine seqI ?_
    refine regI ?_
    refine retI ?_
    cases h
    exact And.intro trivial (And.intro rfl (Vw.same _ rfl))
  · have h := ite_ff h1 h
    refine skipI ?_
    refine seqI ?_
    refine seqI ?_
    refine regI ?_
    refine LWp.sim (e := [(1, .isl 4 (a1.map e_QChunk) false), (12, .isl 4 (a0.map e_QChunk) false), (13, .int .i64 ((a0.map e_QChunk).length : Int)), (14, .int .i64 0)]) (L := []) (n := 0) ?_ ?_
    · exact simI (M := []) rfl (And.intro (Vw.same _ rfl) (And.intro (Vw.same _ rfl) (And.intro (Vw.same _ rfl) (And.intro (Vw.same _ rfl) trivial)))) trivial
    refine blockI ?_
    refine LWp.sim ?_ (f7_L1_ok h)
    exact simI (M := []) rfl (And.intro (Vw.same _ rfl) (And.intro (Vw.same _ rfl) (And.intro (Vw.same _ rfl) (And.intro (Vw.same _ rfl) trivial)))) trivial

theorem f7_ok {a0 : List G_QChunk} {a1 : List G_QChunk} {m : Option Nat} {o : Bool} (h : S_glossatorref3_EqualChunks m a0 a1 = some o) : PFn Try.prog 7 [.isl 4 (a0.map e_QChunk) false, .isl 4 (a1.map e_QChunk) false] (.bool o) := PFn.ofFnW (L := f7_L) f7_low f7_fok (Nat.le_of_ble_eq_true rfl) rfl (f7_start h)

def f24b0_c0 : LCode := (.seq (.region [⟨some 2, .mv (.c (.val (.slice none 0 0))), none⟩])
 (.seq (.region [⟨some 3, .mv (.t 0), none⟩,
   ⟨some 4, .app true 4 48 (.c (.val (.slice none 0 0))) (.t 3), none⟩,
   ⟨some 2, .mv (.t 4), none⟩])
 .ret))
def f24b0_lay : Lay := ⟨5, [], false⟩
def f24b0_res : List LRes := [.t 2]
def f24b0_L : LFn := ⟨1, f24b0_lay, f24b0_c0, f24b0_res⟩
theorem f24b0_low : lowFn Try.prog [] 24 = some f24b0_L := by kernel_rfl
theorem f24b0_fok : FnOk Try.prog 24 := ⟨_, Try.func24, rfl, rfl⟩
noncomputable def S_glossatorref3_Clone_api_QChunk (m : Option Nat) (a0 : List G_QChunk) : Option Unit :=
  if (a0.map e_QChunk).length * 48 ≤ 140737488355328 then
  some ()
  else none

def f24b0_Q (a0 : List G_QChunk) (o : Unit) : Exit → Env → AHeap → Nat → Prop := FinK f24b0_res (FinTo 3 4 (.osl (3, 0) 4 (a0.map e_QChunk)) [((3, 0), .tok)])

theorem f24b0_start {a0 : List G_QChunk} {m : Option Nat} {o : Unit} (h : S_glossatorref3_Clone_api_QChunk m a0 = some o) : LWp Try.prog f24b0_lay 3 f24b0_c0 (f24b0_Q a0 o) (initEnv 0 [.isl 4 (a0.map e_QChunk) false]) [] 3 := by
  unfold S_glossatorref3_Clone_api_QChunk at h
  refine seqI ?_
  refine regI ?_
  refine seqI ?_
  refine regI ?_
  obtain ⟨h1, h⟩ := ite_some h
  refine Exists.intro (a0.map e_QChunk) (And.intro rfl (And.intro h1 ?_))
  refine retI ?_
  cases h
  exact And.intro trivial (finI (n' := 4) [((3, 0), (3, 0))] [] rfl rfl (Vw.osl _ _ _ _ rfl) (And.intro (And.intro rfl BVw.tok) trivial))

theorem f24b0_ok {a0 : List G_QChunk} {m : Option Nat} {o : Unit} (h : S_glossatorref3_Clone_api_QChunk m a0 = some o) : ACalls Try.prog 24 [.isl 4 (a0.map e_QChunk) false] [] 3 (Gives 4 (.osl (3, 0) 4 (a0.map e_QChunk)) [((3, 0), .tok)]) := bfn_of (L := f24b0_L) f24b0_low f24b0_fok (Nat.le_of_ble_eq_true rfl) (f24b0_start h)

def f14_c1 : LCode := (.region [⟨some 80, .bin .add (.t 30) (.c (.int .i64 1)), none⟩,
   ⟨some 30, .mv (.t 80), none⟩])
def f14_c2 : LCode := (.seq (.region [⟨some 31, .bin .lss (.t 30) (.t 29), none⟩])
 (.seq (.cond (.t 31)
  .skip
  (.exit 0))
 (.seq (.block 1
  (.seq (.region [⟨some 32, .iaddr 4 (.t 28) (.t 30), none⟩,
    ⟨some 33, .load true 4 (.t 32), none⟩,
    ⟨some 8, .alloc [(.int .i64 0), (.int .i64 0), (.bool false), (.isl 1 [] true)], none⟩,
    ⟨none, .store 4 (.t 8) (.t 33), none⟩])
  (.seq (.seq (.region [⟨some 34, .faddr 0 (.t 8), none⟩,
    ⟨some 35, .load false 1 (.t 34), none⟩,
    ⟨some 36, .faddr 0 (.t 3), none⟩,
    ⟨some 37, .load false 1 (.t 36), none⟩,
    ⟨some 38, .bin .neq (.t 35) (.t 37), none⟩])
  (.cond (.t 38)
   (.exit 1)
   .skip))
  (.seq (.seq (.region [⟨some 39, .faddr 1 (.t 8), none⟩,
    ⟨some 40, .load false 1 (.t 39), none⟩,
    ⟨some 41, .faddr 1 (.t 3), none⟩,
    ⟨some 42, .load false 1 (.t 41), none⟩,
    ⟨some 43, .bin .eql (.t 40) (.t 42), none⟩,
    ⟨some 44, .mv (.t 43), none⟩,
    ⟨some 45, .load true 4 (.t 8), some (44, true)⟩,
    ⟨some 46, .mkSl true 4 [(.int .i64 0), (.int .i64 0), (.bool false), (.isl 1 [] true)] 1 [(0, (.t 45))], some (44, true)⟩,
    ⟨some 47, .load true 4 (.t 3), some (44, true)⟩,
    ⟨some 48, .mkSl true 4 [(.int .i64 0), (.int .i64 0), (.bool false), (.isl 1 [] true)] 1 [(0, (.t 47))], some (44, true)⟩,
    ⟨some 49, .call 7 [(.t 46), (.t 48)], some (44, true)⟩,
    ⟨some 50, .pick (.t 44) (.t 49) (.c (.bool false)), none⟩])
  (.cond (.t 50)
   (.seq (.region [⟨some 51, .mv (.t 0), none⟩,
     ⟨some 4, .mv (.t 51), none⟩,
     ⟨some 5, .mv (.c (.bool false)), none⟩,
     ⟨some 6, .mv (.c (.int .i64 0)), none⟩])
   .ret)
   .skip))
  (.seq (.region [⟨some 52, .faddr 1 (.t 8), none⟩,
    ⟨some 53, .load false 1 (.t 52), none⟩,
    ⟨some 54, .faddr 1 (.t 3), none⟩,
    ⟨some 55, .load false 1 (.t 54), none⟩,
    ⟨some 56, .bin .eql (.t 53) (.t 55), none⟩,
    ⟨some 57, .mv (.t 56), none⟩,
    ⟨some 58, .faddr 2 (.t 8), some (57, false)⟩,
    ⟨some 59, .load false 1 (.t 58), some (57, false)⟩,
    ⟨some 60, .mv (.t 59), some (57, false)⟩,
    ⟨some 61, .faddr 1 (.t 8), some (60, true)⟩,
    ⟨some 62, .load false 1 (.t 61), some (60, true)⟩,
    ⟨some 63, .faddr 1 (.t 3), some (60, true)⟩,
    ⟨some 64, .load false 1 (.t 63), some (60, true)⟩,
    ⟨some 65, .bin .lss (.t 62) (.t 64), some (60, true)⟩,
    ⟨some 66, .pick (.t 60) (.t 65) (.c (.bool false)), some (57, false)⟩,
    ⟨some 67, .pick (.t 57) (.c (.bool true)) (.t 66), none⟩,
    ⟨some 68, .mv (.t 67), none⟩,
    ⟨some 69, .faddr 2 (.t 3), some (68, false)⟩,
    ⟨some 70, .load false 1 (.t 69), some (68, false)⟩,
    ⟨some 71, .mv (.t 70), some (68, false)⟩,
    ⟨some 72, .faddr 1 (.t 8), some (71, true)⟩,
    ⟨some 73, .load false 1 (.t 72), some (71, true)⟩,
    ⟨some 74, .faddr 1 (.t 3), some (71, true)⟩,
    ⟨some 75, .load false 1 (.t 74), some (71, true)⟩,
    ⟨some 76, .bin .gtr (.t 73) (.t 75), some (71, true)⟩,
    ⟨some 77, .pick (.t 71) (.t 76) (.c (.bool false)), some (68, false)⟩,
    ⟨some 78, .pick (.t 68) (.c (.bool true)) (.t 77), none⟩])
  (.cond (.t 78)
   (.seq (.region [⟨some 79, .mv (.t 0), none⟩,
     ⟨some 4, .mv (.t 79), none⟩,
     ⟨some 5, .mv (.c (.bool false)), none⟩,
     ⟨some 6, .mv (.c (.int .i64 10)), none⟩])
   .ret)
   .skip))))))
 f14_c1)))
def f14_c0 : LCode := (.seq (.draw [⟨⟨some 81, .mv (.t 0), none⟩, []⟩,
   ⟨⟨some 83, .load true 4 (.t 3), none⟩, []⟩,
   ⟨⟨some 84, .mkSl true 4 [(.int .i64 0), (.int .i64 0), (.bool false), (.isl 1 [] true)] 1 [(0, (.t 83))], none⟩, []⟩,
   ⟨⟨some 82, .call 24 [(.t 81)], none⟩, [1]⟩,
   ⟨⟨some 85, .app true 4 48 (.t 82) (.t 84), none⟩, []⟩,
   ⟨⟨some 4, .mv (.t 85), none⟩, []⟩,
   ⟨⟨some 5, .mv (.c (.bool true)), none⟩, []⟩,
   ⟨⟨some 6, .mv (.c (.int .i64 0)), none⟩, []⟩])
 .ret)
def f14_c3 : LCode := (.seq (.region [⟨some 3, .box (.t 1), none⟩,
   ⟨some 4, .mv (.c (.val (.slice none 0 0))), none⟩,
   ⟨some 5, .mv (.c (.bool false)), none⟩,
   ⟨some 6, .mv (.c (.int .i64 0)), none⟩])
 (.seq (.seq (.region [⟨some 9, .faddr 0 (.t 3), none⟩,
   ⟨some 10, .load false 1 (.t 9), none⟩,
   ⟨some 11, .bin .lss (.t 10) (.c (.int .i64 0)), none⟩,
   ⟨some 12, .mv (.t 11), none⟩,
   ⟨some 13, .faddr 1 (.t 3), some (12, false)⟩,
   ⟨some 14, .load false 1 (.t 13), some (12, false)⟩,
   ⟨some 15, .bin .lss (.t 14) (.c (.int .i64 0)), some (12, false)⟩,
   ⟨some 16, .pick (.t 12) (.c (.bool true)) (.t 15), none⟩,
   ⟨some 17, .mv (.t 16), none⟩,
   ⟨some 18, .faddr 1 (.t 3), some (17, false)⟩,
   ⟨some 19, .load false 1 (.t 18), some (17, false)⟩,
   ⟨some 20, .bin .geq (.t 19) (.c (.int .i64 1000)), some (17, false)⟩,
   ⟨some 21, .pick (.t 17) (.c (.bool true)) (.t 20), none⟩])
 (.cond (.t 21)
  (.seq (.region [⟨some 22, .mv (.t 0), none⟩,
    ⟨some 4, .mv (.t 22), none⟩,
    ⟨some 5, .mv (.c (.bool false)), none⟩,
    ⟨some 6, .mv (.c (.int .i64 1)), none⟩])
  .ret)
  .skip))
 (.seq (.seq (.region [⟨some 23, .faddr 3 (.t 3), none⟩,
   ⟨some 24, .load false 1 (.t 23), none⟩,
   ⟨some 25, .len false (.t 24), none⟩,
   ⟨some 26, .bin .gtr (.t 25) (.c (.int .i64 1000)), none⟩])
 (.cond (.t 26)
  (.seq (.region [⟨some 27, .mv (.t 0), none⟩,
    ⟨some 4, .mv (.t 27), none⟩,
    ⟨some 5, .mv (.c (.bool false)), none⟩,
    ⟨some 6, .mv (.c (.int .i64 2)), none⟩])
  .ret)
  .skip))
 (.seq (.seq (.region [⟨some 28, .mv (.t 0), none⟩,
   ⟨some 29, .len false (.t 28), none⟩,
   ⟨some 30, .mv (.c (.int .i64 0)), none⟩])
 (.block 0
  (.loop
   f14_c2)))
 f14_c0))))
def f14_lay : Lay := ⟨86, [], false⟩
def f14_res : List LRes := [.t 4, .t 5, .t 6]
def f14_L : LFn := ⟨2, f14_lay, f14_c3, f14_res⟩
theorem f14_low : lowFn Try.prog [] 14 = some f14_L := by kernel_rfl
theorem f14_fok : FnOk Try.prog 14 := ⟨_, Try.func14, rfl, rfl⟩
def f14_Q (a0 : List G_QChunk) (a1 : G_QChunk) (o : (List G_QChunk) × Bool × Int) : Exit → Env → AHeap → Nat → Prop := FinK f14_res (PureEnd (.tup [.isl 4 (o.1.map e_QChunk) false, .bool o.2.1, .int .i64 o.2.2]))

def f14_L1_env (a0 : List G_QChunk) (a1 : G_QChunk) (s : Int) : Env := [(0, .isl 4 (a0.map e_QChunk) false), (3, .ptr (0, 0) 0 0), (28, .isl 4 (a0.map e_QChunk) false), (29, .int .i64 ((a0.map e_QChunk).length : Int)), (30, .int .i64 s)]
def f14_L1_hp (a0 : List G_QChunk) (a1 : G_QChunk) (s : Int) : AHeap := [((0, 0), .one [.int .i64 a1.f_Token, .int .i64 a1.f_Seq, .bool a1.f_Last, .isl 1 (a1.f_Items.map e_i64) false])]
def f14_L1_Q (a0 : List G_QChunk) (a1 : G_QChunk) (o : ((List G_QChunk) × Bool × Int)) : Exit → Env → AHeap → Nat → Prop := (QBlock 0 (QSeq Try.prog f14_lay 0 f14_c0 (f14_Q a0 a1 o)))

noncomputable def S_glossatorref3_AddChunk_j3 (m : Option Nat) (a0 : List G_QChunk) (a1 : G_QChunk) (v2 : Int) : Option (Int ⊕ ((List G_QChunk) × Bool × Int)) :=
  some (.inl (W (v2 + 1)))

theorem f14_j3_ok {a0 : List G_QChunk} {a1 : G_QChunk} {v2 : Int} {m : Option Nat} {o : (Int ⊕ ((List G_QChunk) × Bool × Int))} (h : S_glossatorref3_AddChunk_j3 m a0 a1 v2 = some o) :
    LWp Try.prog f14_lay 0 f14_c1 (BodyQ 0 1 (f14_L1_env a0 a1) (f14_L1_hp a0 a1) (f14_L1_Q a0 a1) o) [(0, .isl 4 (a0.map e_QChunk) false), (3, .ptr (0, 0) 0 0), (28, .isl 4 (a0.map e_QChunk) false), (29, .int .i64 ((a0.map e_QChunk).length : Int)), (30, .int .i64 v2)] [((0, 0), .one [.int .i64 a1.f_Token, .int .i64 a1.f_Seq, .bool a1.f_Last, .isl 1 (a1.f_Items.map e_i64) false])] 1 := by
  unfold S_glossatorref3_AddChunk_j3 at h
  refine regI ?_
  cases h
  exact And.intro rfl (simI (M := [((0, 0), (0, 0))]) rfl (And.intro (Vw.same _ rfl) (And.intro (Vw.ptr _ _ _ _ rfl) (And.intro (Vw.same _ rfl) (And.intro (Vw.same _ rfl) (And.intro (Vw.same _ rfl) trivial))))) (And.intro (And.intro rfl (BVw.oneL (And.intro (Vw.same _ rfl) (And.intro (Vw.same _ rfl) (And.intro (Vw.same _ rfl) (And.intro (Vw.same _ rfl) trivial)))))) trivial))

noncomputable def S_glossatorref3_AddChunk_j4 (m : Option Nat) (a0 : List G_QChunk) (a1 : G_QChunk) : Option ((List G_QChunk) × Bool × Int) :=
  (S_glossatorref3_Clone_api_QChunk m a0).bind fun v5 =>
  if ((a0 ++ ([a1] : List G_QChunk)).map e_QChunk).length * 48 ≤ 140737488355328 then
  some ((a0 ++ ([a1] : List G_QChunk)), true, 0)
  else none

noncomputable def S_glossatorref3_AddChunk_b1 (m : Option Nat) (a0 : List G_QChunk) (a1 : G_QChunk) (v2 : Int) : Option (Int ⊕ ((List G_QChunk) × Bool × Int)) :=
  if (decide (v2 < ((a0.map e_QChunk).length : Int))) = true then
    if (0 : Int) ≤ v2 ∧ v2 < ((a0.map e_QChunk).length : Int) then
    if ((a0.getD v2.toNat default).f_Token != a1.f_Token) = true then
      S_glossatorref3_AddChunk_j3 m a0 a1 v2
    else
      (if (((a0.getD v2.toNat default).f_Seq == a1.f_Seq) == true) = true then S_glossatorref3_EqualChunks m ([(G_QChunk.mk ((a0.getD v2.toNat default).f_Token) ((a0.getD v2.toNat default).f_Seq) ((a0.getD v2.toNat default).f_Last) ((a0.getD v2.toNat default).f_Items))] : List G_QChunk) ([a1] : List G_QChunk) else some default).bind fun v4 =>
      if (((a0.getD v2.toNat default).f_Seq == a1.f_Seq) && v4) = true then
        Option.map Sum.inr (
          some (a0, false, 0))
      else
        if ((((a0.getD v2.toNat default).f_Seq == a1.f_Seq) || ((a0.getD v2.toNat default).f_Last && (decide ((a0.getD v2.toNat default).f_Seq < a1.f_Seq)))) || (a1.f_Last && (decide ((a0.getD v2.toNat default).f_Seq > a1.f_Seq)))) = true then
          Option.map Sum.inr (
            some (a0, false, 10))
        else
          S_glossatorref3_AddChunk_j3 m a0 a1 v2
    else none
  else
    Option.map Sum.inr (
      S_glossatorref3_AddChunk_j4 m a0 a1)

noncomputable def S_glossatorref3_AddChunk_l1 (m : Option Nat) (a0 : List G_QChunk) (a1 : G_QChunk) (v2 : Int) : Option ((List G_QChunk) × Bool × Int) := loopM m (fun (s : Int) => S_glossatorref3_AddChunk_b1 m a0 a1 s) v2

theorem f14_j4_ok {a0 : List G_QChunk} {a1 : G_QChunk} {m : Option Nat} {o : ((List G_QChunk) × Bool × Int)} (h : S_glossatorref3_AddChunk_j4 m a0 a1 = some o) :
    LWp Try.prog f14_lay 0 f14_c0 (f14_Q a0 a1 o) [(0, .isl 4 (a0.map e_QChunk) false), (3, .ptr (0, 0) 0 0)] [((0, 0), .one [.int .i64 a1.f_Token, .int .i64 a1.f_Seq, .bool a1.f_Last, .isl 1 (a1.f_Items.map e_i64) false])] 1 := by
  unfold S_glossatorref3_AddChunk_j4 at h
  refine seqI ?_
  refine drawI ?_
  obtain ⟨v5, h21, h⟩ := bind_some h
  refine bcall (k := 3) (m := 1) (L' := [((1, 0), .tok)]) (rest := [((0, 0), .one [.int .i64 a1.f_Token, .int .i64 a1.f_Seq, .bool a1.f_Last, .isl 1 (a1.f_Items.map e_i64) false])]) (R' := .osl (1, 0) 4 (a0.map e_QChunk)) [] (f24b0_ok h21) rfl rfl rfl (And.intro (Vw.same _ rfl) trivial) trivial rfl (And.intro rfl (And.intro rfl trivial)) rfl ?_
  refine And.intro rfl ?_
  obtain ⟨h22, h⟩ := ite_some h
  refine Exists.intro ((a0 ++ ([a1] : List G_QChunk)).map e_QChunk) (And.intro (app_enc e_QChunk a0 ([a1] : List G_QChunk)) (And.intro h22 ?_))
  refine LWp.sim (e := [(4, .osl (0, 0) 4 ((a0 ++ ([a1] : List G_QChunk)).map e_QChunk)), (5, .bool true), (6, .int .i64 0)]) (L := [((0, 0), .tok)]) (n := 1) ?_ ?_
  · exact simI (M := [((0, 0), (3, 0))]) rfl (And.intro (Vw.osl _ _ _ _ rfl) (And.intro (Vw.same _ rfl) (And.intro (Vw.same _ rfl) trivial))) (And.intro (And.intro rfl BVw.tok) trivial)
  refine retI ?_
  cases h
  exact And.intro trivial (And.intro trivial (And.intro trivial (And.intro rfl (Vw.tupL (And.intro (Vw.oslI _ _ _) (And.intro (Vw.same _ rfl) (And.intro (Vw.same _ rfl) trivial)))))))

theorem f14_L1_bok {a0 : List G_QChunk} {a1 : G_QChunk} {v2 : Int} {m : Option Nat} {o : Int ⊕ ((List G_QChunk) × Bool × Int)} (h : S_glossatorref3_AddChunk_b1 m a0 a1 v2 = some o) :
    LWp Try.prog f14_lay 0 f14_c2 (BodyQ 0 1 (f14_L1_env a0 a1) (f14_L1_hp a0 a1) (f14_L1_Q a0 a1) o) [(0, .isl 4 (a0.map e_QChunk) false), (3, .ptr (0, 0) 0 0), (28, .isl 4 (a0.map e_QChunk) false), (29, .int .i64 ((a0.map e_QChunk).length : Int)), (30, .int .i64 v2)] [((0, 0), .one [.int .i64 a1.f_Token, .int .i64 a1.f_Seq, .bool a1.f_Last, .isl 1 (a1.f_Items.map e_i64) false])] 1 := by
  unfold S_glossatorref3_AddChunk_b1 at h
  refine seqI ?_
  refine regI ?_
  refine seqI ?_
  refine condI (v := (decide (v2 < ((a0.map e_QChunk).length : Int)))) rfl trivial (fun h15 => ?_) (fun h15 => ?_)
  · have h := ite_tt h15 h
    refine skipI ?_
    refine seqI ?_
    refine blockI ?_
    refine seqI ?_
    refine regI ?_
    obtain ⟨h16, h⟩ := ite_some h
    refine And.intro h16 ?_
    refine Exists.intro (e_QChunk (a0.getD v2.toNat default)) (And.intro (getD_enc e_QChunk _ _ (idx_ltL e_QChunk h16)) (And.intro (And.intro (idx_lt h16) (Nat.le_of_ble_eq_true rfl)) ?_))
    refine seqI ?_
    refine seqI ?_
    refine regI ?_
    refine LWp.sim (e := [(0, .isl 4 (a0.map e_QChunk) false), (3, .ptr (0, 0) 0 0), (8, .ptr (1, 0) 0 0), (28, .isl 4 (a0.map e_QChunk) false), (29, .int .i64 ((a0.map e_QChunk).length : Int)), (30, .int .i64 v2), (38, .bool ((a0.getD v2.toNat default).f_Token != a1.f_Token))]) (L := [((0, 0), .one [.int .i64 a1.f_Token, .int .i64 a1.f_Seq, .bool a1.f_Last, .isl 1 (a1.f_Items.map e_i64) false]), ((1, 0), .one [.int .i64 ((a0.getD v2.toNat default).f_Token), .int .i64 ((a0.getD v2.toNat default).f_Seq), .bool ((a0.getD v2.toNat default).f_Last), .isl 1 (((a0.getD v2.toNat default).f_Items).map e_i64) false])]) (n := 2) ?_ ?_
    · exact simI (M := [((0, 0), (0, 0)), ((1, 0), (1, 0))]) rfl (And.intro (Vw.same _ rfl) (And.intro (Vw.ptr _ _ _ _ rfl) (And.intro (Vw.ptr _ _ _ _ rfl) (And.intro (Vw.same _ rfl) (And.intro (Vw.same _ rfl) (And.intro (Vw.same _ rfl) (And.intro (Vw.same _ rfl) trivial))))))) (And.intro (And.intro rfl (BVw.oneL (And.intro (Vw.same _ rfl) (And.intro (Vw.same _ rfl) (And.intro (Vw.same _ rfl) (And.intro (Vw.same _ rfl) trivial)))))) (And.intro (And.intro rfl (BVw.oneL (And.intro (Vw.same _ rfl) (And.intro (Vw.same _ rfl) (And.intro (Vw.same _ rfl) (And.intro (Vw.same _ rfl) trivial)))))) trivial))
    refine condI (v := ((a0.getD v2.toNat default).f_Token != a1.f_Token)) rfl trivial (fun h17 => ?_) (fun h17 => ?_)
    · have h := ite_tt h17 h
      refine exitI ?_
      refine LWp.sim ?_ (f14_j3_ok h)
      exact simI (M := [((0, 0), (0, 0))]) rfl (And.intro (Vw.same _ rfl) (And.intro (Vw.ptr _ _ _ _ rfl) (And.intro (Vw.same _ rfl) (And.intro (Vw.same _ rfl) (And.intro (Vw.same _ rfl) trivial))))) (And.intro (And.intro rfl (BVw.oneL (And.intro (Vw.same _ rfl) (And.intro (Vw.same _ rfl) (And.intro (Vw.same _ rfl) (And.intro (Vw.same _ rfl) trivial)))))) trivial)
    · have h := ite_ff h17 h
      refine skipI ?_
      refine seqI ?_
      refine seqI ?_
      refine regI ?_
      refine Or.inl (Exists.intro (.isl 4 (([(G_QChunk.mk ((a0.getD v2.toNat default).f_Token) ((a0.getD v2.toNat default).f_Seq) ((a0.getD v2.toNat default).f_Last) ((a0.getD v2.toNat default).f_Items))] : List G_QChunk).map e_QChunk) true) (And.intro (fun hp => And.intro hp (And.intro rfl (And.intro rfl rfl))) ?_))
      refine Or.inl (Exists.intro (.isl 4 (([a1] : List G_QChunk).map e_QChunk) true) (And.intro (fun hp => And.intro hp (And.intro rfl (And.intro rfl rfl))) ?_))
      obtain ⟨v4, h18, h⟩ := bind_some h
      refine Or.inl (Exists.intro (.bool v4) (And.intro (fun hp => And.intro (And.intro hp hp) (PFn.call (f7_ok (ite_tt hp h18)) (And.intro (Vw.islF _ _ _) (And.intro (Vw.islF _ _ _) trivial)) (And.intro rfl (And.intro rfl rfl)))) ?_))
      refine And.intro (fun hc => (bqt hc)) ?_
      show yops _ _ _ [(50, .bool (((a0.getD v2.toNat default).f_Seq == a1.f_Seq) && v4)), (49, .cnd (((a0.getD v2.toNat default).f_Seq == a1.f_Seq) == true) (.bool v4)), (48, .cnd (((a0.getD v2.toNat default).f_Seq == a1.f_Seq) == true) (.isl 4 (([a1] : List G_QChunk).map e_QChunk) true)), (47, .cnd (((a0.getD v2.toNat default).f_Seq == a1.f_Seq) == true) (.agg [.int .i64 a1.f_Token, .int .i64 a1.f_Seq, .bool a1.f_Last, .isl 1 (a1.f_Items.map e_i64) false])), (46, .cnd (((a0.getD v2.toNat default).f_Seq == a1.f_Seq) == true) (.isl 4 (([(G_QChunk.mk ((a0.getD v2.toNat default).f_Token) ((a0.getD v2.toNat default).f_Seq) ((a0.getD v2.toNat default).f_Last) ((a0.getD v2.toNat default).f_Items))] : List G_QChunk).map e_QChunk) true)), (45, .cnd (((a0.getD v2.toNat default).f_Seq == a1.f_Seq) == true) (.agg [.int .i64 ((a0.getD v2.toNat default).f_Token), .int .i64 ((a0.getD v2.toNat default).f_Seq), .bool ((a0.getD v2.toNat default).f_Last), .isl 1 (((a0.getD v2.toNat default).f_Items).map e_i64) false])), (44, .bool ((a0.getD v2.toNat default).f_Seq == a1.f_Seq)), (43, .bool ((a0.getD v2.toNat default).f_Seq == a1.f_Seq)), (42, .int .i64 a1.f_Seq), (41, .ptr (0, 0) 0 1), (40, .int .i64 ((a0.getD v2.toNat default).f_Seq)), (39, .ptr (1, 0) 0 1), (0, .isl 4 (a0.map e_QChunk) false), (3, .ptr (0, 0) 0 0), (8, .ptr (1, 0) 0 0), (28, .isl 4 (a0.map e_QChunk) false), (29, .int .i64 ((a0.map e_QChunk).length : Int)), (30, .int .i64 v2), (38, .bool ((a0.getD v2.toNat default).f_Token != a1.f_Token))] _ _
      refine LWp.sim (e := [(0, .isl 4 (a0.map e_QChunk) false), (3, .ptr (0, 0) 0 0), (8, .ptr (1, 0) 0 0), (28, .isl 4 (a0.map e_QChunk) false), (29, .int .i64 ((a0.map e_QChunk).length : Int)), (30, .int .i64 v2), (50, .bool (((a0.getD v2.toNat default).f_Seq == a1.f_Seq) && v4))]) (L := [((0, 0), .one [.int .i64 a1.f_Token, .int .i64 a1.f_Seq, .bool a1.f_Last, .isl 1 (a1.f_Items.map e_i64) false]), ((1, 0), .one [.int .i64 ((a0.getD v2.toNat default).f_Token), .int .i64 ((a0.getD v2.toNat default).f_Seq), .bool ((a0.getD v2.toNat default).f_Last), .isl 1 (((a0.getD v2.toNat default).f_Items).map e_i64) false])]) (n := 2) ?_ ?_
      · exact simI (M := [((0, 0), (0, 0)), ((1, 0), (1, 0))]) rfl (And.intro (Vw.same _ rfl) (And.intro (Vw.ptr _ _ _ _ rfl) (And.intro (Vw.ptr _ _ _ _ rfl) (And.intro (Vw.same _ rfl) (And.intro (Vw.same _ rfl) (And.intro (Vw.same _ rfl) (And.intro (Vw.same _ rfl) trivial))))))) (And.intro (And.intro rfl (BVw.oneL (And.intro (Vw.same _ rfl) (And.intro (Vw.same _ rfl) (And.intro (Vw.same _ rfl) (And.intro (Vw.same _ rfl) trivial)))))) (And.intro (And.intro rfl (BVw.oneL (And.intro (Vw.same _ rfl) (And.intro (Vw.same _ rfl) (And.intro (Vw.same _ rfl) (And.intro (Vw.same _ rfl) trivial)))))) trivial))
      refine condI (v := (((a0.getD v2.toNat default).f_Seq == a1.f_Seq) && v4)) rfl trivial (fun h19 => ?_) (fun h19 => ?_)
      · have h := ite_tt h19 h
        refine seqI ?_
        refine regI ?_
        refine retI ?_
        obtain ⟨o, hq, rfl⟩ := Option.map_eq_some_iff.1 h
        replace h := hq; clear hq
        refine And.intro nofun ?_
        cases h
        exact And.intro trivial (And.intro trivial (And.intro trivial (And.intro rfl (Vw.same _ rfl))))
      · have h := ite_ff h19 h
        refine skipI ?_
        refine seqI ?_
        refine regI ?_
        refine And.intro (fun hp => hp) ?_
        show yops _ _ _ [(59, .cnd (((a0.getD v2.toNat default).f_Seq == a1.f_Seq) == false) (.bool ((a0.getD v2.toNat default).f_Last))), (58, .cnd (((a0.getD v2.toNat default).f_Seq == a1.f_Seq) == false) (.ptr (1, 0) 0 2)), (57, .bool ((a0.getD v2.toNat default).f_Seq == a1.f_Seq)), (56, .bool ((a0.getD v2.toNat default).f_Seq == a1.f_Seq)), (55, .int .i64 a1.f_Seq), (54, .ptr (0, 0) 0 1), (53, .int .i64 ((a0.getD v2.toNat default).f_Seq)), (52, .ptr (1, 0) 0 1), (0, .isl 4 (a0.map e_QChunk) false), (3, .ptr (0, 0) 0 0), (8, .ptr (1, 0) 0 0), (28, .isl 4 (a0.map e_QChunk) false), (29, .int .i64 ((a0.map e_QChunk).length : Int)), (30, .int .i64 v2), (50, .bool (((a0.getD v2.toNat default).f_Seq == a1.f_Seq) && v4))] _ _
        refine And.intro (fun hp => hp) ?_
        refine And.intro (fun hp => hp) ?_
        refine And.intro (fun hp => hp) ?_
        show yops _ _ _ [(64, .cnd ((((a0.getD v2.toNat default).f_Seq == a1.f_Seq) == false) && ((a0.getD v2.toNat default).f_Last == true)) (.int .i64 a1.f_Seq)), (63, .cnd ((((a0.getD v2.toNat default).f_Seq == a1.f_Seq) == false) && ((a0.getD v2.toNat default).f_Last == true)) (.ptr (0, 0) 0 1)), (62, .cnd ((((a0.getD v2.toNat default).f_Seq == a1.f_Seq) == false) && ((a0.getD v2.toNat default).f_Last == true)) (.int .i64 ((a0.getD v2.toNat default).f_Seq))), (61, .cnd ((((a0.getD v2.toNat default).f_Seq == a1.f_Seq) == false) && ((a0.getD v2.toNat default).f_Last == true)) (.ptr (1, 0) 0 1)), (60, .cnd (((a0.getD v2.toNat default).f_Seq == a1.f_Seq) == false) (.bool ((a0.getD v2.toNat default).f_Last))), (59, .cnd (((a0.getD v2.toNat default).f_Seq == a1.f_Seq) == false) (.bool ((a0.getD v2.toNat default).f_Last))), (58, .cnd (((a0.getD v2.toNat default).f_Seq == a1.f_Seq) == false) (.ptr (1, 0) 0 2)), (57, .bool ((a0.getD v2.toNat default).f_Seq == a1.f_Seq)), (56, .bool ((a0.getD v2.toNat default).f_Seq == a1.f_Seq)), (55, .int .i64 a1.f_Seq), (54, .ptr (0, 0) 0 1), (53, .int .i64 ((a0.getD v2.toNat default).f_Seq)), (52, .ptr (1, 0) 0 1), (0, .isl 4 (a0.map e_QChunk) false), (3, .ptr (0, 0) 0 0), (8, .ptr (1, 0) 0 0), (28, .isl 4 (a0.map e_QChunk) false), (29, .int .i64 ((a0.map e_QChunk).length : Int)), (30, .int .i64 v2), (50, .bool (((a0.getD v2.toNat default).f_Seq == a1.f_Seq) && v4))] _ _
        refine And.intro (fun hp => (And.intro hp hp)) ?_
        refine And.intro (fun hp => (And.intro hp (fun hc => (and_i hp (bqt hc))))) ?_
        refine And.intro (fun hc => (bqf hc)) ?_
        refine And.intro (fun hp => hp) ?_
        show yops _ _ _ [(70, .cnd ((((a0.getD v2.toNat default).f_Seq == a1.f_Seq) || ((a0.getD v2.toNat default).f_Last && (decide ((a0.getD v2.toNat default).f_Seq < a1.f_Seq)))) == false) (.bool a1.f_Last)), (69, .cnd ((((a0.getD v2.toNat default).f_Seq == a1.f_Seq) || ((a0.getD v2.toNat default).f_Last && (decide ((a0.getD v2.toNat default).f_Seq < a1.f_Seq)))) == false) (.ptr (0, 0) 0 2)), (68, .bool (((a0.getD v2.toNat default).f_Seq == a1.f_Seq) || ((a0.getD v2.toNat default).f_Last && (decide ((a0.getD v2.toNat default).f_Seq < a1.f_Seq))))), (67, .bool (((a0.getD v2.toNat default).f_Seq == a1.f_Seq) || ((a0.getD v2.toNat default).f_Last && (decide ((a0.getD v2.toNat default).f_Seq < a1.f_Seq))))), (66, .cnd (((a0.getD v2.toNat default).f_Seq == a1.f_Seq) == false) (.bool ((a0.getD v2.toNat default).f_Last && (decide ((a0.getD v2.toNat default).f_Seq < a1.f_Seq))))), (65, .cnd ((((a0.getD v2.toNat default).f_Seq == a1.f_Seq) == false) && ((a0.getD v2.toNat default).f_Last == true)) (.bool (decide ((a0.getD v2.toNat default).f_Seq < a1.f_Seq)))), (64, .cnd ((((a0.getD v2.toNat default).f_Seq == a1.f_Seq) == false) && ((a0.getD v2.toNat default).f_Last == true)) (.int .i64 a1.f_Seq)), (63, .cnd ((((a0.getD v2.toNat default).f_Seq == a1.f_Seq) == false) && ((a0.getD v2.toNat default).f_Last == true)) (.ptr (0, 0) 0 1)), (62, .cnd ((((a0.getD v2.toNat default).f_Seq == a1.f_Seq) == false) && ((a0.getD v2.toNat default).f_Last == true)) (.int .i64 ((a0.getD v2.toNat default).f_Seq))), (61, .cnd ((((a0.getD v2.toNat default).f_Seq == a1.f_Seq) == false) && ((a0.getD v2.toNat default).f_Last == true)) (.ptr (1, 0) 0 1)), (60, .cnd (((a0.getD v2.toNat default).f_Seq == a1.f_Seq) == false) (.bool ((a0.getD v2.toNat default).f_Last))), (59, .cnd (((a0.getD v2.toNat default).f_Seq == a1.f_Seq) == false) (.bool ((a0.getD v2.toNat default).f_Last))), (58, .cnd (((a0.getD v2.toNat default).f_Seq == a1.f_Seq) == false) (.ptr (1, 0) 0 2)), (57, .bool ((a0.getD v2.toNat default).f_Seq == a1.f_Seq)), (56, .bool ((a0.getD v2.toNat default).f_Seq == a1.f_Seq)), (55, .int .i64 a1.f_Seq), (54, .ptr (0, 0) 0 1), (53, .int .i64 ((a0.getD v2.toNat default).f_Seq)), (52, .ptr (1, 0) 0 1), (0, .isl 4 (a0.map e_QChunk) false), (3, .ptr (0, 0) 0 0), (8, .ptr (1, 0) 0 0), (28, .isl 4 (a0.map e_QChunk) false), (29, .int .i64 ((a0.map e_QChunk).length : Int)), (30, .int .i64 v2), (50, .bool (((a0.getD v2.toNat default).f_Seq == a1.f_Seq) && v4))] _ _
        refine And.intro (fun hp => hp) ?_
        refine And.intro (fun hp => hp) ?_
        refine And.intro (fun hp => hp) ?_
        show yops _ _ _ [(75, .cnd (((((a0.getD v2.toNat default).f_Seq == a1.f_Seq) || ((a0.getD v2.toNat default).f_Last && (decide ((a0.getD v2.toNat default).f_Seq < a1.f_Seq)))) == false) && (a1.f_Last == true)) (.int .i64 a1.f_Seq)), (74, .cnd (((((a0.getD v2.toNat default).f_Seq == a1.f_Seq) || ((a0.getD v2.toNat default).f_Last && (decide ((a0.getD v2.toNat default).f_Seq < a1.f_Seq)))) == false) && (a1.f_Last == true)) (.ptr (0, 0) 0 1)), (73, .cnd (((((a0.getD v2.toNat default).f_Seq == a1.f_Seq) || ((a0.getD v2.toNat default).f_Last && (decide ((a0.getD v2.toNat default).f_Seq < a1.f_Seq)))) == false) && (a1.f_Last == true)) (.int .i64 ((a0.getD v2.toNat default).f_Seq))), (72, .cnd (((((a0.getD v2.toNat default).f_Seq == a1.f_Seq) || ((a0.getD v2.toNat default).f_Last && (decide ((a0.getD v2.toNat default).f_Seq < a1.f_Seq)))) == false) && (a1.f_Last == true)) (.ptr (1, 0) 0 1)), (71, .cnd ((((a0.getD v2.toNat default).f_Seq == a1.f_Seq) || ((a0.getD v2.toNat default).f_Last && (decide ((a0.getD v2.toNat default).f_Seq < a1.f_Seq)))) == false) (.bool a1.f_Last)), (70, .cnd ((((a0.getD v2.toNat default).f_Seq == a1.f_Seq) || ((a0.getD v2.toNat default).f_Last && (decide ((a0.getD v2.toNat default).f_Seq < a1.f_Seq)))) == false) (.bool a1.f_Last)), (69, .cnd ((((a0.getD v2.toNat default).f_Seq == a1.f_Seq) || ((a0.getD v2.toNat default).f_Last && (decide ((a0.getD v2.toNat default).f_Seq < a1.f_Seq)))) == false) (.ptr (0, 0) 0 2)), (68, .bool (((a0.getD v2.toNat default).f_Seq == a1.f_Seq) || ((a0.getD v2.toNat default).f_Last && (decide ((a0.getD v2.toNat default).f_Seq < a1.f_Seq))))), (67, .bool (((a0.getD v2.toNat default).f_Seq == a1.f_Seq) || ((a0.getD v2.toNat default).f_Last && (decide ((a0.getD v2.toNat default).f_Seq < a1.f_Seq))))), (66, .cnd (((a0.getD v2.toNat default).f_Seq == a1.f_Seq) == false) (.bool ((a0.getD v2.toNat default).f_Last && (decide ((a0.getD v2.toNat default).f_Seq < a1.f_Seq))))), (65, .cnd ((((a0.getD v2.toNat default).f_Seq == a1.f_Seq) == false) && ((a0.getD v2.toNat default).f_Last == true)) (.bool (decide ((a0.getD v2.toNat default).f_Seq < a1.f_Seq)))), (64, .cnd ((((a0.getD v2.toNat default).f_Seq == a1.f_Seq) == false) && ((a0.getD v2.toNat default).f_Last == true)) (.int .i64 a1.f_Seq)), (63, .cnd ((((a0.getD v2.toNat default).f_Seq == a1.f_Seq) == false) && ((a0.getD v2.toNat default).f_Last == true)) (.ptr (0, 0) 0 1)), (62, .cnd ((((a0.getD v2.toNat default).f_Seq == a1.f_Seq) == false) && ((a0.getD v2.toNat default).f_Last == true)) (.int .i64 ((a0.getD v2.toNat default).f_Seq))), (61, .cnd ((((a0.getD v2.toNat default).f_Seq == a1.f_Seq) == false) && ((a0.getD v2.toNat default).f_Last == true)) (.ptr (1, 0) 0 1)), (60, .cnd (((a0.getD v2.toNat default).f_Seq == a1.f_Seq) == false) (.bool ((a0.getD v2.toNat default).f_Last))), (59, .cnd (((a0.getD v2.toNat default).f_Seq == a1.f_Seq) == false) (.bool ((a0.getD v2.toNat default).f_Last))), (58, .cnd (((a0.getD v2.toNat default).f_Seq == a1.f_Seq) == false) (.ptr (1, 0) 0 2)), (57, .bool ((a0.getD v2.toNat default).f_Seq == a1.f_Seq)), (56, .bool ((a0.getD v2.toNat default).f_Seq == a1.f_Seq)), (55, .int .i64 a1.f_Seq), (54, .ptr (0, 0) 0 1), (53, .int .i64 ((a0.getD v2.toNat default).f_Seq)), (52, .ptr (1, 0) 0 1), (0, .isl 4 (a0.map e_QChunk) false), (3, .ptr (0, 0) 0 0), (8, .ptr (1, 0) 0 0), (28, .isl 4 (a0.map e_QChunk) false), (29, .int .i64 ((a0.map e_QChunk).length : Int)), (30, .int .i64 v2), (50, .bool (((a0.getD v2.toNat default).f_Seq == a1.f_Seq) && v4))] _ _
        refine And.intro (fun hp => (And.intro hp hp)) ?_
        refine And.intro (fun hp => (And.intro hp (fun hc => (and_i hp (bqt hc))))) ?_
        refine And.intro (fun hc => (bqf hc)) ?_
        refine LWp.sim (e := [(0, .isl 4 (a0.map e_QChunk) false), (3, .ptr (0, 0) 0 0), (28, .isl 4 (a0.map e_QChunk) false), (29, .int .i64 ((a0.map e_QChunk).length : Int)), (30, .int .i64 v2), (78, .bool ((((a0.getD v2.toNat default).f_Seq == a1.f_Seq) || ((a0.getD v2.toNat default).f_Last && (decide ((a0.getD v2.toNat default).f_Seq < a1.f_Seq)))) || (a1.f_Last && (decide ((a0.getD v2.toNat default).f_Seq > a1.f_Seq)))))]) (L := [((0, 0), .one [.int .i64 a1.f_Token, .int .i64 a1.f_Seq, .bool a1.f_Last, .isl 1 (a1.f_Items.map e_i64) false])]) (n := 1) ?_ ?_
        · exact simI (M := [((0, 0), (0, 0))]) rfl (And.intro (Vw.same _ rfl) (And.intro (Vw.ptr _ _ _ _ rfl) (And.intro (Vw.same _ rfl) (And.intro (Vw.same _ rfl) (And.intro (Vw.same _ rfl) (And.intro (Vw.same _ rfl) trivial)))))) (And.intro (And.intro rfl (BVw.oneL (And.intro (Vw.same _ rfl) (And.intro (Vw.same _ rfl) (And.intro (Vw.same _ rfl) (And.intro (Vw.same _ rfl) trivial)))))) trivial)
        refine condI (v := ((((a0.getD v2.toNat default).f_Seq == a1.f_Seq) || ((a0.getD v2.toNat default).f_Last && (decide ((a0.getD v2.toNat default).f_Seq < a1.f_Seq)))) || (a1.f_Last && (decide ((a0.getD v2.toNat default).f_Seq > a1.f_Seq))))) rfl trivial (fun h20 => ?_) (fun h20 => ?_)
        · have h := ite_tt h20 h
          refine seqI ?_
          refine regI ?_
          refine retI ?_
          obtain ⟨o, hq, rfl⟩ := Option.map_eq_some_iff.1 h
          replace h := hq; clear hq
          refine And.intro nofun ?_
          cases h
          exact And.intro trivial (And.intro trivial (And.intro trivial (And.intro rfl (Vw.same _ rfl))))
        · have h := ite_ff h20 h
          refine skipI ?_
          refine LWp.sim ?_ (f14_j3_ok h)
          exact simI (M := [((0, 0), (0, 0))]) rfl (And.intro (Vw.same _ rfl) (And.intro (Vw.ptr _ _ _ _ rfl) (And.intro (Vw.same _ rfl) (And.intro (Vw.same _ rfl) (And.intro (Vw.same _ rfl) trivial))))) (And.intro (And.intro rfl (BVw.oneL (And.intro (Vw.same _ rfl) (And.intro (Vw.same _ rfl) (And.intro (Vw.same _ rfl) (And.intro (Vw.same _ rfl) trivial)))))) trivial)
  · have h := ite_ff h15 h
    refine exitI ?_
    obtain ⟨o, hq, rfl⟩ := Option.map_eq_some_iff.1 h
    replace h := hq; clear hq
    refine And.intro nofun ?_
    refine LWp.sim ?_ (f14_j4_ok h)
    exact simI (M := [((0, 0), (0, 0))]) rfl (And.intro (Vw.same _ rfl) (And.intro (Vw.ptr _ _ _ _ rfl) trivial)) (And.intro (And.intro rfl (BVw.oneL (And.intro (Vw.same _ rfl) (And.intro (Vw.same _ rfl) (And.intro (Vw.same _ rfl) (And.intro (Vw.same _ rfl) trivial)))))) trivial)

theorem f14_L1_ok {a0 : List G_QChunk} {a1 : G_QChunk} {v2 : Int} {m : Option Nat} {o : ((List G_QChunk) × Bool × Int)} (h : S_glossatorref3_AddChunk_l1 m a0 a1 v2 = some o) :
    LWp Try.prog f14_lay 0 (.loop f14_c2) (QBlock 0 (QSeq Try.prog f14_lay 0 f14_c0 (f14_Q a0 a1 o))) [(0, .isl 4 (a0.map e_QChunk) false), (3, .ptr (0, 0) 0 0), (28, .isl 4 (a0.map e_QChunk) false), (29, .int .i64 ((a0.map e_QChunk).length : Int)), (30, .int .i64 v2)] [((0, 0), .one [.int .i64 a1.f_Token, .int .i64 a1.f_Seq, .bool a1.f_Last, .isl 1 (a1.f_Items.map e_i64) false])] 1 :=
  LWp_loopM (m := m) (s := (v2 : Int)) (r := o) (fun (s : Int) => S_glossatorref3_AddChunk_b1 m a0 a1 s) (f14_L1_env a0 a1) (f14_L1_hp a0 a1) (f14_L1_Q a0 a1) (fun s o h => f14_L1_bok h) h

noncomputable def S_glossatorref3_AddChunk (m : Option Nat) (a0 : List G_QChunk) (a1 : G_QChunk) : Option ((List G_QChunk) × Bool × Int) :=
  if (((decide (a1.f_Token < 0)) || (decide (a1.f_Seq < 0))) || (decide (a1.f_Seq ≥ 1000))) = true then
    some (a0, false, 1)
  else
    if (decide (((a1.f_Items.map e_i64).length : Int) > 1000)) = true then
      some (a0, false, 2)
    else
      S_glossatorref3_AddChunk_l1 m a0 a1 0

theorem f14_start {a0 : List G_QChunk} {a1 : G_QChunk} {m : Option Nat} {o : (List G_QChunk) × Bool × Int} (h : S_glossatorref3_AddChunk m a0 a1 = some o) : LWp Try.prog f14_lay 0 f14_c3 (f14_Q a0 a1 o) (initEnv 0 [.isl 4 (a0.map e_QChunk) false, .agg [.int .i64 a1.f_Token, .int .i64 a1.f_Seq, .bool a1.f_Last, .isl 1 (a1.f_Items.map e_i64) false]]) [] 0 := by
  unfold S_glossatorref3_AddChunk at h
  refine seqI ?_
  refine regI ?_
  refine seqI ?_
  refine seqI ?_
  refine regI ?_
  refine And.intro (fun hp => hp) ?_
  show yops _ _ _ [(14, .cnd ((decide (a1.f_Token < 0)) == false) (.int .i64 a1.f_Seq)), (13, .cnd ((decide (a1.f_Token < 0)) == false) (.ptr (0, 0) 0 1)), (12, .bool (decide (a1.f_Token < 0))), (11, .bool (decide (a1.f_Token < 0))), (10, .int .i64 a1.f_Token), (9, .ptr (0, 0) 0 0), (6, .int .i64 0), (5, .bool false), (4, .val (.slice none 0 0)), (3, .ptr (0, 0) 0 0), (0, .isl 4 (a0.map e_QChunk) false), (1, .agg [.int .i64 a1.f_Token, .int .i64 a1.f_Seq, .bool a1.f_Last, .isl 1 (a1.f_Items.map e_i64) false])] _ _
  refine And.intro (fun hp => hp) ?_
  refine And.intro (fun hc => (bqf hc)) ?_
  refine And.intro (fun hp => hp) ?_
  show yops _ _ _ [(19, .cnd (((decide (a1.f_Token < 0)) || (decide (a1.f_Seq < 0))) == false) (.int .i64 a1.f_Seq)), (18, .cnd (((decide (a1.f_Token < 0)) || (decide (a1.f_Seq < 0))) == false) (.ptr (0, 0) 0 1)), (17, .bool ((decide (a1.f_Token < 0)) || (decide (a1.f_Seq < 0)))), (16, .bool ((decide (a1.f_Token < 0)) || (decide (a1.f_Seq < 0)))), (15, .cnd ((decide (a1.f_Token < 0)) == false) (.bool (decide (a1.f_Seq < 0)))), (14, .cnd ((decide (a1.f_Token < 0)) == false) (.int .i64 a1.f_Seq)), (13, .cnd ((decide (a1.f_Token < 0)) == false) (.ptr (0, 0) 0 1)), (12, .bool (decide (a1.f_Token < 0))), (11, .bool (decide (a1.f_Token < 0))), (10, .int .i64 a1.f_Token), (9, .ptr (0, 0) 0 0), (6, .int .i64 0), (5, .bool false), (4, .val (.slice none 0 0)), (3, .ptr (0, 0) 0 0), (0, .isl 4 (a0.map e_QChunk) false), (1, .agg [.int .i64 a1.f_Token, .int .i64 a1.f_Seq, .bool a1.f_Last, .isl 1 (a1.f_Items.map e_i64) false])] _ _
  refine And.intro (fun hp => hp) ?_
  refine And.intro (fun hc => (bqf hc)) ?_
  refine LWp.sim (e := [(0, .isl 4 (a0.map e_QChunk) false), (3, .ptr (0, 0) 0 0), (21, .bool (((decide (a1.f_Token < 0)) || (decide (a1.f_Seq < 0))) || (decide (a1.f_Seq ≥ 1000))))]) (L := [((0, 0), .one [.int .i64 a1.f_Token, .int .i64 a1.f_Seq, .bool a1.f_Last, .isl 1 (a1.f_Items.map e_i64) false])]) (n := 1) ?_ ?_
  · exact simI (M := [((0, 0), (0, 0))]) rfl (And.intro (Vw.same _ rfl) (And.intro (Vw.ptr _ _ _ _ rfl) (And.intro (Vw.same _ rfl) trivial))) (And.intro (And.intro rfl (BVw.oneL (And.intro (Vw.same _ rfl) (And.intro (Vw.same _ rfl) (And.intro (Vw.same _ rfl) (And.intro (Vw.same _ rfl) trivial)))))) trivial)
  refine condI (v := (((decide (a1.f_Token < 0)) || (decide (a1.f_Seq < 0))) || (decide (a1.f_Seq ≥ 1000)))) rfl trivial (fun h1 => ?_) (fun h1 => ?_)
  · have h := ite_tt h1 h
    refine seqI ?_
    refine regI ?_
    refine retI ?_
    cases h
    exact And.intro trivial (And.intro trivial (And.intro trivial (And.intro rfl (Vw.same _ rfl))))
  · have h := ite_ff h1 h
    refine skipI ?_
    refine seqI ?_
    refine seqI ?_
    refine regI ?_
    refine condI (v := (decide (((a1.f_Items.map e_i64).length : Int) > 1000))) rfl trivial (fun h2 => ?_) (fun h2 => ?_)
    · have h := ite_tt h2 h
      refine seqI ?_
      refine regI ?_
      refine LWp.sim (e := [(4, .isl 4 (a0.map e_QChunk) false), (5, .bool false), (6, .int .i64 2)]) (L := []) (n := 0) ?_ ?_
      · exact simI (M := []) rfl (And.intro (Vw.same _ rfl) (And.intro (Vw.same _ rfl) (And.intro (Vw.same _ rfl) trivial))) trivial
      refine retI ?_
      cases h
      exact And.intro trivial (And.intro trivial (And.intro trivial (And.intro rfl (Vw.same _ rfl))))
    · have h := ite_ff h2 h
      refine skipI ?_
      refine seqI ?_
      refine seqI ?_
      refine regI ?_
      refine blockI ?_
      refine LWp.sim ?_ (f14_L1_ok h)
      exact simI (M := [((0, 0), (0, 0))]) rfl (And.intro (Vw.same _ rfl) (And.intro (Vw.ptr _ _ _ _ rfl) (And.intro (Vw.same _ rfl) (And.intro (Vw.same _ rfl) (And.intro (Vw.same _ rfl) trivial))))) (And.intro (And.intro rfl (BVw.oneL (And.intro (Vw.same _ rfl) (And.intro (Vw.same _ rfl) (And.intro (Vw.same _ rfl) (And.intro (Vw.same _ rfl) trivial)))))) trivial)

theorem f14_ok {a0 : List G_QChunk} {a1 : G_QChunk} {m : Option Nat} {o : (List G_QChunk) × Bool × Int} (h : S_glossatorref3_AddChunk m a0 a1 = some o) : PFn Try.prog 14 [.isl 4 (a0.map e_QChunk) false, .agg [.int .i64 a1.f_Token, .int .i64 a1.f_Seq, .bool a1.f_Last, .isl 1 (a1.f_Items.map e_i64) false]] (.tup [.isl 4 (o.1.map e_QChunk) false, .bool o.2.1, .int .i64 o.2.2]) := PFn.ofFnW (L := f14_L) f14_low f14_fok (Nat.le_of_ble_eq_true rfl) rfl (f14_start h)

def f25_c1 : LCode := (.seq (.region [⟨some 13, .bin .lss (.t 12) (.t 11), none⟩])
 (.seq (.cond (.t 13)
  .skip
  (.exit 0))
 (.seq (.block 1
  (.seq (.region [⟨some 14, .iaddr 4 (.t 10) (.t 12), none⟩,
    ⟨some 15, .load true 4 (.t 14), none⟩,
    ⟨some 9, .alloc [(.int .i64 0), (.int .i64 0), (.bool false), (.isl 1 [] true)], none⟩,
    ⟨none, .store 4 (.t 9) (.t 15), none⟩])
  (.seq (.region [⟨some 16, .faddr 0 (.t 9), none⟩,
    ⟨some 17, .load false 1 (.t 16), none⟩,
    ⟨some 18, .mv (.t 1), none⟩,
    ⟨some 19, .bin .eql (.t 17) (.t 18), none⟩,
    ⟨some 20, .mv (.t 19), none⟩,
    ⟨some 21, .faddr 1 (.t 9), some (20, true)⟩,
    ⟨some 22, .load false 1 (.t 21), some (20, true)⟩,
    ⟨some 23, .mv (.t 2), some (20, true)⟩,
    ⟨some 24, .bin .eql (.t 22) (.t 23), some (20, true)⟩,
    ⟨some 25, .pick (.t 20) (.t 24) (.c (.bool false)), none⟩])
  (.cond (.t 25)
   (.seq (.region [⟨some 26, .load true 4 (.t 9), none⟩,
     ⟨none, .store 4 (.t 6) (.t 26), none⟩,
     ⟨some 7, .mv (.c (.bool true)), none⟩])
   .ret)
   .skip))))
 (.region [⟨some 27, .bin .add (.t 12) (.c (.int .i64 1)), none⟩,
   ⟨some 12, .mv (.t 27), none⟩]))))
def f25_c0 : LCode := (.seq (.region [⟨some 28, .build [(.int .i64 0), (.int .i64 0), (.bool false), (.isl 1 [] true)] [], none⟩,
   ⟨none, .store 4 (.t 6) (.t 28), none⟩,
   ⟨some 7, .mv (.c (.bool false)), none⟩])
 .ret)
def f25_c2 : LCode := (.seq (.region [⟨some 6, .alloc [(.int .i64 0), (.int .i64 0), (.bool false), (.isl 1 [] true)], none⟩,
   ⟨some 7, .mv (.c (.bool false)), none⟩])
 (.seq (.seq (.region [⟨some 10, .mv (.t 0), none⟩,
   ⟨some 11, .len false (.t 10), none⟩,
   ⟨some 12, .mv (.c (.int .i64 0)), none⟩])
 (.block 0
  (.loop
   f25_c1)))
 f25_c0))
def f25_lay : Lay := ⟨29, [], false⟩
def f25_res : List LRes := [.cell 6 true 4, .t 7]
def f25_L : LFn := ⟨3, f25_lay, f25_c2, f25_res⟩
theorem f25_low : lowFn Try.prog [] 25 = some f25_L := by kernel_rfl
theorem f25_fok : FnOk Try.prog 25 := ⟨_, Try.func25, rfl, rfl⟩
def f25_Q (a0 : List G_QChunk) (a1 : Int) (a2 : Int) (o : G_QChunk × Bool) : Exit → Env → AHeap → Nat → Prop := FinK f25_res (PureEnd (.tup [.agg [.int .i64 o.1.f_Token, .int .i64 o.1.f_Seq, .bool o.1.f_Last, .isl 1 (o.1.f_Items.map e_i64) false], .bool o.2]))

def f25_L1_env (a0 : List G_QChunk) (a1 : Int) (a2 : Int) (s : Int) : Env := [(1, .int .i64 a1), (2, .int .i64 a2), (6, .ptr (0, 0) 0 0), (10, .isl 4 (a0.map e_QChunk) false), (11, .int .i64 ((a0.map e_QChunk).length : Int)), (12, .int .i64 s)]
def f25_L1_hp (a0 : List G_QChunk) (a1 : Int) (a2 : Int) (s : Int) : AHeap := [((0, 0), .one [.int .i64 0, .int .i64 0, .bool false, .isl 1 (([] : List Int).map e_i64) true])]
def f25_L1_Q (a0 : List G_QChunk) (a1 : Int) (a2 : Int) (o : (G_QChunk × Bool)) : Exit → Env → AHeap → Nat → Prop := (QBlock 0 (QSeq Try.prog f25_lay 0 f25_c0 (f25_Q a0 a1 a2 o)))

noncomputable def S_glossatorref3_chunk_j1 (m : Option Nat) : Option (G_QChunk × Bool) :=
  some ((G_QChunk.mk 0 0 false ([] : List Int)), false)

noncomputable def S_glossatorref3_chunk_b1 (m : Option Nat) (a0 : List G_QChunk) (a1 : Int) (a2 : Int) (v1 : Int) : Option (Int ⊕ (G_QChunk × Bool)) :=
  if (decide (v1 < ((a0.map e_QChunk).length : Int))) = true then
    if (0 : Int) ≤ v1 ∧ v1 < ((a0.map e_QChunk).length : Int) then
    if (((a0.getD v1.toNat default).f_Token == a1) && ((a0.getD v1.toNat default).f_Seq == a2)) = true then
      Option.map Sum.inr (
        some ((G_QChunk.mk ((a0.getD v1.toNat default).f_Token) ((a0.getD v1.toNat default).f_Seq) ((a0.getD v1.toNat default).f_Last) ((a0.getD v1.toNat default).f_Items)), true))
    else
      some (.inl (W (v1 + 1)))
    else none
  else
    Option.map Sum.inr (
      S_glossatorref3_chunk_j1 m)

noncomputable def S_glossatorref3_chunk_l1 (m : Option Nat) (a0 : List G_QChunk) (a1 : Int) (a2 : Int) (v1 : Int) : Option (G_QChunk × Bool) := loopM m (fun (s : Int) => S_glossatorref3_chunk_b1 m a0 a1 a2 s) v1

theorem f25_j1_ok {a0 : List G_QChunk} {a1 : Int} {a2 : Int} {m : Option Nat} {o : (G_QChunk × Bool)} (h : S_glossatorref3_chunk_j1 m = some o) :
    LWp Try.prog f25_lay 0 f25_c0 (f25_Q a0 a1 a2 o) [(6, .ptr (0, 0) 0 0)] [((0, 0), .one [.int .i64 0, .int .i64 0, .bool false, .isl 1 (([] : List Int).map e_i64) true])] 1 := by
  unfold S_glossatorref3_chunk_j1 at h
  refine seqI ?_
  refine regI ?_
  refine retI ?_
  cases h
  exact And.intro (And.intro trivial (And.intro rfl (Nat.le_of_ble_eq_true rfl))) (And.intro trivial (And.intro rfl (Vw.tupL (And.intro (Vw.aggL (And.intro (Vw.same _ rfl) (And.intro (Vw.same _ rfl) (And.intro (Vw.same _ rfl) (And.intro (Vw.islF _ _ _) trivial))))) (And.intro (Vw.same _ rfl) trivial)))))

theorem f25_L1_bok {a0 : List G_QChunk} {a1 : Int} {a2 : Int} {v1 : Int} {m : Option Nat} {o : Int ⊕ (G_QChunk × Bool)} (h : S_glossatorref3_chunk_b1 m a0 a1 a2 v1 = some o) :
    LWp Try.prog f25_lay 0 f25_c1 (BodyQ 0 1 (f25_L1_env a0 a1 a2) (f25_L1_hp a0 a1 a2) (f25_L1_Q a0 a1 a2) o) [(1, .int .i64 a1), (2, .int .i64 a2), (6, .ptr (0, 0) 0 0), (10, .isl 4 (a0.map e_QChunk) false), (11, .int .i64 ((a0.map e_QChunk).length : Int)), (12, .int .i64 v1)] [((0, 0), .one [.int .i64 0, .int .i64 0, .bool false, .isl 1 (([] : List Int).map e_i64) true])] 1 := by
  unfold S_glossatorref3_chunk_b1 at h
  refine seqI ?_
  refine regI ?_
  refine seqI ?_
  refine condI (v := (decide (v1 < ((a0.map e_QChunk).length : Int)))) rfl trivial (fun h7 => ?_) (fun h7 => ?_)
  · have h := ite_tt h7 h
    refine skipI ?_
    refine seqI ?_
    refine blockI ?_
    refine seqI ?_
    refine regI ?_
    obtain ⟨h8, h⟩ := ite_some h
    refine And.intro h8 ?_
    refine Exists.intro (e_QChunk (a0.getD v1.toNat default)) (And.intro (getD_enc e_QChunk _ _ (idx_ltL e_QChunk h8)) (And.intro (And.intro (idx_lt h8) (Nat.le_of_ble_eq_true rfl)) ?_))
    refine seqI ?_
    refine regI ?_
    refine And.intro (fun hp => hp) ?_
    show yops _ _ _ [(22, .cnd (((a0.getD v1.toNat default).f_Token == a1) == true) (.int .i64 ((a0.getD v1.toNat default).f_Seq))), (21, .cnd (((a0.getD v1.toNat default).f_Token == a1) == true) (.ptr (1, 0) 0 1)), (20, .bool ((a0.getD v1.toNat default).f_Token == a1)), (19, .bool ((a0.getD v1.toNat default).f_Token == a1)), (18, .int .i64 a1), (17, .int .i64 ((a0.getD v1.toNat default).f_Token)), (16, .ptr (1, 0) 0 0), (9, .ptr (1, 0) 0 0), (15, .agg [.int .i64 ((a0.getD v1.toNat default).f_Token), .int .i64 ((a0.getD v1.toNat default).f_Seq), .bool ((a0.getD v1.toNat default).f_Last), .isl 1 (((a0.getD v1.toNat default).f_Items).map e_i64) false]), (14, .iptr 4 (a0.map e_QChunk) v1.toNat 0), (13, .bool (decide (v1 < ((a0.map e_QChunk).length : Int)))), (1, .int .i64 a1), (2, .int .i64 a2), (6, .ptr (0, 0) 0 0), (10, .isl 4 (a0.map e_QChunk) false), (11, .int .i64 ((a0.map e_QChunk).length : Int)), (12, .int .i64 v1)] _ _
    refine And.intro (fun hp => (And.intro hp hp)) ?_
    refine And.intro (fun hc => (bqt hc)) ?_
    refine LWp.sim (e := [(1, .int .i64 a1), (2, .int .i64 a2), (6, .ptr (0, 0) 0 0), (9, .ptr (1, 0) 0 0), (10, .isl 4 (a0.map e_QChunk) false), (11, .int .i64 ((a0.map e_QChunk).length : Int)), (12, .int .i64 v1), (25, .bool (((a0.getD v1.toNat default).f_Token == a1) && ((a0.getD v1.toNat default).f_Seq == a2)))]) (L := [((0, 0), .one [.int .i64 0, .int .i64 0, .bool false, .isl 1 (([] : List Int).map e_i64) true]), ((1, 0), .one [.int .i64 ((a0.getD v1.toNat default).f_Token), .int .i64 ((a0.getD v1.toNat default).f_Seq), .bool ((a0.getD v1.toNat default).f_Last), .isl 1 (((a0.getD v1.toNat default).f_Items).map e_i64) false])]) (n := 2) ?_ ?_
    · exact simI (M := [((0, 0), (0, 0)), ((1, 0), (1, 0))]) rfl (And.intro (Vw.same _ rfl) (And.intro (Vw.same _ rfl) (And.intro (Vw.ptr _ _ _ _ rfl) (And.intro (Vw.ptr _ _ _ _ rfl) (And.intro (Vw.same _ rfl) (And.intro (Vw.same _ rfl) (And.intro (Vw.same _ rfl) (And.intro (Vw.same _ rfl) trivial)))))))) (And.intro (And.intro rfl (BVw.oneL (And.intro (Vw.same _ rfl) (And.intro (Vw.same _ rfl) (And.intro (Vw.same _ rfl) (And.intro (Vw.same _ rfl) trivial)))))) (And.intro (And.intro rfl (BVw.oneL (And.intro (Vw.same _ rfl) (And.intro (Vw.same _ rfl) (And.intro (Vw.same _ rfl) (And.intro (Vw.same _ rfl) trivial)))))) trivial))
    refine condI (v := (((a0.getD v1.toNat default).f_Token == a1) && ((a0.getD v1.toNat default).f_Seq == a2))) rfl trivial (fun h9 => ?_) (fun h9 => ?_)
    · have h := ite_tt h9 h
      refine seqI ?_
      refine regI ?_
      refine retI ?_
      obtain ⟨o, hq, rfl⟩ := Option.map_eq_some_iff.1 h
      replace h := hq; clear hq
      refine And.intro nofun ?_
      cases h
      exact And.intro (And.intro trivial (And.intro rfl (Nat.le_of_ble_eq_true rfl))) (And.intro trivial (And.intro rfl (Vw.same _ rfl)))
    · have h := ite_ff h9 h
      refine skipI ?_
      refine regI ?_
      cases h
      exact And.intro rfl (simI (M := [((0, 0), (0, 0))]) rfl (And.intro (Vw.same _ rfl) (And.intro (Vw.same _ rfl) (And.intro (Vw.ptr _ _ _ _ rfl) (And.intro (Vw.same _ rfl) (And.intro (Vw.same _ rfl) (And.intro (Vw.same _ rfl) trivial)))))) (And.intro (And.intro rfl (BVw.oneL (And.intro (Vw.same _ rfl) (And.intro (Vw.same _ rfl) (And.intro (Vw.same _ rfl) (And.intro (Vw.same _ rfl) trivial)))))) trivial))
  · have h := ite_ff h7 h
    refine exitI ?_
    obtain ⟨o, hq, rfl⟩ := Option.map_eq_some_iff.1 h
    replace h := hq; clear hq
    refine And.intro nofun ?_
    refine LWp.sim ?_ (f25_j1_ok h)
    exact simI (M := [((0, 0), (0, 0))]) rfl (And.intro (Vw.ptr _ _ _ _ rfl) trivial) (And.intro (And.intro rfl (BVw.oneL (And.intro (Vw.same _ rfl) (And.intro (Vw.same _ rfl) (And.intro (Vw.same _ rfl) (And.intro (Vw.same _ rfl) trivial)))))) trivial)

theorem f25_L1_ok {a0 : List G_QChunk} {a1 : Int} {a2 : Int} {v1 : Int} {m : Option Nat} {o : (G_QChunk × Bool)} (h : S_glossatorref3_chunk_l1 m a0 a1 a2 v1 = some o) :
    LWp Try.prog f25_lay 0 (.loop f25_c1) (QBlock 0 (QSeq Try.prog f25_lay 0 f25_c0 (f25_Q a0 a1 a2 o))) [(1, .int .i64 a1), (2, .int .i64 a2), (6, .ptr (0, 0) 0 0), (10, .isl 4 (a0.map e_QChunk) false), (11, .int .i64 ((a0.map e_QChunk).length : Int)), (12, .int .i64 v1)] [((0, 0), .one [.int .i64 0, .int .i64 0, .bool false, .isl 1 (([] : List Int).map e_i64) true])] 1 :=
  LWp_loopM (m := m) (s := (v1 : Int)) (r := o) (fun (s : Int) => S_glossatorref3_chunk_b1 m a0 a1 a2 s) (f25_L1_env a0 a1 a2) (f25_L1_hp a0 a1 a2) (f25_L1_Q a0 a1 a2) (fun s o h => f25_L1_bok h) h

noncomputable def S_glossatorref3_chunk (m : Option Nat) (a0 : List G_QChunk) (a1 : Int) (a2 : Int) : Option (G_QChunk × Bool) :=
  S_glossatorref3_chunk_l1 m a0 a1 a2 0

theorem f25_start {a0 : List G_QChunk} {a1 : Int} {a2 : Int} {m : Option Nat} {o : G_QChunk × Bool} (h : S_glossatorref3_chunk m a0 a1 a2 = some o) : LWp Try.prog f25_lay 0 f25_c2 (f25_Q a0 a1 a2 o) (initEnv 0 [.isl 4 (a0.map e_QChunk) false, .int .i64 a1, .int .i64 a2]) [] 0 := by
  unfold S_glossatorref3_chunk at h
  refine seqI ?_
  refine regI ?_
  refine seqI ?_
  refine seqI ?_
  refine regI ?_
  refine blockI ?_
  refine LWp.sim ?_ (f25_L1_ok h)
  exact simI (M := [((0, 0), (0, 0))]) rfl (And.intro (Vw.same _ rfl) (And.intro (Vw.same _ rfl) (And.intro (Vw.ptr _ _ _ _ rfl) (And.intro (Vw.same _ rfl) (And.intro (Vw.same _ rfl) (And.intro (Vw.same _ rfl) trivial)))))) (And.intro (And.intro rfl (BVw.oneL (And.intro (Vw.same _ rfl) (And.intro (Vw.same _ rfl) (And.intro (Vw.same _ rfl) (And.intro (Vw.same _ rfl) trivial)))))) trivial)

theorem f25_ok {a0 : List G_QChunk} {a1 : Int} {a2 : Int} {m : Option Nat} {o : G_QChunk × Bool} (h : S_glossatorref3_chunk m a0 a1 a2 = some o) : PFn Try.prog 25 [.isl 4 (a0.map e_QChunk) false, .int .i64 a1, .int .i64 a2] (.tup [.agg [.int .i64 o.1.f_Token, .int .i64 o.1.f_Seq, .bool o.1.f_Last, .isl 1 (o.1.f_Items.map e_i64) false], .bool o.2]) := PFn.ofFnW (L := f25_L) f25_low f25_fok (Nat.le_of_ble_eq_true rfl) rfl (f25_start h)

def f16_c0 : LCode := (.seq (.block 1
  (.seq (.region [⟨some 13, .mv (.t 0), none⟩,
    ⟨some 14, .mv (.t 1), none⟩,
    ⟨some 15, .mv (.t 7), none⟩,
    ⟨some 16, .call 25 [(.t 13), (.t 14), (.t 15)], none⟩,
    ⟨some 12, .mv (.t 16), none⟩,
    ⟨some 17, .ext 0 (.t 12), none⟩,
    ⟨some 18, .ext 1 (.t 12), none⟩,
    ⟨some 8, .alloc [(.int .i64 0), (.int .i64 0), (.bool false), (.isl 1 [] true)], none⟩,
    ⟨none, .store 4 (.t 8) (.t 17), none⟩,
    ⟨some 9, .mv (.t 18), none⟩])
  (.seq (.seq (.region [⟨some 19, .mv (.t 9), none⟩,
    ⟨some 20, .un .not (.t 19), none⟩])
  (.cond (.t 20)
   (.seq (.region [⟨some 4, .mv (.c (.val (.slice none 0 0))), none⟩,
     ⟨some 5, .mv (.c (.bool false)), none⟩])
   .ret)
   .skip))
  (.seq (.region [⟨some 21, .mv (.t 6), none⟩,
    ⟨some 22, .faddr 3 (.t 8), none⟩,
    ⟨some 23, .load false 1 (.t 22), none⟩,
    ⟨some 24, .app true 1 8 (.t 21) (.t 23), none⟩,
    ⟨some 6, .mv (.t 24), none⟩])
  (.seq (.region [⟨some 25, .faddr 2 (.t 8), none⟩,
    ⟨some 26, .load false 1 (.t 25), none⟩])
  (.cond (.t 26)
   (.seq (.region [⟨some 27, .mv (.t 6), none⟩,
     ⟨some 4, .mv (.t 27), none⟩,
     ⟨some 5, .mv (.c (.bool true)), none⟩])
   .ret)
   .skip))))))
 (.region [⟨some 10, .mv (.t 7), none⟩,
   ⟨some 11, .bin .add (.t 10) (.c (.int .i64 1)), none⟩,
   ⟨some 7, .mv (.t 11), none⟩]))
def f16_c1 : LCode := (.seq (.region [⟨some 4, .mv (.c (.val (.slice none 0 0))), none⟩,
   ⟨some 5, .mv (.c (.bool false)), none⟩])
 (.seq (.region [⟨some 6, .mv (.c (.val (.slice none 0 0))), none⟩])
 (.seq (.region [⟨some 7, .mv (.c (.int .i64 0)), none⟩])
 (.block 0
  (.loop
   f16_c0)))))
def f16_lay : Lay := ⟨28, [], false⟩
def f16_res : List LRes := [.t 4, .t 5]
def f16_L : LFn := ⟨2, f16_lay, f16_c1, f16_res⟩
theorem f16_low : lowFn Try.prog [] 16 = some f16_L := by kernel_rfl
theorem f16_fok : FnOk Try.prog 16 := ⟨_, Try.func16, rfl, rfl⟩
def f16_Q (a0 : List G_QChunk) (a1 : Int) (o : (List Int) × Bool) : Exit → Env → AHeap → Nat → Prop := FinK f16_res (PureEnd (.tup [.isl 1 (o.1.map e_i64) false, .bool o.2]))

def f16_L1_env (a0 : List G_QChunk) (a1 : Int) (s : ((List Int) × Int)) : Env := [(0, .isl 4 (a0.map e_QChunk) false), (1, .int .i64 a1), (6, .osl (0, 0) 1 (s.1.map e_i64)), (7, .int .i64 s.2)]
def f16_L1_hp (a0 : List G_QChunk) (a1 : Int) (s : ((List Int) × Int)) : AHeap := [((0, 0), .tok)]
def f16_L1_Q (a0 : List G_QChunk) (a1 : Int) (o : ((List Int) × Bool)) : Exit → Env → AHeap → Nat → Prop := (QBlock 0 (f16_Q a0 a1 o))

noncomputable def S_glossatorref3_Assemble_b1 (m : Option Nat) (a0 : List G_QChunk) (a1 : Int) (v2 : List Int) (v3 : Int) : Option (((List Int) × Int) ⊕ ((List Int) × Bool)) :=
  (S_glossatorref3_chunk m a0 a1 v3).bind fun v5 =>
  if (!v5.2) = true then
    Option.map Sum.inr (
      some ([], false))
  else
    if ((v2 ++ v5.1.f_Items).map e_i64).length * 8 ≤ 140737488355328 then
    if v5.1.f_Last = true then
      Option.map Sum.inr (
        some ((v2 ++ v5.1.f_Items), true))
    else
      some (.inl ((v2 ++ v5.1.f_Items), (W (v3 + 1))))
    else none

noncomputable def S_glossatorref3_Assemble_l1 (m : Option Nat) (a0 : List G_QChunk) (a1 : Int) (v2 : List Int) (v3 : Int) : Option ((List Int) × Bool) := loopM m (fun (s : ((List Int) × Int)) => S_glossatorref3_Assemble_b1 m a0 a1 s.1 s.2) (v2, v3)

theorem f16_L1_bok {a0 : List G_QChunk} {a1 : Int} {v2 : List Int} {v3 : Int} {m : Option Nat} {o : ((List Int) × Int) ⊕ ((List Int) × Bool)} (h : S_glossatorref3_Assemble_b1 m a0 a1 v2 v3 = some o) :
    LWp Try.prog f16_lay 0 f16_c0 (BodyQ 0 1 (f16_L1_env a0 a1) (f16_L1_hp a0 a1) (f16_L1_Q a0 a1) o) [(0, .isl 4 (a0.map e_QChunk) false), (1, .int .i64 a1), (6, .osl (0, 0) 1 (v2.map e_i64)), (7, .int .i64 v3)] [((0, 0), .tok)] 1 := by
  unfold S_glossatorref3_Assemble_b1 at h
  refine seqI ?_
  refine blockI ?_
  refine seqI ?_
  refine regI ?_
  obtain ⟨v5, h9, h⟩ := bind_some h
  refine PFn.call (f25_ok h9) (And.intro (Vw.same _ rfl) (And.intro (Vw.same _ rfl) (And.intro (Vw.same _ rfl) trivial))) ?_
  refine LWp.sim (e := [(0, .isl 4 (a0.map e_QChunk) false), (1, .int .i64 a1), (6, .osl (0, 0) 1 (v2.map e_i64)), (7, .int .i64 v3), (8, .ptr (1, 0) 0 0), (9, .bool v5.2)]) (L := [((0, 0), .tok), ((1, 0), .one [.int .i64 v5.1.f_Token, .int .i64 v5.1.f_Seq, .bool v5.1.f_Last, .isl 1 (v5.1.f_Items.map e_i64) false])]) (n := 2) ?_ ?_
  · exact simI (M := [((0, 0), (0, 0)), ((1, 0), (1, 0))]) rfl (And.intro (Vw.same _ rfl) (And.intro (Vw.same _ rfl) (And.intro (Vw.osl _ _ _ _ rfl) (And.intro (Vw.same _ rfl) (And.intro (Vw.ptr _ _ _ _ rfl) (And.intro (Vw.same _ rfl) trivial)))))) (And.intro (And.intro rfl BVw.tok) (And.intro (And.intro rfl (BVw.oneL (And.intro (Vw.same _ rfl) (And.intro (Vw.same _ rfl) (And.intro (Vw.same _ rfl) (And.intro (Vw.same _ rfl) trivial)))))) trivial))
  refine seqI ?_
  refine seqI ?_
  refine regI ?_
  refine condI (v := (!v5.2)) rfl trivial (fun h10 => ?_) (fun h10 => ?_)
  · have h := ite_tt h10 h
    refine seqI ?_
    refine regI ?_
    refine retI ?_
    obtain ⟨o, hq, rfl⟩ := Option.map_eq_some_iff.1 h
    replace h := hq; clear hq
    refine And.intro nofun ?_
    cases h
    exact And.intro trivial (And.intro trivial (And.intro rfl (Vw.tupL (And.intro (Vw.nilI _ _) (And.intro (Vw.same _ rfl) trivial)))))
  · have h := ite_ff h10 h
    refine skipI ?_
    refine seqI ?_
    refine regI ?_
    obtain ⟨h11, h⟩ := ite_some h
    refine Exists.intro ((v2 ++ v5.1.f_Items).map e_i64) (And.intro (app_enc e_i64 v2 v5.1.f_Items) (And.intro h11 ?_))
    refine seqI ?_
    refine regI ?_
    refine LWp.sim (e := [(0, .isl 4 (a0.map e_QChunk) false), (1, .int .i64 a1), (6, .osl (0, 0) 1 ((v2 ++ v5.1.f_Items).map e_i64)), (7, .int .i64 v3), (26, .bool v5.1.f_Last)]) (L := [((0, 0), .tok)]) (n := 1) ?_ ?_
    · exact simI (M := [((0, 0), (2, 0))]) rfl (And.intro (Vw.same _ rfl) (And.intro (Vw.same _ rfl) (And.intro (Vw.osl _ _ _ _ rfl) (And.intro (Vw.same _ rfl) (And.intro (Vw.same _ rfl) trivial))))) (And.intro (And.intro rfl BVw.tok) trivial)
    refine condI (v := v5.1.f_Last) rfl trivial (fun h12 => ?_) (fun h12 => ?_)
    · have h := ite_tt h12 h
      refine seqI ?_
      refine regI ?_
      refine retI ?_
      obtain ⟨o, hq, rfl⟩ := Option.map_eq_some_iff.1 h
      replace h := hq; clear hq
      refine And.intro nofun ?_
      cases h
      exact And.intro trivial (And.intro trivial (And.intro rfl (Vw.tupL (And.intro (Vw.oslI _ _ _) (And.intro (Vw.same _ rfl) trivial)))))
    · have h := ite_ff h12 h
      refine skipI ?_
      refine regI ?_
      cases h
      exact And.intro rfl (simI (M := [((0, 0), (0, 0))]) rfl (And.intro (Vw.same _ rfl) (And.intro (Vw.same _ rfl) (And.intro (Vw.osl _ _ _ _ rfl) (And.intro (Vw.same _ rfl) trivial)))) (And.intro (And.intro rfl BVw.tok) trivial))

theorem f16_L1_ok {a0 : List G_QChunk} {a1 : Int} {v2 : List Int} {v3 : Int} {m : Option Nat} {o : ((List Int) × Bool)} (h : S_glossatorref3_Assemble_l1 m a0 a1 v2 v3 = some o) :
    LWp Try.prog f16_lay 0 (.loop f16_c0) (QBlock 0 (f16_Q a0 a1 o)) [(0, .isl 4 (a0.map e_QChunk) false), (1, .int .i64 a1), (6, .osl (0, 0) 1 (v2.map e_i64)), (7, .int .i64 v3)] [((0, 0), .tok)] 1 :=
  LWp_loopM (m := m) (s := ((v2, v3) : ((List Int) × Int))) (r := o) (fun (s : ((List Int) × Int)) => S_glossatorref3_Assemble_b1 m a0 a1 s.1 s.2) (f16_L1_env a0 a1) (f16_L1_hp a0 a1) (f16_L1_Q a0 a1) (fun s o h => f16_L1_bok h) h

noncomputable def S_glossatorref3_Assemble (m : Option Nat) (a0 : List G_QChunk) (a1 : Int) : Option ((List Int) × Bool) :=
  S_glossatorref3_Assemble_l1 m a0 a1 [] 0

theorem f16_start {a0 : List G_QChunk} {a1 : Int} {m : Option Nat} {o : (List Int) × Bool} (h : S_glossatorref3_Assemble m a0 a1 = some o) : LWp Try.prog f16_lay 0 f16_c1 (f16_Q a0 a1 o) (initEnv 0 [.isl 4 (a0.map e_QChunk) false, .int .i64 a1]) [] 0 := by
  unfold S_glossatorref3_Assemble at h
  refine seqI ?_
  refine regI ?_
  refine seqI ?_
  refine regI ?_
  refine seqI ?_
  refine regI ?_
  refine blockI ?_
  refine LWp.sim ?_ (f16_L1_ok h)
  exact simI (M := []) rfl (And.intro (Vw.same _ rfl) (And.intro (Vw.same _ rfl) (And.intro (Vw.nilO _ _ (by decide)) (And.intro (Vw.same _ rfl) trivial)))) (And.intro (And.intro rfl (And.intro (by decide) (by decide))) trivial)

theorem f16_ok {a0 : List G_QChunk} {a1 : Int} {m : Option Nat} {o : (List Int) × Bool} (h : S_glossatorref3_Assemble m a0 a1 = some o) : PFn Try.prog 16 [.isl 4 (a0.map e_QChunk) false, .int .i64 a1] (.tup [.isl 1 (o.1.map e_i64) false, .bool o.2]) := PFn.ofFnW (L := f16_L) f16_low f16_fok (Nat.le_of_ble_eq_true rfl) rfl (f16_start h)

def f18_c1 : LCode := (.region [⟨some 26, .bin .add (.t 14) (.c (.int .i64 1)), none⟩,
   ⟨some 14, .mv (.t 26), none⟩])
def f18_c2 : LCode := (.seq (.region [⟨some 15, .bin .lss (.t 14) (.t 13), none⟩])
 (.seq (.cond (.t 15)
  .skip
  (.exit 0))
 (.seq (.block 1
  (.seq (.region [⟨some 16, .iaddr 4 (.t 12) (.t 14), none⟩,
    ⟨some 17, .load true 4 (.t 16), none⟩,
    ⟨some 7, .alloc [(.int .i64 0), (.int .i64 0), (.bool false), (.isl 1 [] true)], none⟩,
    ⟨none, .store 4 (.t 7) (.t 17), none⟩])
  (.seq (.region [⟨some 18, .faddr 0 (.t 7), none⟩,
    ⟨some 19, .load false 1 (.t 18), none⟩,
    ⟨some 20, .mv (.t 1), none⟩,
    ⟨some 21, .bin .eql (.t 19) (.t 20), none⟩])
  (.cond (.t 21)
   (.region [⟨some 22, .mv (.t 5), none⟩,
     ⟨some 23, .faddr 1 (.t 7), none⟩,
     ⟨some 24, .load false 1 (.t 23), none⟩,
     ⟨some 25, .mnx true [(.t 22), (.t 24)], none⟩,
     ⟨some 5, .mv (.t 25), none⟩])
   .skip))))
 f18_c1)))
def f18_c4 : LCode := (.region [⟨some 30, .mv (.t 9), none⟩,
   ⟨some 31, .bin .add (.t 30) (.c (.int .i64 1)), none⟩,
   ⟨some 9, .mv (.t 31), none⟩])
def f18_c5 : LCode := (.seq (.seq (.region [⟨some 27, .mv (.t 9), none⟩,
   ⟨some 28, .mv (.t 5), none⟩,
   ⟨some 29, .bin .lss (.t 27) (.t 28), none⟩])
 (.cond (.t 29)
  .skip
  (.exit 2)))
 (.seq (.block 3
  (.seq (.region [⟨some 33, .mv (.t 0), none⟩,
    ⟨some 34, .mv (.t 1), none⟩,
    ⟨some 35, .mv (.t 9), none⟩,
    ⟨some 36, .call 25 [(.t 33), (.t 34), (.t 35)], none⟩,
    ⟨some 32, .mv (.t 36), none⟩,
    ⟨some 37, .ext 0 (.t 32), none⟩,
    ⟨some 38, .ext 1 (.t 32), none⟩,
    ⟨some 10, .alloc [(.int .i64 0), (.int .i64 0), (.bool false), (.isl 1 [] true)], none⟩,
    ⟨none, .store 4 (.t 10) (.t 37), none⟩,
    ⟨some 11, .mv (.t 38), none⟩])
  (.seq (.region [⟨some 39, .mv (.t 11), none⟩,
    ⟨some 40, .un .not (.t 39), none⟩])
  (.cond (.t 40)
   (.region [⟨some 41, .mv (.t 8), none⟩,
     ⟨some 42, .mv (.t 9), none⟩,
     ⟨some 43, .mkSl true 1 [(.int .i64 0)] 1 [(0, (.t 42))], none⟩,
     ⟨some 44, .app true 1 8 (.t 41) (.t 43), none⟩,
     ⟨some 8, .mv (.t 44), none⟩])
   .skip))))
 f18_c4))
def f18_c3 : LCode := (.seq (.region [⟨some 45, .mv (.t 8), none⟩,
   ⟨some 4, .mv (.t 45), none⟩])
 .ret)
def f18_c0 : LCode := (.seq (.region [⟨some 8, .mv (.c (.val (.slice none 0 0))), none⟩])
 (.seq (.seq (.region [⟨some 9, .mv (.c (.int .i64 0)), none⟩])
 (.block 2
  (.loop
   f18_c5)))
 f18_c3))
def f18_c6 : LCode := (.seq (.region [⟨some 4, .mv (.c (.val (.slice none 0 0))), none⟩])
 (.seq (.region [⟨some 5, .mv (.c (.int .i64 (-1))), none⟩])
 (.seq (.seq (.region [⟨some 12, .mv (.t 0), none⟩,
   ⟨some 13, .len false (.t 12), none⟩,
   ⟨some 14, .mv (.c (.int .i64 0)), none⟩])
 (.block 0
  (.loop
   f18_c2)))
 f18_c0)))
def f18_lay : Lay := ⟨46, [], false⟩
def f18_res : List LRes := [.t 4]
def f18_L : LFn := ⟨2, f18_lay, f18_c6, f18_res⟩
theorem f18_low : lowFn Try.prog [] 18 = some f18_L := by kernel_rfl
theorem f18_fok : FnOk Try.prog 18 := ⟨_, Try.func18, rfl, rfl⟩
def f18_Q (a0 : List G_QChunk) (a1 : Int) (o : (List Int)) : Exit → Env → AHeap → Nat → Prop := FinK f18_res (PureEnd (.isl 1 (o.map e_i64) false))

def f18_L1_env (a0 : List G_QChunk) (a1 : Int) (s : (Int × Int)) : Env := [(0, .isl 4 (a0.map e_QChunk) false), (1, .int .i64 a1), (5, .int .i64 s.1), (12, .isl 4 (a0.map e_QChunk) false), (13, .int .i64 ((a0.map e_QChunk).length : Int)), (14, .int .i64 s.2)]
def f18_L1_hp (a0 : List G_QChunk) (a1 : Int) (s : (Int × Int)) : AHeap := []
def f18_L1_Q (a0 : List G_QChunk) (a1 : Int) (o : (List Int)) : Exit → Env → AHeap → Nat → Prop := (QBlock 0 (QSeq Try.prog f18_lay 0 f18_c0 (f18_Q a0 a1 o)))

noncomputable def S_glossatorref3_Missing_j3 (m : Option Nat) (a0 : List G_QChunk) (a1 : Int) (v3 : Int) (v5 : Int) : Option ((Int × Int) ⊕ (List Int)) :=
  some (.inl (v5, (W (v3 + 1))))

theorem f18_j3_ok {a0 : List G_QChunk} {a1 : Int} {v3 : Int} {v5 : Int} {m : Option Nat} {o : ((Int × Int) ⊕ (List Int))} (h : S_glossatorref3_Missing_j3 m a0 a1 v3 v5 = some o) :
    LWp Try.prog f18_lay 0 f18_c1 (BodyQ 0 0 (f18_L1_env a0 a1) (f18_L1_hp a0 a1) (f18_L1_Q a0 a1) o) [(0, .isl 4 (a0.map e_QChunk) false), (1, .int .i64 a1), (5, .int .i64 v5), (12, .isl 4 (a0.map e_QChunk) false), (13, .int .i64 ((a0.map e_QChunk).length : Int)), (14, .int .i64 v3)] [] 0 := by
  unfold S_glossatorref3_Missing_j3 at h
  refine regI ?_
  cases h
  exact And.intro rfl (simI (M := []) rfl (And.intro (Vw.same _ rfl) (And.intro (Vw.same _ rfl) (And.intro (Vw.same _ rfl) (And.intro (Vw.same _ rfl) (And.intro (Vw.same _ rfl) (And.intro (Vw.same _ rfl) trivial)))))) trivial)

noncomputable def S_glossatorref3_Missing_j7 (m : Option Nat) (a0 : List G_QChunk) (a1 : Int) (v2 : Int) (v9 : Int) (v13 : List Int) : Option (((List Int) × Int) ⊕ (List Int)) :=
  some (.inl (v13, (W (v9 + 1))))

noncomputable def S_glossatorref3_Missing_j8 (m : Option Nat) (v8 : List Int) : Option (List Int) :=
  some v8

noncomputable def S_glossatorref3_Missing_b2 (m : Option Nat) (a0 : List G_QChunk) (a1 : Int) (v2 : Int) (v8 : List Int) (v9 : Int) : Option (((List Int) × Int) ⊕ (List Int)) :=
  if (decide (v9 < v2)) = true then
    (S_glossatorref3_chunk m a0 a1 v9).bind fun v12 =>
    if (!v12.2) = true then
      if ((v8 ++ ([v9] : List Int)).map e_i64).length * 8 ≤ 140737488355328 then
      S_glossatorref3_Missing_j7 m a0 a1 v2 v9 (v8 ++ ([v9] : List Int))
      else none
    else
      S_glossatorref3_Missing_j7 m a0 a1 v2 v9 v8
  else
    Option.map Sum.inr (
      S_glossatorref3_Missing_j8 m v8)

noncomputable def S_glossatorref3_Missing_l2 (m : Option Nat) (a0 : List G_QChunk) (a1 : Int) (v2 : Int) (v8 : List Int) (v9 : Int) : Option (List Int) := loopM m (fun (s : ((List Int) × Int)) => S_glossatorref3_Missing_b2 m a0 a1 v2 s.1 s.2) (v8, v9)

noncomputable def S_glossatorref3_Missing_j4 (m : Option Nat) (a0 : List G_QChunk) (a1 : Int) (v2 : Int) : Option (List Int) :=
  S_glossatorref3_Missing_l2 m a0 a1 v2 [] 0

noncomputable def S_glossatorref3_Missing_b1 (m : Option Nat) (a0 : List G_QChunk) (a1 : Int) (v2 : Int) (v3 : Int) : Option ((Int × Int) ⊕ (List Int)) :=
  if (decide (v3 < ((a0.map e_QChunk).length : Int))) = true then
    if (0 : Int) ≤ v3 ∧ v3 < ((a0.map e_QChunk).length : Int) then
    if ((a0.getD v3.toNat default).f_Token == a1) = true then
      S_glossatorref3_Missing_j3 m a0 a1 v3 (if (a0.getD v3.toNat default).f_Seq > v2 then (a0.getD v3.toNat default).f_Seq else v2)
    else
      S_glossatorref3_Missing_j3 m a0 a1 v3 v2
    else none
  else
    Option.map Sum.inr (
      S_glossatorref3_Missing_j4 m a0 a1 v2)

noncomputable def S_glossatorref3_Missing_l1 (m : Option Nat) (a0 : List G_QChunk) (a1 : Int) (v2 : Int) (v3 : Int) : Option (List Int) := loopM m (fun (s : (Int × Int)) => S_glossatorref3_Missing_b1 m a0 a1 s.1 s.2) (v2, v3)

def f18_L2_env (a0 : List G_QChunk) (a1 : Int) (v2 : Int) (s : ((List Int) × Int)) : Env := [(0, .isl 4 (a0.map e_QChunk) false), (1, .int .i64 a1), (5, .int .i64 v2), (8, .osl (0, 0) 1 (s.1.map e_i64)), (9, .int .i64 s.2)]
def f18_L2_hp (a0 : List G_QChunk) (a1 : Int) (v2 : Int) (s : ((List Int) × Int)) : AHeap := [((0, 0), .tok)]
def f18_L2_Q (a0 : List G_QChunk) (a1 : Int) (o : (List Int)) : Exit → Env → AHeap → Nat → Prop := (QBlock 2 (QSeq Try.prog f18_lay 0 f18_c3 (f18_Q a0 a1 o)))

theorem f18_j7_ok {a0 : List G_QChunk} {a1 : Int} {v2 : Int} {v9 : Int} {v13 : List Int} {m : Option Nat} {o : (((List Int) × Int) ⊕ (List Int))} (h : S_glossatorref3_Missing_j7 m a0 a1 v2 v9 v13 = some o) :
    LWp Try.prog f18_lay 0 f18_c4 (BodyQ 0 1 (f18_L2_env a0 a1 v2) (f18_L2_hp a0 a1 v2) (f18_L2_Q a0 a1) o) [(0, .isl 4 (a0.map e_QChunk) false), (1, .int .i64 a1), (5, .int .i64 v2), (8, .osl (0, 0) 1 (v13.map e_i64)), (9, .int .i64 v9)] [((0, 0), .tok)] 1 := by
  unfold S_glossatorref3_Missing_j7 at h
  refine regI ?_
  cases h
  exact And.intro rfl (simI (M := [((0, 0), (0, 0))]) rfl (And.intro (Vw.same _ rfl) (And.intro (Vw.same _ rfl) (And.intro (Vw.same _ rfl) (And.intro (Vw.osl _ _ _ _ rfl) (And.intro (Vw.same _ rfl) trivial))))) (And.intro (And.intro rfl BVw.tok) trivial))

theorem f18_j8_ok {a0 : List G_QChunk} {a1 : Int} {v8 : List Int} {m : Option Nat} {o : (List Int)} (h : S_glossatorref3_Missing_j8 m v8 = some o) :
    LWp Try.prog f18_lay 0 f18_c3 (f18_Q a0 a1 o) [(8, .osl (0, 0) 1 (v8.map e_i64))] [((0, 0), .tok)] 1 := by
  unfold S_glossatorref3_Missing_j8 at h
  refine seqI ?_
  refine regI ?_
  refine retI ?_
  cases h
  exact And.intro trivial (And.intro rfl (Vw.oslI _ _ _))

theorem f18_L2_bok {a0 : List G_QChunk} {a1 : Int} {v2 : Int} {v8 : List Int} {v9 : Int} {m : Option Nat} {o : ((List Int) × Int) ⊕ (List Int)} (h : S_glossatorref3_Missing_b2 m a0 a1 v2 v8 v9 = some o) :
    LWp Try.prog f18_lay 0 f18_c5 (BodyQ 0 1 (f18_L2_env a0 a1 v2) (f18_L2_hp a0 a1 v2) (f18_L2_Q a0 a1) o) [(0, .isl 4 (a0.map e_QChunk) false), (1, .int .i64 a1), (5, .int .i64 v2), (8, .osl (0, 0) 1 (v8.map e_i64)), (9, .int .i64 v9)] [((0, 0), .tok)] 1 := by
  unfold S_glossatorref3_Missing_b2 at h
  refine seqI ?_
  refine seqI ?_
  refine regI ?_
  refine condI (v := (decide (v9 < v2))) rfl trivial (fun h18 => ?_) (fun h18 => ?_)
  · have h := ite_tt h18 h
    refine skipI ?_
    refine seqI ?_
    refine blockI ?_
    refine seqI ?_
    refine regI ?_
    obtain ⟨v12, h19, h⟩ := bind_some h
    refine PFn.call (f25_ok h19) (And.intro (Vw.same _ rfl) (And.intro (Vw.same _ rfl) (And.intro (Vw.same _ rfl) trivial))) ?_
    show yops _ _ _ [(36, .tup [.agg [.int .i64 v12.1.f_Token, .int .i64 v12.1.f_Seq, .bool v12.1.f_Last, .isl 1 (v12.1.f_Items.map e_i64) false], .bool v12.2]), (35, .int .i64 v9), (34, .int .i64 a1), (33, .isl 4 (a0.map e_QChunk) false), (29, .bool (decide (v9 < v2))), (28, .int .i64 v2), (27, .int .i64 v9), (0, .isl 4 (a0.map e_QChunk) false), (1, .int .i64 a1), (5, .int .i64 v2), (8, .osl (0, 0) 1 (v8.map e_i64)), (9, .int .i64 v9)] _ _
    refine LWp.sim (e := [(0, .isl 4 (a0.map e_QChunk) false), (1, .int .i64 a1), (5, .int .i64 v2), (8, .osl (0, 0) 1 (v8.map e_i64)), (9, .int .i64 v9), (11, .bool v12.2)]) (L := [((0, 0), .tok)]) (n := 1) ?_ ?_
    · exact simI (M := [((0, 0), (0, 0))]) rfl (And.intro (Vw.same _ rfl) (And.intro (Vw.same _ rfl) (And.intro (Vw.same _ rfl) (And.intro (Vw.osl _ _ _ _ rfl) (And.intro (Vw.same _ rfl) (And.intro (Vw.same _ rfl) trivial)))))) (And.intro (And.intro rfl BVw.tok) trivial)
    refine seqI ?_
    refine regI ?_
    refine condI (v := (!v12.2)) rfl trivial (fun h20 => ?_) (fun h20 => ?_)
    · have h := ite_tt h20 h
      refine regI ?_
      obtain ⟨h21, h⟩ := ite_some h
      refine Exists.intro ((v8 ++ ([v9] : List Int)).map e_i64) (And.intro (app_enc e_i64 v8 ([v9] : List Int)) (And.intro h21 ?_))
      refine LWp.sim ?_ (f18_j7_ok h)
      exact simI (M := [((0, 0), (1, 0))]) rfl (And.intro (Vw.same _ rfl) (And.intro (Vw.same _ rfl) (And.intro (Vw.same _ rfl) (And.intro (Vw.osl _ _ _ _ rfl) (And.intro (Vw.same _ rfl) trivial))))) (And.intro (And.intro rfl BVw.tok) trivial)
    · have h := ite_ff h20 h
      refine skipI ?_
      refine LWp.sim ?_ (f18_j7_ok h)
      exact simI (M := [((0, 0), (0, 0))]) rfl (And.intro (Vw.same _ rfl) (And.intro (Vw.same _ rfl) (And.intro (Vw.same _ rfl) (And.intro (Vw.osl _ _ _ _ rfl) (And.intro (Vw.same _ rfl) trivial))))) (And.intro (And.intro rfl BVw.tok) trivial)
  · have h := ite_ff h18 h
    refine exitI ?_
    obtain ⟨o, hq, rfl⟩ := Option.map_eq_some_iff.1 h
    replace h := hq; clear hq
    refine And.intro nofun ?_
    refine LWp.sim ?_ (f18_j8_ok h)
    exact simI (M := [((0, 0), (0, 0))]) rfl (And.intro (Vw.osl _ _ _ _ rfl) trivial) (And.intro (And.intro rfl BVw.tok) trivial)

theorem f18_L2_ok {a0 : List G_QChunk} {a1 : Int} {v2 : Int} {v8 : List Int} {v9 : Int} {m : Option Nat} {o : (List Int)} (h : S_glossatorref3_Missing_l2 m a0 a1 v2 v8 v9 = some o) :
    LWp Try.prog f18_lay 0 (.loop f18_c5) (QBlock 2 (QSeq Try.prog f18_lay 0 f18_c3 (f18_Q a0 a1 o))) [(0, .isl 4 (a0.map e_QChunk) false), (1, .int .i64 a1), (5, .int .i64 v2), (8, .osl (0, 0) 1 (v8.map e_i64)), (9, .int .i64 v9)] [((0, 0), .tok)] 1 :=
  LWp_loopM (m := m) (s := ((v8, v9) : ((List Int) × Int))) (r := o) (fun (s : ((List Int) × Int)) => S_glossatorref3_Missing_b2 m a0 a1 v2 s.1 s.2) (f18_L2_env a0 a1 v2) (f18_L2_hp a0 a1 v2) (f18_L2_Q a0 a1) (fun s o h => f18_L2_bok h) h

theorem f18_j4_ok {a0 : List G_QChunk} {a1 : Int} {v2 : Int} {m : Option Nat} {o : (List Int)} (h : S_glossatorref3_Missing_j4 m a0 a1 v2 = some o) :
    LWp Try.prog f18_lay 0 f18_c0 (f18_Q a0 a1 o) [(0, .isl 4 (a0.map e_QChunk) false), (1, .int .i64 a1), (5, .int .i64 v2)] [] 0 := by
  unfold S_glossatorref3_Missing_j4 at h
  refine seqI ?_
  refine regI ?_
  refine seqI ?_
  refine seqI ?_
  refine regI ?_
  refine blockI ?_
  refine LWp.sim ?_ (f18_L2_ok h)
  exact simI (M := []) rfl (And.intro (Vw.same _ rfl) (And.intro (Vw.same _ rfl) (And.intro (Vw.same _ rfl) (And.intro (Vw.nilO _ _ (by decide)) (And.intro (Vw.same _ rfl) trivial))))) (And.intro (And.intro rfl (And.intro (by decide) (by decide))) trivial)

theorem f18_L1_bok {a0 : List G_QChunk} {a1 : Int} {v2 : Int} {v3 : Int} {m : Option Nat} {o : (Int × Int) ⊕ (List Int)} (h : S_glossatorref3_Missing_b1 m a0 a1 v2 v3 = some o) :
    LWp Try.prog f18_lay 0 f18_c2 (BodyQ 0 0 (f18_L1_env a0 a1) (f18_L1_hp a0 a1) (f18_L1_Q a0 a1) o) [(0, .isl 4 (a0.map e_QChunk) false), (1, .int .i64 a1), (5, .int .i64 v2), (12, .isl 4 (a0.map e_QChunk) false), (13, .int .i64 ((a0.map e_QChunk).length : Int)), (14, .int .i64 v3)] [] 0 := by
  unfold S_glossatorref3_Missing_b1 at h
  refine seqI ?_
  refine regI ?_
  refine seqI ?_
  refine condI (v := (decide (v3 < ((a0.map e_QChunk).length : Int)))) rfl trivial (fun h7 => ?_) (fun h7 => ?_)
  · have h := ite_tt h7 h
    refine skipI ?_
    refine seqI ?_
    refine blockI ?_
    refine seqI ?_
    refine regI ?_
    obtain ⟨h8, h⟩ := ite_some h
    refine And.intro h8 ?_
    refine Exists.intro (e_QChunk (a0.getD v3.toNat default)) (And.intro (getD_enc e_QChunk _ _ (idx_ltL e_QChunk h8)) (And.intro (And.intro (idx_lt h8) (Nat.le_of_ble_eq_true rfl)) ?_))
    refine seqI ?_
    refine regI ?_
    refine LWp.sim (e := [(0, .isl 4 (a0.map e_QChunk) false), (1, .int .i64 a1), (5, .int .i64 v2), (7, .ptr (0, 0) 0 0), (12, .isl 4 (a0.map e_QChunk) false), (13, .int .i64 ((a0.map e_QChunk).length : Int)), (14, .int .i64 v3), (21, .bool ((a0.getD v3.toNat default).f_Token == a1))]) (L := [((0, 0), .one [.int .i64 ((a0.getD v3.toNat default).f_Token), .int .i64 ((a0.getD v3.toNat default).f_Seq), .bool ((a0.getD v3.toNat default).f_Last), .isl 1 (((a0.getD v3.toNat default).f_Items).map e_i64) false])]) (n := 1) ?_ ?_
    · exact simI (M := [((0, 0), (0, 0))]) rfl (And.intro (Vw.same _ rfl) (And.intro (Vw.same _ rfl) (And.intro (Vw.same _ rfl) (And.intro (Vw.ptr _ _ _ _ rfl) (And.intro (Vw.same _ rfl) (And.intro (Vw.same _ rfl) (And.intro (Vw.same _ rfl) (And.intro (Vw.same _ rfl) trivial)))))))) (And.intro (And.intro rfl (BVw.oneL (And.intro (Vw.same _ rfl) (And.intro (Vw.same _ rfl) (And.intro (Vw.same _ rfl) (And.intro (Vw.same _ rfl) trivial)))))) trivial)
    refine condI (v := ((a0.getD v3.toNat default).f_Token == a1)) rfl trivial (fun h9 => ?_) (fun h9 => ?_)
    · have h := ite_tt h9 h
      refine regI ?_
      refine LWp.sim ?_ (f18_j3_ok h)
      exact simI (M := []) rfl (And.intro (Vw.same _ rfl) (And.intro (Vw.same _ rfl) (And.intro (Vw.same _ rfl) (And.intro (Vw.same _ rfl) (And.intro (Vw.same _ rfl) (And.intro (Vw.same _ rfl) trivial)))))) trivial
    · have h := ite_ff h9 h
      refine skipI ?_
      refine LWp.sim ?_ (f18_j3_ok h)
      exact simI (M := []) rfl (And.intro (Vw.same _ rfl) (And.intro (Vw.same _ rfl) (And.intro (Vw.same _ rfl) (And.intro (Vw.same _ rfl) (And.intro (Vw.same _ rfl) (And.intro (Vw.same _ rfl) trivial)))))) trivial
  · have h := ite_ff h7 h
    refine exitI ?_
    obtain ⟨o, hq, rfl⟩ := Option.map_eq_some_iff.1 h
    replace h := hq; clear hq
    refine And.intro nofun ?_
    refine LWp.sim ?_ (f18_j4_ok h)
    exact simI (M := []) rfl (And.intro (Vw.same _ rfl) (And.intro (Vw.same _ rfl) (And.intro (Vw.same _ rfl) trivial))) trivial

theorem f18_L1_ok {a0 : List G_QChunk} {a1 : Int} {v2 : Int} {v3 : Int} {m : Option Nat} {o : (List Int)} (h : S_glossatorref3_Missing_l1 m a0 a1 v2 v3 = some o) :
    LWp Try.prog f18_lay 0 (.loop f18_c2) (QBlock 0 (QSeq Try.prog f18_lay 0 f18_c0 (f18_Q a0 a1 o))) [(0, .isl 4 (a0.map e_QChunk) false), (1, .int .i64 a1), (5, .int .i64 v2), (12, .isl 4 (a0.map e_QChunk) false), (13, .int .i64 ((a0.map e_QChunk).length : Int)), (14, .int .i64 v3)] [] 0 :=
  LWp_loopM (m := m) (s := ((v2, v3) : (Int × Int))) (r := o) (fun (s : (Int × Int)) => S_glossatorref3_Missing_b1 m a0 a1 s.1 s.2) (f18_L1_env a0 a1) (f18_L1_hp a0 a1) (f18_L1_Q a0 a1) (fun s o h => f18_L1_bok h) h

noncomputable def S_glossatorref3_Missing (m : Option Nat) (a0 : List G_QChunk) (a1 : Int) : Option (List Int) :=
  S_glossatorref3_Missing_l1 m a0 a1 (-1) 0

theorem f18_start {a0 : List G_QChunk} {a1 : Int} {m : Option Nat} {o : (List Int)} (h : S_glossatorref3_Missing m a0 a1 = some o) : LWp Try.prog f18_lay 0 f18_c6 (f18_Q a0 a1 o) (initEnv 0 [.isl 4 (a0.map e_QChunk) false, .int .i64 a1]) [] 0 := by
  unfold S_glossatorref3_Missing at h
  refine seqI ?_
  refine regI ?_
  refine seqI ?_
  refine regI ?_
  refine seqI ?_
  refine seqI ?_
  refine regI ?_
  refine blockI ?_
  refine LWp.sim ?_ (f18_L1_ok h)
  exact simI (M := []) rfl (And.intro (Vw.same _ rfl) (And.intro (Vw.same _ rfl) (And.intro (Vw.same _ rfl) (And.intro (Vw.same _ rfl) (And.intro (Vw.same _ rfl) (And.intro (Vw.same _ rfl) trivial)))))) trivial

theorem f18_ok {a0 : List G_QChunk} {a1 : Int} {m : Option Nat} {o : (List Int)} (h : S_glossatorref3_Missing m a0 a1 = some o) : PFn Try.prog 18 [.isl 4 (a0.map e_QChunk) false, .int .i64 a1] (.isl 1 (o.map e_i64) false) := PFn.ofFnW (L := f18_L) f18_low f18_fok (Nat.le_of_ble_eq_true rfl) rfl (f18_start h)

def f4_c1 : LCode := (.seq (.region [⟨some 30, .bin .lss (.t 29) (.t 28), none⟩])
 (.seq (.cond (.t 30)
  .skip
  (.exit 0))
 (.seq (.block 1
  (.seq (.region [⟨some 31, .iaddr 4 (.t 27) (.t 29), none⟩,
    ⟨some 32, .load true 4 (.t 31), none⟩,
    ⟨some 8, .alloc [(.int .i64 0), (.int .i64 0), (.bool false), (.isl 1 [] true)], none⟩,
    ⟨none, .store 4 (.t 8) (.t 32), none⟩])
  (.seq (.region [⟨some 34, .mv (.t 5), none⟩,
    ⟨some 35, .load true 4 (.t 8), none⟩,
    ⟨some 36, .call 13 [(.t 34), (.t 35)], none⟩,
    ⟨some 33, .mv (.t 36), none⟩,
    ⟨some 37, .ext 0 (.t 33), none⟩,
    ⟨some 38, .ext 1 (.t 33), none⟩,
    ⟨some 9, .mv (.t 37), none⟩,
    ⟨some 10, .mv (.t 38), none⟩])
  (.seq (.region [⟨some 40, .mv (.t 6), none⟩,
    ⟨some 41, .load true 4 (.t 8), none⟩,
    ⟨some 42, .call 14 [(.t 40), (.t 41)], none⟩,
    ⟨some 39, .mv (.t 42), none⟩,
    ⟨some 43, .ext 0 (.t 39), none⟩,
    ⟨some 44, .ext 1 (.t 39), none⟩,
    ⟨some 45, .ext 2 (.t 39), none⟩,
    ⟨some 11, .mv (.t 43), none⟩,
    ⟨some 12, .mv (.t 44), none⟩,
    ⟨some 13, .mv (.t 45), none⟩])
  (.seq (.seq (.region [⟨some 46, .mv (.t 9), none⟩,
    ⟨some 47, .mv (.t 12), none⟩,
    ⟨some 48, .eq true .bool (.t 46) (.t 47), none⟩,
    ⟨some 49, .mv (.t 48), none⟩,
    ⟨some 50, .mv (.t 10), some (49, false)⟩,
    ⟨some 51, .mv (.t 13), some (49, false)⟩,
    ⟨some 52, .bin .neq (.t 50) (.t 51), some (49, false)⟩,
    ⟨some 53, .pick (.t 49) (.c (.bool true)) (.t 52), none⟩])
  (.cond (.t 53)
   (.seq (.region [⟨some 4, .mv (.c (.bool false)), none⟩])
   .ret)
   .skip))
  (.region [⟨some 54, .mv (.t 11), none⟩,
    ⟨some 6, .mv (.t 54), none⟩]))))))
 (.region [⟨some 55, .bin .add (.t 29) (.c (.int .i64 1)), none⟩,
   ⟨some 29, .mv (.t 55), none⟩]))))
def f4_c0 : LCode := (.seq (.region [⟨some 57, .mv (.t 5), none⟩,
   ⟨some 58, .mv (.t 1), none⟩,
   ⟨some 59, .call 15 [(.t 57), (.t 58)], none⟩,
   ⟨some 56, .mv (.t 59), none⟩,
   ⟨some 60, .ext 0 (.t 56), none⟩,
   ⟨some 61, .ext 1 (.t 56), none⟩,
   ⟨some 14, .mv (.t 60), none⟩,
   ⟨some 15, .mv (.t 61), none⟩])
 (.seq (.region [⟨some 63, .mv (.t 6), none⟩,
   ⟨some 64, .mv (.t 1), none⟩,
   ⟨some 65, .call 16 [(.t 63), (.t 64)], none⟩,
   ⟨some 62, .mv (.t 65), none⟩,
   ⟨some 66, .ext 0 (.t 62), none⟩,
   ⟨some 67, .ext 1 (.t 62), none⟩,
   ⟨some 16, .mv (.t 66), none⟩,
   ⟨some 17, .mv (.t 67), none⟩])
 (.seq (.region [⟨some 68, .call 5 [], none⟩,
   ⟨some 69, .mv (.t 68), none⟩,
   ⟨some 70, .mv (.t 15), some (69, true)⟩,
   ⟨some 71, .mv (.t 17), some (69, true)⟩,
   ⟨some 72, .eq false .bool (.t 70) (.t 71), some (69, true)⟩,
   ⟨some 73, .pick (.t 69) (.t 72) (.c (.bool false)), none⟩,
   ⟨some 74, .mv (.t 73), none⟩,
   ⟨some 75, .mv (.t 14), some (74, true)⟩,
   ⟨some 76, .mv (.t 16), some (74, true)⟩,
   ⟨some 77, .call 10 [(.t 75), (.t 76)], some (74, true)⟩,
   ⟨some 78, .pick (.t 74) (.t 77) (.c (.bool false)), none⟩,
   ⟨some 79, .mv (.t 78), none⟩,
   ⟨some 80, .mv (.t 5), some (79, true)⟩,
   ⟨some 81, .mv (.t 1), some (79, true)⟩,
   ⟨some 82, .call 17 [(.t 80), (.t 81)], some (79, true)⟩,
   ⟨some 83, .mv (.t 6), some (79, true)⟩,
   ⟨some 84, .mv (.t 1), some (79, true)⟩,
   ⟨some 85, .call 18 [(.t 83), (.t 84)], some (79, true)⟩,
   ⟨some 86, .call 10 [(.t 82), (.t 85)], some (79, true)⟩,
   ⟨some 87, .pick (.t 79) (.t 86) (.c (.bool false)), none⟩,
   ⟨some 4, .mv (.t 87), none⟩])
 .ret)))
def f4_c2 : LCode := (.seq (.region [⟨some 4, .mv (.c (.bool false)), none⟩])
 (.seq (.seq (.region [⟨some 18, .call 5 [], none⟩,
   ⟨some 19, .un .not (.t 18), none⟩])
 (.cond (.t 19)
  (.seq (.region [⟨some 4, .mv (.c (.bool false)), none⟩])
  .ret)
  .skip))
 (.seq (.region [⟨some 20, .call 12 [], none⟩,
   ⟨some 5, .mv (.t 20), none⟩])
 (.seq (.seq (.region [⟨some 21, .mv (.t 5), none⟩,
   ⟨some 22, .eq false .ptr (.t 21) (.c (.val (.pointer none))), none⟩])
 (.cond (.t 22)
  (.seq (.region [⟨some 4, .mv (.c (.bool false)), none⟩])
  .ret)
  .skip))
 (.seq (.region [⟨some 6, .mv (.c (.val (.slice none 0 0))), none⟩])
 (.seq (.seq (.region [⟨some 23, .mv (.t 0), none⟩,
   ⟨some 24, .mv (.t 0), none⟩,
   ⟨some 25, .len false (.t 24), none⟩,
   ⟨some 26, .mnx false [(.t 25), (.c (.int .i64 30))], none⟩,
   ⟨some 27, .slSl 4 (.t 23) none (some (.t 26)) none, none⟩,
   ⟨some 28, .len false (.t 27), none⟩,
   ⟨some 29, .mv (.c (.int .i64 0)), none⟩])
 (.block 0
  (.loop
   f4_c1)))
 f4_c0))))))
def f4_lay : Lay := ⟨88, [], false⟩
def f4_res : List LRes := [.t 4]
def f4_L : LFn := ⟨2, f4_lay, f4_c2, f4_res⟩
theorem f4_low : lowFn Try.prog [] 4 = some f4_L := by kernel_rfl
theorem f4_fok : FnOk Try.prog 4 := ⟨_, Try.func4, rfl, rfl⟩
def f4_Q (a0 : List G_QChunk) (a1 : Int) (o : Bool) : Exit → Env → AHeap → Nat → Prop := FinK f4_res (PureEnd (.bool o))

def f4_L1_env (a0 : List G_QChunk) (a1 : Int) (s : ((List G_QChunk) × Int × SAsm)) : Env := [(1, .int .i64 a1), (5, .ptr (1, 0) 0 0), (6, .isl 4 (s.1.map e_QChunk) false), (27, .isl 4 ((a0.take (if 30 < ((a0.map e_QChunk).length : Int) then 30 else ((a0.map e_QChunk).length : Int)).toNat).map e_QChunk) false), (28, .int .i64 (((a0.take (if 30 < ((a0.map e_QChunk).length : Int) then 30 else ((a0.map e_QChunk).length : Int)).toNat).map e_QChunk).length : Int)), (29, .int .i64 s.2.1)]
def f4_L1_hp (a0 : List G_QChunk) (a1 : Int) (s : ((List G_QChunk) × Int × SAsm)) : AHeap := ([] ++ up 3 (hcA s.2.2))
def f4_L1_Q (a0 : List G_QChunk) (a1 : Int) (o : Bool) : Exit → Env → AHeap → Nat → Prop := (QBlock 0 (QSeq Try.prog f4_lay 0 f4_c0 (f4_Q a0 a1 o)))

noncomputable def S_glossatorlaw3_ProgressAssembler_j1 (m : Option Nat) (a1 : Int) (v5 : List G_QChunk) (v7 : SAsm) : Option Bool :=
  (gResultS m v7 a1).bind fun v12 =>
  (S_glossatorref3_Assemble m v5 a1).bind fun v13 =>
  (S_glossatorlaw3_chunkExample (some 4096)).bind fun v14 =>
  (if ((v14 && (v12.1.2 == v13.2)) == true) = true then S_glossatorref3_Equal_int m v12.1.1 v13.1 else some default).bind fun v15 =>
  (if (((v14 && (v12.1.2 == v13.2)) && v15) == true) = true then gMissing m v12.2 a1 else some default).bind fun v16 =>
  (if (((v14 && (v12.1.2 == v13.2)) && v15) == true) = true then S_glossatorref3_Missing m v5 a1 else some default).bind fun v17 =>
  (if (((v14 && (v12.1.2 == v13.2)) && v15) == true) = true then S_glossatorref3_Equal_int m v16 v17 else some default).bind fun v18 =>
  some (((v14 && (v12.1.2 == v13.2)) && v15) && v18)

noncomputable def S_glossatorlaw3_ProgressAssembler_b1 (m : Option Nat) (a0 : List G_QChunk) (a1 : Int) (v5 : List G_QChunk) (v6 : Int) (v7 : SAsm) : Option (((List G_QChunk) × Int × SAsm) ⊕ Bool) :=
  if (decide (v6 < (((a0.take (if 30 < ((a0.map e_QChunk).length : Int) then 30 else ((a0.map e_QChunk).length : Int)).toNat).map e_QChunk).length : Int))) = true then
    if (0 : Int) ≤ v6 ∧ v6 < (((a0.take (if 30 < ((a0.map e_QChunk).length : Int) then 30 else ((a0.map e_QChunk).length : Int)).toNat).map e_QChunk).length : Int) then
    (gAdd m v7 (G_QChunk.mk (((a0.take (if 30 < ((a0.map e_QChunk).length : Int) then 30 else ((a0.map e_QChunk).length : Int)).toNat).getD v6.toNat default).f_Token) (((a0.take (if 30 < ((a0.map e_QChunk).length : Int) then 30 else ((a0.map e_QChunk).length : Int)).toNat).getD v6.toNat default).f_Seq) (((a0.take (if 30 < ((a0.map e_QChunk).length : Int) then 30 else ((a0.map e_QChunk).length : Int)).toNat).getD v6.toNat default).f_Last) (((a0.take (if 30 < ((a0.map e_QChunk).length : Int) then 30 else ((a0.map e_QChunk).length : Int)).toNat).getD v6.toNat default).f_Items))).bind fun v10 =>
    (S_glossatorref3_AddChunk m v5 (G_QChunk.mk (((a0.take (if 30 < ((a0.map e_QChunk).length : Int) then 30 else ((a0.map e_QChunk).length : Int)).toNat).getD v6.toNat default).f_Token) (((a0.take (if 30 < ((a0.map e_QChunk).length : Int) then 30 else ((a0.map e_QChunk).length : Int)).toNat).getD v6.toNat default).f_Seq) (((a0.take (if 30 < ((a0.map e_QChunk).length : Int) then 30 else ((a0.map e_QChunk).length : Int)).toNat).getD v6.toNat default).f_Last) (((a0.take (if 30 < ((a0.map e_QChunk).length : Int) then 30 else ((a0.map e_QChunk).length : Int)).toNat).getD v6.toNat default).f_Items))).bind fun v11 =>
    if ((!(v10.1.1 == v11.2.1)) || (v10.1.2 != v11.2.2)) = true then
      Option.map Sum.inr (
        some false)
    else
      some (.inl (v11.1, (W (v6 + 1)), v10.2))
    else none
  else
    Option.map Sum.inr (
      S_glossatorlaw3_ProgressAssembler_j1 m a1 v5 v7)

noncomputable def S_glossatorlaw3_ProgressAssembler_l1 (m : Option Nat) (a0 : List G_QChunk) (a1 : Int) (v5 : List G_QChunk) (v6 : Int) (v7 : SAsm) : Option Bool := loopM m (fun (s : ((List G_QChunk) × Int × SAsm)) => S_glossatorlaw3_ProgressAssembler_b1 m a0 a1 s.1 s.2.1 s.2.2) (v5, v6, v7)

theorem f4_j1_ok {a0 : List G_QChunk} {a1 : Int} {v5 : List G_QChunk} {v7 : SAsm} {m : Option Nat} {o : Bool} (h : S_glossatorlaw3_ProgressAssembler_j1 m a1 v5 v7 = some o) :
    LWp Try.prog f4_lay 0 f4_c0 (f4_Q a0 a1 o) [(1, .int .i64 a1), (5, .ptr (1, 0) 0 0), (6, .isl 4 (v5.map e_QChunk) false)] ([] ++ up 3 (hcA v7)) 4 := by
  unfold S_glossatorlaw3_ProgressAssembler_j1 at h
  refine seqI ?_
  refine regI ?_
  obtain ⟨v12, h20, h⟩ := bind_some h
  refine Clo.useM (q := 3) (lit := []) (cloResult m) h20 rfl rfl (And.intro (Vw.same _ rfl) trivial) ?_
  refine LWp.sim (e := [(1, .int .i64 a1), (5, .ptr (1, 0) 0 0), (6, .isl 4 (v5.map e_QChunk) false), (14, .isl 1 (v12.1.1.map e_i64) false), (15, .bool v12.1.2)]) (L := ([] ++ up 3 (hcA v12.2))) (n := 4) ?_ ?_
  · exact simT0 (M := []) (lit' := []) (tlA _) rfl (And.intro (Vw.same _ rfl) (And.intro (Vw.ptr _ _ _ _ rfl) (And.intro (Vw.same _ rfl) (And.intro (Vw.same _ rfl) (And.intro (Vw.same _ rfl) trivial))))) trivial
  refine seqI ?_
  refine regI ?_
  obtain ⟨v13, h21, h⟩ := bind_some h
  refine PFn.call (f16_ok h21) (And.intro (Vw.same _ rfl) (And.intro (Vw.same _ rfl) trivial)) ?_
  refine LWp.sim (e := [(1, .int .i64 a1), (5, .ptr (1, 0) 0 0), (6, .isl 4 (v5.map e_QChunk) false), (14, .isl 1 (v12.1.1.map e_i64) false), (15, .bool v12.1.2), (16, .isl 1 (v13.1.map e_i64) false), (17, .bool v13.2)]) (L := ([] ++ up 3 (hcA v12.2))) (n := 4) ?_ ?_
  · exact simT0 (M := []) (lit' := []) (tlA _) rfl (And.intro (Vw.same _ rfl) (And.intro (Vw.ptr _ _ _ _ rfl) (And.intro (Vw.same _ rfl) (And.intro (Vw.same _ rfl) (And.intro (Vw.same _ rfl) (And.intro (Vw.same _ rfl) (And.intro (Vw.same _ rfl) trivial))))))) trivial
  refine seqI ?_
  refine regI ?_
  obtain ⟨v14, h22, h⟩ := bind_some h
  refine PFn.call (f5_ok h22) trivial ?_
  refine And.intro (fun hp => (And.intro hp hp)) ?_
  show yops _ _ _ [(72, .cnd (v14 == true) (.bool (v12.1.2 == v13.2))), (71, .cnd (v14 == true) (.bool v13.2)), (70, .cnd (v14 == true) (.bool v12.1.2)), (69, .bool v14), (68, .bool v14), (1, .int .i64 a1), (5, .ptr (1, 0) 0 0), (6, .isl 4 (v5.map e_QChunk) false), (14, .isl 1 (v12.1.1.map e_i64) false), (15, .bool v12.1.2), (16, .isl 1 (v13.1.map e_i64) false), (17, .bool v13.2)] _ _
  refine And.intro (fun hc => (bqt hc)) ?_
  obtain ⟨v15, h23, h⟩ := bind_some h
  refine Or.inl (Exists.intro (.bool v15) (And.intro (fun hp => And.intro (And.intro hp hp) (PFn.call (f10_ok (ite_tt hp h23)) (And.intro (Vw.same _ rfl) (And.intro (Vw.same _ rfl) trivial)) (And.intro rfl (And.intro rfl rfl)))) ?_))
  refine And.intro (fun hc => (bqt hc)) ?_
  show yops _ _ _ [(78, .bool ((v14 && (v12.1.2 == v13.2)) && v15)), (77, .cnd ((v14 && (v12.1.2 == v13.2)) == true) (.bool v15)), (76, .cnd ((v14 && (v12.1.2 == v13.2)) == true) (.isl 1 (v13.1.map e_i64) false)), (75, .cnd ((v14 && (v12.1.2 == v13.2)) == true) (.isl 1 (v12.1.1.map e_i64) false)), (74, .bool (v14 && (v12.1.2 == v13.2))), (73, .bool (v14 && (v12.1.2 == v13.2))), (72, .cnd (v14 == true) (.bool (v12.1.2 == v13.2))), (71, .cnd (v14 == true) (.bool v13.2)), (70, .cnd (v14 == true) (.bool v12.1.2)), (69, .bool v14), (68, .bool v14), (1, .int .i64 a1), (5, .ptr (1, 0) 0 0), (6, .isl 4 (v5.map e_QChunk) false), (14, .isl 1 (v12.1.1.map e_i64) false), (15, .bool v12.1.2), (16, .isl 1 (v13.1.map e_i64) false), (17, .bool v13.2)] _ _
  obtain ⟨v16, h24, h⟩ := bind_some h
  refine Or.inl (Exists.intro (.isl 1 (v16.map e_i64) false) (And.intro (fun hp => And.intro (And.intro hp hp) (Rdo.useG (q := 3) (lit := []) (rdMissing m) (ite_tt hp h24) rfl rfl (And.intro (Vw.same _ rfl) trivial) trivial)) ?_))
  obtain ⟨v17, h25, h⟩ := bind_some h
  refine Or.inl (Exists.intro (.isl 1 (v17.map e_i64) false) (And.intro (fun hp => And.intro (And.intro hp hp) (PFn.call (f18_ok (ite_tt hp h25)) (And.intro (Vw.same _ rfl) (And.intro (Vw.same _ rfl) trivial)) (And.intro rfl (And.intro rfl rfl)))) ?_))
  obtain ⟨v18, h26, h⟩ := bind_some h
  refine Or.inl (Exists.intro (.bool v18) (And.intro (fun hp => And.intro (And.intro hp hp) (PFn.call (f10_ok (ite_tt hp h26)) (And.intro (Vw.same _ rfl) (And.intro (Vw.same _ rfl) trivial)) (And.intro rfl (And.intro rfl rfl)))) ?_))
  refine And.intro (fun hc => (bqt hc)) ?_
  show yops _ _ _ [(87, .bool (((v14 && (v12.1.2 == v13.2)) && v15) && v18)), (86, .cnd (((v14 && (v12.1.2 == v13.2)) && v15) == true) (.bool v18)), (85, .cnd (((v14 && (v12.1.2 == v13.2)) && v15) == true) (.isl 1 (v17.map e_i64) false)), (84, .cnd (((v14 && (v12.1.2 == v13.2)) && v15) == true) (.int .i64 a1)), (83, .cnd (((v14 && (v12.1.2 == v13.2)) && v15) == true) (.isl 4 (v5.map e_QChunk) false)), (82, .cnd (((v14 && (v12.1.2 == v13.2)) && v15) == true) (.isl 1 (v16.map e_i64) false)), (81, .cnd (((v14 && (v12.1.2 == v13.2)) && v15) == true) (.int .i64 a1)), (80, .cnd (((v14 && (v12.1.2 == v13.2)) && v15) == true) (.ptr (1, 0) 0 0)), (79, .bool ((v14 && (v12.1.2 == v13.2)) && v15)), (78, .bool ((v14 && (v12.1.2 == v13.2)) && v15)), (77, .cnd ((v14 && (v12.1.2 == v13.2)) == true) (.bool v15)), (76, .cnd ((v14 && (v12.1.2 == v13.2)) == true) (.isl 1 (v13.1.map e_i64) false)), (75, .cnd ((v14 && (v12.1.2 == v13.2)) == true) (.isl 1 (v12.1.1.map e_i64) false)), (74, .bool (v14 && (v12.1.2 == v13.2))), (73, .bool (v14 && (v12.1.2 == v13.2))), (72, .cnd (v14 == true) (.bool (v12.1.2 == v13.2))), (71, .cnd (v14 == true) (.bool v13.2)), (70, .cnd (v14 == true) (.bool v12.1.2)), (69, .bool v14), (68, .bool v14), (1, .int .i64 a1), (5, .ptr (1, 0) 0 0), (6, .isl 4 (v5.map e_QChunk) false), (14, .isl 1 (v12.1.1.map e_i64) false), (15, .bool v12.1.2), (16, .isl 1 (v13.1.map e_i64) false), (17, .bool v13.2)] _ _
  refine LWp.sim (e := [(4, .bool (((v14 && (v12.1.2 == v13.2)) && v15) && v18))]) (L := ([] ++ up 3 (hcA v12.2))) (n := 4) ?_ ?_
  · exact simT0 (M := []) (lit' := []) (tlA _) rfl (And.intro (Vw.same _ rfl) trivial) trivial
  refine retI ?_
  cases h
  exact And.intro trivial (And.intro rfl (Vw.same _ rfl))

theorem f4_L1_bok {a0 : List G_QChunk} {a1 : Int} {v5 : List G_QChunk} {v6 : Int} {v7 : SAsm} {m : Option Nat} {o : ((List G_QChunk) × Int × SAsm) ⊕ Bool} (h : S_glossatorlaw3_ProgressAssembler_b1 m a0 a1 v5 v6 v7 = some o) :
    LWp Try.prog f4_lay 0 f4_c1 (BodyQ 0 4 (f4_L1_env a0 a1) (f4_L1_hp a0 a1) (f4_L1_Q a0 a1) o) [(1, .int .i64 a1), (5, .ptr (1, 0) 0 0), (6, .isl 4 (v5.map e_QChunk) false), (27, .isl 4 ((a0.take (if 30 < ((a0.map e_QChunk).length : Int) then 30 else ((a0.map e_QChunk).length : Int)).toNat).map e_QChunk) false), (28, .int .i64 (((a0.take (if 30 < ((a0.map e_QChunk).length : Int) then 30 else ((a0.map e_QChunk).length : Int)).toNat).map e_QChunk).length : Int)), (29, .int .i64 v6)] ([] ++ up 3 (hcA v7)) 4 := by
  unfold S_glossatorlaw3_ProgressAssembler_b1 at h
  refine seqI ?_
  refine regI ?_
  refine seqI ?_
  refine condI (v := (decide (v6 < (((a0.take (if 30 < ((a0.map e_QChunk).length : Int) then 30 else ((a0.map e_QChunk).length : Int)).toNat).map e_QChunk).length : Int)))) rfl trivial (fun h15 => ?_) (fun h15 => ?_)
  · have h := ite_tt h15 h
    refine skipI ?_
    refine seqI ?_
    refine blockI ?_
    refine seqI ?_
    refine regI ?_
    obtain ⟨h16, h⟩ := ite_some h
    refine And.intro h16 ?_
    refine Exists.intro (e_QChunk ((a0.take (if 30 < ((a0.map e_QChunk).length : Int) then 30 else ((a0.map e_QChunk).length : Int)).toNat).getD v6.toNat default)) (And.intro (getD_enc e_QChunk _ _ (idx_ltL e_QChunk h16)) (And.intro (And.intro (idx_lt h16) (Nat.le_of_ble_eq_true rfl)) ?_))
    refine seqI ?_
    refine regI ?_
    obtain ⟨v10, h17, h⟩ := bind_some h
    refine Clo.useM (q := 3) (lit := [((4, 0), .one [.int .i64 (((a0.take (if 30 < ((a0.map e_QChunk).length : Int) then 30 else ((a0.map e_QChunk).length : Int)).toNat).getD v6.toNat default).f_Token), .int .i64 (((a0.take (if 30 < ((a0.map e_QChunk).length : Int) then 30 else ((a0.map e_QChunk).length : Int)).toNat).getD v6.toNat default).f_Seq), .bool (((a0.take (if 30 < ((a0.map e_QChunk).length : Int) then 30 else ((a0.map e_QChunk).length : Int)).toNat).getD v6.toNat default).f_Last), .isl 1 ((((a0.take (if 30 < ((a0.map e_QChunk).length : Int) then 30 else ((a0.map e_QChunk).length : Int)).toNat).getD v6.toNat default).f_Items).map e_i64) false])]) (cloAdd m) h17 rfl rfl (And.intro (Vw.same _ rfl) trivial) ?_
    show yops _ _ _ [(36, .tup [.bool v10.1.1, .int .i64 v10.1.2]), (35, .agg [.int .i64 (((a0.take (if 30 < ((a0.map e_QChunk).length : Int) then 30 else ((a0.map e_QChunk).length : Int)).toNat).getD v6.toNat default).f_Token), .int .i64 (((a0.take (if 30 < ((a0.map e_QChunk).length : Int) then 30 else ((a0.map e_QChunk).length : Int)).toNat).getD v6.toNat default).f_Seq), .bool (((a0.take (if 30 < ((a0.map e_QChunk).length : Int) then 30 else ((a0.map e_QChunk).length : Int)).toNat).getD v6.toNat default).f_Last), .isl 1 ((((a0.take (if 30 < ((a0.map e_QChunk).length : Int) then 30 else ((a0.map e_QChunk).length : Int)).toNat).getD v6.toNat default).f_Items).map e_i64) false]), (34, .ptr (1, 0) 0 0), (8, .ptr (4, 0) 0 0), (32, .agg [.int .i64 (((a0.take (if 30 < ((a0.map e_QChunk).length : Int) then 30 else ((a0.map e_QChunk).length : Int)).toNat).getD v6.toNat default).f_Token), .int .i64 (((a0.take (if 30 < ((a0.map e_QChunk).length : Int) then 30 else ((a0.map e_QChunk).length : Int)).toNat).getD v6.toNat default).f_Seq), .bool (((a0.take (if 30 < ((a0.map e_QChunk).length : Int) then 30 else ((a0.map e_QChunk).length : Int)).toNat).getD v6.toNat default).f_Last), .isl 1 ((((a0.take (if 30 < ((a0.map e_QChunk).length : Int) then 30 else ((a0.map e_QChunk).length : Int)).toNat).getD v6.toNat default).f_Items).map e_i64) false]), (31, .iptr 4 ((a0.take (if 30 < ((a0.map e_QChunk).length : Int) then 30 else ((a0.map e_QChunk).length : Int)).toNat).map e_QChunk) v6.toNat 0), (30, .bool (decide (v6 < (((a0.take (if 30 < ((a0.map e_QChunk).length : Int) then 30 else ((a0.map e_QChunk).length : Int)).toNat).map e_QChunk).length : Int)))), (1, .int .i64 a1), (5, .ptr (1, 0) 0 0), (6, .isl 4 (v5.map e_QChunk) false), (27, .isl 4 ((a0.take (if 30 < ((a0.map e_QChunk).length : Int) then 30 else ((a0.map e_QChunk).length : Int)).toNat).map e_QChunk) false), (28, .int .i64 (((a0.take (if 30 < ((a0.map e_QChunk).length : Int) then 30 else ((a0.map e_QChunk).length : Int)).toNat).map e_QChunk).length : Int)), (29, .int .i64 v6)] _ _
    refine LWp.sim (e := [(1, .int .i64 a1), (5, .ptr (1, 0) 0 0), (6, .isl 4 (v5.map e_QChunk) false), (8, .ptr (4, 0) 0 0), (9, .bool v10.1.1), (10, .int .i64 v10.1.2), (27, .isl 4 ((a0.take (if 30 < ((a0.map e_QChunk).length : Int) then 30 else ((a0.map e_QChunk).length : Int)).toNat).map e_QChunk) false), (28, .int .i64 (((a0.take (if 30 < ((a0.map e_QChunk).length : Int) then 30 else ((a0.map e_QChunk).length : Int)).toNat).map e_QChunk).length : Int)), (29, .int .i64 v6)]) (L := ([((4, 0), .one [.int .i64 (((a0.take (if 30 < ((a0.map e_QChunk).length : Int) then 30 else ((a0.map e_QChunk).length : Int)).toNat).getD v6.toNat default).f_Token), .int .i64 (((a0.take (if 30 < ((a0.map e_QChunk).length : Int) then 30 else ((a0.map e_QChunk).length : Int)).toNat).getD v6.toNat default).f_Seq), .bool (((a0.take (if 30 < ((a0.map e_QChunk).length : Int) then 30 else ((a0.map e_QChunk).length : Int)).toNat).getD v6.toNat default).f_Last), .isl 1 ((((a0.take (if 30 < ((a0.map e_QChunk).length : Int) then 30 else ((a0.map e_QChunk).length : Int)).toNat).getD v6.toNat default).f_Items).map e_i64) false])] ++ up 3 (hcA v10.2))) (n := 5) ?_ ?_
    · exact simT0 (M := [((4, 0), (4, 0))]) (lit' := [((4, 0), .one [.int .i64 (((a0.take (if 30 < ((a0.map e_QChunk).length : Int) then 30 else ((a0.map e_QChunk).length : Int)).toNat).getD v6.toNat default).f_Token), .int .i64 (((a0.take (if 30 < ((a0.map e_QChunk).length : Int) then 30 else ((a0.map e_QChunk).length : Int)).toNat).getD v6.toNat default).f_Seq), .bool (((a0.take (if 30 < ((a0.map e_QChunk).length : Int) then 30 else ((a0.map e_QChunk).length : Int)).toNat).getD v6.toNat default).f_Last), .isl 1 ((((a0.take (if 30 < ((a0.map e_QChunk).length : Int) then 30 else ((a0.map e_QChunk).length : Int)).toNat).getD v6.toNat default).f_Items).map e_i64) false])]) (tlA _) rfl (And.intro (Vw.same _ rfl) (And.intro (Vw.ptr _ _ _ _ rfl) (And.intro (Vw.same _ rfl) (And.intro (Vw.ptr _ _ _ _ rfl) (And.intro (Vw.same _ rfl) (And.intro (Vw.same _ rfl) (And.intro (Vw.same _ rfl) (And.intro (Vw.same _ rfl) (And.intro (Vw.same _ rfl) trivial))))))))) (And.intro (And.intro rfl (BVw.oneL (And.intro (Vw.same _ rfl) (And.intro (Vw.same _ rfl) (And.intro (Vw.same _ rfl) (And.intro (Vw.same _ rfl) trivial)))))) trivial)
    refine seqI ?_
    refine regI ?_
    obtain ⟨v11, h18, h⟩ := bind_some h
    refine PFn.call (f14_ok h18) (And.intro (Vw.same _ rfl) (And.intro (Vw.same _ rfl) trivial)) ?_
    refine LWp.sim (e := [(1, .int .i64 a1), (5, .ptr (1, 0) 0 0), (9, .bool v10.1.1), (10, .int .i64 v10.1.2), (11, .isl 4 (v11.1.map e_QChunk) false), (12, .bool v11.2.1), (13, .int .i64 v11.2.2), (27, .isl 4 ((a0.take (if 30 < ((a0.map e_QChunk).length : Int) then 30 else ((a0.map e_QChunk).length : Int)).toNat).map e_QChunk) false), (28, .int .i64 (((a0.take (if 30 < ((a0.map e_QChunk).length : Int) then 30 else ((a0.map e_QChunk).length : Int)).toNat).map e_QChunk).length : Int)), (29, .int .i64 v6)]) (L := ([] ++ up 3 (hcA v10.2))) (n := 4) ?_ ?_
    · exact simT0 (M := []) (lit' := [((4, 0), .one [.int .i64 (((a0.take (if 30 < ((a0.map e_QChunk).length : Int) then 30 else ((a0.map e_QChunk).length : Int)).toNat).getD v6.toNat default).f_Token), .int .i64 (((a0.take (if 30 < ((a0.map e_QChunk).length : Int) then 30 else ((a0.map e_QChunk).length : Int)).toNat).getD v6.toNat default).f_Seq), .bool (((a0.take (if 30 < ((a0.map e_QChunk).length : Int) then 30 else ((a0.map e_QChunk).length : Int)).toNat).getD v6.toNat default).f_Last), .isl 1 ((((a0.take (if 30 < ((a0.map e_QChunk).length : Int) then 30 else ((a0.map e_QChunk).length : Int)).toNat).getD v6.toNat default).f_Items).map e_i64) false])]) (tlA _) rfl (And.intro (Vw.same _ rfl) (And.intro (Vw.ptr _ _ _ _ rfl) (And.intro (Vw.same _ rfl) (And.intro (Vw.same _ rfl) (And.intro (Vw.same _ rfl) (And.intro (Vw.same _ rfl) (And.intro (Vw.same _ rfl) (And.intro (Vw.same _ rfl) (And.intro (Vw.same _ rfl) (And.intro (Vw.same _ rfl) trivial)))))))))) trivial
    refine seqI ?_
    refine seqI ?_
    refine regI ?_
    refine And.intro (fun hp => (And.intro hp hp)) ?_
    show yops _ _ _ [(52, .cnd ((!(v10.1.1 == v11.2.1)) == false) (.bool (v10.1.2 != v11.2.2))), (51, .cnd ((!(v10.1.1 == v11.2.1)) == false) (.int .i64 v11.2.2)), (50, .cnd ((!(v10.1.1 == v11.2.1)) == false) (.int .i64 v10.1.2)), (49, .bool (!(v10.1.1 == v11.2.1))), (48, .bool (!(v10.1.1 == v11.2.1))), (47, .bool v11.2.1), (46, .bool v10.1.1), (1, .int .i64 a1), (5, .ptr (1, 0) 0 0), (9, .bool v10.1.1), (10, .int .i64 v10.1.2), (11, .isl 4 (v11.1.map e_QChunk) false), (12, .bool v11.2.1), (13, .int .i64 v11.2.2), (27, .isl 4 ((a0.take (if 30 < ((a0.map e_QChunk).length : Int) then 30 else ((a0.map e_QChunk).length : Int)).toNat).map e_QChunk) false), (28, .int .i64 (((a0.take (if 30 < ((a0.map e_QChunk).length : Int) then 30 else ((a0.map e_QChunk).length : Int)).toNat).map e_QChunk).length : Int)), (29, .int .i64 v6)] _ _
    refine And.intro (fun hc => (bqf hc)) ?_
    refine LWp.sim (e := [(1, .int .i64 a1), (5, .ptr (1, 0) 0 0), (11, .isl 4 (v11.1.map e_QChunk) false), (27, .isl 4 ((a0.take (if 30 < ((a0.map e_QChunk).length : Int) then 30 else ((a0.map e_QChunk).length : Int)).toNat).map e_QChunk) false), (28, .int .i64 (((a0.take (if 30 < ((a0.map e_QChunk).length : Int) then 30 else ((a0.map e_QChunk).length : Int)).toNat).map e_QChunk).length : Int)), (29, .int .i64 v6), (53, .bool ((!(v10.1.1 == v11.2.1)) || (v10.1.2 != v11.2.2)))]) (L := ([] ++ up 3 (hcA v10.2))) (n := 4) ?_ ?_
    · exact simT0 (M := []) (lit' := []) (tlA _) rfl (And.intro (Vw.same _ rfl) (And.intro (Vw.ptr _ _ _ _ rfl) (And.intro (Vw.same _ rfl) (And.intro (Vw.same _ rfl) (And.intro (Vw.same _ rfl) (And.intro (Vw.same _ rfl) (And.intro (Vw.same _ rfl) trivial))))))) trivial
    refine condI (v := ((!(v10.1.1 == v11.2.1)) || (v10.1.2 != v11.2.2))) rfl trivial (fun h19 => ?_) (fun h19 => ?_)
    · have h := ite_tt h19 h
      refine seqI ?_
      refine regI ?_
      refine retI ?_
      obtain ⟨o, hq, rfl⟩ := Option.map_eq_some_iff.1 h
      replace h := hq; clear hq
      refine And.intro nofun ?_
      cases h
      exact And.intro trivial (And.intro rfl (Vw.same _ rfl))
    · have h := ite_ff h19 h
      refine skipI ?_
      refine regI ?_
      refine regI ?_
      cases h
      exact And.intro rfl (simT0 (M := []) (lit' := []) (tlA _) rfl (And.intro (Vw.same _ rfl) (And.intro (Vw.ptr _ _ _ _ rfl) (And.intro (Vw.same _ rfl) (And.intro (Vw.same _ rfl) (And.intro (Vw.same _ rfl) (And.intro (Vw.same _ rfl) trivial)))))) trivial)
  · have h := ite_ff h15 h
    refine exitI ?_
    obtain ⟨o, hq, rfl⟩ := Option.map_eq_some_iff.1 h
    replace h := hq; clear hq
    refine And.intro nofun ?_
    refine LWp.sim ?_ (f4_j1_ok h)
    exact simT0 (M := []) (lit' := []) (tlA _) rfl (And.intro (Vw.same _ rfl) (And.intro (Vw.ptr _ _ _ _ rfl) (And.intro (Vw.same _ rfl) trivial))) trivial

theorem f4_L1_ok {a0 : List G_QChunk} {a1 : Int} {v5 : List G_QChunk} {v6 : Int} {v7 : SAsm} {m : Option Nat} {o : Bool} (h : S_glossatorlaw3_ProgressAssembler_l1 m a0 a1 v5 v6 v7 = some o) :
    LWp Try.prog f4_lay 0 (.loop f4_c1) (QBlock 0 (QSeq Try.prog f4_lay 0 f4_c0 (f4_Q a0 a1 o))) [(1, .int .i64 a1), (5, .ptr (1, 0) 0 0), (6, .isl 4 (v5.map e_QChunk) false), (27, .isl 4 ((a0.take (if 30 < ((a0.map e_QChunk).length : Int) then 30 else ((a0.map e_QChunk).length : Int)).toNat).map e_QChunk) false), (28, .int .i64 (((a0.take (if 30 < ((a0.map e_QChunk).length : Int) then 30 else ((a0.map e_QChunk).length : Int)).toNat).map e_QChunk).length : Int)), (29, .int .i64 v6)] ([] ++ up 3 (hcA v7)) 4 :=
  LWp_loopM (m := m) (s := ((v5, v6, v7) : ((List G_QChunk) × Int × SAsm))) (r := o) (fun (s : ((List G_QChunk) × Int × SAsm)) => S_glossatorlaw3_ProgressAssembler_b1 m a0 a1 s.1 s.2.1 s.2.2) (f4_L1_env a0 a1) (f4_L1_hp a0 a1) (f4_L1_Q a0 a1) (fun s o h => f4_L1_bok h) h

noncomputable def S_glossatorlaw3_ProgressAssembler (m : Option Nat) (a0 : List G_QChunk) (a1 : Int) : Option Bool :=
  (S_glossatorlaw3_chunkExample (some 4096)).bind fun v1 =>
  if (!v1) = true then
    some false
  else
    (S_progress_NewAssembler m).bind fun v2 =>
    if (0 : Int) ≤ (if 30 < ((a0.map e_QChunk).length : Int) then 30 else ((a0.map e_QChunk).length : Int)) ∧ (if 30 < ((a0.map e_QChunk).length : Int) then 30 else ((a0.map e_QChunk).length : Int)) ≤ ((a0.map e_QChunk).length : Int) then
    S_glossatorlaw3_ProgressAssembler_l1 m a0 a1 [] 0 ([] : SAsm)
    else none

theorem f4_start {a0 : List G_QChunk} {a1 : Int} {m : Option Nat} {o : Bool} (h : S_glossatorlaw3_ProgressAssembler m a0 a1 = some o) : LWp Try.prog f4_lay 0 f4_c2 (f4_Q a0 a1 o) (initEnv 0 [.isl 4 (a0.map e_QChunk) false, .int .i64 a1]) [] 0 := by
  unfold S_glossatorlaw3_ProgressAssembler at h
  refine seqI ?_
  refine regI ?_
  refine seqI ?_
  refine seqI ?_
  refine regI ?_
  obtain ⟨v1, h1, h⟩ := bind_some h
  refine PFn.call (f5_ok h1) trivial ?_
  refine condI (v := (!v1)) rfl trivial (fun h2 => ?_) (fun h2 => ?_)
  · have h := ite_tt h2 h
    refine seqI ?_
    refine regI ?_
    refine retI ?_
    cases h
    exact And.intro trivial (And.intro rfl (Vw.same _ rfl))
  · have h := ite_ff h2 h
    refine skipI ?_
    refine seqI ?_
    refine regI ?_
    obtain ⟨v2, h3, h⟩ := bind_some h
    refine bcall (k := 3) (m := 2) (L' := [((0, 0), .one [.map (1, 0)]), ((1, 0), .amap (([] : List (Int × Ref)).map (em a_i64 (eR none))))]) (rest := []) (R' := .ptr (0, 0) 0 0) [] (f12b0_ok h3) rfl rfl rfl trivial trivial rfl (And.intro rfl (And.intro rfl (And.intro rfl (And.intro rfl trivial)))) rfl ?_
    refine LWp.sim (e := [(0, .isl 4 (a0.map e_QChunk) false), (1, .int .i64 a1), (5, .ptr (1, 0) 0 0)]) (L := ([] ++ up 3 (hcA ([] : SAsm)))) (n := 5) ?_ ?_
    · exact simI (M := [((1, 0), (0, 0)), ((1, 1), (1, 0))]) rfl (And.intro (Vw.same _ rfl) (And.intro (Vw.same _ rfl) (And.intro (Vw.ptr _ _ _ _ rfl) trivial))) (And.intro (And.intro rfl (BVw.oneL (And.intro (Vw.map _ _ rfl) trivial))) (And.intro (And.intro rfl (BVw.amap [] (fun _ h => by cases h))) trivial))
    refine seqI ?_
    refine seqI ?_
    refine regI ?_
    refine condI (v := false) rfl trivial (fun hc => Bool.noConfusion hc) (fun hc => ?_)
    refine skipI ?_
    refine seqI ?_
    refine regI ?_
    refine seqI ?_
    refine seqI ?_
    refine regI ?_
    obtain ⟨h4, h⟩ := ite_some h
    refine Exists.intro (.isl 4 ((a0.take (if 30 < ((a0.map e_QChunk).length : Int) then 30 else ((a0.map e_QChunk).length : Int)).toNat).map e_QChunk) false) (And.intro (sl_eq e_QChunk (slB e_QChunk a0 _) rfl) (And.intro (And.intro rfl (And.intro (Int.le_refl _) h4)) ?_))
    refine LWp.sim (e := [(1, .int .i64 a1), (5, .ptr (1, 0) 0 0), (6, .val (.slice none 0 0)), (27, .isl 4 ((a0.take (if 30 < ((a0.map e_QChunk).length : Int) then 30 else ((a0.map e_QChunk).length : Int)).toNat).map e_QChunk) false), (28, .int .i64 (((a0.take (if 30 < ((a0.map e_QChunk).length : Int) then 30 else ((a0.map e_QChunk).length : Int)).toNat).map e_QChunk).length : Int)), (29, .int .i64 0)]) (L := ([] ++ up 3 (hcA ([] : SAsm)))) (n := 4) ?_ ?_
    · exact simT0 (M := []) (lit' := []) (tlA _) rfl (And.intro (Vw.same _ rfl) (And.intro (Vw.ptr _ _ _ _ rfl) (And.intro (Vw.same _ rfl) (And.intro (Vw.same _ rfl) (And.intro (Vw.same _ rfl) (And.intro (Vw.same _ rfl) trivial)))))) trivial
    refine blockI ?_
    refine LWp.sim ?_ (f4_L1_ok h)
    exact simT0 (M := []) (lit' := []) (tlA _) rfl (And.intro (Vw.same _ rfl) (And.intro (Vw.ptr _ _ _ _ rfl) (And.intro (Vw.nilI _ _) (And.intro (Vw.same _ rfl) (And.intro (Vw.same _ rfl) (And.intro (Vw.same _ rfl) trivial)))))) trivial

theorem f4_ok {a0 : List G_QChunk} {a1 : Int} {m : Option Nat} {o : Bool} (h : S_glossatorlaw3_ProgressAssembler m a0 a1 = some o) : PFn Try.prog 4 [.isl 4 (a0.map e_QChunk) false, .int .i64 a1] (.bool o) := PFn.ofFnW (L := f4_L) f4_low f4_fok (Nat.le_of_ble_eq_true rfl) rfl (f4_start h)
end Go.Proofs.Ytcllpgaaoiccgaa
