/-
  Own text GenB of this claim: what functions of the given program compute, in plain Lean, and the proof; no condition.
-/
import Derived.Test.YtjbndlijmgnpnaaGenA
namespace Go.Proofs.Ytjbndlijmgnpnaa
open Go.Fx
set_option linter.unusedVariables false
def f38c1_c0 : LCode := (.seq (.region [⟨some 2, .box (.t 0), none⟩,
   ⟨some 3, .mv (.c (.int .i64 0)), none⟩])
 (.seq (.region [⟨some 5, .load false 1 (.t 1), none⟩,
   ⟨some 6, .load true 3 (.t 2), none⟩,
   ⟨some 7, .callv (.t 5) [(.t 6)], none⟩,
   ⟨some 8, .field false 1 0 (.t 7), none⟩,
   ⟨some 4, .mv (.t 8), none⟩])
 (.seq (.seq (.region [⟨some 9, .mv (.t 4), none⟩,
   ⟨some 10, .len false (.t 9), none⟩,
   ⟨some 11, .bin .eql (.t 10) (.c (.int .i64 0)), none⟩])
 (.cond (.t 11)
  (.seq (.region [⟨some 3, .mv (.c (.int .i64 0)), none⟩])
  .ret)
  .skip))
 (.seq (.region [⟨some 12, .mv (.t 4), none⟩,
   ⟨some 13, .iaddr 1 (.t 12) (.c (.int .i64 0)), none⟩,
   ⟨some 14, .load false 1 (.t 13), none⟩,
   ⟨some 15, .call 39 [(.t 14)], none⟩,
   ⟨some 3, .mv (.t 15), none⟩])
 .ret))))
def f38c1_lay : Lay := ⟨16, [], false⟩
def f38c1_res : List LRes := [.t 3]
def f38c1_L : LFn := ⟨2, f38c1_lay, f38c1_c0, f38c1_res⟩
theorem f38c1_low : lowFn Try.prog [] 38 = some f38c1_L := by kernel_rfl
theorem f38c1_fok : FnOk Try.prog 38 := ⟨_, Try.func38, rfl, rfl⟩
noncomputable def S_querylang_Compile_1_1c_38 (m : Option Nat) (a0 : List G_QKey) (a1 : List G_QValue) (a2 : G_QKey) : Option (Int × (List G_QKey)) :=
  (S_glossatorlaw3_QuerylangCompile_2 m a2 a0 a1).bind fun v1 =>
  if (((v1.1.f_Nums.map e_i64).length : Int) == 0) = true then
    some (0, v1.2)
  else
    if (0 : Int) ≤ 0 ∧ 0 < ((v1.1.f_Nums.map e_i64).length : Int) then
    (S_querylang_reduce m (v1.1.f_Nums.getD ((0 : Int).toNat) default)).bind fun v2 =>
    some (v2, v1.2)
    else none

def f38c1_Q (a0 : List G_QKey) (a1 : List G_QValue) (a2 : G_QKey) (o : Int × (List G_QKey)) : Exit → Env → AHeap → Nat → Prop := FinK f38c1_res (FinTo 3 4 (.int .i64 o.1) [((1, 0), .one [.fn (.func 19) [] [.ptr (1, 1) 0 0, .ptr (1, 2) 0 0]]), ((1, 1), .one [.msl (3, 0) 3 0 o.2.length false]), ((1, 2), .one [.fn (.func 16) [] [.ptr (1, 3) 0 0]]), ((1, 3), .one [.isl 2 (a1.map e_QValue) false]), ((3, 0), .rows 3 (o.2.map e_QKey))])

theorem f38c1_start {a0 : List G_QKey} {a1 : List G_QValue} {a2 : G_QKey} {m : Option Nat} {o : Int × (List G_QKey)} (h : S_querylang_Compile_1_1c_38 m a0 a1 a2 = some o) : LWp Try.prog f38c1_lay 3 f38c1_c0 (f38c1_Q a0 a1 a2 o) (initEnv 0 [.agg [.int .i64 a2.f_Kind, .int .i64 a2.f_A, .int .i64 a2.f_B], .ptr (1, 0) 0 0]) [((1, 0), .one [.fn (.func 19) [] [.ptr (1, 1) 0 0, .ptr (1, 2) 0 0]]), ((1, 1), .one [.msl (2, 0) 3 0 a0.length false]), ((1, 2), .one [.fn (.func 16) [] [.ptr (1, 3) 0 0]]), ((1, 3), .one [.isl 2 (a1.map e_QValue) false]), ((2, 0), .rows 3 (a0.map e_QKey))] 3 := by
  unfold S_querylang_Compile_1_1c_38 at h
  refine seqI ?_
  refine regI ?_
  refine seqI ?_
  refine regI ?_
  obtain ⟨v1, h1, h⟩ := bind_some h
  refine bcall (k := 3) (m := 1) (L' := [((1, 1), .one [.msl (4, 0) 3 0 v1.2.length false]), ((1, 2), .one [.fn (.func 16) [] [.ptr (1, 3) 0 0]]), ((1, 3), .one [.isl 2 (a1.map e_QValue) false]), ((4, 0), .rows 3 (v1.2.map e_QKey))]) (rest := [((3, 0), .one [.int .i64 a2.f_Kind, .int .i64 a2.f_A, .int .i64 a2.f_B]), ((1, 0), .one [.fn (.func 19) [] [.ptr (1, 1) 0 0, .ptr (1, 2) 0 0]])]) (R' := .agg [.isl 1 (v1.1.f_Nums.map e_i64) false, .str v1.1.f_Text]) [((0, 0), (1, 1)), ((0, 1), (1, 2)), ((0, 2), (2, 0)), ((0, 3), (1, 3))] (f19b0_ok h1) rfl rfl rfl (And.intro (Vw.same _ rfl) (And.intro (Vw.ptr _ _ _ _ rfl) (And.intro (Vw.ptr _ _ _ _ rfl) trivial))) (And.intro (h0I (1, 1) rfl rfl (BVw.oneL (And.intro (Vw.mslE rfl (by first | rfl | simp) rfl) trivial))) (And.intro (h0I (1, 2) rfl rfl (BVw.oneL (And.intro (Vw.fnL trivial (And.intro (Vw.ptr _ _ _ _ rfl) trivial)) trivial))) (And.intro (h0I (2, 0) rfl rfl (BVw.enc e_QKey (fun _ => rfl) _ a0)) (And.intro (h0I (1, 3) rfl rfl (BVw.oneL (And.intro (Vw.same _ rfl) trivial))) trivial)))) (nid_ren _ rfl) (And.intro rfl (And.intro rfl (And.intro rfl (And.intro rfl (And.intro rfl (And.intro rfl (And.intro rfl (And.intro (rows_ren e_QKey (fun _ => rfl) _ _) trivial)))))))) rfl ?_
  show yops _ _ _ [(7, .agg [.isl 1 (v1.1.f_Nums.map e_i64) false, .str v1.1.f_Text]), (6, .agg [.int .i64 a2.f_Kind, .int .i64 a2.f_A, .int .i64 a2.f_B]), (5, .fn (.func 19) [] [.ptr (1, 1) 0 0, .ptr (1, 2) 0 0]), (3, .int .i64 0), (2, .ptr (3, 0) 0 0), (0, .agg [.int .i64 a2.f_Kind, .int .i64 a2.f_A, .int .i64 a2.f_B]), (1, .ptr (1, 0) 0 0)] _ _
  refine seqI ?_
  refine seqI ?_
  refine regI ?_
  refine LWp.sim (e := [(4, .isl 1 (v1.1.f_Nums.map e_i64) false), (11, .bool (((v1.1.f_Nums.map e_i64).length : Int) == 0))]) (L := [((1, 0), .one [.fn (.func 19) [] [.ptr (1, 1) 0 0, .ptr (1, 2) 0 0]]), ((1, 1), .one [.msl (3, 0) 3 0 v1.2.length false]), ((1, 2), .one [.fn (.func 16) [] [.ptr (1, 3) 0 0]]), ((1, 3), .one [.isl 2 (a1.map e_QValue) false]), ((3, 0), .rows 3 (v1.2.map e_QKey))]) (n := 4) ?_ ?_
  · exact simI (M := [((3, 0), (4, 0))]) rfl (And.intro (Vw.same _ rfl) (And.intro (Vw.same _ rfl) trivial)) (And.intro (And.intro rfl (BVw.oneL (And.intro (Vw.fnL trivial (And.intro (Vw.ptr _ _ _ _ rfl) (And.intro (Vw.ptr _ _ _ _ rfl) trivial))) trivial))) (And.intro (And.intro rfl (BVw.oneL (And.intro (Vw.mslE rfl (by first | rfl | simp) rfl) trivial))) (And.intro (And.intro rfl (BVw.oneL (And.intro (Vw.fnL trivial (And.intro (Vw.ptr _ _ _ _ rfl) trivial)) trivial))) (And.intro (And.intro rfl (BVw.oneL (And.intro (Vw.same _ rfl) trivial))) (And.intro (And.intro rfl (BVw.enc e_QKey (fun _ => rfl) _ v1.2)) trivial)))))
  refine condI (v := (((v1.1.f_Nums.map e_i64).length : Int) == 0)) rfl trivial (fun h2 => ?_) (fun h2 => ?_)
  · have h := ite_tt h2 h
    refine seqI ?_
    refine regI ?_
    refine retI ?_
    cases h
    exact And.intro trivial (finI (n' := 4) [((3, 0), (3, 0))] [] rfl rfl (Vw.same _ rfl) (And.intro (And.intro rfl (BVw.oneL (And.intro (Vw.fnL trivial (And.intro (Vw.ptr _ _ _ _ rfl) (And.intro (Vw.ptr _ _ _ _ rfl) trivial))) trivial))) (And.intro (And.intro rfl (BVw.oneL (And.intro (Vw.mslE rfl (by first | rfl | simp) rfl) trivial))) (And.intro (And.intro rfl (BVw.oneL (And.intro (Vw.fnL trivial (And.intro (Vw.ptr _ _ _ _ rfl) trivial)) trivial))) (And.intro (And.intro rfl (BVw.oneL (And.intro (Vw.same _ rfl) trivial))) (And.intro (And.intro rfl (BVw.enc e_QKey (fun _ => rfl) _ v1.2)) trivial))))))
  · have h := ite_ff h2 h
    refine skipI ?_
    refine seqI ?_
    refine regI ?_
    obtain ⟨h3, h⟩ := ite_some h
    refine And.intro h3 ?_
    refine Exists.intro (e_i64 (v1.1.f_Nums.getD ((0 : Int).toNat) default)) (And.intro (getD_enc e_i64 _ _ (idx_ltL e_i64 h3)) (And.intro (And.intro (idx_lt h3) (Nat.le_of_ble_eq_true rfl)) ?_))
    obtain ⟨v2, h4, h⟩ := bind_some h
    refine PFn.call (f39_ok h4) (And.intro (Vw.same _ rfl) trivial) ?_
    refine retI ?_
    cases h
    exact And.intro trivial (finI (n' := 4) [((3, 0), (3, 0))] [] rfl rfl (Vw.same _ rfl) (And.intro (And.intro rfl (BVw.oneL (And.intro (Vw.fnL trivial (And.intro (Vw.ptr _ _ _ _ rfl) (And.intro (Vw.ptr _ _ _ _ rfl) trivial))) trivial))) (And.intro (And.intro rfl (BVw.oneL (And.intro (Vw.mslE rfl (by first | rfl | simp) rfl) trivial))) (And.intro (And.intro rfl (BVw.oneL (And.intro (Vw.fnL trivial (And.intro (Vw.ptr _ _ _ _ rfl) trivial)) trivial))) (And.intro (And.intro rfl (BVw.oneL (And.intro (Vw.same _ rfl) trivial))) (And.intro (And.intro rfl (BVw.enc e_QKey (fun _ => rfl) _ v1.2)) trivial))))))

theorem f38c1_ok {a0 : List G_QKey} {a1 : List G_QValue} {a2 : G_QKey} {m : Option Nat} {o : Int × (List G_QKey)} (h : S_querylang_Compile_1_1c_38 m a0 a1 a2 = some o) : ACalls Try.prog 38 [.agg [.int .i64 a2.f_Kind, .int .i64 a2.f_A, .int .i64 a2.f_B], .ptr (1, 0) 0 0] [((1, 0), .one [.fn (.func 19) [] [.ptr (1, 1) 0 0, .ptr (1, 2) 0 0]]), ((1, 1), .one [.msl (2, 0) 3 0 a0.length false]), ((1, 2), .one [.fn (.func 16) [] [.ptr (1, 3) 0 0]]), ((1, 3), .one [.isl 2 (a1.map e_QValue) false]), ((2, 0), .rows 3 (a0.map e_QKey))] 3 (Gives 4 (.int .i64 o.1) [((1, 0), .one [.fn (.func 19) [] [.ptr (1, 1) 0 0, .ptr (1, 2) 0 0]]), ((1, 1), .one [.msl (3, 0) 3 0 o.2.length false]), ((1, 2), .one [.fn (.func 16) [] [.ptr (1, 3) 0 0]]), ((1, 3), .one [.isl 2 (a1.map e_QValue) false]), ((3, 0), .rows 3 (o.2.map e_QKey))]) := bfn_of (L := f38c1_L) f38c1_low f38c1_fok (Nat.le_of_ble_eq_true rfl) (f38c1_start h)

def f37b1_c0 : LCode := (.seq (.region [⟨some 4, .box (.t 0), none⟩,
   ⟨some 5, .box (.t 1), none⟩,
   ⟨some 6, .alloc [(.isl 1 [] true), (.str [])], none⟩])
 (.seq (.seq (.region [⟨some 8, .load false 1 (.t 2), none⟩,
   ⟨some 9, .un .not (.t 8), none⟩,
   ⟨some 10, .mv (.t 9), none⟩,
   ⟨some 11, .faddr 0 (.t 4), some (10, false)⟩,
   ⟨some 12, .load false 1 (.t 11), some (10, false)⟩,
   ⟨some 13, .bin .neq (.t 12) (.c (.int .i64 1)), some (10, false)⟩,
   ⟨some 14, .pick (.t 10) (.c (.bool true)) (.t 13), none⟩,
   ⟨some 15, .mv (.t 14), none⟩,
   ⟨some 16, .faddr 2 (.t 4), some (15, false)⟩,
   ⟨some 17, .load false 1 (.t 16), some (15, false)⟩,
   ⟨some 18, .bin .neq (.t 17) (.c (.int .i64 0)), some (15, false)⟩,
   ⟨some 19, .pick (.t 15) (.c (.bool true)) (.t 18), none⟩,
   ⟨some 20, .mv (.t 19), none⟩,
   ⟨some 21, .faddr 1 (.t 4), some (20, false)⟩,
   ⟨some 22, .load false 1 (.t 21), some (20, false)⟩,
   ⟨some 23, .bin .lss (.t 22) (.c (.int .i64 0)), some (20, false)⟩,
   ⟨some 24, .pick (.t 20) (.c (.bool true)) (.t 23), none⟩,
   ⟨some 25, .mv (.t 24), none⟩,
   ⟨some 26, .faddr 1 (.t 4), some (25, false)⟩,
   ⟨some 27, .load false 1 (.t 26), some (25, false)⟩,
   ⟨some 28, .load false 1 (.t 3), some (25, false)⟩,
   ⟨some 29, .len false (.t 28), some (25, false)⟩,
   ⟨some 30, .bin .geq (.t 27) (.t 29), some (25, false)⟩,
   ⟨some 31, .pick (.t 25) (.c (.bool true)) (.t 30), none⟩])
 (.cond (.t 31)
  (.seq (.region [⟨some 32, .build [(.isl 1 [] true), (.str [])] [], none⟩,
    ⟨none, .store 2 (.t 6) (.t 32), none⟩])
  .ret)
  .skip))
 (.seq (.draw [⟨⟨some 33, .load false 1 (.t 3), none⟩, []⟩,
   ⟨⟨some 34, .faddr 1 (.t 4), none⟩, []⟩,
   ⟨⟨some 35, .load false 1 (.t 34), none⟩, []⟩,
   ⟨⟨some 36, .iaddr 1 (.t 33) (.t 35), none⟩, []⟩,
   ⟨⟨some 37, .load false 1 (.t 36), none⟩, []⟩,
   ⟨⟨some 38, .faddr 1 (.t 4), none⟩, []⟩,
   ⟨⟨some 39, .load false 1 (.t 38), none⟩, []⟩,
   ⟨⟨some 40, .mkfn (.func 38) [] [(.t 5)], none⟩, []⟩,
   ⟨⟨some 41, .call 31 [(.t 37), (.t 39), (.t 40)], none⟩, []⟩,
   ⟨⟨some 7, .mv (.t 41), none⟩, []⟩])
 (.seq (.region [⟨some 42, .mv (.t 7), none⟩,
   ⟨some 43, .mkSl true 1 [(.int .i64 0)] 1 [(0, (.t 42))], none⟩,
   ⟨some 44, .build [(.isl 1 [] true), (.str [])] [(0, 1, (.t 43))], none⟩,
   ⟨none, .store 2 (.t 6) (.t 44), none⟩])
 .ret))))
def f37b1_lay : Lay := ⟨45, [], false⟩
def f37b1_res : List LRes := [.cell 6 true 2]
def f37b1_L : LFn := ⟨4, f37b1_lay, f37b1_c0, f37b1_res⟩
theorem f37b1_low : lowFn Try.prog [] 37 = some f37b1_L := by kernel_rfl
theorem f37b1_fok : FnOk Try.prog 37 := ⟨_, Try.func37, rfl, rfl⟩
noncomputable def S_querylang_Compile_1_37 (m : Option Nat) (a0 : G_QKey) (a1 : Bool) (a2 : List G_QKey) (a3 : List G_QValue) (a4 : List (List G_QOp)) : Option (G_QValue × (List G_QKey)) :=
  if (((((!a1) || (a0.f_Kind != 1)) || (a0.f_B != 0)) || (decide (a0.f_A < 0))) || (decide (a0.f_A ≥ ((a4.length : Nat) : Int)))) = true then
    some ((G_QValue.mk ([] : List Int) ([] : List UInt8)), a2)
  else
    if (0 : Int) ≤ a0.f_A ∧ a0.f_A < ((a4.length : Nat) : Int) then
    if (0 + a0.f_A.toNat) < a4.length then
    (S_querylang_run (fun (s : (List G_QKey)) (x : G_QKey) => (S_querylang_Compile_1_1c_38 m s a3 x).map fun o => (o.1, o.2)) m (a4.getD (0 + a0.f_A.toNat) default) a0.f_A a2).bind fun v1 =>
    some ((G_QValue.mk ([v1.1] : List Int) ([] : List UInt8)), v1.2)
    else none
    else none

def f37b1_Q (a0 : G_QKey) (a1 : Bool) (a2 : List G_QKey) (a3 : List G_QValue) (a4 : List (List G_QOp)) (o : G_QValue × (List G_QKey)) : Exit → Env → AHeap → Nat → Prop := FinK f37b1_res (FinTo 3 5 (.agg [.isl 1 (o.1.f_Nums.map e_i64) false, .str o.1.f_Text]) [((0, 0), .one [.msl (3, 0) 3 0 o.2.length false]), ((0, 1), .one [.fn (.func 16) [] [.ptr (0, 5) 0 0]]), ((0, 2), .one [.bool a1]), ((0, 3), .one [.msl (4, 0) 1 0 a4.length true]), ((0, 5), .one [.isl 2 (a3.map e_QValue) false]), ((3, 0), .rows 3 (o.2.map e_QKey)), ((4, 0), .rows 1 (a4.map e_sl_QOp))])

theorem f37b1_start {a0 : G_QKey} {a1 : Bool} {a2 : List G_QKey} {a3 : List G_QValue} {a4 : List (List G_QOp)} {m : Option Nat} {o : G_QValue × (List G_QKey)} (h : S_querylang_Compile_1_37 m a0 a1 a2 a3 a4 = some o) : LWp Try.prog f37b1_lay 3 f37b1_c0 (f37b1_Q a0 a1 a2 a3 a4 o) (initEnv 0 [.agg [.int .i64 a0.f_Kind, .int .i64 a0.f_A, .int .i64 a0.f_B], .fn (.func 19) [] [.ptr (0, 0) 0 0, .ptr (0, 1) 0 0], .ptr (0, 2) 0 0, .ptr (0, 3) 0 0]) [((0, 0), .one [.msl (0, 4) 3 0 a2.length false]), ((0, 1), .one [.fn (.func 16) [] [.ptr (0, 5) 0 0]]), ((0, 2), .one [.bool a1]), ((0, 3), .one [.msl (0, 6) 1 0 a4.length true]), ((0, 4), .rows 3 (a2.map e_QKey)), ((0, 5), .one [.isl 2 (a3.map e_QValue) false]), ((0, 6), .rows 1 (a4.map e_sl_QOp))] 3 := by
  unfold S_querylang_Compile_1_37 at h
  refine seqI ?_
  refine regI ?_
  refine seqI ?_
  refine seqI ?_
  refine regI ?_
  refine And.intro (fun hp => hp) ?_
  show yops _ _ _ [(12, .cnd ((!a1) == false) (.int .i64 a0.f_Kind)), (11, .cnd ((!a1) == false) (.ptr (3, 0) 0 0)), (10, .bool (!a1)), (9, .bool (!a1)), (8, .bool a1), (6, .ptr (5, 0) 0 0), (5, .ptr (4, 0) 0 0), (4, .ptr (3, 0) 0 0), (0, .agg [.int .i64 a0.f_Kind, .int .i64 a0.f_A, .int .i64 a0.f_B]), (1, .fn (.func 19) [] [.ptr (0, 0) 0 0, .ptr (0, 1) 0 0]), (2, .ptr (0, 2) 0 0), (3, .ptr (0, 3) 0 0)] _ _
  refine And.intro (fun hp => hp) ?_
  refine And.intro (fun hc => (bqf hc)) ?_
  refine And.intro (fun hp => hp) ?_
  show yops _ _ _ [(17, .cnd (((!a1) || (a0.f_Kind != 1)) == false) (.int .i64 a0.f_B)), (16, .cnd (((!a1) || (a0.f_Kind != 1)) == false) (.ptr (3, 0) 0 2)), (15, .bool ((!a1) || (a0.f_Kind != 1))), (14, .bool ((!a1) || (a0.f_Kind != 1))), (13, .cnd ((!a1) == false) (.bool (a0.f_Kind != 1))), (12, .cnd ((!a1) == false) (.int .i64 a0.f_Kind)), (11, .cnd ((!a1) == false) (.ptr (3, 0) 0 0)), (10, .bool (!a1)), (9, .bool (!a1)), (8, .bool a1), (6, .ptr (5, 0) 0 0), (5, .ptr (4, 0) 0 0), (4, .ptr (3, 0) 0 0), (0, .agg [.int .i64 a0.f_Kind, .int .i64 a0.f_A, .int .i64 a0.f_B]), (1, .fn (.func 19) [] [.ptr (0, 0) 0 0, .ptr (0, 1) 0 0]), (2, .ptr (0, 2) 0 0), (3, .ptr (0, 3) 0 0)] _ _
  refine And.intro (fun hp => hp) ?_
  refine And.intro (fun hc => (bqf hc)) ?_
  refine And.intro (fun hp => hp) ?_
  show yops _ _ _ [(22, .cnd ((((!a1) || (a0.f_Kind != 1)) || (a0.f_B != 0)) == false) (.int .i64 a0.f_A)), (21, .cnd ((((!a1) || (a0.f_Kind != 1)) || (a0.f_B != 0)) == false) (.ptr (3, 0) 0 1)), (20, .bool (((!a1) || (a0.f_Kind != 1)) || (a0.f_B != 0))), (19, .bool (((!a1) || (a0.f_Kind != 1)) || (a0.f_B != 0))), (18, .cnd (((!a1) || (a0.f_Kind != 1)) == false) (.bool (a0.f_B != 0))), (17, .cnd (((!a1) || (a0.f_Kind != 1)) == false) (.int .i64 a0.f_B)), (16, .cnd (((!a1) || (a0.f_Kind != 1)) == false) (.ptr (3, 0) 0 2)), (15, .bool ((!a1) || (a0.f_Kind != 1))), (14, .bool ((!a1) || (a0.f_Kind != 1))), (13, .cnd ((!a1) == false) (.bool (a0.f_Kind != 1))), (12, .cnd ((!a1) == false) (.int .i64 a0.f_Kind)), (11, .cnd ((!a1) == false) (.ptr (3, 0) 0 0)), (10, .bool (!a1)), (9, .bool (!a1)), (8, .bool a1), (6, .ptr (5, 0) 0 0), (5, .ptr (4, 0) 0 0), (4, .ptr (3, 0) 0 0), (0, .agg [.int .i64 a0.f_Kind, .int .i64 a0.f_A, .int .i64 a0.f_B]), (1, .fn (.func 19) [] [.ptr (0, 0) 0 0, .ptr (0, 1) 0 0]), (2, .ptr (0, 2) 0 0), (3, .ptr (0, 3) 0 0)] _ _
  refine And.intro (fun hp => hp) ?_
  refine And.intro (fun hc => (bqf hc)) ?_
  refine And.intro (fun hp => hp) ?_
  show yops _ _ _ [(27, .cnd (((((!a1) || (a0.f_Kind != 1)) || (a0.f_B != 0)) || (decide (a0.f_A < 0))) == false) (.int .i64 a0.f_A)), (26, .cnd (((((!a1) || (a0.f_Kind != 1)) || (a0.f_B != 0)) || (decide (a0.f_A < 0))) == false) (.ptr (3, 0) 0 1)), (25, .bool ((((!a1) || (a0.f_Kind != 1)) || (a0.f_B != 0)) || (decide (a0.f_A < 0)))), (24, .bool ((((!a1) || (a0.f_Kind != 1)) || (a0.f_B != 0)) || (decide (a0.f_A < 0)))), (23, .cnd ((((!a1) || (a0.f_Kind != 1)) || (a0.f_B != 0)) == false) (.bool (decide (a0.f_A < 0)))), (22, .cnd ((((!a1) || (a0.f_Kind != 1)) || (a0.f_B != 0)) == false) (.int .i64 a0.f_A)), (21, .cnd ((((!a1) || (a0.f_Kind != 1)) || (a0.f_B != 0)) == false) (.ptr (3, 0) 0 1)), (20, .bool (((!a1) || (a0.f_Kind != 1)) || (a0.f_B != 0))), (19, .bool (((!a1) || (a0.f_Kind != 1)) || (a0.f_B != 0))), (18, .cnd (((!a1) || (a0.f_Kind != 1)) == false) (.bool (a0.f_B != 0))), (17, .cnd (((!a1) || (a0.f_Kind != 1)) == false) (.int .i64 a0.f_B)), (16, .cnd (((!a1) || (a0.f_Kind != 1)) == false) (.ptr (3, 0) 0 2)), (15, .bool ((!a1) || (a0.f_Kind != 1))), (14, .bool ((!a1) || (a0.f_Kind != 1))), (13, .cnd ((!a1) == false) (.bool (a0.f_Kind != 1))), (12, .cnd ((!a1) == false) (.int .i64 a0.f_Kind)), (11, .cnd ((!a1) == false) (.ptr (3, 0) 0 0)), (10, .bool (!a1)), (9, .bool (!a1)), (8, .bool a1), (6, .ptr (5, 0) 0 0), (5, .ptr (4, 0) 0 0), (4, .ptr (3, 0) 0 0), (0, .agg [.int .i64 a0.f_Kind, .int .i64 a0.f_A, .int .i64 a0.f_B]), (1, .fn (.func 19) [] [.ptr (0, 0) 0 0, .ptr (0, 1) 0 0]), (2, .ptr (0, 2) 0 0), (3, .ptr (0, 3) 0 0)] _ _
  refine And.intro (fun hp => hp) ?_
  refine And.intro (fun hp => (And.intro hp hp)) ?_
  refine And.intro (fun hc => (bqf hc)) ?_
  refine LWp.sim (e := [(3, .ptr (0, 3) 0 0), (4, .ptr (3, 0) 0 0), (5, .ptr (4, 0) 0 0), (6, .ptr (5, 0) 0 0), (31, .bool (((((!a1) || (a0.f_Kind != 1)) || (a0.f_B != 0)) || (decide (a0.f_A < 0))) || (decide (a0.f_A ≥ ((a4.length : Nat) : Int)))))]) (L := [((0, 0), .one [.msl (6, 0) 3 0 a2.length false]), ((0, 1), .one [.fn (.func 16) [] [.ptr (0, 5) 0 0]]), ((0, 2), .one [.bool a1]), ((0, 3), .one [.msl (7, 0) 1 0 a4.length true]), ((0, 5), .one [.isl 2 (a3.map e_QValue) false]), ((3, 0), .one [.int .i64 a0.f_Kind, .int .i64 a0.f_A, .int .i64 a0.f_B]), ((4, 0), .one [.fn (.func 19) [] [.ptr (0, 0) 0 0, .ptr (0, 1) 0 0]]), ((5, 0), .one [.isl 1 (([] : List Int).map e_i64) true, .str ([] : List UInt8)]), ((6, 0), .rows 3 (a2.map e_QKey)), ((7, 0), .rows 1 (a4.map e_sl_QOp))]) (n := 8) ?_ ?_
  · exact simI (M := [((3, 0), (3, 0)), ((4, 0), (4, 0)), ((5, 0), (5, 0)), ((6, 0), (0, 4)), ((7, 0), (0, 6))]) rfl (And.intro (Vw.ptr _ _ _ _ rfl) (And.intro (Vw.ptr _ _ _ _ rfl) (And.intro (Vw.ptr _ _ _ _ rfl) (And.intro (Vw.ptr _ _ _ _ rfl) (And.intro (Vw.same _ rfl) trivial))))) (And.intro (And.intro rfl (BVw.oneL (And.intro (Vw.mslE rfl (by first | rfl | simp) rfl) trivial))) (And.intro (And.intro rfl (BVw.oneL (And.intro (Vw.fnL trivial (And.intro (Vw.ptr _ _ _ _ rfl) trivial)) trivial))) (And.intro (And.intro rfl (BVw.oneL (And.intro (Vw.same _ rfl) trivial))) (And.intro (And.intro rfl (BVw.oneL (And.intro (Vw.mslE rfl (by first | rfl | simp) rfl) trivial))) (And.intro (And.intro rfl (BVw.oneL (And.intro (Vw.same _ rfl) trivial))) (And.intro (And.intro rfl (BVw.oneL (And.intro (Vw.same _ rfl) (And.intro (Vw.same _ rfl) (And.intro (Vw.same _ rfl) trivial))))) (And.intro (And.intro rfl (BVw.oneL (And.intro (Vw.fnL trivial (And.intro (Vw.ptr _ _ _ _ rfl) (And.intro (Vw.ptr _ _ _ _ rfl) trivial))) trivial))) (And.intro (And.intro rfl (BVw.oneL (And.intro (Vw.same _ rfl) (And.intro (Vw.same _ rfl) trivial)))) (And.intro (And.intro rfl (BVw.enc e_QKey (fun _ => rfl) _ a2)) (And.intro (And.intro rfl (BVw.enc e_sl_QOp (fun _ => rfl) _ a4)) trivial))))))))))
  refine condI (v := (((((!a1) || (a0.f_Kind != 1)) || (a0.f_B != 0)) || (decide (a0.f_A < 0))) || (decide (a0.f_A ≥ ((a4.length : Nat) : Int))))) rfl trivial (fun h1 => ?_) (fun h1 => ?_)
  · have h := ite_tt h1 h
    refine seqI ?_
    refine regI ?_
    refine retI ?_
    cases h
    exact And.intro (And.intro trivial (And.intro rfl (Nat.le_of_ble_eq_true rfl))) (finI (n' := 8) [((3, 0), (6, 0)), ((4, 0), (7, 0))] [] rfl rfl (Vw.aggL (And.intro (Vw.islF _ _ _) (And.intro (Vw.same _ rfl) trivial))) (And.intro (And.intro rfl (BVw.oneL (And.intro (Vw.mslE rfl (by first | rfl | simp) rfl) trivial))) (And.intro (And.intro rfl (BVw.oneL (And.intro (Vw.fnL trivial (And.intro (Vw.ptr _ _ _ _ rfl) trivial)) trivial))) (And.intro (And.intro rfl (BVw.oneL (And.intro (Vw.same _ rfl) trivial))) (And.intro (And.intro rfl (BVw.oneL (And.intro (Vw.mslE rfl (by first | rfl | simp) rfl) trivial))) (And.intro (And.intro rfl (BVw.oneL (And.intro (Vw.same _ rfl) trivial))) (And.intro (And.intro rfl (BVw.enc e_QKey (fun _ => rfl) _ a2)) (And.intro (And.intro rfl (BVw.enc e_sl_QOp (fun _ => rfl) _ a4)) trivial))))))))
  · have h := ite_ff h1 h
    refine skipI ?_
    refine seqI ?_
    refine drawO rfl ?_
    obtain ⟨h2, h⟩ := ite_some h
    refine And.intro h2 ?_
    obtain ⟨h3, h⟩ := ite_some h
    refine Exists.intro (e_sl_QOp (a4.getD (0 + a0.f_A.toNat) default)) (And.intro (getD_enc e_sl_QOp _ _ h3) (And.intro (And.intro (lt_map e_sl_QOp h3) (Nat.le_of_ble_eq_true rfl)) ?_))
    obtain ⟨v1, h4, h⟩ := bind_some h
    refine bcall (k := 3) (m := 1) (L' := [((4, 0), .one [.fn (.func 19) [] [.ptr (0, 0) 0 0, .ptr (0, 1) 0 0]]), ((0, 0), .one [.msl (8, 0) 3 0 v1.2.length false]), ((0, 1), .one [.fn (.func 16) [] [.ptr (0, 5) 0 0]]), ((0, 5), .one [.isl 2 (a3.map e_QValue) false]), ((8, 0), .rows 3 (v1.2.map e_QKey))]) (rest := [((0, 2), .one [.bool a1]), ((0, 3), .one [.msl (7, 0) 1 0 a4.length true]), ((3, 0), .one [.int .i64 a0.f_Kind, .int .i64 a0.f_A, .int .i64 a0.f_B]), ((5, 0), .one [.isl 1 (([] : List Int).map e_i64) true, .str ([] : List UInt8)]), ((7, 0), .rows 1 (a4.map e_sl_QOp))]) (R' := .int .i64 v1.1) [((1, 0), (4, 0)), ((1, 1), (0, 0)), ((1, 2), (0, 1)), ((2, 0), (6, 0)), ((1, 3), (0, 5))] (f31b0_ok (show Clo Try.prog (.func 38) [] [.ptr (1, 0) 0 0] (fun (s : (List G_QKey)) => [((1, 0), .one [.fn (.func 19) [] [.ptr (1, 1) 0 0, .ptr (1, 2) 0 0]]), ((1, 1), .one [.msl (2, 0) 3 0 s.length false]), ((1, 2), .one [.fn (.func 16) [] [.ptr (1, 3) 0 0]]), ((1, 3), .one [.isl 2 (a3.map e_QValue) false]), ((2, 0), .rows 3 (s.map e_QKey))]) (fun (x : G_QKey) => [.agg [.int .i64 x.f_Kind, .int .i64 x.f_A, .int .i64 x.f_B]]) (fun (b : Int) => .int .i64 b) (fun (s : (List G_QKey)) (x : G_QKey) => (S_querylang_Compile_1_1c_38 m s a3 x).map fun o => (o.1, o.2)) from Clo.mk' (fun s => Tl.lit rfl (And.intro (rfl) (And.intro (rfl) (And.intro (rfl) (And.intro (rfl) (And.intro (rows_inP e_QKey (fun _ => rfl) _ _) trivial))))) rfl) rfl rfl (fun _ => rfl) (fun s x o h => by obtain ⟨o1, h1, rfl⟩ := Option.map_eq_some_iff.1 h; exact Exists.intro _ (And.intro (f38c1_ok h1) (And.intro rfl (And.intro rfl (And.intro rfl (And.intro rfl (And.intro rfl (And.intro rfl (And.intro rfl (And.intro rfl (And.intro rfl (And.intro (rows_ren e_QKey (fun _ => rfl) _ _) trivial))))))))))))) h4) rfl rfl rfl (And.intro (Vw.same _ rfl) (And.intro (Vw.same _ rfl) (And.intro (Vw.fnL trivial (And.intro (Vw.ptr _ _ _ _ rfl) trivial)) trivial))) (And.intro (h0I (4, 0) rfl rfl (BVw.oneL (And.intro (Vw.fnL trivial (And.intro (Vw.ptr _ _ _ _ rfl) (And.intro (Vw.ptr _ _ _ _ rfl) trivial))) trivial))) (And.intro (h0I (0, 0) rfl rfl (BVw.oneL (And.intro (Vw.mslE rfl (by first | rfl | simp) rfl) trivial))) (And.intro (h0I (0, 1) rfl rfl (BVw.oneL (And.intro (Vw.fnL trivial (And.intro (Vw.ptr _ _ _ _ rfl) trivial)) trivial))) (And.intro (h0I (0, 5) rfl rfl (BVw.oneL (And.intro (Vw.same _ rfl) trivial))) (And.intro (h0I (6, 0) rfl rfl (BVw.enc e_QKey (fun _ => rfl) _ a2)) trivial))))) (nid_ren _ rfl) (And.intro rfl (And.intro rfl (And.intro rfl (And.intro rfl (And.intro rfl (And.intro rfl (And.intro rfl (And.intro rfl (And.intro rfl (And.intro ((congrArg (ABlock.ren _) (rows_ren e_QKey (fun _ => rfl) _ _)).trans (rows_ren e_QKey (fun _ => rfl) _ _)) trivial)))))))))) rfl ?_
    show yops _ _ _ [(41, .int .i64 v1.1), (40, .fn (.func 38) [] [.ptr (4, 0) 0 0]), (39, .int .i64 a0.f_A), (38, .ptr (3, 0) 0 1), (37, .isl 3 ((a4.getD (0 + a0.f_A.toNat) default).map e_QOp) false), (36, .ptr (7, 0) (0 + a0.f_A.toNat) 0), (35, .int .i64 a0.f_A), (34, .ptr (3, 0) 0 1), (33, .msl (7, 0) 1 0 a4.length true), (3, .ptr (0, 3) 0 0), (4, .ptr (3, 0) 0 0), (5, .ptr (4, 0) 0 0), (6, .ptr (5, 0) 0 0), (31, .bool (((((!a1) || (a0.f_Kind != 1)) || (a0.f_B != 0)) || (decide (a0.f_A < 0))) || (decide (a0.f_A ≥ ((a4.length : Nat) : Int)))))] _ _
    refine LWp.sim (e := [(6, .ptr (3, 0) 0 0), (7, .int .i64 v1.1)]) (L := [((0, 0), .one [.msl (4, 0) 3 0 v1.2.length false]), ((0, 1), .one [.fn (.func 16) [] [.ptr (0, 5) 0 0]]), ((0, 2), .one [.bool a1]), ((0, 3), .one [.msl (5, 0) 1 0 a4.length true]), ((0, 5), .one [.isl 2 (a3.map e_QValue) false]), ((3, 0), .one [.isl 1 (([] : List Int).map e_i64) true, .str ([] : List UInt8)]), ((4, 0), .rows 3 (v1.2.map e_QKey)), ((5, 0), .rows 1 (a4.map e_sl_QOp))]) (n := 6) ?_ ?_
    · exact simI (M := [((3, 0), (5, 0)), ((4, 0), (8, 0)), ((5, 0), (7, 0))]) rfl (And.intro (Vw.ptr _ _ _ _ rfl) (And.intro (Vw.same _ rfl) trivial)) (And.intro (And.intro rfl (BVw.oneL (And.intro (Vw.mslE rfl (by first | rfl | simp) rfl) trivial))) (And.intro (And.intro rfl (BVw.oneL (And.intro (Vw.fnL trivial (And.intro (Vw.ptr _ _ _ _ rfl) trivial)) trivial))) (And.intro (And.intro rfl (BVw.oneL (And.intro (Vw.same _ rfl) trivial))) (And.intro (And.intro rfl (BVw.oneL (And.intro (Vw.mslE rfl (by first | rfl | simp) rfl) trivial))) (And.intro (And.intro rfl (BVw.oneL (And.intro (Vw.same _ rfl) trivial))) (And.intro (And.intro rfl (BVw.oneL (And.intro (Vw.same _ rfl) (And.intro (Vw.same _ rfl) trivial)))) (And.intro (And.intro rfl (BVw.enc e_QKey (fun _ => rfl) _ v1.2)) (And.intro (And.intro rfl (BVw.enc e_sl_QOp (fun _ => rfl) _ a4)) trivial))))))))
    refine seqI ?_
    refine regI ?_
    refine retI ?_
    cases h
    exact And.intro (And.intro trivial (And.intro rfl (Nat.le_of_ble_eq_true rfl))) (finI (n' := 6) [((3, 0), (4, 0)), ((4, 0), (5, 0))] [] rfl rfl (Vw.aggL (And.intro (Vw.islF _ _ _) (And.intro (Vw.same _ rfl) trivial))) (And.intro (And.intro rfl (BVw.oneL (And.intro (Vw.mslE rfl (by first | rfl | simp) rfl) trivial))) (And.intro (And.intro rfl (BVw.oneL (And.intro (Vw.fnL trivial (And.intro (Vw.ptr _ _ _ _ rfl) trivial)) trivial))) (And.intro (And.intro rfl (BVw.oneL (And.intro (Vw.same _ rfl) trivial))) (And.intro (And.intro rfl (BVw.oneL (And.intro (Vw.mslE rfl (by first | rfl | simp) rfl) trivial))) (And.intro (And.intro rfl (BVw.oneL (And.intro (Vw.same _ rfl) trivial))) (And.intro (And.intro rfl (BVw.enc e_QKey (fun _ => rfl) _ v1.2)) (And.intro (And.intro rfl (BVw.enc e_sl_QOp (fun _ => rfl) _ a4)) trivial))))))))

theorem f37b1_ok {a0 : G_QKey} {a1 : Bool} {a2 : List G_QKey} {a3 : List G_QValue} {a4 : List (List G_QOp)} {m : Option Nat} {o : G_QValue × (List G_QKey)} (h : S_querylang_Compile_1_37 m a0 a1 a2 a3 a4 = some o) : ACalls Try.prog 37 [.agg [.int .i64 a0.f_Kind, .int .i64 a0.f_A, .int .i64 a0.f_B], .fn (.func 19) [] [.ptr (0, 0) 0 0, .ptr (0, 1) 0 0], .ptr (0, 2) 0 0, .ptr (0, 3) 0 0] [((0, 0), .one [.msl (0, 4) 3 0 a2.length false]), ((0, 1), .one [.fn (.func 16) [] [.ptr (0, 5) 0 0]]), ((0, 2), .one [.bool a1]), ((0, 3), .one [.msl (0, 6) 1 0 a4.length true]), ((0, 4), .rows 3 (a2.map e_QKey)), ((0, 5), .one [.isl 2 (a3.map e_QValue) false]), ((0, 6), .rows 1 (a4.map e_sl_QOp))] 3 (Gives 5 (.agg [.isl 1 (o.1.f_Nums.map e_i64) false, .str o.1.f_Text]) [((0, 0), .one [.msl (3, 0) 3 0 o.2.length false]), ((0, 1), .one [.fn (.func 16) [] [.ptr (0, 5) 0 0]]), ((0, 2), .one [.bool a1]), ((0, 3), .one [.msl (4, 0) 1 0 a4.length true]), ((0, 5), .one [.isl 2 (a3.map e_QValue) false]), ((3, 0), .rows 3 (o.2.map e_QKey)), ((4, 0), .rows 1 (a4.map e_sl_QOp))]) := bfn_of (L := f37b1_L) f37b1_low f37b1_fok (Nat.le_of_ble_eq_true rfl) (f37b1_start h)

def f27_c0 : LCode := (.seq (.region [⟨some 3, .box (.t 0), none⟩,
   ⟨some 5, .box (.t 2), none⟩,
   ⟨some 6, .mv (.c (.int .i64 0)), none⟩,
   ⟨some 7, .mv (.c (.bool false)), none⟩])
 (.seq (.seq (.region [⟨some 8, .faddr 0 (.t 5), none⟩,
   ⟨some 9, .load false 1 (.t 8), none⟩])
 (.block 0
  (.seq (.region [⟨some 11, .bin .eql (.t 9) (.c (.int .i64 1)), none⟩,
    ⟨some 10, .mv (.t 11), none⟩])
  (.cond (.t 10)
   (.seq (.quiet [⟨some 12, .faddr 2 (.t 5), none⟩,
     ⟨some 13, .load false 1 (.t 12), none⟩,
     ⟨some 14, .bin .eql (.t 13) (.c (.int .i64 0)), none⟩,
     ⟨some 6, .mv (.c (.int .i64 0)), none⟩,
     ⟨some 7, .mv (.t 14), none⟩])
   .ret)
   (.seq (.region [⟨some 16, .bin .eql (.t 9) (.c (.int .i64 2)), none⟩,
     ⟨some 15, .mv (.t 16), none⟩])
   (.cond (.t 15)
    (.seq (.quiet [⟨some 17, .faddr 2 (.t 5), none⟩,
      ⟨some 18, .load false 1 (.t 17), none⟩,
      ⟨some 19, .bin .eql (.t 18) (.c (.int .i64 0)), none⟩,
      ⟨some 20, .mv (.t 19), none⟩,
      ⟨some 21, .faddr 1 (.t 5), some (20, true)⟩,
      ⟨some 22, .load false 1 (.t 21), some (20, true)⟩,
      ⟨some 23, .bin .leq (.c (.int .i64 0)) (.t 22), some (20, true)⟩,
      ⟨some 24, .pick (.t 20) (.t 23) (.c (.bool false)), none⟩,
      ⟨some 25, .mv (.t 24), none⟩,
      ⟨some 26, .faddr 1 (.t 5), some (25, true)⟩,
      ⟨some 27, .load false 1 (.t 26), some (25, true)⟩,
      ⟨some 28, .faddr 0 (.t 3), some (25, true)⟩,
      ⟨some 29, .load false 1 (.t 28), some (25, true)⟩,
      ⟨some 30, .bin .lss (.t 27) (.t 29), some (25, true)⟩,
      ⟨some 31, .pick (.t 25) (.t 30) (.c (.bool false)), none⟩,
      ⟨some 6, .mv (.c (.int .i64 0)), none⟩,
      ⟨some 7, .mv (.t 31), none⟩])
    .ret)
    (.seq (.region [⟨some 33, .bin .eql (.t 9) (.c (.int .i64 3)), none⟩,
      ⟨some 32, .mv (.t 33), none⟩])
    (.cond (.t 32)
     (.seq (.quiet [⟨some 34, .faddr 2 (.t 5), none⟩,
       ⟨some 35, .load false 1 (.t 34), none⟩,
       ⟨some 36, .bin .eql (.t 35) (.c (.int .i64 0)), none⟩,
       ⟨some 37, .mv (.t 36), none⟩,
       ⟨some 38, .faddr 1 (.t 5), some (37, true)⟩,
       ⟨some 39, .load false 1 (.t 38), some (37, true)⟩,
       ⟨some 40, .bin .leq (.c (.int .i64 0)) (.t 39), some (37, true)⟩,
       ⟨some 41, .pick (.t 37) (.t 40) (.c (.bool false)), none⟩,
       ⟨some 42, .mv (.t 41), none⟩,
       ⟨some 43, .faddr 1 (.t 5), some (42, true)⟩,
       ⟨some 44, .load false 1 (.t 43), some (42, true)⟩,
       ⟨some 45, .mv (.t 1), some (42, true)⟩,
       ⟨some 46, .bin .lss (.t 44) (.t 45), some (42, true)⟩,
       ⟨some 47, .pick (.t 42) (.t 46) (.c (.bool false)), none⟩,
       ⟨some 6, .mv (.c (.int .i64 0)), none⟩,
       ⟨some 7, .mv (.t 47), none⟩])
     .ret)
     (.seq (.region [⟨some 49, .bin .eql (.t 9) (.c (.int .i64 4)), none⟩,
       ⟨some 48, .mv (.t 49), none⟩])
     (.cond (.t 48)
      (.seq (.quiet [⟨some 50, .mv (.t 1), none⟩,
        ⟨some 51, .bin .gtr (.t 50) (.c (.int .i64 0)), none⟩,
        ⟨some 52, .mv (.t 51), none⟩,
        ⟨some 53, .faddr 1 (.t 5), some (52, true)⟩,
        ⟨some 54, .load false 1 (.t 53), some (52, true)⟩,
        ⟨some 55, .bin .eql (.t 54) (.c (.int .i64 0)), some (52, true)⟩,
        ⟨some 56, .pick (.t 52) (.t 55) (.c (.bool false)), none⟩,
        ⟨some 57, .mv (.t 56), none⟩,
        ⟨some 58, .faddr 2 (.t 5), some (57, true)⟩,
        ⟨some 59, .load false 1 (.t 58), some (57, true)⟩,
        ⟨some 60, .bin .eql (.t 59) (.c (.int .i64 0)), some (57, true)⟩,
        ⟨some 61, .pick (.t 57) (.t 60) (.c (.bool false)), none⟩,
        ⟨some 6, .mv (.c (.int .i64 1)), none⟩,
        ⟨some 7, .mv (.t 61), none⟩])
      .ret)
      (.seq (.region [⟨some 63, .bin .eql (.t 9) (.c (.int .i64 5)), none⟩,
        ⟨some 62, .mv (.t 63), none⟩])
      (.cond (.t 62)
       (.seq (.quiet [⟨some 64, .faddr 1 (.t 5), none⟩,
         ⟨some 65, .load false 1 (.t 64), none⟩,
         ⟨some 66, .bin .leq (.c (.int .i64 0)) (.t 65), none⟩,
         ⟨some 67, .mv (.t 66), none⟩,
         ⟨some 68, .faddr 1 (.t 5), some (67, true)⟩,
         ⟨some 69, .load false 1 (.t 68), some (67, true)⟩,
         ⟨some 70, .mv (.t 1), some (67, true)⟩,
         ⟨some 71, .bin .lss (.t 69) (.t 70), some (67, true)⟩,
         ⟨some 72, .pick (.t 67) (.t 71) (.c (.bool false)), none⟩,
         ⟨some 73, .mv (.t 72), none⟩,
         ⟨some 74, .faddr 2 (.t 5), some (73, true)⟩,
         ⟨some 75, .load false 1 (.t 74), some (73, true)⟩,
         ⟨some 76, .bin .leq (.c (.int .i64 0)) (.t 75), some (73, true)⟩,
         ⟨some 77, .pick (.t 73) (.t 76) (.c (.bool false)), none⟩,
         ⟨some 78, .mv (.t 77), none⟩,
         ⟨some 79, .faddr 2 (.t 5), some (78, true)⟩,
         ⟨some 80, .load false 1 (.t 79), some (78, true)⟩,
         ⟨some 81, .mv (.t 1), some (78, true)⟩,
         ⟨some 82, .bin .lss (.t 80) (.t 81), some (78, true)⟩,
         ⟨some 83, .pick (.t 78) (.t 82) (.c (.bool false)), none⟩,
         ⟨some 6, .mv (.c (.int .i64 1)), none⟩,
         ⟨some 7, .mv (.t 83), none⟩])
       .ret)
       .skip))))))))))))
 (.seq (.quiet [⟨some 84, .faddr 1 (.t 5), none⟩,
   ⟨some 85, .load false 1 (.t 84), none⟩,
   ⟨some 86, .bin .eql (.t 85) (.c (.int .i64 0)), none⟩,
   ⟨some 87, .mv (.t 86), none⟩,
   ⟨some 88, .faddr 2 (.t 5), some (87, true)⟩,
   ⟨some 89, .load false 1 (.t 88), some (87, true)⟩,
   ⟨some 90, .bin .eql (.t 89) (.c (.int .i64 0)), some (87, true)⟩,
   ⟨some 91, .pick (.t 87) (.t 90) (.c (.bool false)), none⟩,
   ⟨some 6, .mv (.c (.int .i64 2)), none⟩,
   ⟨some 7, .mv (.t 91), none⟩])
 .ret)))
def f27_lay : Lay := ⟨92, [], false⟩
def f27_res : List LRes := [.t 6, .t 7]
def f27_L : LFn := ⟨3, f27_lay, f27_c0, f27_res⟩
theorem f27_low : lowFn Try.prog [] 27 = some f27_L := by kernel_rfl
theorem f27_fok : FnOk Try.prog 27 := ⟨_, Try.func27, rfl, rfl⟩
noncomputable def S_glossatorref3_effect (m : Option Nat) (a0 : G_QProgram) (a1 : Int) (a2 : G_QOp) : Option (Int × Bool) :=
  if (a2.f_Op == 1) = true then
    some (0, (a2.f_B == 0))
  else
    if (a2.f_Op == 2) = true then
      some (0, (((a2.f_B == 0) && (decide ((0 : Int) ≤ a2.f_A))) && (decide (a2.f_A < a0.f_Inputs))))
    else
      if (a2.f_Op == 3) = true then
        some (0, (((a2.f_B == 0) && (decide ((0 : Int) ≤ a2.f_A))) && (decide (a2.f_A < a1))))
      else
        if (a2.f_Op == 4) = true then
          some (1, (((decide (a1 > 0)) && (a2.f_A == 0)) && (a2.f_B == 0)))
        else
          if (a2.f_Op == 5) = true then
            some (1, ((((decide ((0 : Int) ≤ a2.f_A)) && (decide (a2.f_A < a1))) && (decide ((0 : Int) ≤ a2.f_B))) && (decide (a2.f_B < a1))))
          else
            some (2, ((a2.f_A == 0) && (a2.f_B == 0)))

def f27_Q (a0 : G_QProgram) (a1 : Int) (a2 : G_QOp) (o : Int × Bool) : Exit → Env → AHeap → Nat → Prop := FinK f27_res (PureEnd (.tup [.int .i64 o.1, .bool o.2]))

theorem f27_start {a0 : G_QProgram} {a1 : Int} {a2 : G_QOp} {m : Option Nat} {o : Int × Bool} (h : S_glossatorref3_effect m a0 a1 a2 = some o) : LWp Try.prog f27_lay 0 f27_c0 (f27_Q a0 a1 a2 o) (initEnv 0 [.agg [.int .i64 a0.f_Inputs, .isl 1 (a0.f_Queries.map e_sl_QOp) false], .int .i64 a1, .agg [.int .i64 a2.f_Op, .int .i64 a2.f_A, .int .i64 a2.f_B]]) [] 0 := by
  unfold S_glossatorref3_effect at h
  refine seqI ?_
  refine regI ?_
  refine seqI ?_
  refine seqI ?_
  refine regI ?_
  refine blockI ?_
  refine seqI ?_
  refine regI ?_
  refine LWp.sim (e := [(1, .int .i64 a1), (3, .ptr (0, 0) 0 0), (5, .ptr (1, 0) 0 0), (9, .int .i64 a2.f_Op), (10, .bool (a2.f_Op == 1))]) (L := [((0, 0), .one [.int .i64 a0.f_Inputs, .isl 1 (a0.f_Queries.map e_sl_QOp) false]), ((1, 0), .one [.int .i64 a2.f_Op, .int .i64 a2.f_A, .int .i64 a2.f_B])]) (n := 2) ?_ ?_
  · exact simI (M := [((0, 0), (0, 0)), ((1, 0), (1, 0))]) rfl (And.intro (Vw.same _ rfl) (And.intro (Vw.ptr _ _ _ _ rfl) (And.intro (Vw.ptr _ _ _ _ rfl) (And.intro (Vw.same _ rfl) (And.intro (Vw.same _ rfl) trivial))))) (And.intro (And.intro rfl (BVw.oneL (And.intro (Vw.same _ rfl) (And.intro (Vw.same _ rfl) trivial)))) (And.intro (And.intro rfl (BVw.oneL (And.intro (Vw.same _ rfl) (And.intro (Vw.same _ rfl) (And.intro (Vw.same _ rfl) trivial))))) trivial))
  refine condI (v := (a2.f_Op == 1)) rfl trivial (fun h1 => ?_) (fun h1 => ?_)
  · have h := ite_tt h1 h
    refine seqI ?_
    refine quietI ?_
    refine retI ?_
    cases h
    exact And.intro trivial (And.intro trivial (And.intro rfl (Vw.same _ rfl)))
  · have h := ite_ff h1 h
    refine seqI ?_
    refine regI ?_
    refine condI (v := (a2.f_Op == 2)) rfl trivial (fun h2 => ?_) (fun h2 => ?_)
    · have h := ite_tt h2 h
      refine seqI ?_
      refine quietI ?_
      refine And.intro (fun hp => hp) ?_
      show yqs _ _ [(22, .cnd ((a2.f_B == 0) == true) (.int .i64 a2.f_A)), (21, .cnd ((a2.f_B == 0) == true) (.ptr (1, 0) 0 1)), (20, .bool (a2.f_B == 0)), (19, .bool (a2.f_B == 0)), (18, .int .i64 a2.f_B), (17, .ptr (1, 0) 0 2), (15, .bool (a2.f_Op == 2)), (16, .bool (a2.f_Op == 2)), (1, .int .i64 a1), (3, .ptr (0, 0) 0 0), (5, .ptr (1, 0) 0 0), (9, .int .i64 a2.f_Op), (10, .bool (a2.f_Op == 1))] _ _
      refine And.intro (fun hp => hp) ?_
      refine And.intro (fun hc => (bqt hc)) ?_
      refine And.intro (fun hp => hp) ?_
      show yqs _ _ [(27, .cnd (((a2.f_B == 0) && (decide ((0 : Int) ≤ a2.f_A))) == true) (.int .i64 a2.f_A)), (26, .cnd (((a2.f_B == 0) && (decide ((0 : Int) ≤ a2.f_A))) == true) (.ptr (1, 0) 0 1)), (25, .bool ((a2.f_B == 0) && (decide ((0 : Int) ≤ a2.f_A)))), (24, .bool ((a2.f_B == 0) && (decide ((0 : Int) ≤ a2.f_A)))), (23, .cnd ((a2.f_B == 0) == true) (.bool (decide ((0 : Int) ≤ a2.f_A)))), (22, .cnd ((a2.f_B == 0) == true) (.int .i64 a2.f_A)), (21, .cnd ((a2.f_B == 0) == true) (.ptr (1, 0) 0 1)), (20, .bool (a2.f_B == 0)), (19, .bool (a2.f_B == 0)), (18, .int .i64 a2.f_B), (17, .ptr (1, 0) 0 2), (15, .bool (a2.f_Op == 2)), (16, .bool (a2.f_Op == 2)), (1, .int .i64 a1), (3, .ptr (0, 0) 0 0), (5, .ptr (1, 0) 0 0), (9, .int .i64 a2.f_Op), (10, .bool (a2.f_Op == 1))] _ _
      refine And.intro (fun hp => hp) ?_
      refine And.intro (fun hp => (And.intro hp hp)) ?_
      refine And.intro (fun hc => (bqt hc)) ?_
      refine LWp.sim (e := [(6, .int .i64 0), (7, .bool (((a2.f_B == 0) && (decide ((0 : Int) ≤ a2.f_A))) && (decide (a2.f_A < a0.f_Inputs))))]) (L := []) (n := 0) ?_ ?_
      · exact simI (M := []) rfl (And.intro (Vw.same _ rfl) (And.intro (Vw.same _ rfl) trivial)) trivial
      refine retI ?_
      cases h
      exact And.intro trivial (And.intro trivial (And.intro rfl (Vw.same _ rfl)))
    · have h := ite_ff h2 h
      refine seqI ?_
      refine regI ?_
      refine condI (v := (a2.f_Op == 3)) rfl trivial (fun h3 => ?_) (fun h3 => ?_)
      · have h := ite_tt h3 h
        refine seqI ?_
        refine quietI ?_
        refine And.intro (fun hp => hp) ?_
        show yqs _ _ [(39, .cnd ((a2.f_B == 0) == true) (.int .i64 a2.f_A)), (38, .cnd ((a2.f_B == 0) == true) (.ptr (1, 0) 0 1)), (37, .bool (a2.f_B == 0)), (36, .bool (a2.f_B == 0)), (35, .int .i64 a2.f_B), (34, .ptr (1, 0) 0 2), (32, .bool (a2.f_Op == 3)), (33, .bool (a2.f_Op == 3)), (15, .bool (a2.f_Op == 2)), (16, .bool (a2.f_Op == 2)), (1, .int .i64 a1), (3, .ptr (0, 0) 0 0), (5, .ptr (1, 0) 0 0), (9, .int .i64 a2.f_Op), (10, .bool (a2.f_Op == 1))] _ _
        refine And.intro (fun hp => hp) ?_
        refine And.intro (fun hc => (bqt hc)) ?_
        refine And.intro (fun hp => hp) ?_
        show yqs _ _ [(44, .cnd (((a2.f_B == 0) && (decide ((0 : Int) ≤ a2.f_A))) == true) (.int .i64 a2.f_A)), (43, .cnd (((a2.f_B == 0) && (decide ((0 : Int) ≤ a2.f_A))) == true) (.ptr (1, 0) 0 1)), (42, .bool ((a2.f_B == 0) && (decide ((0 : Int) ≤ a2.f_A)))), (41, .bool ((a2.f_B == 0) && (decide ((0 : Int) ≤ a2.f_A)))), (40, .cnd ((a2.f_B == 0) == true) (.bool (decide ((0 : Int) ≤ a2.f_A)))), (39, .cnd ((a2.f_B == 0) == true) (.int .i64 a2.f_A)), (38, .cnd ((a2.f_B == 0) == true) (.ptr (1, 0) 0 1)), (37, .bool (a2.f_B == 0)), (36, .bool (a2.f_B == 0)), (35, .int .i64 a2.f_B), (34, .ptr (1, 0) 0 2), (32, .bool (a2.f_Op == 3)), (33, .bool (a2.f_Op == 3)), (15, .bool (a2.f_Op == 2)), (16, .bool (a2.f_Op == 2)), (1, .int .i64 a1), (3, .ptr (0, 0) 0 0), (5, .ptr (1, 0) 0 0), (9, .int .i64 a2.f_Op), (10, .bool (a2.f_Op == 1))] _ _
        refine And.intro (fun hp => (And.intro hp hp)) ?_
        refine And.intro (fun hc => (bqt hc)) ?_
        refine LWp.sim (e := [(6, .int .i64 0), (7, .bool (((a2.f_B == 0) && (decide ((0 : Int) ≤ a2.f_A))) && (decide (a2.f_A < a1))))]) (L := []) (n := 0) ?_ ?_
        · exact simI (M := []) rfl (And.intro (Vw.same _ rfl) (And.intro (Vw.same _ rfl) trivial)) trivial
        refine retI ?_
        cases h
        exact And.intro trivial (And.intro trivial (And.intro rfl (Vw.same _ rfl)))
      · have h := ite_ff h3 h
        refine seqI ?_
        refine regI ?_
        refine condI (v := (a2.f_Op == 4)) rfl trivial (fun h4 => ?_) (fun h4 => ?_)
        · have h := ite_tt h4 h
          refine seqI ?_
          refine quietI ?_
          refine And.intro (fun hp => hp) ?_
          show yqs _ _ [(54, .cnd ((decide (a1 > 0)) == true) (.int .i64 a2.f_A)), (53, .cnd ((decide (a1 > 0)) == true) (.ptr (1, 0) 0 1)), (52, .bool (decide (a1 > 0))), (51, .bool (decide (a1 > 0))), (50, .int .i64 a1), (48, .bool (a2.f_Op == 4)), (49, .bool (a2.f_Op == 4)), (32, .bool (a2.f_Op == 3)), (33, .bool (a2.f_Op == 3)), (15, .bool (a2.f_Op == 2)), (16, .bool (a2.f_Op == 2)), (1, .int .i64 a1), (3, .ptr (0, 0) 0 0), (5, .ptr (1, 0) 0 0), (9, .int .i64 a2.f_Op), (10, .bool (a2.f_Op == 1))] _ _
          refine And.intro (fun hp => hp) ?_
          refine And.intro (fun hc => (bqt hc)) ?_
          refine And.intro (fun hp => hp) ?_
          show yqs _ _ [(59, .cnd (((decide (a1 > 0)) && (a2.f_A == 0)) == true) (.int .i64 a2.f_B)), (58, .cnd (((decide (a1 > 0)) && (a2.f_A == 0)) == true) (.ptr (1, 0) 0 2)), (57, .bool ((decide (a1 > 0)) && (a2.f_A == 0))), (56, .bool ((decide (a1 > 0)) && (a2.f_A == 0))), (55, .cnd ((decide (a1 > 0)) == true) (.bool (a2.f_A == 0))), (54, .cnd ((decide (a1 > 0)) == true) (.int .i64 a2.f_A)), (53, .cnd ((decide (a1 > 0)) == true) (.ptr (1, 0) 0 1)), (52, .bool (decide (a1 > 0))), (51, .bool (decide (a1 > 0))), (50, .int .i64 a1), (48, .bool (a2.f_Op == 4)), (49, .bool (a2.f_Op == 4)), (32, .bool (a2.f_Op == 3)), (33, .bool (a2.f_Op == 3)), (15, .bool (a2.f_Op == 2)), (16, .bool (a2.f_Op == 2)), (1, .int .i64 a1), (3, .ptr (0, 0) 0 0), (5, .ptr (1, 0) 0 0), (9, .int .i64 a2.f_Op), (10, .bool (a2.f_Op == 1))] _ _
          refine And.intro (fun hp => hp) ?_
          refine And.intro (fun hc => (bqt hc)) ?_
          refine LWp.sim (e := [(6, .int .i64 1), (7, .bool (((decide (a1 > 0)) && (a2.f_A == 0)) && (a2.f_B == 0)))]) (L := []) (n := 0) ?_ ?_
          · exact simI (M := []) rfl (And.intro (Vw.same _ rfl) (And.intro (Vw.same _ rfl) trivial)) trivial
          refine retI ?_
          cases h
          exact And.intro trivial (And.intro trivial (And.intro rfl (Vw.same _ rfl)))
        · have h := ite_ff h4 h
          refine seqI ?_
          refine regI ?_
          refine LWp.sim (e := [(1, .int .i64 a1), (5, .ptr (0, 0) 0 0), (62, .bool (a2.f_Op == 5))]) (L := [((0, 0), .one [.int .i64 a2.f_Op, .int .i64 a2.f_A, .int .i64 a2.f_B])]) (n := 1) ?_ ?_
          · exact simI (M := [((0, 0), (1, 0))]) rfl (And.intro (Vw.same _ rfl) (And.intro (Vw.ptr _ _ _ _ rfl) (And.intro (Vw.same _ rfl) trivial))) (And.intro (And.intro rfl (BVw.oneL (And.intro (Vw.same _ rfl) (And.intro (Vw.same _ rfl) (And.intro (Vw.same _ rfl) trivial))))) trivial)
          refine condI (v := (a2.f_Op == 5)) rfl trivial (fun h5 => ?_) (fun h5 => ?_)
          · have h := ite_tt h5 h
            refine seqI ?_
            refine quietI ?_
            refine And.intro (fun hp => hp) ?_
            show yqs _ _ [(69, .cnd ((decide ((0 : Int) ≤ a2.f_A)) == true) (.int .i64 a2.f_A)), (68, .cnd ((decide ((0 : Int) ≤ a2.f_A)) == true) (.ptr (0, 0) 0 1)), (67, .bool (decide ((0 : Int) ≤ a2.f_A))), (66, .bool (decide ((0 : Int) ≤ a2.f_A))), (65, .int .i64 a2.f_A), (64, .ptr (0, 0) 0 1), (1, .int .i64 a1), (5, .ptr (0, 0) 0 0), (62, .bool (a2.f_Op == 5))] _ _
            refine And.intro (fun hp => (And.intro hp hp)) ?_
            refine And.intro (fun hc => (bqt hc)) ?_
            refine And.intro (fun hp => hp) ?_
            show yqs _ _ [(75, .cnd (((decide ((0 : Int) ≤ a2.f_A)) && (decide (a2.f_A < a1))) == true) (.int .i64 a2.f_B)), (74, .cnd (((decide ((0 : Int) ≤ a2.f_A)) && (decide (a2.f_A < a1))) == true) (.ptr (0, 0) 0 2)), (73, .bool ((decide ((0 : Int) ≤ a2.f_A)) && (decide (a2.f_A < a1)))), (72, .bool ((decide ((0 : Int) ≤ a2.f_A)) && (decide (a2.f_A < a1)))), (71, .cnd ((decide ((0 : Int) ≤ a2.f_A)) == true) (.bool (decide (a2.f_A < a1)))), (70, .cnd ((decide ((0 : Int) ≤ a2.f_A)) == true) (.int .i64 a1)), (69, .cnd ((decide ((0 : Int) ≤ a2.f_A)) == true) (.int .i64 a2.f_A)), (68, .cnd ((decide ((0 : Int) ≤ a2.f_A)) == true) (.ptr (0, 0) 0 1)), (67, .bool (decide ((0 : Int) ≤ a2.f_A))), (66, .bool (decide ((0 : Int) ≤ a2.f_A))), (65, .int .i64 a2.f_A), (64, .ptr (0, 0) 0 1), (1, .int .i64 a1), (5, .ptr (0, 0) 0 0), (62, .bool (a2.f_Op == 5))] _ _
            refine And.intro (fun hp => hp) ?_
            refine And.intro (fun hc => (bqt hc)) ?_
            refine And.intro (fun hp => hp) ?_
            show yqs _ _ [(80, .cnd ((((decide ((0 : Int) ≤ a2.f_A)) && (decide (a2.f_A < a1))) && (decide ((0 : Int) ≤ a2.f_B))) == true) (.int .i64 a2.f_B)), (79, .cnd ((((decide ((0 : Int) ≤ a2.f_A)) && (decide (a2.f_A < a1))) && (decide ((0 : Int) ≤ a2.f_B))) == true) (.ptr (0, 0) 0 2)), (78, .bool (((decide ((0 : Int) ≤ a2.f_A)) && (decide (a2.f_A < a1))) && (decide ((0 : Int) ≤ a2.f_B)))), (77, .bool (((decide ((0 : Int) ≤ a2.f_A)) && (decide (a2.f_A < a1))) && (decide ((0 : Int) ≤ a2.f_B)))), (76, .cnd (((decide ((0 : Int) ≤ a2.f_A)) && (decide (a2.f_A < a1))) == true) (.bool (decide ((0 : Int) ≤ a2.f_B)))), (75, .cnd (((decide ((0 : Int) ≤ a2.f_A)) && (decide (a2.f_A < a1))) == true) (.int .i64 a2.f_B)), (74, .cnd (((decide ((0 : Int) ≤ a2.f_A)) && (decide (a2.f_A < a1))) == true) (.ptr (0, 0) 0 2)), (73, .bool ((decide ((0 : Int) ≤ a2.f_A)) && (decide (a2.f_A < a1)))), (72, .bool ((decide ((0 : Int) ≤ a2.f_A)) && (decide (a2.f_A < a1)))), (71, .cnd ((decide ((0 : Int) ≤ a2.f_A)) == true) (.bool (decide (a2.f_A < a1)))), (70, .cnd ((decide ((0 : Int) ≤ a2.f_A)) == true) (.int .i64 a1)), (69, .cnd ((decide ((0 : Int) ≤ a2.f_A)) == true) (.int .i64 a2.f_A)), (68, .cnd ((decide ((0 : Int) ≤ a2.f_A)) == true) (.ptr (0, 0) 0 1)), (67, .bool (decide ((0 : Int) ≤ a2.f_A))), (66, .bool (decide ((0 : Int) ≤ a2.f_A))), (65, .int .i64 a2.f_A), (64, .ptr (0, 0) 0 1), (1, .int .i64 a1), (5, .ptr (0, 0) 0 0), (62, .bool (a2.f_Op == 5))] _ _
            refine And.intro (fun hp => (And.intro hp hp)) ?_
            refine And.intro (fun hc => (bqt hc)) ?_
            refine LWp.sim (e := [(6, .int .i64 1), (7, .bool ((((decide ((0 : Int) ≤ a2.f_A)) && (decide (a2.f_A < a1))) && (decide ((0 : Int) ≤ a2.f_B))) && (decide (a2.f_B < a1))))]) (L := []) (n := 0) ?_ ?_
            · exact simI (M := []) rfl (And.intro (Vw.same _ rfl) (And.intro (Vw.same _ rfl) trivial)) trivial
            refine retI ?_
            cases h
            exact And.intro trivial (And.intro trivial (And.intro rfl (Vw.same _ rfl)))
          · have h := ite_ff h5 h
            refine skipI ?_
            refine seqI ?_
            refine quietI ?_
            refine And.intro (fun hp => hp) ?_
            show yqs _ _ [(89, .cnd ((a2.f_A == 0) == true) (.int .i64 a2.f_B)), (88, .cnd ((a2.f_A == 0) == true) (.ptr (0, 0) 0 2)), (87, .bool (a2.f_A == 0)), (86, .bool (a2.f_A == 0)), (85, .int .i64 a2.f_A), (84, .ptr (0, 0) 0 1), (1, .int .i64 a1), (5, .ptr (0, 0) 0 0), (62, .bool (a2.f_Op == 5))] _ _
            refine And.intro (fun hp => hp) ?_
            refine And.intro (fun hc => (bqt hc)) ?_
            refine LWp.sim (e := [(6, .int .i64 2), (7, .bool ((a2.f_A == 0) && (a2.f_B == 0)))]) (L := []) (n := 0) ?_ ?_
            · exact simI (M := []) rfl (And.intro (Vw.same _ rfl) (And.intro (Vw.same _ rfl) trivial)) trivial
            refine retI ?_
            cases h
            exact And.intro trivial (And.intro trivial (And.intro rfl (Vw.same _ rfl)))

theorem f27_ok {a0 : G_QProgram} {a1 : Int} {a2 : G_QOp} {m : Option Nat} {o : Int × Bool} (h : S_glossatorref3_effect m a0 a1 a2 = some o) : PFn Try.prog 27 [.agg [.int .i64 a0.f_Inputs, .isl 1 (a0.f_Queries.map e_sl_QOp) false], .int .i64 a1, .agg [.int .i64 a2.f_Op, .int .i64 a2.f_A, .int .i64 a2.f_B]] (.tup [.int .i64 o.1, .bool o.2]) := PFn.ofFnW (L := f27_L) f27_low f27_fok (Nat.le_of_ble_eq_true rfl) rfl (f27_start h)

def f9_c1 : LCode := (.seq (.region [⟨some 26, .bin .lss (.t 25) (.t 24), none⟩])
 (.seq (.cond (.t 26)
  .skip
  (.exit 0))
 (.seq (.block 1
  (.seq (.region [⟨some 27, .iaddr 1 (.t 23) (.t 25), none⟩,
    ⟨some 28, .load false 1 (.t 27), none⟩,
    ⟨some 5, .mv (.t 28), none⟩])
  (.region [⟨some 29, .mv (.t 3), none⟩,
    ⟨some 30, .mv (.t 29), none⟩,
    ⟨some 31, .mv (.t 5), some (30, false)⟩,
    ⟨some 32, .len false (.t 31), some (30, false)⟩,
    ⟨some 33, .bin .gtr (.t 32) (.c (.int .i64 20)), some (30, false)⟩,
    ⟨some 34, .pick (.t 30) (.c (.bool true)) (.t 33), none⟩,
    ⟨some 3, .mv (.t 34), none⟩])))
 (.region [⟨some 35, .bin .add (.t 25) (.c (.int .i64 1)), none⟩,
   ⟨some 25, .mv (.t 35), none⟩]))))
def f9_c4 : LCode := (.seq (.region [⟨some 51, .bin .lss (.t 50) (.t 49), none⟩])
 (.seq (.cond (.t 51)
  .skip
  (.exit 4))
 (.seq (.block 5
  (.seq (.region [⟨some 52, .iaddr 3 (.t 48) (.t 50), none⟩,
    ⟨some 53, .load true 3 (.t 52), none⟩,
    ⟨some 10, .alloc [(.int .i64 0), (.int .i64 0), (.int .i64 0)], none⟩,
    ⟨none, .store 3 (.t 10) (.t 53), none⟩])
  (.seq (.seq (.region [⟨some 54, .faddr 0 (.t 10), none⟩,
    ⟨some 55, .load false 1 (.t 54), none⟩,
    ⟨some 56, .bin .lss (.t 55) (.c (.int .i64 1)), none⟩,
    ⟨some 57, .mv (.t 56), none⟩,
    ⟨some 58, .faddr 0 (.t 10), some (57, false)⟩,
    ⟨some 59, .load false 1 (.t 58), some (57, false)⟩,
    ⟨some 60, .bin .gtr (.t 59) (.c (.int .i64 11)), some (57, false)⟩,
    ⟨some 61, .pick (.t 57) (.c (.bool true)) (.t 60), none⟩])
  (.cond (.t 61)
   (.seq (.region [⟨some 2, .mv (.c (.int .i64 7)), none⟩])
   .ret)
   .skip))
  (.seq (.region [⟨some 63, .load true 2 (.t 1), none⟩,
    ⟨some 64, .mv (.t 6), none⟩,
    ⟨some 65, .load true 3 (.t 10), none⟩,
    ⟨some 66, .call 27 [(.t 63), (.t 64), (.t 65)], none⟩,
    ⟨some 62, .mv (.t 66), none⟩,
    ⟨some 67, .ext 0 (.t 62), none⟩,
    ⟨some 68, .ext 1 (.t 62), none⟩,
    ⟨some 11, .mv (.t 67), none⟩,
    ⟨some 12, .mv (.t 68), none⟩])
  (.seq (.seq (.region [⟨some 69, .mv (.t 12), none⟩,
    ⟨some 70, .un .not (.t 69), none⟩,
    ⟨some 71, .mv (.t 70), none⟩,
    ⟨some 72, .mv (.t 11), some (71, false)⟩,
    ⟨some 73, .mv (.t 8), some (71, false)⟩,
    ⟨some 74, .bin .gtr (.t 72) (.t 73), some (71, false)⟩,
    ⟨some 75, .pick (.t 71) (.c (.bool true)) (.t 74), none⟩])
  (.cond (.t 75)
   (.seq (.region [⟨some 2, .mv (.c (.int .i64 3)), none⟩])
   .ret)
   .skip))
  (.region [⟨some 76, .mv (.t 8), none⟩,
    ⟨some 77, .mv (.t 11), none⟩,
    ⟨some 78, .bin .sub (.t 76) (.t 77), none⟩,
    ⟨some 79, .bin .add (.t 78) (.c (.int .i64 1)), none⟩,
    ⟨some 8, .mv (.t 79), none⟩]))))))
 (.region [⟨some 80, .bin .add (.t 50) (.c (.int .i64 1)), none⟩,
   ⟨some 50, .mv (.t 80), none⟩]))))
def f9_c2 : LCode := (.seq (.region [⟨some 81, .mv (.t 8), none⟩,
   ⟨some 82, .bin .neq (.t 81) (.c (.int .i64 1)), none⟩])
 (.cond (.t 82)
  (.seq (.region [⟨some 2, .mv (.c (.int .i64 3)), none⟩])
  .ret)
  .skip))
def f9_c3 : LCode := (.region [⟨some 83, .bin .add (.t 43) (.c (.int .i64 1)), none⟩,
   ⟨some 43, .mv (.t 83), none⟩])
def f9_c6 : LCode := (.seq (.region [⟨some 44, .bin .lss (.t 43) (.t 42), none⟩])
 (.seq (.cond (.t 44)
  .skip
  (.exit 2))
 (.seq (.block 3
  (.seq (.region [⟨some 45, .mv (.t 43), none⟩,
    ⟨some 46, .iaddr 1 (.t 41) (.t 43), none⟩,
    ⟨some 47, .load false 1 (.t 46), none⟩,
    ⟨some 6, .mv (.t 45), none⟩,
    ⟨some 7, .mv (.t 47), none⟩])
  (.seq (.region [⟨some 8, .mv (.c (.int .i64 0)), none⟩])
  (.seq (.seq (.region [⟨some 48, .mv (.t 7), none⟩,
    ⟨some 49, .len false (.t 48), none⟩,
    ⟨some 50, .mv (.c (.int .i64 0)), none⟩])
  (.block 4
   (.loop
    f9_c4)))
  f9_c2))))
 f9_c3)))
def f9_c5 : LCode := (.seq (.region [⟨some 2, .mv (.c (.int .i64 0)), none⟩])
 .ret)
def f9_c0 : LCode := (.seq (.seq (.region [⟨some 36, .mv (.t 3), none⟩])
 (.cond (.t 36)
  (.seq (.region [⟨some 2, .mv (.c (.int .i64 2)), none⟩])
  .ret)
  .skip))
 (.seq (.seq (.region [⟨some 37, .faddr 0 (.t 1), none⟩,
   ⟨some 38, .load false 1 (.t 37), none⟩,
   ⟨some 39, .bin .lss (.t 38) (.c (.int .i64 0)), none⟩])
 (.cond (.t 39)
  (.seq (.region [⟨some 2, .mv (.c (.int .i64 1)), none⟩])
  .ret)
  .skip))
 (.seq (.seq (.region [⟨some 40, .faddr 1 (.t 1), none⟩,
   ⟨some 41, .load false 1 (.t 40), none⟩,
   ⟨some 42, .len false (.t 41), none⟩,
   ⟨some 43, .mv (.c (.int .i64 0)), none⟩])
 (.block 2
  (.loop
   f9_c6)))
 f9_c5)))
def f9_c7 : LCode := (.seq (.region [⟨some 1, .box (.t 0), none⟩,
   ⟨some 2, .mv (.c (.int .i64 0)), none⟩])
 (.seq (.region [⟨some 13, .faddr 0 (.t 1), none⟩,
   ⟨some 14, .load false 1 (.t 13), none⟩,
   ⟨some 15, .bin .gtr (.t 14) (.c (.int .i64 40)), none⟩,
   ⟨some 16, .mv (.t 15), none⟩,
   ⟨some 17, .faddr 1 (.t 1), some (16, false)⟩,
   ⟨some 18, .load false 1 (.t 17), some (16, false)⟩,
   ⟨some 19, .len false (.t 18), some (16, false)⟩,
   ⟨some 20, .bin .gtr (.t 19) (.c (.int .i64 40)), some (16, false)⟩,
   ⟨some 21, .pick (.t 16) (.c (.bool true)) (.t 20), none⟩,
   ⟨some 3, .mv (.t 21), none⟩])
 (.seq (.seq (.region [⟨some 22, .faddr 1 (.t 1), none⟩,
   ⟨some 23, .load false 1 (.t 22), none⟩,
   ⟨some 24, .len false (.t 23), none⟩,
   ⟨some 25, .mv (.c (.int .i64 0)), none⟩])
 (.block 0
  (.loop
   f9_c1)))
 f9_c0)))
def f9_lay : Lay := ⟨84, [], false⟩
def f9_res : List LRes := [.t 2]
def f9_L : LFn := ⟨1, f9_lay, f9_c7, f9_res⟩
theorem f9_low : lowFn Try.prog [] 9 = some f9_L := by kernel_rfl
theorem f9_fok : FnOk Try.prog 9 := ⟨_, Try.func9, rfl, rfl⟩
def f9_Q (a0 : G_QProgram) (o : Int) : Exit → Env → AHeap → Nat → Prop := FinK f9_res (PureEnd (.int .i64 o))

def f9_L1_env (a0 : G_QProgram) (s : (Bool × Int)) : Env := [(1, .ptr (0, 0) 0 0), (3, .bool s.1), (23, .isl 1 (a0.f_Queries.map e_sl_QOp) false), (24, .int .i64 ((a0.f_Queries.map e_sl_QOp).length : Int)), (25, .int .i64 s.2)]
def f9_L1_hp (a0 : G_QProgram) (s : (Bool × Int)) : AHeap := [((0, 0), .one [.int .i64 a0.f_Inputs, .isl 1 (a0.f_Queries.map e_sl_QOp) false])]
def f9_L1_Q (a0 : G_QProgram) (o : Int) : Exit → Env → AHeap → Nat → Prop := (QBlock 0 (QSeq Try.prog f9_lay 0 f9_c0 (f9_Q a0 o)))

noncomputable def S_glossatorref3_CheckProgram_j7 (m : Option Nat) (a0 : G_QProgram) (v8 : Int) : Option (Int ⊕ Int) :=
  some (.inl (W (v8 + 1)))

noncomputable def S_glossatorref3_CheckProgram_j6 (m : Option Nat) (a0 : G_QProgram) (v8 : Int) (v15 : Int) : Option (Int ⊕ Int) :=
  if (v15 != 1) = true then
    Option.map Sum.inr (
      some 3)
  else
    S_glossatorref3_CheckProgram_j7 m a0 v8

noncomputable def S_glossatorref3_CheckProgram_b5 (m : Option Nat) (a0 : G_QProgram) (v8 : Int) (v15 : Int) (v16 : Int) : Option ((Int × Int) ⊕ (Int ⊕ Int)) :=
  if (decide (v16 < (((a0.f_Queries.getD v8.toNat default).map e_QOp).length : Int))) = true then
    if (0 : Int) ≤ v16 ∧ v16 < (((a0.f_Queries.getD v8.toNat default).map e_QOp).length : Int) then
    if ((decide (((a0.f_Queries.getD v8.toNat default).getD v16.toNat default).f_Op < 1)) || (decide (((a0.f_Queries.getD v8.toNat default).getD v16.toNat default).f_Op > 11))) = true then
      Option.map Sum.inr (
        Option.map Sum.inr (
          some 7))
    else
      (S_glossatorref3_effect m a0 v8 (G_QOp.mk (((a0.f_Queries.getD v8.toNat default).getD v16.toNat default).f_Op) (((a0.f_Queries.getD v8.toNat default).getD v16.toNat default).f_A) (((a0.f_Queries.getD v8.toNat default).getD v16.toNat default).f_B))).bind fun v18 =>
      if ((!v18.2) || (decide (v18.1 > v15))) = true then
        Option.map Sum.inr (
          Option.map Sum.inr (
            some 3))
      else
        some (.inl ((W ((W (v15 - v18.1)) + 1)), (W (v16 + 1))))
    else none
  else
    Option.map Sum.inr (
      S_glossatorref3_CheckProgram_j6 m a0 v8 v15)

noncomputable def S_glossatorref3_CheckProgram_l5 (m : Option Nat) (a0 : G_QProgram) (v8 : Int) (v15 : Int) (v16 : Int) : Option (Int ⊕ Int) := loopM m (fun (s : (Int × Int)) => S_glossatorref3_CheckProgram_b5 m a0 v8 s.1 s.2) (v15, v16)

noncomputable def S_glossatorref3_CheckProgram_j8 (m : Option Nat) : Option Int :=
  some 0

noncomputable def S_glossatorref3_CheckProgram_b4 (m : Option Nat) (a0 : G_QProgram) (v8 : Int) : Option (Int ⊕ Int) :=
  if (decide (v8 < ((a0.f_Queries.map e_sl_QOp).length : Int))) = true then
    if (0 : Int) ≤ v8 ∧ v8 < ((a0.f_Queries.map e_sl_QOp).length : Int) then
    S_glossatorref3_CheckProgram_l5 m a0 v8 0 0
    else none
  else
    Option.map Sum.inr (
      S_glossatorref3_CheckProgram_j8 m)

noncomputable def S_glossatorref3_CheckProgram_l4 (m : Option Nat) (a0 : G_QProgram) (v8 : Int) : Option Int := loopM m (fun (s : Int) => S_glossatorref3_CheckProgram_b4 m a0 s) v8

noncomputable def S_glossatorref3_CheckProgram_j1 (m : Option Nat) (a0 : G_QProgram) (v1 : Bool) : Option Int :=
  if v1 = true then
    some 2
  else
    if (decide (a0.f_Inputs < 0)) = true then
      some 1
    else
      S_glossatorref3_CheckProgram_l4 m a0 0

noncomputable def S_glossatorref3_CheckProgram_b1 (m : Option Nat) (a0 : G_QProgram) (v1 : Bool) (v2 : Int) : Option ((Bool × Int) ⊕ Int) :=
  if (decide (v2 < ((a0.f_Queries.map e_sl_QOp).length : Int))) = true then
    if (0 : Int) ≤ v2 ∧ v2 < ((a0.f_Queries.map e_sl_QOp).length : Int) then
    some (.inl ((v1 || (decide ((((a0.f_Queries.getD v2.toNat default).map e_QOp).length : Int) > 20))), (W (v2 + 1))))
    else none
  else
    Option.map Sum.inr (
      S_glossatorref3_CheckProgram_j1 m a0 v1)

noncomputable def S_glossatorref3_CheckProgram_l1 (m : Option Nat) (a0 : G_QProgram) (v1 : Bool) (v2 : Int) : Option Int := loopM m (fun (s : (Bool × Int)) => S_glossatorref3_CheckProgram_b1 m a0 s.1 s.2) (v1, v2)

def f9_L4_env (a0 : G_QProgram) (s : Int) : Env := [(1, .ptr (0, 0) 0 0), (41, .isl 1 (a0.f_Queries.map e_sl_QOp) false), (42, .int .i64 ((a0.f_Queries.map e_sl_QOp).length : Int)), (43, .int .i64 s)]
def f9_L4_hp (a0 : G_QProgram) (s : Int) : AHeap := [((0, 0), .one [.int .i64 a0.f_Inputs, .isl 1 (a0.f_Queries.map e_sl_QOp) false])]
def f9_L4_Q (a0 : G_QProgram) (o : Int) : Exit → Env → AHeap → Nat → Prop := (QBlock 2 (QSeq Try.prog f9_lay 0 f9_c5 (f9_Q a0 o)))

def f9_L5_env (a0 : G_QProgram) (v8 : Int) (s : (Int × Int)) : Env := [(1, .ptr (0, 0) 0 0), (6, .int .i64 v8), (8, .int .i64 s.1), (41, .isl 1 (a0.f_Queries.map e_sl_QOp) false), (42, .int .i64 ((a0.f_Queries.map e_sl_QOp).length : Int)), (43, .int .i64 v8), (48, .isl 3 ((a0.f_Queries.getD v8.toNat default).map e_QOp) false), (49, .int .i64 (((a0.f_Queries.getD v8.toNat default).map e_QOp).length : Int)), (50, .int .i64 s.2)]
def f9_L5_hp (a0 : G_QProgram) (v8 : Int) (s : (Int × Int)) : AHeap := [((0, 0), .one [.int .i64 a0.f_Inputs, .isl 1 (a0.f_Queries.map e_sl_QOp) false])]
def f9_L5_Q (a0 : G_QProgram) (o : (Int ⊕ Int)) : Exit → Env → AHeap → Nat → Prop := (QBlock 4 (QSeq Try.prog f9_lay 0 f9_c2 (QBlock 3 (QSeq Try.prog f9_lay 0 f9_c3 (BodyQ 0 1 (f9_L4_env a0) (f9_L4_hp a0) (f9_L4_Q a0) o)))))

theorem f9_j7_ok {a0 : G_QProgram} {v8 : Int} {m : Option Nat} {o : (Int ⊕ Int)} (h : S_glossatorref3_CheckProgram_j7 m a0 v8 = some o) :
    LWp Try.prog f9_lay 0 f9_c3 (BodyQ 0 1 (f9_L4_env a0) (f9_L4_hp a0) (f9_L4_Q a0) o) [(1, .ptr (0, 0) 0 0), (41, .isl 1 (a0.f_Queries.map e_sl_QOp) false), (42, .int .i64 ((a0.f_Queries.map e_sl_QOp).length : Int)), (43, .int .i64 v8)] [((0, 0), .one [.int .i64 a0.f_Inputs, .isl 1 (a0.f_Queries.map e_sl_QOp) false])] 1 := by
  unfold S_glossatorref3_CheckProgram_j7 at h
  refine regI ?_
  cases h
  exact And.intro rfl (simI (M := [((0, 0), (0, 0))]) rfl (And.intro (Vw.ptr _ _ _ _ rfl) (And.intro (Vw.same _ rfl) (And.intro (Vw.same _ rfl) (And.intro (Vw.same _ rfl) trivial)))) (And.intro (And.intro rfl (BVw.oneL (And.intro (Vw.same _ rfl) (And.intro (Vw.same _ rfl) trivial)))) trivial))

theorem f9_j6_ok {a0 : G_QProgram} {v8 : Int} {v15 : Int} {m : Option Nat} {o : (Int ⊕ Int)} (h : S_glossatorref3_CheckProgram_j6 m a0 v8 v15 = some o) :
    LWp Try.prog f9_lay 0 f9_c2 (QBlock 3 (QSeq Try.prog f9_lay 0 f9_c3 (BodyQ 0 1 (f9_L4_env a0) (f9_L4_hp a0) (f9_L4_Q a0) o))) [(1, .ptr (0, 0) 0 0), (8, .int .i64 v15), (41, .isl 1 (a0.f_Queries.map e_sl_QOp) false), (42, .int .i64 ((a0.f_Queries.map e_sl_QOp).length : Int)), (43, .int .i64 v8)] [((0, 0), .one [.int .i64 a0.f_Inputs, .isl 1 (a0.f_Queries.map e_sl_QOp) false])] 1 := by
  unfold S_glossatorref3_CheckProgram_j6 at h
  refine seqI ?_
  refine regI ?_
  refine condI (v := (v15 != 1)) rfl trivial (fun h62 => ?_) (fun h62 => ?_)
  · have h := ite_tt h62 h
    refine seqI ?_
    refine regI ?_
    refine retI ?_
    obtain ⟨o, hq, rfl⟩ := Option.map_eq_some_iff.1 h
    replace h := hq; clear hq
    refine And.intro nofun ?_
    cases h
    exact And.intro trivial (And.intro rfl (Vw.same _ rfl))
  · have h := ite_ff h62 h
    refine skipI ?_
    refine LWp.sim ?_ (f9_j7_ok h)
    exact simI (M := [((0, 0), (0, 0))]) rfl (And.intro (Vw.ptr _ _ _ _ rfl) (And.intro (Vw.same _ rfl) (And.intro (Vw.same _ rfl) (And.intro (Vw.same _ rfl) trivial)))) (And.intro (And.intro rfl (BVw.oneL (And.intro (Vw.same _ rfl) (And.intro (Vw.same _ rfl) trivial)))) trivial)

theorem f9_L5_bok {a0 : G_QProgram} {v8 : Int} {v15 : Int} {v16 : Int} {m : Option Nat} {o : (Int × Int) ⊕ (Int ⊕ Int)} (h : S_glossatorref3_CheckProgram_b5 m a0 v8 v15 v16 = some o) :
    LWp Try.prog f9_lay 0 f9_c4 (BodyQ 0 1 (f9_L5_env a0 v8) (f9_L5_hp a0 v8) (f9_L5_Q a0) o) [(1, .ptr (0, 0) 0 0), (6, .int .i64 v8), (8, .int .i64 v15), (41, .isl 1 (a0.f_Queries.map e_sl_QOp) false), (42, .int .i64 ((a0.f_Queries.map e_sl_QOp).length : Int)), (43, .int .i64 v8), (48, .isl 3 ((a0.f_Queries.getD v8.toNat default).map e_QOp) false), (49, .int .i64 (((a0.f_Queries.getD v8.toNat default).map e_QOp).length : Int)), (50, .int .i64 v16)] [((0, 0), .one [.int .i64 a0.f_Inputs, .isl 1 (a0.f_Queries.map e_sl_QOp) false])] 1 := by
  unfold S_glossatorref3_CheckProgram_b5 at h
  refine seqI ?_
  refine regI ?_
  refine seqI ?_
  refine condI (v := (decide (v16 < (((a0.f_Queries.getD v8.toNat default).map e_QOp).length : Int)))) rfl trivial (fun h57 => ?_) (fun h57 => ?_)
  · have h := ite_tt h57 h
    refine skipI ?_
    refine seqI ?_
    refine blockI ?_
    refine seqI ?_
    refine regI ?_
    obtain ⟨h58, h⟩ := ite_some h
    refine And.intro h58 ?_
    refine Exists.intro (e_QOp ((a0.f_Queries.getD v8.toNat default).getD v16.toNat default)) (And.intro (getD_enc e_QOp _ _ (idx_ltL e_QOp h58)) (And.intro (And.intro (idx_lt h58) (Nat.le_of_ble_eq_true rfl)) ?_))
    refine seqI ?_
    refine seqI ?_
    refine regI ?_
    refine And.intro (fun hp => hp) ?_
    show yops _ _ _ [(59, .cnd ((decide (((a0.f_Queries.getD v8.toNat default).getD v16.toNat default).f_Op < 1)) == false) (.int .i64 (((a0.f_Queries.getD v8.toNat default).getD v16.toNat default).f_Op))), (58, .cnd ((decide (((a0.f_Queries.getD v8.toNat default).getD v16.toNat default).f_Op < 1)) == false) (.ptr (1, 0) 0 0)), (57, .bool (decide (((a0.f_Queries.getD v8.toNat default).getD v16.toNat default).f_Op < 1))), (56, .bool (decide (((a0.f_Queries.getD v8.toNat default).getD v16.toNat default).f_Op < 1))), (55, .int .i64 (((a0.f_Queries.getD v8.toNat default).getD v16.toNat default).f_Op)), (54, .ptr (1, 0) 0 0), (10, .ptr (1, 0) 0 0), (53, .agg [.int .i64 (((a0.f_Queries.getD v8.toNat default).getD v16.toNat default).f_Op), .int .i64 (((a0.f_Queries.getD v8.toNat default).getD v16.toNat default).f_A), .int .i64 (((a0.f_Queries.getD v8.toNat default).getD v16.toNat default).f_B)]), (52, .iptr 3 ((a0.f_Queries.getD v8.toNat default).map e_QOp) v16.toNat 0), (51, .bool (decide (v16 < (((a0.f_Queries.getD v8.toNat default).map e_QOp).length : Int)))), (1, .ptr (0, 0) 0 0), (6, .int .i64 v8), (8, .int .i64 v15), (41, .isl 1 (a0.f_Queries.map e_sl_QOp) false), (42, .int .i64 ((a0.f_Queries.map e_sl_QOp).length : Int)), (43, .int .i64 v8), (48, .isl 3 ((a0.f_Queries.getD v8.toNat default).map e_QOp) false), (49, .int .i64 (((a0.f_Queries.getD v8.toNat default).map e_QOp).length : Int)), (50, .int .i64 v16)] _ _
    refine And.intro (fun hp => hp) ?_
    refine And.intro (fun hc => (bqf hc)) ?_
    refine LWp.sim (e := [(1, .ptr (0, 0) 0 0), (6, .int .i64 v8), (8, .int .i64 v15), (10, .ptr (1, 0) 0 0), (41, .isl 1 (a0.f_Queries.map e_sl_QOp) false), (42, .int .i64 ((a0.f_Queries.map e_sl_QOp).length : Int)), (43, .int .i64 v8), (48, .isl 3 ((a0.f_Queries.getD v8.toNat default).map e_QOp) false), (49, .int .i64 (((a0.f_Queries.getD v8.toNat default).map e_QOp).length : Int)), (50, .int .i64 v16), (61, .bool ((decide (((a0.f_Queries.getD v8.toNat default).getD v16.toNat default).f_Op < 1)) || (decide (((a0.f_Queries.getD v8.toNat default).getD v16.toNat default).f_Op > 11))))]) (L := [((0, 0), .one [.int .i64 a0.f_Inputs, .isl 1 (a0.f_Queries.map e_sl_QOp) false]), ((1, 0), .one [.int .i64 (((a0.f_Queries.getD v8.toNat default).getD v16.toNat default).f_Op), .int .i64 (((a0.f_Queries.getD v8.toNat default).getD v16.toNat default).f_A), .int .i64 (((a0.f_Queries.getD v8.toNat default).getD v16.toNat default).f_B)])]) (n := 2) ?_ ?_
    · exact simI (M := [((0, 0), (0, 0)), ((1, 0), (1, 0))]) rfl (And.intro (Vw.ptr _ _ _ _ rfl) (And.intro (Vw.same _ rfl) (And.intro (Vw.same _ rfl) (And.intro (Vw.ptr _ _ _ _ rfl) (And.intro (Vw.same _ rfl) (And.intro (Vw.same _ rfl) (And.intro (Vw.same _ rfl) (And.intro (Vw.same _ rfl) (And.intro (Vw.same _ rfl) (And.intro (Vw.same _ rfl) (And.intro (Vw.same _ rfl) trivial))))))))))) (And.intro (And.intro rfl (BVw.oneL (And.intro (Vw.same _ rfl) (And.intro (Vw.same _ rfl) trivial)))) (And.intro (And.intro rfl (BVw.oneL (And.intro (Vw.same _ rfl) (And.intro (Vw.same _ rfl) (And.intro (Vw.same _ rfl) trivial))))) trivial))
    refine condI (v := ((decide (((a0.f_Queries.getD v8.toNat default).getD v16.toNat default).f_Op < 1)) || (decide (((a0.f_Queries.getD v8.toNat default).getD v16.toNat default).f_Op > 11)))) rfl trivial (fun h59 => ?_) (fun h59 => ?_)
    · have h := ite_tt h59 h
      refine seqI ?_
      refine regI ?_
      refine retI ?_
      obtain ⟨o, hq, rfl⟩ := Option.map_eq_some_iff.1 h
      replace h := hq; clear hq
      refine And.intro nofun ?_
      obtain ⟨o, hq, rfl⟩ := Option.map_eq_some_iff.1 h
      replace h := hq; clear hq
      refine And.intro nofun ?_
      cases h
      exact And.intro trivial (And.intro rfl (Vw.same _ rfl))
    · have h := ite_ff h59 h
      refine skipI ?_
      refine seqI ?_
      refine regI ?_
      obtain ⟨v18, h60, h⟩ := bind_some h
      refine PFn.call (f27_ok h60) (And.intro (Vw.same _ rfl) (And.intro (Vw.same _ rfl) (And.intro (Vw.same _ rfl) trivial))) ?_
      refine LWp.sim (e := [(1, .ptr (0, 0) 0 0), (6, .int .i64 v8), (8, .int .i64 v15), (11, .int .i64 v18.1), (12, .bool v18.2), (41, .isl 1 (a0.f_Queries.map e_sl_QOp) false), (42, .int .i64 ((a0.f_Queries.map e_sl_QOp).length : Int)), (43, .int .i64 v8), (48, .isl 3 ((a0.f_Queries.getD v8.toNat default).map e_QOp) false), (49, .int .i64 (((a0.f_Queries.getD v8.toNat default).map e_QOp).length : Int)), (50, .int .i64 v16)]) (L := [((0, 0), .one [.int .i64 a0.f_Inputs, .isl 1 (a0.f_Queries.map e_sl_QOp) false])]) (n := 1) ?_ ?_
      · exact simI (M := [((0, 0), (0, 0))]) rfl (And.intro (Vw.ptr _ _ _ _ rfl) (And.intro (Vw.same _ rfl) (And.intro (Vw.same _ rfl) (And.intro (Vw.same _ rfl) (And.intro (Vw.same _ rfl) (And.intro (Vw.same _ rfl) (And.intro (Vw.same _ rfl) (And.intro (Vw.same _ rfl) (And.intro (Vw.same _ rfl) (And.intro (Vw.same _ rfl) (And.intro (Vw.same _ rfl) trivial))))))))))) (And.intro (And.intro rfl (BVw.oneL (And.intro (Vw.same _ rfl) (And.intro (Vw.same _ rfl) trivial)))) trivial)
      refine seqI ?_
      refine seqI ?_
      refine regI ?_
      refine And.intro (fun hp => (And.intro hp hp)) ?_
      show yops _ _ _ [(74, .cnd ((!v18.2) == false) (.bool (decide (v18.1 > v15)))), (73, .cnd ((!v18.2) == false) (.int .i64 v15)), (72, .cnd ((!v18.2) == false) (.int .i64 v18.1)), (71, .bool (!v18.2)), (70, .bool (!v18.2)), (69, .bool v18.2), (1, .ptr (0, 0) 0 0), (6, .int .i64 v8), (8, .int .i64 v15), (11, .int .i64 v18.1), (12, .bool v18.2), (41, .isl 1 (a0.f_Queries.map e_sl_QOp) false), (42, .int .i64 ((a0.f_Queries.map e_sl_QOp).length : Int)), (43, .int .i64 v8), (48, .isl 3 ((a0.f_Queries.getD v8.toNat default).map e_QOp) false), (49, .int .i64 (((a0.f_Queries.getD v8.toNat default).map e_QOp).length : Int)), (50, .int .i64 v16)] _ _
      refine And.intro (fun hc => (bqf hc)) ?_
      refine condI (v := ((!v18.2) || (decide (v18.1 > v15)))) rfl trivial (fun h61 => ?_) (fun h61 => ?_)
      · have h := ite_tt h61 h
        refine seqI ?_
        refine regI ?_
        refine LWp.sim (e := [(2, .int .i64 3)]) (L := []) (n := 0) ?_ ?_
        · exact simI (M := []) rfl (And.intro (Vw.same _ rfl) trivial) trivial
        refine retI ?_
        obtain ⟨o, hq, rfl⟩ := Option.map_eq_some_iff.1 h
        replace h := hq; clear hq
        refine And.intro nofun ?_
        obtain ⟨o, hq, rfl⟩ := Option.map_eq_some_iff.1 h
        replace h := hq; clear hq
        refine And.intro nofun ?_
        cases h
        exact And.intro trivial (And.intro rfl (Vw.same _ rfl))
      · have h := ite_ff h61 h
        refine skipI ?_
        refine regI ?_
        refine LWp.sim (e := [(1, .ptr (0, 0) 0 0), (6, .int .i64 v8), (8, .int .i64 (W ((W (v15 - v18.1)) + 1))), (41, .isl 1 (a0.f_Queries.map e_sl_QOp) false), (42, .int .i64 ((a0.f_Queries.map e_sl_QOp).length : Int)), (43, .int .i64 v8), (48, .isl 3 ((a0.f_Queries.getD v8.toNat default).map e_QOp) false), (49, .int .i64 (((a0.f_Queries.getD v8.toNat default).map e_QOp).length : Int)), (50, .int .i64 v16)]) (L := [((0, 0), .one [.int .i64 a0.f_Inputs, .isl 1 (a0.f_Queries.map e_sl_QOp) false])]) (n := 1) ?_ ?_
        · exact simI (M := [((0, 0), (0, 0))]) rfl (And.intro (Vw.ptr _ _ _ _ rfl) (And.intro (Vw.same _ rfl) (And.intro (Vw.same _ rfl) (And.intro (Vw.same _ rfl) (And.intro (Vw.same _ rfl) (And.intro (Vw.same _ rfl) (And.intro (Vw.same _ rfl) (And.intro (Vw.same _ rfl) (And.intro (Vw.same _ rfl) trivial))))))))) (And.intro (And.intro rfl (BVw.oneL (And.intro (Vw.same _ rfl) (And.intro (Vw.same _ rfl) trivial)))) trivial)
        refine regI ?_
        cases h
        exact And.intro rfl (simI (M := [((0, 0), (0, 0))]) rfl (And.intro (Vw.ptr _ _ _ _ rfl) (And.intro (Vw.same _ rfl) (And.intro (Vw.same _ rfl) (And.intro (Vw.same _ rfl) (And.intro (Vw.same _ rfl) (And.intro (Vw.same _ rfl) (And.intro (Vw.same _ rfl) (And.intro (Vw.same _ rfl) (And.intro (Vw.same _ rfl) trivial))))))))) (And.intro (And.intro rfl (BVw.oneL (And.intro (Vw.same _ rfl) (And.intro (Vw.same _ rfl) trivial)))) trivial))
  · have h := ite_ff h57 h
    refine exitI ?_
    obtain ⟨o, hq, rfl⟩ := Option.map_eq_some_iff.1 h
    replace h := hq; clear hq
    refine And.intro nofun ?_
    refine LWp.sim ?_ (f9_j6_ok h)
    exact simI (M := [((0, 0), (0, 0))]) rfl (And.intro (Vw.ptr _ _ _ _ rfl) (And.intro (Vw.same _ rfl) (And.intro (Vw.same _ rfl) (And.intro (Vw.same _ rfl) (And.intro (Vw.same _ rfl) trivial))))) (And.intro (And.intro rfl (BVw.oneL (And.intro (Vw.same _ rfl) (And.intro (Vw.same _ rfl) trivial)))) trivial)

theorem f9_L5_ok {a0 : G_QProgram} {v8 : Int} {v15 : Int} {v16 : Int} {m : Option Nat} {o : (Int ⊕ Int)} (h : S_glossatorref3_CheckProgram_l5 m a0 v8 v15 v16 = some o) :
    LWp Try.prog f9_lay 0 (.loop f9_c4) (QBlock 4 (QSeq Try.prog f9_lay 0 f9_c2 (QBlock 3 (QSeq Try.prog f9_lay 0 f9_c3 (BodyQ 0 1 (f9_L4_env a0) (f9_L4_hp a0) (f9_L4_Q a0) o))))) [(1, .ptr (0, 0) 0 0), (6, .int .i64 v8), (8, .int .i64 v15), (41, .isl 1 (a0.f_Queries.map e_sl_QOp) false), (42, .int .i64 ((a0.f_Queries.map e_sl_QOp).length : Int)), (43, .int .i64 v8), (48, .isl 3 ((a0.f_Queries.getD v8.toNat default).map e_QOp) false), (49, .int .i64 (((a0.f_Queries.getD v8.toNat default).map e_QOp).length : Int)), (50, .int .i64 v16)] [((0, 0), .one [.int .i64 a0.f_Inputs, .isl 1 (a0.f_Queries.map e_sl_QOp) false])] 1 :=
  LWp_loopM (m := m) (s := ((v15, v16) : (Int × Int))) (r := o) (fun (s : (Int × Int)) => S_glossatorref3_CheckProgram_b5 m a0 v8 s.1 s.2) (f9_L5_env a0 v8) (f9_L5_hp a0 v8) (f9_L5_Q a0) (fun s o h => f9_L5_bok h) h

theorem f9_j8_ok {a0 : G_QProgram} {m : Option Nat} {o : Int} (h : S_glossatorref3_CheckProgram_j8 m = some o) :
    LWp Try.prog f9_lay 0 f9_c5 (f9_Q a0 o) [] [] 0 := by
  unfold S_glossatorref3_CheckProgram_j8 at h
  refine seqI ?_
  refine regI ?_
  refine retI ?_
  cases h
  exact And.intro trivial (And.intro rfl (Vw.same _ rfl))

theorem f9_L4_bok {a0 : G_QProgram} {v8 : Int} {m : Option Nat} {o : Int ⊕ Int} (h : S_glossatorref3_CheckProgram_b4 m a0 v8 = some o) :
    LWp Try.prog f9_lay 0 f9_c6 (BodyQ 0 1 (f9_L4_env a0) (f9_L4_hp a0) (f9_L4_Q a0) o) [(1, .ptr (0, 0) 0 0), (41, .isl 1 (a0.f_Queries.map e_sl_QOp) false), (42, .int .i64 ((a0.f_Queries.map e_sl_QOp).length : Int)), (43, .int .i64 v8)] [((0, 0), .one [.int .i64 a0.f_Inputs, .isl 1 (a0.f_Queries.map e_sl_QOp) false])] 1 := by
  unfold S_glossatorref3_CheckProgram_b4 at h
  refine seqI ?_
  refine regI ?_
  refine seqI ?_
  refine condI (v := (decide (v8 < ((a0.f_Queries.map e_sl_QOp).length : Int)))) rfl trivial (fun h45 => ?_) (fun h45 => ?_)
  · have h := ite_tt h45 h
    refine skipI ?_
    refine seqI ?_
    refine blockI ?_
    refine seqI ?_
    refine regI ?_
    obtain ⟨h46, h⟩ := ite_some h
    refine And.intro h46 ?_
    refine Exists.intro (e_sl_QOp (a0.f_Queries.getD v8.toNat default)) (And.intro (getD_enc e_sl_QOp _ _ (idx_ltL e_sl_QOp h46)) (And.intro (And.intro (idx_lt h46) (Nat.le_of_ble_eq_true rfl)) ?_))
    refine seqI ?_
    refine regI ?_
    refine seqI ?_
    refine seqI ?_
    refine regI ?_
    refine LWp.sim (e := [(1, .ptr (0, 0) 0 0), (6, .int .i64 v8), (8, .int .i64 0), (41, .isl 1 (a0.f_Queries.map e_sl_QOp) false), (42, .int .i64 ((a0.f_Queries.map e_sl_QOp).length : Int)), (43, .int .i64 v8), (48, .isl 3 ((a0.f_Queries.getD v8.toNat default).map e_QOp) false), (49, .int .i64 (((a0.f_Queries.getD v8.toNat default).map e_QOp).length : Int)), (50, .int .i64 0)]) (L := [((0, 0), .one [.int .i64 a0.f_Inputs, .isl 1 (a0.f_Queries.map e_sl_QOp) false])]) (n := 1) ?_ ?_
    · exact simI (M := [((0, 0), (0, 0))]) rfl (And.intro (Vw.ptr _ _ _ _ rfl) (And.intro (Vw.same _ rfl) (And.intro (Vw.same _ rfl) (And.intro (Vw.same _ rfl) (And.intro (Vw.same _ rfl) (And.intro (Vw.same _ rfl) (And.intro (Vw.same _ rfl) (And.intro (Vw.same _ rfl) (And.intro (Vw.same _ rfl) trivial))))))))) (And.intro (And.intro rfl (BVw.oneL (And.intro (Vw.same _ rfl) (And.intro (Vw.same _ rfl) trivial)))) trivial)
    refine blockI ?_
    refine LWp.sim ?_ (f9_L5_ok h)
    exact simI (M := [((0, 0), (0, 0))]) rfl (And.intro (Vw.ptr _ _ _ _ rfl) (And.intro (Vw.same _ rfl) (And.intro (Vw.same _ rfl) (And.intro (Vw.same _ rfl) (And.intro (Vw.same _ rfl) (And.intro (Vw.same _ rfl) (And.intro (Vw.same _ rfl) (And.intro (Vw.same _ rfl) (And.intro (Vw.same _ rfl) trivial))))))))) (And.intro (And.intro rfl (BVw.oneL (And.intro (Vw.same _ rfl) (And.intro (Vw.same _ rfl) trivial)))) trivial)
  · have h := ite_ff h45 h
    refine exitI ?_
    obtain ⟨o, hq, rfl⟩ := Option.map_eq_some_iff.1 h
    replace h := hq; clear hq
    refine And.intro nofun ?_
    refine LWp.sim ?_ (f9_j8_ok h)
    exact simI (M := []) rfl trivial trivial

theorem f9_L4_ok {a0 : G_QProgram} {v8 : Int} {m : Option Nat} {o : Int} (h : S_glossatorref3_CheckProgram_l4 m a0 v8 = some o) :
    LWp Try.prog f9_lay 0 (.loop f9_c6) (QBlock 2 (QSeq Try.prog f9_lay 0 f9_c5 (f9_Q a0 o))) [(1, .ptr (0, 0) 0 0), (41, .isl 1 (a0.f_Queries.map e_sl_QOp) false), (42, .int .i64 ((a0.f_Queries.map e_sl_QOp).length : Int)), (43, .int .i64 v8)] [((0, 0), .one [.int .i64 a0.f_Inputs, .isl 1 (a0.f_Queries.map e_sl_QOp) false])] 1 :=
  LWp_loopM (m := m) (s := (v8 : Int)) (r := o) (fun (s : Int) => S_glossatorref3_CheckProgram_b4 m a0 s) (f9_L4_env a0) (f9_L4_hp a0) (f9_L4_Q a0) (fun s o h => f9_L4_bok h) h

theorem f9_j1_ok {a0 : G_QProgram} {v1 : Bool} {m : Option Nat} {o : Int} (h : S_glossatorref3_CheckProgram_j1 m a0 v1 = some o) :
    LWp Try.prog f9_lay 0 f9_c0 (f9_Q a0 o) [(1, .ptr (0, 0) 0 0), (3, .bool v1)] [((0, 0), .one [.int .i64 a0.f_Inputs, .isl 1 (a0.f_Queries.map e_sl_QOp) false])] 1 := by
  unfold S_glossatorref3_CheckProgram_j1 at h
  refine seqI ?_
  refine seqI ?_
  refine regI ?_
  refine condI (v := v1) rfl trivial (fun h7 => ?_) (fun h7 => ?_)
  · have h := ite_tt h7 h
    refine seqI ?_
    refine regI ?_
    refine retI ?_
    cases h
    exact And.intro trivial (And.intro rfl (Vw.same _ rfl))
  · have h := ite_ff h7 h
    refine skipI ?_
    refine seqI ?_
    refine seqI ?_
    refine regI ?_
    refine condI (v := (decide (a0.f_Inputs < 0))) rfl trivial (fun h8 => ?_) (fun h8 => ?_)
    · have h := ite_tt h8 h
      refine seqI ?_
      refine regI ?_
      refine retI ?_
      cases h
      exact And.intro trivial (And.intro rfl (Vw.same _ rfl))
    · have h := ite_ff h8 h
      refine skipI ?_
      refine seqI ?_
      refine seqI ?_
      refine regI ?_
      refine LWp.sim (e := [(1, .ptr (0, 0) 0 0), (41, .isl 1 (a0.f_Queries.map e_sl_QOp) false), (42, .int .i64 ((a0.f_Queries.map e_sl_QOp).length : Int)), (43, .int .i64 0)]) (L := [((0, 0), .one [.int .i64 a0.f_Inputs, .isl 1 (a0.f_Queries.map e_sl_QOp) false])]) (n := 1) ?_ ?_
      · exact simI (M := [((0, 0), (0, 0))]) rfl (And.intro (Vw.ptr _ _ _ _ rfl) (And.intro (Vw.same _ rfl) (And.intro (Vw.same _ rfl) (And.intro (Vw.same _ rfl) trivial)))) (And.intro (And.intro rfl (BVw.oneL (And.intro (Vw.same _ rfl) (And.intro (Vw.same _ rfl) trivial)))) trivial)
      refine blockI ?_
      refine LWp.sim ?_ (f9_L4_ok h)
      exact simI (M := [((0, 0), (0, 0))]) rfl (And.intro (Vw.ptr _ _ _ _ rfl) (And.intro (Vw.same _ rfl) (And.intro (Vw.same _ rfl) (And.intro (Vw.same _ rfl) trivial)))) (And.intro (And.intro rfl (BVw.oneL (And.intro (Vw.same _ rfl) (And.intro (Vw.same _ rfl) trivial)))) trivial)

theorem f9_L1_bok {a0 : G_QProgram} {v1 : Bool} {v2 : Int} {m : Option Nat} {o : (Bool × Int) ⊕ Int} (h : S_glossatorref3_CheckProgram_b1 m a0 v1 v2 = some o) :
    LWp Try.prog f9_lay 0 f9_c1 (BodyQ 0 1 (f9_L1_env a0) (f9_L1_hp a0) (f9_L1_Q a0) o) [(1, .ptr (0, 0) 0 0), (3, .bool v1), (23, .isl 1 (a0.f_Queries.map e_sl_QOp) false), (24, .int .i64 ((a0.f_Queries.map e_sl_QOp).length : Int)), (25, .int .i64 v2)] [((0, 0), .one [.int .i64 a0.f_Inputs, .isl 1 (a0.f_Queries.map e_sl_QOp) false])] 1 := by
  unfold S_glossatorref3_CheckProgram_b1 at h
  refine seqI ?_
  refine regI ?_
  refine seqI ?_
  refine condI (v := (decide (v2 < ((a0.f_Queries.map e_sl_QOp).length : Int)))) rfl trivial (fun h5 => ?_) (fun h5 => ?_)
  · have h := ite_tt h5 h
    refine skipI ?_
    refine seqI ?_
    refine blockI ?_
    refine seqI ?_
    refine regI ?_
    obtain ⟨h6, h⟩ := ite_some h
    refine And.intro h6 ?_
    refine Exists.intro (e_sl_QOp (a0.f_Queries.getD v2.toNat default)) (And.intro (getD_enc e_sl_QOp _ _ (idx_ltL e_sl_QOp h6)) (And.intro (And.intro (idx_lt h6) (Nat.le_of_ble_eq_true rfl)) ?_))
    refine regI ?_
    refine And.intro (fun hp => hp) ?_
    show yops _ _ _ [(32, .cnd (v1 == false) (.int .i64 (((a0.f_Queries.getD v2.toNat default).map e_QOp).length : Int))), (31, .cnd (v1 == false) (.isl 3 ((a0.f_Queries.getD v2.toNat default).map e_QOp) false)), (30, .bool v1), (29, .bool v1), (5, .isl 3 ((a0.f_Queries.getD v2.toNat default).map e_QOp) false), (28, .isl 3 ((a0.f_Queries.getD v2.toNat default).map e_QOp) false), (27, .iptr 1 (a0.f_Queries.map e_sl_QOp) v2.toNat 0), (26, .bool (decide (v2 < ((a0.f_Queries.map e_sl_QOp).length : Int)))), (1, .ptr (0, 0) 0 0), (3, .bool v1), (23, .isl 1 (a0.f_Queries.map e_sl_QOp) false), (24, .int .i64 ((a0.f_Queries.map e_sl_QOp).length : Int)), (25, .int .i64 v2)] _ _
    refine And.intro (fun hp => hp) ?_
    refine And.intro (fun hc => (bqf hc)) ?_
    refine LWp.sim (e := [(1, .ptr (0, 0) 0 0), (3, .bool (v1 || (decide ((((a0.f_Queries.getD v2.toNat default).map e_QOp).length : Int) > 20)))), (23, .isl 1 (a0.f_Queries.map e_sl_QOp) false), (24, .int .i64 ((a0.f_Queries.map e_sl_QOp).length : Int)), (25, .int .i64 v2)]) (L := [((0, 0), .one [.int .i64 a0.f_Inputs, .isl 1 (a0.f_Queries.map e_sl_QOp) false])]) (n := 1) ?_ ?_
    · exact simI (M := [((0, 0), (0, 0))]) rfl (And.intro (Vw.ptr _ _ _ _ rfl) (And.intro (Vw.same _ rfl) (And.intro (Vw.same _ rfl) (And.intro (Vw.same _ rfl) (And.intro (Vw.same _ rfl) trivial))))) (And.intro (And.intro rfl (BVw.oneL (And.intro (Vw.same _ rfl) (And.intro (Vw.same _ rfl) trivial)))) trivial)
    refine regI ?_
    cases h
    exact And.intro rfl (simI (M := [((0, 0), (0, 0))]) rfl (And.intro (Vw.ptr _ _ _ _ rfl) (And.intro (Vw.same _ rfl) (And.intro (Vw.same _ rfl) (And.intro (Vw.same _ rfl) (And.intro (Vw.same _ rfl) trivial))))) (And.intro (And.intro rfl (BVw.oneL (And.intro (Vw.same _ rfl) (And.intro (Vw.same _ rfl) trivial)))) trivial))
  · have h := ite_ff h5 h
    refine exitI ?_
    obtain ⟨o, hq, rfl⟩ := Option.map_eq_some_iff.1 h
    replace h := hq; clear hq
    refine And.intro nofun ?_
    refine LWp.sim ?_ (f9_j1_ok h)
    exact simI (M := [((0, 0), (0, 0))]) rfl (And.intro (Vw.ptr _ _ _ _ rfl) (And.intro (Vw.same _ rfl) trivial)) (And.intro (And.intro rfl (BVw.oneL (And.intro (Vw.same _ rfl) (And.intro (Vw.same _ rfl) trivial)))) trivial)

theorem f9_L1_ok {a0 : G_QProgram} {v1 : Bool} {v2 : Int} {m : Option Nat} {o : Int} (h : S_glossatorref3_CheckProgram_l1 m a0 v1 v2 = some o) :
    LWp Try.prog f9_lay 0 (.loop f9_c1) (QBlock 0 (QSeq Try.prog f9_lay 0 f9_c0 (f9_Q a0 o))) [(1, .ptr (0, 0) 0 0), (3, .bool v1), (23, .isl 1 (a0.f_Queries.map e_sl_QOp) false), (24, .int .i64 ((a0.f_Queries.map e_sl_QOp).length : Int)), (25, .int .i64 v2)] [((0, 0), .one [.int .i64 a0.f_Inputs, .isl 1 (a0.f_Queries.map e_sl_QOp) false])] 1 :=
  LWp_loopM (m := m) (s := ((v1, v2) : (Bool × Int))) (r := o) (fun (s : (Bool × Int)) => S_glossatorref3_CheckProgram_b1 m a0 s.1 s.2) (f9_L1_env a0) (f9_L1_hp a0) (f9_L1_Q a0) (fun s o h => f9_L1_bok h) h

noncomputable def S_glossatorref3_CheckProgram (m : Option Nat) (a0 : G_QProgram) : Option Int :=
  S_glossatorref3_CheckProgram_l1 m a0 ((decide (a0.f_Inputs > 40)) || (decide (((a0.f_Queries.map e_sl_QOp).length : Int) > 40))) 0

theorem f9_start {a0 : G_QProgram} {m : Option Nat} {o : Int} (h : S_glossatorref3_CheckProgram m a0 = some o) : LWp Try.prog f9_lay 0 f9_c7 (f9_Q a0 o) (initEnv 0 [.agg [.int .i64 a0.f_Inputs, .isl 1 (a0.f_Queries.map e_sl_QOp) false]]) [] 0 := by
  unfold S_glossatorref3_CheckProgram at h
  refine seqI ?_
  refine regI ?_
  refine seqI ?_
  refine regI ?_
  refine And.intro (fun hp => hp) ?_
  show yops _ _ _ [(18, .cnd ((decide (a0.f_Inputs > 40)) == false) (.isl 1 (a0.f_Queries.map e_sl_QOp) false)), (17, .cnd ((decide (a0.f_Inputs > 40)) == false) (.ptr (0, 0) 0 1)), (16, .bool (decide (a0.f_Inputs > 40))), (15, .bool (decide (a0.f_Inputs > 40))), (14, .int .i64 a0.f_Inputs), (13, .ptr (0, 0) 0 0), (2, .int .i64 0), (1, .ptr (0, 0) 0 0), (0, .agg [.int .i64 a0.f_Inputs, .isl 1 (a0.f_Queries.map e_sl_QOp) false])] _ _
  refine And.intro (fun hp => hp) ?_
  refine And.intro (fun hp => hp) ?_
  refine And.intro (fun hc => (bqf hc)) ?_
  refine LWp.sim (e := [(1, .ptr (0, 0) 0 0), (3, .bool ((decide (a0.f_Inputs > 40)) || (decide (((a0.f_Queries.map e_sl_QOp).length : Int) > 40))))]) (L := [((0, 0), .one [.int .i64 a0.f_Inputs, .isl 1 (a0.f_Queries.map e_sl_QOp) false])]) (n := 1) ?_ ?_
  · exact simI (M := [((0, 0), (0, 0))]) rfl (And.intro (Vw.ptr _ _ _ _ rfl) (And.intro (Vw.same _ rfl) trivial)) (And.intro (And.intro rfl (BVw.oneL (And.intro (Vw.same _ rfl) (And.intro (Vw.same _ rfl) trivial)))) trivial)
  refine seqI ?_
  refine seqI ?_
  refine regI ?_
  refine blockI ?_
  refine LWp.sim ?_ (f9_L1_ok h)
  exact simI (M := [((0, 0), (0, 0))]) rfl (And.intro (Vw.ptr _ _ _ _ rfl) (And.intro (Vw.same _ rfl) (And.intro (Vw.same _ rfl) (And.intro (Vw.same _ rfl) (And.intro (Vw.same _ rfl) trivial))))) (And.intro (And.intro rfl (BVw.oneL (And.intro (Vw.same _ rfl) (And.intro (Vw.same _ rfl) trivial)))) trivial)

theorem f9_ok {a0 : G_QProgram} {m : Option Nat} {o : Int} (h : S_glossatorref3_CheckProgram m a0 = some o) : PFn Try.prog 9 [.agg [.int .i64 a0.f_Inputs, .isl 1 (a0.f_Queries.map e_sl_QOp) false]] (.int .i64 o) := PFn.ofFnW (L := f9_L) f9_low f9_fok (Nat.le_of_ble_eq_true rfl) rfl (f9_start h)

def f40_c1 : LCode := (.seq (.region [⟨some 15, .bin .lss (.t 14) (.t 13), none⟩])
 (.seq (.cond (.t 15)
  .skip
  (.exit 0))
 (.seq (.block 1
  (.seq (.region [⟨some 16, .mv (.t 14), none⟩,
    ⟨some 17, .iaddr 1 (.t 12) (.t 14), none⟩,
    ⟨some 18, .load false 1 (.t 17), none⟩,
    ⟨some 5, .mv (.t 16), none⟩,
    ⟨some 6, .mv (.t 18), none⟩])
  (.seq (.region [⟨some 19, .mv (.t 6), none⟩,
    ⟨some 20, .mv (.t 1), none⟩,
    ⟨some 21, .mv (.t 5), none⟩,
    ⟨some 22, .iaddr 1 (.t 20) (.t 21), none⟩,
    ⟨some 23, .load false 1 (.t 22), none⟩,
    ⟨some 24, .bin .neq (.t 19) (.t 23), none⟩])
  (.cond (.t 24)
   (.seq (.region [⟨some 4, .mv (.c (.bool false)), none⟩])
   .ret)
   .skip))))
 (.region [⟨some 25, .bin .add (.t 14) (.c (.int .i64 1)), none⟩,
   ⟨some 14, .mv (.t 25), none⟩]))))
def f40_c0 : LCode := (.seq (.region [⟨some 4, .mv (.c (.bool true)), none⟩])
 .ret)
def f40_c2 : LCode := (.seq (.region [⟨some 4, .mv (.c (.bool false)), none⟩])
 (.seq (.seq (.region [⟨some 7, .mv (.t 0), none⟩,
   ⟨some 8, .len false (.t 7), none⟩,
   ⟨some 9, .mv (.t 1), none⟩,
   ⟨some 10, .len false (.t 9), none⟩,
   ⟨some 11, .bin .neq (.t 8) (.t 10), none⟩])
 (.cond (.t 11)
  (.seq (.region [⟨some 4, .mv (.c (.bool false)), none⟩])
  .ret)
  .skip))
 (.seq (.seq (.region [⟨some 12, .mv (.t 0), none⟩,
   ⟨some 13, .len false (.t 12), none⟩,
   ⟨some 14, .mv (.c (.int .i64 0)), none⟩])
 (.block 0
  (.loop
   f40_c1)))
 f40_c0)))
def f40_lay : Lay := ⟨26, [], false⟩
def f40_res : List LRes := [.t 4]
def f40_L : LFn := ⟨2, f40_lay, f40_c2, f40_res⟩
theorem f40_low : lowFn Try.prog [] 40 = some f40_L := by kernel_rfl
theorem f40_fok : FnOk Try.prog 40 := ⟨_, Try.func40, rfl, rfl⟩
def f40_Q (a0 : List Int) (a1 : List Int) (o : Bool) : Exit → Env → AHeap → Nat → Prop := FinK f40_res (PureEnd (.bool o))

def f40_L1_env (a0 : List Int) (a1 : List Int) (s : Int) : Env := [(1, .isl 1 (a1.map e_i64) false), (12, .isl 1 (a0.map e_i64) false), (13, .int .i64 ((a0.map e_i64).length : Int)), (14, .int .i64 s)]
def f40_L1_hp (a0 : List Int) (a1 : List Int) (s : Int) : AHeap := []
def f40_L1_Q (a0 : List Int) (a1 : List Int) (o : Bool) : Exit → Env → AHeap → Nat → Prop := (QBlock 0 (QSeq Try.prog f40_lay 0 f40_c0 (f40_Q a0 a1 o)))

noncomputable def S_glossatorref3_Equal_int_j1 (m : Option Nat) : Option Bool :=
  some true

noncomputable def S_glossatorref3_Equal_int_b1 (m : Option Nat) (a0 : List Int) (a1 : List Int) (v1 : Int) : Option (Int ⊕ Bool) :=
  if (decide (v1 < ((a0.map e_i64).length : Int))) = true then
    if (0 : Int) ≤ v1 ∧ v1 < ((a0.map e_i64).length : Int) then
    if (0 : Int) ≤ v1 ∧ v1 < ((a1.map e_i64).length : Int) then
    if ((a0.getD v1.toNat default) != (a1.getD v1.toNat default)) = true then
      Option.map Sum.inr (
        some false)
    else
      some (.inl (W (v1 + 1)))
    else none
    else none
  else
    Option.map Sum.inr (
      S_glossatorref3_Equal_int_j1 m)

noncomputable def S_glossatorref3_Equal_int_l1 (m : Option Nat) (a0 : List Int) (a1 : List Int) (v1 : Int) : Option Bool := loopM m (fun (s : Int) => S_glossatorref3_Equal_int_b1 m a0 a1 s) v1

theorem f40_j1_ok {a0 : List Int} {a1 : List Int} {m : Option Nat} {o : Bool} (h : S_glossatorref3_Equal_int_j1 m = some o) :
    LWp Try.prog f40_lay 0 f40_c0 (f40_Q a0 a1 o) [] [] 0 := by
  unfold S_glossatorref3_Equal_int_j1 at h
  refine seqI ?_
  refine regI ?_
  refine retI ?_
  cases h
  exact And.intro trivial (And.intro rfl (Vw.same _ rfl))

theorem f40_L1_bok {a0 : List Int} {a1 : List Int} {v1 : Int} {m : Option Nat} {o : Int ⊕ Bool} (h : S_glossatorref3_Equal_int_b1 m a0 a1 v1 = some o) :
    LWp Try.prog f40_lay 0 f40_c1 (BodyQ 0 0 (f40_L1_env a0 a1) (f40_L1_hp a0 a1) (f40_L1_Q a0 a1) o) [(1, .isl 1 (a1.map e_i64) false), (12, .isl 1 (a0.map e_i64) false), (13, .int .i64 ((a0.map e_i64).length : Int)), (14, .int .i64 v1)] [] 0 := by
  unfold S_glossatorref3_Equal_int_b1 at h
  refine seqI ?_
  refine regI ?_
  refine seqI ?_
  refine condI (v := (decide (v1 < ((a0.map e_i64).length : Int)))) rfl trivial (fun h10 => ?_) (fun h10 => ?_)
  · have h := ite_tt h10 h
    refine skipI ?_
    refine seqI ?_
    refine blockI ?_
    refine seqI ?_
    refine regI ?_
    obtain ⟨h11, h⟩ := ite_some h
    refine And.intro h11 ?_
    refine Exists.intro (e_i64 (a0.getD v1.toNat default)) (And.intro (getD_enc e_i64 _ _ (idx_ltL e_i64 h11)) (And.intro (And.intro (idx_lt h11) (Nat.le_of_ble_eq_true rfl)) ?_))
    refine seqI ?_
    refine regI ?_
    obtain ⟨h12, h⟩ := ite_some h
    refine And.intro h12 ?_
    show yops _ _ _ [(22, .iptr 1 (a1.map e_i64) v1.toNat 0), (21, .int .i64 v1), (20, .isl 1 (a1.map e_i64) false), (19, .int .i64 (a0.getD v1.toNat default)), (6, .int .i64 (a0.getD v1.toNat default)), (5, .int .i64 v1), (18, .int .i64 (a0.getD v1.toNat default)), (17, .iptr 1 (a0.map e_i64) v1.toNat 0), (16, .int .i64 v1), (15, .bool (decide (v1 < ((a0.map e_i64).length : Int)))), (1, .isl 1 (a1.map e_i64) false), (12, .isl 1 (a0.map e_i64) false), (13, .int .i64 ((a0.map e_i64).length : Int)), (14, .int .i64 v1)] _ _
    refine Exists.intro (e_i64 (a1.getD v1.toNat default)) (And.intro (getD_enc e_i64 _ _ (idx_ltL e_i64 h12)) (And.intro (And.intro (idx_lt h12) (Nat.le_of_ble_eq_true rfl)) ?_))
    refine LWp.sim (e := [(1, .isl 1 (a1.map e_i64) false), (12, .isl 1 (a0.map e_i64) false), (13, .int .i64 ((a0.map e_i64).length : Int)), (14, .int .i64 v1), (24, .bool ((a0.getD v1.toNat default) != (a1.getD v1.toNat default)))]) (L := []) (n := 0) ?_ ?_
    · exact simI (M := []) rfl (And.intro (Vw.same _ rfl) (And.intro (Vw.same _ rfl) (And.intro (Vw.same _ rfl) (And.intro (Vw.same _ rfl) (And.intro (Vw.same _ rfl) trivial))))) trivial
    refine condI (v := ((a0.getD v1.toNat default) != (a1.getD v1.toNat default))) rfl trivial (fun h13 => ?_) (fun h13 => ?_)
    · have h := ite_tt h13 h
      refine seqI ?_
      refine regI ?_
      refine retI ?_
      obtain ⟨o, hq, rfl⟩ := Option.map_eq_some_iff.1 h
      replace h := hq; clear hq
      refine And.intro nofun ?_
      cases h
      exact And.intro trivial (And.intro rfl (Vw.same _ rfl))
    · have h := ite_ff h13 h
      refine skipI ?_
      refine regI ?_
      cases h
      exact And.intro rfl (simI (M := []) rfl (And.intro (Vw.same _ rfl) (And.intro (Vw.same _ rfl) (And.intro (Vw.same _ rfl) (And.intro (Vw.same _ rfl) trivial)))) trivial)
  · have h := ite_ff h10 h
    refine exitI ?_
    obtain ⟨o, hq, rfl⟩ := Option.map_eq_some_iff.1 h
    replace h := hq; clear hq
    refine And.intro nofun ?_
    refine LWp.sim ?_ (f40_j1_ok h)
    exact simI (M := []) rfl trivial trivial

theorem f40_L1_ok {a0 : List Int} {a1 : List Int} {v1 : Int} {m : Option Nat} {o : Bool} (h : S_glossatorref3_Equal_int_l1 m a0 a1 v1 = some o) :
    LWp Try.prog f40_lay 0 (.loop f40_c1) (QBlock 0 (QSeq Try.prog f40_lay 0 f40_c0 (f40_Q a0 a1 o))) [(1, .isl 1 (a1.map e_i64) false), (12, .isl 1 (a0.map e_i64) false), (13, .int .i64 ((a0.map e_i64).length : Int)), (14, .int .i64 v1)] [] 0 :=
  LWp_loopM (m := m) (s := (v1 : Int)) (r := o) (fun (s : Int) => S_glossatorref3_Equal_int_b1 m a0 a1 s) (f40_L1_env a0 a1) (f40_L1_hp a0 a1) (f40_L1_Q a0 a1) (fun s o h => f40_L1_bok h) h

noncomputable def S_glossatorref3_Equal_int (m : Option Nat) (a0 : List Int) (a1 : List Int) : Option Bool :=
  if (((a0.map e_i64).length : Int) != ((a1.map e_i64).length : Int)) = true then
    some false
  else
    S_glossatorref3_Equal_int_l1 m a0 a1 0

theorem f40_start {a0 : List Int} {a1 : List Int} {m : Option Nat} {o : Bool} (h : S_glossatorref3_Equal_int m a0 a1 = some o) : LWp Try.prog f40_lay 0 f40_c2 (f40_Q a0 a1 o) (initEnv 0 [.isl 1 (a0.map e_i64) false, .isl 1 (a1.map e_i64) false]) [] 0 := by
  unfold S_glossatorref3_Equal_int at h
  refine seqI ?_
  refine regI ?_
  refine seqI ?_
  refine seqI ?_
  refine regI ?_
  refine condI (v := (((a0.map e_i64).length : Int) != ((a1.map e_i64).length : Int))) rfl trivial (fun h1 => ?_) (fun h1 => ?_)
  · have h := ite_tt h1 h
    refine seqI ?_
    refine regI ?_
    refine retI ?_
    cases h
    exact And.intro trivial (And.intro rfl (Vw.same _ rfl))
  · have h := ite_ff h1 h
    refine skipI ?_
    refine seqI ?_
    refine seqI ?_
    refine regI ?_
    refine LWp.sim (e := [(1, .isl 1 (a1.map e_i64) false), (12, .isl 1 (a0.map e_i64) false), (13, .int .i64 ((a0.map e_i64).length : Int)), (14, .int .i64 0)]) (L := []) (n := 0) ?_ ?_
    · exact simI (M := []) rfl (And.intro (Vw.same _ rfl) (And.intro (Vw.same _ rfl) (And.intro (Vw.same _ rfl) (And.intro (Vw.same _ rfl) trivial)))) trivial
    refine blockI ?_
    refine LWp.sim ?_ (f40_L1_ok h)
    exact simI (M := []) rfl (And.intro (Vw.same _ rfl) (And.intro (Vw.same _ rfl) (And.intro (Vw.same _ rfl) (And.intro (Vw.same _ rfl) trivial)))) trivial

theorem f40_ok {a0 : List Int} {a1 : List Int} {m : Option Nat} {o : Bool} (h : S_glossatorref3_Equal_int m a0 a1 = some o) : PFn Try.prog 40 [.isl 1 (a0.map e_i64) false, .isl 1 (a1.map e_i64) false] (.bool o) := PFn.ofFnW (L := f40_L) f40_low f40_fok (Nat.le_of_ble_eq_true rfl) rfl (f40_start h)

def f20_c0 : LCode := (.seq (.region [⟨some 2, .box (.t 0), none⟩,
   ⟨some 3, .box (.t 1), none⟩,
   ⟨some 4, .mv (.c (.bool false)), none⟩])
 (.seq (.region [⟨some 5, .faddr 1 (.t 2), none⟩,
   ⟨some 6, .load false 1 (.t 5), none⟩,
   ⟨some 7, .faddr 1 (.t 3), none⟩,
   ⟨some 8, .load false 1 (.t 7), none⟩,
   ⟨some 9, .bin .eql (.t 6) (.t 8), none⟩,
   ⟨some 10, .mv (.t 9), none⟩,
   ⟨some 11, .faddr 0 (.t 2), some (10, true)⟩,
   ⟨some 12, .load false 1 (.t 11), some (10, true)⟩,
   ⟨some 13, .faddr 0 (.t 3), some (10, true)⟩,
   ⟨some 14, .load false 1 (.t 13), some (10, true)⟩,
   ⟨some 15, .call 40 [(.t 12), (.t 14)], some (10, true)⟩,
   ⟨some 16, .pick (.t 10) (.t 15) (.c (.bool false)), none⟩,
   ⟨some 4, .mv (.t 16), none⟩])
 .ret))
def f20_lay : Lay := ⟨17, [], false⟩
def f20_res : List LRes := [.t 4]
def f20_L : LFn := ⟨2, f20_lay, f20_c0, f20_res⟩
theorem f20_low : lowFn Try.prog [] 20 = some f20_L := by kernel_rfl
theorem f20_fok : FnOk Try.prog 20 := ⟨_, Try.func20, rfl, rfl⟩
noncomputable def S_glossatorref3_EqualValues (m : Option Nat) (a0 : G_QValue) (a1 : G_QValue) : Option Bool :=
  (if ((a0.f_Text == a1.f_Text) == true) = true then S_glossatorref3_Equal_int m a0.f_Nums a1.f_Nums else some default).bind fun v1 =>
  some ((a0.f_Text == a1.f_Text) && v1)

def f20_Q (a0 : G_QValue) (a1 : G_QValue) (o : Bool) : Exit → Env → AHeap → Nat → Prop := FinK f20_res (PureEnd (.bool o))

theorem f20_start {a0 : G_QValue} {a1 : G_QValue} {m : Option Nat} {o : Bool} (h : S_glossatorref3_EqualValues m a0 a1 = some o) : LWp Try.prog f20_lay 0 f20_c0 (f20_Q a0 a1 o) (initEnv 0 [.agg [.isl 1 (a0.f_Nums.map e_i64) false, .str a0.f_Text], .agg [.isl 1 (a1.f_Nums.map e_i64) false, .str a1.f_Text]]) [] 0 := by
  unfold S_glossatorref3_EqualValues at h
  refine seqI ?_
  refine regI ?_
  refine seqI ?_
  refine regI ?_
  refine And.intro (fun hp => hp) ?_
  show yops _ _ _ [(12, .cnd ((a0.f_Text == a1.f_Text) == true) (.isl 1 (a0.f_Nums.map e_i64) false)), (11, .cnd ((a0.f_Text == a1.f_Text) == true) (.ptr (0, 0) 0 0)), (10, .bool (a0.f_Text == a1.f_Text)), (9, .bool (a0.f_Text == a1.f_Text)), (8, .str a1.f_Text), (7, .ptr (1, 0) 0 1), (6, .str a0.f_Text), (5, .ptr (0, 0) 0 1), (4, .bool false), (3, .ptr (1, 0) 0 0), (2, .ptr (0, 0) 0 0), (0, .agg [.isl 1 (a0.f_Nums.map e_i64) false, .str a0.f_Text]), (1, .agg [.isl 1 (a1.f_Nums.map e_i64) false, .str a1.f_Text])] _ _
  refine And.intro (fun hp => hp) ?_
  obtain ⟨v1, h1, h⟩ := bind_some h
  refine Or.inl (Exists.intro (.bool v1) (And.intro (fun hp => And.intro (And.intro hp hp) (PFn.call (f40_ok (ite_tt hp h1)) (And.intro (Vw.same _ rfl) (And.intro (Vw.same _ rfl) trivial)) (And.intro rfl (And.intro rfl rfl)))) ?_))
  refine And.intro (fun hc => (bqt hc)) ?_
  refine LWp.sim (e := [(4, .bool ((a0.f_Text == a1.f_Text) && v1))]) (L := []) (n := 0) ?_ ?_
  · exact simI (M := []) rfl (And.intro (Vw.same _ rfl) trivial) trivial
  refine retI ?_
  cases h
  exact And.intro trivial (And.intro rfl (Vw.same _ rfl))

theorem f20_ok {a0 : G_QValue} {a1 : G_QValue} {m : Option Nat} {o : Bool} (h : S_glossatorref3_EqualValues m a0 a1 = some o) : PFn Try.prog 20 [.agg [.isl 1 (a0.f_Nums.map e_i64) false, .str a0.f_Text], .agg [.isl 1 (a1.f_Nums.map e_i64) false, .str a1.f_Text]] (.bool o) := PFn.ofFnW (L := f20_L) f20_low f20_fok (Nat.le_of_ble_eq_true rfl) rfl (f20_start h)

def f23_c0 : LCode := (.seq (.region [⟨some 1, .box (.t 0), none⟩,
   ⟨some 2, .mv (.c (.int .i64 0)), none⟩])
 (.seq (.seq (.region [⟨some 3, .faddr 0 (.t 1), none⟩,
   ⟨some 4, .load false 1 (.t 3), none⟩,
   ⟨some 5, .len false (.t 4), none⟩,
   ⟨some 6, .bin .eql (.t 5) (.c (.int .i64 0)), none⟩])
 (.cond (.t 6)
  (.seq (.region [⟨some 2, .mv (.c (.int .i64 0)), none⟩])
  .ret)
  .skip))
 (.seq (.region [⟨some 7, .faddr 0 (.t 1), none⟩,
   ⟨some 8, .load false 1 (.t 7), none⟩,
   ⟨some 9, .iaddr 1 (.t 8) (.c (.int .i64 0)), none⟩,
   ⟨some 10, .load false 1 (.t 9), none⟩,
   ⟨some 11, .call 17 [(.t 10), (.c (.int .i64 1000003))], none⟩,
   ⟨some 2, .mv (.t 11), none⟩])
 .ret)))
def f23_lay : Lay := ⟨12, [], false⟩
def f23_res : List LRes := [.t 2]
def f23_L : LFn := ⟨1, f23_lay, f23_c0, f23_res⟩
theorem f23_low : lowFn Try.prog [] 23 = some f23_L := by kernel_rfl
theorem f23_fok : FnOk Try.prog 23 := ⟨_, Try.func23, rfl, rfl⟩
noncomputable def S_glossatorref3_Number (m : Option Nat) (a0 : G_QValue) : Option Int :=
  if (((a0.f_Nums.map e_i64).length : Int) == 0) = true then
    some 0
  else
    if (0 : Int) ≤ 0 ∧ 0 < ((a0.f_Nums.map e_i64).length : Int) then
    (S_glossatorref3_Mod m (a0.f_Nums.getD ((0 : Int).toNat) default) 1000003).bind fun v1 =>
    some v1
    else none

def f23_Q (a0 : G_QValue) (o : Int) : Exit → Env → AHeap → Nat → Prop := FinK f23_res (PureEnd (.int .i64 o))

theorem f23_start {a0 : G_QValue} {m : Option Nat} {o : Int} (h : S_glossatorref3_Number m a0 = some o) : LWp Try.prog f23_lay 0 f23_c0 (f23_Q a0 o) (initEnv 0 [.agg [.isl 1 (a0.f_Nums.map e_i64) false, .str a0.f_Text]]) [] 0 := by
  unfold S_glossatorref3_Number at h
  refine seqI ?_
  refine regI ?_
  refine seqI ?_
  refine seqI ?_
  refine regI ?_
  refine condI (v := (((a0.f_Nums.map e_i64).length : Int) == 0)) rfl trivial (fun h1 => ?_) (fun h1 => ?_)
  · have h := ite_tt h1 h
    refine seqI ?_
    refine regI ?_
    refine retI ?_
    cases h
    exact And.intro trivial (And.intro rfl (Vw.same _ rfl))
  · have h := ite_ff h1 h
    refine skipI ?_
    refine seqI ?_
    refine regI ?_
    obtain ⟨h2, h⟩ := ite_some h
    refine And.intro h2 ?_
    show yops _ _ _ [(9, .iptr 1 (a0.f_Nums.map e_i64) ((0 : Int).toNat) 0), (8, .isl 1 (a0.f_Nums.map e_i64) false), (7, .ptr (0, 0) 0 0), (6, .bool (((a0.f_Nums.map e_i64).length : Int) == 0)), (5, .int .i64 ((a0.f_Nums.map e_i64).length : Int)), (4, .isl 1 (a0.f_Nums.map e_i64) false), (3, .ptr (0, 0) 0 0), (2, .int .i64 0), (1, .ptr (0, 0) 0 0), (0, .agg [.isl 1 (a0.f_Nums.map e_i64) false, .str a0.f_Text])] _ _
    refine Exists.intro (e_i64 (a0.f_Nums.getD ((0 : Int).toNat) default)) (And.intro (getD_enc e_i64 _ _ (idx_ltL e_i64 h2)) (And.intro (And.intro (idx_lt h2) (Nat.le_of_ble_eq_true rfl)) ?_))
    obtain ⟨v1, h3, h⟩ := bind_some h
    refine PFn.call (f17_ok h3) (And.intro (Vw.same _ rfl) (And.intro (Vw.same _ rfl) trivial)) ?_
    refine LWp.sim (e := [(2, .int .i64 v1)]) (L := []) (n := 0) ?_ ?_
    · exact simI (M := []) rfl (And.intro (Vw.same _ rfl) trivial) trivial
    refine retI ?_
    cases h
    exact And.intro trivial (And.intro rfl (Vw.same _ rfl))

theorem f23_ok {a0 : G_QValue} {m : Option Nat} {o : Int} (h : S_glossatorref3_Number m a0 = some o) : PFn Try.prog 23 [.agg [.isl 1 (a0.f_Nums.map e_i64) false, .str a0.f_Text]] (.int .i64 o) := PFn.ofFnW (L := f23_L) f23_low f23_fok (Nat.le_of_ble_eq_true rfl) rfl (f23_start h)

def f22c0_c0 : LCode := (.seq (.region [⟨some 6, .mv (.c (.int .i64 0)), none⟩,
   ⟨some 7, .mv (.c (.bool false)), none⟩])
 (.seq (.region [⟨some 9, .mv (.t 0), none⟩,
   ⟨some 10, .mv (.t 1), none⟩,
   ⟨some 11, .build [(.int .i64 0), (.int .i64 0), (.int .i64 0)] [(0, 1, (.t 9)), (1, 1, (.t 10))], none⟩,
   ⟨some 8, .alloc [(.int .i64 0), (.int .i64 0), (.int .i64 0)], none⟩,
   ⟨none, .store 3 (.t 8) (.t 11), none⟩])
 (.seq (.region [⟨some 12, .load false 1 (.t 2), none⟩,
   ⟨some 13, .load true 3 (.t 8), none⟩,
   ⟨some 14, .mkSl true 3 [(.int .i64 0), (.int .i64 0), (.int .i64 0)] 1 [(0, (.t 13))], none⟩,
   ⟨some 15, .app false 3 24 (.t 12) (.t 14), none⟩,
   ⟨none, .store 1 (.t 2) (.t 15), none⟩])
 (.seq (.region [⟨some 16, .load false 1 (.t 3), none⟩,
   ⟨some 17, .load true 3 (.t 8), none⟩,
   ⟨some 18, .callv (.t 16) [(.t 17)], none⟩,
   ⟨some 19, .call 23 [(.t 18)], none⟩,
   ⟨some 6, .mv (.t 19), none⟩,
   ⟨some 7, .mv (.c (.bool true)), none⟩])
 .ret))))
def f22c0_lay : Lay := ⟨20, [15], false⟩
def f22c0_res : List LRes := [.t 6, .t 7]
def f22c0_L : LFn := ⟨4, f22c0_lay, f22c0_c0, f22c0_res⟩
theorem f22c0_low : lowFn Try.prog [15] 22 = some f22c0_L := by kernel_rfl
theorem f22c0_fok : FnOk Try.prog 22 := ⟨_, Try.func22, rfl, rfl⟩
noncomputable def S_glossatorlaw3_QuerylangCompile_3c (m : Option Nat) (a0 : List G_QKey) (a1 : List G_QValue) (a2 : Int) (a3 : Int) : Option (Int × Bool × (List G_QKey)) :=
  if ((a0 ++ ([(G_QKey.mk a2 a3 0)] : List G_QKey)).map e_QKey).length * 24 ≤ 140737488355328 then
  (S_glossatorlaw3_QuerylangCompile_1 m (G_QKey.mk a2 a3 0) a1).bind fun v1 =>
  (S_glossatorref3_Number m v1).bind fun v2 =>
  some (v2, true, (a0 ++ ([(G_QKey.mk a2 a3 0)] : List G_QKey)))
  else none

def f22c0_Q (a0 : List G_QKey) (a1 : List G_QValue) (a2 : Int) (a3 : Int) (o : Int × Bool × (List G_QKey)) : Exit → Env → AHeap → Nat → Prop := FinK f22c0_res (FinTo 3 4 (.tup [.int .i64 o.1, .bool o.2.1]) [((1, 0), .one [.msl (3, 0) 3 0 o.2.2.length false]), ((1, 1), .one [.fn (.func 16) [] [.ptr (1, 2) 0 0]]), ((1, 2), .one [.isl 2 (a1.map e_QValue) false]), ((3, 0), .rows 3 (o.2.2.map e_QKey))])

theorem f22c0_start {a0 : List G_QKey} {a1 : List G_QValue} {a2 : Int} {a3 : Int} {m : Option Nat} {o : Int × Bool × (List G_QKey)} (h : S_glossatorlaw3_QuerylangCompile_3c m a0 a1 a2 a3 = some o) : LWp Try.prog f22c0_lay 3 f22c0_c0 (f22c0_Q a0 a1 a2 a3 o) (initEnv 0 [.int .i64 a2, .int .i64 a3, .ptr (1, 0) 0 0, .ptr (1, 1) 0 0]) [((1, 0), .one [.msl (2, 0) 3 0 a0.length false]), ((1, 1), .one [.fn (.func 16) [] [.ptr (1, 2) 0 0]]), ((1, 2), .one [.isl 2 (a1.map e_QValue) false]), ((2, 0), .rows 3 (a0.map e_QKey))] 3 := by
  unfold S_glossatorlaw3_QuerylangCompile_3c at h
  refine seqI ?_
  refine regI ?_
  refine seqI ?_
  refine regI ?_
  refine seqI ?_
  refine regI ?_
  obtain ⟨h1, h⟩ := ite_some h
  refine And.intro (fun h => Bool.noConfusion h) (And.intro (lenW e_QKey (by first | rfl | simp)) (Exists.intro ((a0 ++ ([(G_QKey.mk a2 a3 0)] : List G_QKey)).map e_QKey) (And.intro (appW e_QKey a0 ([(G_QKey.mk a2 a3 0)] : List G_QKey) (by first | rfl | simp)) (And.intro h1 ?_))))
  refine LWp.sim (e := [(3, .ptr (1, 1) 0 0), (8, .ptr (3, 0) 0 0)]) (L := [((1, 0), .one [.msl (4, 0) 3 0 (((a0 ++ ([(G_QKey.mk a2 a3 0)] : List G_QKey)).map e_QKey).length) false]), ((1, 1), .one [.fn (.func 16) [] [.ptr (1, 2) 0 0]]), ((1, 2), .one [.isl 2 (a1.map e_QValue) false]), ((3, 0), .one [.int .i64 a2, .int .i64 a3, .int .i64 0]), ((4, 0), .rows 3 ((a0 ++ ([(G_QKey.mk a2 a3 0)] : List G_QKey)).map e_QKey))]) (n := 5) ?_ ?_
  · exact simI (M := [((3, 0), (3, 0)), ((4, 0), (4, 0))]) rfl (And.intro (Vw.ptr _ _ _ _ rfl) (And.intro (Vw.ptr _ _ _ _ rfl) trivial)) (And.intro (And.intro rfl (BVw.oneL (And.intro (Vw.mslE rfl (by first | rfl | simp) rfl) trivial))) (And.intro (And.intro rfl (BVw.oneL (And.intro (Vw.fnL trivial (And.intro (Vw.ptr _ _ _ _ rfl) trivial)) trivial))) (And.intro (And.intro rfl (BVw.oneL (And.intro (Vw.same _ rfl) trivial))) (And.intro (And.intro rfl (BVw.oneL (And.intro (Vw.same _ rfl) (And.intro (Vw.same _ rfl) (And.intro (Vw.same _ rfl) trivial))))) (And.intro (And.intro rfl (BVw.enc e_QKey (fun _ => rfl) _ (a0 ++ ([(G_QKey.mk a2 a3 0)] : List G_QKey)))) trivial)))))
  refine seqI ?_
  refine regI ?_
  obtain ⟨v1, h2, h⟩ := bind_some h
  refine bcall (k := 3) (m := 0) (L' := [((1, 2), .one [.isl 2 (a1.map e_QValue) false])]) (rest := [((1, 0), .one [.msl (4, 0) 3 0 (((a0 ++ ([(G_QKey.mk a2 a3 0)] : List G_QKey)).map e_QKey).length) false]), ((1, 1), .one [.fn (.func 16) [] [.ptr (1, 2) 0 0]]), ((3, 0), .one [.int .i64 a2, .int .i64 a3, .int .i64 0]), ((4, 0), .rows 3 ((a0 ++ ([(G_QKey.mk a2 a3 0)] : List G_QKey)).map e_QKey))]) (R' := .agg [.isl 1 (v1.f_Nums.map e_i64) false, .str v1.f_Text]) [((0, 0), (1, 2))] (f16b0_ok h2) rfl rfl rfl (And.intro (Vw.same _ rfl) (And.intro (Vw.ptr _ _ _ _ rfl) trivial)) (And.intro (h0I (1, 2) rfl rfl (BVw.oneL (And.intro (Vw.same _ rfl) trivial))) trivial) (nid_ren _ rfl) (And.intro rfl (And.intro rfl trivial)) rfl ?_
  obtain ⟨v2, h3, h⟩ := bind_some h
  refine PFn.call (f23_ok h3) (And.intro (Vw.same _ rfl) trivial) ?_
  refine retI ?_
  cases h
  exact And.intro trivial (And.intro trivial (finI (n' := 6) [((3, 0), (4, 0))] [] rfl rfl (Vw.same _ rfl) (And.intro (And.intro rfl (BVw.oneL (And.intro (Vw.mslE rfl (by first | rfl | simp) rfl) trivial))) (And.intro (And.intro rfl (BVw.oneL (And.intro (Vw.fnL trivial (And.intro (Vw.ptr _ _ _ _ rfl) trivial)) trivial))) (And.intro (And.intro rfl (BVw.oneL (And.intro (Vw.same _ rfl) trivial))) (And.intro (And.intro rfl (BVw.enc e_QKey (fun _ => rfl) _ (a0 ++ ([(G_QKey.mk a2 a3 0)] : List G_QKey)))) trivial))))))

theorem f22c0_ok {a0 : List G_QKey} {a1 : List G_QValue} {a2 : Int} {a3 : Int} {m : Option Nat} {o : Int × Bool × (List G_QKey)} (h : S_glossatorlaw3_QuerylangCompile_3c m a0 a1 a2 a3 = some o) : ACalls Try.prog 22 [.int .i64 a2, .int .i64 a3, .ptr (1, 0) 0 0, .ptr (1, 1) 0 0] [((1, 0), .one [.msl (2, 0) 3 0 a0.length false]), ((1, 1), .one [.fn (.func 16) [] [.ptr (1, 2) 0 0]]), ((1, 2), .one [.isl 2 (a1.map e_QValue) false]), ((2, 0), .rows 3 (a0.map e_QKey))] 3 (Gives 4 (.tup [.int .i64 o.1, .bool o.2.1]) [((1, 0), .one [.msl (3, 0) 3 0 o.2.2.length false]), ((1, 1), .one [.fn (.func 16) [] [.ptr (1, 2) 0 0]]), ((1, 2), .one [.isl 2 (a1.map e_QValue) false]), ((3, 0), .rows 3 (o.2.2.map e_QKey))]) := bfn_of (L := f22c0_L) f22c0_low f22c0_fok (Nat.le_of_ble_eq_true rfl) (f22c0_start h)

def f21b0_c2 : LCode := (.seq (.region [⟨some 109, .mv (.t 9), none⟩,
   ⟨some 110, .mv (.t 17), none⟩,
   ⟨some 111, .bin .sub (.t 109) (.t 110), none⟩,
   ⟨some 9, .mv (.t 111), none⟩])
 (.seq (.region [⟨some 112, .mv (.t 9), none⟩,
   ⟨some 113, .mv (.t 16), none⟩,
   ⟨some 114, .iaddrR 24 1 (.t 8) (.t 112), none⟩,
   ⟨none, .store 1 (.t 114) (.t 113), none⟩])
 (.region [⟨some 115, .mv (.t 9), none⟩,
   ⟨some 116, .bin .add (.t 115) (.c (.int .i64 1)), none⟩,
   ⟨some 9, .mv (.t 116), none⟩])))
def f21b0_c3 : LCode := (.seq (.seq (.region [⟨some 97, .mv (.t 14), none⟩,
   ⟨some 98, .bin .geq (.t 97) (.c (.int .i64 0)), none⟩])
 (.cond (.t 98)
  (.seq (.region [⟨some 100, .mv (.t 2), none⟩,
    ⟨some 101, .mv (.t 14), none⟩,
    ⟨some 102, .mv (.t 15), none⟩,
    ⟨some 103, .callv (.t 100) [(.t 101), (.t 102)], none⟩,
    ⟨some 99, .mv (.t 103), none⟩,
    ⟨some 104, .ext 0 (.t 99), none⟩,
    ⟨some 105, .ext 1 (.t 99), none⟩,
    ⟨some 18, .mv (.t 104), none⟩,
    ⟨some 19, .mv (.t 105), none⟩])
  (.seq (.seq (.region [⟨some 106, .mv (.t 19), none⟩,
    ⟨some 107, .un .not (.t 106), none⟩])
  (.cond (.t 107)
   (.seq (.region [⟨some 6, .mv (.c (.int .i64 0)), none⟩,
     ⟨some 7, .mv (.c (.bool false)), none⟩])
   .ret)
   .skip))
  (.region [⟨some 108, .mv (.t 18), none⟩,
    ⟨some 16, .mv (.t 108), none⟩])))
  .skip))
 f21b0_c2)
def f21b0_c4 : LCode := (.seq (.region [⟨some 14, .mv (.c (.int .i64 (-1))), none⟩,
   ⟨some 15, .mv (.c (.int .i64 0)), none⟩])
 (.seq (.region [⟨some 16, .mv (.c (.int .i64 0)), none⟩,
   ⟨some 17, .mv (.c (.int .i64 2)), none⟩])
 (.seq (.seq (.region [⟨some 38, .faddr 0 (.t 11), none⟩,
   ⟨some 39, .load false 1 (.t 38), none⟩])
 (.block 2
  (.seq (.region [⟨some 44, .bin .eql (.t 39) (.c (.int .i64 1)), none⟩,
    ⟨some 43, .mv (.t 44), none⟩])
  (.cond (.t 43)
   (.region [⟨some 45, .faddr 1 (.t 11), none⟩,
     ⟨some 46, .load false 1 (.t 45), none⟩,
     ⟨some 47, .call 17 [(.t 46), (.c (.int .i64 1000003))], none⟩,
     ⟨some 16, .mv (.t 47), none⟩,
     ⟨some 17, .mv (.c (.int .i64 0)), none⟩])
   (.seq (.region [⟨some 49, .bin .eql (.t 39) (.c (.int .i64 2)), none⟩,
     ⟨some 48, .mv (.t 49), none⟩])
   (.cond (.t 48)
    (.quiet [⟨some 50, .faddr 1 (.t 11), none⟩,
      ⟨some 51, .load false 1 (.t 50), none⟩,
      ⟨some 14, .mv (.c (.int .i64 0)), none⟩,
      ⟨some 15, .mv (.t 51), none⟩,
      ⟨some 17, .mv (.c (.int .i64 0)), none⟩])
    (.seq (.region [⟨some 53, .bin .eql (.t 39) (.c (.int .i64 3)), none⟩,
      ⟨some 52, .mv (.t 53), none⟩])
    (.cond (.t 52)
     (.quiet [⟨some 54, .faddr 1 (.t 11), none⟩,
       ⟨some 55, .load false 1 (.t 54), none⟩,
       ⟨some 14, .mv (.c (.int .i64 1)), none⟩,
       ⟨some 15, .mv (.t 55), none⟩,
       ⟨some 17, .mv (.c (.int .i64 0)), none⟩])
     (.seq (.region [⟨some 57, .bin .eql (.t 39) (.c (.int .i64 4)), none⟩,
       ⟨some 56, .mv (.t 57), none⟩])
     (.cond (.t 56)
      (.quiet [⟨some 58, .mv (.t 13), none⟩,
        ⟨some 59, .mv (.t 1), none⟩,
        ⟨some 60, .bin .rem (.t 58) (.t 59), none⟩,
        ⟨some 14, .mv (.c (.int .i64 1)), none⟩,
        ⟨some 15, .mv (.t 60), none⟩,
        ⟨some 17, .mv (.c (.int .i64 1)), none⟩])
      (.seq (.region [⟨some 62, .bin .eql (.t 39) (.c (.int .i64 5)), none⟩,
        ⟨some 61, .mv (.t 62), none⟩])
      (.cond (.t 61)
       (.seq (.quiet [⟨some 63, .faddr 1 (.t 11), none⟩,
         ⟨some 64, .load false 1 (.t 63), none⟩,
         ⟨some 14, .mv (.c (.int .i64 1)), none⟩,
         ⟨some 15, .mv (.t 64), none⟩,
         ⟨some 17, .mv (.c (.int .i64 1)), none⟩])
       (.seq (.region [⟨some 65, .mv (.t 13), none⟩,
         ⟨some 66, .bin .eql (.t 65) (.c (.int .i64 0)), none⟩])
       (.cond (.t 66)
        (.region [⟨some 67, .faddr 2 (.t 11), none⟩,
          ⟨some 68, .load false 1 (.t 67), none⟩,
          ⟨some 15, .mv (.t 68), none⟩])
        .skip)))
       (.seq (.region [⟨some 70, .bin .eql (.t 39) (.c (.int .i64 6)), none⟩,
         ⟨some 69, .mv (.t 70), none⟩])
       (.cond (.t 69)
        (.region [⟨some 71, .mv (.t 12), none⟩,
          ⟨some 72, .mv (.t 13), none⟩,
          ⟨some 73, .bin .add (.t 71) (.t 72), none⟩,
          ⟨some 74, .call 17 [(.t 73), (.c (.int .i64 1000003))], none⟩,
          ⟨some 16, .mv (.t 74), none⟩])
        (.seq (.region [⟨some 76, .bin .eql (.t 39) (.c (.int .i64 7)), none⟩,
          ⟨some 75, .mv (.t 76), none⟩])
        (.cond (.t 75)
         (.region [⟨some 77, .mv (.t 12), none⟩,
           ⟨some 78, .mv (.t 13), none⟩,
           ⟨some 79, .bin .sub (.t 77) (.t 78), none⟩,
           ⟨some 80, .call 17 [(.t 79), (.c (.int .i64 1000003))], none⟩,
           ⟨some 16, .mv (.t 80), none⟩])
         (.seq (.region [⟨some 82, .bin .eql (.t 39) (.c (.int .i64 8)), none⟩,
           ⟨some 81, .mv (.t 82), none⟩])
         (.cond (.t 81)
          (.region [⟨some 83, .mv (.t 12), none⟩,
            ⟨some 84, .mv (.t 13), none⟩,
            ⟨some 85, .bin .mul (.t 83) (.t 84), none⟩,
            ⟨some 86, .call 17 [(.t 85), (.c (.int .i64 1000003))], none⟩,
            ⟨some 16, .mv (.t 86), none⟩])
          (.seq (.region [⟨some 88, .bin .eql (.t 39) (.c (.int .i64 9)), none⟩,
            ⟨some 87, .mv (.t 88), none⟩])
          (.cond (.t 87)
           (.region [⟨some 89, .mv (.t 12), none⟩,
             ⟨some 90, .mv (.t 13), none⟩,
             ⟨some 91, .mnx false [(.t 89), (.t 90)], none⟩,
             ⟨some 16, .mv (.t 91), none⟩])
           (.seq (.region [⟨some 93, .bin .eql (.t 39) (.c (.int .i64 10)), none⟩,
             ⟨some 92, .mv (.t 93), none⟩])
           (.cond (.t 92)
            (.region [⟨some 94, .mv (.t 12), none⟩,
              ⟨some 95, .mv (.t 13), none⟩,
              ⟨some 96, .mnx true [(.t 94), (.t 95)], none⟩,
              ⟨some 16, .mv (.t 96), none⟩])
            (.seq (.region [⟨some 40, .mv (.t 12), none⟩,
              ⟨some 41, .mv (.t 13), none⟩,
              ⟨some 42, .bin .lss (.t 40) (.t 41), none⟩])
            (.cond (.t 42)
             (.region [⟨some 16, .mv (.c (.int .i64 1)), none⟩])
             .skip))))))))))))))))))))))))
 f21b0_c3)))
def f21b0_c5 : LCode := (.seq (.seq (.region [⟨some 32, .mv (.t 9), none⟩,
   ⟨some 33, .bin .gtr (.t 32) (.c (.int .i64 1)), none⟩])
 (.cond (.t 33)
  (.region [⟨some 34, .mv (.t 9), none⟩,
    ⟨some 35, .bin .sub (.t 34) (.c (.int .i64 2)), none⟩,
    ⟨some 36, .iaddrR 24 1 (.t 8) (.t 35), none⟩,
    ⟨some 37, .load false 1 (.t 36), none⟩,
    ⟨some 12, .mv (.t 37), none⟩])
  .skip))
 f21b0_c4)
def f21b0_c0 : LCode := (.region [⟨some 117, .bin .add (.t 22) (.c (.int .i64 1)), none⟩,
   ⟨some 22, .mv (.t 117), none⟩])
def f21b0_c6 : LCode := (.seq (.region [⟨some 23, .bin .lss (.t 22) (.t 21), none⟩])
 (.seq (.cond (.t 23)
  .skip
  (.exit 0))
 (.seq (.block 1
  (.seq (.region [⟨some 24, .iaddr 3 (.t 20) (.t 22), none⟩,
    ⟨some 25, .load true 3 (.t 24), none⟩,
    ⟨some 11, .alloc [(.int .i64 0), (.int .i64 0), (.int .i64 0)], none⟩,
    ⟨none, .store 3 (.t 11) (.t 25), none⟩])
  (.seq (.region [⟨some 12, .mv (.c (.int .i64 0)), none⟩,
    ⟨some 13, .mv (.c (.int .i64 0)), none⟩])
  (.seq (.seq (.region [⟨some 26, .mv (.t 9), none⟩,
    ⟨some 27, .bin .gtr (.t 26) (.c (.int .i64 0)), none⟩])
  (.cond (.t 27)
   (.region [⟨some 28, .mv (.t 9), none⟩,
     ⟨some 29, .bin .sub (.t 28) (.c (.int .i64 1)), none⟩,
     ⟨some 30, .iaddrR 24 1 (.t 8) (.t 29), none⟩,
     ⟨some 31, .load false 1 (.t 30), none⟩,
     ⟨some 13, .mv (.t 31), none⟩])
   .skip))
  f21b0_c5))))
 f21b0_c0)))
def f21b0_c1 : LCode := (.seq (.region [⟨some 118, .iaddrR 24 1 (.t 8) (.c (.int .i64 0)), none⟩,
   ⟨some 119, .load false 1 (.t 118), none⟩,
   ⟨some 6, .mv (.t 119), none⟩,
   ⟨some 7, .mv (.c (.bool true)), none⟩])
 .ret)
def f21b0_c7 : LCode := (.seq (.region [⟨some 6, .mv (.c (.int .i64 0)), none⟩,
   ⟨some 7, .mv (.c (.bool false)), none⟩])
 (.seq (.region [⟨some 8, .allocR 1 [(.int .i64 0), (.int .i64 0), (.int .i64 0), (.int .i64 0), (.int .i64 0), (.int .i64 0), (.int .i64 0), (.int .i64 0), (.int .i64 0), (.int .i64 0), (.int .i64 0), (.int .i64 0), (.int .i64 0), (.int .i64 0), (.int .i64 0), (.int .i64 0), (.int .i64 0), (.int .i64 0), (.int .i64 0), (.int .i64 0), (.int .i64 0), (.int .i64 0), (.int .i64 0), (.int .i64 0)], none⟩])
 (.seq (.region [⟨some 9, .mv (.c (.int .i64 0)), none⟩])
 (.seq (.seq (.region [⟨some 20, .mv (.t 0), none⟩,
   ⟨some 21, .len false (.t 20), none⟩,
   ⟨some 22, .mv (.c (.int .i64 0)), none⟩])
 (.block 0
  (.loop
   f21b0_c6)))
 f21b0_c1))))
def f21b0_lay : Lay := ⟨120, [8, 30, 36, 114, 118], false⟩
def f21b0_res : List LRes := [.t 6, .t 7]
def f21b0_L : LFn := ⟨3, f21b0_lay, f21b0_c7, f21b0_res⟩
theorem f21b0_low : lowFn Try.prog [8, 30, 36, 114, 118] 21 = some f21b0_L := by kernel_rfl
theorem f21b0_fok : FnOk Try.prog 21 := ⟨_, Try.func21, rfl, rfl⟩
def f21b0_Q {σ : Type} (Hc : σ → AHeap) (fi0 : Fn) (ff0 fc0 : List AVal) (a0 : List G_QOp) (a1 : Int) (z0 : σ) (o : Int × Bool × σ) : Exit → Env → AHeap → Nat → Prop := FinK f21b0_res (FinTo 3 4 (.tup [.int .i64 o.1, .bool o.2.1]) ([] ++ up 3 (Hc o.2.2)))

def f21b0_L1_env {σ : Type} (Hc : σ → AHeap) (fi0 : Fn) (ff0 fc0 : List AVal) (a0 : List G_QOp) (a1 : Int) (s : (Int × Int × (List Int) × σ)) : Env := [(1, .int .i64 a1), (2, .fn fi0 ff0 fc0), (8, .ptr (4, 0) 0 0), (9, .int .i64 s.1), (20, .isl 3 (a0.map e_QOp) false), (21, .int .i64 ((a0.map e_QOp).length : Int)), (22, .int .i64 s.2.1)]
def f21b0_L1_hp {σ : Type} (Hc : σ → AHeap) (fi0 : Fn) (ff0 fc0 : List AVal) (a0 : List G_QOp) (a1 : Int) (s : (Int × Int × (List Int) × σ)) : AHeap := ([((4, 0), .rows 1 (s.2.2.1.map e_i64))] ++ up 3 (Hc s.2.2.2))
def f21b0_L1_Q {σ : Type} (Hc : σ → AHeap) (fi0 : Fn) (ff0 fc0 : List AVal) (a0 : List G_QOp) (a1 : Int) (z0 : σ) (o : (Int × Bool × σ)) : Exit → Env → AHeap → Nat → Prop := (QBlock 0 (QSeq Try.prog f21b0_lay 3 f21b0_c1 (f21b0_Q Hc fi0 ff0 fc0 a0 a1 z0 o)))

noncomputable def S_glossatorref3_Exec_j12 {σ : Type} (g0 : σ → (Int × Int) → Option ((Int × Bool) × σ)) (m : Option Nat) (a0 : List G_QOp) (a1 : Int) (v14 : Int) (v15 : Int) (v16 : List Int) (v40 : Int) (v42 : Int) (v43 : σ) : Option ((Int × Int × (List Int) × σ) ⊕ (Int × Bool × σ)) :=
  if (0 : Int) ≤ (W (v14 - v40)) ∧ (W (v14 - v40)) < ((24 : Nat) : Int) then
  if (0 + (W (v14 - v40)).toNat) < v16.length then
  some (.inl ((W ((W (v14 - v40)) + 1)), (W (v15 + 1)), (v16.set (0 + (W (v14 - v40)).toNat) v42), v43))
  else none
  else none

theorem f21b0_j12_ok {σ : Type} {Hc : σ → AHeap} {fi0 : Fn} {ff0 fc0 : List AVal} {g0 : σ → (Int × Int) → Option ((Int × Bool) × σ)} (hg0 : Clo Try.prog fi0 ff0 fc0 Hc (fun (x : (Int × Int)) => [.int .i64 x.1, .int .i64 x.2]) (fun (b : (Int × Bool)) => .tup [.int .i64 b.1, .bool b.2]) g0) {z0 : σ} {a0 : List G_QOp} {a1 : Int} {v14 : Int} {v15 : Int} {v16 : List Int} {v40 : Int} {v42 : Int} {v43 : σ} {m : Option Nat} {o : ((Int × Int × (List Int) × σ) ⊕ (Int × Bool × σ))} (h : S_glossatorref3_Exec_j12 g0 m a0 a1 v14 v15 v16 v40 v42 v43 = some o) :
    LWp Try.prog f21b0_lay 3 f21b0_c2 (QBlock 1 (QSeq Try.prog f21b0_lay 3 f21b0_c0 (BodyQ 3 5 (f21b0_L1_env Hc fi0 ff0 fc0 a0 a1) (f21b0_L1_hp Hc fi0 ff0 fc0 a0 a1) (f21b0_L1_Q Hc fi0 ff0 fc0 a0 a1 z0) o))) [(1, .int .i64 a1), (2, .fn fi0 ff0 fc0), (8, .ptr (4, 0) 0 0), (9, .int .i64 v14), (16, .int .i64 v42), (17, .int .i64 v40), (20, .isl 3 (a0.map e_QOp) false), (21, .int .i64 ((a0.map e_QOp).length : Int)), (22, .int .i64 v15)] ([((4, 0), .rows 1 (v16.map e_i64))] ++ up 3 (Hc v43)) 5 := by
  unfold S_glossatorref3_Exec_j12 at h
  refine seqI ?_
  refine regI ?_
  refine seqI ?_
  refine regI ?_
  obtain ⟨h89, h⟩ := ite_some h
  refine And.intro h89 ?_
  show yops _ _ _ [(114, .ptr (4, 0) (0 + (W (v14 - v40)).toNat) 0), (113, .int .i64 v42), (112, .int .i64 (W (v14 - v40))), (9, .int .i64 (W (v14 - v40))), (111, .int .i64 (W (v14 - v40))), (110, .int .i64 v40), (109, .int .i64 v14), (1, .int .i64 a1), (2, .fn fi0 ff0 fc0), (8, .ptr (4, 0) 0 0), (9, .int .i64 v14), (16, .int .i64 v42), (17, .int .i64 v40), (20, .isl 3 (a0.map e_QOp) false), (21, .int .i64 ((a0.map e_QOp).length : Int)), (22, .int .i64 v15)] _ _
  obtain ⟨h90, h⟩ := ite_some h
  refine Exists.intro ((v16.set (0 + (W (v14 - v40)).toNat) v42).map e_i64) (And.intro (set_enc e_i64 _ _ _ _ _ h90 rfl) (And.intro (And.intro rfl (And.intro (lt_map e_i64 h90) (Nat.le_of_ble_eq_true rfl))) ?_))
  refine LWp.sim (e := [(1, .int .i64 a1), (2, .fn fi0 ff0 fc0), (8, .ptr (4, 0) 0 0), (9, .int .i64 (W (v14 - v40))), (20, .isl 3 (a0.map e_QOp) false), (21, .int .i64 ((a0.map e_QOp).length : Int)), (22, .int .i64 v15)]) (L := ([((4, 0), .rows 1 ((v16.set (0 + (W (v14 - v40)).toNat) v42).map e_i64))] ++ up 3 (Hc v43))) (n := 5) ?_ ?_
  · exact simT (M := [((4, 0), (4, 0))]) (lit' := [((4, 0), .rows 1 ((v16.set (0 + (W (v14 - v40)).toNat) v42).map e_i64))]) (hg0.tl _) rfl (And.intro (Vw.same _ rfl) (And.intro (Vw.clo hg0.hf hg0.hc (by decide) (rhoT_1 (chkT_ok (n := 5) (q := 3) (lit' := [((4, 0), .rows 1 ((v16.set (0 + (W (v14 - v40)).toNat) v42).map e_i64))]) rfl))) (And.intro (Vw.ptr _ _ _ _ rfl) (And.intro (Vw.same _ rfl) (And.intro (Vw.same _ rfl) (And.intro (Vw.same _ rfl) (And.intro (Vw.same _ rfl) trivial))))))) (And.intro (And.intro rfl (BVw.enc e_i64 (fun _ => rfl) _ (v16.set (0 + (W (v14 - v40)).toNat) v42))) trivial)
  refine regI ?_
  refine regI ?_
  cases h
  exact And.intro rfl (simT (M := [((4, 0), (4, 0))]) (lit' := [((4, 0), .rows 1 ((v16.set (0 + (W (v14 - v40)).toNat) v42).map e_i64))]) (hg0.tl _) rfl (And.intro (Vw.same _ rfl) (And.intro (Vw.clo hg0.hf hg0.hc (by decide) (rhoT_1 (chkT_ok (n := 5) (q := 3) (lit' := [((4, 0), .rows 1 ((v16.set (0 + (W (v14 - v40)).toNat) v42).map e_i64))]) rfl))) (And.intro (Vw.ptr _ _ _ _ rfl) (And.intro (Vw.same _ rfl) (And.intro (Vw.same _ rfl) (And.intro (Vw.same _ rfl) (And.intro (Vw.same _ rfl) trivial))))))) (And.intro (And.intro rfl (BVw.enc e_i64 (fun _ => rfl) _ (v16.set (0 + (W (v14 - v40)).toNat) v42))) trivial))

noncomputable def S_glossatorref3_Exec_j11 {σ : Type} (g0 : σ → (Int × Int) → Option ((Int × Bool) × σ)) (m : Option Nat) (a0 : List G_QOp) (a1 : Int) (v14 : Int) (v15 : Int) (v16 : List Int) (v17 : σ) (v37 : Int) (v38 : Int) (v39 : Int) (v40 : Int) : Option ((Int × Int × (List Int) × σ) ⊕ (Int × Bool × σ)) :=
  if (decide (v37 ≥ 0)) = true then
    (g0 v17 (v37, v38)).bind fun v41 =>
    if (!v41.1.2) = true then
      Option.map Sum.inr (
        some (0, false, v41.2))
    else
      S_glossatorref3_Exec_j12 g0 m a0 a1 v14 v15 v16 v40 v41.1.1 v41.2
  else
    S_glossatorref3_Exec_j12 g0 m a0 a1 v14 v15 v16 v40 v39 v17

theorem f21b0_j11_ok {σ : Type} {Hc : σ → AHeap} {fi0 : Fn} {ff0 fc0 : List AVal} {g0 : σ → (Int × Int) → Option ((Int × Bool) × σ)} (hg0 : Clo Try.prog fi0 ff0 fc0 Hc (fun (x : (Int × Int)) => [.int .i64 x.1, .int .i64 x.2]) (fun (b : (Int × Bool)) => .tup [.int .i64 b.1, .bool b.2]) g0) {z0 : σ} {a0 : List G_QOp} {a1 : Int} {v14 : Int} {v15 : Int} {v16 : List Int} {v17 : σ} {v37 : Int} {v38 : Int} {v39 : Int} {v40 : Int} {m : Option Nat} {o : ((Int × Int × (List Int) × σ) ⊕ (Int × Bool × σ))} (h : S_glossatorref3_Exec_j11 g0 m a0 a1 v14 v15 v16 v17 v37 v38 v39 v40 = some o) :
    LWp Try.prog f21b0_lay 3 f21b0_c3 (QBlock 1 (QSeq Try.prog f21b0_lay 3 f21b0_c0 (BodyQ 3 5 (f21b0_L1_env Hc fi0 ff0 fc0 a0 a1) (f21b0_L1_hp Hc fi0 ff0 fc0 a0 a1) (f21b0_L1_Q Hc fi0 ff0 fc0 a0 a1 z0) o))) [(1, .int .i64 a1), (2, .fn fi0 ff0 fc0), (8, .ptr (4, 0) 0 0), (9, .int .i64 v14), (14, .int .i64 v37), (15, .int .i64 v38), (16, .int .i64 v39), (17, .int .i64 v40), (20, .isl 3 (a0.map e_QOp) false), (21, .int .i64 ((a0.map e_QOp).length : Int)), (22, .int .i64 v15)] ([((4, 0), .rows 1 (v16.map e_i64))] ++ up 3 (Hc v17)) 5 := by
  unfold S_glossatorref3_Exec_j11 at h
  refine seqI ?_
  refine seqI ?_
  refine regI ?_
  refine condI (v := (decide (v37 ≥ 0))) rfl trivial (fun h86 => ?_) (fun h86 => ?_)
  · have h := ite_tt h86 h
    refine seqI ?_
    refine regI ?_
    obtain ⟨v41, h87, h⟩ := bind_some h
    refine Clo.use (q := 3) (lit := [((4, 0), .rows 1 (v16.map e_i64))]) hg0 h87 rfl rfl (And.intro (Vw.same _ rfl) (And.intro (Vw.same _ rfl) trivial)) ?_
    show yops _ _ _ [(103, .tup [.int .i64 v41.1.1, .bool v41.1.2]), (102, .int .i64 v38), (101, .int .i64 v37), (100, .fn fi0 ff0 fc0), (98, .bool (decide (v37 ≥ 0))), (97, .int .i64 v37), (1, .int .i64 a1), (2, .fn fi0 ff0 fc0), (8, .ptr (4, 0) 0 0), (9, .int .i64 v14), (14, .int .i64 v37), (15, .int .i64 v38), (16, .int .i64 v39), (17, .int .i64 v40), (20, .isl 3 (a0.map e_QOp) false), (21, .int .i64 ((a0.map e_QOp).length : Int)), (22, .int .i64 v15)] _ _
    refine LWp.sim (e := [(1, .int .i64 a1), (2, .fn fi0 ff0 fc0), (8, .ptr (4, 0) 0 0), (9, .int .i64 v14), (17, .int .i64 v40), (18, .int .i64 v41.1.1), (19, .bool v41.1.2), (20, .isl 3 (a0.map e_QOp) false), (21, .int .i64 ((a0.map e_QOp).length : Int)), (22, .int .i64 v15)]) (L := ([((4, 0), .rows 1 (v16.map e_i64))] ++ up 3 (Hc v41.2))) (n := 5) ?_ ?_
    · exact simT (M := [((4, 0), (4, 0))]) (lit' := [((4, 0), .rows 1 (v16.map e_i64))]) (hg0.tl _) rfl (And.intro (Vw.same _ rfl) (And.intro (Vw.clo hg0.hf hg0.hc (by decide) (rhoT_1 (chkT_ok (n := 5) (q := 5) (lit' := [((4, 0), .rows 1 (v16.map e_i64))]) rfl))) (And.intro (Vw.ptr _ _ _ _ rfl) (And.intro (Vw.same _ rfl) (And.intro (Vw.same _ rfl) (And.intro (Vw.same _ rfl) (And.intro (Vw.same _ rfl) (And.intro (Vw.same _ rfl) (And.intro (Vw.same _ rfl) (And.intro (Vw.same _ rfl) trivial)))))))))) (And.intro (And.intro rfl (BVw.enc e_i64 (fun _ => rfl) _ v16)) trivial)
    refine seqI ?_
    refine seqI ?_
    refine regI ?_
    refine condI (v := (!v41.1.2)) rfl trivial (fun h88 => ?_) (fun h88 => ?_)
    · have h := ite_tt h88 h
      refine seqI ?_
      refine regI ?_
      refine retI ?_
      obtain ⟨o, hq, rfl⟩ := Option.map_eq_some_iff.1 h
      replace h := hq; clear hq
      refine And.intro nofun ?_
      cases h
      exact And.intro trivial (And.intro trivial (finT (n' := 5) (q := 3) (lit' := [((4, 0), .rows 1 (v16.map e_i64))]) (hg0.tl _) [] [] rfl rfl (Vw.same _ rfl) trivial))
    · have h := ite_ff h88 h
      refine skipI ?_
      refine regI ?_
      refine LWp.sim ?_ (f21b0_j12_ok hg0 h)
      exact simT (M := [((4, 0), (4, 0))]) (lit' := [((4, 0), .rows 1 (v16.map e_i64))]) (hg0.tl _) rfl (And.intro (Vw.same _ rfl) (And.intro (Vw.clo hg0.hf hg0.hc (by decide) (rhoT_1 (chkT_ok (n := 5) (q := 3) (lit' := [((4, 0), .rows 1 (v16.map e_i64))]) rfl))) (And.intro (Vw.ptr _ _ _ _ rfl) (And.intro (Vw.same _ rfl) (And.intro (Vw.same _ rfl) (And.intro (Vw.same _ rfl) (And.intro (Vw.same _ rfl) (And.intro (Vw.same _ rfl) (And.intro (Vw.same _ rfl) trivial))))))))) (And.intro (And.intro rfl (BVw.enc e_i64 (fun _ => rfl) _ v16)) trivial)
  · have h := ite_ff h86 h
    refine skipI ?_
    refine LWp.sim ?_ (f21b0_j12_ok hg0 h)
    exact simT (M := [((4, 0), (4, 0))]) (lit' := [((4, 0), .rows 1 (v16.map e_i64))]) (hg0.tl _) rfl (And.intro (Vw.same _ rfl) (And.intro (Vw.clo hg0.hf hg0.hc (by decide) (rhoT_1 (chkT_ok (n := 5) (q := 3) (lit' := [((4, 0), .rows 1 (v16.map e_i64))]) rfl))) (And.intro (Vw.ptr _ _ _ _ rfl) (And.intro (Vw.same _ rfl) (And.intro (Vw.same _ rfl) (And.intro (Vw.same _ rfl) (And.intro (Vw.same _ rfl) (And.intro (Vw.same _ rfl) (And.intro (Vw.same _ rfl) trivial))))))))) (And.intro (And.intro rfl (BVw.enc e_i64 (fun _ => rfl) _ v16)) trivial)

noncomputable def S_glossatorref3_Exec_j10 {σ : Type} (g0 : σ → (Int × Int) → Option ((Int × Bool) × σ)) (m : Option Nat) (a0 : List G_QOp) (a1 : Int) (v14 : Int) (v15 : Int) (v16 : List Int) (v17 : σ) (v31 : Int) (v32 : Int) : Option ((Int × Int × (List Int) × σ) ⊕ (Int × Bool × σ)) :=
  if ((a0.getD v15.toNat default).f_Op == 1) = true then
    (S_glossatorref3_Mod m ((a0.getD v15.toNat default).f_A) 1000003).bind fun v33 =>
    S_glossatorref3_Exec_j11 g0 m a0 a1 v14 v15 v16 v17 (-1) 0 v33 0
  else
    if ((a0.getD v15.toNat default).f_Op == 2) = true then
      S_glossatorref3_Exec_j11 g0 m a0 a1 v14 v15 v16 v17 0 ((a0.getD v15.toNat default).f_A) 0 0
    else
      if ((a0.getD v15.toNat default).f_Op == 3) = true then
        S_glossatorref3_Exec_j11 g0 m a0 a1 v14 v15 v16 v17 1 ((a0.getD v15.toNat default).f_A) 0 0
      else
        if ((a0.getD v15.toNat default).f_Op == 4) = true then
          if a1 ≠ 0 then
          S_glossatorref3_Exec_j11 g0 m a0 a1 v14 v15 v16 v17 1 (v31.tmod a1) 0 1
          else none
        else
          if ((a0.getD v15.toNat default).f_Op == 5) = true then
            if (v31 == 0) = true then
              S_glossatorref3_Exec_j11 g0 m a0 a1 v14 v15 v16 v17 1 ((a0.getD v15.toNat default).f_B) 0 1
            else
              S_glossatorref3_Exec_j11 g0 m a0 a1 v14 v15 v16 v17 1 ((a0.getD v15.toNat default).f_A) 0 1
          else
            if ((a0.getD v15.toNat default).f_Op == 6) = true then
              (S_glossatorref3_Mod m (W (v32 + v31)) 1000003).bind fun v34 =>
              S_glossatorref3_Exec_j11 g0 m a0 a1 v14 v15 v16 v17 (-1) 0 v34 2
            else
              if ((a0.getD v15.toNat default).f_Op == 7) = true then
                (S_glossatorref3_Mod m (W (v32 - v31)) 1000003).bind fun v35 =>
                S_glossatorref3_Exec_j11 g0 m a0 a1 v14 v15 v16 v17 (-1) 0 v35 2
              else
                if ((a0.getD v15.toNat default).f_Op == 8) = true then
                  (S_glossatorref3_Mod m (W (v32 * v31)) 1000003).bind fun v36 =>
                  S_glossatorref3_Exec_j11 g0 m a0 a1 v14 v15 v16 v17 (-1) 0 v36 2
                else
                  if ((a0.getD v15.toNat default).f_Op == 9) = true then
                    S_glossatorref3_Exec_j11 g0 m a0 a1 v14 v15 v16 v17 (-1) 0 (if v31 < v32 then v31 else v32) 2
                  else
                    if ((a0.getD v15.toNat default).f_Op == 10) = true then
                      S_glossatorref3_Exec_j11 g0 m a0 a1 v14 v15 v16 v17 (-1) 0 (if v31 > v32 then v31 else v32) 2
                    else
                      if (decide (v32 < v31)) = true then
                        S_glossatorref3_Exec_j11 g0 m a0 a1 v14 v15 v16 v17 (-1) 0 1 2
                      else
                        S_glossatorref3_Exec_j11 g0 m a0 a1 v14 v15 v16 v17 (-1) 0 0 2

theorem f21b0_j10_ok {σ : Type} {Hc : σ → AHeap} {fi0 : Fn} {ff0 fc0 : List AVal} {g0 : σ → (Int × Int) → Option ((Int × Bool) × σ)} (hg0 : Clo Try.prog fi0 ff0 fc0 Hc (fun (x : (Int × Int)) => [.int .i64 x.1, .int .i64 x.2]) (fun (b : (Int × Bool)) => .tup [.int .i64 b.1, .bool b.2]) g0) {z0 : σ} {a0 : List G_QOp} {a1 : Int} {v14 : Int} {v15 : Int} {v16 : List Int} {v17 : σ} {v31 : Int} {v32 : Int} {m : Option Nat} {o : ((Int × Int × (List Int) × σ) ⊕ (Int × Bool × σ))} (h : S_glossatorref3_Exec_j10 g0 m a0 a1 v14 v15 v16 v17 v31 v32 = some o) :
    LWp Try.prog f21b0_lay 3 f21b0_c4 (QBlock 1 (QSeq Try.prog f21b0_lay 3 f21b0_c0 (BodyQ 3 5 (f21b0_L1_env Hc fi0 ff0 fc0 a0 a1) (f21b0_L1_hp Hc fi0 ff0 fc0 a0 a1) (f21b0_L1_Q Hc fi0 ff0 fc0 a0 a1 z0) o))) [(1, .int .i64 a1), (2, .fn fi0 ff0 fc0), (8, .ptr (4, 0) 0 0), (9, .int .i64 v14), (11, .ptr (5, 0) 0 0), (12, .int .i64 v32), (13, .int .i64 v31), (20, .isl 3 (a0.map e_QOp) false), (21, .int .i64 ((a0.map e_QOp).length : Int)), (22, .int .i64 v15)] ([((4, 0), .rows 1 (v16.map e_i64)), ((5, 0), .one [.int .i64 ((a0.getD v15.toNat default).f_Op), .int .i64 ((a0.getD v15.toNat default).f_A), .int .i64 ((a0.getD v15.toNat default).f_B)])] ++ up 3 (Hc v17)) 6 := by
  unfold S_glossatorref3_Exec_j10 at h
  refine seqI ?_
  refine regI ?_
  refine seqI ?_
  refine regI ?_
  refine seqI ?_
  refine seqI ?_
  refine regI ?_
  refine blockI ?_
  refine seqI ?_
  refine regI ?_
  refine LWp.sim (e := [(1, .int .i64 a1), (2, .fn fi0 ff0 fc0), (8, .ptr (4, 0) 0 0), (9, .int .i64 v14), (11, .ptr (5, 0) 0 0), (12, .int .i64 v32), (13, .int .i64 v31), (14, .int .i64 (-1)), (15, .int .i64 0), (16, .int .i64 0), (17, .int .i64 2), (20, .isl 3 (a0.map e_QOp) false), (21, .int .i64 ((a0.map e_QOp).length : Int)), (22, .int .i64 v15), (39, .int .i64 ((a0.getD v15.toNat default).f_Op)), (43, .bool ((a0.getD v15.toNat default).f_Op == 1))]) (L := ([((4, 0), .rows 1 (v16.map e_i64)), ((5, 0), .one [.int .i64 ((a0.getD v15.toNat default).f_Op), .int .i64 ((a0.getD v15.toNat default).f_A), .int .i64 ((a0.getD v15.toNat default).f_B)])] ++ up 3 (Hc v17))) (n := 6) ?_ ?_
  · exact simT (M := [((4, 0), (4, 0)), ((5, 0), (5, 0))]) (lit' := [((4, 0), .rows 1 (v16.map e_i64)), ((5, 0), .one [.int .i64 ((a0.getD v15.toNat default).f_Op), .int .i64 ((a0.getD v15.toNat default).f_A), .int .i64 ((a0.getD v15.toNat default).f_B)])]) (hg0.tl _) rfl (And.intro (Vw.same _ rfl) (And.intro (Vw.clo hg0.hf hg0.hc (by decide) (rhoT_1 (chkT_ok (n := 6) (q := 3) (lit' := [((4, 0), .rows 1 (v16.map e_i64)), ((5, 0), .one [.int .i64 ((a0.getD v15.toNat default).f_Op), .int .i64 ((a0.getD v15.toNat default).f_A), .int .i64 ((a0.getD v15.toNat default).f_B)])]) rfl))) (And.intro (Vw.ptr _ _ _ _ rfl) (And.intro (Vw.same _ rfl) (And.intro (Vw.ptr _ _ _ _ rfl) (And.intro (Vw.same _ rfl) (And.intro (Vw.same _ rfl) (And.intro (Vw.same _ rfl) (And.intro (Vw.same _ rfl) (And.intro (Vw.same _ rfl) (And.intro (Vw.same _ rfl) (And.intro (Vw.same _ rfl) (And.intro (Vw.same _ rfl) (And.intro (Vw.same _ rfl) (And.intro (Vw.same _ rfl) (And.intro (Vw.same _ rfl) trivial)))))))))))))))) (And.intro (And.intro rfl (BVw.enc e_i64 (fun _ => rfl) _ v16)) (And.intro (And.intro rfl (BVw.oneL (And.intro (Vw.same _ rfl) (And.intro (Vw.same _ rfl) (And.intro (Vw.same _ rfl) trivial))))) trivial))
  refine condI (v := ((a0.getD v15.toNat default).f_Op == 1)) rfl trivial (fun h69 => ?_) (fun h69 => ?_)
  · have h := ite_tt h69 h
    refine regI ?_
    obtain ⟨v33, h70, h⟩ := bind_some h
    refine PFn.call (f17_ok h70) (And.intro (Vw.same _ rfl) (And.intro (Vw.same _ rfl) trivial)) ?_
    refine LWp.sim ?_ (f21b0_j11_ok hg0 h)
    exact simT (M := [((4, 0), (4, 0))]) (lit' := [((4, 0), .rows 1 (v16.map e_i64)), ((5, 0), .one [.int .i64 ((a0.getD v15.toNat default).f_Op), .int .i64 ((a0.getD v15.toNat default).f_A), .int .i64 ((a0.getD v15.toNat default).f_B)])]) (hg0.tl _) rfl (And.intro (Vw.same _ rfl) (And.intro (Vw.clo hg0.hf hg0.hc (by decide) (rhoT_1 (chkT_ok (n := 5) (q := 3) (lit' := [((4, 0), .rows 1 (v16.map e_i64)), ((5, 0), .one [.int .i64 ((a0.getD v15.toNat default).f_Op), .int .i64 ((a0.getD v15.toNat default).f_A), .int .i64 ((a0.getD v15.toNat default).f_B)])]) rfl))) (And.intro (Vw.ptr _ _ _ _ rfl) (And.intro (Vw.same _ rfl) (And.intro (Vw.same _ rfl) (And.intro (Vw.same _ rfl) (And.intro (Vw.same _ rfl) (And.intro (Vw.same _ rfl) (And.intro (Vw.same _ rfl) (And.intro (Vw.same _ rfl) (And.intro (Vw.same _ rfl) trivial))))))))))) (And.intro (And.intro rfl (BVw.enc e_i64 (fun _ => rfl) _ v16)) trivial)
  · have h := ite_ff h69 h
    refine seqI ?_
    refine regI ?_
    refine condI (v := ((a0.getD v15.toNat default).f_Op == 2)) rfl trivial (fun h71 => ?_) (fun h71 => ?_)
    · have h := ite_tt h71 h
      refine quietI ?_
      refine LWp.sim ?_ (f21b0_j11_ok hg0 h)
      exact simT (M := [((4, 0), (4, 0))]) (lit' := [((4, 0), .rows 1 (v16.map e_i64)), ((5, 0), .one [.int .i64 ((a0.getD v15.toNat default).f_Op), .int .i64 ((a0.getD v15.toNat default).f_A), .int .i64 ((a0.getD v15.toNat default).f_B)])]) (hg0.tl _) rfl (And.intro (Vw.same _ rfl) (And.intro (Vw.clo hg0.hf hg0.hc (by decide) (rhoT_1 (chkT_ok (n := 5) (q := 3) (lit' := [((4, 0), .rows 1 (v16.map e_i64)), ((5, 0), .one [.int .i64 ((a0.getD v15.toNat default).f_Op), .int .i64 ((a0.getD v15.toNat default).f_A), .int .i64 ((a0.getD v15.toNat default).f_B)])]) rfl))) (And.intro (Vw.ptr _ _ _ _ rfl) (And.intro (Vw.same _ rfl) (And.intro (Vw.same _ rfl) (And.intro (Vw.same _ rfl) (And.intro (Vw.same _ rfl) (And.intro (Vw.same _ rfl) (And.intro (Vw.same _ rfl) (And.intro (Vw.same _ rfl) (And.intro (Vw.same _ rfl) trivial))))))))))) (And.intro (And.intro rfl (BVw.enc e_i64 (fun _ => rfl) _ v16)) trivial)
    · have h := ite_ff h71 h
      refine seqI ?_
      refine regI ?_
      refine condI (v := ((a0.getD v15.toNat default).f_Op == 3)) rfl trivial (fun h72 => ?_) (fun h72 => ?_)
      · have h := ite_tt h72 h
        refine quietI ?_
        refine LWp.sim ?_ (f21b0_j11_ok hg0 h)
        exact simT (M := [((4, 0), (4, 0))]) (lit' := [((4, 0), .rows 1 (v16.map e_i64)), ((5, 0), .one [.int .i64 ((a0.getD v15.toNat default).f_Op), .int .i64 ((a0.getD v15.toNat default).f_A), .int .i64 ((a0.getD v15.toNat default).f_B)])]) (hg0.tl _) rfl (And.intro (Vw.same _ rfl) (And.intro (Vw.clo hg0.hf hg0.hc (by decide) (rhoT_1 (chkT_ok (n := 5) (q := 3) (lit' := [((4, 0), .rows 1 (v16.map e_i64)), ((5, 0), .one [.int .i64 ((a0.getD v15.toNat default).f_Op), .int .i64 ((a0.getD v15.toNat default).f_A), .int .i64 ((a0.getD v15.toNat default).f_B)])]) rfl))) (And.intro (Vw.ptr _ _ _ _ rfl) (And.intro (Vw.same _ rfl) (And.intro (Vw.same _ rfl) (And.intro (Vw.same _ rfl) (And.intro (Vw.same _ rfl) (And.intro (Vw.same _ rfl) (And.intro (Vw.same _ rfl) (And.intro (Vw.same _ rfl) (And.intro (Vw.same _ rfl) trivial))))))))))) (And.intro (And.intro rfl (BVw.enc e_i64 (fun _ => rfl) _ v16)) trivial)
      · have h := ite_ff h72 h
        refine seqI ?_
        refine regI ?_
        refine condI (v := ((a0.getD v15.toNat default).f_Op == 4)) rfl trivial (fun h73 => ?_) (fun h73 => ?_)
        · have h := ite_tt h73 h
          refine quietI ?_
          obtain ⟨h74, h⟩ := ite_some h
          refine And.intro h74 ?_
          show yqs _ _ [(60, .int .i64 (v31.tmod a1)), (59, .int .i64 a1), (58, .int .i64 v31), (56, .bool ((a0.getD v15.toNat default).f_Op == 4)), (57, .bool ((a0.getD v15.toNat default).f_Op == 4)), (52, .bool ((a0.getD v15.toNat default).f_Op == 3)), (53, .bool ((a0.getD v15.toNat default).f_Op == 3)), (48, .bool ((a0.getD v15.toNat default).f_Op == 2)), (49, .bool ((a0.getD v15.toNat default).f_Op == 2)), (1, .int .i64 a1), (2, .fn fi0 ff0 fc0), (8, .ptr (4, 0) 0 0), (9, .int .i64 v14), (11, .ptr (5, 0) 0 0), (12, .int .i64 v32), (13, .int .i64 v31), (14, .int .i64 (-1)), (15, .int .i64 0), (16, .int .i64 0), (17, .int .i64 2), (20, .isl 3 (a0.map e_QOp) false), (21, .int .i64 ((a0.map e_QOp).length : Int)), (22, .int .i64 v15), (39, .int .i64 ((a0.getD v15.toNat default).f_Op)), (43, .bool ((a0.getD v15.toNat default).f_Op == 1))] _ _
          refine LWp.sim ?_ (f21b0_j11_ok hg0 h)
          exact simT (M := [((4, 0), (4, 0))]) (lit' := [((4, 0), .rows 1 (v16.map e_i64)), ((5, 0), .one [.int .i64 ((a0.getD v15.toNat default).f_Op), .int .i64 ((a0.getD v15.toNat default).f_A), .int .i64 ((a0.getD v15.toNat default).f_B)])]) (hg0.tl _) rfl (And.intro (Vw.same _ rfl) (And.intro (Vw.clo hg0.hf hg0.hc (by decide) (rhoT_1 (chkT_ok (n := 5) (q := 3) (lit' := [((4, 0), .rows 1 (v16.map e_i64)), ((5, 0), .one [.int .i64 ((a0.getD v15.toNat default).f_Op), .int .i64 ((a0.getD v15.toNat default).f_A), .int .i64 ((a0.getD v15.toNat default).f_B)])]) rfl))) (And.intro (Vw.ptr _ _ _ _ rfl) (And.intro (Vw.same _ rfl) (And.intro (Vw.same _ rfl) (And.intro (Vw.same _ rfl) (And.intro (Vw.same _ rfl) (And.intro (Vw.same _ rfl) (And.intro (Vw.same _ rfl) (And.intro (Vw.same _ rfl) (And.intro (Vw.same _ rfl) trivial))))))))))) (And.intro (And.intro rfl (BVw.enc e_i64 (fun _ => rfl) _ v16)) trivial)
        · have h := ite_ff h73 h
          refine seqI ?_
          refine regI ?_
          refine LWp.sim (e := [(1, .int .i64 a1), (2, .fn fi0 ff0 fc0), (8, .ptr (4, 0) 0 0), (9, .int .i64 v14), (11, .ptr (5, 0) 0 0), (12, .int .i64 v32), (13, .int .i64 v31), (14, .int .i64 (-1)), (15, .int .i64 0), (16, .int .i64 0), (17, .int .i64 2), (20, .isl 3 (a0.map e_QOp) false), (21, .int .i64 ((a0.map e_QOp).length : Int)), (22, .int .i64 v15), (39, .int .i64 ((a0.getD v15.toNat default).f_Op)), (61, .bool ((a0.getD v15.toNat default).f_Op == 5))]) (L := ([((4, 0), .rows 1 (v16.map e_i64)), ((5, 0), .one [.int .i64 ((a0.getD v15.toNat default).f_Op), .int .i64 ((a0.getD v15.toNat default).f_A), .int .i64 ((a0.getD v15.toNat default).f_B)])] ++ up 3 (Hc v17))) (n := 6) ?_ ?_
          · exact simT (M := [((4, 0), (4, 0)), ((5, 0), (5, 0))]) (lit' := [((4, 0), .rows 1 (v16.map e_i64)), ((5, 0), .one [.int .i64 ((a0.getD v15.toNat default).f_Op), .int .i64 ((a0.getD v15.toNat default).f_A), .int .i64 ((a0.getD v15.toNat default).f_B)])]) (hg0.tl _) rfl (And.intro (Vw.same _ rfl) (And.intro (Vw.clo hg0.hf hg0.hc (by decide) (rhoT_1 (chkT_ok (n := 6) (q := 3) (lit' := [((4, 0), .rows 1 (v16.map e_i64)), ((5, 0), .one [.int .i64 ((a0.getD v15.toNat default).f_Op), .int .i64 ((a0.getD v15.toNat default).f_A), .int .i64 ((a0.getD v15.toNat default).f_B)])]) rfl))) (And.intro (Vw.ptr _ _ _ _ rfl) (And.intro (Vw.same _ rfl) (And.intro (Vw.ptr _ _ _ _ rfl) (And.intro (Vw.same _ rfl) (And.intro (Vw.same _ rfl) (And.intro (Vw.same _ rfl) (And.intro (Vw.same _ rfl) (And.intro (Vw.same _ rfl) (And.intro (Vw.same _ rfl) (And.intro (Vw.same _ rfl) (And.intro (Vw.same _ rfl) (And.intro (Vw.same _ rfl) (And.intro (Vw.same _ rfl) (And.intro (Vw.same _ rfl) trivial)))))))))))))))) (And.intro (And.intro rfl (BVw.enc e_i64 (fun _ => rfl) _ v16)) (And.intro (And.intro rfl (BVw.oneL (And.intro (Vw.same _ rfl) (And.intro (Vw.same _ rfl) (And.intro (Vw.same _ rfl) trivial))))) trivial))
          refine condI (v := ((a0.getD v15.toNat default).f_Op == 5)) rfl trivial (fun h75 => ?_) (fun h75 => ?_)
          · have h := ite_tt h75 h
            refine seqI ?_
            refine quietI ?_
            refine seqI ?_
            refine regI ?_
            refine condI (v := (v31 == 0)) rfl trivial (fun h76 => ?_) (fun h76 => ?_)
            · have h := ite_tt h76 h
              refine regI ?_
              refine LWp.sim ?_ (f21b0_j11_ok hg0 h)
              exact simT (M := [((4, 0), (4, 0))]) (lit' := [((4, 0), .rows 1 (v16.map e_i64)), ((5, 0), .one [.int .i64 ((a0.getD v15.toNat default).f_Op), .int .i64 ((a0.getD v15.toNat default).f_A), .int .i64 ((a0.getD v15.toNat default).f_B)])]) (hg0.tl _) rfl (And.intro (Vw.same _ rfl) (And.intro (Vw.clo hg0.hf hg0.hc (by decide) (rhoT_1 (chkT_ok (n := 5) (q := 3) (lit' := [((4, 0), .rows 1 (v16.map e_i64)), ((5, 0), .one [.int .i64 ((a0.getD v15.toNat default).f_Op), .int .i64 ((a0.getD v15.toNat default).f_A), .int .i64 ((a0.getD v15.toNat default).f_B)])]) rfl))) (And.intro (Vw.ptr _ _ _ _ rfl) (And.intro (Vw.same _ rfl) (And.intro (Vw.same _ rfl) (And.intro (Vw.same _ rfl) (And.intro (Vw.same _ rfl) (And.intro (Vw.same _ rfl) (And.intro (Vw.same _ rfl) (And.intro (Vw.same _ rfl) (And.intro (Vw.same _ rfl) trivial))))))))))) (And.intro (And.intro rfl (BVw.enc e_i64 (fun _ => rfl) _ v16)) trivial)
            · have h := ite_ff h76 h
              refine skipI ?_
              refine LWp.sim ?_ (f21b0_j11_ok hg0 h)
              exact simT (M := [((4, 0), (4, 0))]) (lit' := [((4, 0), .rows 1 (v16.map e_i64)), ((5, 0), .one [.int .i64 ((a0.getD v15.toNat default).f_Op), .int .i64 ((a0.getD v15.toNat default).f_A), .int .i64 ((a0.getD v15.toNat default).f_B)])]) (hg0.tl _) rfl (And.intro (Vw.same _ rfl) (And.intro (Vw.clo hg0.hf hg0.hc (by decide) (rhoT_1 (chkT_ok (n := 5) (q := 3) (lit' := [((4, 0), .rows 1 (v16.map e_i64)), ((5, 0), .one [.int .i64 ((a0.getD v15.toNat default).f_Op), .int .i64 ((a0.getD v15.toNat default).f_A), .int .i64 ((a0.getD v15.toNat default).f_B)])]) rfl))) (And.intro (Vw.ptr _ _ _ _ rfl) (And.intro (Vw.same _ rfl) (And.intro (Vw.same _ rfl) (And.intro (Vw.same _ rfl) (And.intro (Vw.same _ rfl) (And.intro (Vw.same _ rfl) (And.intro (Vw.same _ rfl) (And.intro (Vw.same _ rfl) (And.intro (Vw.same _ rfl) trivial))))))))))) (And.intro (And.intro rfl (BVw.enc e_i64 (fun _ => rfl) _ v16)) trivial)
          · have h := ite_ff h75 h
            refine seqI ?_
            refine regI ?_
            refine condI (v := ((a0.getD v15.toNat default).f_Op == 6)) rfl trivial (fun h77 => ?_) (fun h77 => ?_)
            · have h := ite_tt h77 h
              refine regI ?_
              obtain ⟨v34, h78, h⟩ := bind_some h
              refine PFn.call (f17_ok h78) (And.intro (Vw.same _ rfl) (And.intro (Vw.same _ rfl) trivial)) ?_
              show yops _ _ _ [(74, .int .i64 v34), (73, .int .i64 (W (v32 + v31))), (72, .int .i64 v31), (71, .int .i64 v32), (69, .bool ((a0.getD v15.toNat default).f_Op == 6)), (70, .bool ((a0.getD v15.toNat default).f_Op == 6)), (1, .int .i64 a1), (2, .fn fi0 ff0 fc0), (8, .ptr (4, 0) 0 0), (9, .int .i64 v14), (11, .ptr (5, 0) 0 0), (12, .int .i64 v32), (13, .int .i64 v31), (14, .int .i64 (-1)), (15, .int .i64 0), (16, .int .i64 0), (17, .int .i64 2), (20, .isl 3 (a0.map e_QOp) false), (21, .int .i64 ((a0.map e_QOp).length : Int)), (22, .int .i64 v15), (39, .int .i64 ((a0.getD v15.toNat default).f_Op)), (61, .bool ((a0.getD v15.toNat default).f_Op == 5))] _ _
              refine LWp.sim ?_ (f21b0_j11_ok hg0 h)
              exact simT (M := [((4, 0), (4, 0))]) (lit' := [((4, 0), .rows 1 (v16.map e_i64)), ((5, 0), .one [.int .i64 ((a0.getD v15.toNat default).f_Op), .int .i64 ((a0.getD v15.toNat default).f_A), .int .i64 ((a0.getD v15.toNat default).f_B)])]) (hg0.tl _) rfl (And.intro (Vw.same _ rfl) (And.intro (Vw.clo hg0.hf hg0.hc (by decide) (rhoT_1 (chkT_ok (n := 5) (q := 3) (lit' := [((4, 0), .rows 1 (v16.map e_i64)), ((5, 0), .one [.int .i64 ((a0.getD v15.toNat default).f_Op), .int .i64 ((a0.getD v15.toNat default).f_A), .int .i64 ((a0.getD v15.toNat default).f_B)])]) rfl))) (And.intro (Vw.ptr _ _ _ _ rfl) (And.intro (Vw.same _ rfl) (And.intro (Vw.same _ rfl) (And.intro (Vw.same _ rfl) (And.intro (Vw.same _ rfl) (And.intro (Vw.same _ rfl) (And.intro (Vw.same _ rfl) (And.intro (Vw.same _ rfl) (And.intro (Vw.same _ rfl) trivial))))))))))) (And.intro (And.intro rfl (BVw.enc e_i64 (fun _ => rfl) _ v16)) trivial)
            · have h := ite_ff h77 h
              refine seqI ?_
              refine regI ?_
              refine condI (v := ((a0.getD v15.toNat default).f_Op == 7)) rfl trivial (fun h79 => ?_) (fun h79 => ?_)
              · have h := ite_tt h79 h
                refine regI ?_
                obtain ⟨v35, h80, h⟩ := bind_some h
                refine PFn.call (f17_ok h80) (And.intro (Vw.same _ rfl) (And.intro (Vw.same _ rfl) trivial)) ?_
                show yops _ _ _ [(80, .int .i64 v35), (79, .int .i64 (W (v32 - v31))), (78, .int .i64 v31), (77, .int .i64 v32), (75, .bool ((a0.getD v15.toNat default).f_Op == 7)), (76, .bool ((a0.getD v15.toNat default).f_Op == 7)), (69, .bool ((a0.getD v15.toNat default).f_Op == 6)), (70, .bool ((a0.getD v15.toNat default).f_Op == 6)), (1, .int .i64 a1), (2, .fn fi0 ff0 fc0), (8, .ptr (4, 0) 0 0), (9, .int .i64 v14), (11, .ptr (5, 0) 0 0), (12, .int .i64 v32), (13, .int .i64 v31), (14, .int .i64 (-1)), (15, .int .i64 0), (16, .int .i64 0), (17, .int .i64 2), (20, .isl 3 (a0.map e_QOp) false), (21, .int .i64 ((a0.map e_QOp).length : Int)), (22, .int .i64 v15), (39, .int .i64 ((a0.getD v15.toNat default).f_Op)), (61, .bool ((a0.getD v15.toNat default).f_Op == 5))] _ _
                refine LWp.sim ?_ (f21b0_j11_ok hg0 h)
                exact simT (M := [((4, 0), (4, 0))]) (lit' := [((4, 0), .rows 1 (v16.map e_i64)), ((5, 0), .one [.int .i64 ((a0.getD v15.toNat default).f_Op), .int .i64 ((a0.getD v15.toNat default).f_A), .int .i64 ((a0.getD v15.toNat default).f_B)])]) (hg0.tl _) rfl (And.intro (Vw.same _ rfl) (And.intro (Vw.clo hg0.hf hg0.hc (by decide) (rhoT_1 (chkT_ok (n := 5) (q := 3) (lit' := [((4, 0), .rows 1 (v16.map e_i64)), ((5, 0), .one [.int .i64 ((a0.getD v15.toNat default).f_Op), .int .i64 ((a0.getD v15.toNat default).f_A), .int .i64 ((a0.getD v15.toNat default).f_B)])]) rfl))) (And.intro (Vw.ptr _ _ _ _ rfl) (And.intro (Vw.same _ rfl) (And.intro (Vw.same _ rfl) (And.intro (Vw.same _ rfl) (And.intro (Vw.same _ rfl) (And.intro (Vw.same _ rfl) (And.intro (Vw.same _ rfl) (And.intro (Vw.same _ rfl) (And.intro (Vw.same _ rfl) trivial))))))))))) (And.intro (And.intro rfl (BVw.enc e_i64 (fun _ => rfl) _ v16)) trivial)
              · have h := ite_ff h79 h
                refine seqI ?_
                refine regI ?_
                refine condI (v := ((a0.getD v15.toNat default).f_Op == 8)) rfl trivial (fun h81 => ?_) (fun h81 => ?_)
                · have h := ite_tt h81 h
                  refine regI ?_
                  obtain ⟨v36, h82, h⟩ := bind_some h
                  refine PFn.call (f17_ok h82) (And.intro (Vw.same _ rfl) (And.intro (Vw.same _ rfl) trivial)) ?_
                  show yops _ _ _ [(86, .int .i64 v36), (85, .int .i64 (W (v32 * v31))), (84, .int .i64 v31), (83, .int .i64 v32), (81, .bool ((a0.getD v15.toNat default).f_Op == 8)), (82, .bool ((a0.getD v15.toNat default).f_Op == 8)), (75, .bool ((a0.getD v15.toNat default).f_Op == 7)), (76, .bool ((a0.getD v15.toNat default).f_Op == 7)), (69, .bool ((a0.getD v15.toNat default).f_Op == 6)), (70, .bool ((a0.getD v15.toNat default).f_Op == 6)), (1, .int .i64 a1), (2, .fn fi0 ff0 fc0), (8, .ptr (4, 0) 0 0), (9, .int .i64 v14), (11, .ptr (5, 0) 0 0), (12, .int .i64 v32), (13, .int .i64 v31), (14, .int .i64 (-1)), (15, .int .i64 0), (16, .int .i64 0), (17, .int .i64 2), (20, .isl 3 (a0.map e_QOp) false), (21, .int .i64 ((a0.map e_QOp).length : Int)), (22, .int .i64 v15), (39, .int .i64 ((a0.getD v15.toNat default).f_Op)), (61, .bool ((a0.getD v15.toNat default).f_Op == 5))] _ _
                  refine LWp.sim ?_ (f21b0_j11_ok hg0 h)
                  exact simT (M := [((4, 0), (4, 0))]) (lit' := [((4, 0), .rows 1 (v16.map e_i64)), ((5, 0), .one [.int .i64 ((a0.getD v15.toNat default).f_Op), .int .i64 ((a0.getD v15.toNat default).f_A), .int .i64 ((a0.getD v15.toNat default).f_B)])]) (hg0.tl _) rfl (And.intro (Vw.same _ rfl) (And.intro (Vw.clo hg0.hf hg0.hc (by decide) (rhoT_1 (chkT_ok (n := 5) (q := 3) (lit' := [((4, 0), .rows 1 (v16.map e_i64)), ((5, 0), .one [.int .i64 ((a0.getD v15.toNat default).f_Op), .int .i64 ((a0.getD v15.toNat default).f_A), .int .i64 ((a0.getD v15.toNat default).f_B)])]) rfl))) (And.intro (Vw.ptr _ _ _ _ rfl) (And.intro (Vw.same _ rfl) (And.intro (Vw.same _ rfl) (And.intro (Vw.same _ rfl) (And.intro (Vw.same _ rfl) (And.intro (Vw.same _ rfl) (And.intro (Vw.same _ rfl) (And.intro (Vw.same _ rfl) (And.intro (Vw.same _ rfl) trivial))))))))))) (And.intro (And.intro rfl (BVw.enc e_i64 (fun _ => rfl) _ v16)) trivial)
                · have h := ite_ff h81 h
                  refine seqI ?_
                  refine regI ?_
                  refine LWp.sim (e := [(1, .int .i64 a1), (2, .fn fi0 ff0 fc0), (8, .ptr (4, 0) 0 0), (9, .int .i64 v14), (12, .int .i64 v32), (13, .int .i64 v31), (14, .int .i64 (-1)), (15, .int .i64 0), (16, .int .i64 0), (17, .int .i64 2), (20, .isl 3 (a0.map e_QOp) false), (21, .int .i64 ((a0.map e_QOp).length : Int)), (22, .int .i64 v15), (39, .int .i64 ((a0.getD v15.toNat default).f_Op)), (87, .bool ((a0.getD v15.toNat default).f_Op == 9))]) (L := ([((4, 0), .rows 1 (v16.map e_i64))] ++ up 3 (Hc v17))) (n := 5) ?_ ?_
                  · exact simT (M := [((4, 0), (4, 0))]) (lit' := [((4, 0), .rows 1 (v16.map e_i64)), ((5, 0), .one [.int .i64 ((a0.getD v15.toNat default).f_Op), .int .i64 ((a0.getD v15.toNat default).f_A), .int .i64 ((a0.getD v15.toNat default).f_B)])]) (hg0.tl _) rfl (And.intro (Vw.same _ rfl) (And.intro (Vw.clo hg0.hf hg0.hc (by decide) (rhoT_1 (chkT_ok (n := 5) (q := 3) (lit' := [((4, 0), .rows 1 (v16.map e_i64)), ((5, 0), .one [.int .i64 ((a0.getD v15.toNat default).f_Op), .int .i64 ((a0.getD v15.toNat default).f_A), .int .i64 ((a0.getD v15.toNat default).f_B)])]) rfl))) (And.intro (Vw.ptr _ _ _ _ rfl) (And.intro (Vw.same _ rfl) (And.intro (Vw.same _ rfl) (And.intro (Vw.same _ rfl) (And.intro (Vw.same _ rfl) (And.intro (Vw.same _ rfl) (And.intro (Vw.same _ rfl) (And.intro (Vw.same _ rfl) (And.intro (Vw.same _ rfl) (And.intro (Vw.same _ rfl) (And.intro (Vw.same _ rfl) (And.intro (Vw.same _ rfl) (And.intro (Vw.same _ rfl) trivial))))))))))))))) (And.intro (And.intro rfl (BVw.enc e_i64 (fun _ => rfl) _ v16)) trivial)
                  refine condI (v := ((a0.getD v15.toNat default).f_Op == 9)) rfl trivial (fun h83 => ?_) (fun h83 => ?_)
                  · have h := ite_tt h83 h
                    refine regI ?_
                    refine LWp.sim ?_ (f21b0_j11_ok hg0 h)
                    exact simT (M := [((4, 0), (4, 0))]) (lit' := [((4, 0), .rows 1 (v16.map e_i64))]) (hg0.tl _) rfl (And.intro (Vw.same _ rfl) (And.intro (Vw.clo hg0.hf hg0.hc (by decide) (rhoT_1 (chkT_ok (n := 5) (q := 3) (lit' := [((4, 0), .rows 1 (v16.map e_i64))]) rfl))) (And.intro (Vw.ptr _ _ _ _ rfl) (And.intro (Vw.same _ rfl) (And.intro (Vw.same _ rfl) (And.intro (Vw.same _ rfl) (And.intro (Vw.same _ rfl) (And.intro (Vw.same _ rfl) (And.intro (Vw.same _ rfl) (And.intro (Vw.same _ rfl) (And.intro (Vw.same _ rfl) trivial))))))))))) (And.intro (And.intro rfl (BVw.enc e_i64 (fun _ => rfl) _ v16)) trivial)
                  · have h := ite_ff h83 h
                    refine seqI ?_
                    refine regI ?_
                    refine condI (v := ((a0.getD v15.toNat default).f_Op == 10)) rfl trivial (fun h84 => ?_) (fun h84 => ?_)
                    · have h := ite_tt h84 h
                      refine regI ?_
                      refine LWp.sim ?_ (f21b0_j11_ok hg0 h)
                      exact simT (M := [((4, 0), (4, 0))]) (lit' := [((4, 0), .rows 1 (v16.map e_i64))]) (hg0.tl _) rfl (And.intro (Vw.same _ rfl) (And.intro (Vw.clo hg0.hf hg0.hc (by decide) (rhoT_1 (chkT_ok (n := 5) (q := 3) (lit' := [((4, 0), .rows 1 (v16.map e_i64))]) rfl))) (And.intro (Vw.ptr _ _ _ _ rfl) (And.intro (Vw.same _ rfl) (And.intro (Vw.same _ rfl) (And.intro (Vw.same _ rfl) (And.intro (Vw.same _ rfl) (And.intro (Vw.same _ rfl) (And.intro (Vw.same _ rfl) (And.intro (Vw.same _ rfl) (And.intro (Vw.same _ rfl) trivial))))))))))) (And.intro (And.intro rfl (BVw.enc e_i64 (fun _ => rfl) _ v16)) trivial)
                    · have h := ite_ff h84 h
                      refine seqI ?_
                      refine regI ?_
                      refine condI (v := (decide (v32 < v31))) rfl trivial (fun h85 => ?_) (fun h85 => ?_)
                      · have h := ite_tt h85 h
                        refine regI ?_
                        refine LWp.sim ?_ (f21b0_j11_ok hg0 h)
                        exact simT (M := [((4, 0), (4, 0))]) (lit' := [((4, 0), .rows 1 (v16.map e_i64))]) (hg0.tl _) rfl (And.intro (Vw.same _ rfl) (And.intro (Vw.clo hg0.hf hg0.hc (by decide) (rhoT_1 (chkT_ok (n := 5) (q := 3) (lit' := [((4, 0), .rows 1 (v16.map e_i64))]) rfl))) (And.intro (Vw.ptr _ _ _ _ rfl) (And.intro (Vw.same _ rfl) (And.intro (Vw.same _ rfl) (And.intro (Vw.same _ rfl) (And.intro (Vw.same _ rfl) (And.intro (Vw.same _ rfl) (And.intro (Vw.same _ rfl) (And.intro (Vw.same _ rfl) (And.intro (Vw.same _ rfl) trivial))))))))))) (And.intro (And.intro rfl (BVw.enc e_i64 (fun _ => rfl) _ v16)) trivial)
                      · have h := ite_ff h85 h
                        refine skipI ?_
                        refine LWp.sim ?_ (f21b0_j11_ok hg0 h)
                        exact simT (M := [((4, 0), (4, 0))]) (lit' := [((4, 0), .rows 1 (v16.map e_i64))]) (hg0.tl _) rfl (And.intro (Vw.same _ rfl) (And.intro (Vw.clo hg0.hf hg0.hc (by decide) (rhoT_1 (chkT_ok (n := 5) (q := 3) (lit' := [((4, 0), .rows 1 (v16.map e_i64))]) rfl))) (And.intro (Vw.ptr _ _ _ _ rfl) (And.intro (Vw.same _ rfl) (And.intro (Vw.same _ rfl) (And.intro (Vw.same _ rfl) (And.intro (Vw.same _ rfl) (And.intro (Vw.same _ rfl) (And.intro (Vw.same _ rfl) (And.intro (Vw.same _ rfl) (And.intro (Vw.same _ rfl) trivial))))))))))) (And.intro (And.intro rfl (BVw.enc e_i64 (fun _ => rfl) _ v16)) trivial)

noncomputable def S_glossatorref3_Exec_j9 {σ : Type} (g0 : σ → (Int × Int) → Option ((Int × Bool) × σ)) (m : Option Nat) (a0 : List G_QOp) (a1 : Int) (v14 : Int) (v15 : Int) (v16 : List Int) (v17 : σ) (v31 : Int) : Option ((Int × Int × (List Int) × σ) ⊕ (Int × Bool × σ)) :=
  if (decide (v14 > 1)) = true then
    if (0 : Int) ≤ (W (v14 - 2)) ∧ (W (v14 - 2)) < ((24 : Nat) : Int) then
    if (0 + (W (v14 - 2)).toNat) < v16.length then
    S_glossatorref3_Exec_j10 g0 m a0 a1 v14 v15 v16 v17 v31 (v16.getD (0 + (W (v14 - 2)).toNat) default)
    else none
    else none
  else
    S_glossatorref3_Exec_j10 g0 m a0 a1 v14 v15 v16 v17 v31 0

theorem f21b0_j9_ok {σ : Type} {Hc : σ → AHeap} {fi0 : Fn} {ff0 fc0 : List AVal} {g0 : σ → (Int × Int) → Option ((Int × Bool) × σ)} (hg0 : Clo Try.prog fi0 ff0 fc0 Hc (fun (x : (Int × Int)) => [.int .i64 x.1, .int .i64 x.2]) (fun (b : (Int × Bool)) => .tup [.int .i64 b.1, .bool b.2]) g0) {z0 : σ} {a0 : List G_QOp} {a1 : Int} {v14 : Int} {v15 : Int} {v16 : List Int} {v17 : σ} {v31 : Int} {m : Option Nat} {o : ((Int × Int × (List Int) × σ) ⊕ (Int × Bool × σ))} (h : S_glossatorref3_Exec_j9 g0 m a0 a1 v14 v15 v16 v17 v31 = some o) :
    LWp Try.prog f21b0_lay 3 f21b0_c5 (QBlock 1 (QSeq Try.prog f21b0_lay 3 f21b0_c0 (BodyQ 3 5 (f21b0_L1_env Hc fi0 ff0 fc0 a0 a1) (f21b0_L1_hp Hc fi0 ff0 fc0 a0 a1) (f21b0_L1_Q Hc fi0 ff0 fc0 a0 a1 z0) o))) [(1, .int .i64 a1), (2, .fn fi0 ff0 fc0), (8, .ptr (4, 0) 0 0), (9, .int .i64 v14), (11, .ptr (5, 0) 0 0), (12, .int .i64 0), (13, .int .i64 v31), (20, .isl 3 (a0.map e_QOp) false), (21, .int .i64 ((a0.map e_QOp).length : Int)), (22, .int .i64 v15)] ([((4, 0), .rows 1 (v16.map e_i64)), ((5, 0), .one [.int .i64 ((a0.getD v15.toNat default).f_Op), .int .i64 ((a0.getD v15.toNat default).f_A), .int .i64 ((a0.getD v15.toNat default).f_B)])] ++ up 3 (Hc v17)) 6 := by
  unfold S_glossatorref3_Exec_j9 at h
  refine seqI ?_
  refine seqI ?_
  refine regI ?_
  refine condI (v := (decide (v14 > 1))) rfl trivial (fun h66 => ?_) (fun h66 => ?_)
  · have h := ite_tt h66 h
    refine regI ?_
    obtain ⟨h67, h⟩ := ite_some h
    refine And.intro h67 ?_
    show yops _ _ _ [(36, .ptr (4, 0) (0 + (W (v14 - 2)).toNat) 0), (35, .int .i64 (W (v14 - 2))), (34, .int .i64 v14), (33, .bool (decide (v14 > 1))), (32, .int .i64 v14), (1, .int .i64 a1), (2, .fn fi0 ff0 fc0), (8, .ptr (4, 0) 0 0), (9, .int .i64 v14), (11, .ptr (5, 0) 0 0), (12, .int .i64 0), (13, .int .i64 v31), (20, .isl 3 (a0.map e_QOp) false), (21, .int .i64 ((a0.map e_QOp).length : Int)), (22, .int .i64 v15)] _ _
    obtain ⟨h68, h⟩ := ite_some h
    refine Exists.intro (e_i64 (v16.getD (0 + (W (v14 - 2)).toNat) default)) (And.intro (getD_enc e_i64 _ _ h68) (And.intro (And.intro (lt_map e_i64 h68) (Nat.le_of_ble_eq_true rfl)) ?_))
    refine LWp.sim ?_ (f21b0_j10_ok hg0 h)
    exact simT (M := [((4, 0), (4, 0)), ((5, 0), (5, 0))]) (lit' := [((4, 0), .rows 1 (v16.map e_i64)), ((5, 0), .one [.int .i64 ((a0.getD v15.toNat default).f_Op), .int .i64 ((a0.getD v15.toNat default).f_A), .int .i64 ((a0.getD v15.toNat default).f_B)])]) (hg0.tl _) rfl (And.intro (Vw.same _ rfl) (And.intro (Vw.clo hg0.hf hg0.hc (by decide) (rhoT_1 (chkT_ok (n := 6) (q := 3) (lit' := [((4, 0), .rows 1 (v16.map e_i64)), ((5, 0), .one [.int .i64 ((a0.getD v15.toNat default).f_Op), .int .i64 ((a0.getD v15.toNat default).f_A), .int .i64 ((a0.getD v15.toNat default).f_B)])]) rfl))) (And.intro (Vw.ptr _ _ _ _ rfl) (And.intro (Vw.same _ rfl) (And.intro (Vw.ptr _ _ _ _ rfl) (And.intro (Vw.same _ rfl) (And.intro (Vw.same _ rfl) (And.intro (Vw.same _ rfl) (And.intro (Vw.same _ rfl) (And.intro (Vw.same _ rfl) trivial)))))))))) (And.intro (And.intro rfl (BVw.enc e_i64 (fun _ => rfl) _ v16)) (And.intro (And.intro rfl (BVw.oneL (And.intro (Vw.same _ rfl) (And.intro (Vw.same _ rfl) (And.intro (Vw.same _ rfl) trivial))))) trivial))
  · have h := ite_ff h66 h
    refine skipI ?_
    refine LWp.sim ?_ (f21b0_j10_ok hg0 h)
    exact simT (M := [((4, 0), (4, 0)), ((5, 0), (5, 0))]) (lit' := [((4, 0), .rows 1 (v16.map e_i64)), ((5, 0), .one [.int .i64 ((a0.getD v15.toNat default).f_Op), .int .i64 ((a0.getD v15.toNat default).f_A), .int .i64 ((a0.getD v15.toNat default).f_B)])]) (hg0.tl _) rfl (And.intro (Vw.same _ rfl) (And.intro (Vw.clo hg0.hf hg0.hc (by decide) (rhoT_1 (chkT_ok (n := 6) (q := 3) (lit' := [((4, 0), .rows 1 (v16.map e_i64)), ((5, 0), .one [.int .i64 ((a0.getD v15.toNat default).f_Op), .int .i64 ((a0.getD v15.toNat default).f_A), .int .i64 ((a0.getD v15.toNat default).f_B)])]) rfl))) (And.intro (Vw.ptr _ _ _ _ rfl) (And.intro (Vw.same _ rfl) (And.intro (Vw.ptr _ _ _ _ rfl) (And.intro (Vw.same _ rfl) (And.intro (Vw.same _ rfl) (And.intro (Vw.same _ rfl) (And.intro (Vw.same _ rfl) (And.intro (Vw.same _ rfl) trivial)))))))))) (And.intro (And.intro rfl (BVw.enc e_i64 (fun _ => rfl) _ v16)) (And.intro (And.intro rfl (BVw.oneL (And.intro (Vw.same _ rfl) (And.intro (Vw.same _ rfl) (And.intro (Vw.same _ rfl) trivial))))) trivial))

noncomputable def S_glossatorref3_Exec_j13 {σ : Type} (g0 : σ → (Int × Int) → Option ((Int × Bool) × σ)) (m : Option Nat) (v16 : List Int) (v17 : σ) : Option (Int × Bool × σ) :=
  if (0 : Int) ≤ 0 ∧ 0 < ((24 : Nat) : Int) then
  if (0 + (0 : Int).toNat) < v16.length then
  some ((v16.getD (0 + (0 : Int).toNat) default), true, v17)
  else none
  else none

noncomputable def S_glossatorref3_Exec_b1 {σ : Type} (g0 : σ → (Int × Int) → Option ((Int × Bool) × σ)) (m : Option Nat) (a0 : List G_QOp) (a1 : Int) (v14 : Int) (v15 : Int) (v16 : List Int) (v17 : σ) : Option ((Int × Int × (List Int) × σ) ⊕ (Int × Bool × σ)) :=
  if (decide (v15 < ((a0.map e_QOp).length : Int))) = true then
    if (0 : Int) ≤ v15 ∧ v15 < ((a0.map e_QOp).length : Int) then
    if (decide (v14 > 0)) = true then
      if (0 : Int) ≤ (W (v14 - 1)) ∧ (W (v14 - 1)) < ((24 : Nat) : Int) then
      if (0 + (W (v14 - 1)).toNat) < v16.length then
      S_glossatorref3_Exec_j9 g0 m a0 a1 v14 v15 v16 v17 (v16.getD (0 + (W (v14 - 1)).toNat) default)
      else none
      else none
    else
      S_glossatorref3_Exec_j9 g0 m a0 a1 v14 v15 v16 v17 0
    else none
  else
    Option.map Sum.inr (
      S_glossatorref3_Exec_j13 g0 m v16 v17)

noncomputable def S_glossatorref3_Exec_l1 {σ : Type} (g0 : σ → (Int × Int) → Option ((Int × Bool) × σ)) (m : Option Nat) (a0 : List G_QOp) (a1 : Int) (v14 : Int) (v15 : Int) (v16 : List Int) (v17 : σ) : Option (Int × Bool × σ) := loopM m (fun (s : (Int × Int × (List Int) × σ)) => S_glossatorref3_Exec_b1 g0 m a0 a1 s.1 s.2.1 s.2.2.1 s.2.2.2) (v14, v15, v16, v17)

theorem f21b0_j13_ok {σ : Type} {Hc : σ → AHeap} {fi0 : Fn} {ff0 fc0 : List AVal} {g0 : σ → (Int × Int) → Option ((Int × Bool) × σ)} (hg0 : Clo Try.prog fi0 ff0 fc0 Hc (fun (x : (Int × Int)) => [.int .i64 x.1, .int .i64 x.2]) (fun (b : (Int × Bool)) => .tup [.int .i64 b.1, .bool b.2]) g0) {a0 : List G_QOp} {a1 : Int} {z0 : σ} {v16 : List Int} {v17 : σ} {m : Option Nat} {o : (Int × Bool × σ)} (h : S_glossatorref3_Exec_j13 g0 m v16 v17 = some o) :
    LWp Try.prog f21b0_lay 3 f21b0_c1 (f21b0_Q Hc fi0 ff0 fc0 a0 a1 z0 o) [(8, .ptr (4, 0) 0 0)] ([((4, 0), .rows 1 (v16.map e_i64))] ++ up 3 (Hc v17)) 5 := by
  unfold S_glossatorref3_Exec_j13 at h
  refine seqI ?_
  refine regI ?_
  obtain ⟨h91, h⟩ := ite_some h
  refine And.intro h91 ?_
  obtain ⟨h92, h⟩ := ite_some h
  refine Exists.intro (e_i64 (v16.getD (0 + (0 : Int).toNat) default)) (And.intro (getD_enc e_i64 _ _ h92) (And.intro (And.intro (lt_map e_i64 h92) (Nat.le_of_ble_eq_true rfl)) ?_))
  refine retI ?_
  cases h
  exact And.intro trivial (And.intro trivial (finT (n' := 5) (q := 3) (lit' := [((4, 0), .rows 1 (v16.map e_i64))]) (hg0.tl _) [] [] rfl rfl (Vw.same _ rfl) trivial))

theorem f21b0_L1_bok {σ : Type} {Hc : σ → AHeap} {fi0 : Fn} {ff0 fc0 : List AVal} {g0 : σ → (Int × Int) → Option ((Int × Bool) × σ)} (hg0 : Clo Try.prog fi0 ff0 fc0 Hc (fun (x : (Int × Int)) => [.int .i64 x.1, .int .i64 x.2]) (fun (b : (Int × Bool)) => .tup [.int .i64 b.1, .bool b.2]) g0) {z0 : σ} {a0 : List G_QOp} {a1 : Int} {v14 : Int} {v15 : Int} {v16 : List Int} {v17 : σ} {m : Option Nat} {o : (Int × Int × (List Int) × σ) ⊕ (Int × Bool × σ)} (h : S_glossatorref3_Exec_b1 g0 m a0 a1 v14 v15 v16 v17 = some o) :
    LWp Try.prog f21b0_lay 3 f21b0_c6 (BodyQ 3 5 (f21b0_L1_env Hc fi0 ff0 fc0 a0 a1) (f21b0_L1_hp Hc fi0 ff0 fc0 a0 a1) (f21b0_L1_Q Hc fi0 ff0 fc0 a0 a1 z0) o) [(1, .int .i64 a1), (2, .fn fi0 ff0 fc0), (8, .ptr (4, 0) 0 0), (9, .int .i64 v14), (20, .isl 3 (a0.map e_QOp) false), (21, .int .i64 ((a0.map e_QOp).length : Int)), (22, .int .i64 v15)] ([((4, 0), .rows 1 (v16.map e_i64))] ++ up 3 (Hc v17)) 5 := by
  unfold S_glossatorref3_Exec_b1 at h
  refine seqI ?_
  refine regI ?_
  refine seqI ?_
  refine condI (v := (decide (v15 < ((a0.map e_QOp).length : Int)))) rfl trivial (fun h61 => ?_) (fun h61 => ?_)
  · have h := ite_tt h61 h
    refine skipI ?_
    refine seqI ?_
    refine blockI ?_
    refine seqI ?_
    refine regI ?_
    obtain ⟨h62, h⟩ := ite_some h
    refine And.intro h62 ?_
    refine Exists.intro (e_QOp (a0.getD v15.toNat default)) (And.intro (getD_enc e_QOp _ _ (idx_ltL e_QOp h62)) (And.intro (And.intro (idx_lt h62) (Nat.le_of_ble_eq_true rfl)) ?_))
    refine seqI ?_
    refine regI ?_
    refine seqI ?_
    refine seqI ?_
    refine regI ?_
    refine LWp.sim (e := [(1, .int .i64 a1), (2, .fn fi0 ff0 fc0), (8, .ptr (4, 0) 0 0), (9, .int .i64 v14), (11, .ptr (5, 0) 0 0), (12, .int .i64 0), (13, .int .i64 0), (20, .isl 3 (a0.map e_QOp) false), (21, .int .i64 ((a0.map e_QOp).length : Int)), (22, .int .i64 v15), (27, .bool (decide (v14 > 0)))]) (L := ([((4, 0), .rows 1 (v16.map e_i64)), ((5, 0), .one [.int .i64 ((a0.getD v15.toNat default).f_Op), .int .i64 ((a0.getD v15.toNat default).f_A), .int .i64 ((a0.getD v15.toNat default).f_B)])] ++ up 3 (Hc v17))) (n := 6) ?_ ?_
    · exact simT (M := [((4, 0), (4, 0)), ((5, 0), (5, 0))]) (lit' := [((5, 0), .one [.int .i64 ((a0.getD v15.toNat default).f_Op), .int .i64 ((a0.getD v15.toNat default).f_A), .int .i64 ((a0.getD v15.toNat default).f_B)]), ((4, 0), .rows 1 (v16.map e_i64))]) (hg0.tl _) rfl (And.intro (Vw.same _ rfl) (And.intro (Vw.clo hg0.hf hg0.hc (by decide) (rhoT_1 (chkT_ok (n := 6) (q := 3) (lit' := [((5, 0), .one [.int .i64 ((a0.getD v15.toNat default).f_Op), .int .i64 ((a0.getD v15.toNat default).f_A), .int .i64 ((a0.getD v15.toNat default).f_B)]), ((4, 0), .rows 1 (v16.map e_i64))]) rfl))) (And.intro (Vw.ptr _ _ _ _ rfl) (And.intro (Vw.same _ rfl) (And.intro (Vw.ptr _ _ _ _ rfl) (And.intro (Vw.same _ rfl) (And.intro (Vw.same _ rfl) (And.intro (Vw.same _ rfl) (And.intro (Vw.same _ rfl) (And.intro (Vw.same _ rfl) (And.intro (Vw.same _ rfl) trivial))))))))))) (And.intro (And.intro rfl (BVw.enc e_i64 (fun _ => rfl) _ v16)) (And.intro (And.intro rfl (BVw.oneL (And.intro (Vw.same _ rfl) (And.intro (Vw.same _ rfl) (And.intro (Vw.same _ rfl) trivial))))) trivial))
    refine condI (v := (decide (v14 > 0))) rfl trivial (fun h63 => ?_) (fun h63 => ?_)
    · have h := ite_tt h63 h
      refine regI ?_
      obtain ⟨h64, h⟩ := ite_some h
      refine And.intro h64 ?_
      obtain ⟨h65, h⟩ := ite_some h
      refine Exists.intro (e_i64 (v16.getD (0 + (W (v14 - 1)).toNat) default)) (And.intro (getD_enc e_i64 _ _ h65) (And.intro (And.intro (lt_map e_i64 h65) (Nat.le_of_ble_eq_true rfl)) ?_))
      refine LWp.sim ?_ (f21b0_j9_ok hg0 h)
      exact simT (M := [((4, 0), (4, 0)), ((5, 0), (5, 0))]) (lit' := [((4, 0), .rows 1 (v16.map e_i64)), ((5, 0), .one [.int .i64 ((a0.getD v15.toNat default).f_Op), .int .i64 ((a0.getD v15.toNat default).f_A), .int .i64 ((a0.getD v15.toNat default).f_B)])]) (hg0.tl _) rfl (And.intro (Vw.same _ rfl) (And.intro (Vw.clo hg0.hf hg0.hc (by decide) (rhoT_1 (chkT_ok (n := 6) (q := 3) (lit' := [((4, 0), .rows 1 (v16.map e_i64)), ((5, 0), .one [.int .i64 ((a0.getD v15.toNat default).f_Op), .int .i64 ((a0.getD v15.toNat default).f_A), .int .i64 ((a0.getD v15.toNat default).f_B)])]) rfl))) (And.intro (Vw.ptr _ _ _ _ rfl) (And.intro (Vw.same _ rfl) (And.intro (Vw.ptr _ _ _ _ rfl) (And.intro (Vw.same _ rfl) (And.intro (Vw.same _ rfl) (And.intro (Vw.same _ rfl) (And.intro (Vw.same _ rfl) (And.intro (Vw.same _ rfl) trivial)))))))))) (And.intro (And.intro rfl (BVw.enc e_i64 (fun _ => rfl) _ v16)) (And.intro (And.intro rfl (BVw.oneL (And.intro (Vw.same _ rfl) (And.intro (Vw.same _ rfl) (And.intro (Vw.same _ rfl) trivial))))) trivial))
    · have h := ite_ff h63 h
      refine skipI ?_
      refine LWp.sim ?_ (f21b0_j9_ok hg0 h)
      exact simT (M := [((4, 0), (4, 0)), ((5, 0), (5, 0))]) (lit' := [((4, 0), .rows 1 (v16.map e_i64)), ((5, 0), .one [.int .i64 ((a0.getD v15.toNat default).f_Op), .int .i64 ((a0.getD v15.toNat default).f_A), .int .i64 ((a0.getD v15.toNat default).f_B)])]) (hg0.tl _) rfl (And.intro (Vw.same _ rfl) (And.intro (Vw.clo hg0.hf hg0.hc (by decide) (rhoT_1 (chkT_ok (n := 6) (q := 3) (lit' := [((4, 0), .rows 1 (v16.map e_i64)), ((5, 0), .one [.int .i64 ((a0.getD v15.toNat default).f_Op), .int .i64 ((a0.getD v15.toNat default).f_A), .int .i64 ((a0.getD v15.toNat default).f_B)])]) rfl))) (And.intro (Vw.ptr _ _ _ _ rfl) (And.intro (Vw.same _ rfl) (And.intro (Vw.ptr _ _ _ _ rfl) (And.intro (Vw.same _ rfl) (And.intro (Vw.same _ rfl) (And.intro (Vw.same _ rfl) (And.intro (Vw.same _ rfl) (And.intro (Vw.same _ rfl) trivial)))))))))) (And.intro (And.intro rfl (BVw.enc e_i64 (fun _ => rfl) _ v16)) (And.intro (And.intro rfl (BVw.oneL (And.intro (Vw.same _ rfl) (And.intro (Vw.same _ rfl) (And.intro (Vw.same _ rfl) trivial))))) trivial))
  · have h := ite_ff h61 h
    refine exitI ?_
    obtain ⟨o, hq, rfl⟩ := Option.map_eq_some_iff.1 h
    replace h := hq; clear hq
    refine And.intro nofun ?_
    refine LWp.sim ?_ (f21b0_j13_ok hg0 h)
    exact simT (M := [((4, 0), (4, 0))]) (lit' := [((4, 0), .rows 1 (v16.map e_i64))]) (hg0.tl _) rfl (And.intro (Vw.ptr _ _ _ _ rfl) trivial) (And.intro (And.intro rfl (BVw.enc e_i64 (fun _ => rfl) _ v16)) trivial)

theorem f21b0_L1_ok {σ : Type} {Hc : σ → AHeap} {fi0 : Fn} {ff0 fc0 : List AVal} {g0 : σ → (Int × Int) → Option ((Int × Bool) × σ)} (hg0 : Clo Try.prog fi0 ff0 fc0 Hc (fun (x : (Int × Int)) => [.int .i64 x.1, .int .i64 x.2]) (fun (b : (Int × Bool)) => .tup [.int .i64 b.1, .bool b.2]) g0) {z0 : σ} {a0 : List G_QOp} {a1 : Int} {v14 : Int} {v15 : Int} {v16 : List Int} {v17 : σ} {m : Option Nat} {o : (Int × Bool × σ)} (h : S_glossatorref3_Exec_l1 g0 m a0 a1 v14 v15 v16 v17 = some o) :
    LWp Try.prog f21b0_lay 3 (.loop f21b0_c6) (QBlock 0 (QSeq Try.prog f21b0_lay 3 f21b0_c1 (f21b0_Q Hc fi0 ff0 fc0 a0 a1 z0 o))) [(1, .int .i64 a1), (2, .fn fi0 ff0 fc0), (8, .ptr (4, 0) 0 0), (9, .int .i64 v14), (20, .isl 3 (a0.map e_QOp) false), (21, .int .i64 ((a0.map e_QOp).length : Int)), (22, .int .i64 v15)] ([((4, 0), .rows 1 (v16.map e_i64))] ++ up 3 (Hc v17)) 5 :=
  LWp_loopM (m := m) (s := ((v14, v15, v16, v17) : (Int × Int × (List Int) × σ))) (r := o) (fun (s : (Int × Int × (List Int) × σ)) => S_glossatorref3_Exec_b1 g0 m a0 a1 s.1 s.2.1 s.2.2.1 s.2.2.2) (f21b0_L1_env Hc fi0 ff0 fc0 a0 a1) (f21b0_L1_hp Hc fi0 ff0 fc0 a0 a1) (f21b0_L1_Q Hc fi0 ff0 fc0 a0 a1 z0) (fun s o h => f21b0_L1_bok hg0 h) h

noncomputable def S_glossatorref3_Exec {σ : Type} (g0 : σ → (Int × Int) → Option ((Int × Bool) × σ)) (m : Option Nat) (a0 : List G_QOp) (a1 : Int) (z0 : σ) : Option (Int × Bool × σ) :=
  S_glossatorref3_Exec_l1 g0 m a0 a1 0 0 (List.replicate 24 0 : List Int) z0

theorem f21b0_start {σ : Type} {Hc : σ → AHeap} {fi0 : Fn} {ff0 fc0 : List AVal} {g0 : σ → (Int × Int) → Option ((Int × Bool) × σ)} (hg0 : Clo Try.prog fi0 ff0 fc0 Hc (fun (x : (Int × Int)) => [.int .i64 x.1, .int .i64 x.2]) (fun (b : (Int × Bool)) => .tup [.int .i64 b.1, .bool b.2]) g0) {a0 : List G_QOp} {a1 : Int} {z0 : σ} {m : Option Nat} {o : Int × Bool × σ} (h : S_glossatorref3_Exec g0 m a0 a1 z0 = some o) : LWp Try.prog f21b0_lay 3 f21b0_c7 (f21b0_Q Hc fi0 ff0 fc0 a0 a1 z0 o) (initEnv 0 [.isl 3 (a0.map e_QOp) false, .int .i64 a1, .fn fi0 ff0 fc0]) ([] ++ Hc z0) 3 := by
  unfold S_glossatorref3_Exec at h
  refine LWp.sim (e := [(0, .isl 3 (a0.map e_QOp) false), (1, .int .i64 a1), (2, .fn fi0 ff0 fc0)]) (L := ([] ++ up 3 (Hc z0))) (n := 4) (entryT (T := Hc z0) (e' := initEnv 0 [.isl 3 (a0.map e_QOp) false, .int .i64 a1, .fn fi0 ff0 fc0]) (e := [(0, .isl 3 (a0.map e_QOp) false), (1, .int .i64 a1), (2, .fn fi0 ff0 fc0)]) (lit' := []) (lit := []) (hg0.tl z0) rfl rfl (And.intro (Vw.same _ rfl) (And.intro (Vw.same _ rfl) (And.intro (Vw.clo hg0.hf hg0.hc (by decide) (rhoE_1 _)) trivial))) trivial) ?_
  refine seqI ?_
  refine regI ?_
  refine seqI ?_
  refine regI ?_
  refine Exists.intro ((List.replicate 24 0 : List Int).map e_i64) (And.intro rfl ?_)
  refine seqI ?_
  refine regI ?_
  refine seqI ?_
  refine seqI ?_
  refine regI ?_
  refine blockI ?_
  refine LWp.sim ?_ (f21b0_L1_ok hg0 h)
  exact simT (M := [((4, 0), (4, 0))]) (lit' := [((4, 0), .rows 1 ((List.replicate 24 0 : List Int).map e_i64))]) (hg0.tl _) rfl (And.intro (Vw.same _ rfl) (And.intro (Vw.clo hg0.hf hg0.hc (by decide) (rhoT_1 (chkT_ok (n := 5) (q := 3) (lit' := [((4, 0), .rows 1 ((List.replicate 24 0 : List Int).map e_i64))]) rfl))) (And.intro (Vw.ptr _ _ _ _ rfl) (And.intro (Vw.same _ rfl) (And.intro (Vw.same _ rfl) (And.intro (Vw.same _ rfl) (And.intro (Vw.same _ rfl) trivial))))))) (And.intro (And.intro rfl (BVw.enc e_i64 (fun _ => rfl) _ (List.replicate 24 0 : List Int))) trivial)

theorem f21b0_ok {σ : Type} {Hc : σ → AHeap} {fi0 : Fn} {ff0 fc0 : List AVal} {g0 : σ → (Int × Int) → Option ((Int × Bool) × σ)} (hg0 : Clo Try.prog fi0 ff0 fc0 Hc (fun (x : (Int × Int)) => [.int .i64 x.1, .int .i64 x.2]) (fun (b : (Int × Bool)) => .tup [.int .i64 b.1, .bool b.2]) g0) {a0 : List G_QOp} {a1 : Int} {z0 : σ} {m : Option Nat} {o : Int × Bool × σ} (h : S_glossatorref3_Exec g0 m a0 a1 z0 = some o) : ACalls Try.prog 21 [.isl 3 (a0.map e_QOp) false, .int .i64 a1, .fn fi0 ff0 fc0] ([] ++ Hc z0) 3 (Gives 4 (.tup [.int .i64 o.1, .bool o.2.1]) ([] ++ up 3 (Hc o.2.2))) := bfn_of (L := f21b0_L) f21b0_low f21b0_fok (Nat.le_of_ble_eq_true rfl) (f21b0_start hg0 h)

def f14_c1 : LCode := (.seq (.region [⟨some 15, .bin .lss (.t 14) (.t 13), none⟩])
 (.seq (.cond (.t 15)
  .skip
  (.exit 0))
 (.seq (.block 1
  (.seq (.region [⟨some 16, .mv (.t 14), none⟩,
    ⟨some 17, .iaddr 3 (.t 12) (.t 14), none⟩,
    ⟨some 18, .load true 3 (.t 17), none⟩,
    ⟨some 6, .alloc [(.int .i64 0), (.int .i64 0), (.int .i64 0)], none⟩,
    ⟨some 5, .mv (.t 16), none⟩,
    ⟨none, .store 3 (.t 6) (.t 18), none⟩])
  (.seq (.quiet [⟨some 19, .load true 3 (.t 6), none⟩,
    ⟨some 20, .mv (.t 1), none⟩,
    ⟨some 21, .mv (.t 5), none⟩,
    ⟨some 22, .iaddr 3 (.t 20) (.t 21), none⟩,
    ⟨some 23, .load true 3 (.t 22), none⟩,
    ⟨some 24, .eq true (.agg [.int, .int, .int]) (.t 19) (.t 23), none⟩])
  (.cond (.t 24)
   (.seq (.region [⟨some 4, .mv (.c (.bool false)), none⟩])
   .ret)
   .skip))))
 (.region [⟨some 25, .bin .add (.t 14) (.c (.int .i64 1)), none⟩,
   ⟨some 14, .mv (.t 25), none⟩]))))
def f14_c0 : LCode := (.seq (.region [⟨some 4, .mv (.c (.bool true)), none⟩])
 .ret)
def f14_c2 : LCode := (.seq (.region [⟨some 4, .mv (.c (.bool false)), none⟩])
 (.seq (.seq (.region [⟨some 7, .mv (.t 0), none⟩,
   ⟨some 8, .len false (.t 7), none⟩,
   ⟨some 9, .mv (.t 1), none⟩,
   ⟨some 10, .len false (.t 9), none⟩,
   ⟨some 11, .bin .neq (.t 8) (.t 10), none⟩])
 (.cond (.t 11)
  (.seq (.region [⟨some 4, .mv (.c (.bool false)), none⟩])
  .ret)
  .skip))
 (.seq (.seq (.region [⟨some 12, .mv (.t 0), none⟩,
   ⟨some 13, .len false (.t 12), none⟩,
   ⟨some 14, .mv (.c (.int .i64 0)), none⟩])
 (.block 0
  (.loop
   f14_c1)))
 f14_c0)))
def f14_lay : Lay := ⟨26, [], false⟩
def f14_res : List LRes := [.t 4]
def f14_L : LFn := ⟨2, f14_lay, f14_c2, f14_res⟩
theorem f14_low : lowFn Try.prog [] 14 = some f14_L := by kernel_rfl
theorem f14_fok : FnOk Try.prog 14 := ⟨_, Try.func14, rfl, rfl⟩
def f14_Q (a0 : List G_QKey) (a1 : List G_QKey) (o : Bool) : Exit → Env → AHeap → Nat → Prop := FinK f14_res (PureEnd (.bool o))

def f14_L1_env (a0 : List G_QKey) (a1 : List G_QKey) (s : Int) : Env := [(1, .isl 3 (a1.map e_QKey) false), (12, .isl 3 (a0.map e_QKey) false), (13, .int .i64 ((a0.map e_QKey).length : Int)), (14, .int .i64 s)]
def f14_L1_hp (a0 : List G_QKey) (a1 : List G_QKey) (s : Int) : AHeap := []
def f14_L1_Q (a0 : List G_QKey) (a1 : List G_QKey) (o : Bool) : Exit → Env → AHeap → Nat → Prop := (QBlock 0 (QSeq Try.prog f14_lay 0 f14_c0 (f14_Q a0 a1 o)))

noncomputable def S_glossatorref3_Equal_api_QKey_j1 (m : Option Nat) : Option Bool :=
  some true

noncomputable def S_glossatorref3_Equal_api_QKey_b1 (m : Option Nat) (a0 : List G_QKey) (a1 : List G_QKey) (v1 : Int) : Option (Int ⊕ Bool) :=
  if (decide (v1 < ((a0.map e_QKey).length : Int))) = true then
    if (0 : Int) ≤ v1 ∧ v1 < ((a0.map e_QKey).length : Int) then
    if (0 : Int) ≤ v1 ∧ v1 < ((a1.map e_QKey).length : Int) then
    if (!(((a0.getD v1.toNat default).f_Kind == (a1.getD v1.toNat default).f_Kind) && (((a0.getD v1.toNat default).f_A == (a1.getD v1.toNat default).f_A) && (((a0.getD v1.toNat default).f_B == (a1.getD v1.toNat default).f_B) && true)))) = true then
      Option.map Sum.inr (
        some false)
    else
      some (.inl (W (v1 + 1)))
    else none
    else none
  else
    Option.map Sum.inr (
      S_glossatorref3_Equal_api_QKey_j1 m)

noncomputable def S_glossatorref3_Equal_api_QKey_l1 (m : Option Nat) (a0 : List G_QKey) (a1 : List G_QKey) (v1 : Int) : Option Bool := loopM m (fun (s : Int) => S_glossatorref3_Equal_api_QKey_b1 m a0 a1 s) v1

theorem f14_j1_ok {a0 : List G_QKey} {a1 : List G_QKey} {m : Option Nat} {o : Bool} (h : S_glossatorref3_Equal_api_QKey_j1 m = some o) :
    LWp Try.prog f14_lay 0 f14_c0 (f14_Q a0 a1 o) [] [] 0 := by
  unfold S_glossatorref3_Equal_api_QKey_j1 at h
  refine seqI ?_
  refine regI ?_
  refine retI ?_
  cases h
  exact And.intro trivial (And.intro rfl (Vw.same _ rfl))

theorem f14_L1_bok {a0 : List G_QKey} {a1 : List G_QKey} {v1 : Int} {m : Option Nat} {o : Int ⊕ Bool} (h : S_glossatorref3_Equal_api_QKey_b1 m a0 a1 v1 = some o) :
    LWp Try.prog f14_lay 0 f14_c1 (BodyQ 0 0 (f14_L1_env a0 a1) (f14_L1_hp a0 a1) (f14_L1_Q a0 a1) o) [(1, .isl 3 (a1.map e_QKey) false), (12, .isl 3 (a0.map e_QKey) false), (13, .int .i64 ((a0.map e_QKey).length : Int)), (14, .int .i64 v1)] [] 0 := by
  unfold S_glossatorref3_Equal_api_QKey_b1 at h
  refine seqI ?_
  refine regI ?_
  refine seqI ?_
  refine condI (v := (decide (v1 < ((a0.map e_QKey).length : Int)))) rfl trivial (fun h10 => ?_) (fun h10 => ?_)
  · have h := ite_tt h10 h
    refine skipI ?_
    refine seqI ?_
    refine blockI ?_
    refine seqI ?_
    refine regI ?_
    obtain ⟨h11, h⟩ := ite_some h
    refine And.intro h11 ?_
    refine Exists.intro (e_QKey (a0.getD v1.toNat default)) (And.intro (getD_enc e_QKey _ _ (idx_ltL e_QKey h11)) (And.intro (And.intro (idx_lt h11) (Nat.le_of_ble_eq_true rfl)) ?_))
    refine seqI ?_
    refine quietI ?_
    obtain ⟨h12, h⟩ := ite_some h
    refine And.intro h12 ?_
    show yqs _ _ [(22, .iptr 3 (a1.map e_QKey) v1.toNat 0), (21, .int .i64 v1), (20, .isl 3 (a1.map e_QKey) false), (19, .agg [.int .i64 ((a0.getD v1.toNat default).f_Kind), .int .i64 ((a0.getD v1.toNat default).f_A), .int .i64 ((a0.getD v1.toNat default).f_B)]), (5, .int .i64 v1), (6, .ptr (0, 0) 0 0), (18, .agg [.int .i64 ((a0.getD v1.toNat default).f_Kind), .int .i64 ((a0.getD v1.toNat default).f_A), .int .i64 ((a0.getD v1.toNat default).f_B)]), (17, .iptr 3 (a0.map e_QKey) v1.toNat 0), (16, .int .i64 v1), (15, .bool (decide (v1 < ((a0.map e_QKey).length : Int)))), (1, .isl 3 (a1.map e_QKey) false), (12, .isl 3 (a0.map e_QKey) false), (13, .int .i64 ((a0.map e_QKey).length : Int)), (14, .int .i64 v1)] _ _
    refine Exists.intro (e_QKey (a1.getD v1.toNat default)) (And.intro (getD_enc e_QKey _ _ (idx_ltL e_QKey h12)) (And.intro (And.intro (idx_lt h12) (Nat.le_of_ble_eq_true rfl)) ?_))
    refine LWp.sim (e := [(1, .isl 3 (a1.map e_QKey) false), (12, .isl 3 (a0.map e_QKey) false), (13, .int .i64 ((a0.map e_QKey).length : Int)), (14, .int .i64 v1), (24, .bool (!(((a0.getD v1.toNat default).f_Kind == (a1.getD v1.toNat default).f_Kind) && (((a0.getD v1.toNat default).f_A == (a1.getD v1.toNat default).f_A) && (((a0.getD v1.toNat default).f_B == (a1.getD v1.toNat default).f_B) && true)))))]) (L := []) (n := 0) ?_ ?_
    · exact simI (M := []) rfl (And.intro (Vw.same _ rfl) (And.intro (Vw.same _ rfl) (And.intro (Vw.same _ rfl) (And.intro (Vw.same _ rfl) (And.intro (Vw.same _ rfl) trivial))))) trivial
    refine condI (v := (!(((a0.getD v1.toNat default).f_Kind == (a1.getD v1.toNat default).f_Kind) && (((a0.getD v1.toNat default).f_A == (a1.getD v1.toNat default).f_A) && (((a0.getD v1.toNat default).f_B == (a1.getD v1.toNat default).f_B) && true))))) rfl trivial (fun h13 => ?_) (fun h13 => ?_)
    · have h := ite_tt h13 h
      refine seqI ?_
      refine regI ?_
      refine retI ?_
      obtain ⟨o, hq, rfl⟩ := Option.map_eq_some_iff.1 h
      replace h := hq; clear hq
      refine And.intro nofun ?_
      cases h
      exact And.intro trivial (And.intro rfl (Vw.same _ rfl))
    · have h := ite_ff h13 h
      refine skipI ?_
      refine regI ?_
      cases h
      exact And.intro rfl (simI (M := []) rfl (And.intro (Vw.same _ rfl) (And.intro (Vw.same _ rfl) (And.intro (Vw.same _ rfl) (And.intro (Vw.same _ rfl) trivial)))) trivial)
  · have h := ite_ff h10 h
    refine exitI ?_
    obtain ⟨o, hq, rfl⟩ := Option.map_eq_some_iff.1 h
    replace h := hq; clear hq
    refine And.intro nofun ?_
    refine LWp.sim ?_ (f14_j1_ok h)
    exact simI (M := []) rfl trivial trivial

theorem f14_L1_ok {a0 : List G_QKey} {a1 : List G_QKey} {v1 : Int} {m : Option Nat} {o : Bool} (h : S_glossatorref3_Equal_api_QKey_l1 m a0 a1 v1 = some o) :
    LWp Try.prog f14_lay 0 (.loop f14_c1) (QBlock 0 (QSeq Try.prog f14_lay 0 f14_c0 (f14_Q a0 a1 o))) [(1, .isl 3 (a1.map e_QKey) false), (12, .isl 3 (a0.map e_QKey) false), (13, .int .i64 ((a0.map e_QKey).length : Int)), (14, .int .i64 v1)] [] 0 :=
  LWp_loopM (m := m) (s := (v1 : Int)) (r := o) (fun (s : Int) => S_glossatorref3_Equal_api_QKey_b1 m a0 a1 s) (f14_L1_env a0 a1) (f14_L1_hp a0 a1) (f14_L1_Q a0 a1) (fun s o h => f14_L1_bok h) h

noncomputable def S_glossatorref3_Equal_api_QKey (m : Option Nat) (a0 : List G_QKey) (a1 : List G_QKey) : Option Bool :=
  if (((a0.map e_QKey).length : Int) != ((a1.map e_QKey).length : Int)) = true then
    some false
  else
    S_glossatorref3_Equal_api_QKey_l1 m a0 a1 0

theorem f14_start {a0 : List G_QKey} {a1 : List G_QKey} {m : Option Nat} {o : Bool} (h : S_glossatorref3_Equal_api_QKey m a0 a1 = some o) : LWp Try.prog f14_lay 0 f14_c2 (f14_Q a0 a1 o) (initEnv 0 [.isl 3 (a0.map e_QKey) false, .isl 3 (a1.map e_QKey) false]) [] 0 := by
  unfold S_glossatorref3_Equal_api_QKey at h
  refine seqI ?_
  refine regI ?_
  refine seqI ?_
  refine seqI ?_
  refine regI ?_
  refine condI (v := (((a0.map e_QKey).length : Int) != ((a1.map e_QKey).length : Int))) rfl trivial (fun h1 => ?_) (fun h1 => ?_)
  · have h := ite_tt h1 h
    refine seqI ?_
    refine regI ?_
    refine retI ?_
    cases h
    exact And.intro trivial (And.intro rfl (Vw.same _ rfl))
  · have h := ite_ff h1 h
    refine skipI ?_
    refine seqI ?_
    refine seqI ?_
    refine regI ?_
    refine LWp.sim (e := [(1, .isl 3 (a1.map e_QKey) false), (12, .isl 3 (a0.map e_QKey) false), (13, .int .i64 ((a0.map e_QKey).length : Int)), (14, .int .i64 0)]) (L := []) (n := 0) ?_ ?_
    · exact simI (M := []) rfl (And.intro (Vw.same _ rfl) (And.intro (Vw.same _ rfl) (And.intro (Vw.same _ rfl) (And.intro (Vw.same _ rfl) trivial)))) trivial
    refine blockI ?_
    refine LWp.sim ?_ (f14_L1_ok h)
    exact simI (M := []) rfl (And.intro (Vw.same _ rfl) (And.intro (Vw.same _ rfl) (And.intro (Vw.same _ rfl) (And.intro (Vw.same _ rfl) trivial)))) trivial

theorem f14_ok {a0 : List G_QKey} {a1 : List G_QKey} {m : Option Nat} {o : Bool} (h : S_glossatorref3_Equal_api_QKey m a0 a1 = some o) : PFn Try.prog 14 [.isl 3 (a0.map e_QKey) false, .isl 3 (a1.map e_QKey) false] (.bool o) := PFn.ofFnW (L := f14_L) f14_low f14_fok (Nat.le_of_ble_eq_true rfl) rfl (f14_start h)

def f6_c0 : LCode := (.seq (.region [⟨some 3, .box (.t 0), none⟩,
   ⟨some 4, .box (.t 1), none⟩,
   ⟨some 5, .box (.t 2), none⟩,
   ⟨some 6, .mv (.c (.bool false)), none⟩])
 (.seq (.seq (.region [⟨some 13, .call 7 [], none⟩,
   ⟨some 14, .un .not (.t 13), none⟩])
 (.cond (.t 14)
  (.seq (.region [⟨some 6, .mv (.c (.bool false)), none⟩])
  .ret)
  .skip))
 (.seq (.region [⟨some 15, .mkfn (.func 16) [] [(.t 5)], none⟩,
   ⟨some 7, .alloc [(.val .nilFunc)], none⟩,
   ⟨none, .store 1 (.t 7) (.t 15), none⟩])
 (.seq (.region [⟨some 8, .alloc [(.isl 3 [] true)], none⟩])
 (.seq (.draw [⟨⟨some 16, .load true 2 (.t 3), none⟩, []⟩,
   ⟨⟨some 18, .load true 3 (.t 4), none⟩, []⟩,
   ⟨⟨some 19, .mkfn (.func 19) [] [(.t 8), (.t 7)], none⟩, []⟩,
   ⟨⟨some 17, .call 18 [(.t 16)], none⟩, [1]⟩,
   ⟨⟨some 20, .callv (.t 17) [(.t 18), (.t 19)], none⟩, []⟩,
   ⟨⟨some 9, .alloc [(.isl 1 [] true), (.str [])], none⟩, [0, 1]⟩,
   ⟨⟨none, .store 2 (.t 9) (.t 20), none⟩, []⟩])
 (.seq (.seq (.region [⟨some 21, .load true 2 (.t 3), none⟩,
   ⟨some 22, .call 9 [(.t 21)], none⟩,
   ⟨some 23, .bin .neq (.t 22) (.c (.int .i64 0)), none⟩,
   ⟨some 24, .mv (.t 23), none⟩,
   ⟨some 25, .faddr 0 (.t 4), some (24, false)⟩,
   ⟨some 26, .load false 1 (.t 25), some (24, false)⟩,
   ⟨some 27, .bin .neq (.t 26) (.c (.int .i64 1)), some (24, false)⟩,
   ⟨some 28, .pick (.t 24) (.c (.bool true)) (.t 27), none⟩,
   ⟨some 29, .mv (.t 28), none⟩,
   ⟨some 30, .faddr 2 (.t 4), some (29, false)⟩,
   ⟨some 31, .load false 1 (.t 30), some (29, false)⟩,
   ⟨some 32, .bin .neq (.t 31) (.c (.int .i64 0)), some (29, false)⟩,
   ⟨some 33, .pick (.t 29) (.c (.bool true)) (.t 32), none⟩,
   ⟨some 34, .mv (.t 33), none⟩,
   ⟨some 35, .faddr 1 (.t 4), some (34, false)⟩,
   ⟨some 36, .load false 1 (.t 35), some (34, false)⟩,
   ⟨some 37, .bin .lss (.t 36) (.c (.int .i64 0)), some (34, false)⟩,
   ⟨some 38, .pick (.t 34) (.c (.bool true)) (.t 37), none⟩,
   ⟨some 39, .mv (.t 38), none⟩,
   ⟨some 40, .faddr 1 (.t 4), some (39, false)⟩,
   ⟨some 41, .load false 1 (.t 40), some (39, false)⟩,
   ⟨some 42, .faddr 1 (.t 3), some (39, false)⟩,
   ⟨some 43, .load false 1 (.t 42), some (39, false)⟩,
   ⟨some 44, .len false (.t 43), some (39, false)⟩,
   ⟨some 45, .bin .geq (.t 41) (.t 44), some (39, false)⟩,
   ⟨some 46, .pick (.t 39) (.c (.bool true)) (.t 45), none⟩])
 (.cond (.t 46)
  (.seq (.region [⟨some 47, .call 7 [], none⟩,
    ⟨some 48, .mv (.t 47), none⟩,
    ⟨some 49, .load false 1 (.t 8), some (48, true)⟩,
    ⟨some 50, .len false (.t 49), some (48, true)⟩,
    ⟨some 51, .bin .eql (.t 50) (.c (.int .i64 0)), some (48, true)⟩,
    ⟨some 52, .pick (.t 48) (.t 51) (.c (.bool false)), none⟩,
    ⟨some 53, .mv (.t 52), none⟩,
    ⟨some 54, .load true 2 (.t 9), some (53, true)⟩,
    ⟨some 55, .build [(.isl 1 [] true), (.str [])] [], some (53, true)⟩,
    ⟨some 56, .call 20 [(.t 54), (.t 55)], some (53, true)⟩,
    ⟨some 57, .pick (.t 53) (.t 56) (.c (.bool false)), none⟩,
    ⟨some 6, .mv (.t 57), none⟩])
  .ret)
  .skip))
 (.seq (.region [⟨some 10, .alloc [(.isl 3 [] true)], none⟩])
 (.seq (.draw [⟨⟨some 59, .faddr 1 (.t 3), none⟩, []⟩,
   ⟨⟨some 60, .load false 1 (.t 59), none⟩, []⟩,
   ⟨⟨some 61, .faddr 1 (.t 4), none⟩, []⟩,
   ⟨⟨some 62, .load false 1 (.t 61), none⟩, []⟩,
   ⟨⟨some 63, .iaddr 1 (.t 60) (.t 62), none⟩, []⟩,
   ⟨⟨some 64, .load false 1 (.t 63), none⟩, []⟩,
   ⟨⟨some 65, .faddr 1 (.t 4), none⟩, []⟩,
   ⟨⟨some 66, .load false 1 (.t 65), none⟩, []⟩,
   ⟨⟨some 67, .mkfn (.func 22) [] [(.t 10), (.t 7)], none⟩, []⟩,
   ⟨⟨some 68, .call 21 [(.t 64), (.t 66), (.t 67)], none⟩, []⟩,
   ⟨⟨some 58, .mv (.t 68), none⟩, []⟩,
   ⟨⟨some 69, .ext 0 (.t 58), none⟩, []⟩,
   ⟨⟨some 70, .ext 1 (.t 58), none⟩, []⟩,
   ⟨⟨some 11, .mv (.t 69), none⟩, []⟩,
   ⟨⟨some 12, .mv (.t 70), none⟩, []⟩])
 (.seq (.region [⟨some 71, .call 7 [], none⟩,
   ⟨some 72, .mv (.t 71), none⟩,
   ⟨some 73, .load false 1 (.t 8), some (72, true)⟩,
   ⟨some 74, .load false 1 (.t 10), some (72, true)⟩,
   ⟨some 75, .call 14 [(.t 73), (.t 74)], some (72, true)⟩,
   ⟨some 76, .pick (.t 72) (.t 75) (.c (.bool false)), none⟩,
   ⟨some 77, .mv (.t 76), none⟩,
   ⟨some 78, .load true 2 (.t 9), some (77, true)⟩,
   ⟨some 79, .mv (.t 11), some (77, true)⟩,
   ⟨some 80, .mkSl true 1 [(.int .i64 0)] 1 [(0, (.t 79))], some (77, true)⟩,
   ⟨some 81, .build [(.isl 1 [] true), (.str [])] [(0, 1, (.t 80))], some (77, true)⟩,
   ⟨some 82, .call 20 [(.t 78), (.t 81)], some (77, true)⟩,
   ⟨some 83, .pick (.t 77) (.t 82) (.c (.bool false)), none⟩,
   ⟨some 6, .mv (.t 83), none⟩])
 .ret)))))))))
def f6_lay : Lay := ⟨84, [8, 10], false⟩
def f6_res : List LRes := [.t 6]
def f6_L : LFn := ⟨3, f6_lay, f6_c0, f6_res⟩
theorem f6_low : lowFn Try.prog [8, 10] 6 = some f6_L := by kernel_rfl
theorem f6_fok : FnOk Try.prog 6 := ⟨_, Try.func6, rfl, rfl⟩
noncomputable def S_glossatorlaw3_QuerylangCompile (m : Option Nat) (a0 : G_QProgram) (a1 : G_QKey) (a2 : List G_QValue) : Option Bool :=
  (S_glossatorlaw3_queryExample (some 4096)).bind fun v1 =>
  if (!v1) = true then
    some false
  else
    (S_querylang_Compile m a0).bind fun v2 =>
    (S_querylang_Compile_1_37 m a1 v2.1 ([] : List G_QKey) a2 v2.2).bind fun v3 =>
    (S_glossatorref3_CheckProgram m a0).bind fun v4 =>
    if (((((v4 != 0) || (a1.f_Kind != 1)) || (a1.f_B != 0)) || (decide (a1.f_A < 0))) || (decide (a1.f_A ≥ ((a0.f_Queries.map e_sl_QOp).length : Int)))) = true then
      (S_glossatorlaw3_queryExample (some 4096)).bind fun v5 =>
      (if ((v5 && (((v3.2.length : Nat) : Int) == 0)) == true) = true then S_glossatorref3_EqualValues m (G_QValue.mk v3.1.f_Nums v3.1.f_Text) (G_QValue.mk ([] : List Int) ([] : List UInt8)) else some default).bind fun v6 =>
      some ((v5 && (((v3.2.length : Nat) : Int) == 0)) && v6)
    else
      if (0 : Int) ≤ a1.f_A ∧ a1.f_A < ((a0.f_Queries.map e_sl_QOp).length : Int) then
      (S_glossatorref3_Exec (fun (s : (List G_QKey)) (x : (Int × Int)) => (S_glossatorlaw3_QuerylangCompile_3c m s a2 x.1 x.2).map fun o => ((o.1, o.2.1), o.2.2)) m (a0.f_Queries.getD a1.f_A.toNat default) a1.f_A ([] : List G_QKey)).bind fun v7 =>
      (S_glossatorlaw3_queryExample (some 4096)).bind fun v8 =>
      (if (v8 == true) = true then S_glossatorref3_Equal_api_QKey m v3.2 v7.2.2 else some default).bind fun v9 =>
      (if ((v8 && v9) == true) = true then S_glossatorref3_EqualValues m (G_QValue.mk v3.1.f_Nums v3.1.f_Text) (G_QValue.mk ([v7.1] : List Int) ([] : List UInt8)) else some default).bind fun v10 =>
      some ((v8 && v9) && v10)
      else none

def f6_Q (a0 : G_QProgram) (a1 : G_QKey) (a2 : List G_QValue) (o : Bool) : Exit → Env → AHeap → Nat → Prop := FinK f6_res (PureEnd (.bool o))

theorem f6_start {a0 : G_QProgram} {a1 : G_QKey} {a2 : List G_QValue} {m : Option Nat} {o : Bool} (h : S_glossatorlaw3_QuerylangCompile m a0 a1 a2 = some o) : LWp Try.prog f6_lay 0 f6_c0 (f6_Q a0 a1 a2 o) (initEnv 0 [.agg [.int .i64 a0.f_Inputs, .isl 1 (a0.f_Queries.map e_sl_QOp) false], .agg [.int .i64 a1.f_Kind, .int .i64 a1.f_A, .int .i64 a1.f_B], .isl 2 (a2.map e_QValue) false]) [] 0 := by
  unfold S_glossatorlaw3_QuerylangCompile at h
  refine seqI ?_
  refine regI ?_
  refine seqI ?_
  refine seqI ?_
  refine regI ?_
  obtain ⟨v1, h1, h⟩ := bind_some h
  refine PFn.call (f7_ok h1) trivial ?_
  show yops _ _ _ [(13, .bool v1), (6, .bool false), (5, .ptr (2, 0) 0 0), (4, .ptr (1, 0) 0 0), (3, .ptr (0, 0) 0 0), (0, .agg [.int .i64 a0.f_Inputs, .isl 1 (a0.f_Queries.map e_sl_QOp) false]), (1, .agg [.int .i64 a1.f_Kind, .int .i64 a1.f_A, .int .i64 a1.f_B]), (2, .isl 2 (a2.map e_QValue) false)] _ _
  refine condI (v := (!v1)) rfl trivial (fun h2 => ?_) (fun h2 => ?_)
  · have h := ite_tt h2 h
    refine seqI ?_
    refine regI ?_
    refine retI ?_
    cases h
    exact And.intro trivial (And.intro rfl (Vw.same _ rfl))
  · have h := ite_ff h2 h
    refine skipI ?_
    refine seqI ?_
    refine regI ?_
    refine LWp.sim (e := [(3, .ptr (0, 0) 0 0), (4, .ptr (1, 0) 0 0), (7, .ptr (2, 0) 0 0)]) (L := [((0, 0), .one [.int .i64 a0.f_Inputs, .isl 1 (a0.f_Queries.map e_sl_QOp) false]), ((1, 0), .one [.int .i64 a1.f_Kind, .int .i64 a1.f_A, .int .i64 a1.f_B]), ((2, 0), .one [.fn (.func 16) [] [.ptr (3, 0) 0 0]]), ((3, 0), .one [.isl 2 (a2.map e_QValue) false])]) (n := 4) ?_ ?_
    · exact simI (M := [((0, 0), (0, 0)), ((1, 0), (1, 0)), ((2, 0), (3, 0)), ((3, 0), (2, 0))]) rfl (And.intro (Vw.ptr _ _ _ _ rfl) (And.intro (Vw.ptr _ _ _ _ rfl) (And.intro (Vw.ptr _ _ _ _ rfl) trivial))) (And.intro (And.intro rfl (BVw.oneL (And.intro (Vw.same _ rfl) (And.intro (Vw.same _ rfl) trivial)))) (And.intro (And.intro rfl (BVw.oneL (And.intro (Vw.same _ rfl) (And.intro (Vw.same _ rfl) (And.intro (Vw.same _ rfl) trivial))))) (And.intro (And.intro rfl (BVw.oneL (And.intro (Vw.fnL trivial (And.intro (Vw.ptr _ _ _ _ rfl) trivial)) trivial))) (And.intro (And.intro rfl (BVw.oneL (And.intro (Vw.same _ rfl) trivial))) trivial))))
    refine seqI ?_
    refine regI ?_
    refine LWp.ghost (b := (4, 0)) 3 rfl rfl ?_
    refine LWp.sim (e := [(3, .ptr (0, 0) 0 0), (4, .ptr (1, 0) 0 0), (7, .ptr (2, 0) 0 0), (8, .ptr (3, 0) 0 0)]) (L := [((0, 0), .one [.int .i64 a0.f_Inputs, .isl 1 (a0.f_Queries.map e_sl_QOp) false]), ((1, 0), .one [.int .i64 a1.f_Kind, .int .i64 a1.f_A, .int .i64 a1.f_B]), ((2, 0), .one [.fn (.func 16) [] [.ptr (4, 0) 0 0]]), ((3, 0), .one [.msl (5, 0) 3 0 (([] : List G_QKey).length) false]), ((4, 0), .one [.isl 2 (a2.map e_QValue) false]), ((5, 0), .rows 3 (([] : List G_QKey).map e_QKey))]) (n := 6) ?_ ?_
    · exact simI (M := [((0, 0), (0, 0)), ((1, 0), (1, 0)), ((2, 0), (2, 0)), ((3, 0), (4, 0)), ((4, 0), (3, 0)), ((5, 0), (5, 0))]) rfl (And.intro (Vw.ptr _ _ _ _ rfl) (And.intro (Vw.ptr _ _ _ _ rfl) (And.intro (Vw.ptr _ _ _ _ rfl) (And.intro (Vw.ptr _ _ _ _ rfl) trivial)))) (And.intro (And.intro rfl (BVw.oneL (And.intro (Vw.same _ rfl) (And.intro (Vw.same _ rfl) trivial)))) (And.intro (And.intro rfl (BVw.oneL (And.intro (Vw.same _ rfl) (And.intro (Vw.same _ rfl) (And.intro (Vw.same _ rfl) trivial))))) (And.intro (And.intro rfl (BVw.oneL (And.intro (Vw.fnL trivial (And.intro (Vw.ptr _ _ _ _ rfl) trivial)) trivial))) (And.intro (And.intro rfl (BVw.oneL (And.intro (Vw.islM _ _ _ _ _ _ rfl rfl) trivial))) (And.intro (And.intro rfl (BVw.oneL (And.intro (Vw.same _ rfl) trivial))) (And.intro (And.intro rfl (BVw.enc e_QKey (fun _ => rfl) _ ([] : List G_QKey))) trivial))))))
    refine seqI ?_
    refine drawI ?_
    obtain ⟨v2, h3, h⟩ := bind_some h
    refine bcall (k := 3) (m := 3) (L' := [((6, 0), .one [.bool v2.1]), ((7, 0), .one [.msl (8, 0) 1 0 v2.2.length true]), ((8, 0), .rows 1 (v2.2.map e_sl_QOp))]) (rest := [((0, 0), .one [.int .i64 a0.f_Inputs, .isl 1 (a0.f_Queries.map e_sl_QOp) false]), ((1, 0), .one [.int .i64 a1.f_Kind, .int .i64 a1.f_A, .int .i64 a1.f_B]), ((2, 0), .one [.fn (.func 16) [] [.ptr (4, 0) 0 0]]), ((3, 0), .one [.msl (5, 0) 3 0 (([] : List G_QKey).length) false]), ((4, 0), .one [.isl 2 (a2.map e_QValue) false]), ((5, 0), .rows 3 (([] : List G_QKey).map e_QKey))]) (R' := .fn (.func 37) [] [.ptr (6, 0) 0 0, .ptr (7, 0) 0 0]) [] (f18b0_ok h3) rfl rfl rfl (And.intro (Vw.same _ rfl) trivial) trivial rfl (And.intro rfl (And.intro rfl (And.intro rfl (And.intro rfl (And.intro rfl (And.intro (rows_ren e_sl_QOp (fun _ => rfl) _ _) trivial)))))) rfl ?_
    refine And.intro rfl ?_
    obtain ⟨v3, h4, h⟩ := bind_some h
    refine bcall (k := 3) (m := 2) (L' := [((3, 0), .one [.msl (10, 0) 3 0 v3.2.length false]), ((2, 0), .one [.fn (.func 16) [] [.ptr (4, 0) 0 0]]), ((6, 0), .one [.bool v2.1]), ((7, 0), .one [.msl (11, 0) 1 0 v2.2.length true]), ((4, 0), .one [.isl 2 (a2.map e_QValue) false]), ((10, 0), .rows 3 (v3.2.map e_QKey)), ((11, 0), .rows 1 (v2.2.map e_sl_QOp))]) (rest := [((0, 0), .one [.int .i64 a0.f_Inputs, .isl 1 (a0.f_Queries.map e_sl_QOp) false]), ((1, 0), .one [.int .i64 a1.f_Kind, .int .i64 a1.f_A, .int .i64 a1.f_B])]) (R' := .agg [.isl 1 (v3.1.f_Nums.map e_i64) false, .str v3.1.f_Text]) [((0, 0), (3, 0)), ((0, 1), (2, 0)), ((0, 2), (6, 0)), ((0, 3), (7, 0)), ((0, 4), (5, 0)), ((0, 5), (4, 0)), ((0, 6), (8, 0))] (f37b1_ok h4) rfl rfl rfl (And.intro (Vw.same _ rfl) (And.intro (Vw.fnL trivial (And.intro (Vw.ptr _ _ _ _ rfl) (And.intro (Vw.ptr _ _ _ _ rfl) trivial))) (And.intro (Vw.ptr _ _ _ _ rfl) (And.intro (Vw.ptr _ _ _ _ rfl) trivial)))) (And.intro (h0I (3, 0) rfl rfl (BVw.oneL (And.intro (Vw.mslE rfl (by first | rfl | simp) rfl) trivial))) (And.intro (h0I (2, 0) rfl rfl (BVw.oneL (And.intro (Vw.fnL trivial (And.intro (Vw.ptr _ _ _ _ rfl) trivial)) trivial))) (And.intro (h0I (6, 0) rfl rfl (BVw.oneL (And.intro (Vw.same _ rfl) trivial))) (And.intro (h0I (7, 0) rfl rfl (BVw.oneL (And.intro (Vw.mslE rfl (by first | rfl | simp) rfl) trivial))) (And.intro (h0I (5, 0) rfl rfl (BVw.enc e_QKey (fun _ => rfl) _ ([] : List G_QKey))) (And.intro (h0I (4, 0) rfl rfl (BVw.oneL (And.intro (Vw.same _ rfl) trivial))) (And.intro (h0I (8, 0) rfl rfl (BVw.enc e_sl_QOp (fun _ => rfl) _ v2.2)) trivial))))))) (nid_ren _ rfl) (And.intro rfl (And.intro rfl (And.intro rfl (And.intro rfl (And.intro rfl (And.intro rfl (And.intro rfl (And.intro rfl (And.intro rfl (And.intro rfl (And.intro rfl (And.intro (rows_ren e_QKey (fun _ => rfl) _ _) (And.intro rfl (And.intro (rows_ren e_sl_QOp (fun _ => rfl) _ _) trivial)))))))))))))) rfl ?_
    show yd _ _ _ _ _ [(20, .agg [.isl 1 (v3.1.f_Nums.map e_i64) false, .str v3.1.f_Text]), (17, .fn (.func 37) [] [.ptr (6, 0) 0 0, .ptr (7, 0) 0 0]), (19, .fn (.func 19) [] [.ptr (3, 0) 0 0, .ptr (2, 0) 0 0]), (18, .agg [.int .i64 a1.f_Kind, .int .i64 a1.f_A, .int .i64 a1.f_B]), (16, .agg [.int .i64 a0.f_Inputs, .isl 1 (a0.f_Queries.map e_sl_QOp) false]), (3, .ptr (0, 0) 0 0), (4, .ptr (1, 0) 0 0), (7, .ptr (2, 0) 0 0), (8, .ptr (3, 0) 0 0)] _ _
    refine And.intro rfl ?_
    refine And.intro rfl ?_
    refine seqI ?_
    refine seqI ?_
    refine regI ?_
    obtain ⟨v4, h5, h⟩ := bind_some h
    refine PFn.call (f9_ok h5) (And.intro (Vw.same _ rfl) trivial) ?_
    refine And.intro (fun hp => hp) ?_
    show yops _ _ _ [(26, .cnd ((v4 != 0) == false) (.int .i64 a1.f_Kind)), (25, .cnd ((v4 != 0) == false) (.ptr (1, 0) 0 0)), (24, .bool (v4 != 0)), (23, .bool (v4 != 0)), (22, .int .i64 v4), (21, .agg [.int .i64 a0.f_Inputs, .isl 1 (a0.f_Queries.map e_sl_QOp) false]), (9, .ptr (13, 0) 0 0), (20, .agg [.isl 1 (v3.1.f_Nums.map e_i64) false, .str v3.1.f_Text]), (17, .fn (.func 37) [] [.ptr (6, 0) 0 0, .ptr (7, 0) 0 0]), (19, .fn (.func 19) [] [.ptr (3, 0) 0 0, .ptr (2, 0) 0 0]), (18, .agg [.int .i64 a1.f_Kind, .int .i64 a1.f_A, .int .i64 a1.f_B]), (16, .agg [.int .i64 a0.f_Inputs, .isl 1 (a0.f_Queries.map e_sl_QOp) false]), (3, .ptr (0, 0) 0 0), (4, .ptr (1, 0) 0 0), (7, .ptr (2, 0) 0 0), (8, .ptr (3, 0) 0 0)] _ _
    refine And.intro (fun hp => hp) ?_
    refine And.intro (fun hc => (bqf hc)) ?_
    refine And.intro (fun hp => hp) ?_
    show yops _ _ _ [(31, .cnd (((v4 != 0) || (a1.f_Kind != 1)) == false) (.int .i64 a1.f_B)), (30, .cnd (((v4 != 0) || (a1.f_Kind != 1)) == false) (.ptr (1, 0) 0 2)), (29, .bool ((v4 != 0) || (a1.f_Kind != 1))), (28, .bool ((v4 != 0) || (a1.f_Kind != 1))), (27, .cnd ((v4 != 0) == false) (.bool (a1.f_Kind != 1))), (26, .cnd ((v4 != 0) == false) (.int .i64 a1.f_Kind)), (25, .cnd ((v4 != 0) == false) (.ptr (1, 0) 0 0)), (24, .bool (v4 != 0)), (23, .bool (v4 != 0)), (22, .int .i64 v4), (21, .agg [.int .i64 a0.f_Inputs, .isl 1 (a0.f_Queries.map e_sl_QOp) false]), (9, .ptr (13, 0) 0 0), (20, .agg [.isl 1 (v3.1.f_Nums.map e_i64) false, .str v3.1.f_Text]), (17, .fn (.func 37) [] [.ptr (6, 0) 0 0, .ptr (7, 0) 0 0]), (19, .fn (.func 19) [] [.ptr (3, 0) 0 0, .ptr (2, 0) 0 0]), (18, .agg [.int .i64 a1.f_Kind, .int .i64 a1.f_A, .int .i64 a1.f_B]), (16, .agg [.int .i64 a0.f_Inputs, .isl 1 (a0.f_Queries.map e_sl_QOp) false]), (3, .ptr (0, 0) 0 0), (4, .ptr (1, 0) 0 0), (7, .ptr (2, 0) 0 0), (8, .ptr (3, 0) 0 0)] _ _
    refine And.intro (fun hp => hp) ?_
    refine And.intro (fun hc => (bqf hc)) ?_
    refine And.intro (fun hp => hp) ?_
    show yops _ _ _ [(36, .cnd ((((v4 != 0) || (a1.f_Kind != 1)) || (a1.f_B != 0)) == false) (.int .i64 a1.f_A)), (35, .cnd ((((v4 != 0) || (a1.f_Kind != 1)) || (a1.f_B != 0)) == false) (.ptr (1, 0) 0 1)), (34, .bool (((v4 != 0) || (a1.f_Kind != 1)) || (a1.f_B != 0))), (33, .bool (((v4 != 0) || (a1.f_Kind != 1)) || (a1.f_B != 0))), (32, .cnd (((v4 != 0) || (a1.f_Kind != 1)) == false) (.bool (a1.f_B != 0))), (31, .cnd (((v4 != 0) || (a1.f_Kind != 1)) == false) (.int .i64 a1.f_B)), (30, .cnd (((v4 != 0) || (a1.f_Kind != 1)) == false) (.ptr (1, 0) 0 2)), (29, .bool ((v4 != 0) || (a1.f_Kind != 1))), (28, .bool ((v4 != 0) || (a1.f_Kind != 1))), (27, .cnd ((v4 != 0) == false) (.bool (a1.f_Kind != 1))), (26, .cnd ((v4 != 0) == false) (.int .i64 a1.f_Kind)), (25, .cnd ((v4 != 0) == false) (.ptr (1, 0) 0 0)), (24, .bool (v4 != 0)), (23, .bool (v4 != 0)), (22, .int .i64 v4), (21, .agg [.int .i64 a0.f_Inputs, .isl 1 (a0.f_Queries.map e_sl_QOp) false]), (9, .ptr (13, 0) 0 0), (20, .agg [.isl 1 (v3.1.f_Nums.map e_i64) false, .str v3.1.f_Text]), (17, .fn (.func 37) [] [.ptr (6, 0) 0 0, .ptr (7, 0) 0 0]), (19, .fn (.func 19) [] [.ptr (3, 0) 0 0, .ptr (2, 0) 0 0]), (18, .agg [.int .i64 a1.f_Kind, .int .i64 a1.f_A, .int .i64 a1.f_B]), (16, .agg [.int .i64 a0.f_Inputs, .isl 1 (a0.f_Queries.map e_sl_QOp) false]), (3, .ptr (0, 0) 0 0), (4, .ptr (1, 0) 0 0), (7, .ptr (2, 0) 0 0), (8, .ptr (3, 0) 0 0)] _ _
    refine And.intro (fun hp => hp) ?_
    refine And.intro (fun hc => (bqf hc)) ?_
    refine And.intro (fun hp => hp) ?_
    show yops _ _ _ [(41, .cnd (((((v4 != 0) || (a1.f_Kind != 1)) || (a1.f_B != 0)) || (decide (a1.f_A < 0))) == false) (.int .i64 a1.f_A)), (40, .cnd (((((v4 != 0) || (a1.f_Kind != 1)) || (a1.f_B != 0)) || (decide (a1.f_A < 0))) == false) (.ptr (1, 0) 0 1)), (39, .bool ((((v4 != 0) || (a1.f_Kind != 1)) || (a1.f_B != 0)) || (decide (a1.f_A < 0)))), (38, .bool ((((v4 != 0) || (a1.f_Kind != 1)) || (a1.f_B != 0)) || (decide (a1.f_A < 0)))), (37, .cnd ((((v4 != 0) || (a1.f_Kind != 1)) || (a1.f_B != 0)) == false) (.bool (decide (a1.f_A < 0)))), (36, .cnd ((((v4 != 0) || (a1.f_Kind != 1)) || (a1.f_B != 0)) == false) (.int .i64 a1.f_A)), (35, .cnd ((((v4 != 0) || (a1.f_Kind != 1)) || (a1.f_B != 0)) == false) (.ptr (1, 0) 0 1)), (34, .bool (((v4 != 0) || (a1.f_Kind != 1)) || (a1.f_B != 0))), (33, .bool (((v4 != 0) || (a1.f_Kind != 1)) || (a1.f_B != 0))), (32, .cnd (((v4 != 0) || (a1.f_Kind != 1)) == false) (.bool (a1.f_B != 0))), (31, .cnd (((v4 != 0) || (a1.f_Kind != 1)) == false) (.int .i64 a1.f_B)), (30, .cnd (((v4 != 0) || (a1.f_Kind != 1)) == false) (.ptr (1, 0) 0 2)), (29, .bool ((v4 != 0) || (a1.f_Kind != 1))), (28, .bool ((v4 != 0) || (a1.f_Kind != 1))), (27, .cnd ((v4 != 0) == false) (.bool (a1.f_Kind != 1))), (26, .cnd ((v4 != 0) == false) (.int .i64 a1.f_Kind)), (25, .cnd ((v4 != 0) == false) (.ptr (1, 0) 0 0)), (24, .bool (v4 != 0)), (23, .bool (v4 != 0)), (22, .int .i64 v4), (21, .agg [.int .i64 a0.f_Inputs, .isl 1 (a0.f_Queries.map e_sl_QOp) false]), (9, .ptr (13, 0) 0 0), (20, .agg [.isl 1 (v3.1.f_Nums.map e_i64) false, .str v3.1.f_Text]), (17, .fn (.func 37) [] [.ptr (6, 0) 0 0, .ptr (7, 0) 0 0]), (19, .fn (.func 19) [] [.ptr (3, 0) 0 0, .ptr (2, 0) 0 0]), (18, .agg [.int .i64 a1.f_Kind, .int .i64 a1.f_A, .int .i64 a1.f_B]), (16, .agg [.int .i64 a0.f_Inputs, .isl 1 (a0.f_Queries.map e_sl_QOp) false]), (3, .ptr (0, 0) 0 0), (4, .ptr (1, 0) 0 0), (7, .ptr (2, 0) 0 0), (8, .ptr (3, 0) 0 0)] _ _
    refine And.intro (fun hp => hp) ?_
    refine And.intro (fun hp => hp) ?_
    refine And.intro (fun hp => (And.intro hp hp)) ?_
    refine And.intro (fun hc => (bqf hc)) ?_
    show yops _ _ _ [(46, .bool (((((v4 != 0) || (a1.f_Kind != 1)) || (a1.f_B != 0)) || (decide (a1.f_A < 0))) || (decide (a1.f_A ≥ ((a0.f_Queries.map e_sl_QOp).length : Int))))), (45, .cnd (((((v4 != 0) || (a1.f_Kind != 1)) || (a1.f_B != 0)) || (decide (a1.f_A < 0))) == false) (.bool (decide (a1.f_A ≥ ((a0.f_Queries.map e_sl_QOp).length : Int))))), (44, .cnd (((((v4 != 0) || (a1.f_Kind != 1)) || (a1.f_B != 0)) || (decide (a1.f_A < 0))) == false) (.int .i64 ((a0.f_Queries.map e_sl_QOp).length : Int))), (43, .cnd (((((v4 != 0) || (a1.f_Kind != 1)) || (a1.f_B != 0)) || (decide (a1.f_A < 0))) == false) (.isl 1 (a0.f_Queries.map e_sl_QOp) false)), (42, .cnd (((((v4 != 0) || (a1.f_Kind != 1)) || (a1.f_B != 0)) || (decide (a1.f_A < 0))) == false) (.ptr (0, 0) 0 1)), (41, .cnd (((((v4 != 0) || (a1.f_Kind != 1)) || (a1.f_B != 0)) || (decide (a1.f_A < 0))) == false) (.int .i64 a1.f_A)), (40, .cnd (((((v4 != 0) || (a1.f_Kind != 1)) || (a1.f_B != 0)) || (decide (a1.f_A < 0))) == false) (.ptr (1, 0) 0 1)), (39, .bool ((((v4 != 0) || (a1.f_Kind != 1)) || (a1.f_B != 0)) || (decide (a1.f_A < 0)))), (38, .bool ((((v4 != 0) || (a1.f_Kind != 1)) || (a1.f_B != 0)) || (decide (a1.f_A < 0)))), (37, .cnd ((((v4 != 0) || (a1.f_Kind != 1)) || (a1.f_B != 0)) == false) (.bool (decide (a1.f_A < 0)))), (36, .cnd ((((v4 != 0) || (a1.f_Kind != 1)) || (a1.f_B != 0)) == false) (.int .i64 a1.f_A)), (35, .cnd ((((v4 != 0) || (a1.f_Kind != 1)) || (a1.f_B != 0)) == false) (.ptr (1, 0) 0 1)), (34, .bool (((v4 != 0) || (a1.f_Kind != 1)) || (a1.f_B != 0))), (33, .bool (((v4 != 0) || (a1.f_Kind != 1)) || (a1.f_B != 0))), (32, .cnd (((v4 != 0) || (a1.f_Kind != 1)) == false) (.bool (a1.f_B != 0))), (31, .cnd (((v4 != 0) || (a1.f_Kind != 1)) == false) (.int .i64 a1.f_B)), (30, .cnd (((v4 != 0) || (a1.f_Kind != 1)) == false) (.ptr (1, 0) 0 2)), (29, .bool ((v4 != 0) || (a1.f_Kind != 1))), (28, .bool ((v4 != 0) || (a1.f_Kind != 1))), (27, .cnd ((v4 != 0) == false) (.bool (a1.f_Kind != 1))), (26, .cnd ((v4 != 0) == false) (.int .i64 a1.f_Kind)), (25, .cnd ((v4 != 0) == false) (.ptr (1, 0) 0 0)), (24, .bool (v4 != 0)), (23, .bool (v4 != 0)), (22, .int .i64 v4), (21, .agg [.int .i64 a0.f_Inputs, .isl 1 (a0.f_Queries.map e_sl_QOp) false]), (9, .ptr (13, 0) 0 0), (20, .agg [.isl 1 (v3.1.f_Nums.map e_i64) false, .str v3.1.f_Text]), (17, .fn (.func 37) [] [.ptr (6, 0) 0 0, .ptr (7, 0) 0 0]), (19, .fn (.func 19) [] [.ptr (3, 0) 0 0, .ptr (2, 0) 0 0]), (18, .agg [.int .i64 a1.f_Kind, .int .i64 a1.f_A, .int .i64 a1.f_B]), (16, .agg [.int .i64 a0.f_Inputs, .isl 1 (a0.f_Queries.map e_sl_QOp) false]), (3, .ptr (0, 0) 0 0), (4, .ptr (1, 0) 0 0), (7, .ptr (2, 0) 0 0), (8, .ptr (3, 0) 0 0)] _ _
    refine LWp.sim (e := [(3, .ptr (0, 0) 0 0), (4, .ptr (1, 0) 0 0), (7, .ptr (2, 0) 0 0), (8, .ptr (3, 0) 0 0), (9, .ptr (4, 0) 0 0), (46, .bool (((((v4 != 0) || (a1.f_Kind != 1)) || (a1.f_B != 0)) || (decide (a1.f_A < 0))) || (decide (a1.f_A ≥ ((a0.f_Queries.map e_sl_QOp).length : Int)))))]) (L := [((0, 0), .one [.int .i64 a0.f_Inputs, .isl 1 (a0.f_Queries.map e_sl_QOp) false]), ((1, 0), .one [.int .i64 a1.f_Kind, .int .i64 a1.f_A, .int .i64 a1.f_B]), ((2, 0), .one [.fn (.func 16) [] [.ptr (5, 0) 0 0]]), ((3, 0), .one [.msl (6, 0) 3 0 v3.2.length false]), ((4, 0), .one [.isl 1 (v3.1.f_Nums.map e_i64) false, .str v3.1.f_Text]), ((5, 0), .one [.isl 2 (a2.map e_QValue) false]), ((6, 0), .rows 3 (v3.2.map e_QKey))]) (n := 7) ?_ ?_
    · exact simI (M := [((0, 0), (0, 0)), ((1, 0), (1, 0)), ((2, 0), (2, 0)), ((3, 0), (3, 0)), ((4, 0), (13, 0)), ((5, 0), (4, 0)), ((6, 0), (10, 0))]) rfl (And.intro (Vw.ptr _ _ _ _ rfl) (And.intro (Vw.ptr _ _ _ _ rfl) (And.intro (Vw.ptr _ _ _ _ rfl) (And.intro (Vw.ptr _ _ _ _ rfl) (And.intro (Vw.ptr _ _ _ _ rfl) (And.intro (Vw.same _ rfl) trivial)))))) (And.intro (And.intro rfl (BVw.oneL (And.intro (Vw.same _ rfl) (And.intro (Vw.same _ rfl) trivial)))) (And.intro (And.intro rfl (BVw.oneL (And.intro (Vw.same _ rfl) (And.intro (Vw.same _ rfl) (And.intro (Vw.same _ rfl) trivial))))) (And.intro (And.intro rfl (BVw.oneL (And.intro (Vw.fnL trivial (And.intro (Vw.ptr _ _ _ _ rfl) trivial)) trivial))) (And.intro (And.intro rfl (BVw.oneL (And.intro (Vw.mslE rfl (by first | rfl | simp) rfl) trivial))) (And.intro (And.intro rfl (BVw.oneL (And.intro (Vw.same _ rfl) (And.intro (Vw.same _ rfl) trivial)))) (And.intro (And.intro rfl (BVw.oneL (And.intro (Vw.same _ rfl) trivial))) (And.intro (And.intro rfl (BVw.enc e_QKey (fun _ => rfl) _ v3.2)) trivial)))))))
    refine condI (v := (((((v4 != 0) || (a1.f_Kind != 1)) || (a1.f_B != 0)) || (decide (a1.f_A < 0))) || (decide (a1.f_A ≥ ((a0.f_Queries.map e_sl_QOp).length : Int))))) rfl trivial (fun h6 => ?_) (fun h6 => ?_)
    · have h := ite_tt h6 h
      refine seqI ?_
      refine regI ?_
      obtain ⟨v5, h7, h⟩ := bind_some h
      refine PFn.call (f7_ok h7) trivial ?_
      refine And.intro (fun hp => hp) ?_
      refine And.intro (fun hp => hp) ?_
      show yops _ _ _ [(51, .cnd (v5 == true) (.bool (((v3.2.length : Nat) : Int) == 0))), (50, .cnd (v5 == true) (.int .i64 ((v3.2.length : Nat) : Int))), (49, .cnd (v5 == true) (.msl (6, 0) 3 0 v3.2.length false)), (48, .bool v5), (47, .bool v5), (3, .ptr (0, 0) 0 0), (4, .ptr (1, 0) 0 0), (7, .ptr (2, 0) 0 0), (8, .ptr (3, 0) 0 0), (9, .ptr (4, 0) 0 0), (46, .bool (((((v4 != 0) || (a1.f_Kind != 1)) || (a1.f_B != 0)) || (decide (a1.f_A < 0))) || (decide (a1.f_A ≥ ((a0.f_Queries.map e_sl_QOp).length : Int)))))] _ _
      refine And.intro (fun hc => (bqt hc)) ?_
      obtain ⟨v6, h8, h⟩ := bind_some h
      refine Or.inl (Exists.intro (.bool v6) (And.intro (fun hp => And.intro (And.intro hp hp) (PFn.call (f20_ok (ite_tt hp h8)) (And.intro (Vw.same _ rfl) (And.intro (Vw.aggL (And.intro (Vw.islF _ _ _) (And.intro (Vw.same _ rfl) trivial))) trivial)) (And.intro rfl (And.intro rfl rfl)))) ?_))
      refine And.intro (fun hc => (bqt hc)) ?_
      show yops _ _ _ [(57, .bool ((v5 && (((v3.2.length : Nat) : Int) == 0)) && v6)), (56, .cnd ((v5 && (((v3.2.length : Nat) : Int) == 0)) == true) (.bool v6)), (55, .cnd ((v5 && (((v3.2.length : Nat) : Int) == 0)) == true) (.agg [.isl 1 (([] : List Int).map e_i64) true, .str ([] : List UInt8)])), (54, .cnd ((v5 && (((v3.2.length : Nat) : Int) == 0)) == true) (.agg [.isl 1 (v3.1.f_Nums.map e_i64) false, .str v3.1.f_Text])), (53, .bool (v5 && (((v3.2.length : Nat) : Int) == 0))), (52, .bool (v5 && (((v3.2.length : Nat) : Int) == 0))), (51, .cnd (v5 == true) (.bool (((v3.2.length : Nat) : Int) == 0))), (50, .cnd (v5 == true) (.int .i64 ((v3.2.length : Nat) : Int))), (49, .cnd (v5 == true) (.msl (6, 0) 3 0 v3.2.length false)), (48, .bool v5), (47, .bool v5), (3, .ptr (0, 0) 0 0), (4, .ptr (1, 0) 0 0), (7, .ptr (2, 0) 0 0), (8, .ptr (3, 0) 0 0), (9, .ptr (4, 0) 0 0), (46, .bool (((((v4 != 0) || (a1.f_Kind != 1)) || (a1.f_B != 0)) || (decide (a1.f_A < 0))) || (decide (a1.f_A ≥ ((a0.f_Queries.map e_sl_QOp).length : Int)))))] _ _
      refine LWp.sim (e := [(6, .bool ((v5 && (((v3.2.length : Nat) : Int) == 0)) && v6))]) (L := []) (n := 0) ?_ ?_
      · exact simI (M := []) rfl (And.intro (Vw.same _ rfl) trivial) trivial
      refine retI ?_
      cases h
      exact And.intro trivial (And.intro rfl (Vw.same _ rfl))
    · have h := ite_ff h6 h
      refine skipI ?_
      refine seqI ?_
      refine regI ?_
      refine LWp.ghost (b := (7, 0)) 3 rfl rfl ?_
      refine LWp.sim (e := [(3, .ptr (0, 0) 0 0), (4, .ptr (1, 0) 0 0), (7, .ptr (2, 0) 0 0), (8, .ptr (3, 0) 0 0), (9, .ptr (4, 0) 0 0), (10, .ptr (5, 0) 0 0)]) (L := [((0, 0), .one [.int .i64 a0.f_Inputs, .isl 1 (a0.f_Queries.map e_sl_QOp) false]), ((1, 0), .one [.int .i64 a1.f_Kind, .int .i64 a1.f_A, .int .i64 a1.f_B]), ((2, 0), .one [.fn (.func 16) [] [.ptr (6, 0) 0 0]]), ((3, 0), .one [.msl (7, 0) 3 0 v3.2.length false]), ((4, 0), .one [.isl 1 (v3.1.f_Nums.map e_i64) false, .str v3.1.f_Text]), ((5, 0), .one [.msl (8, 0) 3 0 (([] : List G_QKey).length) false]), ((6, 0), .one [.isl 2 (a2.map e_QValue) false]), ((7, 0), .rows 3 (v3.2.map e_QKey)), ((8, 0), .rows 3 (([] : List G_QKey).map e_QKey))]) (n := 9) ?_ ?_
      · exact simI (M := [((0, 0), (0, 0)), ((1, 0), (1, 0)), ((2, 0), (2, 0)), ((3, 0), (3, 0)), ((4, 0), (4, 0)), ((5, 0), (7, 0)), ((6, 0), (5, 0)), ((7, 0), (6, 0)), ((8, 0), (8, 0))]) rfl (And.intro (Vw.ptr _ _ _ _ rfl) (And.intro (Vw.ptr _ _ _ _ rfl) (And.intro (Vw.ptr _ _ _ _ rfl) (And.intro (Vw.ptr _ _ _ _ rfl) (And.intro (Vw.ptr _ _ _ _ rfl) (And.intro (Vw.ptr _ _ _ _ rfl) trivial)))))) (And.intro (And.intro rfl (BVw.oneL (And.intro (Vw.same _ rfl) (And.intro (Vw.same _ rfl) trivial)))) (And.intro (And.intro rfl (BVw.oneL (And.intro (Vw.same _ rfl) (And.intro (Vw.same _ rfl) (And.intro (Vw.same _ rfl) trivial))))) (And.intro (And.intro rfl (BVw.oneL (And.intro (Vw.fnL trivial (And.intro (Vw.ptr _ _ _ _ rfl) trivial)) trivial))) (And.intro (And.intro rfl (BVw.oneL (And.intro (Vw.mslE rfl (by first | rfl | simp) rfl) trivial))) (And.intro (And.intro rfl (BVw.oneL (And.intro (Vw.same _ rfl) (And.intro (Vw.same _ rfl) trivial)))) (And.intro (And.intro rfl (BVw.oneL (And.intro (Vw.islM _ _ _ _ _ _ rfl rfl) trivial))) (And.intro (And.intro rfl (BVw.oneL (And.intro (Vw.same _ rfl) trivial))) (And.intro (And.intro rfl (BVw.enc e_QKey (fun _ => rfl) _ v3.2)) (And.intro (And.intro rfl (BVw.enc e_QKey (fun _ => rfl) _ ([] : List G_QKey))) trivial)))))))))
      refine seqI ?_
      refine drawO rfl ?_
      obtain ⟨h9, h⟩ := ite_some h
      refine And.intro h9 ?_
      show yops _ _ _ [(63, .iptr 1 (a0.f_Queries.map e_sl_QOp) a1.f_A.toNat 0), (62, .int .i64 a1.f_A), (61, .ptr (1, 0) 0 1), (60, .isl 1 (a0.f_Queries.map e_sl_QOp) false), (59, .ptr (0, 0) 0 1), (3, .ptr (0, 0) 0 0), (4, .ptr (1, 0) 0 0), (7, .ptr (2, 0) 0 0), (8, .ptr (3, 0) 0 0), (9, .ptr (4, 0) 0 0), (10, .ptr (5, 0) 0 0)] _ _
      refine Exists.intro (e_sl_QOp (a0.f_Queries.getD a1.f_A.toNat default)) (And.intro (getD_enc e_sl_QOp _ _ (idx_ltL e_sl_QOp h9)) (And.intro (And.intro (idx_lt h9) (Nat.le_of_ble_eq_true rfl)) ?_))
      obtain ⟨v7, h10, h⟩ := bind_some h
      refine bcall (k := 3) (m := 1) (L' := [((5, 0), .one [.msl (9, 0) 3 0 v7.2.2.length false]), ((2, 0), .one [.fn (.func 16) [] [.ptr (6, 0) 0 0]]), ((6, 0), .one [.isl 2 (a2.map e_QValue) false]), ((9, 0), .rows 3 (v7.2.2.map e_QKey))]) (rest := [((0, 0), .one [.int .i64 a0.f_Inputs, .isl 1 (a0.f_Queries.map e_sl_QOp) false]), ((1, 0), .one [.int .i64 a1.f_Kind, .int .i64 a1.f_A, .int .i64 a1.f_B]), ((3, 0), .one [.msl (7, 0) 3 0 v3.2.length false]), ((4, 0), .one [.isl 1 (v3.1.f_Nums.map e_i64) false, .str v3.1.f_Text]), ((7, 0), .rows 3 (v3.2.map e_QKey))]) (R' := .tup [.int .i64 v7.1, .bool v7.2.1]) [((1, 0), (5, 0)), ((1, 1), (2, 0)), ((2, 0), (8, 0)), ((1, 2), (6, 0))] (f21b0_ok (show Clo Try.prog (.func 22) [] [.ptr (1, 0) 0 0, .ptr (1, 1) 0 0] (fun (s : (List G_QKey)) => [((1, 0), .one [.msl (2, 0) 3 0 s.length false]), ((1, 1), .one [.fn (.func 16) [] [.ptr (1, 2) 0 0]]), ((1, 2), .one [.isl 2 (a2.map e_QValue) false]), ((2, 0), .rows 3 (s.map e_QKey))]) (fun (x : (Int × Int)) => [.int .i64 x.1, .int .i64 x.2]) (fun (b : (Int × Bool)) => .tup [.int .i64 b.1, .bool b.2]) (fun (s : (List G_QKey)) (x : (Int × Int)) => (S_glossatorlaw3_QuerylangCompile_3c m s a2 x.1 x.2).map fun o => ((o.1, o.2.1), o.2.2)) from Clo.mk' (fun s => Tl.lit rfl (And.intro (rfl) (And.intro (rfl) (And.intro (rfl) (And.intro (rows_inP e_QKey (fun _ => rfl) _ _) trivial)))) rfl) rfl rfl (fun _ => rfl) (fun s x o h => by obtain ⟨o1, h1, rfl⟩ := Option.map_eq_some_iff.1 h; exact Exists.intro _ (And.intro (f22c0_ok h1) (And.intro rfl (And.intro rfl (And.intro rfl (And.intro rfl (And.intro rfl (And.intro rfl (And.intro rfl (And.intro (rows_ren e_QKey (fun _ => rfl) _ _) trivial))))))))))) h10) rfl rfl rfl (And.intro (Vw.same _ rfl) (And.intro (Vw.same _ rfl) (And.intro (Vw.fnL trivial (And.intro (Vw.ptr _ _ _ _ rfl) (And.intro (Vw.ptr _ _ _ _ rfl) trivial))) trivial))) (And.intro (h0I (5, 0) rfl rfl (BVw.oneL (And.intro (Vw.mslE rfl (by first | rfl | simp) rfl) trivial))) (And.intro (h0I (2, 0) rfl rfl (BVw.oneL (And.intro (Vw.fnL trivial (And.intro (Vw.ptr _ _ _ _ rfl) trivial)) trivial))) (And.intro (h0I (6, 0) rfl rfl (BVw.oneL (And.intro (Vw.same _ rfl) trivial))) (And.intro (h0I (8, 0) rfl rfl (BVw.enc e_QKey (fun _ => rfl) _ ([] : List G_QKey))) trivial)))) (nid_ren _ rfl) (And.intro rfl (And.intro rfl (And.intro rfl (And.intro rfl (And.intro rfl (And.intro rfl (And.intro rfl (And.intro ((congrArg (ABlock.ren _) (rows_ren e_QKey (fun _ => rfl) _ _)).trans (rows_ren e_QKey (fun _ => rfl) _ _)) trivial)))))))) rfl ?_
      show yops _ _ _ [(68, .tup [.int .i64 v7.1, .bool v7.2.1]), (67, .fn (.func 22) [] [.ptr (5, 0) 0 0, .ptr (2, 0) 0 0]), (66, .int .i64 a1.f_A), (65, .ptr (1, 0) 0 1), (64, .isl 3 ((a0.f_Queries.getD a1.f_A.toNat default).map e_QOp) false), (63, .iptr 1 (a0.f_Queries.map e_sl_QOp) a1.f_A.toNat 0), (62, .int .i64 a1.f_A), (61, .ptr (1, 0) 0 1), (60, .isl 1 (a0.f_Queries.map e_sl_QOp) false), (59, .ptr (0, 0) 0 1), (3, .ptr (0, 0) 0 0), (4, .ptr (1, 0) 0 0), (7, .ptr (2, 0) 0 0), (8, .ptr (3, 0) 0 0), (9, .ptr (4, 0) 0 0), (10, .ptr (5, 0) 0 0)] _ _
      refine LWp.sim (e := [(8, .ptr (0, 0) 0 0), (9, .ptr (1, 0) 0 0), (10, .ptr (2, 0) 0 0), (11, .int .i64 v7.1)]) (L := [((0, 0), .one [.msl (3, 0) 3 0 v3.2.length false]), ((1, 0), .one [.isl 1 (v3.1.f_Nums.map e_i64) false, .str v3.1.f_Text]), ((2, 0), .one [.msl (4, 0) 3 0 v7.2.2.length false]), ((3, 0), .rows 3 (v3.2.map e_QKey)), ((4, 0), .rows 3 (v7.2.2.map e_QKey))]) (n := 5) ?_ ?_
      · exact simI (M := [((0, 0), (3, 0)), ((1, 0), (4, 0)), ((2, 0), (5, 0)), ((3, 0), (7, 0)), ((4, 0), (9, 0))]) rfl (And.intro (Vw.ptr _ _ _ _ rfl) (And.intro (Vw.ptr _ _ _ _ rfl) (And.intro (Vw.ptr _ _ _ _ rfl) (And.intro (Vw.same _ rfl) trivial)))) (And.intro (And.intro rfl (BVw.oneL (And.intro (Vw.mslE rfl (by first | rfl | simp) rfl) trivial))) (And.intro (And.intro rfl (BVw.oneL (And.intro (Vw.same _ rfl) (And.intro (Vw.same _ rfl) trivial)))) (And.intro (And.intro rfl (BVw.oneL (And.intro (Vw.mslE rfl (by first | rfl | simp) rfl) trivial))) (And.intro (And.intro rfl (BVw.enc e_QKey (fun _ => rfl) _ v3.2)) (And.intro (And.intro rfl (BVw.enc e_QKey (fun _ => rfl) _ v7.2.2)) trivial)))))
      refine seqI ?_
      refine regI ?_
      obtain ⟨v8, h11, h⟩ := bind_some h
      refine PFn.call (f7_ok h11) trivial ?_
      obtain ⟨v9, h12, h⟩ := bind_some h
      refine Or.inl (Exists.intro (.bool v9) (And.intro (fun hp => And.intro (And.intro hp hp) (PFn.readB [(3, 0), (4, 0)] (f14_ok (ite_tt hp h12)) rfl (And.intro (Vw.frzB e_QKey e_QKey_ok (fun h => h) rfl rfl (by first | rfl | simp)) (And.intro (Vw.frzB e_QKey e_QKey_ok (fun h => h) rfl rfl (by first | rfl | simp)) trivial)) (And.intro rfl (And.intro rfl rfl)))) ?_))
      refine And.intro (fun hc => (bqt hc)) ?_
      show yops _ _ _ [(76, .bool (v8 && v9)), (75, .cnd (v8 == true) (.bool v9)), (74, .cnd (v8 == true) (.msl (4, 0) 3 0 v7.2.2.length false)), (73, .cnd (v8 == true) (.msl (3, 0) 3 0 v3.2.length false)), (72, .bool v8), (71, .bool v8), (8, .ptr (0, 0) 0 0), (9, .ptr (1, 0) 0 0), (10, .ptr (2, 0) 0 0), (11, .int .i64 v7.1)] _ _
      refine Or.inl (Exists.intro (.isl 1 (([v7.1] : List Int).map e_i64) true) (And.intro (fun hp => And.intro hp (And.intro rfl (And.intro rfl rfl))) ?_))
      refine And.intro (fun hp => hp) ?_
      show yops _ _ _ [(81, .cnd ((v8 && v9) == true) (.agg [.isl 1 (([v7.1] : List Int).map e_i64) true, .str ([] : List UInt8)])), (80, .cnd ((v8 && v9) == true) (.isl 1 (([v7.1] : List Int).map e_i64) true)), (79, .cnd ((v8 && v9) == true) (.int .i64 v7.1)), (78, .cnd ((v8 && v9) == true) (.agg [.isl 1 (v3.1.f_Nums.map e_i64) false, .str v3.1.f_Text])), (77, .bool (v8 && v9)), (76, .bool (v8 && v9)), (75, .cnd (v8 == true) (.bool v9)), (74, .cnd (v8 == true) (.msl (4, 0) 3 0 v7.2.2.length false)), (73, .cnd (v8 == true) (.msl (3, 0) 3 0 v3.2.length false)), (72, .bool v8), (71, .bool v8), (8, .ptr (0, 0) 0 0), (9, .ptr (1, 0) 0 0), (10, .ptr (2, 0) 0 0), (11, .int .i64 v7.1)] _ _
      obtain ⟨v10, h13, h⟩ := bind_some h
      refine Or.inl (Exists.intro (.bool v10) (And.intro (fun hp => And.intro (And.intro hp hp) (PFn.call (f20_ok (ite_tt hp h13)) (And.intro (Vw.same _ rfl) (And.intro (Vw.aggL (And.intro (Vw.islF _ _ _) (And.intro (Vw.same _ rfl) trivial))) trivial)) (And.intro rfl (And.intro rfl rfl)))) ?_))
      refine And.intro (fun hc => (bqt hc)) ?_
      refine LWp.sim (e := [(6, .bool ((v8 && v9) && v10))]) (L := []) (n := 0) ?_ ?_
      · exact simI (M := []) rfl (And.intro (Vw.same _ rfl) trivial) trivial
      refine retI ?_
      cases h
      exact And.intro trivial (And.intro rfl (Vw.same _ rfl))

theorem f6_ok {a0 : G_QProgram} {a1 : G_QKey} {a2 : List G_QValue} {m : Option Nat} {o : Bool} (h : S_glossatorlaw3_QuerylangCompile m a0 a1 a2 = some o) : PFn Try.prog 6 [.agg [.int .i64 a0.f_Inputs, .isl 1 (a0.f_Queries.map e_sl_QOp) false], .agg [.int .i64 a1.f_Kind, .int .i64 a1.f_A, .int .i64 a1.f_B], .isl 2 (a2.map e_QValue) false] (.bool o) := PFn.ofFnW (L := f6_L) f6_low f6_fok (Nat.le_of_ble_eq_true rfl) rfl (f6_start h)
end Go.Proofs.Ytjbndlijmgnpnaa
