/-
  Own text GenB of this claim.
-/
import Derived.Test.YtjcckmpeflflbaaGenA
namespace Go.Proofs.Ytjcckmpeflflbaa
open Go.Fx
set_option linter.unusedVariables false
def f38_c2 : LCode := (.region [⟨some 43, .bin .add (.t 19) (.c (.int .i64 1)), none⟩,
   ⟨some 19, .mv (.t 43), none⟩])
def f38_c0 : LCode := (.seq (.region [⟨some 20, .bin .lss (.t 19) (.t 18), none⟩])
 (.seq (.cond (.t 20)
  .skip
  (.exit 2))
 (.seq (.block 3
  (.seq (.region [⟨some 21, .mv (.t 19), none⟩,
    ⟨some 22, .iaddr 1 (.t 17) (.t 19), none⟩,
    ⟨some 23, .load false 1 (.t 22), none⟩,
    ⟨some 9, .mv (.t 21), none⟩,
    ⟨some 10, .mv (.t 23), none⟩])
  (.seq (.seq (.region [⟨some 24, .load false 1 (.t 5), none⟩,
    ⟨some 25, .mv (.t 9), none⟩,
    ⟨some 26, .iaddr 1 (.t 24) (.t 25), none⟩,
    ⟨some 27, .load false 1 (.t 26), none⟩])
  (.cond (.t 27)
   (.exit 3)
   .skip))
  (.seq (.region [⟨some 28, .mv (.t 10), none⟩,
    ⟨some 29, .mv (.t 6), none⟩,
    ⟨some 30, .call 45 [(.t 28), (.t 29)], none⟩,
    ⟨some 11, .mv (.t 30), none⟩])
  (.seq (.region [⟨some 31, .mv (.t 11), none⟩,
    ⟨some 32, .bin .geq (.t 31) (.c (.int .i64 0)), none⟩])
  (.cond (.t 32)
   (.seq (.region [⟨some 33, .load false 1 (.t 5), none⟩,
     ⟨some 34, .mv (.t 9), none⟩,
     ⟨some 35, .iaddr 1 (.t 33) (.t 34), none⟩,
     ⟨none, .store 1 (.t 35) (.c (.bool true)), none⟩,
     ⟨some 8, .mv (.c (.bool true)), none⟩])
   (.region [⟨some 36, .mv (.t 7), none⟩,
     ⟨some 37, .mv (.t 9), none⟩,
     ⟨some 38, .mv (.t 11), none⟩,
     ⟨some 39, .load false 1 (.t 3), none⟩,
     ⟨some 40, .build [(.int .i64 0), (.int .i64 0), (.int .i64 0)] [(0, 1, (.t 37)), (1, 1, (.t 38)), (2, 1, (.t 39))], none⟩,
     ⟨some 41, .mkSl true 3 [(.int .i64 0), (.int .i64 0), (.int .i64 0)] 1 [(0, (.t 40))], none⟩,
     ⟨some 42, .app true 3 24 (.t 36) (.t 41), none⟩,
     ⟨some 7, .mv (.t 42), none⟩]))
   .skip))))))
 f38_c2)))
def f38_c3 : LCode := (.seq (.seq (.region [⟨some 16, .mv (.t 8), none⟩])
 (.cond (.t 16)
  .skip
  (.exit 0)))
 (.block 1
  (.seq (.region [⟨some 8, .mv (.c (.bool false)), none⟩])
  (.seq (.region [⟨some 17, .mv (.t 0), none⟩,
    ⟨some 18, .len false (.t 17), none⟩,
    ⟨some 19, .mv (.c (.int .i64 0)), none⟩])
  (.block 2
   (.loop
    f38_c0))))))
def f38_c1 : LCode := (.seq (.region [⟨some 44, .mv (.t 7), none⟩,
   ⟨some 4, .mv (.t 44), none⟩])
 .ret)
def f38_c4 : LCode := (.seq (.region [⟨some 3, .box (.t 1), none⟩,
   ⟨some 4, .mv (.c (.val (.slice none 0 0))), none⟩])
 (.seq (.region [⟨some 12, .mv (.t 0), none⟩,
   ⟨some 13, .len false (.t 12), none⟩,
   ⟨some 14, .mkslice false 1 1 [(.bool false)] (.t 13) (.t 13), none⟩,
   ⟨some 5, .alloc [(.isl 1 [] true)], none⟩,
   ⟨none, .store 1 (.t 5) (.t 14), none⟩])
 (.seq (.region [⟨some 15, .mkfn (.func 47) [] [(.t 3), (.t 5)], none⟩,
   ⟨some 6, .mv (.t 15), none⟩])
 (.seq (.region [⟨some 7, .mv (.c (.val (.slice none 0 0))), none⟩])
 (.seq (.seq (.region [⟨some 8, .mv (.c (.bool true)), none⟩])
 (.block 0
  (.loop
   f38_c3)))
 f38_c1)))))
def f38_lay : Lay := ⟨45, [14], false⟩
def f38_res : List LRes := [.t 4]
def f38_L : LFn := ⟨2, f38_lay, f38_c4, f38_res⟩
theorem f38_low : lowFn Try.prog [14] 38 = some f38_L := by kernel_rfl
theorem f38_fok : FnOk Try.prog 38 := ⟨_, Try.func38, rfl, rfl⟩
def f38_Q (a0 : List (List G_QRule)) (a1 : Int) (o : (List G_QDerivation)) : Exit → Env → AHeap → Nat → Prop := FinK f38_res (PureEnd (.isl 3 (o.map eD) false))

def f38_L3_env (a0 : List (List G_QRule)) (a1 : Int) (s : ((List G_QDerivation) × Bool × (List Bool))) : Env := [(0, .isl 1 (a0.map eB) false), (3, .ptr (0, 0) 0 0), (5, .ptr (1, 0) 0 0), (6, .fn (.func 47) [] [.ptr (0, 0) 0 0, .ptr (1, 0) 0 0]), (7, .osl (2, 0) 3 (s.1.map eD)), (8, .bool s.2.1)]
def f38_L3_hp (a0 : List (List G_QRule)) (a1 : Int) (s : ((List G_QDerivation) × Bool × (List Bool))) : AHeap := [((0, 0), .one [.int .i64 a1]), ((1, 0), .one [.msl (3, 0) 1 0 s.2.2.length true]), ((2, 0), .tok), ((3, 0), .rows 1 (s.2.2.map e_bool))]
def f38_L3_Q (a0 : List (List G_QRule)) (a1 : Int) (o : (List G_QDerivation)) : Exit → Env → AHeap → Nat → Prop := (QBlock 0 (QSeq Try.prog f38_lay 0 f38_c1 (f38_Q a0 a1 o)))

def f38_L4_env (a0 : List (List G_QRule)) (a1 : Int) (s : ((List G_QDerivation) × Bool × Int × (List Bool))) : Env := [(0, .isl 1 (a0.map eB) false), (3, .ptr (0, 0) 0 0), (5, .ptr (1, 0) 0 0), (6, .fn (.func 47) [] [.ptr (0, 0) 0 0, .ptr (1, 0) 0 0]), (7, .osl (2, 0) 3 (s.1.map eD)), (8, .bool s.2.1), (17, .isl 1 (a0.map eB) false), (18, .int .i64 ((a0.map eB).length : Int)), (19, .int .i64 s.2.2.1)]
def f38_L4_hp (a0 : List (List G_QRule)) (a1 : Int) (s : ((List G_QDerivation) × Bool × Int × (List Bool))) : AHeap := [((0, 0), .one [.int .i64 a1]), ((1, 0), .one [.msl (3, 0) 1 0 s.2.2.2.length true]), ((2, 0), .tok), ((3, 0), .rows 1 (s.2.2.2.map e_bool))]
def f38_L4_Q (a0 : List (List G_QRule)) (a1 : Int) (o : (((List G_QDerivation) × Bool × (List Bool)) ⊕ (List G_QDerivation))) : Exit → Env → AHeap → Nat → Prop := (QBlock 2 (QBlock 1 (BodyQ 0 4 (f38_L3_env a0 a1) (f38_L3_hp a0 a1) (f38_L3_Q a0 a1) o)))

noncomputable def S_fixpoint_derivations_j9 (m : Option Nat) (a0 : List (List G_QRule)) (a1 : Int) (v42 : Int) (v49 : List G_QDerivation) (v50 : Bool) (v51 : List Bool) : Option (((List G_QDerivation) × Bool × Int × (List Bool)) ⊕ (((List G_QDerivation) × Bool × (List Bool)) ⊕ (List G_QDerivation))) :=
  some (.inl (v49, v50, (W (v42 + 1)), v51))

theorem f38_j9_ok {a0 : List (List G_QRule)} {a1 : Int} {v42 : Int} {v49 : List G_QDerivation} {v50 : Bool} {v51 : List Bool} {m : Option Nat} {o : (((List G_QDerivation) × Bool × Int × (List Bool)) ⊕ (((List G_QDerivation) × Bool × (List Bool)) ⊕ (List G_QDerivation)))} (h : S_fixpoint_derivations_j9 m a0 a1 v42 v49 v50 v51 = some o) :
    LWp Try.prog f38_lay 0 f38_c2 (BodyQ 0 4 (f38_L4_env a0 a1) (f38_L4_hp a0 a1) (f38_L4_Q a0 a1) o) [(0, .isl 1 (a0.map eB) false), (3, .ptr (0, 0) 0 0), (5, .ptr (1, 0) 0 0), (6, .fn (.func 47) [] [.ptr (0, 0) 0 0, .ptr (1, 0) 0 0]), (7, .osl (2, 0) 3 (v49.map eD)), (8, .bool v50), (17, .isl 1 (a0.map eB) false), (18, .int .i64 ((a0.map eB).length : Int)), (19, .int .i64 v42)] [((0, 0), .one [.int .i64 a1]), ((1, 0), .one [.msl (3, 0) 1 0 v51.length true]), ((2, 0), .tok), ((3, 0), .rows 1 (v51.map e_bool))] 4 := by
  unfold S_fixpoint_derivations_j9 at h
  refine regI ?_
  cases h
  exact AI rfl (simI (M := [((0, 0), (0, 0)), ((1, 0), (1, 0)), ((2, 0), (2, 0)), ((3, 0), (3, 0))]) rfl (AI (VS rfl) (AI (Vw.ptr _ _ _ _ rfl) (AI (Vw.ptr _ _ _ _ rfl) (AI (Vw.fnL TT (AI (Vw.ptr _ _ _ _ rfl) (AI (Vw.ptr _ _ _ _ rfl) TT))) (AI (Vw.osl _ _ _ _ rfl) (AI (VS rfl) (AI (VS rfl) (AI (VS rfl) (AI (VS rfl) TT))))))))) (AI (AI rfl (BVw.oneL (AI (VS rfl) TT))) (AI (AI rfl (BVw.oneL (AI (Vw.mslE rfl (by first | rfl | (simp; done) | (simp at *; omega)) rfl) TT))) (AI (AI rfl BVw.tok) (AI (AI rfl (BVw.enc e_bool (fun _ => rfl) _ v51)) TT)))))

noncomputable def S_fixpoint_derivations_b4 (m : Option Nat) (a0 : List (List G_QRule)) (a1 : Int) (v40 : List G_QDerivation) (v41 : Bool) (v42 : Int) (v43 : List Bool) : Option (((List G_QDerivation) × Bool × Int × (List Bool)) ⊕ (((List G_QDerivation) × Bool × (List Bool)) ⊕ (List G_QDerivation))) :=
  if (decide (v42 < ((a0.map eB).length : Int))) = true then
    if (0 : Int) ≤ v42 ∧ v42 < ((a0.map eB).length : Int) then
    if (0 : Int) ≤ v42 ∧ v42 < ((v43.length : Nat) : Int) then
    if (0 + v42.toNat) < v43.length then
    if (v43.getD (0 + v42.toNat) default) = true then
      S_fixpoint_derivations_j9 m a0 a1 v42 v40 v41 v43
    else
      (S_slices_IndexFunc_api_QRule (fun (s : Unit) (x : G_QRule) => (S_fixpoint_derivations_1c m a1 v43 x).map fun o => (o, ())) m (a0.getD v42.toNat default) ()).bind fun v48 =>
      if (decide (v48.1 ≥ 0)) = true then
        if (0 : Int) ≤ v42 ∧ v42 < ((v43.length : Nat) : Int) then
        if (0 + v42.toNat) < v43.length then
        if ((v40 ++ ([(G_QDerivation.mk v42 v48.1 a1)] : List G_QDerivation)).map eD).length * 24 ≤ 140737488355328 then
        S_fixpoint_derivations_j9 m a0 a1 v42 (v40 ++ ([(G_QDerivation.mk v42 v48.1 a1)] : List G_QDerivation)) true (v43.set (0 + v42.toNat) true)
        else none
        else none
        else none
      else
        S_fixpoint_derivations_j9 m a0 a1 v42 v40 v41 v43
    else none
    else none
    else none
  else
    Option.map Sum.inr (
      some (.inl (v40, v41, v43)))

noncomputable def S_fixpoint_derivations_l4 (m : Option Nat) (a0 : List (List G_QRule)) (a1 : Int) (v40 : List G_QDerivation) (v41 : Bool) (v42 : Int) (v43 : List Bool) : Option (((List G_QDerivation) × Bool × (List Bool)) ⊕ (List G_QDerivation)) := loopM m (fun (s : ((List G_QDerivation) × Bool × Int × (List Bool))) => S_fixpoint_derivations_b4 m a0 a1 s.1 s.2.1 s.2.2.1 s.2.2.2) (v40, v41, v42, v43)

theorem f38_L4_bok {a0 : List (List G_QRule)} {a1 : Int} {v40 : List G_QDerivation} {v41 : Bool} {v42 : Int} {v43 : List Bool} {m : Option Nat} {o : ((List G_QDerivation) × Bool × Int × (List Bool)) ⊕ (((List G_QDerivation) × Bool × (List Bool)) ⊕ (List G_QDerivation))} (h : S_fixpoint_derivations_b4 m a0 a1 v40 v41 v42 v43 = some o) :
    LWp Try.prog f38_lay 0 f38_c0 (BodyQ 0 4 (f38_L4_env a0 a1) (f38_L4_hp a0 a1) (f38_L4_Q a0 a1) o) [(0, .isl 1 (a0.map eB) false), (3, .ptr (0, 0) 0 0), (5, .ptr (1, 0) 0 0), (6, .fn (.func 47) [] [.ptr (0, 0) 0 0, .ptr (1, 0) 0 0]), (7, .osl (2, 0) 3 (v40.map eD)), (8, .bool v41), (17, .isl 1 (a0.map eB) false), (18, .int .i64 ((a0.map eB).length : Int)), (19, .int .i64 v42)] [((0, 0), .one [.int .i64 a1]), ((1, 0), .one [.msl (3, 0) 1 0 v43.length true]), ((2, 0), .tok), ((3, 0), .rows 1 (v43.map e_bool))] 4 := by
  unfold S_fixpoint_derivations_b4 at h
  refine seqI ?_
  refine regI ?_
  refine seqI ?_
  refine condI (v := (decide (v42 < ((a0.map eB).length : Int)))) rfl TT (fun h84 => ?_) (fun h84 => ?_)
  · have h := ite_tt h84 h
    refine skipI ?_
    refine seqI ?_
    refine blockI ?_
    refine seqI ?_
    refine regI ?_
    obtain ⟨h85, h⟩ := ite_some h
    refine AI h85 ?_
    refine EX (eB (a0.getD v42.toNat default)) (AI (getD_enc eB _ _ (idx_ltL eB h85)) (AI (AI (idx_lt h85) (NB rfl)) ?_))
    refine seqI ?_
    refine seqI ?_
    refine regI ?_
    obtain ⟨h86, h⟩ := ite_some h
    refine AI h86 ?_
    obtain ⟨h87, h⟩ := ite_some h
    refine EX (e_bool (v43.getD (0 + v42.toNat) default)) (AI (getD_enc e_bool _ _ h87) (AI (AI (lt_map e_bool h87) (NB rfl)) ?_))
    refine LWp.sim (e := [(0, .isl 1 (a0.map eB) false), (3, .ptr (0, 0) 0 0), (5, .ptr (1, 0) 0 0), (6, .fn (.func 47) [] [.ptr (0, 0) 0 0, .ptr (1, 0) 0 0]), (7, .osl (2, 0) 3 (v40.map eD)), (8, .bool v41), (9, .int .i64 v42), (10, .isl 2 ((a0.getD v42.toNat default).map e_QRule) false), (17, .isl 1 (a0.map eB) false), (18, .int .i64 ((a0.map eB).length : Int)), (19, .int .i64 v42), (27, .bool (v43.getD (0 + v42.toNat) default))]) (L := [((0, 0), .one [.int .i64 a1]), ((1, 0), .one [.msl (3, 0) 1 0 v43.length true]), ((2, 0), .tok), ((3, 0), .rows 1 (v43.map e_bool))]) (n := 4) ?_ ?_
    · exact simI (M := [((0, 0), (0, 0)), ((1, 0), (1, 0)), ((2, 0), (2, 0)), ((3, 0), (3, 0))]) rfl (AI (VS rfl) (AI (Vw.ptr _ _ _ _ rfl) (AI (Vw.ptr _ _ _ _ rfl) (AI (Vw.fnL TT (AI (Vw.ptr _ _ _ _ rfl) (AI (Vw.ptr _ _ _ _ rfl) TT))) (AI (Vw.osl _ _ _ _ rfl) (AI (VS rfl) (AI (VS rfl) (AI (VS rfl) (AI (VS rfl) (AI (VS rfl) (AI (VS rfl) (AI (VS rfl) TT)))))))))))) (AI (AI rfl (BVw.oneL (AI (VS rfl) TT))) (AI (AI rfl (BVw.oneL (AI (Vw.mslE rfl (by first | rfl | (simp; done) | (simp at *; omega)) rfl) TT))) (AI (AI rfl BVw.tok) (AI (AI rfl (BVw.enc e_bool (fun _ => rfl) _ v43)) TT))))
    refine condI (v := (v43.getD (0 + v42.toNat) default)) rfl TT (fun h88 => ?_) (fun h88 => ?_)
    · have h := ite_tt h88 h
      refine exitI ?_
      refine LWp.sim ?_ (f38_j9_ok h)
      exact simI (M := [((0, 0), (0, 0)), ((1, 0), (1, 0)), ((2, 0), (2, 0)), ((3, 0), (3, 0))]) rfl (AI (VS rfl) (AI (Vw.ptr _ _ _ _ rfl) (AI (Vw.ptr _ _ _ _ rfl) (AI (Vw.fnL TT (AI (Vw.ptr _ _ _ _ rfl) (AI (Vw.ptr _ _ _ _ rfl) TT))) (AI (Vw.osl _ _ _ _ rfl) (AI (VS rfl) (AI (VS rfl) (AI (VS rfl) (AI (VS rfl) TT))))))))) (AI (AI rfl (BVw.oneL (AI (VS rfl) TT))) (AI (AI rfl (BVw.oneL (AI (Vw.mslE rfl (by first | rfl | (simp; done) | (simp at *; omega)) rfl) TT))) (AI (AI rfl BVw.tok) (AI (AI rfl (BVw.enc e_bool (fun _ => rfl) _ v43)) TT))))
    · have h := ite_ff h88 h
      refine skipI ?_
      refine seqI ?_
      refine regI ?_
      obtain ⟨v48, h89, h⟩ := bind_some h
      refine bcall (k := 3) (m := 1) (L' := [((0, 0), .one [.int .i64 a1]), ((1, 0), .one [.msl (4, 0) 1 0 v43.length true]), ((4, 0), .rows 1 (v43.map e_bool))]) (rest := [((2, 0), .tok)]) (R' := .int .i64 v48.1) [((1, 0), (0, 0)), ((1, 1), (1, 0)), ((2, 0), (3, 0))] (f45b0_ok (show Clo Try.prog (.func 47) [] [.ptr (1, 0) 0 0, .ptr (1, 1) 0 0] (fun (s : Unit) => [((1, 0), .one [.int .i64 a1]), ((1, 1), .one [.msl (2, 0) 1 0 v43.length true]), ((2, 0), .rows 1 (v43.map e_bool))]) (fun (x : G_QRule) => [.agg [.int .i64 x.f_Mask, .isl 1 (x.f_All.map e_i64) false]]) (fun (b : Bool) => .bool b) (fun (s : Unit) (x : G_QRule) => (S_fixpoint_derivations_1c m a1 v43 x).map fun o => (o, ())) from Clo.mk' (fun s => Tl.lit rfl (AI (rfl) (AI (rfl) (AI (rows_inP e_bool (fun _ => rfl) _ _) TT))) rfl) rfl rfl (fun _ => rfl) (fun s x o h => by obtain ⟨o1, h1, rfl⟩ := Option.map_eq_some_iff.1 h; exact EX _ (AI (f47c0_ok h1) (AI rfl (AI rfl (AI rfl (AI rfl (AI rfl (AI (rows_ren e_bool (fun _ => rfl) _ _) TT))))))))) h89) rfl rfl rfl (AI (VS rfl) (AI (Vw.fnL TT (AI (Vw.ptr _ _ _ _ rfl) (AI (Vw.ptr _ _ _ _ rfl) TT))) TT)) (AI (h0I (0, 0) rfl rfl (BVw.oneL (AI (VS rfl) TT))) (AI (h0I (1, 0) rfl rfl (BVw.oneL (AI (Vw.mslE rfl (by first | rfl | (simp; done) | (simp at *; omega)) rfl) TT))) (AI (h0I (3, 0) rfl rfl (BVw.enc e_bool (fun _ => rfl) _ v43)) TT))) (nid_ren _ rfl) (AI rfl (AI rfl (AI rfl (AI rfl (AI rfl (AI ((congrArg (ABlock.ren _) (rows_ren e_bool (fun _ => rfl) _ _)).trans (rows_ren e_bool (fun _ => rfl) _ _)) TT)))))) rfl ?_
      refine seqI ?_
      refine regI ?_
      refine condI (v := (decide (v48.1 ≥ 0))) rfl TT (fun h90 => ?_) (fun h90 => ?_)
      · have h := ite_tt h90 h
        refine seqI ?_
        refine regI ?_
        obtain ⟨h91, h⟩ := ite_some h
        refine AI h91 ?_
        obtain ⟨h92, h⟩ := ite_some h
        refine EX ((v43.set (0 + v42.toNat) true).map e_bool) (AI (set_enc e_bool _ _ _ _ _ h92 rfl) (AI (AI rfl (AI (lt_map e_bool h92) (NB rfl))) ?_))
        refine LWp.sim (e := [(0, .isl 1 (a0.map eB) false), (3, .ptr (0, 0) 0 0), (5, .ptr (1, 0) 0 0), (6, .fn (.func 47) [] [.ptr (0, 0) 0 0, .ptr (1, 0) 0 0]), (7, .osl (2, 0) 3 (v40.map eD)), (8, .bool true), (9, .int .i64 v42), (11, .int .i64 v48.1), (17, .isl 1 (a0.map eB) false), (18, .int .i64 ((a0.map eB).length : Int)), (19, .int .i64 v42)]) (L := [((0, 0), .one [.int .i64 a1]), ((1, 0), .one [.msl (3, 0) 1 0 v43.length true]), ((2, 0), .tok), ((3, 0), .rows 1 ((v43.set (0 + v42.toNat) true).map e_bool))]) (n := 4) ?_ ?_
        · exact simI (M := [((0, 0), (0, 0)), ((1, 0), (1, 0)), ((2, 0), (2, 0)), ((3, 0), (4, 0))]) rfl (AI (VS rfl) (AI (Vw.ptr _ _ _ _ rfl) (AI (Vw.ptr _ _ _ _ rfl) (AI (Vw.fnL TT (AI (Vw.ptr _ _ _ _ rfl) (AI (Vw.ptr _ _ _ _ rfl) TT))) (AI (Vw.osl _ _ _ _ rfl) (AI (VS rfl) (AI (VS rfl) (AI (VS rfl) (AI (VS rfl) (AI (VS rfl) (AI (VS rfl) TT))))))))))) (AI (AI rfl (BVw.oneL (AI (VS rfl) TT))) (AI (AI rfl (BVw.oneL (AI (Vw.mslE rfl (by first | rfl | (simp; done) | (simp at *; omega)) rfl) TT))) (AI (AI rfl BVw.tok) (AI (AI rfl (BVw.enc e_bool (fun _ => rfl) _ (v43.set (0 + v42.toNat) true))) TT))))
        refine regI ?_
        obtain ⟨h93, h⟩ := ite_some h
        refine EX ((v40 ++ ([(G_QDerivation.mk v42 v48.1 a1)] : List G_QDerivation)).map eD) (AI (app_enc eD v40 ([(G_QDerivation.mk v42 v48.1 a1)] : List G_QDerivation)) (AI h93 ?_))
        refine LWp.sim ?_ (f38_j9_ok h)
        exact simI (M := [((0, 0), (0, 0)), ((1, 0), (1, 0)), ((2, 0), (4, 0)), ((3, 0), (3, 0))]) rfl (AI (VS rfl) (AI (Vw.ptr _ _ _ _ rfl) (AI (Vw.ptr _ _ _ _ rfl) (AI (Vw.fnL TT (AI (Vw.ptr _ _ _ _ rfl) (AI (Vw.ptr _ _ _ _ rfl) TT))) (AI (Vw.osl _ _ _ _ rfl) (AI (VS rfl) (AI (VS rfl) (AI (VS rfl) (AI (VS rfl) TT))))))))) (AI (AI rfl (BVw.oneL (AI (VS rfl) TT))) (AI (AI rfl (BVw.oneL (AI (Vw.mslE rfl (by first | rfl | (simp; done) | (simp at *; omega)) rfl) TT))) (AI (AI rfl BVw.tok) (AI (AI rfl (BVw.enc e_bool (fun _ => rfl) _ (v43.set (0 + v42.toNat) true))) TT))))
      · have h := ite_ff h90 h
        refine skipI ?_
        refine LWp.sim ?_ (f38_j9_ok h)
        exact simI (M := [((0, 0), (0, 0)), ((1, 0), (1, 0)), ((2, 0), (2, 0)), ((3, 0), (4, 0))]) rfl (AI (VS rfl) (AI (Vw.ptr _ _ _ _ rfl) (AI (Vw.ptr _ _ _ _ rfl) (AI (Vw.fnL TT (AI (Vw.ptr _ _ _ _ rfl) (AI (Vw.ptr _ _ _ _ rfl) TT))) (AI (Vw.osl _ _ _ _ rfl) (AI (VS rfl) (AI (VS rfl) (AI (VS rfl) (AI (VS rfl) TT))))))))) (AI (AI rfl (BVw.oneL (AI (VS rfl) TT))) (AI (AI rfl (BVw.oneL (AI (Vw.mslE rfl (by first | rfl | (simp; done) | (simp at *; omega)) rfl) TT))) (AI (AI rfl BVw.tok) (AI (AI rfl (BVw.enc e_bool (fun _ => rfl) _ v43)) TT))))
  · have h := ite_ff h84 h
    refine exitI ?_
    obtain ⟨o, hq, rfl⟩ := Option.map_eq_some_iff.1 h
    replace h := hq; clear hq
    refine AI nofun ?_
    cases h
    exact AI rfl (simI (M := [((0, 0), (0, 0)), ((1, 0), (1, 0)), ((2, 0), (2, 0)), ((3, 0), (3, 0))]) rfl (AI (VS rfl) (AI (Vw.ptr _ _ _ _ rfl) (AI (Vw.ptr _ _ _ _ rfl) (AI (Vw.fnL TT (AI (Vw.ptr _ _ _ _ rfl) (AI (Vw.ptr _ _ _ _ rfl) TT))) (AI (Vw.osl _ _ _ _ rfl) (AI (VS rfl) TT)))))) (AI (AI rfl (BVw.oneL (AI (VS rfl) TT))) (AI (AI rfl (BVw.oneL (AI (Vw.mslE rfl (by first | rfl | (simp; done) | (simp at *; omega)) rfl) TT))) (AI (AI rfl BVw.tok) (AI (AI rfl (BVw.enc e_bool (fun _ => rfl) _ v43)) TT)))))

theorem f38_L4_ok {a0 : List (List G_QRule)} {a1 : Int} {v40 : List G_QDerivation} {v41 : Bool} {v42 : Int} {v43 : List Bool} {m : Option Nat} {o : (((List G_QDerivation) × Bool × (List Bool)) ⊕ (List G_QDerivation))} (h : S_fixpoint_derivations_l4 m a0 a1 v40 v41 v42 v43 = some o) :
    LWp Try.prog f38_lay 0 (.loop f38_c0) (QBlock 2 (QBlock 1 (BodyQ 0 4 (f38_L3_env a0 a1) (f38_L3_hp a0 a1) (f38_L3_Q a0 a1) o))) [(0, .isl 1 (a0.map eB) false), (3, .ptr (0, 0) 0 0), (5, .ptr (1, 0) 0 0), (6, .fn (.func 47) [] [.ptr (0, 0) 0 0, .ptr (1, 0) 0 0]), (7, .osl (2, 0) 3 (v40.map eD)), (8, .bool v41), (17, .isl 1 (a0.map eB) false), (18, .int .i64 ((a0.map eB).length : Int)), (19, .int .i64 v42)] [((0, 0), .one [.int .i64 a1]), ((1, 0), .one [.msl (3, 0) 1 0 v43.length true]), ((2, 0), .tok), ((3, 0), .rows 1 (v43.map e_bool))] 4 :=
  LWp_loopM (m := m) (s := ((v40, v41, v42, v43) : ((List G_QDerivation) × Bool × Int × (List Bool)))) (r := o) (fun (s : ((List G_QDerivation) × Bool × Int × (List Bool))) => S_fixpoint_derivations_b4 m a0 a1 s.1 s.2.1 s.2.2.1 s.2.2.2) (f38_L4_env a0 a1) (f38_L4_hp a0 a1) (f38_L4_Q a0 a1) (fun s o h => f38_L4_bok h) h

noncomputable def S_fixpoint_derivations_j10 (m : Option Nat) (v17 : List G_QDerivation) : Option (List G_QDerivation) :=
  some v17

noncomputable def S_fixpoint_derivations_b3 (m : Option Nat) (a0 : List (List G_QRule)) (a1 : Int) (v17 : List G_QDerivation) (v18 : Bool) (v19 : List Bool) : Option (((List G_QDerivation) × Bool × (List Bool)) ⊕ (List G_QDerivation)) :=
  if v18 = true then
    S_fixpoint_derivations_l4 m a0 a1 v17 false 0 v19
  else
    Option.map Sum.inr (
      S_fixpoint_derivations_j10 m v17)

noncomputable def S_fixpoint_derivations_l3 (m : Option Nat) (a0 : List (List G_QRule)) (a1 : Int) (v17 : List G_QDerivation) (v18 : Bool) (v19 : List Bool) : Option (List G_QDerivation) := loopM m (fun (s : ((List G_QDerivation) × Bool × (List Bool))) => S_fixpoint_derivations_b3 m a0 a1 s.1 s.2.1 s.2.2) (v17, v18, v19)

theorem f38_j10_ok {a0 : List (List G_QRule)} {a1 : Int} {v17 : List G_QDerivation} {m : Option Nat} {o : (List G_QDerivation)} (h : S_fixpoint_derivations_j10 m v17 = some o) :
    LWp Try.prog f38_lay 0 f38_c1 (f38_Q a0 a1 o) [(7, .osl (0, 0) 3 (v17.map eD))] [((0, 0), .tok)] 1 := by
  unfold S_fixpoint_derivations_j10 at h
  refine seqI ?_
  refine regI ?_
  refine retI ?_
  cases h
  exact AI TT (AI rfl (Vw.oslI _ _ _))

theorem f38_L3_bok {a0 : List (List G_QRule)} {a1 : Int} {v17 : List G_QDerivation} {v18 : Bool} {v19 : List Bool} {m : Option Nat} {o : ((List G_QDerivation) × Bool × (List Bool)) ⊕ (List G_QDerivation)} (h : S_fixpoint_derivations_b3 m a0 a1 v17 v18 v19 = some o) :
    LWp Try.prog f38_lay 0 f38_c3 (BodyQ 0 4 (f38_L3_env a0 a1) (f38_L3_hp a0 a1) (f38_L3_Q a0 a1) o) [(0, .isl 1 (a0.map eB) false), (3, .ptr (0, 0) 0 0), (5, .ptr (1, 0) 0 0), (6, .fn (.func 47) [] [.ptr (0, 0) 0 0, .ptr (1, 0) 0 0]), (7, .osl (2, 0) 3 (v17.map eD)), (8, .bool v18)] [((0, 0), .one [.int .i64 a1]), ((1, 0), .one [.msl (3, 0) 1 0 v19.length true]), ((2, 0), .tok), ((3, 0), .rows 1 (v19.map e_bool))] 4 := by
  unfold S_fixpoint_derivations_b3 at h
  refine seqI ?_
  refine seqI ?_
  refine regI ?_
  refine condI (v := v18) rfl TT (fun h63 => ?_) (fun h63 => ?_)
  · have h := ite_tt h63 h
    refine skipI ?_
    refine blockI ?_
    refine seqI ?_
    refine regI ?_
    refine seqI ?_
    refine regI ?_
    refine blockI ?_
    refine LWp.sim ?_ (f38_L4_ok h)
    exact simI (M := [((0, 0), (0, 0)), ((1, 0), (1, 0)), ((2, 0), (2, 0)), ((3, 0), (3, 0))]) rfl (AI (VS rfl) (AI (Vw.ptr _ _ _ _ rfl) (AI (Vw.ptr _ _ _ _ rfl) (AI (Vw.fnL TT (AI (Vw.ptr _ _ _ _ rfl) (AI (Vw.ptr _ _ _ _ rfl) TT))) (AI (Vw.osl _ _ _ _ rfl) (AI (VS rfl) (AI (VS rfl) (AI (VS rfl) (AI (VS rfl) TT))))))))) (AI (AI rfl (BVw.oneL (AI (VS rfl) TT))) (AI (AI rfl (BVw.oneL (AI (Vw.mslE rfl (by first | rfl | (simp; done) | (simp at *; omega)) rfl) TT))) (AI (AI rfl BVw.tok) (AI (AI rfl (BVw.enc e_bool (fun _ => rfl) _ v19)) TT))))
  · have h := ite_ff h63 h
    refine exitI ?_
    obtain ⟨o, hq, rfl⟩ := Option.map_eq_some_iff.1 h
    replace h := hq; clear hq
    refine AI nofun ?_
    refine LWp.sim ?_ (f38_j10_ok h)
    exact simI (M := [((0, 0), (2, 0))]) rfl (AI (Vw.osl _ _ _ _ rfl) TT) (AI (AI rfl BVw.tok) TT)

theorem f38_L3_ok {a0 : List (List G_QRule)} {a1 : Int} {v17 : List G_QDerivation} {v18 : Bool} {v19 : List Bool} {m : Option Nat} {o : (List G_QDerivation)} (h : S_fixpoint_derivations_l3 m a0 a1 v17 v18 v19 = some o) :
    LWp Try.prog f38_lay 0 (.loop f38_c3) (QBlock 0 (QSeq Try.prog f38_lay 0 f38_c1 (f38_Q a0 a1 o))) [(0, .isl 1 (a0.map eB) false), (3, .ptr (0, 0) 0 0), (5, .ptr (1, 0) 0 0), (6, .fn (.func 47) [] [.ptr (0, 0) 0 0, .ptr (1, 0) 0 0]), (7, .osl (2, 0) 3 (v17.map eD)), (8, .bool v18)] [((0, 0), .one [.int .i64 a1]), ((1, 0), .one [.msl (3, 0) 1 0 v19.length true]), ((2, 0), .tok), ((3, 0), .rows 1 (v19.map e_bool))] 4 :=
  LWp_loopM (m := m) (s := ((v17, v18, v19) : ((List G_QDerivation) × Bool × (List Bool)))) (r := o) (fun (s : ((List G_QDerivation) × Bool × (List Bool))) => S_fixpoint_derivations_b3 m a0 a1 s.1 s.2.1 s.2.2) (f38_L3_env a0 a1) (f38_L3_hp a0 a1) (f38_L3_Q a0 a1) (fun s o h => f38_L3_bok h) h

noncomputable def S_fixpoint_derivations (m : Option Nat) (a0 : List (List G_QRule)) (a1 : Int) : Option (List G_QDerivation) :=
  if (0 : Int) ≤ ((a0.map eB).length : Int) ∧ ((a0.map eB).length : Int) ≤ ((a0.map eB).length : Int) ∧ ((a0.map eB).length : Int) * 1 ≤ 140737488355328 then
  S_fixpoint_derivations_l3 m a0 a1 [] true (List.replicate ((a0.map eB).length : Int).toNat false)
  else none

theorem f38_start {a0 : List (List G_QRule)} {a1 : Int} {m : Option Nat} {o : (List G_QDerivation)} (h : S_fixpoint_derivations m a0 a1 = some o) : LWp Try.prog f38_lay 0 f38_c4 (f38_Q a0 a1 o) (initEnv 0 [.isl 1 (a0.map eB) false, .int .i64 a1]) [] 0 := by
  unfold S_fixpoint_derivations at h
  refine seqI ?_
  refine regI ?_
  refine seqI ?_
  refine regI ?_
  obtain ⟨h1, h⟩ := ite_some h
  refine EX ((List.replicate ((a0.map eB).length : Int).toNat false).map e_bool) (EX true (AI (Or.inl (repl_enc e_bool ((a0.map eB).length : Int).toNat false)) (AI (by simp) (AI h1 ?_))))
  refine seqI ?_
  refine regI ?_
  refine LWp.sim (e := [(0, .isl 1 (a0.map eB) false), (3, .ptr (0, 0) 0 0), (5, .ptr (1, 0) 0 0), (6, .fn (.func 47) [] [.ptr (0, 0) 0 0, .ptr (1, 0) 0 0])]) (L := [((0, 0), .one [.int .i64 a1]), ((1, 0), .one [.msl (2, 0) 1 0 (((List.replicate ((a0.map eB).length : Int).toNat false).map e_bool).length) true]), ((2, 0), .rows 1 ((List.replicate ((a0.map eB).length : Int).toNat false).map e_bool))]) (n := 3) ?_ ?_
  · exact simI (M := [((0, 0), (0, 0)), ((1, 0), (2, 0)), ((2, 0), (1, 0))]) rfl (AI (VS rfl) (AI (Vw.ptr _ _ _ _ rfl) (AI (Vw.ptr _ _ _ _ rfl) (AI (Vw.fnL TT (AI (Vw.ptr _ _ _ _ rfl) (AI (Vw.ptr _ _ _ _ rfl) TT))) TT)))) (AI (AI rfl (BVw.oneL (AI (VS rfl) TT))) (AI (AI rfl (BVw.oneL (AI (Vw.mslE rfl (by first | rfl | (simp; done) | (simp at *; omega)) rfl) TT))) (AI (AI rfl (BVw.enc e_bool (fun _ => rfl) _ (List.replicate ((a0.map eB).length : Int).toNat false))) TT)))
  refine seqI ?_
  refine regI ?_
  refine seqI ?_
  refine seqI ?_
  refine regI ?_
  refine blockI ?_
  refine LWp.sim ?_ (f38_L3_ok h)
  exact simI (M := [((0, 0), (0, 0)), ((1, 0), (1, 0)), ((3, 0), (2, 0))]) rfl (AI (VS rfl) (AI (Vw.ptr _ _ _ _ rfl) (AI (Vw.ptr _ _ _ _ rfl) (AI (Vw.fnL TT (AI (Vw.ptr _ _ _ _ rfl) (AI (Vw.ptr _ _ _ _ rfl) TT))) (AI (Vw.nilO _ _ (by decide)) (AI (VS rfl) TT)))))) (AI (AI rfl (BVw.oneL (AI (VS rfl) TT))) (AI (AI rfl (BVw.oneL (AI (Vw.mslE rfl (by first | rfl | (simp; done) | (simp at *; omega)) rfl) TT))) (AI (AI rfl (AI (by decide) (by decide))) (AI (AI rfl (BVw.enc e_bool (fun _ => rfl) _ (List.replicate ((a0.map eB).length : Int).toNat false))) TT))))

theorem f38_ok {a0 : List (List G_QRule)} {a1 : Int} {m : Option Nat} {o : (List G_QDerivation)} (h : S_fixpoint_derivations m a0 a1 = some o) : PFn Try.prog 38 [.isl 1 (a0.map eB) false, .int .i64 a1] (.isl 3 (o.map eD) false) := PFn.ofFnW (L := f38_L) f38_low f38_fok (NB rfl) rfl (f38_start h)

def f40c0_c0 : LCode := (.seq (.region [⟨some 2, .box (.t 0), none⟩,
   ⟨some 3, .mv (.c (.bool false)), none⟩])
 (.seq (.region [⟨some 4, .faddr 0 (.t 2), none⟩,
   ⟨some 5, .load false 1 (.t 4), none⟩,
   ⟨some 6, .load false 1 (.t 1), none⟩,
   ⟨some 7, .bin .eql (.t 5) (.t 6), none⟩,
   ⟨some 3, .mv (.t 7), none⟩])
 .ret))
def f40c0_lay : Lay := ⟨8, [], false⟩
def f40c0_res : List LRes := [.t 3]
def f40c0_L : LFn := ⟨2, f40c0_lay, f40c0_c0, f40c0_res⟩
theorem f40c0_low : lowFn Try.prog [] 40 = some f40c0_L := by kernel_rfl
theorem f40c0_fok : FnOk Try.prog 40 := ⟨_, Try.func40, rfl, rfl⟩
noncomputable def S_fixpoint_Derive_1c (m : Option Nat) (a0 : Int) (a1 : G_QDerivation) : Option Bool :=
  some (a1.f_Set == a0)

def f40c0_Q (a0 : Int) (a1 : G_QDerivation) (o : Bool) : Exit → Env → AHeap → Nat → Prop := FinK f40c0_res (FinTo 3 4 (.bool o) [((1, 0), .one [.int .i64 a0])])

theorem f40c0_start {a0 : Int} {a1 : G_QDerivation} {m : Option Nat} {o : Bool} (h : S_fixpoint_Derive_1c m a0 a1 = some o) : LWp Try.prog f40c0_lay 3 f40c0_c0 (f40c0_Q a0 a1 o) (initEnv 0 [.agg [.int .i64 a1.f_Set, .int .i64 a1.f_Rule, .int .i64 a1.f_Element], .ptr (1, 0) 0 0]) [((1, 0), .one [.int .i64 a0])] 3 := by
  unfold S_fixpoint_Derive_1c at h
  refine seqI ?_
  refine regI ?_
  refine seqI ?_
  refine regI ?_
  refine retI ?_
  cases h
  exact AI TT (finI (n' := 4) [] [] rfl rfl (VS rfl) (AI (AI rfl (BVw.oneL (AI (VS rfl) TT))) TT))

theorem f40c0_ok {a0 : Int} {a1 : G_QDerivation} {m : Option Nat} {o : Bool} (h : S_fixpoint_Derive_1c m a0 a1 = some o) : ACalls Try.prog 40 [.agg [.int .i64 a1.f_Set, .int .i64 a1.f_Rule, .int .i64 a1.f_Element], .ptr (1, 0) 0 0] [((1, 0), .one [.int .i64 a0])] 3 (Gives 4 (.bool o) [((1, 0), .one [.int .i64 a0])]) := bfn_of (L := f40c0_L) f40c0_low f40c0_fok (NB rfl) (f40c0_start h)

def f39b0_c1 : LCode := (.seq (.region [⟨some 9, .bin .lss (.t 8) (.t 7), none⟩])
 (.seq (.cond (.t 9)
  .skip
  (.exit 0))
 (.seq (.block 1
  (.seq (.region [⟨some 10, .mv (.t 8), none⟩,
    ⟨some 5, .mv (.t 10), none⟩])
  (.seq (.region [⟨some 11, .mv (.t 1), none⟩,
    ⟨some 12, .mv (.t 0), none⟩,
    ⟨some 13, .mv (.t 5), none⟩,
    ⟨some 14, .iaddr 3 (.t 12) (.t 13), none⟩,
    ⟨some 15, .load true 3 (.t 14), none⟩,
    ⟨some 16, .callv (.t 11) [(.t 15)], none⟩])
  (.cond (.t 16)
   (.seq (.region [⟨some 17, .mv (.t 5), none⟩,
     ⟨some 4, .mv (.t 17), none⟩])
   .ret)
   .skip))))
 (.region [⟨some 18, .bin .add (.t 8) (.c (.int .i64 1)), none⟩,
   ⟨some 8, .mv (.t 18), none⟩]))))
def f39b0_c0 : LCode := (.seq (.region [⟨some 4, .mv (.c (.int .i64 (-1))), none⟩])
 .ret)
def f39b0_c2 : LCode := (.seq (.region [⟨some 4, .mv (.c (.int .i64 0)), none⟩])
 (.seq (.seq (.region [⟨some 6, .mv (.t 0), none⟩,
   ⟨some 7, .len false (.t 6), none⟩,
   ⟨some 8, .mv (.c (.int .i64 0)), none⟩])
 (.block 0
  (.loop
   f39b0_c1)))
 f39b0_c0))
def f39b0_lay : Lay := ⟨19, [], false⟩
def f39b0_res : List LRes := [.t 4]
def f39b0_L : LFn := ⟨2, f39b0_lay, f39b0_c2, f39b0_res⟩
theorem f39b0_low : lowFn Try.prog [] 39 = some f39b0_L := by kernel_rfl
theorem f39b0_fok : FnOk Try.prog 39 := ⟨_, Try.func39, rfl, rfl⟩
def f39b0_Q {σ : Type} (Hc : σ → AHeap) (fi0 : Fn) (ff0 fc0 : List AVal) (a0 : List G_QDerivation) (z0 : σ) (o : Int × σ) : Exit → Env → AHeap → Nat → Prop := FinK f39b0_res (FinTo 3 4 (.int .i64 o.1) ([] ++ up 3 (Hc o.2)))

def f39b0_L1_env {σ : Type} (Hc : σ → AHeap) (fi0 : Fn) (ff0 fc0 : List AVal) (a0 : List G_QDerivation) (s : (Int × σ)) : Env := [(0, .isl 3 (a0.map eD) false), (1, .fn fi0 ff0 fc0), (7, .int .i64 ((a0.map eD).length : Int)), (8, .int .i64 s.1)]
def f39b0_L1_hp {σ : Type} (Hc : σ → AHeap) (fi0 : Fn) (ff0 fc0 : List AVal) (a0 : List G_QDerivation) (s : (Int × σ)) : AHeap := ([] ++ up 3 (Hc s.2))
def f39b0_L1_Q {σ : Type} (Hc : σ → AHeap) (fi0 : Fn) (ff0 fc0 : List AVal) (a0 : List G_QDerivation) (z0 : σ) (o : (Int × σ)) : Exit → Env → AHeap → Nat → Prop := (QBlock 0 (QSeq Try.prog f39b0_lay 3 f39b0_c0 (f39b0_Q Hc fi0 ff0 fc0 a0 z0 o)))

noncomputable def S_slices_IndexFunc_api_QDerivation_j1 {σ : Type} (g0 : σ → G_QDerivation → Option (Bool × σ)) (m : Option Nat) (v3 : σ) : Option (Int × σ) :=
  some ((-1), v3)

noncomputable def S_slices_IndexFunc_api_QDerivation_b1 {σ : Type} (g0 : σ → G_QDerivation → Option (Bool × σ)) (m : Option Nat) (a0 : List G_QDerivation) (v2 : Int) (v3 : σ) : Option ((Int × σ) ⊕ (Int × σ)) :=
  if (decide (v2 < ((a0.map eD).length : Int))) = true then
    if (0 : Int) ≤ v2 ∧ v2 < ((a0.map eD).length : Int) then
    (g0 v3 (G_QDerivation.mk ((a0.getD v2.toNat default).f_Set) ((a0.getD v2.toNat default).f_Rule) ((a0.getD v2.toNat default).f_Element))).bind fun v5 =>
    if v5.1 = true then
      Option.map Sum.inr (
        some (v2, v5.2))
    else
      some (.inl ((W (v2 + 1)), v5.2))
    else none
  else
    Option.map Sum.inr (
      S_slices_IndexFunc_api_QDerivation_j1 g0 m v3)

noncomputable def S_slices_IndexFunc_api_QDerivation_l1 {σ : Type} (g0 : σ → G_QDerivation → Option (Bool × σ)) (m : Option Nat) (a0 : List G_QDerivation) (v2 : Int) (v3 : σ) : Option (Int × σ) := loopM m (fun (s : (Int × σ)) => S_slices_IndexFunc_api_QDerivation_b1 g0 m a0 s.1 s.2) (v2, v3)

theorem f39b0_j1_ok {σ : Type} {Hc : σ → AHeap} {fi0 : Fn} {ff0 fc0 : List AVal} {g0 : σ → G_QDerivation → Option (Bool × σ)} (hg0 : Clo Try.prog fi0 ff0 fc0 Hc (fun (x : G_QDerivation) => [.agg [.int .i64 x.f_Set, .int .i64 x.f_Rule, .int .i64 x.f_Element]]) (fun (b : Bool) => .bool b) g0) {a0 : List G_QDerivation} {z0 : σ} {v3 : σ} {m : Option Nat} {o : (Int × σ)} (h : S_slices_IndexFunc_api_QDerivation_j1 g0 m v3 = some o) :
    LWp Try.prog f39b0_lay 3 f39b0_c0 (f39b0_Q Hc fi0 ff0 fc0 a0 z0 o) [] ([] ++ up 3 (Hc v3)) 4 := by
  unfold S_slices_IndexFunc_api_QDerivation_j1 at h
  refine seqI ?_
  refine regI ?_
  refine retI ?_
  cases h
  exact AI TT (finT (n' := 4) (q := 3) (lit' := []) (hg0.tl _) [] [] rfl rfl (VS rfl) TT)

theorem f39b0_L1_bok {σ : Type} {Hc : σ → AHeap} {fi0 : Fn} {ff0 fc0 : List AVal} {g0 : σ → G_QDerivation → Option (Bool × σ)} (hg0 : Clo Try.prog fi0 ff0 fc0 Hc (fun (x : G_QDerivation) => [.agg [.int .i64 x.f_Set, .int .i64 x.f_Rule, .int .i64 x.f_Element]]) (fun (b : Bool) => .bool b) g0) {z0 : σ} {a0 : List G_QDerivation} {v2 : Int} {v3 : σ} {m : Option Nat} {o : (Int × σ) ⊕ (Int × σ)} (h : S_slices_IndexFunc_api_QDerivation_b1 g0 m a0 v2 v3 = some o) :
    LWp Try.prog f39b0_lay 3 f39b0_c1 (BodyQ 3 4 (f39b0_L1_env Hc fi0 ff0 fc0 a0) (f39b0_L1_hp Hc fi0 ff0 fc0 a0) (f39b0_L1_Q Hc fi0 ff0 fc0 a0 z0) o) [(0, .isl 3 (a0.map eD) false), (1, .fn fi0 ff0 fc0), (7, .int .i64 ((a0.map eD).length : Int)), (8, .int .i64 v2)] ([] ++ up 3 (Hc v3)) 4 := by
  unfold S_slices_IndexFunc_api_QDerivation_b1 at h
  refine seqI ?_
  refine regI ?_
  refine seqI ?_
  refine condI (v := (decide (v2 < ((a0.map eD).length : Int)))) rfl TT (fun h9 => ?_) (fun h9 => ?_)
  · have h := ite_tt h9 h
    refine skipI ?_
    refine seqI ?_
    refine blockI ?_
    refine seqI ?_
    refine regI ?_
    refine seqI ?_
    refine regI ?_
    obtain ⟨h10, h⟩ := ite_some h
    refine AI h10 ?_
    refine EX (eD (a0.getD v2.toNat default)) (AI (getD_enc eD _ _ (idx_ltL eD h10)) (AI (AI (idx_lt h10) (NB rfl)) ?_))
    obtain ⟨v5, h11, h⟩ := bind_some h
    refine Clo.use (q := 3) (lit := []) hg0 h11 rfl rfl (AI (VS rfl) TT) ?_
    refine LWp.sim (e := [(0, .isl 3 (a0.map eD) false), (1, .fn fi0 ff0 fc0), (5, .int .i64 v2), (7, .int .i64 ((a0.map eD).length : Int)), (8, .int .i64 v2), (16, .bool v5.1)]) (L := ([] ++ up 3 (Hc v5.2))) (n := 4) ?_ ?_
    · exact simT (M := []) (lit' := []) (hg0.tl _) rfl (AI (VS rfl) (AI (Vw.clo hg0.hf hg0.hc (by decide) (rhoT_1 (chkT_ok (n := 4) (q := 4) (lit' := []) rfl))) (AI (VS rfl) (AI (VS rfl) (AI (VS rfl) (AI (VS rfl) TT)))))) TT
    refine condI (v := v5.1) rfl TT (fun h12 => ?_) (fun h12 => ?_)
    · have h := ite_tt h12 h
      refine seqI ?_
      refine regI ?_
      refine retI ?_
      obtain ⟨o, hq, rfl⟩ := Option.map_eq_some_iff.1 h
      replace h := hq; clear hq
      refine AI nofun ?_
      cases h
      exact AI TT (finT (n' := 4) (q := 3) (lit' := []) (hg0.tl _) [] [] rfl rfl (VS rfl) TT)
    · have h := ite_ff h12 h
      refine skipI ?_
      refine regI ?_
      cases h
      exact AI rfl (simT (M := []) (lit' := []) (hg0.tl _) rfl (AI (VS rfl) (AI (Vw.clo hg0.hf hg0.hc (by decide) (rhoT_1 (chkT_ok (n := 4) (q := 3) (lit' := []) rfl))) (AI (VS rfl) (AI (VS rfl) TT)))) TT)
  · have h := ite_ff h9 h
    refine exitI ?_
    obtain ⟨o, hq, rfl⟩ := Option.map_eq_some_iff.1 h
    replace h := hq; clear hq
    refine AI nofun ?_
    refine LWp.sim ?_ (f39b0_j1_ok hg0 h)
    exact simT (M := []) (lit' := []) (hg0.tl _) rfl TT TT

theorem f39b0_L1_ok {σ : Type} {Hc : σ → AHeap} {fi0 : Fn} {ff0 fc0 : List AVal} {g0 : σ → G_QDerivation → Option (Bool × σ)} (hg0 : Clo Try.prog fi0 ff0 fc0 Hc (fun (x : G_QDerivation) => [.agg [.int .i64 x.f_Set, .int .i64 x.f_Rule, .int .i64 x.f_Element]]) (fun (b : Bool) => .bool b) g0) {z0 : σ} {a0 : List G_QDerivation} {v2 : Int} {v3 : σ} {m : Option Nat} {o : (Int × σ)} (h : S_slices_IndexFunc_api_QDerivation_l1 g0 m a0 v2 v3 = some o) :
    LWp Try.prog f39b0_lay 3 (.loop f39b0_c1) (QBlock 0 (QSeq Try.prog f39b0_lay 3 f39b0_c0 (f39b0_Q Hc fi0 ff0 fc0 a0 z0 o))) [(0, .isl 3 (a0.map eD) false), (1, .fn fi0 ff0 fc0), (7, .int .i64 ((a0.map eD).length : Int)), (8, .int .i64 v2)] ([] ++ up 3 (Hc v3)) 4 :=
  LWp_loopM (m := m) (s := ((v2, v3) : (Int × σ))) (r := o) (fun (s : (Int × σ)) => S_slices_IndexFunc_api_QDerivation_b1 g0 m a0 s.1 s.2) (f39b0_L1_env Hc fi0 ff0 fc0 a0) (f39b0_L1_hp Hc fi0 ff0 fc0 a0) (f39b0_L1_Q Hc fi0 ff0 fc0 a0 z0) (fun s o h => f39b0_L1_bok hg0 h) h

noncomputable def S_slices_IndexFunc_api_QDerivation {σ : Type} (g0 : σ → G_QDerivation → Option (Bool × σ)) (m : Option Nat) (a0 : List G_QDerivation) (z0 : σ) : Option (Int × σ) :=
  S_slices_IndexFunc_api_QDerivation_l1 g0 m a0 0 z0

theorem f39b0_start {σ : Type} {Hc : σ → AHeap} {fi0 : Fn} {ff0 fc0 : List AVal} {g0 : σ → G_QDerivation → Option (Bool × σ)} (hg0 : Clo Try.prog fi0 ff0 fc0 Hc (fun (x : G_QDerivation) => [.agg [.int .i64 x.f_Set, .int .i64 x.f_Rule, .int .i64 x.f_Element]]) (fun (b : Bool) => .bool b) g0) {a0 : List G_QDerivation} {z0 : σ} {m : Option Nat} {o : Int × σ} (h : S_slices_IndexFunc_api_QDerivation g0 m a0 z0 = some o) : LWp Try.prog f39b0_lay 3 f39b0_c2 (f39b0_Q Hc fi0 ff0 fc0 a0 z0 o) (initEnv 0 [.isl 3 (a0.map eD) false, .fn fi0 ff0 fc0]) ([] ++ Hc z0) 3 := by
  unfold S_slices_IndexFunc_api_QDerivation at h
  refine LWp.sim (e := [(0, .isl 3 (a0.map eD) false), (1, .fn fi0 ff0 fc0)]) (L := ([] ++ up 3 (Hc z0))) (n := 4) (entryT (T := Hc z0) (e' := initEnv 0 [.isl 3 (a0.map eD) false, .fn fi0 ff0 fc0]) (e := [(0, .isl 3 (a0.map eD) false), (1, .fn fi0 ff0 fc0)]) (lit' := []) (lit := []) (hg0.tl z0) rfl rfl (AI (VS rfl) (AI (Vw.clo hg0.hf hg0.hc (by decide) (rhoE_1 _)) TT)) TT) ?_
  refine seqI ?_
  refine regI ?_
  refine seqI ?_
  refine seqI ?_
  refine regI ?_
  refine blockI ?_
  refine LWp.sim ?_ (f39b0_L1_ok hg0 h)
  exact simT (M := []) (lit' := []) (hg0.tl _) rfl (AI (VS rfl) (AI (Vw.clo hg0.hf hg0.hc (by decide) (rhoT_1 (chkT_ok (n := 4) (q := 3) (lit' := []) rfl))) (AI (VS rfl) (AI (VS rfl) TT)))) TT

theorem f39b0_ok {σ : Type} {Hc : σ → AHeap} {fi0 : Fn} {ff0 fc0 : List AVal} {g0 : σ → G_QDerivation → Option (Bool × σ)} (hg0 : Clo Try.prog fi0 ff0 fc0 Hc (fun (x : G_QDerivation) => [.agg [.int .i64 x.f_Set, .int .i64 x.f_Rule, .int .i64 x.f_Element]]) (fun (b : Bool) => .bool b) g0) {a0 : List G_QDerivation} {z0 : σ} {m : Option Nat} {o : Int × σ} (h : S_slices_IndexFunc_api_QDerivation g0 m a0 z0 = some o) : ACalls Try.prog 39 [.isl 3 (a0.map eD) false, .fn fi0 ff0 fc0] ([] ++ Hc z0) 3 (Gives 4 (.int .i64 o.1) ([] ++ up 3 (Hc o.2))) := bfn_of (L := f39b0_L) f39b0_low f39b0_fok (NB rfl) (f39b0_start hg0 h)

def f41b0_c0 : LCode := (.seq (.region [⟨some 1, .box (.t 0), none⟩,
   ⟨some 2, .mv (.c (.val .nilFunc)), none⟩])
 (.seq (.region [⟨some 3, .mkfn (.func 49) [] [(.t 1)], none⟩,
   ⟨some 2, .mv (.t 3), none⟩])
 .ret))
def f41b0_lay : Lay := ⟨4, [], false⟩
def f41b0_res : List LRes := [.t 2]
def f41b0_L : LFn := ⟨1, f41b0_lay, f41b0_c0, f41b0_res⟩
theorem f41b0_low : lowFn Try.prog [] 41 = some f41b0_L := by kernel_rfl
theorem f41b0_fok : FnOk Try.prog 41 := ⟨_, Try.func41, rfl, rfl⟩
noncomputable def S_slices_Backward_api_QDerivation (m : Option Nat) (a0 : List G_QDerivation) : Option Unit :=
  some ()

def f41b0_Q (a0 : List G_QDerivation) (o : Unit) : Exit → Env → AHeap → Nat → Prop := FinK f41b0_res (FinTo 3 4 (.fn (.func 49) [] [.ptr (3, 0) 0 0]) [((3, 0), .one [.isl 3 (a0.map eD) false])])

theorem f41b0_start {a0 : List G_QDerivation} {m : Option Nat} {o : Unit} (h : S_slices_Backward_api_QDerivation m a0 = some o) : LWp Try.prog f41b0_lay 3 f41b0_c0 (f41b0_Q a0 o) (initEnv 0 [.isl 3 (a0.map eD) false]) [] 3 := by
  unfold S_slices_Backward_api_QDerivation at h
  refine seqI ?_
  refine regI ?_
  refine seqI ?_
  refine regI ?_
  refine retI ?_
  cases h
  exact AI TT (finI (n' := 4) [((3, 0), (3, 0))] [] rfl rfl (Vw.fnL TT (AI (Vw.ptr _ _ _ _ rfl) TT)) (AI (AI rfl (BVw.oneL (AI (VS rfl) TT))) TT))

theorem f41b0_ok {a0 : List G_QDerivation} {m : Option Nat} {o : Unit} (h : S_slices_Backward_api_QDerivation m a0 = some o) : ACalls Try.prog 41 [.isl 3 (a0.map eD) false] [] 3 (Gives 4 (.fn (.func 49) [] [.ptr (3, 0) 0 0]) [((3, 0), .one [.isl 3 (a0.map eD) false])]) := bfn_of (L := f41b0_L) f41b0_low f41b0_fok (NB rfl) (f41b0_start h)

def f1000000c0_c1 : LCode := (.region [⟨some 14, .alloc [(.int .i64 0), (.int .i64 0), (.int .i64 0)], none⟩,
   ⟨none, .store 3 (.t 14) (.t 58), none⟩])
def f1000000c0_c0 : LCode := (.seq (.region [⟨some 81, .bin .lss (.t 80) (.t 79), none⟩])
 (.seq (.cond (.t 81)
  .skip
  (.exit 2))
 (.seq (.block 3
  (.seq (.region [⟨some 82, .iaddr 1 (.t 78) (.t 80), none⟩,
    ⟨some 83, .load false 1 (.t 82), none⟩,
    ⟨some 16, .mv (.t 83), none⟩])
  (.region [⟨some 84, .load false 1 (.t 11), none⟩,
    ⟨some 85, .mv (.t 16), none⟩,
    ⟨some 86, .iaddr 1 (.t 84) (.t 85), none⟩,
    ⟨none, .store 1 (.t 86) (.c (.bool true)), none⟩])))
 (.region [⟨some 87, .bin .add (.t 80) (.c (.int .i64 1)), none⟩,
   ⟨some 80, .mv (.t 87), none⟩]))))
def f1000000c0_c2 : LCode := (.block 1
  (.seq (.seq (.region [⟨some 59, .load false 1 (.t 11), none⟩,
    ⟨some 60, .faddr 0 (.t 14), none⟩,
    ⟨some 61, .load false 1 (.t 60), none⟩,
    ⟨some 62, .iaddr 1 (.t 59) (.t 61), none⟩,
    ⟨some 63, .load false 1 (.t 62), none⟩,
    ⟨some 64, .un .not (.t 63), none⟩])
  (.cond (.t 64)
   (.exit 1)
   .skip))
  (.seq (.region [⟨some 65, .load false 1 (.t 12), none⟩,
    ⟨some 66, .load true 3 (.t 14), none⟩,
    ⟨some 67, .mkSl true 3 [(.int .i64 0), (.int .i64 0), (.int .i64 0)] 1 [(0, (.t 66))], none⟩,
    ⟨some 68, .app false 3 24 (.t 65) (.t 67), none⟩,
    ⟨none, .store 1 (.t 12) (.t 68), none⟩])
  (.seq (.draw [⟨⟨some 69, .load false 1 (.t 3), none⟩, []⟩,
    ⟨⟨some 70, .faddr 0 (.t 14), none⟩, []⟩,
    ⟨⟨some 71, .load false 1 (.t 70), none⟩, []⟩,
    ⟨⟨some 72, .iaddr 1 (.t 69) (.t 71), none⟩, []⟩,
    ⟨⟨some 73, .load false 1 (.t 72), none⟩, []⟩,
    ⟨⟨some 74, .faddr 1 (.t 14), none⟩, []⟩,
    ⟨⟨some 75, .load false 1 (.t 74), none⟩, []⟩,
    ⟨⟨some 76, .iaddr 2 (.t 73) (.t 75), none⟩, []⟩,
    ⟨⟨some 77, .faddr 1 (.t 76), none⟩, []⟩,
    ⟨⟨some 78, .load false 1 (.t 77), none⟩, []⟩,
    ⟨⟨some 79, .len false (.t 78), none⟩, []⟩,
    ⟨⟨some 80, .mv (.c (.int .i64 0)), none⟩, []⟩])
  (.block 2
   (.loop
    f1000000c0_c0))))))
def f1000000c0_lay : Lay := ⟨91, [48, 68], true⟩
def f1000000c0_lay0 : Lay := ⟨91, [48, 68], false⟩
def f1000000c0_Q (l : Nat) (r : Loop) (a0 : List (List G_QRule)) (a1 : List Bool) (a2 : List G_QDerivation) (a3 : Int) (a4 : G_QDerivation) (o : Bool × (List Bool) × (List G_QDerivation)) : Exit → Env → AHeap → Nat → Prop := QRnd (1, 3) l r (FinTo 3 4 (.bool o.1) [((1, 0), .one [.isl 1 (a0.map eB) false]), ((1, 1), .one [.msl (3, 0) 1 0 o.2.1.length true]), ((1, 2), .one [.msl (3, 1) 3 0 o.2.2.length false]), ((1, 3), .lrec l r [(3, .ptr (1, 0) 0 0), (11, .ptr (1, 1) 0 0), (12, .ptr (1, 2) 0 0)]), ((3, 0), .rows 1 (o.2.1.map e_bool)), ((3, 1), .rows 3 (o.2.2.map eD))])

def f1000000c0_L1_env (l : Nat) (r : Loop) (a0 : List (List G_QRule)) (a2 : List G_QDerivation) (a4 : G_QDerivation) (s : (Int × (List Bool))) : Env := [(11, .ptr (1, 1) 0 0), (78, .isl 1 ((((a0.getD a4.f_Set.toNat default).getD a4.f_Rule.toNat default).f_All).map e_i64) false), (79, .int .i64 (((((a0.getD a4.f_Set.toNat default).getD a4.f_Rule.toNat default).f_All).map e_i64).length : Int)), (80, .int .i64 s.1)]
def f1000000c0_L1_hp (l : Nat) (r : Loop) (a0 : List (List G_QRule)) (a2 : List G_QDerivation) (a4 : G_QDerivation) (s : (Int × (List Bool))) : AHeap := [((1, 0), .one [.isl 1 (a0.map eB) false]), ((1, 1), .one [.msl (3, 0) 1 0 s.2.length true]), ((1, 2), .one [.msl (4, 0) 3 0 ((a2 ++ ([a4] : List G_QDerivation)).length) false]), ((1, 3), .lrec l (busy r) [(3, .ptr (1, 0) 0 0), (11, .ptr (1, 1) 0 0), (12, .ptr (1, 2) 0 0)]), ((3, 0), .rows 1 (s.2.map e_bool)), ((4, 0), .rows 3 ((a2 ++ ([a4] : List G_QDerivation)).map eD))]
def f1000000c0_L1_Q (l : Nat) (r : Loop) (a0 : List (List G_QRule)) (a1 : List Bool) (a2 : List G_QDerivation) (a3 : Int) (a4 : G_QDerivation) (o : (Bool × (List Bool) × (List G_QDerivation))) : Exit → Env → AHeap → Nat → Prop := (QBlock 2 (QBlock 1 (f1000000c0_Q l r a0 a1 a2 a3 a4 o)))

noncomputable def S_fixpoint_Derive_roundc_b1 (m : Option Nat) (a0 : List (List G_QRule)) (a2 : List G_QDerivation) (a4 : G_QDerivation) (v1 : Int) (v2 : List Bool) : Option ((Int × (List Bool)) ⊕ (Bool × (List Bool) × (List G_QDerivation))) :=
  if (decide (v1 < (((((a0.getD a4.f_Set.toNat default).getD a4.f_Rule.toNat default).f_All).map e_i64).length : Int))) = true then
    if (0 : Int) ≤ v1 ∧ v1 < (((((a0.getD a4.f_Set.toNat default).getD a4.f_Rule.toNat default).f_All).map e_i64).length : Int) then
    if (0 : Int) ≤ ((((a0.getD a4.f_Set.toNat default).getD a4.f_Rule.toNat default).f_All).getD v1.toNat default) ∧ ((((a0.getD a4.f_Set.toNat default).getD a4.f_Rule.toNat default).f_All).getD v1.toNat default) < ((v2.length : Nat) : Int) then
    if (0 + ((((a0.getD a4.f_Set.toNat default).getD a4.f_Rule.toNat default).f_All).getD v1.toNat default).toNat) < v2.length then
    some (.inl ((W (v1 + 1)), (v2.set (0 + ((((a0.getD a4.f_Set.toNat default).getD a4.f_Rule.toNat default).f_All).getD v1.toNat default).toNat) true)))
    else none
    else none
    else none
  else
    Option.map Sum.inr (
      some (true, v2, (a2 ++ ([a4] : List G_QDerivation))))

noncomputable def S_fixpoint_Derive_roundc_l1 (m : Option Nat) (a0 : List (List G_QRule)) (a2 : List G_QDerivation) (a4 : G_QDerivation) (v1 : Int) (v2 : List Bool) : Option (Bool × (List Bool) × (List G_QDerivation)) := loopM m (fun (s : (Int × (List Bool))) => S_fixpoint_Derive_roundc_b1 m a0 a2 a4 s.1 s.2) (v1, v2)

theorem f1000000c0_L1_bok {l : Nat} {r : Loop} {a1 : List Bool} {a3 : Int} {a0 : List (List G_QRule)} {a2 : List G_QDerivation} {a4 : G_QDerivation} {v1 : Int} {v2 : List Bool} {m : Option Nat} {o : (Int × (List Bool)) ⊕ (Bool × (List Bool) × (List G_QDerivation))} (h : S_fixpoint_Derive_roundc_b1 m a0 a2 a4 v1 v2 = some o) :
    LWp Try.prog f1000000c0_lay 3 f1000000c0_c0 (BodyQ 3 5 (f1000000c0_L1_env l r a0 a2 a4) (f1000000c0_L1_hp l r a0 a2 a4) (f1000000c0_L1_Q l r a0 a1 a2 a3 a4) o) [(11, .ptr (1, 1) 0 0), (78, .isl 1 ((((a0.getD a4.f_Set.toNat default).getD a4.f_Rule.toNat default).f_All).map e_i64) false), (79, .int .i64 (((((a0.getD a4.f_Set.toNat default).getD a4.f_Rule.toNat default).f_All).map e_i64).length : Int)), (80, .int .i64 v1)] [((1, 0), .one [.isl 1 (a0.map eB) false]), ((1, 1), .one [.msl (3, 0) 1 0 v2.length true]), ((1, 2), .one [.msl (4, 0) 3 0 ((a2 ++ ([a4] : List G_QDerivation)).length) false]), ((1, 3), .lrec l (busy r) [(3, .ptr (1, 0) 0 0), (11, .ptr (1, 1) 0 0), (12, .ptr (1, 2) 0 0)]), ((3, 0), .rows 1 (v2.map e_bool)), ((4, 0), .rows 3 ((a2 ++ ([a4] : List G_QDerivation)).map eD))] 5 := by
  unfold S_fixpoint_Derive_roundc_b1 at h
  refine seqI ?_
  refine regI ?_
  refine seqI ?_
  refine condI (v := (decide (v1 < (((((a0.getD a4.f_Set.toNat default).getD a4.f_Rule.toNat default).f_All).map e_i64).length : Int)))) rfl TT (fun h15 => ?_) (fun h15 => ?_)
  · have h := ite_tt h15 h
    refine skipI ?_
    refine seqI ?_
    refine blockI ?_
    refine seqI ?_
    refine regI ?_
    obtain ⟨h16, h⟩ := ite_some h
    refine AI h16 ?_
    refine EX (e_i64 ((((a0.getD a4.f_Set.toNat default).getD a4.f_Rule.toNat default).f_All).getD v1.toNat default)) (AI (getD_enc e_i64 _ _ (idx_ltL e_i64 h16)) (AI (AI (idx_lt h16) (NB rfl)) ?_))
    refine regI ?_
    obtain ⟨h17, h⟩ := ite_some h
    refine AI h17 ?_
    obtain ⟨h18, h⟩ := ite_some h
    refine EX ((v2.set (0 + ((((a0.getD a4.f_Set.toNat default).getD a4.f_Rule.toNat default).f_All).getD v1.toNat default).toNat) true).map e_bool) (AI (set_enc e_bool _ _ _ _ _ h18 rfl) (AI (AI rfl (AI (lt_map e_bool h18) (NB rfl))) ?_))
    refine LWp.sim (e := [(11, .ptr (1, 1) 0 0), (78, .isl 1 ((((a0.getD a4.f_Set.toNat default).getD a4.f_Rule.toNat default).f_All).map e_i64) false), (79, .int .i64 (((((a0.getD a4.f_Set.toNat default).getD a4.f_Rule.toNat default).f_All).map e_i64).length : Int)), (80, .int .i64 v1)]) (L := [((1, 0), .one [.isl 1 (a0.map eB) false]), ((1, 1), .one [.msl (3, 0) 1 0 v2.length true]), ((1, 2), .one [.msl (4, 0) 3 0 ((a2 ++ ([a4] : List G_QDerivation)).length) false]), ((1, 3), .lrec l (busy r) [(3, .ptr (1, 0) 0 0), (11, .ptr (1, 1) 0 0), (12, .ptr (1, 2) 0 0)]), ((3, 0), .rows 1 ((v2.set (0 + ((((a0.getD a4.f_Set.toNat default).getD a4.f_Rule.toNat default).f_All).getD v1.toNat default).toNat) true).map e_bool)), ((4, 0), .rows 3 ((a2 ++ ([a4] : List G_QDerivation)).map eD))]) (n := 5) ?_ ?_
    · exact simI (M := [((3, 0), (3, 0)), ((4, 0), (4, 0))]) rfl (AI (Vw.ptr _ _ _ _ rfl) (AI (VS rfl) (AI (VS rfl) (AI (VS rfl) TT)))) (AI (AI rfl (BVw.oneL (AI (VS rfl) TT))) (AI (AI rfl (BVw.oneL (AI (Vw.mslE rfl (by first | rfl | (simp; done) | (simp at *; omega)) rfl) TT))) (AI (AI rfl (BVw.oneL (AI (Vw.mslE rfl (by first | rfl | (simp; done) | (simp at *; omega)) rfl) TT))) (AI (AI rfl (BVw.lrecL (AI (AI rfl (Vw.ptr _ _ _ _ rfl)) (AI (AI rfl (Vw.ptr _ _ _ _ rfl)) (AI (AI rfl (Vw.ptr _ _ _ _ rfl)) TT))))) (AI (AI rfl (BVw.enc e_bool (fun _ => rfl) _ (v2.set (0 + ((((a0.getD a4.f_Set.toNat default).getD a4.f_Rule.toNat default).f_All).getD v1.toNat default).toNat) true))) (AI (AI rfl (BVw.enc eD (fun _ => rfl) _ (a2 ++ ([a4] : List G_QDerivation)))) TT))))))
    refine regI ?_
    cases h
    exact AI rfl (simI (M := [((3, 0), (3, 0)), ((4, 0), (4, 0))]) rfl (AI (Vw.ptr _ _ _ _ rfl) (AI (VS rfl) (AI (VS rfl) (AI (VS rfl) TT)))) (AI (AI rfl (BVw.oneL (AI (VS rfl) TT))) (AI (AI rfl (BVw.oneL (AI (Vw.mslE rfl (by first | rfl | (simp; done) | (simp at *; omega)) rfl) TT))) (AI (AI rfl (BVw.oneL (AI (Vw.mslE rfl (by first | rfl | (simp; done) | (simp at *; omega)) rfl) TT))) (AI (AI rfl (BVw.lrecL (AI (AI rfl (Vw.ptr _ _ _ _ rfl)) (AI (AI rfl (Vw.ptr _ _ _ _ rfl)) (AI (AI rfl (Vw.ptr _ _ _ _ rfl)) TT))))) (AI (AI rfl (BVw.enc e_bool (fun _ => rfl) _ (v2.set (0 + ((((a0.getD a4.f_Set.toNat default).getD a4.f_Rule.toNat default).f_All).getD v1.toNat default).toNat) true))) (AI (AI rfl (BVw.enc eD (fun _ => rfl) _ (a2 ++ ([a4] : List G_QDerivation)))) TT)))))))
  · have h := ite_ff h15 h
    refine exitI ?_
    obtain ⟨o, hq, rfl⟩ := Option.map_eq_some_iff.1 h
    replace h := hq; clear hq
    refine AI nofun ?_
    cases h
    exact AI rfl (EX _ (AI rfl (finI (n' := 5) [((3, 0), (3, 0)), ((3, 1), (4, 0))] [] rfl rfl (VS rfl) (AI (AI rfl (BVw.oneL (AI (VS rfl) TT))) (AI (AI rfl (BVw.oneL (AI (Vw.mslE rfl (by first | rfl | (simp; done) | (simp at *; omega)) rfl) TT))) (AI (AI rfl (BVw.oneL (AI (Vw.mslE rfl (by first | rfl | (simp; done) | (simp at *; omega)) rfl) TT))) (AI (AI rfl (BVw.lrecL (AI (AI rfl (Vw.ptr _ _ _ _ rfl)) (AI (AI rfl (Vw.ptr _ _ _ _ rfl)) (AI (AI rfl (Vw.ptr _ _ _ _ rfl)) TT))))) (AI (AI rfl (BVw.enc e_bool (fun _ => rfl) _ v2)) (AI (AI rfl (BVw.enc eD (fun _ => rfl) _ (a2 ++ ([a4] : List G_QDerivation)))) TT)))))))))

theorem f1000000c0_L1_ok {l : Nat} {r : Loop} {a1 : List Bool} {a3 : Int} {a0 : List (List G_QRule)} {a2 : List G_QDerivation} {a4 : G_QDerivation} {v1 : Int} {v2 : List Bool} {m : Option Nat} {o : (Bool × (List Bool) × (List G_QDerivation))} (h : S_fixpoint_Derive_roundc_l1 m a0 a2 a4 v1 v2 = some o) :
    LWp Try.prog f1000000c0_lay 3 (.loop f1000000c0_c0) (QBlock 2 (QBlock 1 (f1000000c0_Q l r a0 a1 a2 a3 a4 o))) [(11, .ptr (1, 1) 0 0), (78, .isl 1 ((((a0.getD a4.f_Set.toNat default).getD a4.f_Rule.toNat default).f_All).map e_i64) false), (79, .int .i64 (((((a0.getD a4.f_Set.toNat default).getD a4.f_Rule.toNat default).f_All).map e_i64).length : Int)), (80, .int .i64 v1)] [((1, 0), .one [.isl 1 (a0.map eB) false]), ((1, 1), .one [.msl (3, 0) 1 0 v2.length true]), ((1, 2), .one [.msl (4, 0) 3 0 ((a2 ++ ([a4] : List G_QDerivation)).length) false]), ((1, 3), .lrec l (busy r) [(3, .ptr (1, 0) 0 0), (11, .ptr (1, 1) 0 0), (12, .ptr (1, 2) 0 0)]), ((3, 0), .rows 1 (v2.map e_bool)), ((4, 0), .rows 3 ((a2 ++ ([a4] : List G_QDerivation)).map eD))] 5 :=
  LWp_loopM (m := m) (s := ((v1, v2) : (Int × (List Bool)))) (r := o) (fun (s : (Int × (List Bool))) => S_fixpoint_Derive_roundc_b1 m a0 a2 a4 s.1 s.2) (f1000000c0_L1_env l r a0 a2 a4) (f1000000c0_L1_hp l r a0 a2 a4) (f1000000c0_L1_Q l r a0 a1 a2 a3 a4) (fun s o h => f1000000c0_L1_bok h) h

noncomputable def S_fixpoint_Derive_roundc (m : Option Nat) (a0 : List (List G_QRule)) (a1 : List Bool) (a2 : List G_QDerivation) (a3 : Int) (a4 : G_QDerivation) : Option (Bool × (List Bool) × (List G_QDerivation)) :=
  if (0 : Int) ≤ a4.f_Set ∧ a4.f_Set < ((a1.length : Nat) : Int) then
  if (0 + a4.f_Set.toNat) < a1.length then
  if (!(a1.getD (0 + a4.f_Set.toNat) default)) = true then
    some (true, a1, a2)
  else
    if ((a2 ++ ([a4] : List G_QDerivation)).map eD).length * 24 ≤ 140737488355328 then
    if (0 : Int) ≤ a4.f_Set ∧ a4.f_Set < ((a0.map eB).length : Int) then
    if (0 : Int) ≤ a4.f_Rule ∧ a4.f_Rule < (((a0.getD a4.f_Set.toNat default).map e_QRule).length : Int) then
    S_fixpoint_Derive_roundc_l1 m a0 a2 a4 0 a1
    else none
    else none
    else none
  else none
  else none

theorem f1000000c0_start {l : Nat} {r : Loop} {a0 : List (List G_QRule)} {a1 : List Bool} {a2 : List G_QDerivation} {a3 : Int} {a4 : G_QDerivation} {m : Option Nat} {o : Bool × (List Bool) × (List G_QDerivation)} (h : S_fixpoint_Derive_roundc m a0 a1 a2 a3 a4 = some o) : LWp Try.prog f1000000c0_lay 3 f1000000c0_c1 (QAsg (1, 3) l r Try.prog f1000000c0_lay0 3 f1000000c0_c2 (f1000000c0_Q l r a0 a1 a2 a3 a4 o)) (putPs [(3, .ptr (1, 0) 0 0), (11, .ptr (1, 1) 0 0), (12, .ptr (1, 2) 0 0)] [57, 58] [.int .i64 a3, .agg [.int .i64 a4.f_Set, .int .i64 a4.f_Rule, .int .i64 a4.f_Element]]) [((1, 0), .one [.isl 1 (a0.map eB) false]), ((1, 1), .one [.msl (2, 0) 1 0 a1.length true]), ((1, 2), .one [.msl (2, 1) 3 0 a2.length false]), ((1, 3), .lrec l r [(3, .ptr (1, 0) 0 0), (11, .ptr (1, 1) 0 0), (12, .ptr (1, 2) 0 0)]), ((2, 0), .rows 1 (a1.map e_bool)), ((2, 1), .rows 3 (a2.map eD))] 3 := by
  unfold S_fixpoint_Derive_roundc at h
  refine regI ?_
  refine AI rfl (EX _ (AI rfl ?_))
  refine LWp.sim (e := [(3, .ptr (1, 0) 0 0), (11, .ptr (1, 1) 0 0), (12, .ptr (1, 2) 0 0), (14, .ptr (3, 0) 0 0)]) (L := [((1, 0), .one [.isl 1 (a0.map eB) false]), ((1, 1), .one [.msl (4, 0) 1 0 a1.length true]), ((1, 2), .one [.msl (5, 0) 3 0 a2.length false]), ((1, 3), .lrec l (busy r) [(3, .ptr (1, 0) 0 0), (11, .ptr (1, 1) 0 0), (12, .ptr (1, 2) 0 0)]), ((3, 0), .one [.int .i64 a4.f_Set, .int .i64 a4.f_Rule, .int .i64 a4.f_Element]), ((4, 0), .rows 1 (a1.map e_bool)), ((5, 0), .rows 3 (a2.map eD))]) (n := 6) ?_ ?_
  · exact simI (M := [((3, 0), (3, 0)), ((4, 0), (2, 0)), ((5, 0), (2, 1))]) rfl (AI (Vw.ptr _ _ _ _ rfl) (AI (Vw.ptr _ _ _ _ rfl) (AI (Vw.ptr _ _ _ _ rfl) (AI (Vw.ptr _ _ _ _ rfl) TT)))) (AI (AI rfl (BVw.oneL (AI (VS rfl) TT))) (AI (AI rfl (BVw.oneL (AI (Vw.mslE rfl (by first | rfl | (simp; done) | (simp at *; omega)) rfl) TT))) (AI (AI rfl (BVw.oneL (AI (Vw.mslE rfl (by first | rfl | (simp; done) | (simp at *; omega)) rfl) TT))) (AI (AI rfl (BVw.lrecL (AI (AI rfl (Vw.ptr _ _ _ _ rfl)) (AI (AI rfl (Vw.ptr _ _ _ _ rfl)) (AI (AI rfl (Vw.ptr _ _ _ _ rfl)) TT))))) (AI (AI rfl (BVw.oneL (AI (VS rfl) (AI (VS rfl) (AI (VS rfl) TT))))) (AI (AI rfl (BVw.enc e_bool (fun _ => rfl) _ a1)) (AI (AI rfl (BVw.enc eD (fun _ => rfl) _ a2)) TT)))))))
  refine blockI ?_
  refine seqI ?_
  refine seqI ?_
  refine regI ?_
  obtain ⟨h1, h⟩ := ite_some h
  refine AI h1 ?_
  obtain ⟨h2, h⟩ := ite_some h
  refine EX (e_bool (a1.getD (0 + a4.f_Set.toNat) default)) (AI (getD_enc e_bool _ _ h2) (AI (AI (lt_map e_bool h2) (NB rfl)) ?_))
  refine condI (v := (!(a1.getD (0 + a4.f_Set.toNat) default))) rfl TT (fun h3 => ?_) (fun h3 => ?_)
  · have h := ite_tt h3 h
    refine exitI ?_
    cases h
    exact AI rfl (EX _ (AI rfl (finI (n' := 6) [((3, 0), (4, 0)), ((3, 1), (5, 0))] [] rfl rfl (VS rfl) (AI (AI rfl (BVw.oneL (AI (VS rfl) TT))) (AI (AI rfl (BVw.oneL (AI (Vw.mslE rfl (by first | rfl | (simp; done) | (simp at *; omega)) rfl) TT))) (AI (AI rfl (BVw.oneL (AI (Vw.mslE rfl (by first | rfl | (simp; done) | (simp at *; omega)) rfl) TT))) (AI (AI rfl (BVw.lrecL (AI (AI rfl (Vw.ptr _ _ _ _ rfl)) (AI (AI rfl (Vw.ptr _ _ _ _ rfl)) (AI (AI rfl (Vw.ptr _ _ _ _ rfl)) TT))))) (AI (AI rfl (BVw.enc e_bool (fun _ => rfl) _ a1)) (AI (AI rfl (BVw.enc eD (fun _ => rfl) _ a2)) TT)))))))))
  · have h := ite_ff h3 h
    refine skipI ?_
    refine seqI ?_
    refine regI ?_
    obtain ⟨h4, h⟩ := ite_some h
    refine AI (fun h => Bool.noConfusion h) (AI (lenW eD (by first | rfl | (simp; done) | (simp at *; omega))) (EX ((a2 ++ ([a4] : List G_QDerivation)).map eD) (AI (appW eD a2 ([a4] : List G_QDerivation) (by first | rfl | (simp; done) | (simp at *; omega))) (AI h4 ?_))))
    refine LWp.sim (e := [(3, .ptr (1, 0) 0 0), (11, .ptr (1, 1) 0 0), (14, .ptr (3, 0) 0 0)]) (L := [((1, 0), .one [.isl 1 (a0.map eB) false]), ((1, 1), .one [.msl (4, 0) 1 0 a1.length true]), ((1, 2), .one [.msl (5, 0) 3 0 (((a2 ++ ([a4] : List G_QDerivation)).map eD).length) false]), ((1, 3), .lrec l (busy r) [(3, .ptr (1, 0) 0 0), (11, .ptr (1, 1) 0 0), (12, .ptr (1, 2) 0 0)]), ((3, 0), .one [.int .i64 a4.f_Set, .int .i64 a4.f_Rule, .int .i64 a4.f_Element]), ((4, 0), .rows 1 (a1.map e_bool)), ((5, 0), .rows 3 ((a2 ++ ([a4] : List G_QDerivation)).map eD))]) (n := 6) ?_ ?_
    · exact simI (M := [((3, 0), (3, 0)), ((4, 0), (4, 0)), ((5, 0), (6, 0))]) rfl (AI (Vw.ptr _ _ _ _ rfl) (AI (Vw.ptr _ _ _ _ rfl) (AI (Vw.ptr _ _ _ _ rfl) TT))) (AI (AI rfl (BVw.oneL (AI (VS rfl) TT))) (AI (AI rfl (BVw.oneL (AI (Vw.mslE rfl (by first | rfl | (simp; done) | (simp at *; omega)) rfl) TT))) (AI (AI rfl (BVw.oneL (AI (Vw.mslE rfl (by first | rfl | (simp; done) | (simp at *; omega)) rfl) TT))) (AI (AI rfl (BVw.lrecL (AI (AI rfl (Vw.ptr _ _ _ _ rfl)) (AI (AI rfl (Vw.ptr _ _ _ _ rfl)) (AI (AI rfl (Vw.ptr _ _ _ _ rfl)) TT))))) (AI (AI rfl (BVw.oneL (AI (VS rfl) (AI (VS rfl) (AI (VS rfl) TT))))) (AI (AI rfl (BVw.enc e_bool (fun _ => rfl) _ a1)) (AI (AI rfl (BVw.enc eD (fun _ => rfl) _ (a2 ++ ([a4] : List G_QDerivation)))) TT)))))))
    refine seqI ?_
    refine drawO rfl ?_
    obtain ⟨h5, h⟩ := ite_some h
    refine AI h5 ?_
    refine EX (eB (a0.getD a4.f_Set.toNat default)) (AI (getD_enc eB _ _ (idx_ltL eB h5)) (AI (AI (idx_lt h5) (NB rfl)) ?_))
    obtain ⟨h6, h⟩ := ite_some h
    refine AI h6 ?_
    refine EX (e_QRule ((a0.getD a4.f_Set.toNat default).getD a4.f_Rule.toNat default)) (AI (getD_enc e_QRule _ _ (idx_ltL e_QRule h6)) (AI (AI (idx_lt h6) (NB rfl)) ?_))
    refine LWp.sim (e := [(11, .ptr (1, 1) 0 0), (78, .isl 1 ((((a0.getD a4.f_Set.toNat default).getD a4.f_Rule.toNat default).f_All).map e_i64) false), (79, .int .i64 (((((a0.getD a4.f_Set.toNat default).getD a4.f_Rule.toNat default).f_All).map e_i64).length : Int)), (80, .int .i64 0)]) (L := [((1, 0), .one [.isl 1 (a0.map eB) false]), ((1, 1), .one [.msl (3, 0) 1 0 a1.length true]), ((1, 2), .one [.msl (4, 0) 3 0 (((a2 ++ ([a4] : List G_QDerivation)).map eD).length) false]), ((1, 3), .lrec l (busy r) [(3, .ptr (1, 0) 0 0), (11, .ptr (1, 1) 0 0), (12, .ptr (1, 2) 0 0)]), ((3, 0), .rows 1 (a1.map e_bool)), ((4, 0), .rows 3 ((a2 ++ ([a4] : List G_QDerivation)).map eD))]) (n := 5) ?_ ?_
    · exact simI (M := [((3, 0), (4, 0)), ((4, 0), (5, 0))]) rfl (AI (Vw.ptr _ _ _ _ rfl) (AI (VS rfl) (AI (VS rfl) (AI (VS rfl) TT)))) (AI (AI rfl (BVw.oneL (AI (VS rfl) TT))) (AI (AI rfl (BVw.oneL (AI (Vw.mslE rfl (by first | rfl | (simp; done) | (simp at *; omega)) rfl) TT))) (AI (AI rfl (BVw.oneL (AI (Vw.mslE rfl (by first | rfl | (simp; done) | (simp at *; omega)) rfl) TT))) (AI (AI rfl (BVw.lrecL (AI (AI rfl (Vw.ptr _ _ _ _ rfl)) (AI (AI rfl (Vw.ptr _ _ _ _ rfl)) (AI (AI rfl (Vw.ptr _ _ _ _ rfl)) TT))))) (AI (AI rfl (BVw.enc e_bool (fun _ => rfl) _ a1)) (AI (AI rfl (BVw.enc eD (fun _ => rfl) _ (a2 ++ ([a4] : List G_QDerivation)))) TT))))))
    refine blockI ?_
    refine LWp.sim ?_ (f1000000c0_L1_ok h)
    exact simI (M := [((3, 0), (3, 0)), ((4, 0), (4, 0))]) rfl (AI (Vw.ptr _ _ _ _ rfl) (AI (VS rfl) (AI (VS rfl) (AI (VS rfl) TT)))) (AI (AI rfl (BVw.oneL (AI (VS rfl) TT))) (AI (AI rfl (BVw.oneL (AI (Vw.mslE rfl (by first | rfl | (simp; done) | (simp at *; omega)) rfl) TT))) (AI (AI rfl (BVw.oneL (AI (Vw.mslE rfl (by first | rfl | (simp; done) | (simp at *; omega)) rfl) TT))) (AI (AI rfl (BVw.lrecL (AI (AI rfl (Vw.ptr _ _ _ _ rfl)) (AI (AI rfl (Vw.ptr _ _ _ _ rfl)) (AI (AI rfl (Vw.ptr _ _ _ _ rfl)) TT))))) (AI (AI rfl (BVw.enc e_bool (fun _ => rfl) _ a1)) (AI (AI rfl (BVw.enc eD (fun _ => rfl) _ (a2 ++ ([a4] : List G_QDerivation)))) TT))))))

theorem f1000000c0_ok {l : Nat} {r : Loop} {a0 : List (List G_QRule)} {a1 : List Bool} {a2 : List G_QDerivation} {a3 : Int} {a4 : G_QDerivation} {m : Option Nat} {o : Bool × (List Bool) × (List G_QDerivation)} (hr : RecOf Try.prog f1000000c0_lay0 [57, 58] f1000000c0_c1 f1000000c0_c2 r) (h : S_fixpoint_Derive_roundc m a0 a1 a2 a3 a4 = some o) : ACalls Try.prog (.yield l) [.int .i64 a3, .agg [.int .i64 a4.f_Set, .int .i64 a4.f_Rule, .int .i64 a4.f_Element]] [((1, 0), .one [.isl 1 (a0.map eB) false]), ((1, 1), .one [.msl (2, 0) 1 0 a1.length true]), ((1, 2), .one [.msl (2, 1) 3 0 a2.length false]), ((1, 3), .lrec l r [(3, .ptr (1, 0) 0 0), (11, .ptr (1, 1) 0 0), (12, .ptr (1, 2) 0 0)]), ((2, 0), .rows 1 (a1.map e_bool)), ((2, 1), .rows 3 (a2.map eD))] 3 (Gives 4 (.bool o.1) [((1, 0), .one [.isl 1 (a0.map eB) false]), ((1, 1), .one [.msl (3, 0) 1 0 o.2.1.length true]), ((1, 2), .one [.msl (3, 1) 3 0 o.2.2.length false]), ((1, 3), .lrec l r [(3, .ptr (1, 0) 0 0), (11, .ptr (1, 1) 0 0), (12, .ptr (1, 2) 0 0)]), ((3, 0), .rows 1 (o.2.1.map e_bool)), ((3, 1), .rows 3 (o.2.2.map eD))]) := ACalls.fin (yields_of (k := (1, 3)) hr rfl rfl rfl (f1000000c0_start h))

def f49b0_c0 : LCode := (.seq (.seq (.region [⟨some 7, .mv (.t 3), none⟩,
   ⟨some 8, .bin .geq (.t 7) (.c (.int .i64 0)), none⟩])
 (.cond (.t 8)
  .skip
  (.exit 0)))
 (.seq (.block 1
  (.seq (.region [⟨some 11, .mv (.t 0), none⟩,
    ⟨some 12, .mv (.t 3), none⟩,
    ⟨some 13, .load false 1 (.t 1), none⟩,
    ⟨some 14, .mv (.t 3), none⟩,
    ⟨some 15, .iaddr 3 (.t 13) (.t 14), none⟩,
    ⟨some 16, .load true 3 (.t 15), none⟩,
    ⟨some 17, .callv (.t 11) [(.t 12), (.t 16)], none⟩,
    ⟨some 18, .un .not (.t 17), none⟩])
  (.cond (.t 18)
   .ret
   .skip)))
 (.region [⟨some 9, .mv (.t 3), none⟩,
   ⟨some 10, .bin .sub (.t 9) (.c (.int .i64 1)), none⟩,
   ⟨some 3, .mv (.t 10), none⟩])))
def f49b0_c1 : LCode := (.seq (.region [⟨some 4, .load false 1 (.t 1), none⟩,
   ⟨some 5, .len false (.t 4), none⟩,
   ⟨some 6, .bin .sub (.t 5) (.c (.int .i64 1)), none⟩,
   ⟨some 3, .mv (.t 6), none⟩])
 (.block 0
  (.loop
   f49b0_c0)))
def f49b0_lay : Lay := ⟨19, [], false⟩
def f49b0_res : List LRes := []
def f49b0_L : LFn := ⟨2, f49b0_lay, f49b0_c1, f49b0_res⟩
theorem f49b0_low : lowFn Try.prog [] 49 = some f49b0_L := by kernel_rfl
theorem f49b0_fok : FnOk Try.prog 49 := ⟨_, Try.func49, rfl, rfl⟩
def f49b0_Q {σ : Type} (Hc : σ → AHeap) (fi0 : Fn) (ff0 fc0 : List AVal) (a0 : List G_QDerivation) (z0 : σ) (o : σ) : Exit → Env → AHeap → Nat → Prop := FinK f49b0_res (FinTo 3 4 (.tup []) ([((0, 0), .one [.isl 3 (a0.map eD) false])] ++ up 3 (Hc o)))

def f49b0_L1_env {σ : Type} (Hc : σ → AHeap) (fi0 : Fn) (ff0 fc0 : List AVal) (a0 : List G_QDerivation) (s : (Int × σ)) : Env := [(0, .fn fi0 ff0 fc0), (1, .ptr (0, 0) 0 0), (3, .int .i64 s.1)]
def f49b0_L1_hp {σ : Type} (Hc : σ → AHeap) (fi0 : Fn) (ff0 fc0 : List AVal) (a0 : List G_QDerivation) (s : (Int × σ)) : AHeap := ([((0, 0), .one [.isl 3 (a0.map eD) false])] ++ up 3 (Hc s.2))
def f49b0_L1_Q {σ : Type} (Hc : σ → AHeap) (fi0 : Fn) (ff0 fc0 : List AVal) (a0 : List G_QDerivation) (z0 : σ) (o : σ) : Exit → Env → AHeap → Nat → Prop := (QBlock 0 (f49b0_Q Hc fi0 ff0 fc0 a0 z0 o))

noncomputable def S_slices_Backward_api_QDerivation_1_b1 {σ : Type} (g0 : σ → (Int × G_QDerivation) → Option (Bool × σ)) (m : Option Nat) (a0 : List G_QDerivation) (v2 : Int) (v3 : σ) : Option ((Int × σ) ⊕ σ) :=
  if (decide (v2 ≥ 0)) = true then
    if (0 : Int) ≤ v2 ∧ v2 < ((a0.map eD).length : Int) then
    (g0 v3 (v2, (G_QDerivation.mk ((a0.getD v2.toNat default).f_Set) ((a0.getD v2.toNat default).f_Rule) ((a0.getD v2.toNat default).f_Element)))).bind fun v5 =>
    if (!v5.1) = true then
      Option.map Sum.inr (
        some v5.2)
    else
      some (.inl ((W (v2 - 1)), v5.2))
    else none
  else
    Option.map Sum.inr (
      some v3)

noncomputable def S_slices_Backward_api_QDerivation_1_l1 {σ : Type} (g0 : σ → (Int × G_QDerivation) → Option (Bool × σ)) (m : Option Nat) (a0 : List G_QDerivation) (v2 : Int) (v3 : σ) : Option σ := loopM m (fun (s : (Int × σ)) => S_slices_Backward_api_QDerivation_1_b1 g0 m a0 s.1 s.2) (v2, v3)

theorem f49b0_L1_bok {σ : Type} {Hc : σ → AHeap} {fi0 : Fn} {ff0 fc0 : List AVal} {g0 : σ → (Int × G_QDerivation) → Option (Bool × σ)} (hg0 : Clo Try.prog fi0 ff0 fc0 Hc (fun (x : (Int × G_QDerivation)) => [.int .i64 x.1, .agg [.int .i64 x.2.f_Set, .int .i64 x.2.f_Rule, .int .i64 x.2.f_Element]]) (fun (b : Bool) => .bool b) g0) {z0 : σ} {a0 : List G_QDerivation} {v2 : Int} {v3 : σ} {m : Option Nat} {o : (Int × σ) ⊕ σ} (h : S_slices_Backward_api_QDerivation_1_b1 g0 m a0 v2 v3 = some o) :
    LWp Try.prog f49b0_lay 3 f49b0_c0 (BodyQ 3 4 (f49b0_L1_env Hc fi0 ff0 fc0 a0) (f49b0_L1_hp Hc fi0 ff0 fc0 a0) (f49b0_L1_Q Hc fi0 ff0 fc0 a0 z0) o) [(0, .fn fi0 ff0 fc0), (1, .ptr (0, 0) 0 0), (3, .int .i64 v2)] ([((0, 0), .one [.isl 3 (a0.map eD) false])] ++ up 3 (Hc v3)) 4 := by
  unfold S_slices_Backward_api_QDerivation_1_b1 at h
  refine seqI ?_
  refine seqI ?_
  refine regI ?_
  refine condI (v := (decide (v2 ≥ 0))) rfl TT (fun h9 => ?_) (fun h9 => ?_)
  · have h := ite_tt h9 h
    refine skipI ?_
    refine seqI ?_
    refine blockI ?_
    refine seqI ?_
    refine regI ?_
    obtain ⟨h10, h⟩ := ite_some h
    refine AI h10 ?_
    refine EX (eD (a0.getD v2.toNat default)) (AI (getD_enc eD _ _ (idx_ltL eD h10)) (AI (AI (idx_lt h10) (NB rfl)) ?_))
    obtain ⟨v5, h11, h⟩ := bind_some h
    refine Clo.use (q := 3) (lit := [((0, 0), .one [.isl 3 (a0.map eD) false])]) hg0 h11 rfl rfl (AI (VS rfl) (AI (VS rfl) TT)) ?_
    refine LWp.sim (e := [(0, .fn fi0 ff0 fc0), (1, .ptr (0, 0) 0 0), (3, .int .i64 v2), (18, .bool (!v5.1))]) (L := ([((0, 0), .one [.isl 3 (a0.map eD) false])] ++ up 3 (Hc v5.2))) (n := 4) ?_ ?_
    · exact simT (M := []) (lit' := [((0, 0), .one [.isl 3 (a0.map eD) false])]) (hg0.tl _) rfl (AI (Vw.clo hg0.hf hg0.hc (by decide) (rhoT_1 (chkT_ok (n := 4) (q := 4) (lit' := [((0, 0), .one [.isl 3 (a0.map eD) false])]) rfl))) (AI (Vw.ptr _ _ _ _ rfl) (AI (VS rfl) (AI (VS rfl) TT)))) (AI (AI rfl (BVw.oneL (AI (VS rfl) TT))) TT)
    refine condI (v := (!v5.1)) rfl TT (fun h12 => ?_) (fun h12 => ?_)
    · have h := ite_tt h12 h
      refine retI ?_
      obtain ⟨o, hq, rfl⟩ := Option.map_eq_some_iff.1 h
      replace h := hq; clear hq
      refine AI nofun ?_
      cases h
      exact finT (n' := 4) (q := 3) (lit' := [((0, 0), .one [.isl 3 (a0.map eD) false])]) (hg0.tl _) [] [] rfl rfl (VS rfl) (AI (AI rfl (BVw.oneL (AI (VS rfl) TT))) TT)
    · have h := ite_ff h12 h
      refine skipI ?_
      refine regI ?_
      cases h
      exact AI rfl (simT (M := []) (lit' := [((0, 0), .one [.isl 3 (a0.map eD) false])]) (hg0.tl _) rfl (AI (Vw.clo hg0.hf hg0.hc (by decide) (rhoT_1 (chkT_ok (n := 4) (q := 3) (lit' := [((0, 0), .one [.isl 3 (a0.map eD) false])]) rfl))) (AI (Vw.ptr _ _ _ _ rfl) (AI (VS rfl) TT))) (AI (AI rfl (BVw.oneL (AI (VS rfl) TT))) TT))
  · have h := ite_ff h9 h
    refine exitI ?_
    obtain ⟨o, hq, rfl⟩ := Option.map_eq_some_iff.1 h
    replace h := hq; clear hq
    refine AI nofun ?_
    cases h
    exact finT (n' := 4) (q := 3) (lit' := [((0, 0), .one [.isl 3 (a0.map eD) false])]) (hg0.tl _) [] [] rfl rfl (VS rfl) (AI (AI rfl (BVw.oneL (AI (VS rfl) TT))) TT)

theorem f49b0_L1_ok {σ : Type} {Hc : σ → AHeap} {fi0 : Fn} {ff0 fc0 : List AVal} {g0 : σ → (Int × G_QDerivation) → Option (Bool × σ)} (hg0 : Clo Try.prog fi0 ff0 fc0 Hc (fun (x : (Int × G_QDerivation)) => [.int .i64 x.1, .agg [.int .i64 x.2.f_Set, .int .i64 x.2.f_Rule, .int .i64 x.2.f_Element]]) (fun (b : Bool) => .bool b) g0) {z0 : σ} {a0 : List G_QDerivation} {v2 : Int} {v3 : σ} {m : Option Nat} {o : σ} (h : S_slices_Backward_api_QDerivation_1_l1 g0 m a0 v2 v3 = some o) :
    LWp Try.prog f49b0_lay 3 (.loop f49b0_c0) (QBlock 0 (f49b0_Q Hc fi0 ff0 fc0 a0 z0 o)) [(0, .fn fi0 ff0 fc0), (1, .ptr (0, 0) 0 0), (3, .int .i64 v2)] ([((0, 0), .one [.isl 3 (a0.map eD) false])] ++ up 3 (Hc v3)) 4 :=
  LWp_loopM (m := m) (s := ((v2, v3) : (Int × σ))) (r := o) (fun (s : (Int × σ)) => S_slices_Backward_api_QDerivation_1_b1 g0 m a0 s.1 s.2) (f49b0_L1_env Hc fi0 ff0 fc0 a0) (f49b0_L1_hp Hc fi0 ff0 fc0 a0) (f49b0_L1_Q Hc fi0 ff0 fc0 a0 z0) (fun s o h => f49b0_L1_bok hg0 h) h

noncomputable def S_slices_Backward_api_QDerivation_1 {σ : Type} (g0 : σ → (Int × G_QDerivation) → Option (Bool × σ)) (m : Option Nat) (a0 : List G_QDerivation) (z0 : σ) : Option σ :=
  S_slices_Backward_api_QDerivation_1_l1 g0 m a0 (W (((a0.map eD).length : Int) - 1)) z0

theorem f49b0_start {σ : Type} {Hc : σ → AHeap} {fi0 : Fn} {ff0 fc0 : List AVal} {g0 : σ → (Int × G_QDerivation) → Option (Bool × σ)} (hg0 : Clo Try.prog fi0 ff0 fc0 Hc (fun (x : (Int × G_QDerivation)) => [.int .i64 x.1, .agg [.int .i64 x.2.f_Set, .int .i64 x.2.f_Rule, .int .i64 x.2.f_Element]]) (fun (b : Bool) => .bool b) g0) {a0 : List G_QDerivation} {z0 : σ} {m : Option Nat} {o : σ} (h : S_slices_Backward_api_QDerivation_1 g0 m a0 z0 = some o) : LWp Try.prog f49b0_lay 3 f49b0_c1 (f49b0_Q Hc fi0 ff0 fc0 a0 z0 o) (initEnv 0 [.fn fi0 ff0 fc0, .ptr (0, 0) 0 0]) ([((0, 0), .one [.isl 3 (a0.map eD) false])] ++ Hc z0) 3 := by
  unfold S_slices_Backward_api_QDerivation_1 at h
  refine LWp.sim (e := [(0, .fn fi0 ff0 fc0), (1, .ptr (0, 0) 0 0)]) (L := ([((0, 0), .one [.isl 3 (a0.map eD) false])] ++ up 3 (Hc z0))) (n := 4) (entryT (T := Hc z0) (e' := initEnv 0 [.fn fi0 ff0 fc0, .ptr (0, 0) 0 0]) (e := [(0, .fn fi0 ff0 fc0), (1, .ptr (0, 0) 0 0)]) (lit' := [((0, 0), .one [.isl 3 (a0.map eD) false])]) (lit := [((0, 0), .one [.isl 3 (a0.map eD) false])]) (hg0.tl z0) rfl rfl (AI (Vw.clo hg0.hf hg0.hc (by decide) (rhoE_1 _)) (AI (Vw.ptr _ _ _ _ rfl) TT)) (AI (AI rfl (BVw.oneL (AI (VS rfl) TT))) TT)) ?_
  refine seqI ?_
  refine regI ?_
  refine blockI ?_
  refine LWp.sim ?_ (f49b0_L1_ok hg0 h)
  exact simT (M := []) (lit' := [((0, 0), .one [.isl 3 (a0.map eD) false])]) (hg0.tl _) rfl (AI (Vw.clo hg0.hf hg0.hc (by decide) (rhoT_1 (chkT_ok (n := 4) (q := 3) (lit' := [((0, 0), .one [.isl 3 (a0.map eD) false])]) rfl))) (AI (Vw.ptr _ _ _ _ rfl) (AI (VS rfl) TT))) (AI (AI rfl (BVw.oneL (AI (VS rfl) TT))) TT)

theorem f49b0_ok {σ : Type} {Hc : σ → AHeap} {fi0 : Fn} {ff0 fc0 : List AVal} {g0 : σ → (Int × G_QDerivation) → Option (Bool × σ)} (hg0 : Clo Try.prog fi0 ff0 fc0 Hc (fun (x : (Int × G_QDerivation)) => [.int .i64 x.1, .agg [.int .i64 x.2.f_Set, .int .i64 x.2.f_Rule, .int .i64 x.2.f_Element]]) (fun (b : Bool) => .bool b) g0) {a0 : List G_QDerivation} {z0 : σ} {m : Option Nat} {o : σ} (h : S_slices_Backward_api_QDerivation_1 g0 m a0 z0 = some o) : ACalls Try.prog 49 [.fn fi0 ff0 fc0, .ptr (0, 0) 0 0] ([((0, 0), .one [.isl 3 (a0.map eD) false])] ++ Hc z0) 3 (Gives 4 (.tup []) ([((0, 0), .one [.isl 3 (a0.map eD) false])] ++ up 3 (Hc o))) := bfn_of (L := f49b0_L) f49b0_low f49b0_fok (NB rfl) (f49b0_start hg0 h)

def f42b0_c0 : LCode := (.seq (.seq (.region [⟨some 7, .mv (.t 2), none⟩,
   ⟨some 8, .mv (.t 3), none⟩,
   ⟨some 9, .bin .lss (.t 7) (.t 8), none⟩])
 (.cond (.t 9)
  .skip
  (.exit 0)))
 (.seq (.block 1
  (.draw [⟨⟨some 14, .mv (.t 0), none⟩, []⟩,
    ⟨⟨some 15, .mv (.t 2), none⟩, []⟩,
    ⟨⟨some 16, .mv (.t 0), none⟩, []⟩,
    ⟨⟨some 17, .mv (.t 3), none⟩, []⟩,
    ⟨⟨some 18, .mv (.t 0), none⟩, []⟩,
    ⟨⟨some 19, .mv (.t 3), none⟩, []⟩,
    ⟨⟨some 20, .iaddr 3 (.t 18) (.t 19), none⟩, []⟩,
    ⟨⟨some 21, .load true 3 (.t 20), none⟩, []⟩,
    ⟨⟨some 22, .mv (.t 0), none⟩, []⟩,
    ⟨⟨some 23, .mv (.t 2), none⟩, []⟩,
    ⟨⟨some 24, .iaddr 3 (.t 22) (.t 23), none⟩, []⟩,
    ⟨⟨some 25, .load true 3 (.t 24), none⟩, []⟩,
    ⟨⟨some 26, .iaddr 3 (.t 14) (.t 15), none⟩, []⟩,
    ⟨⟨none, .store 3 (.t 26) (.t 21), none⟩, []⟩,
    ⟨⟨some 27, .iaddr 3 (.t 16) (.t 17), none⟩, []⟩,
    ⟨⟨none, .store 3 (.t 27) (.t 25), none⟩, []⟩]))
 (.region [⟨some 10, .mv (.t 2), none⟩,
   ⟨some 11, .bin .add (.t 10) (.c (.int .i64 1)), none⟩,
   ⟨some 12, .mv (.t 3), none⟩,
   ⟨some 13, .bin .sub (.t 12) (.c (.int .i64 1)), none⟩,
   ⟨some 2, .mv (.t 11), none⟩,
   ⟨some 3, .mv (.t 13), none⟩])))
def f42b0_c1 : LCode := (.seq (.region [⟨some 4, .mv (.t 0), none⟩,
   ⟨some 5, .len false (.t 4), none⟩,
   ⟨some 6, .bin .sub (.t 5) (.c (.int .i64 1)), none⟩,
   ⟨some 2, .mv (.c (.int .i64 0)), none⟩,
   ⟨some 3, .mv (.t 6), none⟩])
 (.block 0
  (.loop
   f42b0_c0)))
def f42b0_lay : Lay := ⟨28, [], false⟩
def f42b0_res : List LRes := []
def f42b0_L : LFn := ⟨1, f42b0_lay, f42b0_c1, f42b0_res⟩
theorem f42b0_low : lowFn Try.prog [] 42 = some f42b0_L := by kernel_rfl
theorem f42b0_fok : FnOk Try.prog 42 := ⟨_, Try.func42, rfl, rfl⟩
def f42b0_Q (a0 : List G_QDerivation) (o : (List G_QDerivation)) : Exit → Env → AHeap → Nat → Prop := FinK f42b0_res (FinTo 3 3 (.tup []) [((0, 0), .rows 3 (o.map eD))])

def f42b0_L1_env (s : ((List G_QDerivation) × Int × Int)) : Env := [(0, .msl (0, 0) 3 0 s.1.length false), (2, .int .i64 s.2.1), (3, .int .i64 s.2.2)]
def f42b0_L1_hp (s : ((List G_QDerivation) × Int × Int)) : AHeap := [((0, 0), .rows 3 (s.1.map eD))]
def f42b0_L1_Q (a0 : List G_QDerivation) (o : (List G_QDerivation)) : Exit → Env → AHeap → Nat → Prop := (QBlock 0 (f42b0_Q a0 o))

noncomputable def S_slices_Reverse_api_QDerivation_42_b1 (m : Option Nat) (v1 : List G_QDerivation) (v2 : Int) (v3 : Int) : Option (((List G_QDerivation) × Int × Int) ⊕ (List G_QDerivation)) :=
  if (decide (v2 < v3)) = true then
    if (0 : Int) ≤ v3 ∧ v3 < ((v1.length : Nat) : Int) then
    if (0 + v3.toNat) < v1.length then
    if (0 : Int) ≤ v2 ∧ v2 < ((v1.length : Nat) : Int) then
    if (0 + v2.toNat) < v1.length then
    if (0 : Int) ≤ v2 ∧ v2 < ((v1.length : Nat) : Int) then
    if (0 + v2.toNat) < v1.length then
    if (0 : Int) ≤ v3 ∧ v3 < ((v1.length : Nat) : Int) then
    if (0 + v3.toNat) < (v1.set (0 + v2.toNat) (G_QDerivation.mk ((v1.getD (0 + v3.toNat) default).f_Set) ((v1.getD (0 + v3.toNat) default).f_Rule) ((v1.getD (0 + v3.toNat) default).f_Element))).length then
    some (.inl (((v1.set (0 + v2.toNat) (G_QDerivation.mk ((v1.getD (0 + v3.toNat) default).f_Set) ((v1.getD (0 + v3.toNat) default).f_Rule) ((v1.getD (0 + v3.toNat) default).f_Element))).set (0 + v3.toNat) (G_QDerivation.mk ((v1.getD (0 + v2.toNat) default).f_Set) ((v1.getD (0 + v2.toNat) default).f_Rule) ((v1.getD (0 + v2.toNat) default).f_Element))), (W (v2 + 1)), (W (v3 - 1))))
    else none
    else none
    else none
    else none
    else none
    else none
    else none
    else none
  else
    Option.map Sum.inr (
      some v1)

noncomputable def S_slices_Reverse_api_QDerivation_42_l1 (m : Option Nat) (v1 : List G_QDerivation) (v2 : Int) (v3 : Int) : Option (List G_QDerivation) := loopM m (fun (s : ((List G_QDerivation) × Int × Int)) => S_slices_Reverse_api_QDerivation_42_b1 m s.1 s.2.1 s.2.2) (v1, v2, v3)

theorem f42b0_L1_bok {a0 : List G_QDerivation} {v1 : List G_QDerivation} {v2 : Int} {v3 : Int} {m : Option Nat} {o : ((List G_QDerivation) × Int × Int) ⊕ (List G_QDerivation)} (h : S_slices_Reverse_api_QDerivation_42_b1 m v1 v2 v3 = some o) :
    LWp Try.prog f42b0_lay 3 f42b0_c0 (BodyQ 3 3 (f42b0_L1_env) (f42b0_L1_hp) (f42b0_L1_Q a0) o) [(0, .msl (0, 0) 3 0 v1.length false), (2, .int .i64 v2), (3, .int .i64 v3)] [((0, 0), .rows 3 (v1.map eD))] 3 := by
  unfold S_slices_Reverse_api_QDerivation_42_b1 at h
  refine seqI ?_
  refine seqI ?_
  refine regI ?_
  refine condI (v := (decide (v2 < v3))) rfl TT (fun h19 => ?_) (fun h19 => ?_)
  · have h := ite_tt h19 h
    refine skipI ?_
    refine seqI ?_
    refine blockI ?_
    refine drawO rfl ?_
    obtain ⟨h20, h⟩ := ite_some h
    refine AI h20 ?_
    obtain ⟨h21, h⟩ := ite_some h
    refine EX (eD (v1.getD (0 + v3.toNat) default)) (AI (getD_enc eD _ _ h21) (AI (AI (lt_map eD h21) (NB rfl)) ?_))
    obtain ⟨h22, h⟩ := ite_some h
    refine AI h22 ?_
    obtain ⟨h23, h⟩ := ite_some h
    refine EX (eD (v1.getD (0 + v2.toNat) default)) (AI (getD_enc eD _ _ h23) (AI (AI (lt_map eD h23) (NB rfl)) ?_))
    obtain ⟨h24, h⟩ := ite_some h
    refine AI h24 ?_
    obtain ⟨h25, h⟩ := ite_some h
    refine EX ((v1.set (0 + v2.toNat) (G_QDerivation.mk ((v1.getD (0 + v3.toNat) default).f_Set) ((v1.getD (0 + v3.toNat) default).f_Rule) ((v1.getD (0 + v3.toNat) default).f_Element))).map eD) (AI (set_enc eD _ _ _ _ _ h25 rfl) (AI (AI rfl (AI (lt_map eD h25) (NB rfl))) ?_))
    obtain ⟨h26, h⟩ := ite_some h
    refine AI h26 ?_
    obtain ⟨h27, h⟩ := ite_some h
    refine EX (((v1.set (0 + v2.toNat) (G_QDerivation.mk ((v1.getD (0 + v3.toNat) default).f_Set) ((v1.getD (0 + v3.toNat) default).f_Rule) ((v1.getD (0 + v3.toNat) default).f_Element))).set (0 + v3.toNat) (G_QDerivation.mk ((v1.getD (0 + v2.toNat) default).f_Set) ((v1.getD (0 + v2.toNat) default).f_Rule) ((v1.getD (0 + v2.toNat) default).f_Element))).map eD) (AI (set_enc eD _ _ _ _ _ h27 rfl) (AI (AI rfl (AI (lt_map eD h27) (NB rfl))) ?_))
    refine LWp.sim (e := [(0, .msl (0, 0) 3 0 v1.length false), (2, .int .i64 v2), (3, .int .i64 v3)]) (L := [((0, 0), .rows 3 (((v1.set (0 + v2.toNat) (G_QDerivation.mk ((v1.getD (0 + v3.toNat) default).f_Set) ((v1.getD (0 + v3.toNat) default).f_Rule) ((v1.getD (0 + v3.toNat) default).f_Element))).set (0 + v3.toNat) (G_QDerivation.mk ((v1.getD (0 + v2.toNat) default).f_Set) ((v1.getD (0 + v2.toNat) default).f_Rule) ((v1.getD (0 + v2.toNat) default).f_Element))).map eD))]) (n := 3) ?_ ?_
    · exact simI (M := []) rfl (AI (Vw.mslE rfl (by first | rfl | (simp; done) | (simp at *; omega)) rfl) (AI (VS rfl) (AI (VS rfl) TT))) (AI (AI rfl (BVw.enc eD (fun _ => rfl) _ ((v1.set (0 + v2.toNat) (G_QDerivation.mk ((v1.getD (0 + v3.toNat) default).f_Set) ((v1.getD (0 + v3.toNat) default).f_Rule) ((v1.getD (0 + v3.toNat) default).f_Element))).set (0 + v3.toNat) (G_QDerivation.mk ((v1.getD (0 + v2.toNat) default).f_Set) ((v1.getD (0 + v2.toNat) default).f_Rule) ((v1.getD (0 + v2.toNat) default).f_Element))))) TT)
    refine regI ?_
    cases h
    exact AI rfl (simI (M := []) rfl (AI (Vw.mslE rfl (by first | rfl | (simp; done) | (simp at *; omega)) rfl) (AI (VS rfl) (AI (VS rfl) TT))) (AI (AI rfl (BVw.enc eD (fun _ => rfl) _ ((v1.set (0 + v2.toNat) (G_QDerivation.mk ((v1.getD (0 + v3.toNat) default).f_Set) ((v1.getD (0 + v3.toNat) default).f_Rule) ((v1.getD (0 + v3.toNat) default).f_Element))).set (0 + v3.toNat) (G_QDerivation.mk ((v1.getD (0 + v2.toNat) default).f_Set) ((v1.getD (0 + v2.toNat) default).f_Rule) ((v1.getD (0 + v2.toNat) default).f_Element))))) TT))
  · have h := ite_ff h19 h
    refine exitI ?_
    obtain ⟨o, hq, rfl⟩ := Option.map_eq_some_iff.1 h
    replace h := hq; clear hq
    refine AI nofun ?_
    cases h
    exact finI (n' := 3) [] [] rfl rfl (VS rfl) (AI (AI rfl (BVw.enc eD (fun _ => rfl) _ v1)) TT)

theorem f42b0_L1_ok {a0 : List G_QDerivation} {v1 : List G_QDerivation} {v2 : Int} {v3 : Int} {m : Option Nat} {o : (List G_QDerivation)} (h : S_slices_Reverse_api_QDerivation_42_l1 m v1 v2 v3 = some o) :
    LWp Try.prog f42b0_lay 3 (.loop f42b0_c0) (QBlock 0 (f42b0_Q a0 o)) [(0, .msl (0, 0) 3 0 v1.length false), (2, .int .i64 v2), (3, .int .i64 v3)] [((0, 0), .rows 3 (v1.map eD))] 3 :=
  LWp_loopM (m := m) (s := ((v1, v2, v3) : ((List G_QDerivation) × Int × Int))) (r := o) (fun (s : ((List G_QDerivation) × Int × Int)) => S_slices_Reverse_api_QDerivation_42_b1 m s.1 s.2.1 s.2.2) (f42b0_L1_env) (f42b0_L1_hp) (f42b0_L1_Q a0) (fun s o h => f42b0_L1_bok h) h

noncomputable def S_slices_Reverse_api_QDerivation_42 (m : Option Nat) (a0 : List G_QDerivation) : Option (List G_QDerivation) :=
  S_slices_Reverse_api_QDerivation_42_l1 m a0 0 (W (((a0.length : Nat) : Int) - 1))

theorem f42b0_start {a0 : List G_QDerivation} {m : Option Nat} {o : (List G_QDerivation)} (h : S_slices_Reverse_api_QDerivation_42 m a0 = some o) : LWp Try.prog f42b0_lay 3 f42b0_c1 (f42b0_Q a0 o) (initEnv 0 [.msl (0, 0) 3 0 a0.length false]) [((0, 0), .rows 3 (a0.map eD))] 3 := by
  unfold S_slices_Reverse_api_QDerivation_42 at h
  refine seqI ?_
  refine regI ?_
  refine blockI ?_
  refine LWp.sim ?_ (f42b0_L1_ok h)
  exact simI (M := []) rfl (AI (Vw.mslE rfl (by first | rfl | (simp; done) | (simp at *; omega)) rfl) (AI (VS rfl) (AI (VS rfl) TT))) (AI (AI rfl (BVw.enc eD (fun _ => rfl) _ a0)) TT)

theorem f42b0_ok {a0 : List G_QDerivation} {m : Option Nat} {o : (List G_QDerivation)} (h : S_slices_Reverse_api_QDerivation_42 m a0 = some o) : ACalls Try.prog 42 [.msl (0, 0) 3 0 a0.length false] [((0, 0), .rows 3 (a0.map eD))] 3 (Gives 3 (.tup []) [((0, 0), .rows 3 (o.map eD))]) := bfn_of (L := f42b0_L) f42b0_low f42b0_fok (NB rfl) (f42b0_start h)

def f22_c0 : LCode := (.seq (.region [⟨some 88, .load false 1 (.t 12), none⟩,
   ⟨some 89, .call 42 [(.t 88)], none⟩])
 (.seq (.region [⟨some 90, .load false 1 (.t 12), none⟩,
   ⟨some 6, .mv (.t 90), none⟩,
   ⟨some 7, .mv (.c (.int .i64 0)), none⟩])
 .ret))
def f22_c1 : LCode := (.seq (.region [⟨some 3, .box (.t 0), none⟩,
   ⟨some 4, .box (.t 1), none⟩,
   ⟨some 6, .mv (.c (.val (.slice none 0 0))), none⟩,
   ⟨some 7, .mv (.c (.int .i64 0)), none⟩])
 (.seq (.seq (.region [⟨some 17, .load false 1 (.t 3), none⟩,
   ⟨some 18, .call 10 [(.t 17)], none⟩,
   ⟨some 8, .mv (.t 18), none⟩])
 (.seq (.region [⟨some 19, .mv (.t 8), none⟩,
   ⟨some 20, .bin .neq (.t 19) (.c (.int .i64 0)), none⟩])
 (.cond (.t 20)
  (.seq (.region [⟨some 21, .mv (.t 8), none⟩,
    ⟨some 6, .mv (.c (.val (.slice none 0 0))), none⟩,
    ⟨some 7, .mv (.t 21), none⟩])
  .ret)
  .skip)))
 (.seq (.seq (.region [⟨some 22, .load false 1 (.t 4), none⟩,
   ⟨some 23, .bin .lss (.t 22) (.c (.int .i64 0)), none⟩,
   ⟨some 24, .mv (.t 23), none⟩,
   ⟨some 25, .load false 1 (.t 4), some (24, false)⟩,
   ⟨some 26, .load false 1 (.t 3), some (24, false)⟩,
   ⟨some 27, .len false (.t 26), some (24, false)⟩,
   ⟨some 28, .bin .geq (.t 25) (.t 27), some (24, false)⟩,
   ⟨some 29, .pick (.t 24) (.c (.bool true)) (.t 28), none⟩,
   ⟨some 30, .mv (.t 29), none⟩,
   ⟨some 31, .mv (.t 2), some (30, false)⟩,
   ⟨some 32, .bin .lss (.t 31) (.c (.int .i64 0)), some (30, false)⟩,
   ⟨some 33, .pick (.t 30) (.c (.bool true)) (.t 32), none⟩,
   ⟨some 34, .mv (.t 33), none⟩,
   ⟨some 35, .mv (.t 2), some (34, false)⟩,
   ⟨some 36, .bin .geq (.t 35) (.c (.int .i64 20)), some (34, false)⟩,
   ⟨some 37, .pick (.t 34) (.c (.bool true)) (.t 36), none⟩])
 (.cond (.t 37)
  (.seq (.region [⟨some 6, .mv (.c (.val (.slice none 0 0))), none⟩,
    ⟨some 7, .mv (.c (.int .i64 1)), none⟩])
  .ret)
  .skip))
 (.seq (.region [⟨some 38, .load false 1 (.t 3), none⟩,
   ⟨some 39, .mv (.t 2), none⟩,
   ⟨some 40, .call 38 [(.t 38), (.t 39)], none⟩,
   ⟨some 9, .mv (.t 40), none⟩])
 (.seq (.region [⟨some 41, .mv (.t 9), none⟩,
   ⟨some 42, .mkfn (.func 40) [] [(.t 4)], none⟩,
   ⟨some 43, .call 39 [(.t 41), (.t 42)], none⟩,
   ⟨some 10, .mv (.t 43), none⟩])
 (.seq (.seq (.region [⟨some 44, .mv (.t 10), none⟩,
   ⟨some 45, .bin .lss (.t 44) (.c (.int .i64 0)), none⟩])
 (.cond (.t 45)
  (.seq (.region [⟨some 6, .mv (.c (.val (.slice none 0 0))), none⟩,
    ⟨some 7, .mv (.c (.int .i64 5)), none⟩])
  .ret)
  .skip))
 (.seq (.region [⟨some 46, .load false 1 (.t 3), none⟩,
   ⟨some 47, .len false (.t 46), none⟩,
   ⟨some 48, .mkslice false 1 1 [(.bool false)] (.t 47) (.t 47), none⟩,
   ⟨some 11, .alloc [(.isl 1 [] true)], none⟩,
   ⟨none, .store 1 (.t 11) (.t 48), none⟩])
 (.seq (.region [⟨some 49, .load false 1 (.t 11), none⟩,
   ⟨some 50, .load false 1 (.t 4), none⟩,
   ⟨some 51, .iaddr 1 (.t 49) (.t 50), none⟩,
   ⟨none, .store 1 (.t 51) (.c (.bool true)), none⟩])
 (.seq (.region [⟨some 12, .alloc [(.isl 3 [] true)], none⟩])
 (.seq (.seq (.region [⟨some 52, .mv (.t 9), none⟩,
   ⟨some 53, .mv (.t 10), none⟩,
   ⟨some 54, .bin .add (.t 53) (.c (.int .i64 1)), none⟩,
   ⟨some 55, .slSl 3 (.t 52) none (some (.t 54)) none, none⟩,
   ⟨some 56, .call 41 [(.t 55)], none⟩])
 (.block 0
  (.rng (.t 56) [57, 58]
   (.region [⟨some 14, .alloc [(.int .i64 0), (.int .i64 0), (.int .i64 0)], none⟩,
     ⟨none, .store 3 (.t 14) (.t 58), none⟩])
   (.block 1
    (.seq (.seq (.region [⟨some 59, .load false 1 (.t 11), none⟩,
      ⟨some 60, .faddr 0 (.t 14), none⟩,
      ⟨some 61, .load false 1 (.t 60), none⟩,
      ⟨some 62, .iaddr 1 (.t 59) (.t 61), none⟩,
      ⟨some 63, .load false 1 (.t 62), none⟩,
      ⟨some 64, .un .not (.t 63), none⟩])
    (.cond (.t 64)
     (.exit 1)
     .skip))
    (.seq (.region [⟨some 65, .load false 1 (.t 12), none⟩,
      ⟨some 66, .load true 3 (.t 14), none⟩,
      ⟨some 67, .mkSl true 3 [(.int .i64 0), (.int .i64 0), (.int .i64 0)] 1 [(0, (.t 66))], none⟩,
      ⟨some 68, .app false 3 24 (.t 65) (.t 67), none⟩,
      ⟨none, .store 1 (.t 12) (.t 68), none⟩])
    (.seq (.draw [⟨⟨some 69, .load false 1 (.t 3), none⟩, []⟩,
      ⟨⟨some 70, .faddr 0 (.t 14), none⟩, []⟩,
      ⟨⟨some 71, .load false 1 (.t 70), none⟩, []⟩,
      ⟨⟨some 72, .iaddr 1 (.t 69) (.t 71), none⟩, []⟩,
      ⟨⟨some 73, .load false 1 (.t 72), none⟩, []⟩,
      ⟨⟨some 74, .faddr 1 (.t 14), none⟩, []⟩,
      ⟨⟨some 75, .load false 1 (.t 74), none⟩, []⟩,
      ⟨⟨some 76, .iaddr 2 (.t 73) (.t 75), none⟩, []⟩,
      ⟨⟨some 77, .faddr 1 (.t 76), none⟩, []⟩,
      ⟨⟨some 78, .load false 1 (.t 77), none⟩, []⟩,
      ⟨⟨some 79, .len false (.t 78), none⟩, []⟩,
      ⟨⟨some 80, .mv (.c (.int .i64 0)), none⟩, []⟩])
    (.block 2
     (.loop
      (.seq (.region [⟨some 81, .bin .lss (.t 80) (.t 79), none⟩])
      (.seq (.cond (.t 81)
       .skip
       (.exit 2))
      (.seq (.block 3
       (.seq (.region [⟨some 82, .iaddr 1 (.t 78) (.t 80), none⟩,
         ⟨some 83, .load false 1 (.t 82), none⟩,
         ⟨some 16, .mv (.t 83), none⟩])
       (.region [⟨some 84, .load false 1 (.t 11), none⟩,
         ⟨some 85, .mv (.t 16), none⟩,
         ⟨some 86, .iaddr 1 (.t 84) (.t 85), none⟩,
         ⟨none, .store 1 (.t 86) (.c (.bool true)), none⟩])))
      (.region [⟨some 87, .bin .add (.t 80) (.c (.int .i64 1)), none⟩,
        ⟨some 80, .mv (.t 87), none⟩])))))))))))))
 f22_c0))))))))))
def f22_lay : Lay := ⟨91, [48, 68], false⟩
def f22_res : List LRes := [.t 6, .t 7]
def f22_L : LFn := ⟨3, f22_lay, f22_c1, f22_res⟩
theorem f22_low : lowFn Try.prog [48, 68] 22 = some f22_L := by kernel_rfl
theorem f22_fok : FnOk Try.prog 22 := ⟨_, Try.func22, rfl, rfl⟩
noncomputable def S_fixpoint_Derive_j1 (m : Option Nat) (v5 : ((List Bool) × (List G_QDerivation))) : Option ((List G_QDerivation) × Int) :=
  (S_slices_Reverse_api_QDerivation_42 m v5.2).bind fun v6 =>
  if v6.length = v5.2.length then
  some (v6, 0)
  else none

def f22_Q (a0 : List (List G_QRule)) (a1 : Int) (a2 : Int) (o : (List G_QDerivation) × Int) : Exit → Env → AHeap → Nat → Prop := FinK f22_res (PureEnd (.tup [.isl 3 (o.1.map eD) false, .int .i64 o.2]))

theorem f22_j1_ok {a0 : List (List G_QRule)} {a1 : Int} {a2 : Int} {v5 : ((List Bool) × (List G_QDerivation))} {m : Option Nat} {o : ((List G_QDerivation) × Int)} (h : S_fixpoint_Derive_j1 m v5 = some o) :
    LWp Try.prog f22_lay 0 f22_c0 (f22_Q a0 a1 a2 o) [(12, .ptr (0, 0) 0 0)] [((0, 0), .one [.msl (1, 0) 3 0 v5.2.length false]), ((1, 0), .rows 3 (v5.2.map eD))] 2 := by
  unfold S_fixpoint_Derive_j1 at h
  refine seqI ?_
  refine regI ?_
  obtain ⟨v6, h13, h⟩ := bind_some h
  refine bcall (k := 3) (m := 0) (L' := [((1, 0), .rows 3 (v6.map eD))]) (rest := [((0, 0), .one [.msl (1, 0) 3 0 v5.2.length false])]) (R' := .tup []) [((0, 0), (1, 0))] (f42b0_ok h13) rfl rfl rfl (AI (Vw.mslE rfl (by first | rfl | (simp; done) | (simp at *; omega)) rfl) TT) (AI (h0I (1, 0) rfl rfl (BVw.enc eD (fun _ => rfl) _ v5.2)) TT) (nid_ren _ rfl) (AI rfl (AI (rows_ren eD (fun _ => rfl) _ _) TT)) rfl ?_
  obtain ⟨h14, h⟩ := ite_some h
  refine seqI ?_
  refine regI ?_
  refine retI ?_
  cases h
  exact AI TT (AI TT (AI rfl (Vw.tupL (AI (Vw.frzB eD eD_ok (fun h => h) rfl rfl (by first | rfl | (simp; done) | (simp at *; omega))) (AI (VS rfl) TT)))))

noncomputable def S_fixpoint_Derive (m : Option Nat) (a0 : List (List G_QRule)) (a1 : Int) (a2 : Int) : Option ((List G_QDerivation) × Int) :=
  (S_fixpoint_Check m a0).bind fun v1 =>
  if (v1 != 0) = true then
    some ([], v1)
  else
    if ((((decide (a1 < 0)) || (decide (a1 ≥ ((a0.map eB).length : Int)))) || (decide (a2 < 0))) || (decide (a2 ≥ 20))) = true then
      some ([], 1)
    else
      (S_fixpoint_derivations m a0 a2).bind fun v2 =>
      (S_slices_IndexFunc_api_QDerivation (fun (s : Unit) (x : G_QDerivation) => (S_fixpoint_Derive_1c m a1 x).map fun o => (o, ())) m v2 ()).bind fun v3 =>
      if (decide (v3.1 < 0)) = true then
        some ([], 5)
      else
        if (0 : Int) ≤ ((a0.map eB).length : Int) ∧ ((a0.map eB).length : Int) ≤ ((a0.map eB).length : Int) ∧ ((a0.map eB).length : Int) * 1 ≤ 140737488355328 then
        if (0 : Int) ≤ a1 ∧ a1 < ((((List.replicate ((a0.map eB).length : Int).toNat false).map e_bool).length : Nat) : Int) then
        if (0 + a1.toNat) < (List.replicate ((a0.map eB).length : Int).toNat false).length then
        if (0 : Int) ≤ (W (v3.1 + 1)) ∧ (W (v3.1 + 1)) ≤ ((v2.map eD).length : Int) then
        (S_slices_Backward_api_QDerivation m (v2.take (W (v3.1 + 1)).toNat)).bind fun v4 =>
        (S_slices_Backward_api_QDerivation_1 (fun (s : ((List Bool) × (List G_QDerivation))) (x : (Int × G_QDerivation)) => (S_fixpoint_Derive_roundc m a0 s.1 s.2 x.1 x.2).map fun o => (o.1, (o.2.1, o.2.2))) m (v2.take (W (v3.1 + 1)).toNat) (((List.replicate ((a0.map eB).length : Int).toNat false).set (0 + a1.toNat) true), ([] : List G_QDerivation))).bind fun v5 =>
        S_fixpoint_Derive_j1 m v5
        else none
        else none
        else none
        else none

theorem f22_start {a0 : List (List G_QRule)} {a1 : Int} {a2 : Int} {m : Option Nat} {o : (List G_QDerivation) × Int} (h : S_fixpoint_Derive m a0 a1 a2 = some o) : LWp Try.prog f22_lay 0 f22_c1 (f22_Q a0 a1 a2 o) (initEnv 0 [.isl 1 (a0.map eB) false, .int .i64 a1, .int .i64 a2]) [] 0 := by
  unfold S_fixpoint_Derive at h
  refine seqI ?_
  refine regI ?_
  refine seqI ?_
  refine seqI ?_
  refine regI ?_
  obtain ⟨v1, h1, h⟩ := bind_some h
  refine PFn.call (f10_ok h1) (AI (VS rfl) TT) ?_
  refine seqI ?_
  refine regI ?_
  refine LWp.sim (e := [(2, .int .i64 a2), (3, .ptr (0, 0) 0 0), (4, .ptr (1, 0) 0 0), (8, .int .i64 v1), (20, .bool (v1 != 0))]) (L := [((0, 0), .one [.isl 1 (a0.map eB) false]), ((1, 0), .one [.int .i64 a1])]) (n := 2) ?_ ?_
  · exact simI (M := [((0, 0), (0, 0)), ((1, 0), (1, 0))]) rfl (AI (VS rfl) (AI (Vw.ptr _ _ _ _ rfl) (AI (Vw.ptr _ _ _ _ rfl) (AI (VS rfl) (AI (VS rfl) TT))))) (AI (AI rfl (BVw.oneL (AI (VS rfl) TT))) (AI (AI rfl (BVw.oneL (AI (VS rfl) TT))) TT))
  refine condI (v := (v1 != 0)) rfl TT (fun h2 => ?_) (fun h2 => ?_)
  · have h := ite_tt h2 h
    refine seqI ?_
    refine regI ?_
    refine retI ?_
    cases h
    exact AI TT (AI TT (AI rfl (Vw.tupL (AI (Vw.nilI _ _) (AI (VS rfl) TT)))))
  · have h := ite_ff h2 h
    refine skipI ?_
    refine seqI ?_
    refine seqI ?_
    refine regI ?_
    refine AI (fun hp => hp) ?_
    refine AI (fun hp => (AI hp hp)) ?_
    refine AI (fun hc => (bqf hc)) ?_
    refine AI (fun hp => hp) ?_
    refine AI (fun hc => (bqf hc)) ?_
    refine AI (fun hp => hp) ?_
    refine AI (fun hc => (bqf hc)) ?_
    refine LWp.sim (e := [(2, .int .i64 a2), (3, .ptr (0, 0) 0 0), (4, .ptr (1, 0) 0 0), (37, .bool ((((decide (a1 < 0)) || (decide (a1 ≥ ((a0.map eB).length : Int)))) || (decide (a2 < 0))) || (decide (a2 ≥ 20))))]) (L := [((0, 0), .one [.isl 1 (a0.map eB) false]), ((1, 0), .one [.int .i64 a1])]) (n := 2) ?_ ?_
    · exact simI (M := [((0, 0), (0, 0)), ((1, 0), (1, 0))]) rfl (AI (VS rfl) (AI (Vw.ptr _ _ _ _ rfl) (AI (Vw.ptr _ _ _ _ rfl) (AI (VS rfl) TT)))) (AI (AI rfl (BVw.oneL (AI (VS rfl) TT))) (AI (AI rfl (BVw.oneL (AI (VS rfl) TT))) TT))
    refine condI (v := ((((decide (a1 < 0)) || (decide (a1 ≥ ((a0.map eB).length : Int)))) || (decide (a2 < 0))) || (decide (a2 ≥ 20)))) rfl TT (fun h3 => ?_) (fun h3 => ?_)
    · have h := ite_tt h3 h
      refine seqI ?_
      refine regI ?_
      refine retI ?_
      cases h
      exact AI TT (AI TT (AI rfl (Vw.tupL (AI (Vw.nilI _ _) (AI (VS rfl) TT)))))
    · have h := ite_ff h3 h
      refine skipI ?_
      refine seqI ?_
      refine regI ?_
      obtain ⟨v2, h4, h⟩ := bind_some h
      refine PFn.call (f38_ok h4) (AI (VS rfl) (AI (VS rfl) TT)) ?_
      refine seqI ?_
      refine regI ?_
      obtain ⟨v3, h5, h⟩ := bind_some h
      refine bcall (k := 3) (m := 1) (L' := [((1, 0), .one [.int .i64 a1])]) (rest := [((0, 0), .one [.isl 1 (a0.map eB) false])]) (R' := .int .i64 v3.1) [((1, 0), (1, 0))] (f39b0_ok (show Clo Try.prog (.func 40) [] [.ptr (1, 0) 0 0] (fun (s : Unit) => [((1, 0), .one [.int .i64 a1])]) (fun (x : G_QDerivation) => [.agg [.int .i64 x.f_Set, .int .i64 x.f_Rule, .int .i64 x.f_Element]]) (fun (b : Bool) => .bool b) (fun (s : Unit) (x : G_QDerivation) => (S_fixpoint_Derive_1c m a1 x).map fun o => (o, ())) from Clo.mk' (fun s => Tl.lit rfl (AI (rfl) TT) rfl) rfl rfl (fun _ => rfl) (fun s x o h => by obtain ⟨o1, h1, rfl⟩ := Option.map_eq_some_iff.1 h; exact EX _ (AI (f40c0_ok h1) (AI rfl (AI rfl TT))))) h5) rfl rfl rfl (AI (VS rfl) (AI (Vw.fnL TT (AI (Vw.ptr _ _ _ _ rfl) TT)) TT)) (AI (h0I (1, 0) rfl rfl (BVw.oneL (AI (VS rfl) TT))) TT) (nid_ren _ rfl) (AI rfl (AI rfl TT)) rfl ?_
      refine LWp.sim (e := [(3, .ptr (0, 0) 0 0), (4, .ptr (1, 0) 0 0), (9, .isl 3 (v2.map eD) false), (10, .int .i64 v3.1)]) (L := [((0, 0), .one [.isl 1 (a0.map eB) false]), ((1, 0), .one [.int .i64 a1])]) (n := 2) ?_ ?_
      · exact simI (M := [((0, 0), (0, 0)), ((1, 0), (1, 0))]) rfl (AI (Vw.ptr _ _ _ _ rfl) (AI (Vw.ptr _ _ _ _ rfl) (AI (VS rfl) (AI (VS rfl) TT)))) (AI (AI rfl (BVw.oneL (AI (VS rfl) TT))) (AI (AI rfl (BVw.oneL (AI (VS rfl) TT))) TT))
      refine seqI ?_
      refine seqI ?_
      refine regI ?_
      refine condI (v := (decide (v3.1 < 0))) rfl TT (fun h6 => ?_) (fun h6 => ?_)
      · have h := ite_tt h6 h
        refine seqI ?_
        refine regI ?_
        refine retI ?_
        cases h
        exact AI TT (AI TT (AI rfl (Vw.tupL (AI (Vw.nilI _ _) (AI (VS rfl) TT)))))
      · have h := ite_ff h6 h
        refine skipI ?_
        refine seqI ?_
        refine regI ?_
        obtain ⟨h7, h⟩ := ite_some h
        refine EX ((List.replicate ((a0.map eB).length : Int).toNat false).map e_bool) (EX true (AI (Or.inl (repl_enc e_bool ((a0.map eB).length : Int).toNat false)) (AI (by simp) (AI h7 ?_))))
        refine seqI ?_
        refine regI ?_
        obtain ⟨h8, h⟩ := ite_some h
        refine AI h8 ?_
        obtain ⟨h9, h⟩ := ite_some h
        refine EX (((List.replicate ((a0.map eB).length : Int).toNat false).set (0 + a1.toNat) true).map e_bool) (AI (set_enc e_bool _ _ _ _ _ h9 rfl) (AI (AI rfl (AI (lt_map e_bool h9) (NB rfl))) ?_))
        refine LWp.sim (e := [(3, .ptr (0, 0) 0 0), (9, .isl 3 (v2.map eD) false), (10, .int .i64 v3.1), (11, .ptr (1, 0) 0 0)]) (L := [((0, 0), .one [.isl 1 (a0.map eB) false]), ((1, 0), .one [.msl (2, 0) 1 0 (((List.replicate ((a0.map eB).length : Int).toNat false).map e_bool).length) true]), ((2, 0), .rows 1 (((List.replicate ((a0.map eB).length : Int).toNat false).set (0 + a1.toNat) true).map e_bool))]) (n := 3) ?_ ?_
        · exact simI (M := [((0, 0), (0, 0)), ((1, 0), (3, 0)), ((2, 0), (2, 0))]) rfl (AI (Vw.ptr _ _ _ _ rfl) (AI (VS rfl) (AI (VS rfl) (AI (Vw.ptr _ _ _ _ rfl) TT)))) (AI (AI rfl (BVw.oneL (AI (VS rfl) TT))) (AI (AI rfl (BVw.oneL (AI (Vw.mslE rfl (by first | rfl | (simp; done) | (simp at *; omega)) rfl) TT))) (AI (AI rfl (BVw.enc e_bool (fun _ => rfl) _ ((List.replicate ((a0.map eB).length : Int).toNat false).set (0 + a1.toNat) true))) TT)))
        refine seqI ?_
        refine regI ?_
        refine LWp.ghost (b := (3, 0)) 3 rfl rfl ?_
        refine LWp.sim (e := [(3, .ptr (0, 0) 0 0), (9, .isl 3 (v2.map eD) false), (10, .int .i64 v3.1), (11, .ptr (1, 0) 0 0), (12, .ptr (2, 0) 0 0)]) (L := [((0, 0), .one [.isl 1 (a0.map eB) false]), ((1, 0), .one [.msl (3, 0) 1 0 (((List.replicate ((a0.map eB).length : Int).toNat false).map e_bool).length) true]), ((2, 0), .one [.msl (4, 0) 3 0 (([] : List G_QDerivation).length) false]), ((3, 0), .rows 1 (((List.replicate ((a0.map eB).length : Int).toNat false).set (0 + a1.toNat) true).map e_bool)), ((4, 0), .rows 3 (([] : List G_QDerivation).map eD))]) (n := 5) ?_ ?_
        · exact simI (M := [((0, 0), (0, 0)), ((1, 0), (1, 0)), ((2, 0), (3, 0)), ((3, 0), (2, 0)), ((4, 0), (4, 0))]) rfl (AI (Vw.ptr _ _ _ _ rfl) (AI (VS rfl) (AI (VS rfl) (AI (Vw.ptr _ _ _ _ rfl) (AI (Vw.ptr _ _ _ _ rfl) TT))))) (AI (AI rfl (BVw.oneL (AI (VS rfl) TT))) (AI (AI rfl (BVw.oneL (AI (Vw.mslE rfl (by first | rfl | (simp; done) | (simp at *; omega)) rfl) TT))) (AI (AI rfl (BVw.oneL (AI (Vw.islM _ _ _ _ _ _ rfl rfl) TT))) (AI (AI rfl (BVw.enc e_bool (fun _ => rfl) _ ((List.replicate ((a0.map eB).length : Int).toNat false).set (0 + a1.toNat) true))) (AI (AI rfl (BVw.enc eD (fun _ => rfl) _ ([] : List G_QDerivation))) TT)))))
        refine seqI ?_
        refine seqI ?_
        refine regI ?_
        obtain ⟨h10, h⟩ := ite_some h
        refine EX (.isl 3 ((v2.take (W (v3.1 + 1)).toNat).map eD) false) (AI (sl_eq eD (slB eD v2 _) rfl) (AI (AI rfl (AI (Int.le_refl _) h10)) ?_))
        obtain ⟨v4, h11, h⟩ := bind_some h
        refine bcall (k := 3) (m := 1) (L' := [((5, 0), .one [.isl 3 ((v2.take (W (v3.1 + 1)).toNat).map eD) false])]) (rest := [((0, 0), .one [.isl 1 (a0.map eB) false]), ((1, 0), .one [.msl (3, 0) 1 0 (((List.replicate ((a0.map eB).length : Int).toNat false).map e_bool).length) true]), ((2, 0), .one [.msl (4, 0) 3 0 (([] : List G_QDerivation).length) false]), ((3, 0), .rows 1 (((List.replicate ((a0.map eB).length : Int).toNat false).set (0 + a1.toNat) true).map e_bool)), ((4, 0), .rows 3 (([] : List G_QDerivation).map eD))]) (R' := .fn (.func 49) [] [.ptr (5, 0) 0 0]) [] (f41b0_ok h11) rfl rfl rfl (AI (VS rfl) TT) TT rfl (AI rfl (AI rfl TT)) rfl ?_
        refine blockI ?_
        refine LWp.sim (e := [(3, .ptr (0, 0) 0 0), (11, .ptr (1, 0) 0 0), (12, .ptr (2, 0) 0 0), (56, .fn (.func 49) [] [.ptr (3, 0) 0 0])]) (L := [((0, 0), .one [.isl 1 (a0.map eB) false]), ((1, 0), .one [.msl (4, 0) 1 0 (((List.replicate ((a0.map eB).length : Int).toNat false).map e_bool).length) true]), ((2, 0), .one [.msl (5, 0) 3 0 (([] : List G_QDerivation).length) false]), ((3, 0), .one [.isl 3 ((v2.take (W (v3.1 + 1)).toNat).map eD) false]), ((4, 0), .rows 1 (((List.replicate ((a0.map eB).length : Int).toNat false).set (0 + a1.toNat) true).map e_bool)), ((5, 0), .rows 3 (([] : List G_QDerivation).map eD))]) (n := 6) ?_ ?_
        · exact simI (M := [((0, 0), (0, 0)), ((1, 0), (1, 0)), ((2, 0), (2, 0)), ((3, 0), (5, 0)), ((4, 0), (3, 0)), ((5, 0), (4, 0))]) rfl (AI (Vw.ptr _ _ _ _ rfl) (AI (Vw.ptr _ _ _ _ rfl) (AI (Vw.ptr _ _ _ _ rfl) (AI (Vw.fnL TT (AI (Vw.ptr _ _ _ _ rfl) TT)) TT)))) (AI (AI rfl (BVw.oneL (AI (VS rfl) TT))) (AI (AI rfl (BVw.oneL (AI (Vw.mslE rfl (by first | rfl | (simp; done) | (simp at *; omega)) rfl) TT))) (AI (AI rfl (BVw.oneL (AI (Vw.mslE rfl (by first | rfl | (simp; done) | (simp at *; omega)) rfl) TT))) (AI (AI rfl (BVw.oneL (AI (VS rfl) TT))) (AI (AI rfl (BVw.enc e_bool (fun _ => rfl) _ ((List.replicate ((a0.map eB).length : Int).toNat false).set (0 + a1.toNat) true))) (AI (AI rfl (BVw.enc eD (fun _ => rfl) _ ([] : List G_QDerivation))) TT))))))
        refine LWp_rng (gf := 49) (lb := [.ptr (3, 0) 0 0]) [(3, .ptr (0, 0) 0 0), (11, .ptr (1, 0) 0 0), (12, .ptr (2, 0) 0 0)] rfl TT (AI (rfl) (AI (rfl) (AI (rfl) TT))) (fun l r hr => ?_)
        obtain ⟨v5, h12, h⟩ := bind_some h
        refine bcall (k := 3) (m := 1) (L' := [((3, 0), .one [.isl 3 ((v2.take (W (v3.1 + 1)).toNat).map eD) false]), ((0, 0), .one [.isl 1 (a0.map eB) false]), ((1, 0), .one [.msl (7, 0) 1 0 v5.1.length true]), ((2, 0), .one [.msl (7, 1) 3 0 v5.2.length false]), ((6, 0), .lrec l r [(3, .ptr (0, 0) 0 0), (11, .ptr (1, 0) 0 0), (12, .ptr (2, 0) 0 0)]), ((7, 0), .rows 1 (v5.1.map e_bool)), ((7, 1), .rows 3 (v5.2.map eD))]) (rest := []) (R' := .tup []) [((0, 0), (3, 0)), ((1, 0), (0, 0)), ((1, 1), (1, 0)), ((1, 2), (2, 0)), ((2, 0), (4, 0)), ((2, 1), (5, 0)), ((1, 3), (6, 0))] (f49b0_ok (show Clo Try.prog (.yield l) [] [] (fun (s : ((List Bool) × (List G_QDerivation))) => [((1, 0), .one [.isl 1 (a0.map eB) false]), ((1, 1), .one [.msl (2, 0) 1 0 s.1.length true]), ((1, 2), .one [.msl (2, 1) 3 0 s.2.length false]), ((1, 3), .lrec l r [(3, .ptr (1, 0) 0 0), (11, .ptr (1, 1) 0 0), (12, .ptr (1, 2) 0 0)]), ((2, 0), .rows 1 (s.1.map e_bool)), ((2, 1), .rows 3 (s.2.map eD))]) (fun (x : (Int × G_QDerivation)) => [.int .i64 x.1, .agg [.int .i64 x.2.f_Set, .int .i64 x.2.f_Rule, .int .i64 x.2.f_Element]]) (fun (b : Bool) => .bool b) (fun (s : ((List Bool) × (List G_QDerivation))) (x : (Int × G_QDerivation)) => (S_fixpoint_Derive_roundc m a0 s.1 s.2 x.1 x.2).map fun o => (o.1, (o.2.1, o.2.2))) from Clo.mkY (fun s => Tl.lit rfl (AI (rfl) (AI (rfl) (AI (rfl) (AI (rfl) (AI (rows_inP e_bool (fun _ => rfl) _ _) (AI (rows_inP eD (fun _ => rfl) _ _) TT)))))) rfl) (fun _ => rfl) (fun s x o h => by obtain ⟨o1, h1, rfl⟩ := Option.map_eq_some_iff.1 h; exact EX _ (AI (f1000000c0_ok hr h1) (AI rfl (AI rfl (AI rfl (AI rfl (AI rfl (AI rfl (AI rfl (AI rfl (AI rfl (AI (rows_ren e_bool (fun _ => rfl) _ _) (AI rfl (AI (rows_ren eD (fun _ => rfl) _ _) TT))))))))))))))) h12) rfl rfl rfl (AI (VS rfl) (AI (Vw.ptr _ _ _ _ rfl) TT)) (AI (h0I (3, 0) rfl rfl (BVw.oneL (AI (VS rfl) TT))) (AI (h0I (0, 0) rfl rfl (BVw.oneL (AI (VS rfl) TT))) (AI (h0I (1, 0) rfl rfl (BVw.oneL (AI (Vw.mslE rfl (by first | rfl | (simp; done) | (simp at *; omega)) rfl) TT))) (AI (h0I (2, 0) rfl rfl (BVw.oneL (AI (Vw.mslE rfl (by first | rfl | (simp; done) | (simp at *; omega)) rfl) TT))) (AI (h0I (6, 0) rfl rfl (BVw.lrecL (AI (AI rfl (Vw.ptr _ _ _ _ rfl)) (AI (AI rfl (Vw.ptr _ _ _ _ rfl)) (AI (AI rfl (Vw.ptr _ _ _ _ rfl)) TT))))) (AI (h0I (4, 0) rfl rfl (BVw.enc e_bool (fun _ => rfl) _ ((List.replicate ((a0.map eB).length : Int).toNat false).set (0 + a1.toNat) true))) (AI (h0I (5, 0) rfl rfl (BVw.enc eD (fun _ => rfl) _ ([] : List G_QDerivation))) TT))))))) (nid_ren _ rfl) (AI rfl (AI rfl (AI rfl (AI rfl (AI rfl (AI rfl (AI rfl (AI rfl (AI rfl (AI rfl (AI rfl (AI ((congrArg (ABlock.ren _) (rows_ren e_bool (fun _ => rfl) _ _)).trans (rows_ren e_bool (fun _ => rfl) _ _)) (AI rfl (AI ((congrArg (ABlock.ren _) (rows_ren eD (fun _ => rfl) _ _)).trans (rows_ren eD (fun _ => rfl) _ _)) TT)))))))))))))) rfl ?_
        refine EX (6, 0) (EX _ (AI rfl ?_))
        refine LWp.sim (e := [(12, .ptr (0, 0) 0 0)]) (L := [((0, 0), .one [.msl (1, 0) 3 0 v5.2.length false]), ((1, 0), .rows 3 (v5.2.map eD))]) (n := 2) ?_ ?_
        · exact simI (M := [((0, 0), (2, 0)), ((1, 0), (7, 1))]) rfl (AI (Vw.ptr _ _ _ _ rfl) TT) (AI (AI rfl (BVw.oneL (AI (Vw.mslE rfl (by first | rfl | (simp; done) | (simp at *; omega)) rfl) TT))) (AI (AI rfl (BVw.enc eD (fun _ => rfl) _ v5.2)) TT))
        refine LWp.sim ?_ (f22_j1_ok h)
        exact simI (M := [((0, 0), (0, 0)), ((1, 0), (1, 0))]) rfl (AI (Vw.ptr _ _ _ _ rfl) TT) (AI (AI rfl (BVw.oneL (AI (Vw.mslE rfl (by first | rfl | (simp; done) | (simp at *; omega)) rfl) TT))) (AI (AI rfl (BVw.enc eD (fun _ => rfl) _ v5.2)) TT))

theorem f22_ok {a0 : List (List G_QRule)} {a1 : Int} {a2 : Int} {m : Option Nat} {o : (List G_QDerivation) × Int} (h : S_fixpoint_Derive m a0 a1 a2 = some o) : PFn Try.prog 22 [.isl 1 (a0.map eB) false, .int .i64 a1, .int .i64 a2] (.tup [.isl 3 (o.1.map eD) false, .int .i64 o.2]) := PFn.ofFnW (L := f22_L) f22_low f22_fok (NB rfl) rfl (f22_start h)

def f9_c1 : LCode := (.seq (.region [⟨some 32, .bin .lss (.t 31) (.t 30), none⟩])
 (.seq (.cond (.t 32)
  .skip
  (.exit 2))
 (.seq (.block 3
  (.seq (.region [⟨some 33, .iaddr 2 (.t 29) (.t 31), none⟩,
    ⟨some 34, .load true 2 (.t 33), none⟩,
    ⟨some 7, .alloc [(.int .i64 0), (.isl 1 [] true)], none⟩,
    ⟨none, .store 2 (.t 7) (.t 34), none⟩])
  (.region [⟨some 35, .mv (.t 3), none⟩,
    ⟨some 36, .mv (.t 35), none⟩,
    ⟨some 37, .faddr 1 (.t 7), some (36, false)⟩,
    ⟨some 38, .load false 1 (.t 37), some (36, false)⟩,
    ⟨some 39, .len false (.t 38), some (36, false)⟩,
    ⟨some 40, .bin .gtr (.t 39) (.c (.int .i64 60)), some (36, false)⟩,
    ⟨some 41, .pick (.t 36) (.c (.bool true)) (.t 40), none⟩,
    ⟨some 3, .mv (.t 41), none⟩])))
 (.region [⟨some 42, .bin .add (.t 31) (.c (.int .i64 1)), none⟩,
   ⟨some 31, .mv (.t 42), none⟩]))))
def f9_c0 : LCode := (.region [⟨some 43, .bin .add (.t 19) (.c (.int .i64 1)), none⟩,
   ⟨some 19, .mv (.t 43), none⟩])
def f9_c3 : LCode := (.seq (.region [⟨some 20, .bin .lss (.t 19) (.t 18), none⟩])
 (.seq (.cond (.t 20)
  .skip
  (.exit 0))
 (.seq (.block 1
  (.seq (.region [⟨some 21, .iaddr 1 (.t 17) (.t 19), none⟩,
    ⟨some 22, .load false 1 (.t 21), none⟩,
    ⟨some 5, .mv (.t 22), none⟩])
  (.seq (.region [⟨some 23, .mv (.t 3), none⟩,
    ⟨some 24, .mv (.t 23), none⟩,
    ⟨some 25, .mv (.t 5), some (24, false)⟩,
    ⟨some 26, .len false (.t 25), some (24, false)⟩,
    ⟨some 27, .bin .gtr (.t 26) (.c (.int .i64 20)), some (24, false)⟩,
    ⟨some 28, .pick (.t 24) (.c (.bool true)) (.t 27), none⟩,
    ⟨some 3, .mv (.t 28), none⟩])
  (.seq (.region [⟨some 29, .mv (.t 5), none⟩,
    ⟨some 30, .len false (.t 29), none⟩,
    ⟨some 31, .mv (.c (.int .i64 0)), none⟩])
  (.block 2
   (.loop
    f9_c1))))))
 f9_c0)))
def f9_c5 : LCode := (.seq (.region [⟨some 69, .bin .lss (.t 68) (.t 67), none⟩])
 (.seq (.cond (.t 69)
  .skip
  (.exit 8))
 (.seq (.block 9
  (.seq (.region [⟨some 70, .iaddr 1 (.t 66) (.t 68), none⟩,
    ⟨some 71, .load false 1 (.t 70), none⟩,
    ⟨some 13, .mv (.t 71), none⟩])
  (.seq (.region [⟨some 72, .mv (.t 13), none⟩,
    ⟨some 73, .bin .lss (.t 72) (.c (.int .i64 0)), none⟩,
    ⟨some 74, .mv (.t 73), none⟩,
    ⟨some 75, .mv (.t 13), some (74, false)⟩,
    ⟨some 76, .mv (.t 0), some (74, false)⟩,
    ⟨some 77, .len false (.t 76), some (74, false)⟩,
    ⟨some 78, .bin .geq (.t 75) (.t 77), some (74, false)⟩,
    ⟨some 79, .pick (.t 74) (.c (.bool true)) (.t 78), none⟩])
  (.cond (.t 79)
   (.seq (.region [⟨some 2, .mv (.c (.int .i64 3)), none⟩])
   .ret)
   .skip))))
 (.region [⟨some 80, .bin .add (.t 68) (.c (.int .i64 1)), none⟩,
   ⟨some 68, .mv (.t 80), none⟩]))))
def f9_c4 : LCode := (.region [⟨some 81, .bin .add (.t 53) (.c (.int .i64 1)), none⟩,
   ⟨some 53, .mv (.t 81), none⟩])
def f9_c7 : LCode := (.seq (.region [⟨some 54, .bin .lss (.t 53) (.t 52), none⟩])
 (.seq (.cond (.t 54)
  .skip
  (.exit 6))
 (.seq (.block 7
  (.seq (.region [⟨some 55, .iaddr 2 (.t 51) (.t 53), none⟩,
    ⟨some 56, .load true 2 (.t 55), none⟩,
    ⟨some 11, .alloc [(.int .i64 0), (.isl 1 [] true)], none⟩,
    ⟨none, .store 2 (.t 11) (.t 56), none⟩])
  (.seq (.seq (.region [⟨some 57, .faddr 0 (.t 11), none⟩,
    ⟨some 58, .load false 1 (.t 57), none⟩,
    ⟨some 59, .bin .lss (.t 58) (.c (.int .i64 0)), none⟩,
    ⟨some 60, .mv (.t 59), none⟩,
    ⟨some 61, .faddr 0 (.t 11), some (60, false)⟩,
    ⟨some 62, .load false 1 (.t 61), some (60, false)⟩,
    ⟨some 63, .bin .geq (.t 62) (.c (.int .i64 1048576)), some (60, false)⟩,
    ⟨some 64, .pick (.t 60) (.c (.bool true)) (.t 63), none⟩])
  (.cond (.t 64)
   (.seq (.region [⟨some 2, .mv (.c (.int .i64 1)), none⟩])
   .ret)
   .skip))
  (.seq (.region [⟨some 65, .faddr 1 (.t 11), none⟩,
    ⟨some 66, .load false 1 (.t 65), none⟩,
    ⟨some 67, .len false (.t 66), none⟩,
    ⟨some 68, .mv (.c (.int .i64 0)), none⟩])
  (.block 8
   (.loop
    f9_c5))))))
 f9_c4)))
def f9_c6 : LCode := (.region [⟨some 82, .bin .add (.t 47) (.c (.int .i64 1)), none⟩,
   ⟨some 47, .mv (.t 82), none⟩])
def f9_c9 : LCode := (.seq (.region [⟨some 48, .bin .lss (.t 47) (.t 46), none⟩])
 (.seq (.cond (.t 48)
  .skip
  (.exit 4))
 (.seq (.block 5
  (.seq (.region [⟨some 49, .iaddr 1 (.t 45) (.t 47), none⟩,
    ⟨some 50, .load false 1 (.t 49), none⟩,
    ⟨some 9, .mv (.t 50), none⟩])
  (.seq (.region [⟨some 51, .mv (.t 9), none⟩,
    ⟨some 52, .len false (.t 51), none⟩,
    ⟨some 53, .mv (.c (.int .i64 0)), none⟩])
  (.block 6
   (.loop
    f9_c7)))))
 f9_c6)))
def f9_c8 : LCode := (.seq (.region [⟨some 2, .mv (.c (.int .i64 0)), none⟩])
 .ret)
def f9_c2 : LCode := (.seq (.seq (.region [⟨some 44, .mv (.t 3), none⟩])
 (.cond (.t 44)
  (.seq (.region [⟨some 2, .mv (.c (.int .i64 2)), none⟩])
  .ret)
  .skip))
 (.seq (.seq (.region [⟨some 45, .mv (.t 0), none⟩,
   ⟨some 46, .len false (.t 45), none⟩,
   ⟨some 47, .mv (.c (.int .i64 0)), none⟩])
 (.block 4
  (.loop
   f9_c9)))
 f9_c8))
def f9_c10 : LCode := (.seq (.region [⟨some 2, .mv (.c (.int .i64 0)), none⟩])
 (.seq (.region [⟨some 14, .mv (.t 0), none⟩,
   ⟨some 15, .len false (.t 14), none⟩,
   ⟨some 16, .bin .gtr (.t 15) (.c (.int .i64 60)), none⟩,
   ⟨some 3, .mv (.t 16), none⟩])
 (.seq (.seq (.region [⟨some 17, .mv (.t 0), none⟩,
   ⟨some 18, .len false (.t 17), none⟩,
   ⟨some 19, .mv (.c (.int .i64 0)), none⟩])
 (.block 0
  (.loop
   f9_c3)))
 f9_c2)))
def f9_lay : Lay := ⟨83, [], false⟩
def f9_res : List LRes := [.t 2]
def f9_L : LFn := ⟨1, f9_lay, f9_c10, f9_res⟩
theorem f9_low : lowFn Try.prog [] 9 = some f9_L := by kernel_rfl
theorem f9_fok : FnOk Try.prog 9 := ⟨_, Try.func9, rfl, rfl⟩
def f9_Q (a0 : List (List G_QRule)) (o : Int) : Exit → Env → AHeap → Nat → Prop := FinK f9_res (PureEnd (.int .i64 o))

def f9_L3_env (a0 : List (List G_QRule)) (s : (Bool × Int)) : Env := [(0, .isl 1 (a0.map eB) false), (3, .bool s.1), (17, .isl 1 (a0.map eB) false), (18, .int .i64 ((a0.map eB).length : Int)), (19, .int .i64 s.2)]
def f9_L3_hp (a0 : List (List G_QRule)) (s : (Bool × Int)) : AHeap := []
def f9_L3_Q (a0 : List (List G_QRule)) (o : Int) : Exit → Env → AHeap → Nat → Prop := (QBlock 0 (QSeq Try.prog f9_lay 0 f9_c2 (f9_Q a0 o)))

def f9_L4_env (a0 : List (List G_QRule)) (v4 : Int) (s : (Bool × Int)) : Env := [(0, .isl 1 (a0.map eB) false), (3, .bool s.1), (17, .isl 1 (a0.map eB) false), (18, .int .i64 ((a0.map eB).length : Int)), (19, .int .i64 v4), (29, .isl 2 ((a0.getD v4.toNat default).map e_QRule) false), (30, .int .i64 (((a0.getD v4.toNat default).map e_QRule).length : Int)), (31, .int .i64 s.2)]
def f9_L4_hp (a0 : List (List G_QRule)) (v4 : Int) (s : (Bool × Int)) : AHeap := []
def f9_L4_Q (a0 : List (List G_QRule)) (o : ((Bool × Int) ⊕ Int)) : Exit → Env → AHeap → Nat → Prop := (QBlock 2 (QBlock 1 (QSeq Try.prog f9_lay 0 f9_c0 (BodyQ 0 0 (f9_L3_env a0) (f9_L3_hp a0) (f9_L3_Q a0) o))))

noncomputable def S_glossatorref3_CheckRules_j3 (m : Option Nat) (a0 : List (List G_QRule)) (v4 : Int) (v7 : Bool) : Option ((Bool × Int) ⊕ Int) :=
  some (.inl (v7, (W (v4 + 1))))

noncomputable def S_glossatorref3_CheckRules_b4 (m : Option Nat) (a0 : List (List G_QRule)) (v4 : Int) (v7 : Bool) (v8 : Int) : Option ((Bool × Int) ⊕ ((Bool × Int) ⊕ Int)) :=
  if (decide (v8 < (((a0.getD v4.toNat default).map e_QRule).length : Int))) = true then
    if (0 : Int) ≤ v8 ∧ v8 < (((a0.getD v4.toNat default).map e_QRule).length : Int) then
    some (.inl ((v7 || (decide ((((((a0.getD v4.toNat default).getD v8.toNat default).f_All).map e_i64).length : Int) > 60))), (W (v8 + 1))))
    else none
  else
    Option.map Sum.inr (
      S_glossatorref3_CheckRules_j3 m a0 v4 v7)

noncomputable def S_glossatorref3_CheckRules_l4 (m : Option Nat) (a0 : List (List G_QRule)) (v4 : Int) (v7 : Bool) (v8 : Int) : Option ((Bool × Int) ⊕ Int) := loopM m (fun (s : (Bool × Int)) => S_glossatorref3_CheckRules_b4 m a0 v4 s.1 s.2) (v7, v8)

theorem f9_j3_ok {a0 : List (List G_QRule)} {v4 : Int} {v7 : Bool} {m : Option Nat} {o : ((Bool × Int) ⊕ Int)} (h : S_glossatorref3_CheckRules_j3 m a0 v4 v7 = some o) :
    LWp Try.prog f9_lay 0 f9_c0 (BodyQ 0 0 (f9_L3_env a0) (f9_L3_hp a0) (f9_L3_Q a0) o) [(0, .isl 1 (a0.map eB) false), (3, .bool v7), (17, .isl 1 (a0.map eB) false), (18, .int .i64 ((a0.map eB).length : Int)), (19, .int .i64 v4)] [] 0 := by
  unfold S_glossatorref3_CheckRules_j3 at h
  refine regI ?_
  cases h
  exact AI rfl (simI (M := []) rfl (AI (VS rfl) (AI (VS rfl) (AI (VS rfl) (AI (VS rfl) (AI (VS rfl) TT))))) TT)

theorem f9_L4_bok {a0 : List (List G_QRule)} {v4 : Int} {v7 : Bool} {v8 : Int} {m : Option Nat} {o : (Bool × Int) ⊕ ((Bool × Int) ⊕ Int)} (h : S_glossatorref3_CheckRules_b4 m a0 v4 v7 v8 = some o) :
    LWp Try.prog f9_lay 0 f9_c1 (BodyQ 0 0 (f9_L4_env a0 v4) (f9_L4_hp a0 v4) (f9_L4_Q a0) o) [(0, .isl 1 (a0.map eB) false), (3, .bool v7), (17, .isl 1 (a0.map eB) false), (18, .int .i64 ((a0.map eB).length : Int)), (19, .int .i64 v4), (29, .isl 2 ((a0.getD v4.toNat default).map e_QRule) false), (30, .int .i64 (((a0.getD v4.toNat default).map e_QRule).length : Int)), (31, .int .i64 v8)] [] 0 := by
  unfold S_glossatorref3_CheckRules_b4 at h
  refine seqI ?_
  refine regI ?_
  refine seqI ?_
  refine condI (v := (decide (v8 < (((a0.getD v4.toNat default).map e_QRule).length : Int)))) rfl TT (fun h23 => ?_) (fun h23 => ?_)
  · have h := ite_tt h23 h
    refine skipI ?_
    refine seqI ?_
    refine blockI ?_
    refine seqI ?_
    refine regI ?_
    obtain ⟨h24, h⟩ := ite_some h
    refine AI h24 ?_
    refine EX (e_QRule ((a0.getD v4.toNat default).getD v8.toNat default)) (AI (getD_enc e_QRule _ _ (idx_ltL e_QRule h24)) (AI (AI (idx_lt h24) (NB rfl)) ?_))
    refine regI ?_
    refine AI (fun hp => hp) ?_
    refine AI (fun hp => hp) ?_
    refine AI (fun hp => hp) ?_
    refine AI (fun hc => (bqf hc)) ?_
    refine LWp.sim (e := [(0, .isl 1 (a0.map eB) false), (3, .bool (v7 || (decide ((((((a0.getD v4.toNat default).getD v8.toNat default).f_All).map e_i64).length : Int) > 60)))), (17, .isl 1 (a0.map eB) false), (18, .int .i64 ((a0.map eB).length : Int)), (19, .int .i64 v4), (29, .isl 2 ((a0.getD v4.toNat default).map e_QRule) false), (30, .int .i64 (((a0.getD v4.toNat default).map e_QRule).length : Int)), (31, .int .i64 v8)]) (L := []) (n := 0) ?_ ?_
    · exact simI (M := []) rfl (AI (VS rfl) (AI (VS rfl) (AI (VS rfl) (AI (VS rfl) (AI (VS rfl) (AI (VS rfl) (AI (VS rfl) (AI (VS rfl) TT)))))))) TT
    refine regI ?_
    cases h
    exact AI rfl (simI (M := []) rfl (AI (VS rfl) (AI (VS rfl) (AI (VS rfl) (AI (VS rfl) (AI (VS rfl) (AI (VS rfl) (AI (VS rfl) (AI (VS rfl) TT)))))))) TT)
  · have h := ite_ff h23 h
    refine exitI ?_
    obtain ⟨o, hq, rfl⟩ := Option.map_eq_some_iff.1 h
    replace h := hq; clear hq
    refine AI nofun ?_
    refine LWp.sim ?_ (f9_j3_ok h)
    exact simI (M := []) rfl (AI (VS rfl) (AI (VS rfl) (AI (VS rfl) (AI (VS rfl) (AI (VS rfl) TT))))) TT

theorem f9_L4_ok {a0 : List (List G_QRule)} {v4 : Int} {v7 : Bool} {v8 : Int} {m : Option Nat} {o : ((Bool × Int) ⊕ Int)} (h : S_glossatorref3_CheckRules_l4 m a0 v4 v7 v8 = some o) :
    LWp Try.prog f9_lay 0 (.loop f9_c1) (QBlock 2 (QBlock 1 (QSeq Try.prog f9_lay 0 f9_c0 (BodyQ 0 0 (f9_L3_env a0) (f9_L3_hp a0) (f9_L3_Q a0) o)))) [(0, .isl 1 (a0.map eB) false), (3, .bool v7), (17, .isl 1 (a0.map eB) false), (18, .int .i64 ((a0.map eB).length : Int)), (19, .int .i64 v4), (29, .isl 2 ((a0.getD v4.toNat default).map e_QRule) false), (30, .int .i64 (((a0.getD v4.toNat default).map e_QRule).length : Int)), (31, .int .i64 v8)] [] 0 :=
  LWp_loopM (m := m) (s := ((v7, v8) : (Bool × Int))) (r := o) (fun (s : (Bool × Int)) => S_glossatorref3_CheckRules_b4 m a0 v4 s.1 s.2) (f9_L4_env a0 v4) (f9_L4_hp a0 v4) (f9_L4_Q a0) (fun s o h => f9_L4_bok h) h

noncomputable def S_glossatorref3_CheckRules_j15 (m : Option Nat) (a0 : List (List G_QRule)) (v13 : Int) (v19 : Int) : Option (Int ⊕ (Int ⊕ Int)) :=
  some (.inl (W (v19 + 1)))

noncomputable def S_glossatorref3_CheckRules_b17 (m : Option Nat) (a0 : List (List G_QRule)) (v13 : Int) (v19 : Int) (v21 : Int) : Option (Int ⊕ (Int ⊕ (Int ⊕ Int))) :=
  if (decide (v21 < (((((a0.getD v13.toNat default).getD v19.toNat default).f_All).map e_i64).length : Int))) = true then
    if (0 : Int) ≤ v21 ∧ v21 < (((((a0.getD v13.toNat default).getD v19.toNat default).f_All).map e_i64).length : Int) then
    if ((decide (((((a0.getD v13.toNat default).getD v19.toNat default).f_All).getD v21.toNat default) < 0)) || (decide (((((a0.getD v13.toNat default).getD v19.toNat default).f_All).getD v21.toNat default) ≥ ((a0.map eB).length : Int)))) = true then
      Option.map Sum.inr (
        Option.map Sum.inr (
          Option.map Sum.inr (
            some 3)))
    else
      some (.inl (W (v21 + 1)))
    else none
  else
    Option.map Sum.inr (
      S_glossatorref3_CheckRules_j15 m a0 v13 v19)

noncomputable def S_glossatorref3_CheckRules_l17 (m : Option Nat) (a0 : List (List G_QRule)) (v13 : Int) (v19 : Int) (v21 : Int) : Option (Int ⊕ (Int ⊕ Int)) := loopM m (fun (s : Int) => S_glossatorref3_CheckRules_b17 m a0 v13 v19 s) v21

noncomputable def S_glossatorref3_CheckRules_j16 (m : Option Nat) (a0 : List (List G_QRule)) (v13 : Int) : Option (Int ⊕ Int) :=
  some (.inl (W (v13 + 1)))

noncomputable def S_glossatorref3_CheckRules_b16 (m : Option Nat) (a0 : List (List G_QRule)) (v13 : Int) (v19 : Int) : Option (Int ⊕ (Int ⊕ Int)) :=
  if (decide (v19 < (((a0.getD v13.toNat default).map e_QRule).length : Int))) = true then
    if (0 : Int) ≤ v19 ∧ v19 < (((a0.getD v13.toNat default).map e_QRule).length : Int) then
    if ((decide (((a0.getD v13.toNat default).getD v19.toNat default).f_Mask < 0)) || (decide (((a0.getD v13.toNat default).getD v19.toNat default).f_Mask ≥ 1048576))) = true then
      Option.map Sum.inr (
        Option.map Sum.inr (
          some 1))
    else
      S_glossatorref3_CheckRules_l17 m a0 v13 v19 0
    else none
  else
    Option.map Sum.inr (
      S_glossatorref3_CheckRules_j16 m a0 v13)

noncomputable def S_glossatorref3_CheckRules_l16 (m : Option Nat) (a0 : List (List G_QRule)) (v13 : Int) (v19 : Int) : Option (Int ⊕ Int) := loopM m (fun (s : Int) => S_glossatorref3_CheckRules_b16 m a0 v13 s) v19

noncomputable def S_glossatorref3_CheckRules_j17 (m : Option Nat) : Option Int :=
  some 0

noncomputable def S_glossatorref3_CheckRules_b13 (m : Option Nat) (a0 : List (List G_QRule)) (v13 : Int) : Option (Int ⊕ Int) :=
  if (decide (v13 < ((a0.map eB).length : Int))) = true then
    if (0 : Int) ≤ v13 ∧ v13 < ((a0.map eB).length : Int) then
    S_glossatorref3_CheckRules_l16 m a0 v13 0
    else none
  else
    Option.map Sum.inr (
      S_glossatorref3_CheckRules_j17 m)

noncomputable def S_glossatorref3_CheckRules_l13 (m : Option Nat) (a0 : List (List G_QRule)) (v13 : Int) : Option Int := loopM m (fun (s : Int) => S_glossatorref3_CheckRules_b13 m a0 s) v13

noncomputable def S_glossatorref3_CheckRules_j4 (m : Option Nat) (a0 : List (List G_QRule)) (v3 : Bool) : Option Int :=
  if v3 = true then
    some 2
  else
    S_glossatorref3_CheckRules_l13 m a0 0

noncomputable def S_glossatorref3_CheckRules_b3 (m : Option Nat) (a0 : List (List G_QRule)) (v3 : Bool) (v4 : Int) : Option ((Bool × Int) ⊕ Int) :=
  if (decide (v4 < ((a0.map eB).length : Int))) = true then
    if (0 : Int) ≤ v4 ∧ v4 < ((a0.map eB).length : Int) then
    S_glossatorref3_CheckRules_l4 m a0 v4 (v3 || (decide ((((a0.getD v4.toNat default).map e_QRule).length : Int) > 20))) 0
    else none
  else
    Option.map Sum.inr (
      S_glossatorref3_CheckRules_j4 m a0 v3)

noncomputable def S_glossatorref3_CheckRules_l3 (m : Option Nat) (a0 : List (List G_QRule)) (v3 : Bool) (v4 : Int) : Option Int := loopM m (fun (s : (Bool × Int)) => S_glossatorref3_CheckRules_b3 m a0 s.1 s.2) (v3, v4)

def f9_L13_env (a0 : List (List G_QRule)) (s : Int) : Env := [(0, .isl 1 (a0.map eB) false), (45, .isl 1 (a0.map eB) false), (46, .int .i64 ((a0.map eB).length : Int)), (47, .int .i64 s)]
def f9_L13_hp (a0 : List (List G_QRule)) (s : Int) : AHeap := []
def f9_L13_Q (a0 : List (List G_QRule)) (o : Int) : Exit → Env → AHeap → Nat → Prop := (QBlock 4 (QSeq Try.prog f9_lay 0 f9_c8 (f9_Q a0 o)))

def f9_L16_env (a0 : List (List G_QRule)) (v13 : Int) (s : Int) : Env := [(0, .isl 1 (a0.map eB) false), (45, .isl 1 (a0.map eB) false), (46, .int .i64 ((a0.map eB).length : Int)), (47, .int .i64 v13), (51, .isl 2 ((a0.getD v13.toNat default).map e_QRule) false), (52, .int .i64 (((a0.getD v13.toNat default).map e_QRule).length : Int)), (53, .int .i64 s)]
def f9_L16_hp (a0 : List (List G_QRule)) (v13 : Int) (s : Int) : AHeap := []
def f9_L16_Q (a0 : List (List G_QRule)) (o : (Int ⊕ Int)) : Exit → Env → AHeap → Nat → Prop := (QBlock 6 (QBlock 5 (QSeq Try.prog f9_lay 0 f9_c6 (BodyQ 0 0 (f9_L13_env a0) (f9_L13_hp a0) (f9_L13_Q a0) o))))

def f9_L17_env (a0 : List (List G_QRule)) (v13 : Int) (v19 : Int) (s : Int) : Env := [(0, .isl 1 (a0.map eB) false), (45, .isl 1 (a0.map eB) false), (46, .int .i64 ((a0.map eB).length : Int)), (47, .int .i64 v13), (51, .isl 2 ((a0.getD v13.toNat default).map e_QRule) false), (52, .int .i64 (((a0.getD v13.toNat default).map e_QRule).length : Int)), (53, .int .i64 v19), (66, .isl 1 ((((a0.getD v13.toNat default).getD v19.toNat default).f_All).map e_i64) false), (67, .int .i64 (((((a0.getD v13.toNat default).getD v19.toNat default).f_All).map e_i64).length : Int)), (68, .int .i64 s)]
def f9_L17_hp (a0 : List (List G_QRule)) (v13 : Int) (v19 : Int) (s : Int) : AHeap := []
def f9_L17_Q (a0 : List (List G_QRule)) (v13 : Int) (o : (Int ⊕ (Int ⊕ Int))) : Exit → Env → AHeap → Nat → Prop := (QBlock 8 (QBlock 7 (QSeq Try.prog f9_lay 0 f9_c4 (BodyQ 0 0 (f9_L16_env a0 v13) (f9_L16_hp a0 v13) (f9_L16_Q a0) o))))

theorem f9_j15_ok {a0 : List (List G_QRule)} {v13 : Int} {v19 : Int} {m : Option Nat} {o : (Int ⊕ (Int ⊕ Int))} (h : S_glossatorref3_CheckRules_j15 m a0 v13 v19 = some o) :
    LWp Try.prog f9_lay 0 f9_c4 (BodyQ 0 0 (f9_L16_env a0 v13) (f9_L16_hp a0 v13) (f9_L16_Q a0) o) [(0, .isl 1 (a0.map eB) false), (45, .isl 1 (a0.map eB) false), (46, .int .i64 ((a0.map eB).length : Int)), (47, .int .i64 v13), (51, .isl 2 ((a0.getD v13.toNat default).map e_QRule) false), (52, .int .i64 (((a0.getD v13.toNat default).map e_QRule).length : Int)), (53, .int .i64 v19)] [] 0 := by
  unfold S_glossatorref3_CheckRules_j15 at h
  refine regI ?_
  cases h
  exact AI rfl (simI (M := []) rfl (AI (VS rfl) (AI (VS rfl) (AI (VS rfl) (AI (VS rfl) (AI (VS rfl) (AI (VS rfl) (AI (VS rfl) TT))))))) TT)

theorem f9_L17_bok {a0 : List (List G_QRule)} {v13 : Int} {v19 : Int} {v21 : Int} {m : Option Nat} {o : Int ⊕ (Int ⊕ (Int ⊕ Int))} (h : S_glossatorref3_CheckRules_b17 m a0 v13 v19 v21 = some o) :
    LWp Try.prog f9_lay 0 f9_c5 (BodyQ 0 0 (f9_L17_env a0 v13 v19) (f9_L17_hp a0 v13 v19) (f9_L17_Q a0 v13) o) [(0, .isl 1 (a0.map eB) false), (45, .isl 1 (a0.map eB) false), (46, .int .i64 ((a0.map eB).length : Int)), (47, .int .i64 v13), (51, .isl 2 ((a0.getD v13.toNat default).map e_QRule) false), (52, .int .i64 (((a0.getD v13.toNat default).map e_QRule).length : Int)), (53, .int .i64 v19), (66, .isl 1 ((((a0.getD v13.toNat default).getD v19.toNat default).f_All).map e_i64) false), (67, .int .i64 (((((a0.getD v13.toNat default).getD v19.toNat default).f_All).map e_i64).length : Int)), (68, .int .i64 v21)] [] 0 := by
  unfold S_glossatorref3_CheckRules_b17 at h
  refine seqI ?_
  refine regI ?_
  refine seqI ?_
  refine condI (v := (decide (v21 < (((((a0.getD v13.toNat default).getD v19.toNat default).f_All).map e_i64).length : Int)))) rfl TT (fun h137 => ?_) (fun h137 => ?_)
  · have h := ite_tt h137 h
    refine skipI ?_
    refine seqI ?_
    refine blockI ?_
    refine seqI ?_
    refine regI ?_
    obtain ⟨h138, h⟩ := ite_some h
    refine AI h138 ?_
    refine EX (e_i64 ((((a0.getD v13.toNat default).getD v19.toNat default).f_All).getD v21.toNat default)) (AI (getD_enc e_i64 _ _ (idx_ltL e_i64 h138)) (AI (AI (idx_lt h138) (NB rfl)) ?_))
    refine seqI ?_
    refine regI ?_
    refine AI (fun hp => hp) ?_
    refine AI (fun hp => (AI hp hp)) ?_
    refine AI (fun hc => (bqf hc)) ?_
    refine LWp.sim (e := [(0, .isl 1 (a0.map eB) false), (45, .isl 1 (a0.map eB) false), (46, .int .i64 ((a0.map eB).length : Int)), (47, .int .i64 v13), (51, .isl 2 ((a0.getD v13.toNat default).map e_QRule) false), (52, .int .i64 (((a0.getD v13.toNat default).map e_QRule).length : Int)), (53, .int .i64 v19), (66, .isl 1 ((((a0.getD v13.toNat default).getD v19.toNat default).f_All).map e_i64) false), (67, .int .i64 (((((a0.getD v13.toNat default).getD v19.toNat default).f_All).map e_i64).length : Int)), (68, .int .i64 v21), (79, .bool ((decide (((((a0.getD v13.toNat default).getD v19.toNat default).f_All).getD v21.toNat default) < 0)) || (decide (((((a0.getD v13.toNat default).getD v19.toNat default).f_All).getD v21.toNat default) ≥ ((a0.map eB).length : Int)))))]) (L := []) (n := 0) ?_ ?_
    · exact simI (M := []) rfl (AI (VS rfl) (AI (VS rfl) (AI (VS rfl) (AI (VS rfl) (AI (VS rfl) (AI (VS rfl) (AI (VS rfl) (AI (VS rfl) (AI (VS rfl) (AI (VS rfl) (AI (VS rfl) TT))))))))))) TT
    refine condI (v := ((decide (((((a0.getD v13.toNat default).getD v19.toNat default).f_All).getD v21.toNat default) < 0)) || (decide (((((a0.getD v13.toNat default).getD v19.toNat default).f_All).getD v21.toNat default) ≥ ((a0.map eB).length : Int))))) rfl TT (fun h139 => ?_) (fun h139 => ?_)
    · have h := ite_tt h139 h
      refine seqI ?_
      refine regI ?_
      refine retI ?_
      obtain ⟨o, hq, rfl⟩ := Option.map_eq_some_iff.1 h
      replace h := hq; clear hq
      refine AI nofun ?_
      obtain ⟨o, hq, rfl⟩ := Option.map_eq_some_iff.1 h
      replace h := hq; clear hq
      refine AI nofun ?_
      obtain ⟨o, hq, rfl⟩ := Option.map_eq_some_iff.1 h
      replace h := hq; clear hq
      refine AI nofun ?_
      cases h
      exact AI TT (AI rfl (VS rfl))
    · have h := ite_ff h139 h
      refine skipI ?_
      refine regI ?_
      cases h
      exact AI rfl (simI (M := []) rfl (AI (VS rfl) (AI (VS rfl) (AI (VS rfl) (AI (VS rfl) (AI (VS rfl) (AI (VS rfl) (AI (VS rfl) (AI (VS rfl) (AI (VS rfl) (AI (VS rfl) TT)))))))))) TT)
  · have h := ite_ff h137 h
    refine exitI ?_
    obtain ⟨o, hq, rfl⟩ := Option.map_eq_some_iff.1 h
    replace h := hq; clear hq
    refine AI nofun ?_
    refine LWp.sim ?_ (f9_j15_ok h)
    exact simI (M := []) rfl (AI (VS rfl) (AI (VS rfl) (AI (VS rfl) (AI (VS rfl) (AI (VS rfl) (AI (VS rfl) (AI (VS rfl) TT))))))) TT

theorem f9_L17_ok {a0 : List (List G_QRule)} {v13 : Int} {v19 : Int} {v21 : Int} {m : Option Nat} {o : (Int ⊕ (Int ⊕ Int))} (h : S_glossatorref3_CheckRules_l17 m a0 v13 v19 v21 = some o) :
    LWp Try.prog f9_lay 0 (.loop f9_c5) (QBlock 8 (QBlock 7 (QSeq Try.prog f9_lay 0 f9_c4 (BodyQ 0 0 (f9_L16_env a0 v13) (f9_L16_hp a0 v13) (f9_L16_Q a0) o)))) [(0, .isl 1 (a0.map eB) false), (45, .isl 1 (a0.map eB) false), (46, .int .i64 ((a0.map eB).length : Int)), (47, .int .i64 v13), (51, .isl 2 ((a0.getD v13.toNat default).map e_QRule) false), (52, .int .i64 (((a0.getD v13.toNat default).map e_QRule).length : Int)), (53, .int .i64 v19), (66, .isl 1 ((((a0.getD v13.toNat default).getD v19.toNat default).f_All).map e_i64) false), (67, .int .i64 (((((a0.getD v13.toNat default).getD v19.toNat default).f_All).map e_i64).length : Int)), (68, .int .i64 v21)] [] 0 :=
  LWp_loopM (m := m) (s := (v21 : Int)) (r := o) (fun (s : Int) => S_glossatorref3_CheckRules_b17 m a0 v13 v19 s) (f9_L17_env a0 v13 v19) (f9_L17_hp a0 v13 v19) (f9_L17_Q a0 v13) (fun s o h => f9_L17_bok h) h

theorem f9_j16_ok {a0 : List (List G_QRule)} {v13 : Int} {m : Option Nat} {o : (Int ⊕ Int)} (h : S_glossatorref3_CheckRules_j16 m a0 v13 = some o) :
    LWp Try.prog f9_lay 0 f9_c6 (BodyQ 0 0 (f9_L13_env a0) (f9_L13_hp a0) (f9_L13_Q a0) o) [(0, .isl 1 (a0.map eB) false), (45, .isl 1 (a0.map eB) false), (46, .int .i64 ((a0.map eB).length : Int)), (47, .int .i64 v13)] [] 0 := by
  unfold S_glossatorref3_CheckRules_j16 at h
  refine regI ?_
  cases h
  exact AI rfl (simI (M := []) rfl (AI (VS rfl) (AI (VS rfl) (AI (VS rfl) (AI (VS rfl) TT)))) TT)

theorem f9_L16_bok {a0 : List (List G_QRule)} {v13 : Int} {v19 : Int} {m : Option Nat} {o : Int ⊕ (Int ⊕ Int)} (h : S_glossatorref3_CheckRules_b16 m a0 v13 v19 = some o) :
    LWp Try.prog f9_lay 0 f9_c7 (BodyQ 0 0 (f9_L16_env a0 v13) (f9_L16_hp a0 v13) (f9_L16_Q a0) o) [(0, .isl 1 (a0.map eB) false), (45, .isl 1 (a0.map eB) false), (46, .int .i64 ((a0.map eB).length : Int)), (47, .int .i64 v13), (51, .isl 2 ((a0.getD v13.toNat default).map e_QRule) false), (52, .int .i64 (((a0.getD v13.toNat default).map e_QRule).length : Int)), (53, .int .i64 v19)] [] 0 := by
  unfold S_glossatorref3_CheckRules_b16 at h
  refine seqI ?_
  refine regI ?_
  refine seqI ?_
  refine condI (v := (decide (v19 < (((a0.getD v13.toNat default).map e_QRule).length : Int)))) rfl TT (fun h128 => ?_) (fun h128 => ?_)
  · have h := ite_tt h128 h
    refine skipI ?_
    refine seqI ?_
    refine blockI ?_
    refine seqI ?_
    refine regI ?_
    obtain ⟨h129, h⟩ := ite_some h
    refine AI h129 ?_
    refine EX (e_QRule ((a0.getD v13.toNat default).getD v19.toNat default)) (AI (getD_enc e_QRule _ _ (idx_ltL e_QRule h129)) (AI (AI (idx_lt h129) (NB rfl)) ?_))
    refine seqI ?_
    refine seqI ?_
    refine regI ?_
    refine AI (fun hp => hp) ?_
    refine AI (fun hp => hp) ?_
    refine AI (fun hc => (bqf hc)) ?_
    refine LWp.sim (e := [(0, .isl 1 (a0.map eB) false), (11, .ptr (0, 0) 0 0), (45, .isl 1 (a0.map eB) false), (46, .int .i64 ((a0.map eB).length : Int)), (47, .int .i64 v13), (51, .isl 2 ((a0.getD v13.toNat default).map e_QRule) false), (52, .int .i64 (((a0.getD v13.toNat default).map e_QRule).length : Int)), (53, .int .i64 v19), (64, .bool ((decide (((a0.getD v13.toNat default).getD v19.toNat default).f_Mask < 0)) || (decide (((a0.getD v13.toNat default).getD v19.toNat default).f_Mask ≥ 1048576))))]) (L := [((0, 0), .one [.int .i64 (((a0.getD v13.toNat default).getD v19.toNat default).f_Mask), .isl 1 ((((a0.getD v13.toNat default).getD v19.toNat default).f_All).map e_i64) false])]) (n := 1) ?_ ?_
    · exact simI (M := [((0, 0), (0, 0))]) rfl (AI (VS rfl) (AI (Vw.ptr _ _ _ _ rfl) (AI (VS rfl) (AI (VS rfl) (AI (VS rfl) (AI (VS rfl) (AI (VS rfl) (AI (VS rfl) (AI (VS rfl) TT))))))))) (AI (AI rfl (BVw.oneL (AI (VS rfl) (AI (VS rfl) TT)))) TT)
    refine condI (v := ((decide (((a0.getD v13.toNat default).getD v19.toNat default).f_Mask < 0)) || (decide (((a0.getD v13.toNat default).getD v19.toNat default).f_Mask ≥ 1048576)))) rfl TT (fun h130 => ?_) (fun h130 => ?_)
    · have h := ite_tt h130 h
      refine seqI ?_
      refine regI ?_
      refine retI ?_
      obtain ⟨o, hq, rfl⟩ := Option.map_eq_some_iff.1 h
      replace h := hq; clear hq
      refine AI nofun ?_
      obtain ⟨o, hq, rfl⟩ := Option.map_eq_some_iff.1 h
      replace h := hq; clear hq
      refine AI nofun ?_
      cases h
      exact AI TT (AI rfl (VS rfl))
    · have h := ite_ff h130 h
      refine skipI ?_
      refine seqI ?_
      refine regI ?_
      refine blockI ?_
      refine LWp.sim ?_ (f9_L17_ok h)
      exact simI (M := []) rfl (AI (VS rfl) (AI (VS rfl) (AI (VS rfl) (AI (VS rfl) (AI (VS rfl) (AI (VS rfl) (AI (VS rfl) (AI (VS rfl) (AI (VS rfl) (AI (VS rfl) TT)))))))))) TT
  · have h := ite_ff h128 h
    refine exitI ?_
    obtain ⟨o, hq, rfl⟩ := Option.map_eq_some_iff.1 h
    replace h := hq; clear hq
    refine AI nofun ?_
    refine LWp.sim ?_ (f9_j16_ok h)
    exact simI (M := []) rfl (AI (VS rfl) (AI (VS rfl) (AI (VS rfl) (AI (VS rfl) TT)))) TT

theorem f9_L16_ok {a0 : List (List G_QRule)} {v13 : Int} {v19 : Int} {m : Option Nat} {o : (Int ⊕ Int)} (h : S_glossatorref3_CheckRules_l16 m a0 v13 v19 = some o) :
    LWp Try.prog f9_lay 0 (.loop f9_c7) (QBlock 6 (QBlock 5 (QSeq Try.prog f9_lay 0 f9_c6 (BodyQ 0 0 (f9_L13_env a0) (f9_L13_hp a0) (f9_L13_Q a0) o)))) [(0, .isl 1 (a0.map eB) false), (45, .isl 1 (a0.map eB) false), (46, .int .i64 ((a0.map eB).length : Int)), (47, .int .i64 v13), (51, .isl 2 ((a0.getD v13.toNat default).map e_QRule) false), (52, .int .i64 (((a0.getD v13.toNat default).map e_QRule).length : Int)), (53, .int .i64 v19)] [] 0 :=
  LWp_loopM (m := m) (s := (v19 : Int)) (r := o) (fun (s : Int) => S_glossatorref3_CheckRules_b16 m a0 v13 s) (f9_L16_env a0 v13) (f9_L16_hp a0 v13) (f9_L16_Q a0) (fun s o h => f9_L16_bok h) h

theorem f9_j17_ok {a0 : List (List G_QRule)} {m : Option Nat} {o : Int} (h : S_glossatorref3_CheckRules_j17 m = some o) :
    LWp Try.prog f9_lay 0 f9_c8 (f9_Q a0 o) [] [] 0 := by
  unfold S_glossatorref3_CheckRules_j17 at h
  refine seqI ?_
  refine regI ?_
  refine retI ?_
  cases h
  exact AI TT (AI rfl (VS rfl))

theorem f9_L13_bok {a0 : List (List G_QRule)} {v13 : Int} {m : Option Nat} {o : Int ⊕ Int} (h : S_glossatorref3_CheckRules_b13 m a0 v13 = some o) :
    LWp Try.prog f9_lay 0 f9_c9 (BodyQ 0 0 (f9_L13_env a0) (f9_L13_hp a0) (f9_L13_Q a0) o) [(0, .isl 1 (a0.map eB) false), (45, .isl 1 (a0.map eB) false), (46, .int .i64 ((a0.map eB).length : Int)), (47, .int .i64 v13)] [] 0 := by
  unfold S_glossatorref3_CheckRules_b13 at h
  refine seqI ?_
  refine regI ?_
  refine seqI ?_
  refine condI (v := (decide (v13 < ((a0.map eB).length : Int)))) rfl TT (fun h102 => ?_) (fun h102 => ?_)
  · have h := ite_tt h102 h
    refine skipI ?_
    refine seqI ?_
    refine blockI ?_
    refine seqI ?_
    refine regI ?_
    obtain ⟨h103, h⟩ := ite_some h
    refine AI h103 ?_
    refine EX (eB (a0.getD v13.toNat default)) (AI (getD_enc eB _ _ (idx_ltL eB h103)) (AI (AI (idx_lt h103) (NB rfl)) ?_))
    refine seqI ?_
    refine regI ?_
    refine blockI ?_
    refine LWp.sim ?_ (f9_L16_ok h)
    exact simI (M := []) rfl (AI (VS rfl) (AI (VS rfl) (AI (VS rfl) (AI (VS rfl) (AI (VS rfl) (AI (VS rfl) (AI (VS rfl) TT))))))) TT
  · have h := ite_ff h102 h
    refine exitI ?_
    obtain ⟨o, hq, rfl⟩ := Option.map_eq_some_iff.1 h
    replace h := hq; clear hq
    refine AI nofun ?_
    refine LWp.sim ?_ (f9_j17_ok h)
    exact simI (M := []) rfl TT TT

theorem f9_L13_ok {a0 : List (List G_QRule)} {v13 : Int} {m : Option Nat} {o : Int} (h : S_glossatorref3_CheckRules_l13 m a0 v13 = some o) :
    LWp Try.prog f9_lay 0 (.loop f9_c9) (QBlock 4 (QSeq Try.prog f9_lay 0 f9_c8 (f9_Q a0 o))) [(0, .isl 1 (a0.map eB) false), (45, .isl 1 (a0.map eB) false), (46, .int .i64 ((a0.map eB).length : Int)), (47, .int .i64 v13)] [] 0 :=
  LWp_loopM (m := m) (s := (v13 : Int)) (r := o) (fun (s : Int) => S_glossatorref3_CheckRules_b13 m a0 s) (f9_L13_env a0) (f9_L13_hp a0) (f9_L13_Q a0) (fun s o h => f9_L13_bok h) h

theorem f9_j4_ok {a0 : List (List G_QRule)} {v3 : Bool} {m : Option Nat} {o : Int} (h : S_glossatorref3_CheckRules_j4 m a0 v3 = some o) :
    LWp Try.prog f9_lay 0 f9_c2 (f9_Q a0 o) [(0, .isl 1 (a0.map eB) false), (3, .bool v3)] [] 0 := by
  unfold S_glossatorref3_CheckRules_j4 at h
  refine seqI ?_
  refine seqI ?_
  refine regI ?_
  refine condI (v := v3) rfl TT (fun h25 => ?_) (fun h25 => ?_)
  · have h := ite_tt h25 h
    refine seqI ?_
    refine regI ?_
    refine retI ?_
    cases h
    exact AI TT (AI rfl (VS rfl))
  · have h := ite_ff h25 h
    refine skipI ?_
    refine seqI ?_
    refine seqI ?_
    refine regI ?_
    refine blockI ?_
    refine LWp.sim ?_ (f9_L13_ok h)
    exact simI (M := []) rfl (AI (VS rfl) (AI (VS rfl) (AI (VS rfl) (AI (VS rfl) TT)))) TT

theorem f9_L3_bok {a0 : List (List G_QRule)} {v3 : Bool} {v4 : Int} {m : Option Nat} {o : (Bool × Int) ⊕ Int} (h : S_glossatorref3_CheckRules_b3 m a0 v3 v4 = some o) :
    LWp Try.prog f9_lay 0 f9_c3 (BodyQ 0 0 (f9_L3_env a0) (f9_L3_hp a0) (f9_L3_Q a0) o) [(0, .isl 1 (a0.map eB) false), (3, .bool v3), (17, .isl 1 (a0.map eB) false), (18, .int .i64 ((a0.map eB).length : Int)), (19, .int .i64 v4)] [] 0 := by
  unfold S_glossatorref3_CheckRules_b3 at h
  refine seqI ?_
  refine regI ?_
  refine seqI ?_
  refine condI (v := (decide (v4 < ((a0.map eB).length : Int)))) rfl TT (fun h17 => ?_) (fun h17 => ?_)
  · have h := ite_tt h17 h
    refine skipI ?_
    refine seqI ?_
    refine blockI ?_
    refine seqI ?_
    refine regI ?_
    obtain ⟨h18, h⟩ := ite_some h
    refine AI h18 ?_
    refine EX (eB (a0.getD v4.toNat default)) (AI (getD_enc eB _ _ (idx_ltL eB h18)) (AI (AI (idx_lt h18) (NB rfl)) ?_))
    refine seqI ?_
    refine regI ?_
    refine AI (fun hp => hp) ?_
    refine AI (fun hp => hp) ?_
    refine AI (fun hc => (bqf hc)) ?_
    refine LWp.sim (e := [(0, .isl 1 (a0.map eB) false), (3, .bool (v3 || (decide ((((a0.getD v4.toNat default).map e_QRule).length : Int) > 20)))), (5, .isl 2 ((a0.getD v4.toNat default).map e_QRule) false), (17, .isl 1 (a0.map eB) false), (18, .int .i64 ((a0.map eB).length : Int)), (19, .int .i64 v4)]) (L := []) (n := 0) ?_ ?_
    · exact simI (M := []) rfl (AI (VS rfl) (AI (VS rfl) (AI (VS rfl) (AI (VS rfl) (AI (VS rfl) (AI (VS rfl) TT)))))) TT
    refine seqI ?_
    refine regI ?_
    refine blockI ?_
    refine LWp.sim ?_ (f9_L4_ok h)
    exact simI (M := []) rfl (AI (VS rfl) (AI (VS rfl) (AI (VS rfl) (AI (VS rfl) (AI (VS rfl) (AI (VS rfl) (AI (VS rfl) (AI (VS rfl) TT)))))))) TT
  · have h := ite_ff h17 h
    refine exitI ?_
    obtain ⟨o, hq, rfl⟩ := Option.map_eq_some_iff.1 h
    replace h := hq; clear hq
    refine AI nofun ?_
    refine LWp.sim ?_ (f9_j4_ok h)
    exact simI (M := []) rfl (AI (VS rfl) (AI (VS rfl) TT)) TT

theorem f9_L3_ok {a0 : List (List G_QRule)} {v3 : Bool} {v4 : Int} {m : Option Nat} {o : Int} (h : S_glossatorref3_CheckRules_l3 m a0 v3 v4 = some o) :
    LWp Try.prog f9_lay 0 (.loop f9_c3) (QBlock 0 (QSeq Try.prog f9_lay 0 f9_c2 (f9_Q a0 o))) [(0, .isl 1 (a0.map eB) false), (3, .bool v3), (17, .isl 1 (a0.map eB) false), (18, .int .i64 ((a0.map eB).length : Int)), (19, .int .i64 v4)] [] 0 :=
  LWp_loopM (m := m) (s := ((v3, v4) : (Bool × Int))) (r := o) (fun (s : (Bool × Int)) => S_glossatorref3_CheckRules_b3 m a0 s.1 s.2) (f9_L3_env a0) (f9_L3_hp a0) (f9_L3_Q a0) (fun s o h => f9_L3_bok h) h

noncomputable def S_glossatorref3_CheckRules (m : Option Nat) (a0 : List (List G_QRule)) : Option Int :=
  S_glossatorref3_CheckRules_l3 m a0 (decide (((a0.map eB).length : Int) > 60)) 0

theorem f9_start {a0 : List (List G_QRule)} {m : Option Nat} {o : Int} (h : S_glossatorref3_CheckRules m a0 = some o) : LWp Try.prog f9_lay 0 f9_c10 (f9_Q a0 o) (initEnv 0 [.isl 1 (a0.map eB) false]) [] 0 := by
  unfold S_glossatorref3_CheckRules at h
  refine seqI ?_
  refine regI ?_
  refine seqI ?_
  refine regI ?_
  refine seqI ?_
  refine seqI ?_
  refine regI ?_
  refine LWp.sim (e := [(0, .isl 1 (a0.map eB) false), (3, .bool (decide (((a0.map eB).length : Int) > 60))), (17, .isl 1 (a0.map eB) false), (18, .int .i64 ((a0.map eB).length : Int)), (19, .int .i64 0)]) (L := []) (n := 0) ?_ ?_
  · exact simI (M := []) rfl (AI (VS rfl) (AI (VS rfl) (AI (VS rfl) (AI (VS rfl) (AI (VS rfl) TT))))) TT
  refine blockI ?_
  refine LWp.sim ?_ (f9_L3_ok h)
  exact simI (M := []) rfl (AI (VS rfl) (AI (VS rfl) (AI (VS rfl) (AI (VS rfl) (AI (VS rfl) TT))))) TT

theorem f9_ok {a0 : List (List G_QRule)} {m : Option Nat} {o : Int} (h : S_glossatorref3_CheckRules m a0 = some o) : PFn Try.prog 9 [.isl 1 (a0.map eB) false] (.int .i64 o) := PFn.ofFnW (L := f9_L) f9_low f9_fok (NB rfl) rfl (f9_start h)

def f23_c2 : LCode := (.seq (.region [⟨some 88, .bin .lss (.t 87) (.t 86), none⟩])
 (.seq (.cond (.t 88)
  .skip
  (.exit 4))
 (.seq (.block 5
  (.seq (.region [⟨some 89, .iaddr 3 (.t 85) (.t 87), none⟩,
    ⟨some 90, .load true 3 (.t 89), none⟩,
    ⟨some 16, .alloc [(.int .i64 0), (.int .i64 0), (.int .i64 0)], none⟩,
    ⟨none, .store 3 (.t 16) (.t 90), none⟩])
  (.region [⟨some 91, .mv (.t 14), none⟩,
    ⟨some 92, .mv (.t 91), none⟩,
    ⟨some 93, .faddr 0 (.t 16), some (92, false)⟩,
    ⟨some 94, .load false 1 (.t 93), some (92, false)⟩,
    ⟨some 95, .mv (.t 13), some (92, false)⟩,
    ⟨some 96, .bin .eql (.t 94) (.t 95), some (92, false)⟩,
    ⟨some 97, .mv (.t 96), some (92, false)⟩,
    ⟨some 98, .faddr 2 (.t 16), some (97, true)⟩,
    ⟨some 99, .load false 1 (.t 98), some (97, true)⟩,
    ⟨some 100, .faddr 2 (.t 10), some (97, true)⟩,
    ⟨some 101, .load false 1 (.t 100), some (97, true)⟩,
    ⟨some 102, .bin .eql (.t 99) (.t 101), some (97, true)⟩,
    ⟨some 103, .pick (.t 97) (.t 102) (.c (.bool false)), some (92, false)⟩,
    ⟨some 104, .pick (.t 92) (.c (.bool true)) (.t 103), none⟩,
    ⟨some 14, .mv (.t 104), none⟩])))
 (.region [⟨some 105, .bin .add (.t 87) (.c (.int .i64 1)), none⟩,
   ⟨some 87, .mv (.t 105), none⟩]))))
def f23_c0 : LCode := (.seq (.region [⟨some 106, .mv (.t 14), none⟩,
   ⟨some 107, .un .not (.t 106), none⟩])
 (.cond (.t 107)
  (.seq (.region [⟨some 8, .mv (.c (.bool false)), none⟩])
  .ret)
  .skip))
def f23_c1 : LCode := (.region [⟨some 108, .bin .add (.t 79) (.c (.int .i64 1)), none⟩,
   ⟨some 79, .mv (.t 108), none⟩])
def f23_c4 : LCode := (.seq (.region [⟨some 80, .bin .lss (.t 79) (.t 78), none⟩])
 (.seq (.cond (.t 80)
  .skip
  (.exit 2))
 (.seq (.block 3
  (.seq (.region [⟨some 81, .iaddr 1 (.t 77) (.t 79), none⟩,
    ⟨some 82, .load false 1 (.t 81), none⟩,
    ⟨some 13, .mv (.t 82), none⟩])
  (.seq (.region [⟨some 14, .mv (.c (.bool false)), none⟩])
  (.seq (.seq (.region [⟨some 83, .mv (.t 1), none⟩,
    ⟨some 84, .mv (.t 9), none⟩,
    ⟨some 85, .slSl 3 (.t 83) none (some (.t 84)) none, none⟩,
    ⟨some 86, .len false (.t 85), none⟩,
    ⟨some 87, .mv (.c (.int .i64 0)), none⟩])
  (.block 4
   (.loop
    f23_c2)))
  f23_c0))))
 f23_c1)))
def f23_c3 : LCode := (.region [⟨some 109, .bin .add (.t 19) (.c (.int .i64 1)), none⟩,
   ⟨some 19, .mv (.t 109), none⟩])
def f23_c6 : LCode := (.seq (.region [⟨some 20, .bin .lss (.t 19) (.t 18), none⟩])
 (.seq (.cond (.t 20)
  .skip
  (.exit 0))
 (.seq (.block 1
  (.seq (.region [⟨some 21, .mv (.t 19), none⟩,
    ⟨some 22, .iaddr 3 (.t 17) (.t 19), none⟩,
    ⟨some 23, .load true 3 (.t 22), none⟩,
    ⟨some 10, .alloc [(.int .i64 0), (.int .i64 0), (.int .i64 0)], none⟩,
    ⟨some 9, .mv (.t 21), none⟩,
    ⟨none, .store 3 (.t 10) (.t 23), none⟩])
  (.seq (.seq (.quiet [⟨some 24, .faddr 0 (.t 10), none⟩,
    ⟨some 25, .load false 1 (.t 24), none⟩,
    ⟨some 26, .bin .lss (.t 25) (.c (.int .i64 0)), none⟩,
    ⟨some 27, .mv (.t 26), none⟩,
    ⟨some 28, .faddr 0 (.t 10), some (27, false)⟩,
    ⟨some 29, .load false 1 (.t 28), some (27, false)⟩,
    ⟨some 30, .mv (.t 0), some (27, false)⟩,
    ⟨some 31, .len false (.t 30), some (27, false)⟩,
    ⟨some 32, .bin .geq (.t 29) (.t 31), some (27, false)⟩,
    ⟨some 33, .pick (.t 27) (.c (.bool true)) (.t 32), none⟩,
    ⟨some 34, .mv (.t 33), none⟩,
    ⟨some 35, .faddr 2 (.t 10), some (34, false)⟩,
    ⟨some 36, .load false 1 (.t 35), some (34, false)⟩,
    ⟨some 37, .bin .lss (.t 36) (.c (.int .i64 0)), some (34, false)⟩,
    ⟨some 38, .pick (.t 34) (.c (.bool true)) (.t 37), none⟩,
    ⟨some 39, .mv (.t 38), none⟩,
    ⟨some 40, .faddr 2 (.t 10), some (39, false)⟩,
    ⟨some 41, .load false 1 (.t 40), some (39, false)⟩,
    ⟨some 42, .bin .geq (.t 41) (.c (.int .i64 20)), some (39, false)⟩,
    ⟨some 43, .pick (.t 39) (.c (.bool true)) (.t 42), none⟩,
    ⟨some 44, .mv (.t 43), none⟩,
    ⟨some 45, .faddr 1 (.t 10), some (44, false)⟩,
    ⟨some 46, .load false 1 (.t 45), some (44, false)⟩,
    ⟨some 47, .bin .lss (.t 46) (.c (.int .i64 0)), some (44, false)⟩,
    ⟨some 48, .pick (.t 44) (.c (.bool true)) (.t 47), none⟩,
    ⟨some 49, .mv (.t 48), none⟩,
    ⟨some 50, .faddr 1 (.t 10), some (49, false)⟩,
    ⟨some 51, .load false 1 (.t 50), some (49, false)⟩,
    ⟨some 52, .mv (.t 0), some (49, false)⟩,
    ⟨some 53, .faddr 0 (.t 10), some (49, false)⟩,
    ⟨some 54, .load false 1 (.t 53), some (49, false)⟩,
    ⟨some 55, .iaddr 1 (.t 52) (.t 54), some (49, false)⟩,
    ⟨some 56, .load false 1 (.t 55), some (49, false)⟩,
    ⟨some 57, .len false (.t 56), some (49, false)⟩,
    ⟨some 58, .bin .geq (.t 51) (.t 57), some (49, false)⟩,
    ⟨some 59, .pick (.t 49) (.c (.bool true)) (.t 58), none⟩])
  (.cond (.t 59)
   (.seq (.region [⟨some 8, .mv (.c (.bool false)), none⟩])
   .ret)
   .skip))
  (.seq (.draw [⟨⟨some 60, .mv (.t 0), none⟩, []⟩,
    ⟨⟨some 61, .faddr 0 (.t 10), none⟩, []⟩,
    ⟨⟨some 62, .load false 1 (.t 61), none⟩, []⟩,
    ⟨⟨some 63, .iaddr 1 (.t 60) (.t 62), none⟩, []⟩,
    ⟨⟨some 64, .load false 1 (.t 63), none⟩, []⟩,
    ⟨⟨some 65, .faddr 1 (.t 10), none⟩, []⟩,
    ⟨⟨some 66, .load false 1 (.t 65), none⟩, []⟩,
    ⟨⟨some 67, .iaddr 2 (.t 64) (.t 66), none⟩, []⟩,
    ⟨⟨some 68, .load true 2 (.t 67), none⟩, []⟩,
    ⟨⟨some 11, .alloc [(.int .i64 0), (.isl 1 [] true)], none⟩, [2, 4, 6, 8]⟩,
    ⟨⟨none, .store 2 (.t 11) (.t 68), none⟩, []⟩])
  (.seq (.seq (.quiet [⟨some 69, .faddr 0 (.t 11), none⟩,
    ⟨some 70, .load false 1 (.t 69), none⟩,
    ⟨some 71, .faddr 2 (.t 10), none⟩,
    ⟨some 72, .load false 1 (.t 71), none⟩,
    ⟨some 73, .bin .shl (.c (.int .i64 1)) (.t 72), none⟩,
    ⟨some 74, .bin .and (.t 70) (.t 73), none⟩,
    ⟨some 75, .bin .eql (.t 74) (.c (.int .i64 0)), none⟩])
  (.cond (.t 75)
   (.seq (.region [⟨some 8, .mv (.c (.bool false)), none⟩])
   .ret)
   .skip))
  (.seq (.region [⟨some 76, .faddr 1 (.t 11), none⟩,
    ⟨some 77, .load false 1 (.t 76), none⟩,
    ⟨some 78, .len false (.t 77), none⟩,
    ⟨some 79, .mv (.c (.int .i64 0)), none⟩])
  (.block 2
   (.loop
    f23_c4))))))))
 f23_c3)))
def f23_c5 : LCode := (.seq (.region [⟨some 110, .mv (.t 1), none⟩,
   ⟨some 111, .len false (.t 110), none⟩,
   ⟨some 112, .bin .gtr (.t 111) (.c (.int .i64 0)), none⟩,
   ⟨some 113, .mv (.t 112), none⟩,
   ⟨some 114, .mv (.t 1), some (113, true)⟩,
   ⟨some 115, .mv (.t 1), some (113, true)⟩,
   ⟨some 116, .len false (.t 115), some (113, true)⟩,
   ⟨some 117, .bin .sub (.t 116) (.c (.int .i64 1)), some (113, true)⟩,
   ⟨some 118, .iaddr 3 (.t 114) (.t 117), some (113, true)⟩,
   ⟨some 119, .faddr 0 (.t 118), some (113, true)⟩,
   ⟨some 120, .load false 1 (.t 119), some (113, true)⟩,
   ⟨some 121, .mv (.t 2), some (113, true)⟩,
   ⟨some 122, .bin .eql (.t 120) (.t 121), some (113, true)⟩,
   ⟨some 123, .pick (.t 113) (.t 122) (.c (.bool false)), none⟩,
   ⟨some 124, .mv (.t 123), none⟩,
   ⟨some 125, .mv (.t 1), some (124, true)⟩,
   ⟨some 126, .mv (.t 1), some (124, true)⟩,
   ⟨some 127, .len false (.t 126), some (124, true)⟩,
   ⟨some 128, .bin .sub (.t 127) (.c (.int .i64 1)), some (124, true)⟩,
   ⟨some 129, .iaddr 3 (.t 125) (.t 128), some (124, true)⟩,
   ⟨some 130, .faddr 2 (.t 129), some (124, true)⟩,
   ⟨some 131, .load false 1 (.t 130), some (124, true)⟩,
   ⟨some 132, .mv (.t 3), some (124, true)⟩,
   ⟨some 133, .bin .eql (.t 131) (.t 132), some (124, true)⟩,
   ⟨some 134, .pick (.t 124) (.t 133) (.c (.bool false)), none⟩,
   ⟨some 8, .mv (.t 134), none⟩])
 .ret)
def f23_c7 : LCode := (.seq (.region [⟨some 8, .mv (.c (.bool false)), none⟩])
 (.seq (.seq (.region [⟨some 17, .mv (.t 1), none⟩,
   ⟨some 18, .len false (.t 17), none⟩,
   ⟨some 19, .mv (.c (.int .i64 0)), none⟩])
 (.block 0
  (.loop
   f23_c6)))
 f23_c5))
def f23_lay : Lay := ⟨135, [], false⟩
def f23_res : List LRes := [.t 8]
def f23_L : LFn := ⟨4, f23_lay, f23_c7, f23_res⟩
theorem f23_low : lowFn Try.prog [] 23 = some f23_L := by kernel_rfl
theorem f23_fok : FnOk Try.prog 23 := ⟨_, Try.func23, rfl, rfl⟩
def f23_Q (a0 : List (List G_QRule)) (a1 : List G_QDerivation) (a2 : Int) (a3 : Int) (o : Bool) : Exit → Env → AHeap → Nat → Prop := FinK f23_res (PureEnd (.bool o))

def f23_L9_env (a0 : List (List G_QRule)) (a1 : List G_QDerivation) (a2 : Int) (a3 : Int) (s : Int) : Env := [(0, .isl 1 (a0.map eB) false), (1, .isl 3 (a1.map eD) false), (2, .int .i64 a2), (3, .int .i64 a3), (17, .isl 3 (a1.map eD) false), (18, .int .i64 ((a1.map eD).length : Int)), (19, .int .i64 s)]
def f23_L9_hp (a0 : List (List G_QRule)) (a1 : List G_QDerivation) (a2 : Int) (a3 : Int) (s : Int) : AHeap := []
def f23_L9_Q (a0 : List (List G_QRule)) (a1 : List G_QDerivation) (a2 : Int) (a3 : Int) (o : Bool) : Exit → Env → AHeap → Nat → Prop := (QBlock 0 (QSeq Try.prog f23_lay 0 f23_c5 (f23_Q a0 a1 a2 a3 o)))

def f23_L12_env (a0 : List (List G_QRule)) (a1 : List G_QDerivation) (a2 : Int) (a3 : Int) (v8 : Int) (s : Int) : Env := [(0, .isl 1 (a0.map eB) false), (1, .isl 3 (a1.map eD) false), (2, .int .i64 a2), (3, .int .i64 a3), (9, .int .i64 v8), (10, .ptr (0, 0) 0 0), (17, .isl 3 (a1.map eD) false), (18, .int .i64 ((a1.map eD).length : Int)), (19, .int .i64 v8), (77, .isl 1 ((((a0.getD (((a1.getD v8.toNat default).f_Set).toNat) default).getD (((a1.getD v8.toNat default).f_Rule).toNat) default).f_All).map e_i64) false), (78, .int .i64 (((((a0.getD (((a1.getD v8.toNat default).f_Set).toNat) default).getD (((a1.getD v8.toNat default).f_Rule).toNat) default).f_All).map e_i64).length : Int)), (79, .int .i64 s)]
def f23_L12_hp (a0 : List (List G_QRule)) (a1 : List G_QDerivation) (a2 : Int) (a3 : Int) (v8 : Int) (s : Int) : AHeap := [((0, 0), .one [.int .i64 ((a1.getD v8.toNat default).f_Set), .int .i64 ((a1.getD v8.toNat default).f_Rule), .int .i64 ((a1.getD v8.toNat default).f_Element)])]
def f23_L12_Q (a0 : List (List G_QRule)) (a1 : List G_QDerivation) (a2 : Int) (a3 : Int) (o : (Int ⊕ Bool)) : Exit → Env → AHeap → Nat → Prop := (QBlock 2 (QBlock 1 (QSeq Try.prog f23_lay 0 f23_c3 (BodyQ 0 0 (f23_L9_env a0 a1 a2 a3) (f23_L9_hp a0 a1 a2 a3) (f23_L9_Q a0 a1 a2 a3) o))))

def f23_L13_env (a0 : List (List G_QRule)) (a1 : List G_QDerivation) (a2 : Int) (a3 : Int) (v8 : Int) (v18 : Int) (s : (Bool × Int)) : Env := [(0, .isl 1 (a0.map eB) false), (1, .isl 3 (a1.map eD) false), (2, .int .i64 a2), (3, .int .i64 a3), (9, .int .i64 v8), (10, .ptr (0, 0) 0 0), (13, .int .i64 ((((a0.getD (((a1.getD v8.toNat default).f_Set).toNat) default).getD (((a1.getD v8.toNat default).f_Rule).toNat) default).f_All).getD v18.toNat default)), (14, .bool s.1), (17, .isl 3 (a1.map eD) false), (18, .int .i64 ((a1.map eD).length : Int)), (19, .int .i64 v8), (77, .isl 1 ((((a0.getD (((a1.getD v8.toNat default).f_Set).toNat) default).getD (((a1.getD v8.toNat default).f_Rule).toNat) default).f_All).map e_i64) false), (78, .int .i64 (((((a0.getD (((a1.getD v8.toNat default).f_Set).toNat) default).getD (((a1.getD v8.toNat default).f_Rule).toNat) default).f_All).map e_i64).length : Int)), (79, .int .i64 v18), (85, .isl 3 ((a1.take v8.toNat).map eD) false), (86, .int .i64 (((a1.take v8.toNat).map eD).length : Int)), (87, .int .i64 s.2)]
def f23_L13_hp (a0 : List (List G_QRule)) (a1 : List G_QDerivation) (a2 : Int) (a3 : Int) (v8 : Int) (v18 : Int) (s : (Bool × Int)) : AHeap := [((0, 0), .one [.int .i64 ((a1.getD v8.toNat default).f_Set), .int .i64 ((a1.getD v8.toNat default).f_Rule), .int .i64 ((a1.getD v8.toNat default).f_Element)])]
def f23_L13_Q (a0 : List (List G_QRule)) (a1 : List G_QDerivation) (a2 : Int) (a3 : Int) (v8 : Int) (o : (Int ⊕ (Int ⊕ Bool))) : Exit → Env → AHeap → Nat → Prop := (QBlock 4 (QSeq Try.prog f23_lay 0 f23_c0 (QBlock 3 (QSeq Try.prog f23_lay 0 f23_c1 (BodyQ 0 1 (f23_L12_env a0 a1 a2 a3 v8) (f23_L12_hp a0 a1 a2 a3 v8) (f23_L12_Q a0 a1 a2 a3) o)))))

noncomputable def S_glossatorref3_Proves_j20 (m : Option Nat) (a0 : List (List G_QRule)) (a1 : List G_QDerivation) (a2 : Int) (a3 : Int) (v8 : Int) (v18 : Int) : Option (Int ⊕ (Int ⊕ Bool)) :=
  some (.inl (W (v18 + 1)))

noncomputable def S_glossatorref3_Proves_j19 (m : Option Nat) (a0 : List (List G_QRule)) (a1 : List G_QDerivation) (a2 : Int) (a3 : Int) (v8 : Int) (v18 : Int) (v21 : Bool) : Option (Int ⊕ (Int ⊕ Bool)) :=
  if (!v21) = true then
    Option.map Sum.inr (
      Option.map Sum.inr (
        some false))
  else
    S_glossatorref3_Proves_j20 m a0 a1 a2 a3 v8 v18

noncomputable def S_glossatorref3_Proves_b13 (m : Option Nat) (a0 : List (List G_QRule)) (a1 : List G_QDerivation) (a2 : Int) (a3 : Int) (v8 : Int) (v18 : Int) (v21 : Bool) (v22 : Int) : Option ((Bool × Int) ⊕ (Int ⊕ (Int ⊕ Bool))) :=
  if (decide (v22 < (((a1.take v8.toNat).map eD).length : Int))) = true then
    if (0 : Int) ≤ v22 ∧ v22 < (((a1.take v8.toNat).map eD).length : Int) then
    some (.inl ((v21 || ((((a1.take v8.toNat).getD v22.toNat default).f_Set == ((((a0.getD (((a1.getD v8.toNat default).f_Set).toNat) default).getD (((a1.getD v8.toNat default).f_Rule).toNat) default).f_All).getD v18.toNat default)) && (((a1.take v8.toNat).getD v22.toNat default).f_Element == (a1.getD v8.toNat default).f_Element))), (W (v22 + 1))))
    else none
  else
    Option.map Sum.inr (
      S_glossatorref3_Proves_j19 m a0 a1 a2 a3 v8 v18 v21)

noncomputable def S_glossatorref3_Proves_l13 (m : Option Nat) (a0 : List (List G_QRule)) (a1 : List G_QDerivation) (a2 : Int) (a3 : Int) (v8 : Int) (v18 : Int) (v21 : Bool) (v22 : Int) : Option (Int ⊕ (Int ⊕ Bool)) := loopM m (fun (s : (Bool × Int)) => S_glossatorref3_Proves_b13 m a0 a1 a2 a3 v8 v18 s.1 s.2) (v21, v22)

theorem f23_j20_ok {a0 : List (List G_QRule)} {a1 : List G_QDerivation} {a2 : Int} {a3 : Int} {v8 : Int} {v18 : Int} {m : Option Nat} {o : (Int ⊕ (Int ⊕ Bool))} (h : S_glossatorref3_Proves_j20 m a0 a1 a2 a3 v8 v18 = some o) :
    LWp Try.prog f23_lay 0 f23_c1 (BodyQ 0 1 (f23_L12_env a0 a1 a2 a3 v8) (f23_L12_hp a0 a1 a2 a3 v8) (f23_L12_Q a0 a1 a2 a3) o) [(0, .isl 1 (a0.map eB) false), (1, .isl 3 (a1.map eD) false), (2, .int .i64 a2), (3, .int .i64 a3), (9, .int .i64 v8), (10, .ptr (0, 0) 0 0), (17, .isl 3 (a1.map eD) false), (18, .int .i64 ((a1.map eD).length : Int)), (19, .int .i64 v8), (77, .isl 1 ((((a0.getD (((a1.getD v8.toNat default).f_Set).toNat) default).getD (((a1.getD v8.toNat default).f_Rule).toNat) default).f_All).map e_i64) false), (78, .int .i64 (((((a0.getD (((a1.getD v8.toNat default).f_Set).toNat) default).getD (((a1.getD v8.toNat default).f_Rule).toNat) default).f_All).map e_i64).length : Int)), (79, .int .i64 v18)] [((0, 0), .one [.int .i64 ((a1.getD v8.toNat default).f_Set), .int .i64 ((a1.getD v8.toNat default).f_Rule), .int .i64 ((a1.getD v8.toNat default).f_Element)])] 1 := by
  unfold S_glossatorref3_Proves_j20 at h
  refine regI ?_
  cases h
  exact AI rfl (simI (M := [((0, 0), (0, 0))]) rfl (AI (VS rfl) (AI (VS rfl) (AI (VS rfl) (AI (VS rfl) (AI (VS rfl) (AI (Vw.ptr _ _ _ _ rfl) (AI (VS rfl) (AI (VS rfl) (AI (VS rfl) (AI (VS rfl) (AI (VS rfl) (AI (VS rfl) TT)))))))))))) (AI (AI rfl (BVw.oneL (AI (VS rfl) (AI (VS rfl) (AI (VS rfl) TT))))) TT))

theorem f23_j19_ok {a0 : List (List G_QRule)} {a1 : List G_QDerivation} {a2 : Int} {a3 : Int} {v8 : Int} {v18 : Int} {v21 : Bool} {m : Option Nat} {o : (Int ⊕ (Int ⊕ Bool))} (h : S_glossatorref3_Proves_j19 m a0 a1 a2 a3 v8 v18 v21 = some o) :
    LWp Try.prog f23_lay 0 f23_c0 (QBlock 3 (QSeq Try.prog f23_lay 0 f23_c1 (BodyQ 0 1 (f23_L12_env a0 a1 a2 a3 v8) (f23_L12_hp a0 a1 a2 a3 v8) (f23_L12_Q a0 a1 a2 a3) o))) [(0, .isl 1 (a0.map eB) false), (1, .isl 3 (a1.map eD) false), (2, .int .i64 a2), (3, .int .i64 a3), (9, .int .i64 v8), (10, .ptr (0, 0) 0 0), (14, .bool v21), (17, .isl 3 (a1.map eD) false), (18, .int .i64 ((a1.map eD).length : Int)), (19, .int .i64 v8), (77, .isl 1 ((((a0.getD (((a1.getD v8.toNat default).f_Set).toNat) default).getD (((a1.getD v8.toNat default).f_Rule).toNat) default).f_All).map e_i64) false), (78, .int .i64 (((((a0.getD (((a1.getD v8.toNat default).f_Set).toNat) default).getD (((a1.getD v8.toNat default).f_Rule).toNat) default).f_All).map e_i64).length : Int)), (79, .int .i64 v18)] [((0, 0), .one [.int .i64 ((a1.getD v8.toNat default).f_Set), .int .i64 ((a1.getD v8.toNat default).f_Rule), .int .i64 ((a1.getD v8.toNat default).f_Element)])] 1 := by
  unfold S_glossatorref3_Proves_j19 at h
  refine seqI ?_
  refine regI ?_
  refine condI (v := (!v21)) rfl TT (fun h114 => ?_) (fun h114 => ?_)
  · have h := ite_tt h114 h
    refine seqI ?_
    refine regI ?_
    refine retI ?_
    obtain ⟨o, hq, rfl⟩ := Option.map_eq_some_iff.1 h
    replace h := hq; clear hq
    refine AI nofun ?_
    obtain ⟨o, hq, rfl⟩ := Option.map_eq_some_iff.1 h
    replace h := hq; clear hq
    refine AI nofun ?_
    cases h
    exact AI TT (AI rfl (VS rfl))
  · have h := ite_ff h114 h
    refine skipI ?_
    refine LWp.sim ?_ (f23_j20_ok h)
    exact simI (M := [((0, 0), (0, 0))]) rfl (AI (VS rfl) (AI (VS rfl) (AI (VS rfl) (AI (VS rfl) (AI (VS rfl) (AI (Vw.ptr _ _ _ _ rfl) (AI (VS rfl) (AI (VS rfl) (AI (VS rfl) (AI (VS rfl) (AI (VS rfl) (AI (VS rfl) TT)))))))))))) (AI (AI rfl (BVw.oneL (AI (VS rfl) (AI (VS rfl) (AI (VS rfl) TT))))) TT)

theorem f23_L13_bok {a0 : List (List G_QRule)} {a1 : List G_QDerivation} {a2 : Int} {a3 : Int} {v8 : Int} {v18 : Int} {v21 : Bool} {v22 : Int} {m : Option Nat} {o : (Bool × Int) ⊕ (Int ⊕ (Int ⊕ Bool))} (h : S_glossatorref3_Proves_b13 m a0 a1 a2 a3 v8 v18 v21 v22 = some o) :
    LWp Try.prog f23_lay 0 f23_c2 (BodyQ 0 1 (f23_L13_env a0 a1 a2 a3 v8 v18) (f23_L13_hp a0 a1 a2 a3 v8 v18) (f23_L13_Q a0 a1 a2 a3 v8) o) [(0, .isl 1 (a0.map eB) false), (1, .isl 3 (a1.map eD) false), (2, .int .i64 a2), (3, .int .i64 a3), (9, .int .i64 v8), (10, .ptr (0, 0) 0 0), (13, .int .i64 ((((a0.getD (((a1.getD v8.toNat default).f_Set).toNat) default).getD (((a1.getD v8.toNat default).f_Rule).toNat) default).f_All).getD v18.toNat default)), (14, .bool v21), (17, .isl 3 (a1.map eD) false), (18, .int .i64 ((a1.map eD).length : Int)), (19, .int .i64 v8), (77, .isl 1 ((((a0.getD (((a1.getD v8.toNat default).f_Set).toNat) default).getD (((a1.getD v8.toNat default).f_Rule).toNat) default).f_All).map e_i64) false), (78, .int .i64 (((((a0.getD (((a1.getD v8.toNat default).f_Set).toNat) default).getD (((a1.getD v8.toNat default).f_Rule).toNat) default).f_All).map e_i64).length : Int)), (79, .int .i64 v18), (85, .isl 3 ((a1.take v8.toNat).map eD) false), (86, .int .i64 (((a1.take v8.toNat).map eD).length : Int)), (87, .int .i64 v22)] [((0, 0), .one [.int .i64 ((a1.getD v8.toNat default).f_Set), .int .i64 ((a1.getD v8.toNat default).f_Rule), .int .i64 ((a1.getD v8.toNat default).f_Element)])] 1 := by
  unfold S_glossatorref3_Proves_b13 at h
  refine seqI ?_
  refine regI ?_
  refine seqI ?_
  refine condI (v := (decide (v22 < (((a1.take v8.toNat).map eD).length : Int)))) rfl TT (fun h112 => ?_) (fun h112 => ?_)
  · have h := ite_tt h112 h
    refine skipI ?_
    refine seqI ?_
    refine blockI ?_
    refine seqI ?_
    refine regI ?_
    obtain ⟨h113, h⟩ := ite_some h
    refine AI h113 ?_
    refine EX (eD ((a1.take v8.toNat).getD v22.toNat default)) (AI (getD_enc eD _ _ (idx_ltL eD h113)) (AI (AI (idx_lt h113) (NB rfl)) ?_))
    refine regI ?_
    refine AI (fun hp => hp) ?_
    refine AI (fun hp => (AI hp hp)) ?_
    refine AI (fun hp => hp) ?_
    refine AI (fun hp => hp) ?_
    refine AI (fun hp => hp) ?_
    refine AI (fun hp => (AI hp hp)) ?_
    refine AI (fun hp => (AI hp (fun hc => (and_i hp (bqt hc))))) ?_
    refine AI (fun hc => (bqf hc)) ?_
    refine LWp.sim (e := [(0, .isl 1 (a0.map eB) false), (1, .isl 3 (a1.map eD) false), (2, .int .i64 a2), (3, .int .i64 a3), (9, .int .i64 v8), (10, .ptr (0, 0) 0 0), (13, .int .i64 ((((a0.getD (((a1.getD v8.toNat default).f_Set).toNat) default).getD (((a1.getD v8.toNat default).f_Rule).toNat) default).f_All).getD v18.toNat default)), (14, .bool (v21 || ((((a1.take v8.toNat).getD v22.toNat default).f_Set == ((((a0.getD (((a1.getD v8.toNat default).f_Set).toNat) default).getD (((a1.getD v8.toNat default).f_Rule).toNat) default).f_All).getD v18.toNat default)) && (((a1.take v8.toNat).getD v22.toNat default).f_Element == (a1.getD v8.toNat default).f_Element)))), (17, .isl 3 (a1.map eD) false), (18, .int .i64 ((a1.map eD).length : Int)), (19, .int .i64 v8), (77, .isl 1 ((((a0.getD (((a1.getD v8.toNat default).f_Set).toNat) default).getD (((a1.getD v8.toNat default).f_Rule).toNat) default).f_All).map e_i64) false), (78, .int .i64 (((((a0.getD (((a1.getD v8.toNat default).f_Set).toNat) default).getD (((a1.getD v8.toNat default).f_Rule).toNat) default).f_All).map e_i64).length : Int)), (79, .int .i64 v18), (85, .isl 3 ((a1.take v8.toNat).map eD) false), (86, .int .i64 (((a1.take v8.toNat).map eD).length : Int)), (87, .int .i64 v22)]) (L := [((0, 0), .one [.int .i64 ((a1.getD v8.toNat default).f_Set), .int .i64 ((a1.getD v8.toNat default).f_Rule), .int .i64 ((a1.getD v8.toNat default).f_Element)])]) (n := 1) ?_ ?_
    · exact simI (M := [((0, 0), (0, 0))]) rfl (AI (VS rfl) (AI (VS rfl) (AI (VS rfl) (AI (VS rfl) (AI (VS rfl) (AI (Vw.ptr _ _ _ _ rfl) (AI (VS rfl) (AI (VS rfl) (AI (VS rfl) (AI (VS rfl) (AI (VS rfl) (AI (VS rfl) (AI (VS rfl) (AI (VS rfl) (AI (VS rfl) (AI (VS rfl) (AI (VS rfl) TT))))))))))))))))) (AI (AI rfl (BVw.oneL (AI (VS rfl) (AI (VS rfl) (AI (VS rfl) TT))))) TT)
    refine regI ?_
    cases h
    exact AI rfl (simI (M := [((0, 0), (0, 0))]) rfl (AI (VS rfl) (AI (VS rfl) (AI (VS rfl) (AI (VS rfl) (AI (VS rfl) (AI (Vw.ptr _ _ _ _ rfl) (AI (VS rfl) (AI (VS rfl) (AI (VS rfl) (AI (VS rfl) (AI (VS rfl) (AI (VS rfl) (AI (VS rfl) (AI (VS rfl) (AI (VS rfl) (AI (VS rfl) (AI (VS rfl) TT))))))))))))))))) (AI (AI rfl (BVw.oneL (AI (VS rfl) (AI (VS rfl) (AI (VS rfl) TT))))) TT))
  · have h := ite_ff h112 h
    refine exitI ?_
    obtain ⟨o, hq, rfl⟩ := Option.map_eq_some_iff.1 h
    replace h := hq; clear hq
    refine AI nofun ?_
    refine LWp.sim ?_ (f23_j19_ok h)
    exact simI (M := [((0, 0), (0, 0))]) rfl (AI (VS rfl) (AI (VS rfl) (AI (VS rfl) (AI (VS rfl) (AI (VS rfl) (AI (Vw.ptr _ _ _ _ rfl) (AI (VS rfl) (AI (VS rfl) (AI (VS rfl) (AI (VS rfl) (AI (VS rfl) (AI (VS rfl) (AI (VS rfl) TT))))))))))))) (AI (AI rfl (BVw.oneL (AI (VS rfl) (AI (VS rfl) (AI (VS rfl) TT))))) TT)

theorem f23_L13_ok {a0 : List (List G_QRule)} {a1 : List G_QDerivation} {a2 : Int} {a3 : Int} {v8 : Int} {v18 : Int} {v21 : Bool} {v22 : Int} {m : Option Nat} {o : (Int ⊕ (Int ⊕ Bool))} (h : S_glossatorref3_Proves_l13 m a0 a1 a2 a3 v8 v18 v21 v22 = some o) :
    LWp Try.prog f23_lay 0 (.loop f23_c2) (QBlock 4 (QSeq Try.prog f23_lay 0 f23_c0 (QBlock 3 (QSeq Try.prog f23_lay 0 f23_c1 (BodyQ 0 1 (f23_L12_env a0 a1 a2 a3 v8) (f23_L12_hp a0 a1 a2 a3 v8) (f23_L12_Q a0 a1 a2 a3) o))))) [(0, .isl 1 (a0.map eB) false), (1, .isl 3 (a1.map eD) false), (2, .int .i64 a2), (3, .int .i64 a3), (9, .int .i64 v8), (10, .ptr (0, 0) 0 0), (13, .int .i64 ((((a0.getD (((a1.getD v8.toNat default).f_Set).toNat) default).getD (((a1.getD v8.toNat default).f_Rule).toNat) default).f_All).getD v18.toNat default)), (14, .bool v21), (17, .isl 3 (a1.map eD) false), (18, .int .i64 ((a1.map eD).length : Int)), (19, .int .i64 v8), (77, .isl 1 ((((a0.getD (((a1.getD v8.toNat default).f_Set).toNat) default).getD (((a1.getD v8.toNat default).f_Rule).toNat) default).f_All).map e_i64) false), (78, .int .i64 (((((a0.getD (((a1.getD v8.toNat default).f_Set).toNat) default).getD (((a1.getD v8.toNat default).f_Rule).toNat) default).f_All).map e_i64).length : Int)), (79, .int .i64 v18), (85, .isl 3 ((a1.take v8.toNat).map eD) false), (86, .int .i64 (((a1.take v8.toNat).map eD).length : Int)), (87, .int .i64 v22)] [((0, 0), .one [.int .i64 ((a1.getD v8.toNat default).f_Set), .int .i64 ((a1.getD v8.toNat default).f_Rule), .int .i64 ((a1.getD v8.toNat default).f_Element)])] 1 :=
  LWp_loopM (m := m) (s := ((v21, v22) : (Bool × Int))) (r := o) (fun (s : (Bool × Int)) => S_glossatorref3_Proves_b13 m a0 a1 a2 a3 v8 v18 s.1 s.2) (f23_L13_env a0 a1 a2 a3 v8 v18) (f23_L13_hp a0 a1 a2 a3 v8 v18) (f23_L13_Q a0 a1 a2 a3 v8) (fun s o h => f23_L13_bok h) h

noncomputable def S_glossatorref3_Proves_j21 (m : Option Nat) (a0 : List (List G_QRule)) (a1 : List G_QDerivation) (a2 : Int) (a3 : Int) (v8 : Int) : Option (Int ⊕ Bool) :=
  some (.inl (W (v8 + 1)))

noncomputable def S_glossatorref3_Proves_b12 (m : Option Nat) (a0 : List (List G_QRule)) (a1 : List G_QDerivation) (a2 : Int) (a3 : Int) (v8 : Int) (v18 : Int) : Option (Int ⊕ (Int ⊕ Bool)) :=
  if (decide (v18 < (((((a0.getD (((a1.getD v8.toNat default).f_Set).toNat) default).getD (((a1.getD v8.toNat default).f_Rule).toNat) default).f_All).map e_i64).length : Int))) = true then
    if (0 : Int) ≤ v18 ∧ v18 < (((((a0.getD (((a1.getD v8.toNat default).f_Set).toNat) default).getD (((a1.getD v8.toNat default).f_Rule).toNat) default).f_All).map e_i64).length : Int) then
    if (0 : Int) ≤ v8 ∧ v8 ≤ ((a1.map eD).length : Int) then
    S_glossatorref3_Proves_l13 m a0 a1 a2 a3 v8 v18 false 0
    else none
    else none
  else
    Option.map Sum.inr (
      S_glossatorref3_Proves_j21 m a0 a1 a2 a3 v8)

noncomputable def S_glossatorref3_Proves_l12 (m : Option Nat) (a0 : List (List G_QRule)) (a1 : List G_QDerivation) (a2 : Int) (a3 : Int) (v8 : Int) (v18 : Int) : Option (Int ⊕ Bool) := loopM m (fun (s : Int) => S_glossatorref3_Proves_b12 m a0 a1 a2 a3 v8 s) v18

theorem f23_j21_ok {a0 : List (List G_QRule)} {a1 : List G_QDerivation} {a2 : Int} {a3 : Int} {v8 : Int} {m : Option Nat} {o : (Int ⊕ Bool)} (h : S_glossatorref3_Proves_j21 m a0 a1 a2 a3 v8 = some o) :
    LWp Try.prog f23_lay 0 f23_c3 (BodyQ 0 0 (f23_L9_env a0 a1 a2 a3) (f23_L9_hp a0 a1 a2 a3) (f23_L9_Q a0 a1 a2 a3) o) [(0, .isl 1 (a0.map eB) false), (1, .isl 3 (a1.map eD) false), (2, .int .i64 a2), (3, .int .i64 a3), (17, .isl 3 (a1.map eD) false), (18, .int .i64 ((a1.map eD).length : Int)), (19, .int .i64 v8)] [] 0 := by
  unfold S_glossatorref3_Proves_j21 at h
  refine regI ?_
  cases h
  exact AI rfl (simI (M := []) rfl (AI (VS rfl) (AI (VS rfl) (AI (VS rfl) (AI (VS rfl) (AI (VS rfl) (AI (VS rfl) (AI (VS rfl) TT))))))) TT)

theorem f23_L12_bok {a0 : List (List G_QRule)} {a1 : List G_QDerivation} {a2 : Int} {a3 : Int} {v8 : Int} {v18 : Int} {m : Option Nat} {o : Int ⊕ (Int ⊕ Bool)} (h : S_glossatorref3_Proves_b12 m a0 a1 a2 a3 v8 v18 = some o) :
    LWp Try.prog f23_lay 0 f23_c4 (BodyQ 0 1 (f23_L12_env a0 a1 a2 a3 v8) (f23_L12_hp a0 a1 a2 a3 v8) (f23_L12_Q a0 a1 a2 a3) o) [(0, .isl 1 (a0.map eB) false), (1, .isl 3 (a1.map eD) false), (2, .int .i64 a2), (3, .int .i64 a3), (9, .int .i64 v8), (10, .ptr (0, 0) 0 0), (17, .isl 3 (a1.map eD) false), (18, .int .i64 ((a1.map eD).length : Int)), (19, .int .i64 v8), (77, .isl 1 ((((a0.getD (((a1.getD v8.toNat default).f_Set).toNat) default).getD (((a1.getD v8.toNat default).f_Rule).toNat) default).f_All).map e_i64) false), (78, .int .i64 (((((a0.getD (((a1.getD v8.toNat default).f_Set).toNat) default).getD (((a1.getD v8.toNat default).f_Rule).toNat) default).f_All).map e_i64).length : Int)), (79, .int .i64 v18)] [((0, 0), .one [.int .i64 ((a1.getD v8.toNat default).f_Set), .int .i64 ((a1.getD v8.toNat default).f_Rule), .int .i64 ((a1.getD v8.toNat default).f_Element)])] 1 := by
  unfold S_glossatorref3_Proves_b12 at h
  refine seqI ?_
  refine regI ?_
  refine seqI ?_
  refine condI (v := (decide (v18 < (((((a0.getD (((a1.getD v8.toNat default).f_Set).toNat) default).getD (((a1.getD v8.toNat default).f_Rule).toNat) default).f_All).map e_i64).length : Int)))) rfl TT (fun h105 => ?_) (fun h105 => ?_)
  · have h := ite_tt h105 h
    refine skipI ?_
    refine seqI ?_
    refine blockI ?_
    refine seqI ?_
    refine regI ?_
    obtain ⟨h106, h⟩ := ite_some h
    refine AI h106 ?_
    refine EX (e_i64 ((((a0.getD (((a1.getD v8.toNat default).f_Set).toNat) default).getD (((a1.getD v8.toNat default).f_Rule).toNat) default).f_All).getD v18.toNat default)) (AI (getD_enc e_i64 _ _ (idx_ltL e_i64 h106)) (AI (AI (idx_lt h106) (NB rfl)) ?_))
    refine seqI ?_
    refine regI ?_
    refine seqI ?_
    refine seqI ?_
    refine regI ?_
    obtain ⟨h107, h⟩ := ite_some h
    refine EX (.isl 3 ((a1.take v8.toNat).map eD) false) (AI (sl_eq eD (slB eD a1 _) rfl) (AI (AI rfl (AI (Int.le_refl _) h107)) ?_))
    refine LWp.sim (e := [(0, .isl 1 (a0.map eB) false), (1, .isl 3 (a1.map eD) false), (2, .int .i64 a2), (3, .int .i64 a3), (9, .int .i64 v8), (10, .ptr (0, 0) 0 0), (13, .int .i64 ((((a0.getD (((a1.getD v8.toNat default).f_Set).toNat) default).getD (((a1.getD v8.toNat default).f_Rule).toNat) default).f_All).getD v18.toNat default)), (14, .bool false), (17, .isl 3 (a1.map eD) false), (18, .int .i64 ((a1.map eD).length : Int)), (19, .int .i64 v8), (77, .isl 1 ((((a0.getD (((a1.getD v8.toNat default).f_Set).toNat) default).getD (((a1.getD v8.toNat default).f_Rule).toNat) default).f_All).map e_i64) false), (78, .int .i64 (((((a0.getD (((a1.getD v8.toNat default).f_Set).toNat) default).getD (((a1.getD v8.toNat default).f_Rule).toNat) default).f_All).map e_i64).length : Int)), (79, .int .i64 v18), (85, .isl 3 ((a1.take v8.toNat).map eD) false), (86, .int .i64 (((a1.take v8.toNat).map eD).length : Int)), (87, .int .i64 0)]) (L := [((0, 0), .one [.int .i64 ((a1.getD v8.toNat default).f_Set), .int .i64 ((a1.getD v8.toNat default).f_Rule), .int .i64 ((a1.getD v8.toNat default).f_Element)])]) (n := 1) ?_ ?_
    · exact simI (M := [((0, 0), (0, 0))]) rfl (AI (VS rfl) (AI (VS rfl) (AI (VS rfl) (AI (VS rfl) (AI (VS rfl) (AI (Vw.ptr _ _ _ _ rfl) (AI (VS rfl) (AI (VS rfl) (AI (VS rfl) (AI (VS rfl) (AI (VS rfl) (AI (VS rfl) (AI (VS rfl) (AI (VS rfl) (AI (VS rfl) (AI (VS rfl) (AI (VS rfl) TT))))))))))))))))) (AI (AI rfl (BVw.oneL (AI (VS rfl) (AI (VS rfl) (AI (VS rfl) TT))))) TT)
    refine blockI ?_
    refine LWp.sim ?_ (f23_L13_ok h)
    exact simI (M := [((0, 0), (0, 0))]) rfl (AI (VS rfl) (AI (VS rfl) (AI (VS rfl) (AI (VS rfl) (AI (VS rfl) (AI (Vw.ptr _ _ _ _ rfl) (AI (VS rfl) (AI (VS rfl) (AI (VS rfl) (AI (VS rfl) (AI (VS rfl) (AI (VS rfl) (AI (VS rfl) (AI (VS rfl) (AI (VS rfl) (AI (VS rfl) (AI (VS rfl) TT))))))))))))))))) (AI (AI rfl (BVw.oneL (AI (VS rfl) (AI (VS rfl) (AI (VS rfl) TT))))) TT)
  · have h := ite_ff h105 h
    refine exitI ?_
    obtain ⟨o, hq, rfl⟩ := Option.map_eq_some_iff.1 h
    replace h := hq; clear hq
    refine AI nofun ?_
    refine LWp.sim ?_ (f23_j21_ok h)
    exact simI (M := []) rfl (AI (VS rfl) (AI (VS rfl) (AI (VS rfl) (AI (VS rfl) (AI (VS rfl) (AI (VS rfl) (AI (VS rfl) TT))))))) TT

theorem f23_L12_ok {a0 : List (List G_QRule)} {a1 : List G_QDerivation} {a2 : Int} {a3 : Int} {v8 : Int} {v18 : Int} {m : Option Nat} {o : (Int ⊕ Bool)} (h : S_glossatorref3_Proves_l12 m a0 a1 a2 a3 v8 v18 = some o) :
    LWp Try.prog f23_lay 0 (.loop f23_c4) (QBlock 2 (QBlock 1 (QSeq Try.prog f23_lay 0 f23_c3 (BodyQ 0 0 (f23_L9_env a0 a1 a2 a3) (f23_L9_hp a0 a1 a2 a3) (f23_L9_Q a0 a1 a2 a3) o)))) [(0, .isl 1 (a0.map eB) false), (1, .isl 3 (a1.map eD) false), (2, .int .i64 a2), (3, .int .i64 a3), (9, .int .i64 v8), (10, .ptr (0, 0) 0 0), (17, .isl 3 (a1.map eD) false), (18, .int .i64 ((a1.map eD).length : Int)), (19, .int .i64 v8), (77, .isl 1 ((((a0.getD (((a1.getD v8.toNat default).f_Set).toNat) default).getD (((a1.getD v8.toNat default).f_Rule).toNat) default).f_All).map e_i64) false), (78, .int .i64 (((((a0.getD (((a1.getD v8.toNat default).f_Set).toNat) default).getD (((a1.getD v8.toNat default).f_Rule).toNat) default).f_All).map e_i64).length : Int)), (79, .int .i64 v18)] [((0, 0), .one [.int .i64 ((a1.getD v8.toNat default).f_Set), .int .i64 ((a1.getD v8.toNat default).f_Rule), .int .i64 ((a1.getD v8.toNat default).f_Element)])] 1 :=
  LWp_loopM (m := m) (s := (v18 : Int)) (r := o) (fun (s : Int) => S_glossatorref3_Proves_b12 m a0 a1 a2 a3 v8 s) (f23_L12_env a0 a1 a2 a3 v8) (f23_L12_hp a0 a1 a2 a3 v8) (f23_L12_Q a0 a1 a2 a3) (fun s o h => f23_L12_bok h) h

noncomputable def S_glossatorref3_Proves_j22 (m : Option Nat) (a1 : List G_QDerivation) (a2 : Int) (a3 : Int) : Option Bool :=
  if (((decide (((a1.map eD).length : Int) > 0)) == true) = true → (0 : Int) ≤ (W (((a1.map eD).length : Int) - 1)) ∧ (W (((a1.map eD).length : Int) - 1)) < ((a1.map eD).length : Int)) then
  if ((((decide (((a1.map eD).length : Int) > 0)) && ((a1.getD ((W (((a1.map eD).length : Int) - 1)).toNat) default).f_Set == a2)) == true) = true → (0 : Int) ≤ (W (((a1.map eD).length : Int) - 1)) ∧ (W (((a1.map eD).length : Int) - 1)) < ((a1.map eD).length : Int)) then
  some (((decide (((a1.map eD).length : Int) > 0)) && ((a1.getD ((W (((a1.map eD).length : Int) - 1)).toNat) default).f_Set == a2)) && ((a1.getD ((W (((a1.map eD).length : Int) - 1)).toNat) default).f_Element == a3))
  else none
  else none

noncomputable def S_glossatorref3_Proves_b9 (m : Option Nat) (a0 : List (List G_QRule)) (a1 : List G_QDerivation) (a2 : Int) (a3 : Int) (v8 : Int) : Option (Int ⊕ Bool) :=
  if (decide (v8 < ((a1.map eD).length : Int))) = true then
    if (0 : Int) ≤ v8 ∧ v8 < ((a1.map eD).length : Int) then
    if (((((((decide ((a1.getD v8.toNat default).f_Set < 0)) || (decide ((a1.getD v8.toNat default).f_Set ≥ ((a0.map eB).length : Int)))) || (decide ((a1.getD v8.toNat default).f_Element < 0))) || (decide ((a1.getD v8.toNat default).f_Element ≥ 20))) || (decide ((a1.getD v8.toNat default).f_Rule < 0))) == false) = true → (0 : Int) ≤ (a1.getD v8.toNat default).f_Set ∧ (a1.getD v8.toNat default).f_Set < ((a0.map eB).length : Int)) then
    if ((((((decide ((a1.getD v8.toNat default).f_Set < 0)) || (decide ((a1.getD v8.toNat default).f_Set ≥ ((a0.map eB).length : Int)))) || (decide ((a1.getD v8.toNat default).f_Element < 0))) || (decide ((a1.getD v8.toNat default).f_Element ≥ 20))) || (decide ((a1.getD v8.toNat default).f_Rule < 0))) || (decide ((a1.getD v8.toNat default).f_Rule ≥ (((a0.getD (((a1.getD v8.toNat default).f_Set).toNat) default).map e_QRule).length : Int)))) = true then
      Option.map Sum.inr (
        some false)
    else
      if (0 : Int) ≤ (a1.getD v8.toNat default).f_Set ∧ (a1.getD v8.toNat default).f_Set < ((a0.map eB).length : Int) then
      if (0 : Int) ≤ (a1.getD v8.toNat default).f_Rule ∧ (a1.getD v8.toNat default).f_Rule < (((a0.getD (((a1.getD v8.toNat default).f_Set).toNat) default).map e_QRule).length : Int) then
      if (0 : Int) ≤ (a1.getD v8.toNat default).f_Element then
      if ((ibits .and .i64 (((a0.getD (((a1.getD v8.toNat default).f_Set).toNat) default).getD (((a1.getD v8.toNat default).f_Rule).toNat) default).f_Mask) (W (1 * 2 ^ (min ((a1.getD v8.toNat default).f_Element).toNat (IntKind.bits .i64))))) == 0) = true then
        Option.map Sum.inr (
          some false)
      else
        S_glossatorref3_Proves_l12 m a0 a1 a2 a3 v8 0
      else none
      else none
      else none
    else none
    else none
  else
    Option.map Sum.inr (
      S_glossatorref3_Proves_j22 m a1 a2 a3)

noncomputable def S_glossatorref3_Proves_l9 (m : Option Nat) (a0 : List (List G_QRule)) (a1 : List G_QDerivation) (a2 : Int) (a3 : Int) (v8 : Int) : Option Bool := loopM m (fun (s : Int) => S_glossatorref3_Proves_b9 m a0 a1 a2 a3 s) v8

theorem f23_j22_ok {a0 : List (List G_QRule)} {a1 : List G_QDerivation} {a2 : Int} {a3 : Int} {m : Option Nat} {o : Bool} (h : S_glossatorref3_Proves_j22 m a1 a2 a3 = some o) :
    LWp Try.prog f23_lay 0 f23_c5 (f23_Q a0 a1 a2 a3 o) [(1, .isl 3 (a1.map eD) false), (2, .int .i64 a2), (3, .int .i64 a3)] [] 0 := by
  unfold S_glossatorref3_Proves_j22 at h
  refine seqI ?_
  refine regI ?_
  refine AI (fun hp => hp) ?_
  refine AI (fun hp => hp) ?_
  obtain ⟨h115, h⟩ := ite_some h
  refine AI (fun hp => (AI (AI hp hp) (h115 hp))) ?_
  refine AI (fun hp => hp) ?_
  refine EX (eD (a1.getD ((W (((a1.map eD).length : Int) - 1)).toNat) default)) (AI (fun hp => AI (getD_enc eD _ _ (idx_ltL eD (h115 hp))) (AI hp (AI (idx_lt (h115 hp)) (NB rfl)))) ?_)
  refine AI (fun hp => (AI hp hp)) ?_
  refine AI (fun hc => (bqt hc)) ?_
  refine AI (fun hp => hp) ?_
  refine AI (fun hp => hp) ?_
  obtain ⟨h116, h⟩ := ite_some h
  refine AI (fun hp => (AI (AI hp hp) (h116 hp))) ?_
  refine AI (fun hp => hp) ?_
  refine EX (eD (a1.getD ((W (((a1.map eD).length : Int) - 1)).toNat) default)) (AI (fun hp => AI (getD_enc eD _ _ (idx_ltL eD (h116 hp))) (AI hp (AI (idx_lt (h116 hp)) (NB rfl)))) ?_)
  refine AI (fun hp => (AI hp hp)) ?_
  refine AI (fun hc => (bqt hc)) ?_
  refine LWp.sim (e := [(8, .bool (((decide (((a1.map eD).length : Int) > 0)) && ((a1.getD ((W (((a1.map eD).length : Int) - 1)).toNat) default).f_Set == a2)) && ((a1.getD ((W (((a1.map eD).length : Int) - 1)).toNat) default).f_Element == a3)))]) (L := []) (n := 0) ?_ ?_
  · exact simI (M := []) rfl (AI (VS rfl) TT) TT
  refine retI ?_
  cases h
  exact AI TT (AI rfl (VS rfl))

theorem f23_L9_bok {a0 : List (List G_QRule)} {a1 : List G_QDerivation} {a2 : Int} {a3 : Int} {v8 : Int} {m : Option Nat} {o : Int ⊕ Bool} (h : S_glossatorref3_Proves_b9 m a0 a1 a2 a3 v8 = some o) :
    LWp Try.prog f23_lay 0 f23_c6 (BodyQ 0 0 (f23_L9_env a0 a1 a2 a3) (f23_L9_hp a0 a1 a2 a3) (f23_L9_Q a0 a1 a2 a3) o) [(0, .isl 1 (a0.map eB) false), (1, .isl 3 (a1.map eD) false), (2, .int .i64 a2), (3, .int .i64 a3), (17, .isl 3 (a1.map eD) false), (18, .int .i64 ((a1.map eD).length : Int)), (19, .int .i64 v8)] [] 0 := by
  unfold S_glossatorref3_Proves_b9 at h
  refine seqI ?_
  refine regI ?_
  refine seqI ?_
  refine condI (v := (decide (v8 < ((a1.map eD).length : Int)))) rfl TT (fun h77 => ?_) (fun h77 => ?_)
  · have h := ite_tt h77 h
    refine skipI ?_
    refine seqI ?_
    refine blockI ?_
    refine seqI ?_
    refine regI ?_
    obtain ⟨h78, h⟩ := ite_some h
    refine AI h78 ?_
    refine EX (eD (a1.getD v8.toNat default)) (AI (getD_enc eD _ _ (idx_ltL eD h78)) (AI (AI (idx_lt h78) (NB rfl)) ?_))
    refine seqI ?_
    refine seqI ?_
    refine quietI ?_
    refine AI (fun hp => hp) ?_
    refine AI (fun hp => hp) ?_
    refine AI (fun hp => (AI hp hp)) ?_
    refine AI (fun hc => (bqf hc)) ?_
    refine AI (fun hp => hp) ?_
    refine AI (fun hp => hp) ?_
    refine AI (fun hc => (bqf hc)) ?_
    refine AI (fun hp => hp) ?_
    refine AI (fun hp => hp) ?_
    refine AI (fun hc => (bqf hc)) ?_
    refine AI (fun hp => hp) ?_
    refine AI (fun hp => hp) ?_
    refine AI (fun hc => (bqf hc)) ?_
    refine AI (fun hp => hp) ?_
    refine AI (fun hp => hp) ?_
    obtain ⟨h79, h⟩ := ite_some h
    refine AI (fun hp => (AI (AI hp hp) (h79 hp))) ?_
    refine EX (eB (a0.getD (((a1.getD v8.toNat default).f_Set).toNat) default)) (AI (fun hp => AI (getD_enc eB _ _ (idx_ltL eB (h79 hp))) (AI hp (AI (idx_lt (h79 hp)) (NB rfl)))) ?_)
    refine AI (fun hp => hp) ?_
    refine AI (fun hp => (AI hp hp)) ?_
    refine AI (fun hc => (bqf hc)) ?_
    refine LWp.sim (e := [(0, .isl 1 (a0.map eB) false), (1, .isl 3 (a1.map eD) false), (2, .int .i64 a2), (3, .int .i64 a3), (9, .int .i64 v8), (10, .ptr (0, 0) 0 0), (17, .isl 3 (a1.map eD) false), (18, .int .i64 ((a1.map eD).length : Int)), (19, .int .i64 v8), (59, .bool ((((((decide ((a1.getD v8.toNat default).f_Set < 0)) || (decide ((a1.getD v8.toNat default).f_Set ≥ ((a0.map eB).length : Int)))) || (decide ((a1.getD v8.toNat default).f_Element < 0))) || (decide ((a1.getD v8.toNat default).f_Element ≥ 20))) || (decide ((a1.getD v8.toNat default).f_Rule < 0))) || (decide ((a1.getD v8.toNat default).f_Rule ≥ (((a0.getD (((a1.getD v8.toNat default).f_Set).toNat) default).map e_QRule).length : Int)))))]) (L := [((0, 0), .one [.int .i64 ((a1.getD v8.toNat default).f_Set), .int .i64 ((a1.getD v8.toNat default).f_Rule), .int .i64 ((a1.getD v8.toNat default).f_Element)])]) (n := 1) ?_ ?_
    · exact simI (M := [((0, 0), (0, 0))]) rfl (AI (VS rfl) (AI (VS rfl) (AI (VS rfl) (AI (VS rfl) (AI (VS rfl) (AI (Vw.ptr _ _ _ _ rfl) (AI (VS rfl) (AI (VS rfl) (AI (VS rfl) (AI (VS rfl) TT)))))))))) (AI (AI rfl (BVw.oneL (AI (VS rfl) (AI (VS rfl) (AI (VS rfl) TT))))) TT)
    refine condI (v := ((((((decide ((a1.getD v8.toNat default).f_Set < 0)) || (decide ((a1.getD v8.toNat default).f_Set ≥ ((a0.map eB).length : Int)))) || (decide ((a1.getD v8.toNat default).f_Element < 0))) || (decide ((a1.getD v8.toNat default).f_Element ≥ 20))) || (decide ((a1.getD v8.toNat default).f_Rule < 0))) || (decide ((a1.getD v8.toNat default).f_Rule ≥ (((a0.getD (((a1.getD v8.toNat default).f_Set).toNat) default).map e_QRule).length : Int))))) rfl TT (fun h80 => ?_) (fun h80 => ?_)
    · have h := ite_tt h80 h
      refine seqI ?_
      refine regI ?_
      refine retI ?_
      obtain ⟨o, hq, rfl⟩ := Option.map_eq_some_iff.1 h
      replace h := hq; clear hq
      refine AI nofun ?_
      cases h
      exact AI TT (AI rfl (VS rfl))
    · have h := ite_ff h80 h
      refine skipI ?_
      refine seqI ?_
      refine drawI ?_
      obtain ⟨h81, h⟩ := ite_some h
      refine AI h81 ?_
      refine EX (eB (a0.getD (((a1.getD v8.toNat default).f_Set).toNat) default)) (AI (getD_enc eB _ _ (idx_ltL eB h81)) (AI (AI (idx_lt h81) (NB rfl)) ?_))
      obtain ⟨h82, h⟩ := ite_some h
      refine AI h82 ?_
      refine EX (e_QRule ((a0.getD (((a1.getD v8.toNat default).f_Set).toNat) default).getD (((a1.getD v8.toNat default).f_Rule).toNat) default)) (AI (getD_enc e_QRule _ _ (idx_ltL e_QRule h82)) (AI (AI (idx_lt h82) (NB rfl)) ?_))
      refine AI (AI (AI (idx_lt h82) (NB rfl)) (congrArg (cellsAt true 2 0) (getD_enc e_QRule _ _ (idx_ltL e_QRule h82)))) ?_
      refine AI rfl ?_
      refine AI (AI (AI (idx_lt h81) (NB rfl)) (congrArg (cellsAt false 1 0) (getD_enc eB _ _ (idx_ltL eB h81)))) ?_
      refine AI rfl ?_
      refine LWp.sim (e := [(0, .isl 1 (a0.map eB) false), (1, .isl 3 (a1.map eD) false), (2, .int .i64 a2), (3, .int .i64 a3), (9, .int .i64 v8), (10, .ptr (0, 0) 0 0), (11, .ptr (1, 0) 0 0), (17, .isl 3 (a1.map eD) false), (18, .int .i64 ((a1.map eD).length : Int)), (19, .int .i64 v8)]) (L := [((0, 0), .one [.int .i64 ((a1.getD v8.toNat default).f_Set), .int .i64 ((a1.getD v8.toNat default).f_Rule), .int .i64 ((a1.getD v8.toNat default).f_Element)]), ((1, 0), .one [.int .i64 (((a0.getD (((a1.getD v8.toNat default).f_Set).toNat) default).getD (((a1.getD v8.toNat default).f_Rule).toNat) default).f_Mask), .isl 1 ((((a0.getD (((a1.getD v8.toNat default).f_Set).toNat) default).getD (((a1.getD v8.toNat default).f_Rule).toNat) default).f_All).map e_i64) false])]) (n := 2) ?_ ?_
      · exact simI (M := [((0, 0), (0, 0)), ((1, 0), (1, 0))]) rfl (AI (VS rfl) (AI (VS rfl) (AI (VS rfl) (AI (VS rfl) (AI (VS rfl) (AI (Vw.ptr _ _ _ _ rfl) (AI (Vw.ptr _ _ _ _ rfl) (AI (VS rfl) (AI (VS rfl) (AI (VS rfl) TT)))))))))) (AI (AI rfl (BVw.oneL (AI (VS rfl) (AI (VS rfl) (AI (VS rfl) TT))))) (AI (AI rfl (BVw.oneL (AI (VS rfl) (AI (VS rfl) TT)))) TT))
      refine seqI ?_
      refine seqI ?_
      refine quietI ?_
      obtain ⟨h83, h⟩ := ite_some h
      refine AI h83 ?_
      refine condI (v := ((ibits .and .i64 (((a0.getD (((a1.getD v8.toNat default).f_Set).toNat) default).getD (((a1.getD v8.toNat default).f_Rule).toNat) default).f_Mask) (W (1 * 2 ^ (min ((a1.getD v8.toNat default).f_Element).toNat (IntKind.bits .i64))))) == 0)) rfl TT (fun h84 => ?_) (fun h84 => ?_)
      · have h := ite_tt h84 h
        refine seqI ?_
        refine regI ?_
        refine LWp.sim (e := [(8, .bool false)]) (L := []) (n := 0) ?_ ?_
        · exact simI (M := []) rfl (AI (VS rfl) TT) TT
        refine retI ?_
        obtain ⟨o, hq, rfl⟩ := Option.map_eq_some_iff.1 h
        replace h := hq; clear hq
        refine AI nofun ?_
        cases h
        exact AI TT (AI rfl (VS rfl))
      · have h := ite_ff h84 h
        refine skipI ?_
        refine seqI ?_
        refine regI ?_
        refine LWp.sim (e := [(0, .isl 1 (a0.map eB) false), (1, .isl 3 (a1.map eD) false), (2, .int .i64 a2), (3, .int .i64 a3), (9, .int .i64 v8), (10, .ptr (0, 0) 0 0), (17, .isl 3 (a1.map eD) false), (18, .int .i64 ((a1.map eD).length : Int)), (19, .int .i64 v8), (77, .isl 1 ((((a0.getD (((a1.getD v8.toNat default).f_Set).toNat) default).getD (((a1.getD v8.toNat default).f_Rule).toNat) default).f_All).map e_i64) false), (78, .int .i64 (((((a0.getD (((a1.getD v8.toNat default).f_Set).toNat) default).getD (((a1.getD v8.toNat default).f_Rule).toNat) default).f_All).map e_i64).length : Int)), (79, .int .i64 0)]) (L := [((0, 0), .one [.int .i64 ((a1.getD v8.toNat default).f_Set), .int .i64 ((a1.getD v8.toNat default).f_Rule), .int .i64 ((a1.getD v8.toNat default).f_Element)])]) (n := 1) ?_ ?_
        · exact simI (M := [((0, 0), (0, 0))]) rfl (AI (VS rfl) (AI (VS rfl) (AI (VS rfl) (AI (VS rfl) (AI (VS rfl) (AI (Vw.ptr _ _ _ _ rfl) (AI (VS rfl) (AI (VS rfl) (AI (VS rfl) (AI (VS rfl) (AI (VS rfl) (AI (VS rfl) TT)))))))))))) (AI (AI rfl (BVw.oneL (AI (VS rfl) (AI (VS rfl) (AI (VS rfl) TT))))) TT)
        refine blockI ?_
        refine LWp.sim ?_ (f23_L12_ok h)
        exact simI (M := [((0, 0), (0, 0))]) rfl (AI (VS rfl) (AI (VS rfl) (AI (VS rfl) (AI (VS rfl) (AI (VS rfl) (AI (Vw.ptr _ _ _ _ rfl) (AI (VS rfl) (AI (VS rfl) (AI (VS rfl) (AI (VS rfl) (AI (VS rfl) (AI (VS rfl) TT)))))))))))) (AI (AI rfl (BVw.oneL (AI (VS rfl) (AI (VS rfl) (AI (VS rfl) TT))))) TT)
  · have h := ite_ff h77 h
    refine exitI ?_
    obtain ⟨o, hq, rfl⟩ := Option.map_eq_some_iff.1 h
    replace h := hq; clear hq
    refine AI nofun ?_
    refine LWp.sim ?_ (f23_j22_ok h)
    exact simI (M := []) rfl (AI (VS rfl) (AI (VS rfl) (AI (VS rfl) TT))) TT

theorem f23_L9_ok {a0 : List (List G_QRule)} {a1 : List G_QDerivation} {a2 : Int} {a3 : Int} {v8 : Int} {m : Option Nat} {o : Bool} (h : S_glossatorref3_Proves_l9 m a0 a1 a2 a3 v8 = some o) :
    LWp Try.prog f23_lay 0 (.loop f23_c6) (QBlock 0 (QSeq Try.prog f23_lay 0 f23_c5 (f23_Q a0 a1 a2 a3 o))) [(0, .isl 1 (a0.map eB) false), (1, .isl 3 (a1.map eD) false), (2, .int .i64 a2), (3, .int .i64 a3), (17, .isl 3 (a1.map eD) false), (18, .int .i64 ((a1.map eD).length : Int)), (19, .int .i64 v8)] [] 0 :=
  LWp_loopM (m := m) (s := (v8 : Int)) (r := o) (fun (s : Int) => S_glossatorref3_Proves_b9 m a0 a1 a2 a3 s) (f23_L9_env a0 a1 a2 a3) (f23_L9_hp a0 a1 a2 a3) (f23_L9_Q a0 a1 a2 a3) (fun s o h => f23_L9_bok h) h

noncomputable def S_glossatorref3_Proves (m : Option Nat) (a0 : List (List G_QRule)) (a1 : List G_QDerivation) (a2 : Int) (a3 : Int) : Option Bool :=
  S_glossatorref3_Proves_l9 m a0 a1 a2 a3 0

theorem f23_start {a0 : List (List G_QRule)} {a1 : List G_QDerivation} {a2 : Int} {a3 : Int} {m : Option Nat} {o : Bool} (h : S_glossatorref3_Proves m a0 a1 a2 a3 = some o) : LWp Try.prog f23_lay 0 f23_c7 (f23_Q a0 a1 a2 a3 o) (initEnv 0 [.isl 1 (a0.map eB) false, .isl 3 (a1.map eD) false, .int .i64 a2, .int .i64 a3]) [] 0 := by
  unfold S_glossatorref3_Proves at h
  refine seqI ?_
  refine regI ?_
  refine seqI ?_
  refine seqI ?_
  refine regI ?_
  refine blockI ?_
  refine LWp.sim ?_ (f23_L9_ok h)
  exact simI (M := []) rfl (AI (VS rfl) (AI (VS rfl) (AI (VS rfl) (AI (VS rfl) (AI (VS rfl) (AI (VS rfl) (AI (VS rfl) TT))))))) TT

theorem f23_ok {a0 : List (List G_QRule)} {a1 : List G_QDerivation} {a2 : Int} {a3 : Int} {m : Option Nat} {o : Bool} (h : S_glossatorref3_Proves m a0 a1 a2 a3 = some o) : PFn Try.prog 23 [.isl 1 (a0.map eB) false, .isl 3 (a1.map eD) false, .int .i64 a2, .int .i64 a3] (.bool o) := PFn.ofFnW (L := f23_L) f23_low f23_fok (NB rfl) rfl (f23_start h)

def f52c0_c0 : LCode := (.seq (.region [⟨some 3, .box (.t 0), none⟩,
   ⟨some 4, .mv (.c (.bool false)), none⟩])
 (.seq (.region [⟨some 5, .faddr 0 (.t 3), none⟩,
   ⟨some 6, .load false 1 (.t 5), none⟩,
   ⟨some 7, .load false 1 (.t 1), none⟩,
   ⟨some 8, .bin .eql (.t 6) (.t 7), none⟩,
   ⟨some 9, .mv (.t 8), none⟩,
   ⟨some 10, .faddr 2 (.t 3), some (9, true)⟩,
   ⟨some 11, .load false 1 (.t 10), some (9, true)⟩,
   ⟨some 12, .faddr 2 (.t 2), some (9, true)⟩,
   ⟨some 13, .load false 1 (.t 12), some (9, true)⟩,
   ⟨some 14, .bin .eql (.t 11) (.t 13), some (9, true)⟩,
   ⟨some 15, .pick (.t 9) (.t 14) (.c (.bool false)), none⟩,
   ⟨some 4, .mv (.t 15), none⟩])
 .ret))
def f52c0_lay : Lay := ⟨16, [], false⟩
def f52c0_res : List LRes := [.t 4]
def f52c0_L : LFn := ⟨3, f52c0_lay, f52c0_c0, f52c0_res⟩
theorem f52c0_low : lowFn Try.prog [] 52 = some f52c0_L := by kernel_rfl
theorem f52c0_fok : FnOk Try.prog 52 := ⟨_, Try.func52, rfl, rfl⟩
noncomputable def S_fixpoint_validStep_1_1c (m : Option Nat) (a0 : Int) (a1 : Int) (a2 : Int) (a3 : Int) (a4 : G_QDerivation) : Option Bool :=
  some ((a4.f_Set == a0) && (a4.f_Element == a3))

def f52c0_Q (a0 : Int) (a1 : Int) (a2 : Int) (a3 : Int) (a4 : G_QDerivation) (o : Bool) : Exit → Env → AHeap → Nat → Prop := FinK f52c0_res (FinTo 3 4 (.bool o) [((1, 0), .one [.int .i64 a0]), ((1, 1), .one [.int .i64 a1, .int .i64 a2, .int .i64 a3])])

theorem f52c0_start {a0 : Int} {a1 : Int} {a2 : Int} {a3 : Int} {a4 : G_QDerivation} {m : Option Nat} {o : Bool} (h : S_fixpoint_validStep_1_1c m a0 a1 a2 a3 a4 = some o) : LWp Try.prog f52c0_lay 3 f52c0_c0 (f52c0_Q a0 a1 a2 a3 a4 o) (initEnv 0 [.agg [.int .i64 a4.f_Set, .int .i64 a4.f_Rule, .int .i64 a4.f_Element], .ptr (1, 0) 0 0, .ptr (1, 1) 0 0]) [((1, 0), .one [.int .i64 a0]), ((1, 1), .one [.int .i64 a1, .int .i64 a2, .int .i64 a3])] 3 := by
  unfold S_fixpoint_validStep_1_1c at h
  refine seqI ?_
  refine regI ?_
  refine seqI ?_
  refine regI ?_
  refine AI (fun hp => hp) ?_
  refine AI (fun hp => hp) ?_
  refine AI (fun hp => (AI hp hp)) ?_
  refine AI (fun hc => (bqt hc)) ?_
  refine LWp.sim (e := [(4, .bool ((a4.f_Set == a0) && (a4.f_Element == a3)))]) (L := [((1, 0), .one [.int .i64 a0]), ((1, 1), .one [.int .i64 a1, .int .i64 a2, .int .i64 a3])]) (n := 3) ?_ ?_
  · exact simI (M := []) rfl (AI (VS rfl) TT) (AI (AI rfl (BVw.oneL (AI (VS rfl) TT))) (AI (AI rfl (BVw.oneL (AI (VS rfl) (AI (VS rfl) (AI (VS rfl) TT))))) TT))
  refine retI ?_
  cases h
  exact AI TT (finI (n' := 3) [] [] rfl rfl (VS rfl) (AI (AI rfl (BVw.oneL (AI (VS rfl) TT))) (AI (AI rfl (BVw.oneL (AI (VS rfl) (AI (VS rfl) (AI (VS rfl) TT))))) TT)))

theorem f52c0_ok {a0 : Int} {a1 : Int} {a2 : Int} {a3 : Int} {a4 : G_QDerivation} {m : Option Nat} {o : Bool} (h : S_fixpoint_validStep_1_1c m a0 a1 a2 a3 a4 = some o) : ACalls Try.prog 52 [.agg [.int .i64 a4.f_Set, .int .i64 a4.f_Rule, .int .i64 a4.f_Element], .ptr (1, 0) 0 0, .ptr (1, 1) 0 0] [((1, 0), .one [.int .i64 a0]), ((1, 1), .one [.int .i64 a1, .int .i64 a2, .int .i64 a3])] 3 (Gives 4 (.bool o) [((1, 0), .one [.int .i64 a0]), ((1, 1), .one [.int .i64 a1, .int .i64 a2, .int .i64 a3])]) := bfn_of (L := f52c0_L) f52c0_low f52c0_fok (NB rfl) (f52c0_start h)

def f51b0_c0 : LCode := (.seq (.region [⟨some 4, .mv (.c (.bool false)), none⟩])
 (.seq (.region [⟨some 5, .mv (.t 0), none⟩,
   ⟨some 6, .mv (.t 1), none⟩,
   ⟨some 7, .call 39 [(.t 5), (.t 6)], none⟩,
   ⟨some 8, .bin .geq (.t 7) (.c (.int .i64 0)), none⟩,
   ⟨some 4, .mv (.t 8), none⟩])
 .ret))
def f51b0_lay : Lay := ⟨9, [], false⟩
def f51b0_res : List LRes := [.t 4]
def f51b0_L : LFn := ⟨2, f51b0_lay, f51b0_c0, f51b0_res⟩
theorem f51b0_low : lowFn Try.prog [] 51 = some f51b0_L := by kernel_rfl
theorem f51b0_fok : FnOk Try.prog 51 := ⟨_, Try.func51, rfl, rfl⟩
noncomputable def S_slices_ContainsFunc_api_QDerivation {σ : Type} (g0 : σ → G_QDerivation → Option (Bool × σ)) (m : Option Nat) (a0 : List G_QDerivation) (z0 : σ) : Option (Bool × σ) :=
  (S_slices_IndexFunc_api_QDerivation g0 m a0 z0).bind fun v1 =>
  some ((decide (v1.1 ≥ 0)), v1.2)

def f51b0_Q {σ : Type} (Hc : σ → AHeap) (fi0 : Fn) (ff0 fc0 : List AVal) (a0 : List G_QDerivation) (z0 : σ) (o : Bool × σ) : Exit → Env → AHeap → Nat → Prop := FinK f51b0_res (FinTo 3 4 (.bool o.1) ([] ++ up 3 (Hc o.2)))

theorem f51b0_start {σ : Type} {Hc : σ → AHeap} {fi0 : Fn} {ff0 fc0 : List AVal} {g0 : σ → G_QDerivation → Option (Bool × σ)} (hg0 : Clo Try.prog fi0 ff0 fc0 Hc (fun (x : G_QDerivation) => [.agg [.int .i64 x.f_Set, .int .i64 x.f_Rule, .int .i64 x.f_Element]]) (fun (b : Bool) => .bool b) g0) {a0 : List G_QDerivation} {z0 : σ} {m : Option Nat} {o : Bool × σ} (h : S_slices_ContainsFunc_api_QDerivation g0 m a0 z0 = some o) : LWp Try.prog f51b0_lay 3 f51b0_c0 (f51b0_Q Hc fi0 ff0 fc0 a0 z0 o) (initEnv 0 [.isl 3 (a0.map eD) false, .fn fi0 ff0 fc0]) ([] ++ Hc z0) 3 := by
  unfold S_slices_ContainsFunc_api_QDerivation at h
  refine LWp.sim (e := [(0, .isl 3 (a0.map eD) false), (1, .fn fi0 ff0 fc0)]) (L := ([] ++ up 3 (Hc z0))) (n := 4) (entryT (T := Hc z0) (e' := initEnv 0 [.isl 3 (a0.map eD) false, .fn fi0 ff0 fc0]) (e := [(0, .isl 3 (a0.map eD) false), (1, .fn fi0 ff0 fc0)]) (lit' := []) (lit := []) (hg0.tl z0) rfl rfl (AI (VS rfl) (AI (Vw.clo hg0.hf hg0.hc (by decide) (rhoE_1 _)) TT)) TT) ?_
  refine seqI ?_
  refine regI ?_
  refine seqI ?_
  refine regI ?_
  obtain ⟨v1, h1, h⟩ := bind_some h
  refine bcallT (m := 1) (q := 3) (lit0 := []) (lit := []) (L := []) (L' := []) (rest := []) (R' := .int .i64 v1.1) (hg0.tl _) (hg0.tl _) [] (f39b0_ok hg0 h1) rfl rfl rfl rfl rfl rfl (AI (VS rfl) (AI (Vw.clo hg0.hf hg0.hc (by decide) (lookT_1 _ _)) TT)) TT (nid_ren _ rfl) TT rfl ?_
  refine retI ?_
  cases h
  exact AI TT (finT (n' := 6) (q := 4) (lit' := []) (hg0.tl _) [] [] rfl rfl (VS rfl) TT)

theorem f51b0_ok {σ : Type} {Hc : σ → AHeap} {fi0 : Fn} {ff0 fc0 : List AVal} {g0 : σ → G_QDerivation → Option (Bool × σ)} (hg0 : Clo Try.prog fi0 ff0 fc0 Hc (fun (x : G_QDerivation) => [.agg [.int .i64 x.f_Set, .int .i64 x.f_Rule, .int .i64 x.f_Element]]) (fun (b : Bool) => .bool b) g0) {a0 : List G_QDerivation} {z0 : σ} {m : Option Nat} {o : Bool × σ} (h : S_slices_ContainsFunc_api_QDerivation g0 m a0 z0 = some o) : ACalls Try.prog 51 [.isl 3 (a0.map eD) false, .fn fi0 ff0 fc0] ([] ++ Hc z0) 3 (Gives 4 (.bool o.1) ([] ++ up 3 (Hc o.2))) := bfn_of (L := f51b0_L) f51b0_low f51b0_fok (NB rfl) (f51b0_start hg0 h)

def f50c0_c0 : LCode := (.seq (.region [⟨some 4, .box (.t 0), none⟩,
   ⟨some 5, .mv (.c (.bool false)), none⟩])
 (.seq (.region [⟨some 6, .load false 1 (.t 1), none⟩,
   ⟨some 7, .load false 1 (.t 2), none⟩,
   ⟨some 8, .slSl 3 (.t 6) none (some (.t 7)) none, none⟩,
   ⟨some 9, .mkfn (.func 52) [] [(.t 4), (.t 3)], none⟩,
   ⟨some 10, .call 51 [(.t 8), (.t 9)], none⟩,
   ⟨some 11, .un .not (.t 10), none⟩,
   ⟨some 5, .mv (.t 11), none⟩])
 .ret))
def f50c0_lay : Lay := ⟨12, [], false⟩
def f50c0_res : List LRes := [.t 5]
def f50c0_L : LFn := ⟨4, f50c0_lay, f50c0_c0, f50c0_res⟩
theorem f50c0_low : lowFn Try.prog [] 50 = some f50c0_L := by kernel_rfl
theorem f50c0_fok : FnOk Try.prog 50 := ⟨_, Try.func50, rfl, rfl⟩
noncomputable def S_fixpoint_validStep_1c (m : Option Nat) (a0 : List G_QDerivation) (a1 : Int) (a2 : Int) (a3 : Int) (a4 : Int) (a5 : Int) : Option Bool :=
  if (0 : Int) ≤ a1 ∧ a1 ≤ ((a0.map eD).length : Int) then
  (S_slices_ContainsFunc_api_QDerivation (fun (s : Unit) (x : G_QDerivation) => (S_fixpoint_validStep_1_1c m a5 a2 a3 a4 x).map fun o => (o, ())) m (a0.take a1.toNat) ()).bind fun v1 =>
  some (!v1.1)
  else none

def f50c0_Q (a0 : List G_QDerivation) (a1 : Int) (a2 : Int) (a3 : Int) (a4 : Int) (a5 : Int) (o : Bool) : Exit → Env → AHeap → Nat → Prop := FinK f50c0_res (FinTo 3 4 (.bool o) [((1, 0), .one [.isl 3 (a0.map eD) false]), ((1, 1), .one [.int .i64 a1]), ((1, 2), .one [.int .i64 a2, .int .i64 a3, .int .i64 a4])])

theorem f50c0_start {a0 : List G_QDerivation} {a1 : Int} {a2 : Int} {a3 : Int} {a4 : Int} {a5 : Int} {m : Option Nat} {o : Bool} (h : S_fixpoint_validStep_1c m a0 a1 a2 a3 a4 a5 = some o) : LWp Try.prog f50c0_lay 3 f50c0_c0 (f50c0_Q a0 a1 a2 a3 a4 a5 o) (initEnv 0 [.int .i64 a5, .ptr (1, 0) 0 0, .ptr (1, 1) 0 0, .ptr (1, 2) 0 0]) [((1, 0), .one [.isl 3 (a0.map eD) false]), ((1, 1), .one [.int .i64 a1]), ((1, 2), .one [.int .i64 a2, .int .i64 a3, .int .i64 a4])] 3 := by
  unfold S_fixpoint_validStep_1c at h
  refine seqI ?_
  refine regI ?_
  refine seqI ?_
  refine regI ?_
  obtain ⟨h1, h⟩ := ite_some h
  refine EX (.isl 3 ((a0.take a1.toNat).map eD) false) (AI (sl_eq eD (slB eD a0 _) rfl) (AI (AI rfl (AI (Int.le_refl _) h1)) ?_))
  obtain ⟨v1, h2, h⟩ := bind_some h
  refine bcall (k := 3) (m := 1) (L' := [((3, 0), .one [.int .i64 a5]), ((1, 2), .one [.int .i64 a2, .int .i64 a3, .int .i64 a4])]) (rest := [((1, 0), .one [.isl 3 (a0.map eD) false]), ((1, 1), .one [.int .i64 a1])]) (R' := .bool v1.1) [((1, 0), (3, 0)), ((1, 1), (1, 2))] (f51b0_ok (show Clo Try.prog (.func 52) [] [.ptr (1, 0) 0 0, .ptr (1, 1) 0 0] (fun (s : Unit) => [((1, 0), .one [.int .i64 a5]), ((1, 1), .one [.int .i64 a2, .int .i64 a3, .int .i64 a4])]) (fun (x : G_QDerivation) => [.agg [.int .i64 x.f_Set, .int .i64 x.f_Rule, .int .i64 x.f_Element]]) (fun (b : Bool) => .bool b) (fun (s : Unit) (x : G_QDerivation) => (S_fixpoint_validStep_1_1c m a5 a2 a3 a4 x).map fun o => (o, ())) from Clo.mk' (fun s => Tl.lit rfl (AI (rfl) (AI (rfl) TT)) rfl) rfl rfl (fun _ => rfl) (fun s x o h => by obtain ⟨o1, h1, rfl⟩ := Option.map_eq_some_iff.1 h; exact EX _ (AI (f52c0_ok h1) (AI rfl (AI rfl (AI rfl (AI rfl TT))))))) h2) rfl rfl rfl (AI (VS rfl) (AI (Vw.fnL TT (AI (Vw.ptr _ _ _ _ rfl) (AI (Vw.ptr _ _ _ _ rfl) TT))) TT)) (AI (h0I (3, 0) rfl rfl (BVw.oneL (AI (VS rfl) TT))) (AI (h0I (1, 2) rfl rfl (BVw.oneL (AI (VS rfl) (AI (VS rfl) (AI (VS rfl) TT))))) TT)) (nid_ren _ rfl) (AI rfl (AI rfl (AI rfl (AI rfl TT)))) rfl ?_
  refine LWp.sim (e := [(5, .bool (!v1.1))]) (L := [((1, 0), .one [.isl 3 (a0.map eD) false]), ((1, 1), .one [.int .i64 a1]), ((1, 2), .one [.int .i64 a2, .int .i64 a3, .int .i64 a4])]) (n := 3) ?_ ?_
  · exact simI (M := []) rfl (AI (VS rfl) TT) (AI (AI rfl (BVw.oneL (AI (VS rfl) TT))) (AI (AI rfl (BVw.oneL (AI (VS rfl) TT))) (AI (AI rfl (BVw.oneL (AI (VS rfl) (AI (VS rfl) (AI (VS rfl) TT))))) TT)))
  refine retI ?_
  cases h
  exact AI TT (finI (n' := 3) [] [] rfl rfl (VS rfl) (AI (AI rfl (BVw.oneL (AI (VS rfl) TT))) (AI (AI rfl (BVw.oneL (AI (VS rfl) TT))) (AI (AI rfl (BVw.oneL (AI (VS rfl) (AI (VS rfl) (AI (VS rfl) TT))))) TT))))

theorem f50c0_ok {a0 : List G_QDerivation} {a1 : Int} {a2 : Int} {a3 : Int} {a4 : Int} {a5 : Int} {m : Option Nat} {o : Bool} (h : S_fixpoint_validStep_1c m a0 a1 a2 a3 a4 a5 = some o) : ACalls Try.prog 50 [.int .i64 a5, .ptr (1, 0) 0 0, .ptr (1, 1) 0 0, .ptr (1, 2) 0 0] [((1, 0), .one [.isl 3 (a0.map eD) false]), ((1, 1), .one [.int .i64 a1]), ((1, 2), .one [.int .i64 a2, .int .i64 a3, .int .i64 a4])] 3 (Gives 4 (.bool o) [((1, 0), .one [.isl 3 (a0.map eD) false]), ((1, 1), .one [.int .i64 a1]), ((1, 2), .one [.int .i64 a2, .int .i64 a3, .int .i64 a4])]) := bfn_of (L := f50c0_L) f50c0_low f50c0_fok (NB rfl) (f50c0_start h)

def f43_c0 : LCode := (.seq (.region [⟨some 4, .box (.t 1), none⟩,
   ⟨some 5, .box (.t 2), none⟩,
   ⟨some 6, .mv (.c (.bool false)), none⟩])
 (.seq (.region [⟨some 10, .load false 1 (.t 4), none⟩,
   ⟨some 11, .load false 1 (.t 5), none⟩,
   ⟨some 12, .iaddr 3 (.t 10) (.t 11), none⟩,
   ⟨some 13, .load true 3 (.t 12), none⟩,
   ⟨some 7, .alloc [(.int .i64 0), (.int .i64 0), (.int .i64 0)], none⟩,
   ⟨none, .store 3 (.t 7) (.t 13), none⟩])
 (.seq (.seq (.quiet [⟨some 14, .faddr 0 (.t 7), none⟩,
   ⟨some 15, .load false 1 (.t 14), none⟩,
   ⟨some 16, .bin .lss (.t 15) (.c (.int .i64 0)), none⟩,
   ⟨some 17, .mv (.t 16), none⟩,
   ⟨some 18, .faddr 0 (.t 7), some (17, false)⟩,
   ⟨some 19, .load false 1 (.t 18), some (17, false)⟩,
   ⟨some 20, .mv (.t 0), some (17, false)⟩,
   ⟨some 21, .len false (.t 20), some (17, false)⟩,
   ⟨some 22, .bin .geq (.t 19) (.t 21), some (17, false)⟩,
   ⟨some 23, .pick (.t 17) (.c (.bool true)) (.t 22), none⟩,
   ⟨some 24, .mv (.t 23), none⟩,
   ⟨some 25, .faddr 1 (.t 7), some (24, false)⟩,
   ⟨some 26, .load false 1 (.t 25), some (24, false)⟩,
   ⟨some 27, .bin .lss (.t 26) (.c (.int .i64 0)), some (24, false)⟩,
   ⟨some 28, .pick (.t 24) (.c (.bool true)) (.t 27), none⟩,
   ⟨some 29, .mv (.t 28), none⟩,
   ⟨some 30, .faddr 1 (.t 7), some (29, false)⟩,
   ⟨some 31, .load false 1 (.t 30), some (29, false)⟩,
   ⟨some 32, .mv (.t 0), some (29, false)⟩,
   ⟨some 33, .faddr 0 (.t 7), some (29, false)⟩,
   ⟨some 34, .load false 1 (.t 33), some (29, false)⟩,
   ⟨some 35, .iaddr 1 (.t 32) (.t 34), some (29, false)⟩,
   ⟨some 36, .load false 1 (.t 35), some (29, false)⟩,
   ⟨some 37, .len false (.t 36), some (29, false)⟩,
   ⟨some 38, .bin .geq (.t 31) (.t 37), some (29, false)⟩,
   ⟨some 39, .pick (.t 29) (.c (.bool true)) (.t 38), none⟩,
   ⟨some 40, .mv (.t 39), none⟩,
   ⟨some 41, .faddr 2 (.t 7), some (40, false)⟩,
   ⟨some 42, .load false 1 (.t 41), some (40, false)⟩,
   ⟨some 43, .bin .lss (.t 42) (.c (.int .i64 0)), some (40, false)⟩,
   ⟨some 44, .pick (.t 40) (.c (.bool true)) (.t 43), none⟩,
   ⟨some 45, .mv (.t 44), none⟩,
   ⟨some 46, .faddr 2 (.t 7), some (45, false)⟩,
   ⟨some 47, .load false 1 (.t 46), some (45, false)⟩,
   ⟨some 48, .bin .geq (.t 47) (.c (.int .i64 20)), some (45, false)⟩,
   ⟨some 49, .pick (.t 45) (.c (.bool true)) (.t 48), none⟩])
 (.cond (.t 49)
  (.seq (.region [⟨some 6, .mv (.c (.bool false)), none⟩])
  .ret)
  .skip))
 (.seq (.region [⟨some 50, .mkfn (.func 50) [] [(.t 4), (.t 5), (.t 7)], none⟩,
   ⟨some 8, .mv (.t 50), none⟩])
 (.seq (.draw [⟨⟨some 51, .mv (.t 0), none⟩, []⟩,
   ⟨⟨some 52, .faddr 0 (.t 7), none⟩, []⟩,
   ⟨⟨some 53, .load false 1 (.t 52), none⟩, []⟩,
   ⟨⟨some 54, .iaddr 1 (.t 51) (.t 53), none⟩, []⟩,
   ⟨⟨some 55, .load false 1 (.t 54), none⟩, []⟩,
   ⟨⟨some 56, .faddr 1 (.t 7), none⟩, []⟩,
   ⟨⟨some 57, .load false 1 (.t 56), none⟩, []⟩,
   ⟨⟨some 58, .iaddr 2 (.t 55) (.t 57), none⟩, []⟩,
   ⟨⟨some 59, .load true 2 (.t 58), none⟩, []⟩,
   ⟨⟨some 9, .alloc [(.int .i64 0), (.isl 1 [] true)], none⟩, [2, 4, 6, 8]⟩,
   ⟨⟨none, .store 2 (.t 9) (.t 59), none⟩, []⟩])
 (.seq (.region [⟨some 60, .faddr 0 (.t 9), none⟩,
   ⟨some 61, .load false 1 (.t 60), none⟩,
   ⟨some 62, .faddr 2 (.t 7), none⟩,
   ⟨some 63, .load false 1 (.t 62), none⟩,
   ⟨some 64, .bin .shr (.t 61) (.t 63), none⟩,
   ⟨some 65, .bin .and (.t 64) (.c (.int .i64 1)), none⟩,
   ⟨some 66, .bin .eql (.t 65) (.c (.int .i64 1)), none⟩,
   ⟨some 67, .mv (.t 66), none⟩,
   ⟨some 68, .faddr 1 (.t 9), some (67, true)⟩,
   ⟨some 69, .load false 1 (.t 68), some (67, true)⟩,
   ⟨some 70, .mv (.t 8), some (67, true)⟩,
   ⟨some 71, .call 31 [(.t 69), (.t 70)], some (67, true)⟩,
   ⟨some 72, .un .not (.t 71), some (67, true)⟩,
   ⟨some 73, .pick (.t 67) (.t 72) (.c (.bool false)), none⟩,
   ⟨some 6, .mv (.t 73), none⟩])
 .ret))))))
def f43_lay : Lay := ⟨74, [], false⟩
def f43_res : List LRes := [.t 6]
def f43_L : LFn := ⟨3, f43_lay, f43_c0, f43_res⟩
theorem f43_low : lowFn Try.prog [] 43 = some f43_L := by kernel_rfl
theorem f43_fok : FnOk Try.prog 43 := ⟨_, Try.func43, rfl, rfl⟩
noncomputable def S_fixpoint_validStep (m : Option Nat) (a0 : List (List G_QRule)) (a1 : List G_QDerivation) (a2 : Int) : Option Bool :=
  if (0 : Int) ≤ a2 ∧ a2 < ((a1.map eD).length : Int) then
  if (((((decide ((a1.getD a2.toNat default).f_Set < 0)) || (decide ((a1.getD a2.toNat default).f_Set ≥ ((a0.map eB).length : Int)))) || (decide ((a1.getD a2.toNat default).f_Rule < 0))) == false) = true → (0 : Int) ≤ (a1.getD a2.toNat default).f_Set ∧ (a1.getD a2.toNat default).f_Set < ((a0.map eB).length : Int)) then
  if ((((((decide ((a1.getD a2.toNat default).f_Set < 0)) || (decide ((a1.getD a2.toNat default).f_Set ≥ ((a0.map eB).length : Int)))) || (decide ((a1.getD a2.toNat default).f_Rule < 0))) || (decide ((a1.getD a2.toNat default).f_Rule ≥ (((a0.getD (((a1.getD a2.toNat default).f_Set).toNat) default).map e_QRule).length : Int)))) || (decide ((a1.getD a2.toNat default).f_Element < 0))) || (decide ((a1.getD a2.toNat default).f_Element ≥ 20))) = true then
    some false
  else
    if (0 : Int) ≤ (a1.getD a2.toNat default).f_Set ∧ (a1.getD a2.toNat default).f_Set < ((a0.map eB).length : Int) then
    if (0 : Int) ≤ (a1.getD a2.toNat default).f_Rule ∧ (a1.getD a2.toNat default).f_Rule < (((a0.getD (((a1.getD a2.toNat default).f_Set).toNat) default).map e_QRule).length : Int) then
    if (0 : Int) ≤ (a1.getD a2.toNat default).f_Element then
    (if (((ibits .and .i64 ((((a0.getD (((a1.getD a2.toNat default).f_Set).toNat) default).getD (((a1.getD a2.toNat default).f_Rule).toNat) default).f_Mask).fdiv (2 ^ (min ((a1.getD a2.toNat default).f_Element).toNat (IntKind.bits .i64)))) 1) == 1) == true) = true then S_slices_ContainsFunc_int (fun (s : Unit) (x : Int) => (S_fixpoint_validStep_1c m a1 a2 ((a1.getD a2.toNat default).f_Set) ((a1.getD a2.toNat default).f_Rule) ((a1.getD a2.toNat default).f_Element) x).map fun o => (o, ())) m (((a0.getD (((a1.getD a2.toNat default).f_Set).toNat) default).getD (((a1.getD a2.toNat default).f_Rule).toNat) default).f_All) () else some default).bind fun v1 =>
    some (((ibits .and .i64 ((((a0.getD (((a1.getD a2.toNat default).f_Set).toNat) default).getD (((a1.getD a2.toNat default).f_Rule).toNat) default).f_Mask).fdiv (2 ^ (min ((a1.getD a2.toNat default).f_Element).toNat (IntKind.bits .i64)))) 1) == 1) && (!v1.1))
    else none
    else none
    else none
  else none
  else none

def f43_Q (a0 : List (List G_QRule)) (a1 : List G_QDerivation) (a2 : Int) (o : Bool) : Exit → Env → AHeap → Nat → Prop := FinK f43_res (PureEnd (.bool o))

theorem f43_start {a0 : List (List G_QRule)} {a1 : List G_QDerivation} {a2 : Int} {m : Option Nat} {o : Bool} (h : S_fixpoint_validStep m a0 a1 a2 = some o) : LWp Try.prog f43_lay 0 f43_c0 (f43_Q a0 a1 a2 o) (initEnv 0 [.isl 1 (a0.map eB) false, .isl 3 (a1.map eD) false, .int .i64 a2]) [] 0 := by
  unfold S_fixpoint_validStep at h
  refine seqI ?_
  refine regI ?_
  refine seqI ?_
  refine regI ?_
  obtain ⟨h1, h⟩ := ite_some h
  refine AI h1 ?_
  refine EX (eD (a1.getD a2.toNat default)) (AI (getD_enc eD _ _ (idx_ltL eD h1)) (AI (AI (idx_lt h1) (NB rfl)) ?_))
  refine LWp.sim (e := [(0, .isl 1 (a0.map eB) false), (4, .ptr (0, 0) 0 0), (5, .ptr (1, 0) 0 0), (7, .ptr (2, 0) 0 0)]) (L := [((0, 0), .one [.isl 3 (a1.map eD) false]), ((1, 0), .one [.int .i64 a2]), ((2, 0), .one [.int .i64 ((a1.getD a2.toNat default).f_Set), .int .i64 ((a1.getD a2.toNat default).f_Rule), .int .i64 ((a1.getD a2.toNat default).f_Element)])]) (n := 3) ?_ ?_
  · exact simI (M := [((0, 0), (0, 0)), ((1, 0), (1, 0)), ((2, 0), (2, 0))]) rfl (AI (VS rfl) (AI (Vw.ptr _ _ _ _ rfl) (AI (Vw.ptr _ _ _ _ rfl) (AI (Vw.ptr _ _ _ _ rfl) TT)))) (AI (AI rfl (BVw.oneL (AI (VS rfl) TT))) (AI (AI rfl (BVw.oneL (AI (VS rfl) TT))) (AI (AI rfl (BVw.oneL (AI (VS rfl) (AI (VS rfl) (AI (VS rfl) TT))))) TT)))
  refine seqI ?_
  refine seqI ?_
  refine quietI ?_
  refine AI (fun hp => hp) ?_
  refine AI (fun hp => hp) ?_
  refine AI (fun hp => (AI hp hp)) ?_
  refine AI (fun hc => (bqf hc)) ?_
  refine AI (fun hp => hp) ?_
  refine AI (fun hp => hp) ?_
  refine AI (fun hc => (bqf hc)) ?_
  refine AI (fun hp => hp) ?_
  refine AI (fun hp => hp) ?_
  obtain ⟨h2, h⟩ := ite_some h
  refine AI (fun hp => (AI (AI hp hp) (h2 hp))) ?_
  refine EX (eB (a0.getD (((a1.getD a2.toNat default).f_Set).toNat) default)) (AI (fun hp => AI (getD_enc eB _ _ (idx_ltL eB (h2 hp))) (AI hp (AI (idx_lt (h2 hp)) (NB rfl)))) ?_)
  refine AI (fun hp => hp) ?_
  refine AI (fun hp => (AI hp hp)) ?_
  refine AI (fun hc => (bqf hc)) ?_
  refine AI (fun hp => hp) ?_
  refine AI (fun hp => hp) ?_
  refine AI (fun hc => (bqf hc)) ?_
  refine AI (fun hp => hp) ?_
  refine AI (fun hp => hp) ?_
  refine AI (fun hc => (bqf hc)) ?_
  refine LWp.sim (e := [(0, .isl 1 (a0.map eB) false), (4, .ptr (0, 0) 0 0), (5, .ptr (1, 0) 0 0), (7, .ptr (2, 0) 0 0), (49, .bool ((((((decide ((a1.getD a2.toNat default).f_Set < 0)) || (decide ((a1.getD a2.toNat default).f_Set ≥ ((a0.map eB).length : Int)))) || (decide ((a1.getD a2.toNat default).f_Rule < 0))) || (decide ((a1.getD a2.toNat default).f_Rule ≥ (((a0.getD (((a1.getD a2.toNat default).f_Set).toNat) default).map e_QRule).length : Int)))) || (decide ((a1.getD a2.toNat default).f_Element < 0))) || (decide ((a1.getD a2.toNat default).f_Element ≥ 20))))]) (L := [((0, 0), .one [.isl 3 (a1.map eD) false]), ((1, 0), .one [.int .i64 a2]), ((2, 0), .one [.int .i64 ((a1.getD a2.toNat default).f_Set), .int .i64 ((a1.getD a2.toNat default).f_Rule), .int .i64 ((a1.getD a2.toNat default).f_Element)])]) (n := 3) ?_ ?_
  · exact simI (M := [((0, 0), (0, 0)), ((1, 0), (1, 0)), ((2, 0), (2, 0))]) rfl (AI (VS rfl) (AI (Vw.ptr _ _ _ _ rfl) (AI (Vw.ptr _ _ _ _ rfl) (AI (Vw.ptr _ _ _ _ rfl) (AI (VS rfl) TT))))) (AI (AI rfl (BVw.oneL (AI (VS rfl) TT))) (AI (AI rfl (BVw.oneL (AI (VS rfl) TT))) (AI (AI rfl (BVw.oneL (AI (VS rfl) (AI (VS rfl) (AI (VS rfl) TT))))) TT)))
  refine condI (v := ((((((decide ((a1.getD a2.toNat default).f_Set < 0)) || (decide ((a1.getD a2.toNat default).f_Set ≥ ((a0.map eB).length : Int)))) || (decide ((a1.getD a2.toNat default).f_Rule < 0))) || (decide ((a1.getD a2.toNat default).f_Rule ≥ (((a0.getD (((a1.getD a2.toNat default).f_Set).toNat) default).map e_QRule).length : Int)))) || (decide ((a1.getD a2.toNat default).f_Element < 0))) || (decide ((a1.getD a2.toNat default).f_Element ≥ 20)))) rfl TT (fun h3 => ?_) (fun h3 => ?_)
  · have h := ite_tt h3 h
    refine seqI ?_
    refine regI ?_
    refine retI ?_
    cases h
    exact AI TT (AI rfl (VS rfl))
  · have h := ite_ff h3 h
    refine skipI ?_
    refine seqI ?_
    refine regI ?_
    refine seqI ?_
    refine drawI ?_
    obtain ⟨h4, h⟩ := ite_some h
    refine AI h4 ?_
    refine EX (eB (a0.getD (((a1.getD a2.toNat default).f_Set).toNat) default)) (AI (getD_enc eB _ _ (idx_ltL eB h4)) (AI (AI (idx_lt h4) (NB rfl)) ?_))
    obtain ⟨h5, h⟩ := ite_some h
    refine AI h5 ?_
    refine EX (e_QRule ((a0.getD (((a1.getD a2.toNat default).f_Set).toNat) default).getD (((a1.getD a2.toNat default).f_Rule).toNat) default)) (AI (getD_enc e_QRule _ _ (idx_ltL e_QRule h5)) (AI (AI (idx_lt h5) (NB rfl)) ?_))
    refine AI (AI (AI (idx_lt h5) (NB rfl)) (congrArg (cellsAt true 2 0) (getD_enc e_QRule _ _ (idx_ltL e_QRule h5)))) ?_
    refine AI rfl ?_
    refine AI (AI (AI (idx_lt h4) (NB rfl)) (congrArg (cellsAt false 1 0) (getD_enc eB _ _ (idx_ltL eB h4)))) ?_
    refine AI rfl ?_
    refine LWp.sim (e := [(7, .ptr (0, 0) 0 0), (8, .fn (.func 50) [] [.ptr (1, 0) 0 0, .ptr (2, 0) 0 0, .ptr (0, 0) 0 0]), (9, .ptr (3, 0) 0 0)]) (L := [((0, 0), .one [.int .i64 ((a1.getD a2.toNat default).f_Set), .int .i64 ((a1.getD a2.toNat default).f_Rule), .int .i64 ((a1.getD a2.toNat default).f_Element)]), ((1, 0), .one [.isl 3 (a1.map eD) false]), ((2, 0), .one [.int .i64 a2]), ((3, 0), .one [.int .i64 (((a0.getD (((a1.getD a2.toNat default).f_Set).toNat) default).getD (((a1.getD a2.toNat default).f_Rule).toNat) default).f_Mask), .isl 1 ((((a0.getD (((a1.getD a2.toNat default).f_Set).toNat) default).getD (((a1.getD a2.toNat default).f_Rule).toNat) default).f_All).map e_i64) false])]) (n := 4) ?_ ?_
    · exact simI (M := [((0, 0), (2, 0)), ((1, 0), (0, 0)), ((2, 0), (1, 0)), ((3, 0), (3, 0))]) rfl (AI (Vw.ptr _ _ _ _ rfl) (AI (Vw.fnL TT (AI (Vw.ptr _ _ _ _ rfl) (AI (Vw.ptr _ _ _ _ rfl) (AI (Vw.ptr _ _ _ _ rfl) TT)))) (AI (Vw.ptr _ _ _ _ rfl) TT))) (AI (AI rfl (BVw.oneL (AI (VS rfl) (AI (VS rfl) (AI (VS rfl) TT))))) (AI (AI rfl (BVw.oneL (AI (VS rfl) TT))) (AI (AI rfl (BVw.oneL (AI (VS rfl) TT))) (AI (AI rfl (BVw.oneL (AI (VS rfl) (AI (VS rfl) TT)))) TT))))
    refine seqI ?_
    refine regI ?_
    obtain ⟨h6, h⟩ := ite_some h
    refine AI h6 ?_
    refine AI (fun hp => hp) ?_
    obtain ⟨v1, h7, h⟩ := bind_some h
    refine Or.inl (EX (.bool v1.1) (AI (fun hp => AI (AI hp hp) (ACalls.same rfl (bcall (k := 3) (m := 1) (L' := [((1, 0), .one [.isl 3 (a1.map eD) false]), ((2, 0), .one [.int .i64 a2]), ((0, 0), .one [.int .i64 ((a1.getD a2.toNat default).f_Set), .int .i64 ((a1.getD a2.toNat default).f_Rule), .int .i64 ((a1.getD a2.toNat default).f_Element)])]) (rest := [((3, 0), .one [.int .i64 (((a0.getD (((a1.getD a2.toNat default).f_Set).toNat) default).getD (((a1.getD a2.toNat default).f_Rule).toNat) default).f_Mask), .isl 1 ((((a0.getD (((a1.getD a2.toNat default).f_Set).toNat) default).getD (((a1.getD a2.toNat default).f_Rule).toNat) default).f_All).map e_i64) false])]) (R' := .bool v1.1) [((1, 0), (1, 0)), ((1, 1), (2, 0)), ((1, 2), (0, 0))] (f31b0_ok (show Clo Try.prog (.func 50) [] [.ptr (1, 0) 0 0, .ptr (1, 1) 0 0, .ptr (1, 2) 0 0] (fun (s : Unit) => [((1, 0), .one [.isl 3 (a1.map eD) false]), ((1, 1), .one [.int .i64 a2]), ((1, 2), .one [.int .i64 ((a1.getD a2.toNat default).f_Set), .int .i64 ((a1.getD a2.toNat default).f_Rule), .int .i64 ((a1.getD a2.toNat default).f_Element)])]) (fun (x : Int) => [.int .i64 x]) (fun (b : Bool) => .bool b) (fun (s : Unit) (x : Int) => (S_fixpoint_validStep_1c m a1 a2 ((a1.getD a2.toNat default).f_Set) ((a1.getD a2.toNat default).f_Rule) ((a1.getD a2.toNat default).f_Element) x).map fun o => (o, ())) from Clo.mk' (fun s => Tl.lit rfl (AI (rfl) (AI (rfl) (AI (rfl) TT))) rfl) rfl rfl (fun _ => rfl) (fun s x o h => by obtain ⟨o1, h1, rfl⟩ := Option.map_eq_some_iff.1 h; exact EX _ (AI (f50c0_ok h1) (AI rfl (AI rfl (AI rfl (AI rfl (AI rfl (AI rfl TT))))))))) (ite_tt hp h7)) rfl rfl rfl (AI (VS rfl) (AI (Vw.fnL TT (AI (Vw.ptr _ _ _ _ rfl) (AI (Vw.ptr _ _ _ _ rfl) (AI (Vw.ptr _ _ _ _ rfl) TT)))) TT)) (AI (h0I (1, 0) rfl rfl (BVw.oneL (AI (VS rfl) TT))) (AI (h0I (2, 0) rfl rfl (BVw.oneL (AI (VS rfl) TT))) (AI (h0I (0, 0) rfl rfl (BVw.oneL (AI (VS rfl) (AI (VS rfl) (AI (VS rfl) TT))))) TT))) (nid_ren _ rfl) (AI rfl (AI rfl (AI rfl (AI rfl (AI rfl (AI rfl TT)))))) rfl (AI rfl (HeapTo.get (AI (AI rfl (BVw.oneL (AI (VS rfl) (AI (VS rfl) (AI (VS rfl) TT))))) (AI (AI rfl (BVw.oneL (AI (VS rfl) TT))) (AI (AI rfl (BVw.oneL (AI (VS rfl) TT))) (AI (AI rfl (BVw.oneL (AI (VS rfl) (AI (VS rfl) TT)))) TT))))))))) ?_))
    refine AI (fun hp => hp) ?_
    refine AI (fun hc => (bqt hc)) ?_
    refine LWp.sim (e := [(6, .bool (((ibits .and .i64 ((((a0.getD (((a1.getD a2.toNat default).f_Set).toNat) default).getD (((a1.getD a2.toNat default).f_Rule).toNat) default).f_Mask).fdiv (2 ^ (min ((a1.getD a2.toNat default).f_Element).toNat (IntKind.bits .i64)))) 1) == 1) && (!v1.1)))]) (L := []) (n := 0) ?_ ?_
    · exact simI (M := []) rfl (AI (VS rfl) TT) TT
    refine retI ?_
    cases h
    exact AI TT (AI rfl (VS rfl))

theorem f43_ok {a0 : List (List G_QRule)} {a1 : List G_QDerivation} {a2 : Int} {m : Option Nat} {o : Bool} (h : S_fixpoint_validStep m a0 a1 a2 = some o) : PFn Try.prog 43 [.isl 1 (a0.map eB) false, .isl 3 (a1.map eD) false, .int .i64 a2] (.bool o) := PFn.ofFnW (L := f43_L) f43_low f43_fok (NB rfl) rfl (f43_start h)

def f24_c1 : LCode := (.seq (.region [⟨some 22, .bin .lss (.t 21) (.t 20), none⟩])
 (.seq (.cond (.t 22)
  .skip
  (.exit 0))
 (.seq (.block 1
  (.seq (.region [⟨some 23, .mv (.t 21), none⟩,
    ⟨some 9, .mv (.t 23), none⟩])
  (.seq (.region [⟨some 24, .mv (.t 0), none⟩,
    ⟨some 25, .mv (.t 1), none⟩,
    ⟨some 26, .mv (.t 9), none⟩,
    ⟨some 27, .call 43 [(.t 24), (.t 25), (.t 26)], none⟩,
    ⟨some 28, .un .not (.t 27), none⟩])
  (.cond (.t 28)
   (.seq (.region [⟨some 8, .mv (.c (.bool false)), none⟩])
   .ret)
   .skip))))
 (.region [⟨some 29, .bin .add (.t 21) (.c (.int .i64 1)), none⟩,
   ⟨some 21, .mv (.t 29), none⟩]))))
def f24_c0 : LCode := (.seq (.region [⟨some 30, .mv (.t 1), none⟩,
   ⟨some 31, .mv (.t 1), none⟩,
   ⟨some 32, .len false (.t 31), none⟩,
   ⟨some 33, .bin .sub (.t 32) (.c (.int .i64 1)), none⟩,
   ⟨some 34, .iaddr 3 (.t 30) (.t 33), none⟩,
   ⟨some 35, .load true 3 (.t 34), none⟩,
   ⟨some 10, .alloc [(.int .i64 0), (.int .i64 0), (.int .i64 0)], none⟩,
   ⟨none, .store 3 (.t 10) (.t 35), none⟩])
 (.seq (.region [⟨some 36, .faddr 0 (.t 10), none⟩,
   ⟨some 37, .load false 1 (.t 36), none⟩,
   ⟨some 38, .mv (.t 2), none⟩,
   ⟨some 39, .bin .eql (.t 37) (.t 38), none⟩,
   ⟨some 40, .mv (.t 39), none⟩,
   ⟨some 41, .faddr 2 (.t 10), some (40, true)⟩,
   ⟨some 42, .load false 1 (.t 41), some (40, true)⟩,
   ⟨some 43, .mv (.t 3), some (40, true)⟩,
   ⟨some 44, .bin .eql (.t 42) (.t 43), some (40, true)⟩,
   ⟨some 45, .pick (.t 40) (.t 44) (.c (.bool false)), none⟩,
   ⟨some 8, .mv (.t 45), none⟩])
 .ret))
def f24_c2 : LCode := (.seq (.region [⟨some 8, .mv (.c (.bool false)), none⟩])
 (.seq (.seq (.region [⟨some 11, .mv (.t 0), none⟩,
   ⟨some 12, .call 10 [(.t 11)], none⟩,
   ⟨some 13, .bin .neq (.t 12) (.c (.int .i64 0)), none⟩,
   ⟨some 14, .mv (.t 13), none⟩,
   ⟨some 15, .mv (.t 1), some (14, false)⟩,
   ⟨some 16, .len false (.t 15), some (14, false)⟩,
   ⟨some 17, .bin .eql (.t 16) (.c (.int .i64 0)), some (14, false)⟩,
   ⟨some 18, .pick (.t 14) (.c (.bool true)) (.t 17), none⟩])
 (.cond (.t 18)
  (.seq (.region [⟨some 8, .mv (.c (.bool false)), none⟩])
  .ret)
  .skip))
 (.seq (.seq (.region [⟨some 19, .mv (.t 1), none⟩,
   ⟨some 20, .len false (.t 19), none⟩,
   ⟨some 21, .mv (.c (.int .i64 0)), none⟩])
 (.block 0
  (.loop
   f24_c1)))
 f24_c0)))
def f24_lay : Lay := ⟨46, [], false⟩
def f24_res : List LRes := [.t 8]
def f24_L : LFn := ⟨4, f24_lay, f24_c2, f24_res⟩
theorem f24_low : lowFn Try.prog [] 24 = some f24_L := by kernel_rfl
theorem f24_fok : FnOk Try.prog 24 := ⟨_, Try.func24, rfl, rfl⟩
def f24_Q (a0 : List (List G_QRule)) (a1 : List G_QDerivation) (a2 : Int) (a3 : Int) (o : Bool) : Exit → Env → AHeap → Nat → Prop := FinK f24_res (PureEnd (.bool o))

def f24_L1_env (a0 : List (List G_QRule)) (a1 : List G_QDerivation) (a2 : Int) (a3 : Int) (s : Int) : Env := [(0, .isl 1 (a0.map eB) false), (1, .isl 3 (a1.map eD) false), (2, .int .i64 a2), (3, .int .i64 a3), (20, .int .i64 ((a1.map eD).length : Int)), (21, .int .i64 s)]
def f24_L1_hp (a0 : List (List G_QRule)) (a1 : List G_QDerivation) (a2 : Int) (a3 : Int) (s : Int) : AHeap := []
def f24_L1_Q (a0 : List (List G_QRule)) (a1 : List G_QDerivation) (a2 : Int) (a3 : Int) (o : Bool) : Exit → Env → AHeap → Nat → Prop := (QBlock 0 (QSeq Try.prog f24_lay 0 f24_c0 (f24_Q a0 a1 a2 a3 o)))

noncomputable def S_fixpoint_Verify_j1 (m : Option Nat) (a1 : List G_QDerivation) (a2 : Int) (a3 : Int) : Option Bool :=
  if (0 : Int) ≤ (W (((a1.map eD).length : Int) - 1)) ∧ (W (((a1.map eD).length : Int) - 1)) < ((a1.map eD).length : Int) then
  some (((a1.getD ((W (((a1.map eD).length : Int) - 1)).toNat) default).f_Set == a2) && ((a1.getD ((W (((a1.map eD).length : Int) - 1)).toNat) default).f_Element == a3))
  else none

noncomputable def S_fixpoint_Verify_b1 (m : Option Nat) (a0 : List (List G_QRule)) (a1 : List G_QDerivation) (a2 : Int) (a3 : Int) (v3 : Int) : Option (Int ⊕ Bool) :=
  if (decide (v3 < ((a1.map eD).length : Int))) = true then
    (S_fixpoint_validStep m a0 a1 v3).bind fun v5 =>
    if (!v5) = true then
      Option.map Sum.inr (
        some false)
    else
      some (.inl (W (v3 + 1)))
  else
    Option.map Sum.inr (
      S_fixpoint_Verify_j1 m a1 a2 a3)

noncomputable def S_fixpoint_Verify_l1 (m : Option Nat) (a0 : List (List G_QRule)) (a1 : List G_QDerivation) (a2 : Int) (a3 : Int) (v3 : Int) : Option Bool := loopM m (fun (s : Int) => S_fixpoint_Verify_b1 m a0 a1 a2 a3 s) v3

theorem f24_j1_ok {a0 : List (List G_QRule)} {a1 : List G_QDerivation} {a2 : Int} {a3 : Int} {m : Option Nat} {o : Bool} (h : S_fixpoint_Verify_j1 m a1 a2 a3 = some o) :
    LWp Try.prog f24_lay 0 f24_c0 (f24_Q a0 a1 a2 a3 o) [(1, .isl 3 (a1.map eD) false), (2, .int .i64 a2), (3, .int .i64 a3)] [] 0 := by
  unfold S_fixpoint_Verify_j1 at h
  refine seqI ?_
  refine regI ?_
  obtain ⟨h12, h⟩ := ite_some h
  refine AI h12 ?_
  refine EX (eD (a1.getD ((W (((a1.map eD).length : Int) - 1)).toNat) default)) (AI (getD_enc eD _ _ (idx_ltL eD h12)) (AI (AI (idx_lt h12) (NB rfl)) ?_))
  refine LWp.sim (e := [(2, .int .i64 a2), (3, .int .i64 a3), (10, .ptr (0, 0) 0 0)]) (L := [((0, 0), .one [.int .i64 ((a1.getD ((W (((a1.map eD).length : Int) - 1)).toNat) default).f_Set), .int .i64 ((a1.getD ((W (((a1.map eD).length : Int) - 1)).toNat) default).f_Rule), .int .i64 ((a1.getD ((W (((a1.map eD).length : Int) - 1)).toNat) default).f_Element)])]) (n := 1) ?_ ?_
  · exact simI (M := [((0, 0), (0, 0))]) rfl (AI (VS rfl) (AI (VS rfl) (AI (Vw.ptr _ _ _ _ rfl) TT))) (AI (AI rfl (BVw.oneL (AI (VS rfl) (AI (VS rfl) (AI (VS rfl) TT))))) TT)
  refine seqI ?_
  refine regI ?_
  refine AI (fun hp => hp) ?_
  refine AI (fun hp => (AI hp hp)) ?_
  refine AI (fun hc => (bqt hc)) ?_
  refine LWp.sim (e := [(8, .bool (((a1.getD ((W (((a1.map eD).length : Int) - 1)).toNat) default).f_Set == a2) && ((a1.getD ((W (((a1.map eD).length : Int) - 1)).toNat) default).f_Element == a3)))]) (L := []) (n := 0) ?_ ?_
  · exact simI (M := []) rfl (AI (VS rfl) TT) TT
  refine retI ?_
  cases h
  exact AI TT (AI rfl (VS rfl))

theorem f24_L1_bok {a0 : List (List G_QRule)} {a1 : List G_QDerivation} {a2 : Int} {a3 : Int} {v3 : Int} {m : Option Nat} {o : Int ⊕ Bool} (h : S_fixpoint_Verify_b1 m a0 a1 a2 a3 v3 = some o) :
    LWp Try.prog f24_lay 0 f24_c1 (BodyQ 0 0 (f24_L1_env a0 a1 a2 a3) (f24_L1_hp a0 a1 a2 a3) (f24_L1_Q a0 a1 a2 a3) o) [(0, .isl 1 (a0.map eB) false), (1, .isl 3 (a1.map eD) false), (2, .int .i64 a2), (3, .int .i64 a3), (20, .int .i64 ((a1.map eD).length : Int)), (21, .int .i64 v3)] [] 0 := by
  unfold S_fixpoint_Verify_b1 at h
  refine seqI ?_
  refine regI ?_
  refine seqI ?_
  refine condI (v := (decide (v3 < ((a1.map eD).length : Int)))) rfl TT (fun h9 => ?_) (fun h9 => ?_)
  · have h := ite_tt h9 h
    refine skipI ?_
    refine seqI ?_
    refine blockI ?_
    refine seqI ?_
    refine regI ?_
    refine seqI ?_
    refine regI ?_
    obtain ⟨v5, h10, h⟩ := bind_some h
    refine PFn.call (f43_ok h10) (AI (VS rfl) (AI (VS rfl) (AI (VS rfl) TT))) ?_
    refine LWp.sim (e := [(0, .isl 1 (a0.map eB) false), (1, .isl 3 (a1.map eD) false), (2, .int .i64 a2), (3, .int .i64 a3), (20, .int .i64 ((a1.map eD).length : Int)), (21, .int .i64 v3), (28, .bool (!v5))]) (L := []) (n := 0) ?_ ?_
    · exact simI (M := []) rfl (AI (VS rfl) (AI (VS rfl) (AI (VS rfl) (AI (VS rfl) (AI (VS rfl) (AI (VS rfl) (AI (VS rfl) TT))))))) TT
    refine condI (v := (!v5)) rfl TT (fun h11 => ?_) (fun h11 => ?_)
    · have h := ite_tt h11 h
      refine seqI ?_
      refine regI ?_
      refine retI ?_
      obtain ⟨o, hq, rfl⟩ := Option.map_eq_some_iff.1 h
      replace h := hq; clear hq
      refine AI nofun ?_
      cases h
      exact AI TT (AI rfl (VS rfl))
    · have h := ite_ff h11 h
      refine skipI ?_
      refine regI ?_
      cases h
      exact AI rfl (simI (M := []) rfl (AI (VS rfl) (AI (VS rfl) (AI (VS rfl) (AI (VS rfl) (AI (VS rfl) (AI (VS rfl) TT)))))) TT)
  · have h := ite_ff h9 h
    refine exitI ?_
    obtain ⟨o, hq, rfl⟩ := Option.map_eq_some_iff.1 h
    replace h := hq; clear hq
    refine AI nofun ?_
    refine LWp.sim ?_ (f24_j1_ok h)
    exact simI (M := []) rfl (AI (VS rfl) (AI (VS rfl) (AI (VS rfl) TT))) TT

theorem f24_L1_ok {a0 : List (List G_QRule)} {a1 : List G_QDerivation} {a2 : Int} {a3 : Int} {v3 : Int} {m : Option Nat} {o : Bool} (h : S_fixpoint_Verify_l1 m a0 a1 a2 a3 v3 = some o) :
    LWp Try.prog f24_lay 0 (.loop f24_c1) (QBlock 0 (QSeq Try.prog f24_lay 0 f24_c0 (f24_Q a0 a1 a2 a3 o))) [(0, .isl 1 (a0.map eB) false), (1, .isl 3 (a1.map eD) false), (2, .int .i64 a2), (3, .int .i64 a3), (20, .int .i64 ((a1.map eD).length : Int)), (21, .int .i64 v3)] [] 0 :=
  LWp_loopM (m := m) (s := (v3 : Int)) (r := o) (fun (s : Int) => S_fixpoint_Verify_b1 m a0 a1 a2 a3 s) (f24_L1_env a0 a1 a2 a3) (f24_L1_hp a0 a1 a2 a3) (f24_L1_Q a0 a1 a2 a3) (fun s o h => f24_L1_bok h) h

noncomputable def S_fixpoint_Verify (m : Option Nat) (a0 : List (List G_QRule)) (a1 : List G_QDerivation) (a2 : Int) (a3 : Int) : Option Bool :=
  (S_fixpoint_Check m a0).bind fun v1 =>
  if ((v1 != 0) || (((a1.map eD).length : Int) == 0)) = true then
    some false
  else
    S_fixpoint_Verify_l1 m a0 a1 a2 a3 0

theorem f24_start {a0 : List (List G_QRule)} {a1 : List G_QDerivation} {a2 : Int} {a3 : Int} {m : Option Nat} {o : Bool} (h : S_fixpoint_Verify m a0 a1 a2 a3 = some o) : LWp Try.prog f24_lay 0 f24_c2 (f24_Q a0 a1 a2 a3 o) (initEnv 0 [.isl 1 (a0.map eB) false, .isl 3 (a1.map eD) false, .int .i64 a2, .int .i64 a3]) [] 0 := by
  unfold S_fixpoint_Verify at h
  refine seqI ?_
  refine regI ?_
  refine seqI ?_
  refine seqI ?_
  refine regI ?_
  obtain ⟨v1, h1, h⟩ := bind_some h
  refine PFn.call (f10_ok h1) (AI (VS rfl) TT) ?_
  refine AI (fun hp => hp) ?_
  refine AI (fun hp => hp) ?_
  refine AI (fun hc => (bqf hc)) ?_
  refine LWp.sim (e := [(0, .isl 1 (a0.map eB) false), (1, .isl 3 (a1.map eD) false), (2, .int .i64 a2), (3, .int .i64 a3), (18, .bool ((v1 != 0) || (((a1.map eD).length : Int) == 0)))]) (L := []) (n := 0) ?_ ?_
  · exact simI (M := []) rfl (AI (VS rfl) (AI (VS rfl) (AI (VS rfl) (AI (VS rfl) (AI (VS rfl) TT))))) TT
  refine condI (v := ((v1 != 0) || (((a1.map eD).length : Int) == 0))) rfl TT (fun h2 => ?_) (fun h2 => ?_)
  · have h := ite_tt h2 h
    refine seqI ?_
    refine regI ?_
    refine retI ?_
    cases h
    exact AI TT (AI rfl (VS rfl))
  · have h := ite_ff h2 h
    refine skipI ?_
    refine seqI ?_
    refine seqI ?_
    refine regI ?_
    refine blockI ?_
    refine LWp.sim ?_ (f24_L1_ok h)
    exact simI (M := []) rfl (AI (VS rfl) (AI (VS rfl) (AI (VS rfl) (AI (VS rfl) (AI (VS rfl) (AI (VS rfl) TT)))))) TT

theorem f24_ok {a0 : List (List G_QRule)} {a1 : List G_QDerivation} {a2 : Int} {a3 : Int} {m : Option Nat} {o : Bool} (h : S_fixpoint_Verify m a0 a1 a2 a3 = some o) : PFn Try.prog 24 [.isl 1 (a0.map eB) false, .isl 3 (a1.map eD) false, .int .i64 a2, .int .i64 a3] (.bool o) := PFn.ofFnW (L := f24_L) f24_low f24_fok (NB rfl) rfl (f24_start h)

end Go.Proofs.Ytjcckmpeflflbaa
