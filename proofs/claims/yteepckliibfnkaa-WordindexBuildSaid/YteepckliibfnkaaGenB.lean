/-
  Own text GenB of this claim: what functions of the given program compute, in plain Lean, and the proof; no condition.
-/
import Derived.Test.YteepckliibfnkaaGenA
namespace Go.Proofs.Yteepckliibfnkaa
open Go.Fx
set_option linter.unusedVariables false
def f21_c2 : LCode := (.seq (.region [⟨some 28, .faddr 0 (.t 8), none⟩,
   ⟨some 29, .load false 1 (.t 28), none⟩,
   ⟨some 30, .faddr 0 (.t 3), none⟩,
   ⟨some 31, .load false 1 (.t 30), none⟩,
   ⟨some 32, .bin .neq (.t 29) (.t 31), none⟩])
 (.cond (.t 32)
  (.region [⟨some 33, .mv (.t 5), none⟩,
    ⟨some 34, .load true 3 (.t 8), none⟩,
    ⟨some 35, .mkSl true 3 [(.str []), (.int .u32 0), (.isl 1 [] true)] 1 [(0, (.t 34))], none⟩,
    ⟨some 36, .app true 3 48 (.t 33) (.t 35), none⟩,
    ⟨some 5, .mv (.t 36), none⟩])
  .skip))
def f21_c0 : LCode := (.region [⟨some 37, .bin .add (.t 11) (.c (.int .i64 1)), none⟩,
   ⟨some 11, .mv (.t 37), none⟩])
def f21_c3 : LCode := (.seq (.region [⟨some 12, .bin .lss (.t 11) (.t 10), none⟩])
 (.seq (.cond (.t 12)
  .skip
  (.exit 0))
 (.seq (.block 1
  (.seq (.region [⟨some 13, .iaddr 3 (.t 9) (.t 11), none⟩,
    ⟨some 14, .load true 3 (.t 13), none⟩,
    ⟨some 8, .alloc [(.str []), (.int .u32 0), (.isl 1 [] true)], none⟩,
    ⟨none, .store 3 (.t 8) (.t 14), none⟩])
  (.seq (.seq (.region [⟨some 15, .mv (.t 6), none⟩,
    ⟨some 16, .un .not (.t 15), none⟩,
    ⟨some 17, .mv (.t 16), none⟩,
    ⟨some 18, .faddr 0 (.t 8), some (17, true)⟩,
    ⟨some 19, .load false 1 (.t 18), some (17, true)⟩,
    ⟨some 20, .faddr 0 (.t 3), some (17, true)⟩,
    ⟨some 21, .load false 1 (.t 20), some (17, true)⟩,
    ⟨some 22, .bin .geq (.t 19) (.t 21), some (17, true)⟩,
    ⟨some 23, .pick (.t 17) (.t 22) (.c (.bool false)), none⟩])
  (.cond (.t 23)
   (.seq (.region [⟨some 24, .mv (.t 5), none⟩,
     ⟨some 25, .load true 3 (.t 3), none⟩,
     ⟨some 26, .mkSl true 3 [(.str []), (.int .u32 0), (.isl 1 [] true)] 1 [(0, (.t 25))], none⟩,
     ⟨some 27, .app true 3 48 (.t 24) (.t 26), none⟩,
     ⟨some 5, .mv (.t 27), none⟩])
   (.region [⟨some 6, .mv (.c (.bool true)), none⟩]))
   .skip))
  f21_c2)))
 f21_c0)))
def f21_c4 : LCode := (.seq (.region [⟨some 44, .mv (.t 5), none⟩,
   ⟨some 4, .mv (.t 44), none⟩])
 .ret)
def f21_c1 : LCode := (.seq (.seq (.region [⟨some 38, .mv (.t 6), none⟩,
   ⟨some 39, .un .not (.t 38), none⟩])
 (.cond (.t 39)
  (.region [⟨some 40, .mv (.t 5), none⟩,
    ⟨some 41, .load true 3 (.t 3), none⟩,
    ⟨some 42, .mkSl true 3 [(.str []), (.int .u32 0), (.isl 1 [] true)] 1 [(0, (.t 41))], none⟩,
    ⟨some 43, .app true 3 48 (.t 40) (.t 42), none⟩,
    ⟨some 5, .mv (.t 43), none⟩])
  .skip))
 f21_c4)
def f21_c5 : LCode := (.seq (.region [⟨some 3, .box (.t 1), none⟩,
   ⟨some 4, .mv (.c (.val (.slice none 0 0))), none⟩])
 (.seq (.region [⟨some 5, .mv (.c (.val (.slice none 0 0))), none⟩])
 (.seq (.region [⟨some 6, .mv (.c (.bool false)), none⟩])
 (.seq (.seq (.region [⟨some 9, .mv (.t 0), none⟩,
   ⟨some 10, .len false (.t 9), none⟩,
   ⟨some 11, .mv (.c (.int .i64 0)), none⟩])
 (.block 0
  (.loop
   f21_c3)))
 f21_c1))))
def f21_lay : Lay := ⟨45, [], false⟩
def f21_res : List LRes := [.t 4]
def f21_L : LFn := ⟨2, f21_lay, f21_c5, f21_res⟩
theorem f21_low : lowFn Try.prog [] 21 = some f21_L := by kernel_rfl
theorem f21_fok : FnOk Try.prog 21 := ⟨_, Try.func21, rfl, rfl⟩
def f21_Q (a0 : List G_QIndexEntry) (a1 : G_QIndexEntry) (o : (List G_QIndexEntry)) : Exit → Env → AHeap → Nat → Prop := FinK f21_res (PureEnd (.isl 3 (o.map e_QIndexEntry) false))

def f21_L1_env (a0 : List G_QIndexEntry) (a1 : G_QIndexEntry) (s : ((List G_QIndexEntry) × Bool × Int)) : Env := [(3, .ptr (0, 0) 0 0), (5, .osl (1, 0) 3 (s.1.map e_QIndexEntry)), (6, .bool s.2.1), (9, .isl 3 (a0.map e_QIndexEntry) false), (10, .int .i64 ((a0.map e_QIndexEntry).length : Int)), (11, .int .i64 s.2.2)]
def f21_L1_hp (a0 : List G_QIndexEntry) (a1 : G_QIndexEntry) (s : ((List G_QIndexEntry) × Bool × Int)) : AHeap := [((0, 0), .one [.str a1.f_Name, .int .u32 a1.f_Sum, .isl 1 (a1.f_Words.map e_str) false]), ((1, 0), .tok)]
def f21_L1_Q (a0 : List G_QIndexEntry) (a1 : G_QIndexEntry) (o : (List G_QIndexEntry)) : Exit → Env → AHeap → Nat → Prop := (QBlock 0 (QSeq Try.prog f21_lay 0 f21_c1 (f21_Q a0 a1 o)))

noncomputable def S_glossatorref3_InsertEntry_j6 (m : Option Nat) (a0 : List G_QIndexEntry) (a1 : G_QIndexEntry) (v6 : Int) (v11 : Bool) (v12 : List G_QIndexEntry) : Option (((List G_QIndexEntry) × Bool × Int) ⊕ (List G_QIndexEntry)) :=
  some (.inl (v12, v11, (W (v6 + 1))))

theorem f21_j6_ok {a0 : List G_QIndexEntry} {a1 : G_QIndexEntry} {v6 : Int} {v11 : Bool} {v12 : List G_QIndexEntry} {m : Option Nat} {o : (((List G_QIndexEntry) × Bool × Int) ⊕ (List G_QIndexEntry))} (h : S_glossatorref3_InsertEntry_j6 m a0 a1 v6 v11 v12 = some o) :
    LWp Try.prog f21_lay 0 f21_c0 (BodyQ 0 2 (f21_L1_env a0 a1) (f21_L1_hp a0 a1) (f21_L1_Q a0 a1) o) [(3, .ptr (0, 0) 0 0), (5, .osl (1, 0) 3 (v12.map e_QIndexEntry)), (6, .bool v11), (9, .isl 3 (a0.map e_QIndexEntry) false), (10, .int .i64 ((a0.map e_QIndexEntry).length : Int)), (11, .int .i64 v6)] [((0, 0), .one [.str a1.f_Name, .int .u32 a1.f_Sum, .isl 1 (a1.f_Words.map e_str) false]), ((1, 0), .tok)] 2 := by
  unfold S_glossatorref3_InsertEntry_j6 at h
  refine regI ?_
  cases h
  exact And.intro rfl (simI (M := [((0, 0), (0, 0)), ((1, 0), (1, 0))]) rfl (And.intro (Vw.ptr _ _ _ _ rfl) (And.intro (Vw.osl _ _ _ _ rfl) (And.intro (Vw.same _ rfl) (And.intro (Vw.same _ rfl) (And.intro (Vw.same _ rfl) (And.intro (Vw.same _ rfl) trivial)))))) (And.intro (And.intro rfl (BVw.oneL (And.intro (Vw.same _ rfl) (And.intro (Vw.same _ rfl) (And.intro (Vw.same _ rfl) trivial))))) (And.intro (And.intro rfl BVw.tok) trivial)))

noncomputable def S_glossatorref3_InsertEntry_j5 (m : Option Nat) (a0 : List G_QIndexEntry) (a1 : G_QIndexEntry) (v6 : Int) (v10 : List G_QIndexEntry) (v11 : Bool) : Option (((List G_QIndexEntry) × Bool × Int) ⊕ (List G_QIndexEntry)) :=
  if (!((a0.getD v6.toNat default).f_Name == a1.f_Name)) = true then
    if ((v10 ++ ([(G_QIndexEntry.mk ((a0.getD v6.toNat default).f_Name) ((a0.getD v6.toNat default).f_Sum) ((a0.getD v6.toNat default).f_Words))] : List G_QIndexEntry)).map e_QIndexEntry).length * 48 ≤ 140737488355328 then
    S_glossatorref3_InsertEntry_j6 m a0 a1 v6 v11 (v10 ++ ([(G_QIndexEntry.mk ((a0.getD v6.toNat default).f_Name) ((a0.getD v6.toNat default).f_Sum) ((a0.getD v6.toNat default).f_Words))] : List G_QIndexEntry))
    else none
  else
    S_glossatorref3_InsertEntry_j6 m a0 a1 v6 v11 v10

theorem f21_j5_ok {a0 : List G_QIndexEntry} {a1 : G_QIndexEntry} {v6 : Int} {v10 : List G_QIndexEntry} {v11 : Bool} {m : Option Nat} {o : (((List G_QIndexEntry) × Bool × Int) ⊕ (List G_QIndexEntry))} (h : S_glossatorref3_InsertEntry_j5 m a0 a1 v6 v10 v11 = some o) :
    LWp Try.prog f21_lay 0 f21_c2 (QBlock 1 (QSeq Try.prog f21_lay 0 f21_c0 (BodyQ 0 2 (f21_L1_env a0 a1) (f21_L1_hp a0 a1) (f21_L1_Q a0 a1) o))) [(3, .ptr (0, 0) 0 0), (5, .osl (1, 0) 3 (v10.map e_QIndexEntry)), (6, .bool v11), (8, .ptr (2, 0) 0 0), (9, .isl 3 (a0.map e_QIndexEntry) false), (10, .int .i64 ((a0.map e_QIndexEntry).length : Int)), (11, .int .i64 v6)] [((0, 0), .one [.str a1.f_Name, .int .u32 a1.f_Sum, .isl 1 (a1.f_Words.map e_str) false]), ((1, 0), .tok), ((2, 0), .one [.str ((a0.getD v6.toNat default).f_Name), .int .u32 ((a0.getD v6.toNat default).f_Sum), .isl 1 (((a0.getD v6.toNat default).f_Words).map e_str) false])] 3 := by
  unfold S_glossatorref3_InsertEntry_j5 at h
  refine seqI ?_
  refine regI ?_
  refine condI (v := (!((a0.getD v6.toNat default).f_Name == a1.f_Name))) rfl trivial (fun h17 => ?_) (fun h17 => ?_)
  · have h := ite_tt h17 h
    refine regI ?_
    obtain ⟨h18, h⟩ := ite_some h
    refine Exists.intro ((v10 ++ ([(G_QIndexEntry.mk ((a0.getD v6.toNat default).f_Name) ((a0.getD v6.toNat default).f_Sum) ((a0.getD v6.toNat default).f_Words))] : List G_QIndexEntry)).map e_QIndexEntry) (And.intro (app_enc e_QIndexEntry v10 ([(G_QIndexEntry.mk ((a0.getD v6.toNat default).f_Name) ((a0.getD v6.toNat default).f_Sum) ((a0.getD v6.toNat default).f_Words))] : List G_QIndexEntry)) (And.intro h18 ?_))
    refine LWp.sim ?_ (f21_j6_ok h)
    exact simI (M := [((0, 0), (0, 0)), ((1, 0), (3, 0))]) rfl (And.intro (Vw.ptr _ _ _ _ rfl) (And.intro (Vw.osl _ _ _ _ rfl) (And.intro (Vw.same _ rfl) (And.intro (Vw.same _ rfl) (And.intro (Vw.same _ rfl) (And.intro (Vw.same _ rfl) trivial)))))) (And.intro (And.intro rfl (BVw.oneL (And.intro (Vw.same _ rfl) (And.intro (Vw.same _ rfl) (And.intro (Vw.same _ rfl) trivial))))) (And.intro (And.intro rfl BVw.tok) trivial))
  · have h := ite_ff h17 h
    refine skipI ?_
    refine LWp.sim ?_ (f21_j6_ok h)
    exact simI (M := [((0, 0), (0, 0)), ((1, 0), (1, 0))]) rfl (And.intro (Vw.ptr _ _ _ _ rfl) (And.intro (Vw.osl _ _ _ _ rfl) (And.intro (Vw.same _ rfl) (And.intro (Vw.same _ rfl) (And.intro (Vw.same _ rfl) (And.intro (Vw.same _ rfl) trivial)))))) (And.intro (And.intro rfl (BVw.oneL (And.intro (Vw.same _ rfl) (And.intro (Vw.same _ rfl) (And.intro (Vw.same _ rfl) trivial))))) (And.intro (And.intro rfl BVw.tok) trivial))

noncomputable def S_glossatorref3_InsertEntry_j8 (m : Option Nat) (v13 : List G_QIndexEntry) : Option (List G_QIndexEntry) :=
  some v13

noncomputable def S_glossatorref3_InsertEntry_j7 (m : Option Nat) (a1 : G_QIndexEntry) (v4 : List G_QIndexEntry) (v5 : Bool) : Option (List G_QIndexEntry) :=
  if (!v5) = true then
    if ((v4 ++ ([a1] : List G_QIndexEntry)).map e_QIndexEntry).length * 48 ≤ 140737488355328 then
    S_glossatorref3_InsertEntry_j8 m (v4 ++ ([a1] : List G_QIndexEntry))
    else none
  else
    S_glossatorref3_InsertEntry_j8 m v4

noncomputable def S_glossatorref3_InsertEntry_b1 (m : Option Nat) (a0 : List G_QIndexEntry) (a1 : G_QIndexEntry) (v4 : List G_QIndexEntry) (v5 : Bool) (v6 : Int) : Option (((List G_QIndexEntry) × Bool × Int) ⊕ (List G_QIndexEntry)) :=
  if (decide (v6 < ((a0.map e_QIndexEntry).length : Int))) = true then
    if (0 : Int) ≤ v6 ∧ v6 < ((a0.map e_QIndexEntry).length : Int) then
    if ((!v5) && (!(Op.bytesLess ((a0.getD v6.toNat default).f_Name) a1.f_Name))) = true then
      if ((v4 ++ ([a1] : List G_QIndexEntry)).map e_QIndexEntry).length * 48 ≤ 140737488355328 then
      S_glossatorref3_InsertEntry_j5 m a0 a1 v6 (v4 ++ ([a1] : List G_QIndexEntry)) true
      else none
    else
      S_glossatorref3_InsertEntry_j5 m a0 a1 v6 v4 v5
    else none
  else
    Option.map Sum.inr (
      S_glossatorref3_InsertEntry_j7 m a1 v4 v5)

noncomputable def S_glossatorref3_InsertEntry_l1 (m : Option Nat) (a0 : List G_QIndexEntry) (a1 : G_QIndexEntry) (v4 : List G_QIndexEntry) (v5 : Bool) (v6 : Int) : Option (List G_QIndexEntry) := loopM m (fun (s : ((List G_QIndexEntry) × Bool × Int)) => S_glossatorref3_InsertEntry_b1 m a0 a1 s.1 s.2.1 s.2.2) (v4, v5, v6)

theorem f21_j8_ok {a0 : List G_QIndexEntry} {a1 : G_QIndexEntry} {v13 : List G_QIndexEntry} {m : Option Nat} {o : (List G_QIndexEntry)} (h : S_glossatorref3_InsertEntry_j8 m v13 = some o) :
    LWp Try.prog f21_lay 0 f21_c4 (f21_Q a0 a1 o) [(5, .osl (0, 0) 3 (v13.map e_QIndexEntry))] [((0, 0), .tok)] 1 := by
  unfold S_glossatorref3_InsertEntry_j8 at h
  refine seqI ?_
  refine regI ?_
  refine retI ?_
  cases h
  exact And.intro trivial (And.intro rfl (Vw.oslI _ _ _))

theorem f21_j7_ok {a0 : List G_QIndexEntry} {a1 : G_QIndexEntry} {v4 : List G_QIndexEntry} {v5 : Bool} {m : Option Nat} {o : (List G_QIndexEntry)} (h : S_glossatorref3_InsertEntry_j7 m a1 v4 v5 = some o) :
    LWp Try.prog f21_lay 0 f21_c1 (f21_Q a0 a1 o) [(3, .ptr (0, 0) 0 0), (5, .osl (1, 0) 3 (v4.map e_QIndexEntry)), (6, .bool v5)] [((0, 0), .one [.str a1.f_Name, .int .u32 a1.f_Sum, .isl 1 (a1.f_Words.map e_str) false]), ((1, 0), .tok)] 2 := by
  unfold S_glossatorref3_InsertEntry_j7 at h
  refine seqI ?_
  refine seqI ?_
  refine regI ?_
  refine condI (v := (!v5)) rfl trivial (fun h19 => ?_) (fun h19 => ?_)
  · have h := ite_tt h19 h
    refine regI ?_
    obtain ⟨h20, h⟩ := ite_some h
    refine Exists.intro ((v4 ++ ([a1] : List G_QIndexEntry)).map e_QIndexEntry) (And.intro (app_enc e_QIndexEntry v4 ([a1] : List G_QIndexEntry)) (And.intro h20 ?_))
    refine LWp.sim ?_ (f21_j8_ok h)
    exact simI (M := [((0, 0), (2, 0))]) rfl (And.intro (Vw.osl _ _ _ _ rfl) trivial) (And.intro (And.intro rfl BVw.tok) trivial)
  · have h := ite_ff h19 h
    refine skipI ?_
    refine LWp.sim ?_ (f21_j8_ok h)
    exact simI (M := [((0, 0), (1, 0))]) rfl (And.intro (Vw.osl _ _ _ _ rfl) trivial) (And.intro (And.intro rfl BVw.tok) trivial)

theorem f21_L1_bok {a0 : List G_QIndexEntry} {a1 : G_QIndexEntry} {v4 : List G_QIndexEntry} {v5 : Bool} {v6 : Int} {m : Option Nat} {o : ((List G_QIndexEntry) × Bool × Int) ⊕ (List G_QIndexEntry)} (h : S_glossatorref3_InsertEntry_b1 m a0 a1 v4 v5 v6 = some o) :
    LWp Try.prog f21_lay 0 f21_c3 (BodyQ 0 2 (f21_L1_env a0 a1) (f21_L1_hp a0 a1) (f21_L1_Q a0 a1) o) [(3, .ptr (0, 0) 0 0), (5, .osl (1, 0) 3 (v4.map e_QIndexEntry)), (6, .bool v5), (9, .isl 3 (a0.map e_QIndexEntry) false), (10, .int .i64 ((a0.map e_QIndexEntry).length : Int)), (11, .int .i64 v6)] [((0, 0), .one [.str a1.f_Name, .int .u32 a1.f_Sum, .isl 1 (a1.f_Words.map e_str) false]), ((1, 0), .tok)] 2 := by
  unfold S_glossatorref3_InsertEntry_b1 at h
  refine seqI ?_
  refine regI ?_
  refine seqI ?_
  refine condI (v := (decide (v6 < ((a0.map e_QIndexEntry).length : Int)))) rfl trivial (fun h13 => ?_) (fun h13 => ?_)
  · have h := ite_tt h13 h
    refine skipI ?_
    refine seqI ?_
    refine blockI ?_
    refine seqI ?_
    refine regI ?_
    obtain ⟨h14, h⟩ := ite_some h
    refine And.intro h14 ?_
    refine Exists.intro (e_QIndexEntry (a0.getD v6.toNat default)) (And.intro (getD_enc e_QIndexEntry _ _ (idx_ltL e_QIndexEntry h14)) (And.intro (And.intro (idx_lt h14) (Nat.le_of_ble_eq_true rfl)) ?_))
    refine seqI ?_
    refine seqI ?_
    refine regI ?_
    refine And.intro (fun hp => hp) ?_
    show yops _ _ _ [(19, .cnd ((!v5) == true) (.str ((a0.getD v6.toNat default).f_Name))), (18, .cnd ((!v5) == true) (.ptr (2, 0) 0 0)), (17, .bool (!v5)), (16, .bool (!v5)), (15, .bool v5), (8, .ptr (2, 0) 0 0), (14, .agg [.str ((a0.getD v6.toNat default).f_Name), .int .u32 ((a0.getD v6.toNat default).f_Sum), .isl 1 (((a0.getD v6.toNat default).f_Words).map e_str) false]), (13, .iptr 3 (a0.map e_QIndexEntry) v6.toNat 0), (12, .bool (decide (v6 < ((a0.map e_QIndexEntry).length : Int)))), (3, .ptr (0, 0) 0 0), (5, .osl (1, 0) 3 (v4.map e_QIndexEntry)), (6, .bool v5), (9, .isl 3 (a0.map e_QIndexEntry) false), (10, .int .i64 ((a0.map e_QIndexEntry).length : Int)), (11, .int .i64 v6)] _ _
    refine And.intro (fun hp => hp) ?_
    refine And.intro (fun hp => (And.intro hp hp)) ?_
    refine And.intro (fun hc => (bqt hc)) ?_
    refine LWp.sim (e := [(3, .ptr (0, 0) 0 0), (5, .osl (1, 0) 3 (v4.map e_QIndexEntry)), (6, .bool v5), (8, .ptr (2, 0) 0 0), (9, .isl 3 (a0.map e_QIndexEntry) false), (10, .int .i64 ((a0.map e_QIndexEntry).length : Int)), (11, .int .i64 v6), (23, .bool ((!v5) && (!(Op.bytesLess ((a0.getD v6.toNat default).f_Name) a1.f_Name))))]) (L := [((0, 0), .one [.str a1.f_Name, .int .u32 a1.f_Sum, .isl 1 (a1.f_Words.map e_str) false]), ((1, 0), .tok), ((2, 0), .one [.str ((a0.getD v6.toNat default).f_Name), .int .u32 ((a0.getD v6.toNat default).f_Sum), .isl 1 (((a0.getD v6.toNat default).f_Words).map e_str) false])]) (n := 3) ?_ ?_
    · exact simI (M := [((0, 0), (0, 0)), ((1, 0), (1, 0)), ((2, 0), (2, 0))]) rfl (And.intro (Vw.ptr _ _ _ _ rfl) (And.intro (Vw.osl _ _ _ _ rfl) (And.intro (Vw.same _ rfl) (And.intro (Vw.ptr _ _ _ _ rfl) (And.intro (Vw.same _ rfl) (And.intro (Vw.same _ rfl) (And.intro (Vw.same _ rfl) (And.intro (Vw.same _ rfl) trivial)))))))) (And.intro (And.intro rfl (BVw.oneL (And.intro (Vw.same _ rfl) (And.intro (Vw.same _ rfl) (And.intro (Vw.same _ rfl) trivial))))) (And.intro (And.intro rfl BVw.tok) (And.intro (And.intro rfl (BVw.oneL (And.intro (Vw.same _ rfl) (And.intro (Vw.same _ rfl) (And.intro (Vw.same _ rfl) trivial))))) trivial)))
    refine condI (v := ((!v5) && (!(Op.bytesLess ((a0.getD v6.toNat default).f_Name) a1.f_Name)))) rfl trivial (fun h15 => ?_) (fun h15 => ?_)
    · have h := ite_tt h15 h
      refine seqI ?_
      refine regI ?_
      obtain ⟨h16, h⟩ := ite_some h
      refine Exists.intro ((v4 ++ ([a1] : List G_QIndexEntry)).map e_QIndexEntry) (And.intro (app_enc e_QIndexEntry v4 ([a1] : List G_QIndexEntry)) (And.intro h16 ?_))
      refine regI ?_
      refine LWp.sim ?_ (f21_j5_ok h)
      exact simI (M := [((0, 0), (0, 0)), ((1, 0), (3, 0)), ((2, 0), (2, 0))]) rfl (And.intro (Vw.ptr _ _ _ _ rfl) (And.intro (Vw.osl _ _ _ _ rfl) (And.intro (Vw.same _ rfl) (And.intro (Vw.ptr _ _ _ _ rfl) (And.intro (Vw.same _ rfl) (And.intro (Vw.same _ rfl) (And.intro (Vw.same _ rfl) trivial))))))) (And.intro (And.intro rfl (BVw.oneL (And.intro (Vw.same _ rfl) (And.intro (Vw.same _ rfl) (And.intro (Vw.same _ rfl) trivial))))) (And.intro (And.intro rfl BVw.tok) (And.intro (And.intro rfl (BVw.oneL (And.intro (Vw.same _ rfl) (And.intro (Vw.same _ rfl) (And.intro (Vw.same _ rfl) trivial))))) trivial)))
    · have h := ite_ff h15 h
      refine skipI ?_
      refine LWp.sim ?_ (f21_j5_ok h)
      exact simI (M := [((0, 0), (0, 0)), ((1, 0), (1, 0)), ((2, 0), (2, 0))]) rfl (And.intro (Vw.ptr _ _ _ _ rfl) (And.intro (Vw.osl _ _ _ _ rfl) (And.intro (Vw.same _ rfl) (And.intro (Vw.ptr _ _ _ _ rfl) (And.intro (Vw.same _ rfl) (And.intro (Vw.same _ rfl) (And.intro (Vw.same _ rfl) trivial))))))) (And.intro (And.intro rfl (BVw.oneL (And.intro (Vw.same _ rfl) (And.intro (Vw.same _ rfl) (And.intro (Vw.same _ rfl) trivial))))) (And.intro (And.intro rfl BVw.tok) (And.intro (And.intro rfl (BVw.oneL (And.intro (Vw.same _ rfl) (And.intro (Vw.same _ rfl) (And.intro (Vw.same _ rfl) trivial))))) trivial)))
  · have h := ite_ff h13 h
    refine exitI ?_
    obtain ⟨o, hq, rfl⟩ := Option.map_eq_some_iff.1 h
    replace h := hq; clear hq
    refine And.intro nofun ?_
    refine LWp.sim ?_ (f21_j7_ok h)
    exact simI (M := [((0, 0), (0, 0)), ((1, 0), (1, 0))]) rfl (And.intro (Vw.ptr _ _ _ _ rfl) (And.intro (Vw.osl _ _ _ _ rfl) (And.intro (Vw.same _ rfl) trivial))) (And.intro (And.intro rfl (BVw.oneL (And.intro (Vw.same _ rfl) (And.intro (Vw.same _ rfl) (And.intro (Vw.same _ rfl) trivial))))) (And.intro (And.intro rfl BVw.tok) trivial))

theorem f21_L1_ok {a0 : List G_QIndexEntry} {a1 : G_QIndexEntry} {v4 : List G_QIndexEntry} {v5 : Bool} {v6 : Int} {m : Option Nat} {o : (List G_QIndexEntry)} (h : S_glossatorref3_InsertEntry_l1 m a0 a1 v4 v5 v6 = some o) :
    LWp Try.prog f21_lay 0 (.loop f21_c3) (QBlock 0 (QSeq Try.prog f21_lay 0 f21_c1 (f21_Q a0 a1 o))) [(3, .ptr (0, 0) 0 0), (5, .osl (1, 0) 3 (v4.map e_QIndexEntry)), (6, .bool v5), (9, .isl 3 (a0.map e_QIndexEntry) false), (10, .int .i64 ((a0.map e_QIndexEntry).length : Int)), (11, .int .i64 v6)] [((0, 0), .one [.str a1.f_Name, .int .u32 a1.f_Sum, .isl 1 (a1.f_Words.map e_str) false]), ((1, 0), .tok)] 2 :=
  LWp_loopM (m := m) (s := ((v4, v5, v6) : ((List G_QIndexEntry) × Bool × Int))) (r := o) (fun (s : ((List G_QIndexEntry) × Bool × Int)) => S_glossatorref3_InsertEntry_b1 m a0 a1 s.1 s.2.1 s.2.2) (f21_L1_env a0 a1) (f21_L1_hp a0 a1) (f21_L1_Q a0 a1) (fun s o h => f21_L1_bok h) h

noncomputable def S_glossatorref3_InsertEntry (m : Option Nat) (a0 : List G_QIndexEntry) (a1 : G_QIndexEntry) : Option (List G_QIndexEntry) :=
  S_glossatorref3_InsertEntry_l1 m a0 a1 [] false 0

theorem f21_start {a0 : List G_QIndexEntry} {a1 : G_QIndexEntry} {m : Option Nat} {o : (List G_QIndexEntry)} (h : S_glossatorref3_InsertEntry m a0 a1 = some o) : LWp Try.prog f21_lay 0 f21_c5 (f21_Q a0 a1 o) (initEnv 0 [.isl 3 (a0.map e_QIndexEntry) false, .agg [.str a1.f_Name, .int .u32 a1.f_Sum, .isl 1 (a1.f_Words.map e_str) false]]) [] 0 := by
  unfold S_glossatorref3_InsertEntry at h
  refine seqI ?_
  refine regI ?_
  refine seqI ?_
  refine regI ?_
  refine seqI ?_
  refine regI ?_
  refine seqI ?_
  refine seqI ?_
  refine regI ?_
  refine blockI ?_
  refine LWp.sim ?_ (f21_L1_ok h)
  exact simI (M := [((0, 0), (0, 0))]) rfl (And.intro (Vw.ptr _ _ _ _ rfl) (And.intro (Vw.nilO _ _ (by decide)) (And.intro (Vw.same _ rfl) (And.intro (Vw.same _ rfl) (And.intro (Vw.same _ rfl) (And.intro (Vw.same _ rfl) trivial)))))) (And.intro (And.intro rfl (BVw.oneL (And.intro (Vw.same _ rfl) (And.intro (Vw.same _ rfl) (And.intro (Vw.same _ rfl) trivial))))) (And.intro (And.intro rfl (And.intro (by decide) (by decide))) trivial))

theorem f21_ok {a0 : List G_QIndexEntry} {a1 : G_QIndexEntry} {m : Option Nat} {o : (List G_QIndexEntry)} (h : S_glossatorref3_InsertEntry m a0 a1 = some o) : PFn Try.prog 21 [.isl 3 (a0.map e_QIndexEntry) false, .agg [.str a1.f_Name, .int .u32 a1.f_Sum, .isl 1 (a1.f_Words.map e_str) false]] (.isl 3 (o.map e_QIndexEntry) false) := PFn.ofFnW (L := f21_L) f21_low f21_fok (Nat.le_of_ble_eq_true rfl) rfl (f21_start h)

def f13_c1 : LCode := (.seq (.region [⟨some 9, .bin .lss (.t 8) (.t 7), none⟩])
 (.seq (.cond (.t 9)
  .skip
  (.exit 0))
 (.seq (.block 1
  (.seq (.region [⟨some 10, .iaddr 3 (.t 6) (.t 8), none⟩,
    ⟨some 11, .load true 3 (.t 10), none⟩,
    ⟨some 5, .alloc [(.str []), (.int .i64 0), (.str [])], none⟩,
    ⟨none, .store 3 (.t 5) (.t 11), none⟩])
  (.region [⟨some 12, .mv (.t 3), none⟩,
    ⟨some 13, .load true 3 (.t 5), none⟩,
    ⟨some 14, .call 22 [(.t 13)], none⟩,
    ⟨some 15, .call 21 [(.t 12), (.t 14)], none⟩,
    ⟨some 3, .mv (.t 15), none⟩])))
 (.region [⟨some 16, .bin .add (.t 8) (.c (.int .i64 1)), none⟩,
   ⟨some 8, .mv (.t 16), none⟩]))))
def f13_c0 : LCode := (.seq (.region [⟨some 17, .mv (.t 3), none⟩,
   ⟨some 2, .mv (.t 17), none⟩])
 .ret)
def f13_c2 : LCode := (.seq (.region [⟨some 2, .mv (.c (.val (.slice none 0 0))), none⟩])
 (.seq (.region [⟨some 3, .mv (.c (.val (.slice none 0 0))), none⟩])
 (.seq (.seq (.region [⟨some 6, .mv (.t 0), none⟩,
   ⟨some 7, .len false (.t 6), none⟩,
   ⟨some 8, .mv (.c (.int .i64 0)), none⟩])
 (.block 0
  (.loop
   f13_c1)))
 f13_c0)))
def f13_lay : Lay := ⟨18, [], false⟩
def f13_res : List LRes := [.t 2]
def f13_L : LFn := ⟨1, f13_lay, f13_c2, f13_res⟩
theorem f13_low : lowFn Try.prog [] 13 = some f13_L := by kernel_rfl
theorem f13_fok : FnOk Try.prog 13 := ⟨_, Try.func13, rfl, rfl⟩
def f13_Q (a0 : List G_QDocument) (o : (List G_QIndexEntry)) : Exit → Env → AHeap → Nat → Prop := FinK f13_res (PureEnd (.isl 3 (o.map e_QIndexEntry) false))

def f13_L1_env (a0 : List G_QDocument) (s : ((List G_QIndexEntry) × Int)) : Env := [(3, .isl 3 (s.1.map e_QIndexEntry) false), (6, .isl 3 (a0.map e_QDocument) false), (7, .int .i64 ((a0.map e_QDocument).length : Int)), (8, .int .i64 s.2)]
def f13_L1_hp (a0 : List G_QDocument) (s : ((List G_QIndexEntry) × Int)) : AHeap := []
def f13_L1_Q (a0 : List G_QDocument) (o : (List G_QIndexEntry)) : Exit → Env → AHeap → Nat → Prop := (QBlock 0 (QSeq Try.prog f13_lay 0 f13_c0 (f13_Q a0 o)))

noncomputable def S_glossatorref3_BuildIndex_j1 (m : Option Nat) (v3 : List G_QIndexEntry) : Option (List G_QIndexEntry) :=
  some v3

noncomputable def S_glossatorref3_BuildIndex_b1 (m : Option Nat) (a0 : List G_QDocument) (v3 : List G_QIndexEntry) (v4 : Int) : Option (((List G_QIndexEntry) × Int) ⊕ (List G_QIndexEntry)) :=
  if (decide (v4 < ((a0.map e_QDocument).length : Int))) = true then
    if (0 : Int) ≤ v4 ∧ v4 < ((a0.map e_QDocument).length : Int) then
    (S_glossatorref3_Entry m (G_QDocument.mk ((a0.getD v4.toNat default).f_Name) ((a0.getD v4.toNat default).f_Version) ((a0.getD v4.toNat default).f_Text))).bind fun v7 =>
    (S_glossatorref3_InsertEntry m v3 v7).bind fun v8 =>
    some (.inl (v8, (W (v4 + 1))))
    else none
  else
    Option.map Sum.inr (
      S_glossatorref3_BuildIndex_j1 m v3)

noncomputable def S_glossatorref3_BuildIndex_l1 (m : Option Nat) (a0 : List G_QDocument) (v3 : List G_QIndexEntry) (v4 : Int) : Option (List G_QIndexEntry) := loopM m (fun (s : ((List G_QIndexEntry) × Int)) => S_glossatorref3_BuildIndex_b1 m a0 s.1 s.2) (v3, v4)

theorem f13_j1_ok {a0 : List G_QDocument} {v3 : List G_QIndexEntry} {m : Option Nat} {o : (List G_QIndexEntry)} (h : S_glossatorref3_BuildIndex_j1 m v3 = some o) :
    LWp Try.prog f13_lay 0 f13_c0 (f13_Q a0 o) [(3, .isl 3 (v3.map e_QIndexEntry) false)] [] 0 := by
  unfold S_glossatorref3_BuildIndex_j1 at h
  refine seqI ?_
  refine regI ?_
  refine retI ?_
  cases h
  exact And.intro trivial (And.intro rfl (Vw.same _ rfl))

theorem f13_L1_bok {a0 : List G_QDocument} {v3 : List G_QIndexEntry} {v4 : Int} {m : Option Nat} {o : ((List G_QIndexEntry) × Int) ⊕ (List G_QIndexEntry)} (h : S_glossatorref3_BuildIndex_b1 m a0 v3 v4 = some o) :
    LWp Try.prog f13_lay 0 f13_c1 (BodyQ 0 0 (f13_L1_env a0) (f13_L1_hp a0) (f13_L1_Q a0) o) [(3, .isl 3 (v3.map e_QIndexEntry) false), (6, .isl 3 (a0.map e_QDocument) false), (7, .int .i64 ((a0.map e_QDocument).length : Int)), (8, .int .i64 v4)] [] 0 := by
  unfold S_glossatorref3_BuildIndex_b1 at h
  refine seqI ?_
  refine regI ?_
  refine seqI ?_
  refine condI (v := (decide (v4 < ((a0.map e_QDocument).length : Int)))) rfl trivial (fun h9 => ?_) (fun h9 => ?_)
  · have h := ite_tt h9 h
    refine skipI ?_
    refine seqI ?_
    refine blockI ?_
    refine seqI ?_
    refine regI ?_
    obtain ⟨h10, h⟩ := ite_some h
    refine And.intro h10 ?_
    refine Exists.intro (e_QDocument (a0.getD v4.toNat default)) (And.intro (getD_enc e_QDocument _ _ (idx_ltL e_QDocument h10)) (And.intro (And.intro (idx_lt h10) (Nat.le_of_ble_eq_true rfl)) ?_))
    refine regI ?_
    obtain ⟨v7, h11, h⟩ := bind_some h
    refine PFn.call (f22_ok h11) (And.intro (Vw.same _ rfl) trivial) ?_
    show yops _ _ _ [(14, .agg [.str v7.f_Name, .int .u32 v7.f_Sum, .isl 1 (v7.f_Words.map e_str) false]), (13, .agg [.str ((a0.getD v4.toNat default).f_Name), .int .i64 ((a0.getD v4.toNat default).f_Version), .str ((a0.getD v4.toNat default).f_Text)]), (12, .isl 3 (v3.map e_QIndexEntry) false), (5, .ptr (0, 0) 0 0), (11, .agg [.str ((a0.getD v4.toNat default).f_Name), .int .i64 ((a0.getD v4.toNat default).f_Version), .str ((a0.getD v4.toNat default).f_Text)]), (10, .iptr 3 (a0.map e_QDocument) v4.toNat 0), (9, .bool (decide (v4 < ((a0.map e_QDocument).length : Int)))), (3, .isl 3 (v3.map e_QIndexEntry) false), (6, .isl 3 (a0.map e_QDocument) false), (7, .int .i64 ((a0.map e_QDocument).length : Int)), (8, .int .i64 v4)] _ _
    obtain ⟨v8, h12, h⟩ := bind_some h
    refine PFn.call (f21_ok h12) (And.intro (Vw.same _ rfl) (And.intro (Vw.same _ rfl) trivial)) ?_
    refine LWp.sim (e := [(3, .isl 3 (v8.map e_QIndexEntry) false), (6, .isl 3 (a0.map e_QDocument) false), (7, .int .i64 ((a0.map e_QDocument).length : Int)), (8, .int .i64 v4)]) (L := []) (n := 0) ?_ ?_
    · exact simI (M := []) rfl (And.intro (Vw.same _ rfl) (And.intro (Vw.same _ rfl) (And.intro (Vw.same _ rfl) (And.intro (Vw.same _ rfl) trivial)))) trivial
    refine regI ?_
    cases h
    exact And.intro rfl (simI (M := []) rfl (And.intro (Vw.same _ rfl) (And.intro (Vw.same _ rfl) (And.intro (Vw.same _ rfl) (And.intro (Vw.same _ rfl) trivial)))) trivial)
  · have h := ite_ff h9 h
    refine exitI ?_
    obtain ⟨o, hq, rfl⟩ := Option.map_eq_some_iff.1 h
    replace h := hq; clear hq
    refine And.intro nofun ?_
    refine LWp.sim ?_ (f13_j1_ok h)
    exact simI (M := []) rfl (And.intro (Vw.same _ rfl) trivial) trivial

theorem f13_L1_ok {a0 : List G_QDocument} {v3 : List G_QIndexEntry} {v4 : Int} {m : Option Nat} {o : (List G_QIndexEntry)} (h : S_glossatorref3_BuildIndex_l1 m a0 v3 v4 = some o) :
    LWp Try.prog f13_lay 0 (.loop f13_c1) (QBlock 0 (QSeq Try.prog f13_lay 0 f13_c0 (f13_Q a0 o))) [(3, .isl 3 (v3.map e_QIndexEntry) false), (6, .isl 3 (a0.map e_QDocument) false), (7, .int .i64 ((a0.map e_QDocument).length : Int)), (8, .int .i64 v4)] [] 0 :=
  LWp_loopM (m := m) (s := ((v3, v4) : ((List G_QIndexEntry) × Int))) (r := o) (fun (s : ((List G_QIndexEntry) × Int)) => S_glossatorref3_BuildIndex_b1 m a0 s.1 s.2) (f13_L1_env a0) (f13_L1_hp a0) (f13_L1_Q a0) (fun s o h => f13_L1_bok h) h

noncomputable def S_glossatorref3_BuildIndex (m : Option Nat) (a0 : List G_QDocument) : Option (List G_QIndexEntry) :=
  S_glossatorref3_BuildIndex_l1 m a0 [] 0

theorem f13_start {a0 : List G_QDocument} {m : Option Nat} {o : (List G_QIndexEntry)} (h : S_glossatorref3_BuildIndex m a0 = some o) : LWp Try.prog f13_lay 0 f13_c2 (f13_Q a0 o) (initEnv 0 [.isl 3 (a0.map e_QDocument) false]) [] 0 := by
  unfold S_glossatorref3_BuildIndex at h
  refine seqI ?_
  refine regI ?_
  refine seqI ?_
  refine regI ?_
  refine seqI ?_
  refine seqI ?_
  refine regI ?_
  refine blockI ?_
  refine LWp.sim ?_ (f13_L1_ok h)
  exact simI (M := []) rfl (And.intro (Vw.nilI _ _) (And.intro (Vw.same _ rfl) (And.intro (Vw.same _ rfl) (And.intro (Vw.same _ rfl) trivial)))) trivial

theorem f13_ok {a0 : List G_QDocument} {m : Option Nat} {o : (List G_QIndexEntry)} (h : S_glossatorref3_BuildIndex m a0 = some o) : PFn Try.prog 13 [.isl 3 (a0.map e_QDocument) false] (.isl 3 (o.map e_QIndexEntry) false) := PFn.ofFnW (L := f13_L) f13_low f13_fok (Nat.le_of_ble_eq_true rfl) rfl (f13_start h)

def f12_c1 : LCode := (.seq (.region [⟨some 14, .bin .lss (.t 13) (.t 12), none⟩])
 (.seq (.cond (.t 14)
  .skip
  (.exit 0))
 (.seq (.block 1
  (.seq (.region [⟨some 15, .mv (.t 13), none⟩,
    ⟨some 5, .mv (.t 15), none⟩])
  (.seq (.draw [⟨⟨some 16, .mv (.t 0), none⟩, []⟩,
    ⟨⟨some 17, .mv (.t 5), none⟩, []⟩,
    ⟨⟨some 18, .iaddr 3 (.t 16) (.t 17), none⟩, []⟩,
    ⟨⟨some 19, .faddr 0 (.t 18), none⟩, []⟩,
    ⟨⟨some 20, .load false 1 (.t 19), none⟩, []⟩,
    ⟨⟨some 21, .mv (.t 1), none⟩, []⟩,
    ⟨⟨some 22, .mv (.t 5), none⟩, []⟩,
    ⟨⟨some 23, .iaddr 3 (.t 21) (.t 22), none⟩, []⟩,
    ⟨⟨some 24, .faddr 0 (.t 23), none⟩, []⟩,
    ⟨⟨some 25, .load false 1 (.t 24), none⟩, []⟩,
    ⟨⟨some 26, .bin .neq (.t 20) (.t 25), none⟩, []⟩,
    ⟨⟨some 27, .mv (.t 26), none⟩, []⟩,
    ⟨⟨some 28, .mv (.t 0), some (27, false)⟩, []⟩,
    ⟨⟨some 29, .mv (.t 5), some (27, false)⟩, []⟩,
    ⟨⟨some 30, .iaddr 3 (.t 28) (.t 29), some (27, false)⟩, []⟩,
    ⟨⟨some 31, .faddr 1 (.t 30), some (27, false)⟩, []⟩,
    ⟨⟨some 32, .load false 1 (.t 31), some (27, false)⟩, []⟩,
    ⟨⟨some 33, .mv (.t 1), some (27, false)⟩, []⟩,
    ⟨⟨some 34, .mv (.t 5), some (27, false)⟩, []⟩,
    ⟨⟨some 35, .iaddr 3 (.t 33) (.t 34), some (27, false)⟩, []⟩,
    ⟨⟨some 36, .faddr 1 (.t 35), some (27, false)⟩, []⟩,
    ⟨⟨some 37, .load false 1 (.t 36), some (27, false)⟩, []⟩,
    ⟨⟨some 38, .bin .neq (.t 32) (.t 37), some (27, false)⟩, []⟩,
    ⟨⟨some 39, .pick (.t 27) (.c (.bool true)) (.t 38), none⟩, []⟩,
    ⟨⟨some 40, .mv (.t 39), none⟩, []⟩,
    ⟨⟨some 41, .mv (.t 0), some (40, false)⟩, []⟩,
    ⟨⟨some 42, .mv (.t 5), some (40, false)⟩, []⟩,
    ⟨⟨some 43, .iaddr 3 (.t 41) (.t 42), some (40, false)⟩, []⟩,
    ⟨⟨some 44, .faddr 2 (.t 43), some (40, false)⟩, []⟩,
    ⟨⟨some 45, .load false 1 (.t 44), some (40, false)⟩, []⟩,
    ⟨⟨some 46, .mv (.t 1), some (40, false)⟩, []⟩,
    ⟨⟨some 47, .mv (.t 5), some (40, false)⟩, []⟩,
    ⟨⟨some 48, .iaddr 3 (.t 46) (.t 47), some (40, false)⟩, []⟩,
    ⟨⟨some 49, .faddr 2 (.t 48), some (40, false)⟩, []⟩,
    ⟨⟨some 50, .load false 1 (.t 49), some (40, false)⟩, []⟩,
    ⟨⟨some 51, .call 9 [(.t 45), (.t 50)], some (40, false)⟩, []⟩,
    ⟨⟨some 52, .un .not (.t 51), some (40, false)⟩, []⟩,
    ⟨⟨some 53, .pick (.t 40) (.c (.bool true)) (.t 52), none⟩, []⟩])
  (.cond (.t 53)
   (.seq (.region [⟨some 4, .mv (.c (.bool false)), none⟩])
   .ret)
   .skip))))
 (.region [⟨some 54, .bin .add (.t 13) (.c (.int .i64 1)), none⟩,
   ⟨some 13, .mv (.t 54), none⟩]))))
def f12_c0 : LCode := (.seq (.region [⟨some 4, .mv (.c (.bool true)), none⟩])
 .ret)
def f12_c2 : LCode := (.seq (.region [⟨some 4, .mv (.c (.bool false)), none⟩])
 (.seq (.seq (.region [⟨some 6, .mv (.t 0), none⟩,
   ⟨some 7, .len false (.t 6), none⟩,
   ⟨some 8, .mv (.t 1), none⟩,
   ⟨some 9, .len false (.t 8), none⟩,
   ⟨some 10, .bin .neq (.t 7) (.t 9), none⟩])
 (.cond (.t 10)
  (.seq (.region [⟨some 4, .mv (.c (.bool false)), none⟩])
  .ret)
  .skip))
 (.seq (.seq (.region [⟨some 11, .mv (.t 0), none⟩,
   ⟨some 12, .len false (.t 11), none⟩,
   ⟨some 13, .mv (.c (.int .i64 0)), none⟩])
 (.block 0
  (.loop
   f12_c1)))
 f12_c0)))
def f12_lay : Lay := ⟨55, [], false⟩
def f12_res : List LRes := [.t 4]
def f12_L : LFn := ⟨2, f12_lay, f12_c2, f12_res⟩
theorem f12_low : lowFn Try.prog [] 12 = some f12_L := by kernel_rfl
theorem f12_fok : FnOk Try.prog 12 := ⟨_, Try.func12, rfl, rfl⟩
def f12_Q (a0 : List G_QIndexEntry) (a1 : List G_QIndexEntry) (o : Bool) : Exit → Env → AHeap → Nat → Prop := FinK f12_res (PureEnd (.bool o))

def f12_L1_env (a0 : List G_QIndexEntry) (a1 : List G_QIndexEntry) (s : Int) : Env := [(0, .isl 3 (a0.map e_QIndexEntry) false), (1, .isl 3 (a1.map e_QIndexEntry) false), (12, .int .i64 ((a0.map e_QIndexEntry).length : Int)), (13, .int .i64 s)]
def f12_L1_hp (a0 : List G_QIndexEntry) (a1 : List G_QIndexEntry) (s : Int) : AHeap := []
def f12_L1_Q (a0 : List G_QIndexEntry) (a1 : List G_QIndexEntry) (o : Bool) : Exit → Env → AHeap → Nat → Prop := (QBlock 0 (QSeq Try.prog f12_lay 0 f12_c0 (f12_Q a0 a1 o)))

noncomputable def S_glossatorref3_EqualIndexes_j1 (m : Option Nat) : Option Bool :=
  some true

noncomputable def S_glossatorref3_EqualIndexes_b1 (m : Option Nat) (a0 : List G_QIndexEntry) (a1 : List G_QIndexEntry) (v2 : Int) : Option (Int ⊕ Bool) :=
  if (decide (v2 < ((a0.map e_QIndexEntry).length : Int))) = true then
    if (0 : Int) ≤ v2 ∧ v2 < ((a0.map e_QIndexEntry).length : Int) then
    if (0 : Int) ≤ v2 ∧ v2 < ((a1.map e_QIndexEntry).length : Int) then
    if (((!((a0.getD v2.toNat default).f_Name == (a1.getD v2.toNat default).f_Name)) == false) = true → (0 : Int) ≤ v2 ∧ v2 < ((a0.map e_QIndexEntry).length : Int)) then
    if (((!((a0.getD v2.toNat default).f_Name == (a1.getD v2.toNat default).f_Name)) == false) = true → (0 : Int) ≤ v2 ∧ v2 < ((a1.map e_QIndexEntry).length : Int)) then
    if ((((!((a0.getD v2.toNat default).f_Name == (a1.getD v2.toNat default).f_Name)) || ((a0.getD v2.toNat default).f_Sum != (a1.getD v2.toNat default).f_Sum)) == false) = true → (0 : Int) ≤ v2 ∧ v2 < ((a0.map e_QIndexEntry).length : Int)) then
    if ((((!((a0.getD v2.toNat default).f_Name == (a1.getD v2.toNat default).f_Name)) || ((a0.getD v2.toNat default).f_Sum != (a1.getD v2.toNat default).f_Sum)) == false) = true → (0 : Int) ≤ v2 ∧ v2 < ((a1.map e_QIndexEntry).length : Int)) then
    (if (((!((a0.getD v2.toNat default).f_Name == (a1.getD v2.toNat default).f_Name)) || ((a0.getD v2.toNat default).f_Sum != (a1.getD v2.toNat default).f_Sum)) == false) = true then S_glossatorref3_Equal_string m ((a0.getD v2.toNat default).f_Words) ((a1.getD v2.toNat default).f_Words) else some default).bind fun v4 =>
    if (((!((a0.getD v2.toNat default).f_Name == (a1.getD v2.toNat default).f_Name)) || ((a0.getD v2.toNat default).f_Sum != (a1.getD v2.toNat default).f_Sum)) || (!v4)) = true then
      Option.map Sum.inr (
        some false)
    else
      some (.inl (W (v2 + 1)))
    else none
    else none
    else none
    else none
    else none
    else none
  else
    Option.map Sum.inr (
      S_glossatorref3_EqualIndexes_j1 m)

noncomputable def S_glossatorref3_EqualIndexes_l1 (m : Option Nat) (a0 : List G_QIndexEntry) (a1 : List G_QIndexEntry) (v2 : Int) : Option Bool := loopM m (fun (s : Int) => S_glossatorref3_EqualIndexes_b1 m a0 a1 s) v2

theorem f12_j1_ok {a0 : List G_QIndexEntry} {a1 : List G_QIndexEntry} {m : Option Nat} {o : Bool} (h : S_glossatorref3_EqualIndexes_j1 m = some o) :
    LWp Try.prog f12_lay 0 f12_c0 (f12_Q a0 a1 o) [] [] 0 := by
  unfold S_glossatorref3_EqualIndexes_j1 at h
  refine seqI ?_
  refine regI ?_
  refine retI ?_
  cases h
  exact And.intro trivial (And.intro rfl (Vw.same _ rfl))

theorem f12_L1_bok {a0 : List G_QIndexEntry} {a1 : List G_QIndexEntry} {v2 : Int} {m : Option Nat} {o : Int ⊕ Bool} (h : S_glossatorref3_EqualIndexes_b1 m a0 a1 v2 = some o) :
    LWp Try.prog f12_lay 0 f12_c1 (BodyQ 0 0 (f12_L1_env a0 a1) (f12_L1_hp a0 a1) (f12_L1_Q a0 a1) o) [(0, .isl 3 (a0.map e_QIndexEntry) false), (1, .isl 3 (a1.map e_QIndexEntry) false), (12, .int .i64 ((a0.map e_QIndexEntry).length : Int)), (13, .int .i64 v2)] [] 0 := by
  unfold S_glossatorref3_EqualIndexes_b1 at h
  refine seqI ?_
  refine regI ?_
  refine seqI ?_
  refine condI (v := (decide (v2 < ((a0.map e_QIndexEntry).length : Int)))) rfl trivial (fun h20 => ?_) (fun h20 => ?_)
  · have h := ite_tt h20 h
    refine skipI ?_
    refine seqI ?_
    refine blockI ?_
    refine seqI ?_
    refine regI ?_
    refine seqI ?_
    refine drawO rfl ?_
    obtain ⟨h21, h⟩ := ite_some h
    refine And.intro h21 ?_
    show yops _ _ _ [(18, .iptr 3 (a0.map e_QIndexEntry) v2.toNat 0), (17, .int .i64 v2), (16, .isl 3 (a0.map e_QIndexEntry) false), (5, .int .i64 v2), (15, .int .i64 v2), (14, .bool (decide (v2 < ((a0.map e_QIndexEntry).length : Int)))), (0, .isl 3 (a0.map e_QIndexEntry) false), (1, .isl 3 (a1.map e_QIndexEntry) false), (12, .int .i64 ((a0.map e_QIndexEntry).length : Int)), (13, .int .i64 v2)] _ _
    refine Exists.intro (e_QIndexEntry (a0.getD v2.toNat default)) (And.intro (getD_enc e_QIndexEntry _ _ (idx_ltL e_QIndexEntry h21)) (And.intro (And.intro (idx_lt h21) (Nat.le_of_ble_eq_true rfl)) ?_))
    obtain ⟨h22, h⟩ := ite_some h
    refine And.intro h22 ?_
    show yops _ _ _ [(23, .iptr 3 (a1.map e_QIndexEntry) v2.toNat 0), (22, .int .i64 v2), (21, .isl 3 (a1.map e_QIndexEntry) false), (20, .str ((a0.getD v2.toNat default).f_Name)), (19, .iptr 3 (a0.map e_QIndexEntry) v2.toNat 0), (18, .iptr 3 (a0.map e_QIndexEntry) v2.toNat 0), (17, .int .i64 v2), (16, .isl 3 (a0.map e_QIndexEntry) false), (5, .int .i64 v2), (15, .int .i64 v2), (14, .bool (decide (v2 < ((a0.map e_QIndexEntry).length : Int)))), (0, .isl 3 (a0.map e_QIndexEntry) false), (1, .isl 3 (a1.map e_QIndexEntry) false), (12, .int .i64 ((a0.map e_QIndexEntry).length : Int)), (13, .int .i64 v2)] _ _
    refine Exists.intro (e_QIndexEntry (a1.getD v2.toNat default)) (And.intro (getD_enc e_QIndexEntry _ _ (idx_ltL e_QIndexEntry h22)) (And.intro (And.intro (idx_lt h22) (Nat.le_of_ble_eq_true rfl)) ?_))
    obtain ⟨h23, h⟩ := ite_some h
    refine And.intro (fun hp => (And.intro (And.intro hp hp) (h23 hp))) ?_
    show yops _ _ _ [(30, .cnd ((!((a0.getD v2.toNat default).f_Name == (a1.getD v2.toNat default).f_Name)) == false) (.iptr 3 (a0.map e_QIndexEntry) v2.toNat 0)), (29, .cnd ((!((a0.getD v2.toNat default).f_Name == (a1.getD v2.toNat default).f_Name)) == false) (.int .i64 v2)), (28, .cnd ((!((a0.getD v2.toNat default).f_Name == (a1.getD v2.toNat default).f_Name)) == false) (.isl 3 (a0.map e_QIndexEntry) false)), (27, .bool (!((a0.getD v2.toNat default).f_Name == (a1.getD v2.toNat default).f_Name))), (26, .bool (!((a0.getD v2.toNat default).f_Name == (a1.getD v2.toNat default).f_Name))), (25, .str ((a1.getD v2.toNat default).f_Name)), (24, .iptr 3 (a1.map e_QIndexEntry) v2.toNat 0), (23, .iptr 3 (a1.map e_QIndexEntry) v2.toNat 0), (22, .int .i64 v2), (21, .isl 3 (a1.map e_QIndexEntry) false), (20, .str ((a0.getD v2.toNat default).f_Name)), (19, .iptr 3 (a0.map e_QIndexEntry) v2.toNat 0), (18, .iptr 3 (a0.map e_QIndexEntry) v2.toNat 0), (17, .int .i64 v2), (16, .isl 3 (a0.map e_QIndexEntry) false), (5, .int .i64 v2), (15, .int .i64 v2), (14, .bool (decide (v2 < ((a0.map e_QIndexEntry).length : Int)))), (0, .isl 3 (a0.map e_QIndexEntry) false), (1, .isl 3 (a1.map e_QIndexEntry) false), (12, .int .i64 ((a0.map e_QIndexEntry).length : Int)), (13, .int .i64 v2)] _ _
    refine And.intro (fun hp => hp) ?_
    refine Exists.intro (e_QIndexEntry (a0.getD v2.toNat default)) (And.intro (fun hp => And.intro (getD_enc e_QIndexEntry _ _ (idx_ltL e_QIndexEntry (h23 hp))) (And.intro hp (And.intro (idx_lt (h23 hp)) (Nat.le_of_ble_eq_true rfl)))) ?_)
    obtain ⟨h24, h⟩ := ite_some h
    refine And.intro (fun hp => (And.intro (And.intro hp hp) (h24 hp))) ?_
    show yops _ _ _ [(35, .cnd ((!((a0.getD v2.toNat default).f_Name == (a1.getD v2.toNat default).f_Name)) == false) (.iptr 3 (a1.map e_QIndexEntry) v2.toNat 0)), (34, .cnd ((!((a0.getD v2.toNat default).f_Name == (a1.getD v2.toNat default).f_Name)) == false) (.int .i64 v2)), (33, .cnd ((!((a0.getD v2.toNat default).f_Name == (a1.getD v2.toNat default).f_Name)) == false) (.isl 3 (a1.map e_QIndexEntry) false)), (32, .cnd ((!((a0.getD v2.toNat default).f_Name == (a1.getD v2.toNat default).f_Name)) == false) (.int .u32 ((a0.getD v2.toNat default).f_Sum))), (31, .cnd ((!((a0.getD v2.toNat default).f_Name == (a1.getD v2.toNat default).f_Name)) == false) (.iptr 3 (a0.map e_QIndexEntry) v2.toNat 1)), (30, .cnd ((!((a0.getD v2.toNat default).f_Name == (a1.getD v2.toNat default).f_Name)) == false) (.iptr 3 (a0.map e_QIndexEntry) v2.toNat 0)), (29, .cnd ((!((a0.getD v2.toNat default).f_Name == (a1.getD v2.toNat default).f_Name)) == false) (.int .i64 v2)), (28, .cnd ((!((a0.getD v2.toNat default).f_Name == (a1.getD v2.toNat default).f_Name)) == false) (.isl 3 (a0.map e_QIndexEntry) false)), (27, .bool (!((a0.getD v2.toNat default).f_Name == (a1.getD v2.toNat default).f_Name))), (26, .bool (!((a0.getD v2.toNat default).f_Name == (a1.getD v2.toNat default).f_Name))), (25, .str ((a1.getD v2.toNat default).f_Name)), (24, .iptr 3 (a1.map e_QIndexEntry) v2.toNat 0), (23, .iptr 3 (a1.map e_QIndexEntry) v2.toNat 0), (22, .int .i64 v2), (21, .isl 3 (a1.map e_QIndexEntry) false), (20, .str ((a0.getD v2.toNat default).f_Name)), (19, .iptr 3 (a0.map e_QIndexEntry) v2.toNat 0), (18, .iptr 3 (a0.map e_QIndexEntry) v2.toNat 0), (17, .int .i64 v2), (16, .isl 3 (a0.map e_QIndexEntry) false), (5, .int .i64 v2), (15, .int .i64 v2), (14, .bool (decide (v2 < ((a0.map e_QIndexEntry).length : Int)))), (0, .isl 3 (a0.map e_QIndexEntry) false), (1, .isl 3 (a1.map e_QIndexEntry) false), (12, .int .i64 ((a0.map e_QIndexEntry).length : Int)), (13, .int .i64 v2)] _ _
    refine And.intro (fun hp => hp) ?_
    refine Exists.intro (e_QIndexEntry (a1.getD v2.toNat default)) (And.intro (fun hp => And.intro (getD_enc e_QIndexEntry _ _ (idx_ltL e_QIndexEntry (h24 hp))) (And.intro hp (And.intro (idx_lt (h24 hp)) (Nat.le_of_ble_eq_true rfl)))) ?_)
    refine And.intro (fun hp => (And.intro hp hp)) ?_
    refine And.intro (fun hc => (bqf hc)) ?_
    obtain ⟨h25, h⟩ := ite_some h
    refine And.intro (fun hp => (And.intro (And.intro hp hp) (h25 hp))) ?_
    show yops _ _ _ [(43, .cnd (((!((a0.getD v2.toNat default).f_Name == (a1.getD v2.toNat default).f_Name)) || ((a0.getD v2.toNat default).f_Sum != (a1.getD v2.toNat default).f_Sum)) == false) (.iptr 3 (a0.map e_QIndexEntry) v2.toNat 0)), (42, .cnd (((!((a0.getD v2.toNat default).f_Name == (a1.getD v2.toNat default).f_Name)) || ((a0.getD v2.toNat default).f_Sum != (a1.getD v2.toNat default).f_Sum)) == false) (.int .i64 v2)), (41, .cnd (((!((a0.getD v2.toNat default).f_Name == (a1.getD v2.toNat default).f_Name)) || ((a0.getD v2.toNat default).f_Sum != (a1.getD v2.toNat default).f_Sum)) == false) (.isl 3 (a0.map e_QIndexEntry) false)), (40, .bool ((!((a0.getD v2.toNat default).f_Name == (a1.getD v2.toNat default).f_Name)) || ((a0.getD v2.toNat default).f_Sum != (a1.getD v2.toNat default).f_Sum))), (39, .bool ((!((a0.getD v2.toNat default).f_Name == (a1.getD v2.toNat default).f_Name)) || ((a0.getD v2.toNat default).f_Sum != (a1.getD v2.toNat default).f_Sum))), (38, .cnd ((!((a0.getD v2.toNat default).f_Name == (a1.getD v2.toNat default).f_Name)) == false) (.bool ((a0.getD v2.toNat default).f_Sum != (a1.getD v2.toNat default).f_Sum))), (37, .cnd ((!((a0.getD v2.toNat default).f_Name == (a1.getD v2.toNat default).f_Name)) == false) (.int .u32 ((a1.getD v2.toNat default).f_Sum))), (36, .cnd ((!((a0.getD v2.toNat default).f_Name == (a1.getD v2.toNat default).f_Name)) == false) (.iptr 3 (a1.map e_QIndexEntry) v2.toNat 1)), (35, .cnd ((!((a0.getD v2.toNat default).f_Name == (a1.getD v2.toNat default).f_Name)) == false) (.iptr 3 (a1.map e_QIndexEntry) v2.toNat 0)), (34, .cnd ((!((a0.getD v2.toNat default).f_Name == (a1.getD v2.toNat default).f_Name)) == false) (.int .i64 v2)), (33, .cnd ((!((a0.getD v2.toNat default).f_Name == (a1.getD v2.toNat default).f_Name)) == false) (.isl 3 (a1.map e_QIndexEntry) false)), (32, .cnd ((!((a0.getD v2.toNat default).f_Name == (a1.getD v2.toNat default).f_Name)) == false) (.int .u32 ((a0.getD v2.toNat default).f_Sum))), (31, .cnd ((!((a0.getD v2.toNat default).f_Name == (a1.getD v2.toNat default).f_Name)) == false) (.iptr 3 (a0.map e_QIndexEntry) v2.toNat 1)), (30, .cnd ((!((a0.getD v2.toNat default).f_Name == (a1.getD v2.toNat default).f_Name)) == false) (.iptr 3 (a0.map e_QIndexEntry) v2.toNat 0)), (29, .cnd ((!((a0.getD v2.toNat default).f_Name == (a1.getD v2.toNat default).f_Name)) == false) (.int .i64 v2)), (28, .cnd ((!((a0.getD v2.toNat default).f_Name == (a1.getD v2.toNat default).f_Name)) == false) (.isl 3 (a0.map e_QIndexEntry) false)), (27, .bool (!((a0.getD v2.toNat default).f_Name == (a1.getD v2.toNat default).f_Name))), (26, .bool (!((a0.getD v2.toNat default).f_Name == (a1.getD v2.toNat default).f_Name))), (25, .str ((a1.getD v2.toNat default).f_Name)), (24, .iptr 3 (a1.map e_QIndexEntry) v2.toNat 0), (23, .iptr 3 (a1.map e_QIndexEntry) v2.toNat 0), (22, .int .i64 v2), (21, .isl 3 (a1.map e_QIndexEntry) false), (20, .str ((a0.getD v2.toNat default).f_Name)), (19, .iptr 3 (a0.map e_QIndexEntry) v2.toNat 0), (18, .iptr 3 (a0.map e_QIndexEntry) v2.toNat 0), (17, .int .i64 v2), (16, .isl 3 (a0.map e_QIndexEntry) false), (5, .int .i64 v2), (15, .int .i64 v2), (14, .bool (decide (v2 < ((a0.map e_QIndexEntry).length : Int)))), (0, .isl 3 (a0.map e_QIndexEntry) false), (1, .isl 3 (a1.map e_QIndexEntry) false), (12, .int .i64 ((a0.map e_QIndexEntry).length : Int)), (13, .int .i64 v2)] _ _
    refine And.intro (fun hp => hp) ?_
    refine Exists.intro (e_QIndexEntry (a0.getD v2.toNat default)) (And.intro (fun hp => And.intro (getD_enc e_QIndexEntry _ _ (idx_ltL e_QIndexEntry (h25 hp))) (And.intro hp (And.intro (idx_lt (h25 hp)) (Nat.le_of_ble_eq_true rfl)))) ?_)
    obtain ⟨h26, h⟩ := ite_some h
    refine And.intro (fun hp => (And.intro (And.intro hp hp) (h26 hp))) ?_
    show yops _ _ _ [(48, .cnd (((!((a0.getD v2.toNat default).f_Name == (a1.getD v2.toNat default).f_Name)) || ((a0.getD v2.toNat default).f_Sum != (a1.getD v2.toNat default).f_Sum)) == false) (.iptr 3 (a1.map e_QIndexEntry) v2.toNat 0)), (47, .cnd (((!((a0.getD v2.toNat default).f_Name == (a1.getD v2.toNat default).f_Name)) || ((a0.getD v2.toNat default).f_Sum != (a1.getD v2.toNat default).f_Sum)) == false) (.int .i64 v2)), (46, .cnd (((!((a0.getD v2.toNat default).f_Name == (a1.getD v2.toNat default).f_Name)) || ((a0.getD v2.toNat default).f_Sum != (a1.getD v2.toNat default).f_Sum)) == false) (.isl 3 (a1.map e_QIndexEntry) false)), (45, .cnd (((!((a0.getD v2.toNat default).f_Name == (a1.getD v2.toNat default).f_Name)) || ((a0.getD v2.toNat default).f_Sum != (a1.getD v2.toNat default).f_Sum)) == false) (.isl 1 (((a0.getD v2.toNat default).f_Words).map e_str) false)), (44, .cnd (((!((a0.getD v2.toNat default).f_Name == (a1.getD v2.toNat default).f_Name)) || ((a0.getD v2.toNat default).f_Sum != (a1.getD v2.toNat default).f_Sum)) == false) (.iptr 3 (a0.map e_QIndexEntry) v2.toNat 2)), (43, .cnd (((!((a0.getD v2.toNat default).f_Name == (a1.getD v2.toNat default).f_Name)) || ((a0.getD v2.toNat default).f_Sum != (a1.getD v2.toNat default).f_Sum)) == false) (.iptr 3 (a0.map e_QIndexEntry) v2.toNat 0)), (42, .cnd (((!((a0.getD v2.toNat default).f_Name == (a1.getD v2.toNat default).f_Name)) || ((a0.getD v2.toNat default).f_Sum != (a1.getD v2.toNat default).f_Sum)) == false) (.int .i64 v2)), (41, .cnd (((!((a0.getD v2.toNat default).f_Name == (a1.getD v2.toNat default).f_Name)) || ((a0.getD v2.toNat default).f_Sum != (a1.getD v2.toNat default).f_Sum)) == false) (.isl 3 (a0.map e_QIndexEntry) false)), (40, .bool ((!((a0.getD v2.toNat default).f_Name == (a1.getD v2.toNat default).f_Name)) || ((a0.getD v2.toNat default).f_Sum != (a1.getD v2.toNat default).f_Sum))), (39, .bool ((!((a0.getD v2.toNat default).f_Name == (a1.getD v2.toNat default).f_Name)) || ((a0.getD v2.toNat default).f_Sum != (a1.getD v2.toNat default).f_Sum))), (38, .cnd ((!((a0.getD v2.toNat default).f_Name == (a1.getD v2.toNat default).f_Name)) == false) (.bool ((a0.getD v2.toNat default).f_Sum != (a1.getD v2.toNat default).f_Sum))), (37, .cnd ((!((a0.getD v2.toNat default).f_Name == (a1.getD v2.toNat default).f_Name)) == false) (.int .u32 ((a1.getD v2.toNat default).f_Sum))), (36, .cnd ((!((a0.getD v2.toNat default).f_Name == (a1.getD v2.toNat default).f_Name)) == false) (.iptr 3 (a1.map e_QIndexEntry) v2.toNat 1)), (35, .cnd ((!((a0.getD v2.toNat default).f_Name == (a1.getD v2.toNat default).f_Name)) == false) (.iptr 3 (a1.map e_QIndexEntry) v2.toNat 0)), (34, .cnd ((!((a0.getD v2.toNat default).f_Name == (a1.getD v2.toNat default).f_Name)) == false) (.int .i64 v2)), (33, .cnd ((!((a0.getD v2.toNat default).f_Name == (a1.getD v2.toNat default).f_Name)) == false) (.isl 3 (a1.map e_QIndexEntry) false)), (32, .cnd ((!((a0.getD v2.toNat default).f_Name == (a1.getD v2.toNat default).f_Name)) == false) (.int .u32 ((a0.getD v2.toNat default).f_Sum))), (31, .cnd ((!((a0.getD v2.toNat default).f_Name == (a1.getD v2.toNat default).f_Name)) == false) (.iptr 3 (a0.map e_QIndexEntry) v2.toNat 1)), (30, .cnd ((!((a0.getD v2.toNat default).f_Name == (a1.getD v2.toNat default).f_Name)) == false) (.iptr 3 (a0.map e_QIndexEntry) v2.toNat 0)), (29, .cnd ((!((a0.getD v2.toNat default).f_Name == (a1.getD v2.toNat default).f_Name)) == false) (.int .i64 v2)), (28, .cnd ((!((a0.getD v2.toNat default).f_Name == (a1.getD v2.toNat default).f_Name)) == false) (.isl 3 (a0.map e_QIndexEntry) false)), (27, .bool (!((a0.getD v2.toNat default).f_Name == (a1.getD v2.toNat default).f_Name))), (26, .bool (!((a0.getD v2.toNat default).f_Name == (a1.getD v2.toNat default).f_Name))), (25, .str ((a1.getD v2.toNat default).f_Name)), (24, .iptr 3 (a1.map e_QIndexEntry) v2.toNat 0), (23, .iptr 3 (a1.map e_QIndexEntry) v2.toNat 0), (22, .int .i64 v2), (21, .isl 3 (a1.map e_QIndexEntry) false), (20, .str ((a0.getD v2.toNat default).f_Name)), (19, .iptr 3 (a0.map e_QIndexEntry) v2.toNat 0), (18, .iptr 3 (a0.map e_QIndexEntry) v2.toNat 0), (17, .int .i64 v2), (16, .isl 3 (a0.map e_QIndexEntry) false), (5, .int .i64 v2), (15, .int .i64 v2), (14, .bool (decide (v2 < ((a0.map e_QIndexEntry).length : Int)))), (0, .isl 3 (a0.map e_QIndexEntry) false), (1, .isl 3 (a1.map e_QIndexEntry) false), (12, .int .i64 ((a0.map e_QIndexEntry).length : Int)), (13, .int .i64 v2)] _ _
    refine And.intro (fun hp => hp) ?_
    refine Exists.intro (e_QIndexEntry (a1.getD v2.toNat default)) (And.intro (fun hp => And.intro (getD_enc e_QIndexEntry _ _ (idx_ltL e_QIndexEntry (h26 hp))) (And.intro hp (And.intro (idx_lt (h26 hp)) (Nat.le_of_ble_eq_true rfl)))) ?_)
    obtain ⟨v4, h27, h⟩ := bind_some h
    refine Or.inl (Exists.intro (.bool v4) (And.intro (fun hp => And.intro (And.intro hp hp) (PFn.call (f9_ok (ite_tt hp h27)) (And.intro (Vw.same _ rfl) (And.intro (Vw.same _ rfl) trivial)) (And.intro rfl (And.intro rfl rfl)))) ?_))
    refine And.intro (fun hp => hp) ?_
    refine And.intro (fun hc => (bqf hc)) ?_
    show yops _ _ _ [(53, .bool (((!((a0.getD v2.toNat default).f_Name == (a1.getD v2.toNat default).f_Name)) || ((a0.getD v2.toNat default).f_Sum != (a1.getD v2.toNat default).f_Sum)) || (!v4))), (52, .cnd (((!((a0.getD v2.toNat default).f_Name == (a1.getD v2.toNat default).f_Name)) || ((a0.getD v2.toNat default).f_Sum != (a1.getD v2.toNat default).f_Sum)) == false) (.bool (!v4))), (51, .cnd (((!((a0.getD v2.toNat default).f_Name == (a1.getD v2.toNat default).f_Name)) || ((a0.getD v2.toNat default).f_Sum != (a1.getD v2.toNat default).f_Sum)) == false) (.bool v4)), (50, .cnd (((!((a0.getD v2.toNat default).f_Name == (a1.getD v2.toNat default).f_Name)) || ((a0.getD v2.toNat default).f_Sum != (a1.getD v2.toNat default).f_Sum)) == false) (.isl 1 (((a1.getD v2.toNat default).f_Words).map e_str) false)), (49, .cnd (((!((a0.getD v2.toNat default).f_Name == (a1.getD v2.toNat default).f_Name)) || ((a0.getD v2.toNat default).f_Sum != (a1.getD v2.toNat default).f_Sum)) == false) (.iptr 3 (a1.map e_QIndexEntry) v2.toNat 2)), (48, .cnd (((!((a0.getD v2.toNat default).f_Name == (a1.getD v2.toNat default).f_Name)) || ((a0.getD v2.toNat default).f_Sum != (a1.getD v2.toNat default).f_Sum)) == false) (.iptr 3 (a1.map e_QIndexEntry) v2.toNat 0)), (47, .cnd (((!((a0.getD v2.toNat default).f_Name == (a1.getD v2.toNat default).f_Name)) || ((a0.getD v2.toNat default).f_Sum != (a1.getD v2.toNat default).f_Sum)) == false) (.int .i64 v2)), (46, .cnd (((!((a0.getD v2.toNat default).f_Name == (a1.getD v2.toNat default).f_Name)) || ((a0.getD v2.toNat default).f_Sum != (a1.getD v2.toNat default).f_Sum)) == false) (.isl 3 (a1.map e_QIndexEntry) false)), (45, .cnd (((!((a0.getD v2.toNat default).f_Name == (a1.getD v2.toNat default).f_Name)) || ((a0.getD v2.toNat default).f_Sum != (a1.getD v2.toNat default).f_Sum)) == false) (.isl 1 (((a0.getD v2.toNat default).f_Words).map e_str) false)), (44, .cnd (((!((a0.getD v2.toNat default).f_Name == (a1.getD v2.toNat default).f_Name)) || ((a0.getD v2.toNat default).f_Sum != (a1.getD v2.toNat default).f_Sum)) == false) (.iptr 3 (a0.map e_QIndexEntry) v2.toNat 2)), (43, .cnd (((!((a0.getD v2.toNat default).f_Name == (a1.getD v2.toNat default).f_Name)) || ((a0.getD v2.toNat default).f_Sum != (a1.getD v2.toNat default).f_Sum)) == false) (.iptr 3 (a0.map e_QIndexEntry) v2.toNat 0)), (42, .cnd (((!((a0.getD v2.toNat default).f_Name == (a1.getD v2.toNat default).f_Name)) || ((a0.getD v2.toNat default).f_Sum != (a1.getD v2.toNat default).f_Sum)) == false) (.int .i64 v2)), (41, .cnd (((!((a0.getD v2.toNat default).f_Name == (a1.getD v2.toNat default).f_Name)) || ((a0.getD v2.toNat default).f_Sum != (a1.getD v2.toNat default).f_Sum)) == false) (.isl 3 (a0.map e_QIndexEntry) false)), (40, .bool ((!((a0.getD v2.toNat default).f_Name == (a1.getD v2.toNat default).f_Name)) || ((a0.getD v2.toNat default).f_Sum != (a1.getD v2.toNat default).f_Sum))), (39, .bool ((!((a0.getD v2.toNat default).f_Name == (a1.getD v2.toNat default).f_Name)) || ((a0.getD v2.toNat default).f_Sum != (a1.getD v2.toNat default).f_Sum))), (38, .cnd ((!((a0.getD v2.toNat default).f_Name == (a1.getD v2.toNat default).f_Name)) == false) (.bool ((a0.getD v2.toNat default).f_Sum != (a1.getD v2.toNat default).f_Sum))), (37, .cnd ((!((a0.getD v2.toNat default).f_Name == (a1.getD v2.toNat default).f_Name)) == false) (.int .u32 ((a1.getD v2.toNat default).f_Sum))), (36, .cnd ((!((a0.getD v2.toNat default).f_Name == (a1.getD v2.toNat default).f_Name)) == false) (.iptr 3 (a1.map e_QIndexEntry) v2.toNat 1)), (35, .cnd ((!((a0.getD v2.toNat default).f_Name == (a1.getD v2.toNat default).f_Name)) == false) (.iptr 3 (a1.map e_QIndexEntry) v2.toNat 0)), (34, .cnd ((!((a0.getD v2.toNat default).f_Name == (a1.getD v2.toNat default).f_Name)) == false) (.int .i64 v2)), (33, .cnd ((!((a0.getD v2.toNat default).f_Name == (a1.getD v2.toNat default).f_Name)) == false) (.isl 3 (a1.map e_QIndexEntry) false)), (32, .cnd ((!((a0.getD v2.toNat default).f_Name == (a1.getD v2.toNat default).f_Name)) == false) (.int .u32 ((a0.getD v2.toNat default).f_Sum))), (31, .cnd ((!((a0.getD v2.toNat default).f_Name == (a1.getD v2.toNat default).f_Name)) == false) (.iptr 3 (a0.map e_QIndexEntry) v2.toNat 1)), (30, .cnd ((!((a0.getD v2.toNat default).f_Name == (a1.getD v2.toNat default).f_Name)) == false) (.iptr 3 (a0.map e_QIndexEntry) v2.toNat 0)), (29, .cnd ((!((a0.getD v2.toNat default).f_Name == (a1.getD v2.toNat default).f_Name)) == false) (.int .i64 v2)), (28, .cnd ((!((a0.getD v2.toNat default).f_Name == (a1.getD v2.toNat default).f_Name)) == false) (.isl 3 (a0.map e_QIndexEntry) false)), (27, .bool (!((a0.getD v2.toNat default).f_Name == (a1.getD v2.toNat default).f_Name))), (26, .bool (!((a0.getD v2.toNat default).f_Name == (a1.getD v2.toNat default).f_Name))), (25, .str ((a1.getD v2.toNat default).f_Name)), (24, .iptr 3 (a1.map e_QIndexEntry) v2.toNat 0), (23, .iptr 3 (a1.map e_QIndexEntry) v2.toNat 0), (22, .int .i64 v2), (21, .isl 3 (a1.map e_QIndexEntry) false), (20, .str ((a0.getD v2.toNat default).f_Name)), (19, .iptr 3 (a0.map e_QIndexEntry) v2.toNat 0), (18, .iptr 3 (a0.map e_QIndexEntry) v2.toNat 0), (17, .int .i64 v2), (16, .isl 3 (a0.map e_QIndexEntry) false), (5, .int .i64 v2), (15, .int .i64 v2), (14, .bool (decide (v2 < ((a0.map e_QIndexEntry).length : Int)))), (0, .isl 3 (a0.map e_QIndexEntry) false), (1, .isl 3 (a1.map e_QIndexEntry) false), (12, .int .i64 ((a0.map e_QIndexEntry).length : Int)), (13, .int .i64 v2)] _ _
    refine LWp.sim (e := [(0, .isl 3 (a0.map e_QIndexEntry) false), (1, .isl 3 (a1.map e_QIndexEntry) false), (12, .int .i64 ((a0.map e_QIndexEntry).length : Int)), (13, .int .i64 v2), (53, .bool (((!((a0.getD v2.toNat default).f_Name == (a1.getD v2.toNat default).f_Name)) || ((a0.getD v2.toNat default).f_Sum != (a1.getD v2.toNat default).f_Sum)) || (!v4)))]) (L := []) (n := 0) ?_ ?_
    · exact simI (M := []) rfl (And.intro (Vw.same _ rfl) (And.intro (Vw.same _ rfl) (And.intro (Vw.same _ rfl) (And.intro (Vw.same _ rfl) (And.intro (Vw.same _ rfl) trivial))))) trivial
    refine condI (v := (((!((a0.getD v2.toNat default).f_Name == (a1.getD v2.toNat default).f_Name)) || ((a0.getD v2.toNat default).f_Sum != (a1.getD v2.toNat default).f_Sum)) || (!v4))) rfl trivial (fun h28 => ?_) (fun h28 => ?_)
    · have h := ite_tt h28 h
      refine seqI ?_
      refine regI ?_
      refine retI ?_
      obtain ⟨o, hq, rfl⟩ := Option.map_eq_some_iff.1 h
      replace h := hq; clear hq
      refine And.intro nofun ?_
      cases h
      exact And.intro trivial (And.intro rfl (Vw.same _ rfl))
    · have h := ite_ff h28 h
      refine skipI ?_
      refine regI ?_
      cases h
      exact And.intro rfl (simI (M := []) rfl (And.intro (Vw.same _ rfl) (And.intro (Vw.same _ rfl) (And.intro (Vw.same _ rfl) (And.intro (Vw.same _ rfl) trivial)))) trivial)
  · have h := ite_ff h20 h
    refine exitI ?_
    obtain ⟨o, hq, rfl⟩ := Option.map_eq_some_iff.1 h
    replace h := hq; clear hq
    refine And.intro nofun ?_
    refine LWp.sim ?_ (f12_j1_ok h)
    exact simI (M := []) rfl trivial trivial

theorem f12_L1_ok {a0 : List G_QIndexEntry} {a1 : List G_QIndexEntry} {v2 : Int} {m : Option Nat} {o : Bool} (h : S_glossatorref3_EqualIndexes_l1 m a0 a1 v2 = some o) :
    LWp Try.prog f12_lay 0 (.loop f12_c1) (QBlock 0 (QSeq Try.prog f12_lay 0 f12_c0 (f12_Q a0 a1 o))) [(0, .isl 3 (a0.map e_QIndexEntry) false), (1, .isl 3 (a1.map e_QIndexEntry) false), (12, .int .i64 ((a0.map e_QIndexEntry).length : Int)), (13, .int .i64 v2)] [] 0 :=
  LWp_loopM (m := m) (s := (v2 : Int)) (r := o) (fun (s : Int) => S_glossatorref3_EqualIndexes_b1 m a0 a1 s) (f12_L1_env a0 a1) (f12_L1_hp a0 a1) (f12_L1_Q a0 a1) (fun s o h => f12_L1_bok h) h

noncomputable def S_glossatorref3_EqualIndexes (m : Option Nat) (a0 : List G_QIndexEntry) (a1 : List G_QIndexEntry) : Option Bool :=
  if (((a0.map e_QIndexEntry).length : Int) != ((a1.map e_QIndexEntry).length : Int)) = true then
    some false
  else
    S_glossatorref3_EqualIndexes_l1 m a0 a1 0

theorem f12_start {a0 : List G_QIndexEntry} {a1 : List G_QIndexEntry} {m : Option Nat} {o : Bool} (h : S_glossatorref3_EqualIndexes m a0 a1 = some o) : LWp Try.prog f12_lay 0 f12_c2 (f12_Q a0 a1 o) (initEnv 0 [.isl 3 (a0.map e_QIndexEntry) false, .isl 3 (a1.map e_QIndexEntry) false]) [] 0 := by
  unfold S_glossatorref3_EqualIndexes at h
  refine seqI ?_
  refine regI ?_
  refine seqI ?_
  refine seqI ?_
  refine regI ?_
  refine condI (v := (((a0.map e_QIndexEntry).length : Int) != ((a1.map e_QIndexEntry).length : Int))) rfl trivial (fun h1 => ?_) (fun h1 => ?_)
  · have h := ite_tt h1 h
    refine seqI ?_
    refine regI ?_
    refine retI ?_
    cases h
    exact And.intro trivial (And.intro rfl (Vw.same _ rfl))
  · have h := ite_ff h1 h
    refine skipI ?_
    refine seqI ?_
    refine seqI ?_
    refine regI ?_
    refine LWp.sim (e := [(0, .isl 3 (a0.map e_QIndexEntry) false), (1, .isl 3 (a1.map e_QIndexEntry) false), (12, .int .i64 ((a0.map e_QIndexEntry).length : Int)), (13, .int .i64 0)]) (L := []) (n := 0) ?_ ?_
    · exact simI (M := []) rfl (And.intro (Vw.same _ rfl) (And.intro (Vw.same _ rfl) (And.intro (Vw.same _ rfl) (And.intro (Vw.same _ rfl) trivial)))) trivial
    refine blockI ?_
    refine LWp.sim ?_ (f12_L1_ok h)
    exact simI (M := []) rfl (And.intro (Vw.same _ rfl) (And.intro (Vw.same _ rfl) (And.intro (Vw.same _ rfl) (And.intro (Vw.same _ rfl) trivial)))) trivial

theorem f12_ok {a0 : List G_QIndexEntry} {a1 : List G_QIndexEntry} {m : Option Nat} {o : Bool} (h : S_glossatorref3_EqualIndexes m a0 a1 = some o) : PFn Try.prog 12 [.isl 3 (a0.map e_QIndexEntry) false, .isl 3 (a1.map e_QIndexEntry) false] (.bool o) := PFn.ofFnW (L := f12_L) f12_low f12_fok (Nat.le_of_ble_eq_true rfl) rfl (f12_start h)

def f3_c0 : LCode := (.seq (.region [⟨some 4, .mv (.c (.bool false)), none⟩])
 (.seq (.seq (.region [⟨some 8, .call 6 [], none⟩,
   ⟨some 9, .un .not (.t 8), none⟩])
 (.cond (.t 9)
  (.seq (.region [⟨some 4, .mv (.c (.bool false)), none⟩])
  .ret)
  .skip))
 (.seq (.region [⟨some 10, .mv (.t 1), none⟩,
   ⟨some 11, .mv (.t 1), none⟩,
   ⟨some 12, .len true (.t 11), none⟩,
   ⟨some 13, .mnx false [(.t 12), (.c (.int .i64 300))], none⟩,
   ⟨some 14, .slStr (.t 10) none (some (.t 13)), none⟩,
   ⟨some 1, .mv (.t 14), none⟩])
 (.seq (.region [⟨some 16, .mv (.t 0), none⟩,
   ⟨some 17, .call 7 [(.t 16)], none⟩,
   ⟨some 15, .mv (.t 17), none⟩,
   ⟨some 18, .ext 0 (.t 15), none⟩,
   ⟨some 19, .ext 1 (.t 15), none⟩,
   ⟨some 5, .mv (.t 18), none⟩,
   ⟨some 6, .mv (.t 19), none⟩])
 (.seq (.region [⟨some 20, .mv (.t 0), none⟩,
   ⟨some 21, .call 8 [(.t 20)], none⟩,
   ⟨some 7, .mv (.t 21), none⟩])
 (.seq (.seq (.region [⟨some 22, .mv (.t 1), none⟩,
   ⟨some 23, .call 10 [(.t 22)], none⟩,
   ⟨some 24, .mv (.t 1), none⟩,
   ⟨some 25, .call 11 [(.t 24)], none⟩,
   ⟨some 26, .call 9 [(.t 23), (.t 25)], none⟩,
   ⟨some 27, .un .not (.t 26), none⟩,
   ⟨some 28, .mv (.t 27), none⟩,
   ⟨some 29, .mv (.t 6), some (28, false)⟩,
   ⟨some 30, .mv (.t 7), some (28, false)⟩,
   ⟨some 31, .bin .neq (.t 29) (.t 30), some (28, false)⟩,
   ⟨some 32, .pick (.t 28) (.c (.bool true)) (.t 31), none⟩])
 (.cond (.t 32)
  (.seq (.region [⟨some 4, .mv (.c (.bool false)), none⟩])
  .ret)
  .skip))
 (.seq (.seq (.region [⟨some 33, .mv (.t 7), none⟩,
   ⟨some 34, .bin .neq (.t 33) (.c (.int .i64 0)), none⟩])
 (.cond (.t 34)
  (.seq (.region [⟨some 35, .call 6 [], none⟩,
    ⟨some 36, .mv (.t 35), none⟩,
    ⟨some 37, .mv (.t 5), some (36, true)⟩,
    ⟨some 38, .len false (.t 37), some (36, true)⟩,
    ⟨some 39, .bin .eql (.t 38) (.c (.int .i64 0)), some (36, true)⟩,
    ⟨some 40, .pick (.t 36) (.t 39) (.c (.bool false)), none⟩,
    ⟨some 4, .mv (.t 40), none⟩])
  .ret)
  .skip))
 (.seq (.region [⟨some 41, .call 6 [], none⟩,
   ⟨some 42, .mv (.t 41), none⟩,
   ⟨some 43, .mv (.t 5), some (42, true)⟩,
   ⟨some 44, .mv (.t 0), some (42, true)⟩,
   ⟨some 45, .call 13 [(.t 44)], some (42, true)⟩,
   ⟨some 46, .call 12 [(.t 43), (.t 45)], some (42, true)⟩,
   ⟨some 47, .pick (.t 42) (.t 46) (.c (.bool false)), none⟩,
   ⟨some 4, .mv (.t 47), none⟩])
 .ret))))))))
def f3_lay : Lay := ⟨48, [], false⟩
def f3_res : List LRes := [.t 4]
def f3_L : LFn := ⟨2, f3_lay, f3_c0, f3_res⟩
theorem f3_low : lowFn Try.prog [] 3 = some f3_L := by kernel_rfl
theorem f3_fok : FnOk Try.prog 3 := ⟨_, Try.func3, rfl, rfl⟩
noncomputable def S_glossatorlaw3_WordindexBuild (m : Option Nat) (a0 : List G_QDocument) (a1 : List UInt8) : Option Bool :=
  (S_glossatorlaw3_indexExample m).bind fun v1 =>
  if (!v1) = true then
    some false
  else
    if (0 : Int) ≤ (if 300 < (a1.length : Int) then 300 else (a1.length : Int)) ∧ (if 300 < (a1.length : Int) then 300 else (a1.length : Int)) ≤ (a1.length : Int) then
    (S_wordindex_Build m a0).bind fun v2 =>
    (S_glossatorref3_CheckDocuments m a0).bind fun v3 =>
    (S_wordindex_Words m ((a1.take (if 300 < (a1.length : Int) then 300 else (a1.length : Int)).toNat).drop 0)).bind fun v4 =>
    (S_glossatorref3_Words m ((a1.take (if 300 < (a1.length : Int) then 300 else (a1.length : Int)).toNat).drop 0)).bind fun v5 =>
    (S_glossatorref3_Equal_string m v4 v5).bind fun v6 =>
    if ((!v6) || (v2.2 != v3)) = true then
      some false
    else
      if (v3 != 0) = true then
        (S_glossatorlaw3_indexExample m).bind fun v7 =>
        some (v7 && (((v2.1.map e_QIndexEntry).length : Int) == 0))
      else
        (S_glossatorlaw3_indexExample m).bind fun v8 =>
        (if (v8 == true) = true then S_glossatorref3_BuildIndex m a0 else some default).bind fun v9 =>
        (if (v8 == true) = true then S_glossatorref3_EqualIndexes m v2.1 v9 else some default).bind fun v10 =>
        some (v8 && v10)
    else none

def f3_Q (a0 : List G_QDocument) (a1 : List UInt8) (o : Bool) : Exit → Env → AHeap → Nat → Prop := FinK f3_res (PureEnd (.bool o))

theorem f3_start {a0 : List G_QDocument} {a1 : List UInt8} {m : Option Nat} {o : Bool} (h : S_glossatorlaw3_WordindexBuild m a0 a1 = some o) : LWp Try.prog f3_lay 0 f3_c0 (f3_Q a0 a1 o) (initEnv 0 [.isl 3 (a0.map e_QDocument) false, .str a1]) [] 0 := by
  unfold S_glossatorlaw3_WordindexBuild at h
  refine seqI ?_
  refine regI ?_
  refine seqI ?_
  refine seqI ?_
  refine regI ?_
  obtain ⟨v1, h1, h⟩ := bind_some h
  refine PFn.call (f6_ok h1) trivial ?_
  refine condI (v := (!v1)) rfl trivial (fun h2 => ?_) (fun h2 => ?_)
  · have h := ite_tt h2 h
    refine seqI ?_
    refine regI ?_
    refine retI ?_
    cases h
    exact And.intro trivial (And.intro rfl (Vw.same _ rfl))
  · have h := ite_ff h2 h
    refine skipI ?_
    refine seqI ?_
    refine regI ?_
    obtain ⟨h3, h⟩ := ite_some h
    refine And.intro (And.intro (Int.le_refl _) h3) ?_
    show yops _ _ _ [(14, .str ((a1.take (if 300 < (a1.length : Int) then 300 else (a1.length : Int)).toNat).drop 0)), (13, .int .i64 (if 300 < (a1.length : Int) then 300 else (a1.length : Int))), (12, .int .i64 (a1.length : Int)), (11, .str a1), (10, .str a1), (9, .bool (!v1)), (8, .bool v1), (4, .bool false), (0, .isl 3 (a0.map e_QDocument) false), (1, .str a1)] _ _
    refine LWp.sim (e := [(0, .isl 3 (a0.map e_QDocument) false), (1, .str ((a1.take (if 300 < (a1.length : Int) then 300 else (a1.length : Int)).toNat).drop 0))]) (L := []) (n := 0) ?_ ?_
    · exact simI (M := []) rfl (And.intro (Vw.same _ rfl) (And.intro (Vw.same _ rfl) trivial)) trivial
    refine seqI ?_
    refine regI ?_
    obtain ⟨v2, h4, h⟩ := bind_some h
    refine PFn.call (f7_ok h4) (And.intro (Vw.same _ rfl) trivial) ?_
    refine seqI ?_
    refine regI ?_
    obtain ⟨v3, h5, h⟩ := bind_some h
    refine PFn.call (f8_ok h5) (And.intro (Vw.same _ rfl) trivial) ?_
    show yops _ _ _ [(21, .int .i64 v3), (20, .isl 3 (a0.map e_QDocument) false), (6, .int .i64 v2.2), (5, .isl 3 (v2.1.map e_QIndexEntry) false), (19, .int .i64 v2.2), (18, .isl 3 (v2.1.map e_QIndexEntry) false), (15, .tup [.isl 3 (v2.1.map e_QIndexEntry) false, .int .i64 v2.2]), (17, .tup [.isl 3 (v2.1.map e_QIndexEntry) false, .int .i64 v2.2]), (16, .isl 3 (a0.map e_QDocument) false), (0, .isl 3 (a0.map e_QDocument) false), (1, .str ((a1.take (if 300 < (a1.length : Int) then 300 else (a1.length : Int)).toNat).drop 0))] _ _
    refine LWp.sim (e := [(0, .isl 3 (a0.map e_QDocument) false), (1, .str ((a1.take (if 300 < (a1.length : Int) then 300 else (a1.length : Int)).toNat).drop 0)), (5, .isl 3 (v2.1.map e_QIndexEntry) false), (6, .int .i64 v2.2), (7, .int .i64 v3)]) (L := []) (n := 0) ?_ ?_
    · exact simI (M := []) rfl (And.intro (Vw.same _ rfl) (And.intro (Vw.same _ rfl) (And.intro (Vw.same _ rfl) (And.intro (Vw.same _ rfl) (And.intro (Vw.same _ rfl) trivial))))) trivial
    refine seqI ?_
    refine seqI ?_
    refine regI ?_
    obtain ⟨v4, h6, h⟩ := bind_some h
    refine PFn.call (f10_ok h6) (And.intro (Vw.same _ rfl) trivial) ?_
    obtain ⟨v5, h7, h⟩ := bind_some h
    refine PFn.call (f11_ok h7) (And.intro (Vw.same _ rfl) trivial) ?_
    obtain ⟨v6, h8, h⟩ := bind_some h
    refine PFn.call (f9_ok h8) (And.intro (Vw.same _ rfl) (And.intro (Vw.same _ rfl) trivial)) ?_
    show yops _ _ _ [(26, .bool v6), (25, .isl 1 (v5.map e_str) false), (24, .str ((a1.take (if 300 < (a1.length : Int) then 300 else (a1.length : Int)).toNat).drop 0)), (23, .isl 1 (v4.map e_str) false), (22, .str ((a1.take (if 300 < (a1.length : Int) then 300 else (a1.length : Int)).toNat).drop 0)), (0, .isl 3 (a0.map e_QDocument) false), (1, .str ((a1.take (if 300 < (a1.length : Int) then 300 else (a1.length : Int)).toNat).drop 0)), (5, .isl 3 (v2.1.map e_QIndexEntry) false), (6, .int .i64 v2.2), (7, .int .i64 v3)] _ _
    refine And.intro (fun hp => (And.intro hp hp)) ?_
    show yops _ _ _ [(31, .cnd ((!v6) == false) (.bool (v2.2 != v3))), (30, .cnd ((!v6) == false) (.int .i64 v3)), (29, .cnd ((!v6) == false) (.int .i64 v2.2)), (28, .bool (!v6)), (27, .bool (!v6)), (26, .bool v6), (25, .isl 1 (v5.map e_str) false), (24, .str ((a1.take (if 300 < (a1.length : Int) then 300 else (a1.length : Int)).toNat).drop 0)), (23, .isl 1 (v4.map e_str) false), (22, .str ((a1.take (if 300 < (a1.length : Int) then 300 else (a1.length : Int)).toNat).drop 0)), (0, .isl 3 (a0.map e_QDocument) false), (1, .str ((a1.take (if 300 < (a1.length : Int) then 300 else (a1.length : Int)).toNat).drop 0)), (5, .isl 3 (v2.1.map e_QIndexEntry) false), (6, .int .i64 v2.2), (7, .int .i64 v3)] _ _
    refine And.intro (fun hc => (bqf hc)) ?_
    refine LWp.sim (e := [(0, .isl 3 (a0.map e_QDocument) false), (5, .isl 3 (v2.1.map e_QIndexEntry) false), (7, .int .i64 v3), (32, .bool ((!v6) || (v2.2 != v3)))]) (L := []) (n := 0) ?_ ?_
    · exact simI (M := []) rfl (And.intro (Vw.same _ rfl) (And.intro (Vw.same _ rfl) (And.intro (Vw.same _ rfl) (And.intro (Vw.same _ rfl) trivial)))) trivial
    refine condI (v := ((!v6) || (v2.2 != v3))) rfl trivial (fun h9 => ?_) (fun h9 => ?_)
    · have h := ite_tt h9 h
      refine seqI ?_
      refine regI ?_
      refine retI ?_
      cases h
      exact And.intro trivial (And.intro rfl (Vw.same _ rfl))
    · have h := ite_ff h9 h
      refine skipI ?_
      refine seqI ?_
      refine seqI ?_
      refine regI ?_
      refine condI (v := (v3 != 0)) rfl trivial (fun h10 => ?_) (fun h10 => ?_)
      · have h := ite_tt h10 h
        refine seqI ?_
        refine regI ?_
        obtain ⟨v7, h11, h⟩ := bind_some h
        refine PFn.call (f6_ok h11) trivial ?_
        refine And.intro (fun hp => hp) ?_
        show yops _ _ _ [(38, .cnd (v7 == true) (.int .i64 ((v2.1.map e_QIndexEntry).length : Int))), (37, .cnd (v7 == true) (.isl 3 (v2.1.map e_QIndexEntry) false)), (36, .bool v7), (35, .bool v7), (34, .bool (v3 != 0)), (33, .int .i64 v3), (0, .isl 3 (a0.map e_QDocument) false), (5, .isl 3 (v2.1.map e_QIndexEntry) false), (7, .int .i64 v3), (32, .bool ((!v6) || (v2.2 != v3)))] _ _
        refine And.intro (fun hp => hp) ?_
        refine And.intro (fun hc => (bqt hc)) ?_
        refine LWp.sim (e := [(4, .bool (v7 && (((v2.1.map e_QIndexEntry).length : Int) == 0)))]) (L := []) (n := 0) ?_ ?_
        · exact simI (M := []) rfl (And.intro (Vw.same _ rfl) trivial) trivial
        refine retI ?_
        cases h
        exact And.intro trivial (And.intro rfl (Vw.same _ rfl))
      · have h := ite_ff h10 h
        refine skipI ?_
        refine seqI ?_
        refine regI ?_
        obtain ⟨v8, h12, h⟩ := bind_some h
        refine PFn.call (f6_ok h12) trivial ?_
        obtain ⟨v9, h13, h⟩ := bind_some h
        refine Or.inl (Exists.intro (.isl 3 (v9.map e_QIndexEntry) false) (And.intro (fun hp => And.intro hp (PFn.call (f13_ok (ite_tt hp h13)) (And.intro (Vw.same _ rfl) trivial) (And.intro rfl (And.intro rfl rfl)))) ?_))
        obtain ⟨v10, h14, h⟩ := bind_some h
        refine Or.inl (Exists.intro (.bool v10) (And.intro (fun hp => And.intro (And.intro hp hp) (PFn.call (f12_ok (ite_tt hp h14)) (And.intro (Vw.same _ rfl) (And.intro (Vw.same _ rfl) trivial)) (And.intro rfl (And.intro rfl rfl)))) ?_))
        refine And.intro (fun hc => (bqt hc)) ?_
        show yops _ _ _ [(47, .bool (v8 && v10)), (46, .cnd (v8 == true) (.bool v10)), (45, .cnd (v8 == true) (.isl 3 (v9.map e_QIndexEntry) false)), (44, .cnd (v8 == true) (.isl 3 (a0.map e_QDocument) false)), (43, .cnd (v8 == true) (.isl 3 (v2.1.map e_QIndexEntry) false)), (42, .bool v8), (41, .bool v8), (34, .bool (v3 != 0)), (33, .int .i64 v3), (0, .isl 3 (a0.map e_QDocument) false), (5, .isl 3 (v2.1.map e_QIndexEntry) false), (7, .int .i64 v3), (32, .bool ((!v6) || (v2.2 != v3)))] _ _
        refine LWp.sim (e := [(4, .bool (v8 && v10))]) (L := []) (n := 0) ?_ ?_
        · exact simI (M := []) rfl (And.intro (Vw.same _ rfl) trivial) trivial
        refine retI ?_
        cases h
        exact And.intro trivial (And.intro rfl (Vw.same _ rfl))

theorem f3_ok {a0 : List G_QDocument} {a1 : List UInt8} {m : Option Nat} {o : Bool} (h : S_glossatorlaw3_WordindexBuild m a0 a1 = some o) : PFn Try.prog 3 [.isl 3 (a0.map e_QDocument) false, .str a1] (.bool o) := PFn.ofFnW (L := f3_L) f3_low f3_fok (Nat.le_of_ble_eq_true rfl) rfl (f3_start h)
end Go.Proofs.Yteepckliibfnkaa
