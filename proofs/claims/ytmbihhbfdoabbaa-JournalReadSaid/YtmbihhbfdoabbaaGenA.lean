/-
  Own text GenA of this claim: what functions of the given program compute, in plain Lean, and the proof; no condition.
-/
import Derived.Test.YtmbihhbfdoabbaaChecked
import Derived.Test.YtmbihhbfdoabbaaFxN
import Derived.Test.YtmbihhbfdoabbaaFxRf
import Derived.Test.YtmbihhbfdoabbaaFxGr
import Derived.Test.YtmbihhbfdoabbaaFxMd
import Derived.Test.YtmbihhbfdoabbaaFxSo
import Derived.Test.YtmbihhbfdoabbaaSh
import Derived.KernelRfl
namespace Go.Proofs.Ytmbihhbfdoabbaa
open Go.Fx
set_option linter.unusedVariables false
structure G_QRecord where
  f_Key : List UInt8
  f_Value : List UInt8
  f_Deleted : Bool
instance : Inhabited G_QRecord := ⟨(G_QRecord.mk [] [] false)⟩
def e_QRecord (x : G_QRecord) : List AVal := [.str x.f_Key, .str x.f_Value, .bool x.f_Deleted]
def e_str (x : List UInt8) : List AVal := [.str x]
def a_str (x : List UInt8) : AVal := .str x
theorem a_str_nid (x : List UInt8) : (a_str x).nid = true := rfl
def a_QRecord (x : G_QRecord) : AVal := .agg [.str x.f_Key, .str x.f_Value, .bool x.f_Deleted]
theorem a_QRecord_nid (x : G_QRecord) : (a_QRecord x).nid = true := rfl
def q_str (x y : List UInt8) : Bool := (x == y && true)
theorem q_str_ok (x y : List UInt8) : keyEq [.str] (a_str x) (a_str y) = some (q_str x y) := rfl
theorem e_QRecord_ok (x : G_QRecord) : AVal.nid.nidL (e_QRecord x) = true ∧ ∀ y ∈ e_QRecord x, y.imm = some y := ⟨rfl, by simp [e_QRecord, AVal.imm]⟩
theorem e_str_ok (x : List UInt8) : AVal.nid.nidL (e_str x) = true ∧ ∀ y ∈ e_str x, y.imm = some y := ⟨rfl, by simp [e_str, AVal.imm]⟩
def f26_c0 : LCode := (.seq (.region [⟨some 1, .box (.t 0), none⟩,
   ⟨some 2, .mv (.c (.int .i64 0)), none⟩])
 (.seq (.block 0
  (.seq (.region [⟨some 4, .faddr 0 (.t 1), none⟩,
    ⟨some 5, .load false 1 (.t 4), none⟩,
    ⟨some 6, .bin .eql (.t 5) (.c (.str [])), none⟩,
    ⟨some 7, .mv (.t 6), none⟩,
    ⟨some 8, .faddr 2 (.t 1), some (7, false)⟩,
    ⟨some 9, .load false 1 (.t 8), some (7, false)⟩,
    ⟨some 10, .mv (.t 9), some (7, false)⟩,
    ⟨some 11, .faddr 1 (.t 1), some (10, true)⟩,
    ⟨some 12, .load false 1 (.t 11), some (10, true)⟩,
    ⟨some 13, .bin .neq (.t 12) (.c (.str [])), some (10, true)⟩,
    ⟨some 14, .pick (.t 10) (.t 13) (.c (.bool false)), some (7, false)⟩,
    ⟨some 15, .pick (.t 7) (.c (.bool true)) (.t 14), none⟩,
    ⟨some 3, .mv (.t 15), none⟩])
  (.cond (.t 3)
   (.seq (.region [⟨some 2, .mv (.c (.int .i64 3)), none⟩])
   .ret)
   (.seq (.region [⟨some 17, .faddr 0 (.t 1), none⟩,
     ⟨some 18, .load false 1 (.t 17), none⟩,
     ⟨some 19, .len true (.t 18), none⟩,
     ⟨some 20, .bin .gtr (.t 19) (.c (.int .i64 60)), none⟩,
     ⟨some 21, .mv (.t 20), none⟩,
     ⟨some 22, .faddr 1 (.t 1), some (21, false)⟩,
     ⟨some 23, .load false 1 (.t 22), some (21, false)⟩,
     ⟨some 24, .len true (.t 23), some (21, false)⟩,
     ⟨some 25, .bin .gtr (.t 24) (.c (.int .i64 3000)), some (21, false)⟩,
     ⟨some 26, .pick (.t 21) (.c (.bool true)) (.t 25), none⟩,
     ⟨some 16, .mv (.t 26), none⟩])
   (.cond (.t 16)
    (.seq (.region [⟨some 2, .mv (.c (.int .i64 2)), none⟩])
    .ret)
    .skip)))))
 (.seq (.region [⟨some 2, .mv (.c (.int .i64 0)), none⟩])
 .ret)))
def f26_lay : Lay := ⟨27, [], false⟩
def f26_res : List LRes := [.t 2]
def f26_L : LFn := ⟨1, f26_lay, f26_c0, f26_res⟩
theorem f26_low : lowFn Try.prog [] 26 = some f26_L := by kernel_rfl
theorem f26_fok : FnOk Try.prog 26 := ⟨_, Try.func26, rfl, rfl⟩
noncomputable def S_journal_validate (m : Option Nat) (a0 : G_QRecord) : Option Int :=
  if ((a0.f_Key == ([] : List UInt8)) || (a0.f_Deleted && (!(a0.f_Value == ([] : List UInt8))))) = true then
    some 3
  else
    if ((decide ((a0.f_Key.length : Int) > 60)) || (decide ((a0.f_Value.length : Int) > 3000))) = true then
      some 2
    else
      some 0

def f26_Q (a0 : G_QRecord) (o : Int) : Exit → Env → AHeap → Nat → Prop := FinK f26_res (PureEnd (.int .i64 o))

theorem f26_start {a0 : G_QRecord} {m : Option Nat} {o : Int} (h : S_journal_validate m a0 = some o) : LWp Try.prog f26_lay 0 f26_c0 (f26_Q a0 o) (initEnv 0 [.agg [.str a0.f_Key, .str a0.f_Value, .bool a0.f_Deleted]]) [] 0 := by
  unfold S_journal_validate at h
  refine seqI ?_
  refine regI ?_
  refine seqI ?_
  refine blockI ?_
  refine seqI ?_
  refine regI ?_
  refine And.intro (fun hp => hp) ?_
  show yops _ _ _ [(9, .cnd ((a0.f_Key == ([] : List UInt8)) == false) (.bool a0.f_Deleted)), (8, .cnd ((a0.f_Key == ([] : List UInt8)) == false) (.ptr (0, 0) 0 2)), (7, .bool (a0.f_Key == ([] : List UInt8))), (6, .bool (a0.f_Key == ([] : List UInt8))), (5, .str a0.f_Key), (4, .ptr (0, 0) 0 0), (2, .int .i64 0), (1, .ptr (0, 0) 0 0), (0, .agg [.str a0.f_Key, .str a0.f_Value, .bool a0.f_Deleted])] _ _
  refine And.intro (fun hp => hp) ?_
  refine And.intro (fun hp => hp) ?_
  refine And.intro (fun hp => hp) ?_
  refine And.intro (fun hp => (And.intro hp (fun hc => (and_i hp (bqt hc))))) ?_
  show yops _ _ _ [(14, .cnd ((a0.f_Key == ([] : List UInt8)) == false) (.bool (a0.f_Deleted && (!(a0.f_Value == ([] : List UInt8)))))), (13, .cnd (((a0.f_Key == ([] : List UInt8)) == false) && (a0.f_Deleted == true)) (.bool (!(a0.f_Value == ([] : List UInt8))))), (12, .cnd (((a0.f_Key == ([] : List UInt8)) == false) && (a0.f_Deleted == true)) (.str a0.f_Value)), (11, .cnd (((a0.f_Key == ([] : List UInt8)) == false) && (a0.f_Deleted == true)) (.ptr (0, 0) 0 1)), (10, .cnd ((a0.f_Key == ([] : List UInt8)) == false) (.bool a0.f_Deleted)), (9, .cnd ((a0.f_Key == ([] : List UInt8)) == false) (.bool a0.f_Deleted)), (8, .cnd ((a0.f_Key == ([] : List UInt8)) == false) (.ptr (0, 0) 0 2)), (7, .bool (a0.f_Key == ([] : List UInt8))), (6, .bool (a0.f_Key == ([] : List UInt8))), (5, .str a0.f_Key), (4, .ptr (0, 0) 0 0), (2, .int .i64 0), (1, .ptr (0, 0) 0 0), (0, .agg [.str a0.f_Key, .str a0.f_Value, .bool a0.f_Deleted])] _ _
  refine And.intro (fun hc => (bqf hc)) ?_
  refine LWp.sim (e := [(1, .ptr (0, 0) 0 0), (3, .bool ((a0.f_Key == ([] : List UInt8)) || (a0.f_Deleted && (!(a0.f_Value == ([] : List UInt8))))))]) (L := [((0, 0), .one [.str a0.f_Key, .str a0.f_Value, .bool a0.f_Deleted])]) (n := 1) ?_ ?_
  · exact simI (M := [((0, 0), (0, 0))]) rfl (And.intro (Vw.ptr _ _ _ _ rfl) (And.intro (Vw.same _ rfl) trivial)) (And.intro (And.intro rfl (BVw.oneL (And.intro (Vw.same _ rfl) (And.intro (Vw.same _ rfl) (And.intro (Vw.same _ rfl) trivial))))) trivial)
  refine condI (v := ((a0.f_Key == ([] : List UInt8)) || (a0.f_Deleted && (!(a0.f_Value == ([] : List UInt8)))))) rfl trivial (fun h1 => ?_) (fun h1 => ?_)
  · have h := ite_tt h1 h
    refine seqI ?_
    refine regI ?_
    refine retI ?_
    cases h
    exact And.intro trivial (And.intro rfl (Vw.same _ rfl))
  · have h := ite_ff h1 h
    refine seqI ?_
    refine regI ?_
    refine And.intro (fun hp => hp) ?_
    show yops _ _ _ [(23, .cnd ((decide ((a0.f_Key.length : Int) > 60)) == false) (.str a0.f_Value)), (22, .cnd ((decide ((a0.f_Key.length : Int) > 60)) == false) (.ptr (0, 0) 0 1)), (21, .bool (decide ((a0.f_Key.length : Int) > 60))), (20, .bool (decide ((a0.f_Key.length : Int) > 60))), (19, .int .i64 (a0.f_Key.length : Int)), (18, .str a0.f_Key), (17, .ptr (0, 0) 0 0), (1, .ptr (0, 0) 0 0), (3, .bool ((a0.f_Key == ([] : List UInt8)) || (a0.f_Deleted && (!(a0.f_Value == ([] : List UInt8))))))] _ _
    refine And.intro (fun hp => hp) ?_
    refine And.intro (fun hp => hp) ?_
    refine And.intro (fun hc => (bqf hc)) ?_
    refine LWp.sim (e := [(16, .bool ((decide ((a0.f_Key.length : Int) > 60)) || (decide ((a0.f_Value.length : Int) > 3000))))]) (L := []) (n := 0) ?_ ?_
    · exact simI (M := []) rfl (And.intro (Vw.same _ rfl) trivial) trivial
    refine condI (v := ((decide ((a0.f_Key.length : Int) > 60)) || (decide ((a0.f_Value.length : Int) > 3000)))) rfl trivial (fun h2 => ?_) (fun h2 => ?_)
    · have h := ite_tt h2 h
      refine seqI ?_
      refine regI ?_
      refine retI ?_
      cases h
      exact And.intro trivial (And.intro rfl (Vw.same _ rfl))
    · have h := ite_ff h2 h
      refine skipI ?_
      refine seqI ?_
      refine regI ?_
      refine retI ?_
      cases h
      exact And.intro trivial (And.intro rfl (Vw.same _ rfl))

theorem f26_ok {a0 : G_QRecord} {m : Option Nat} {o : Int} (h : S_journal_validate m a0 = some o) : PFn Try.prog 26 [.agg [.str a0.f_Key, .str a0.f_Value, .bool a0.f_Deleted]] (.int .i64 o) := PFn.ofFnW (L := f26_L) f26_low f26_fok (Nat.le_of_ble_eq_true rfl) rfl (f26_start h)

def f22_c0 : LCode := (.seq (.region [⟨some 6, .mv (.t 3), none⟩,
   ⟨some 7, .faddr 0 (.t 1), none⟩,
   ⟨some 8, .load false 1 (.t 7), none⟩,
   ⟨some 9, .len true (.t 8), none⟩,
   ⟨some 10, .conv (.int .u8) (.t 9), none⟩,
   ⟨some 11, .mkSl true 1 [(.int .u8 0)] 1 [(0, (.t 10))], none⟩,
   ⟨some 12, .conv .b2s (.t 11), none⟩,
   ⟨some 13, .bin .add (.t 6) (.t 12), none⟩,
   ⟨some 14, .faddr 0 (.t 1), none⟩,
   ⟨some 15, .load false 1 (.t 14), none⟩,
   ⟨some 16, .bin .add (.t 13) (.t 15), none⟩,
   ⟨some 17, .faddr 1 (.t 1), none⟩,
   ⟨some 18, .load false 1 (.t 17), none⟩,
   ⟨some 19, .bin .add (.t 16) (.t 18), none⟩,
   ⟨some 2, .mv (.t 19), none⟩])
 .ret)
def f22_c1 : LCode := (.seq (.region [⟨some 1, .box (.t 0), none⟩,
   ⟨some 2, .mv (.c (.str [])), none⟩])
 (.seq (.region [⟨some 3, .mv (.c (.str [0])), none⟩])
 (.seq (.seq (.region [⟨some 4, .faddr 2 (.t 1), none⟩,
   ⟨some 5, .load false 1 (.t 4), none⟩])
 (.cond (.t 5)
  (.region [⟨some 3, .mv (.c (.str [1])), none⟩])
  .skip))
 f22_c0)))
def f22_lay : Lay := ⟨20, [], false⟩
def f22_res : List LRes := [.t 2]
def f22_L : LFn := ⟨1, f22_lay, f22_c1, f22_res⟩
theorem f22_low : lowFn Try.prog [] 22 = some f22_L := by kernel_rfl
theorem f22_fok : FnOk Try.prog 22 := ⟨_, Try.func22, rfl, rfl⟩
noncomputable def S_journal_payload_j1 (m : Option Nat) (a0 : G_QRecord) (v1 : List UInt8) : Option (List UInt8) :=
  if (((v1.length + (([(IntKind.wrap .u8 (a0.f_Key.length : Int))] : List Int).map toU8).length : Nat) : Int) ≤ 9223372036854775807) then
  if ((((v1 ++ (([(IntKind.wrap .u8 (a0.f_Key.length : Int))] : List Int).map toU8)).length + a0.f_Key.length : Nat) : Int) ≤ 9223372036854775807) then
  if (((((v1 ++ (([(IntKind.wrap .u8 (a0.f_Key.length : Int))] : List Int).map toU8)) ++ a0.f_Key).length + a0.f_Value.length : Nat) : Int) ≤ 9223372036854775807) then
  some (((v1 ++ (([(IntKind.wrap .u8 (a0.f_Key.length : Int))] : List Int).map toU8)) ++ a0.f_Key) ++ a0.f_Value)
  else none
  else none
  else none

def f22_Q (a0 : G_QRecord) (o : (List UInt8)) : Exit → Env → AHeap → Nat → Prop := FinK f22_res (PureEnd (.str o))

theorem f22_j1_ok {a0 : G_QRecord} {v1 : List UInt8} {m : Option Nat} {o : (List UInt8)} (h : S_journal_payload_j1 m a0 v1 = some o) :
    LWp Try.prog f22_lay 0 f22_c0 (f22_Q a0 o) [(1, .ptr (0, 0) 0 0), (3, .str v1)] [((0, 0), .one [.str a0.f_Key, .str a0.f_Value, .bool a0.f_Deleted])] 1 := by
  unfold S_journal_payload_j1 at h
  refine seqI ?_
  refine regI ?_
  refine Exists.intro (([(IntKind.wrap .u8 (a0.f_Key.length : Int))] : List Int).map toU8) (And.intro (b2s_enc ([(IntKind.wrap .u8 (a0.f_Key.length : Int))] : List Int)) (And.intro (b2s_all ([(IntKind.wrap .u8 (a0.f_Key.length : Int))] : List Int)) ?_))
  obtain ⟨h2, h⟩ := ite_some h
  refine And.intro h2 ?_
  show yops _ _ _ [(13, .str (v1 ++ (([(IntKind.wrap .u8 (a0.f_Key.length : Int))] : List Int).map toU8))), (12, .str (([(IntKind.wrap .u8 (a0.f_Key.length : Int))] : List Int).map toU8)), (11, .isl 1 (([(IntKind.wrap .u8 (a0.f_Key.length : Int))] : List Int).map e_u8) true), (10, .int .u8 (IntKind.wrap .u8 (a0.f_Key.length : Int))), (9, .int .i64 (a0.f_Key.length : Int)), (8, .str a0.f_Key), (7, .ptr (0, 0) 0 0), (6, .str v1), (1, .ptr (0, 0) 0 0), (3, .str v1)] _ _
  obtain ⟨h3, h⟩ := ite_some h
  refine And.intro h3 ?_
  obtain ⟨h4, h⟩ := ite_some h
  refine And.intro h4 ?_
  show yops _ _ _ [(19, .str (((v1 ++ (([(IntKind.wrap .u8 (a0.f_Key.length : Int))] : List Int).map toU8)) ++ a0.f_Key) ++ a0.f_Value)), (18, .str a0.f_Value), (17, .ptr (0, 0) 0 1), (16, .str ((v1 ++ (([(IntKind.wrap .u8 (a0.f_Key.length : Int))] : List Int).map toU8)) ++ a0.f_Key)), (15, .str a0.f_Key), (14, .ptr (0, 0) 0 0), (13, .str (v1 ++ (([(IntKind.wrap .u8 (a0.f_Key.length : Int))] : List Int).map toU8))), (12, .str (([(IntKind.wrap .u8 (a0.f_Key.length : Int))] : List Int).map toU8)), (11, .isl 1 (([(IntKind.wrap .u8 (a0.f_Key.length : Int))] : List Int).map e_u8) true), (10, .int .u8 (IntKind.wrap .u8 (a0.f_Key.length : Int))), (9, .int .i64 (a0.f_Key.length : Int)), (8, .str a0.f_Key), (7, .ptr (0, 0) 0 0), (6, .str v1), (1, .ptr (0, 0) 0 0), (3, .str v1)] _ _
  refine LWp.sim (e := [(2, .str (((v1 ++ (([(IntKind.wrap .u8 (a0.f_Key.length : Int))] : List Int).map toU8)) ++ a0.f_Key) ++ a0.f_Value))]) (L := []) (n := 0) ?_ ?_
  · exact simI (M := []) rfl (And.intro (Vw.same _ rfl) trivial) trivial
  refine retI ?_
  cases h
  exact And.intro trivial (And.intro rfl (Vw.same _ rfl))

noncomputable def S_journal_payload (m : Option Nat) (a0 : G_QRecord) : Option (List UInt8) :=
  if a0.f_Deleted = true then
    S_journal_payload_j1 m a0 ([1] : List UInt8)
  else
    S_journal_payload_j1 m a0 ([0] : List UInt8)

theorem f22_start {a0 : G_QRecord} {m : Option Nat} {o : (List UInt8)} (h : S_journal_payload m a0 = some o) : LWp Try.prog f22_lay 0 f22_c1 (f22_Q a0 o) (initEnv 0 [.agg [.str a0.f_Key, .str a0.f_Value, .bool a0.f_Deleted]]) [] 0 := by
  unfold S_journal_payload at h
  refine seqI ?_
  refine regI ?_
  refine seqI ?_
  refine regI ?_
  refine seqI ?_
  refine seqI ?_
  refine regI ?_
  refine condI (v := a0.f_Deleted) rfl trivial (fun h1 => ?_) (fun h1 => ?_)
  · have h := ite_tt h1 h
    refine regI ?_
    refine LWp.sim ?_ (f22_j1_ok h)
    exact simI (M := [((0, 0), (0, 0))]) rfl (And.intro (Vw.ptr _ _ _ _ rfl) (And.intro (Vw.same _ rfl) trivial)) (And.intro (And.intro rfl (BVw.oneL (And.intro (Vw.same _ rfl) (And.intro (Vw.same _ rfl) (And.intro (Vw.same _ rfl) trivial))))) trivial)
  · have h := ite_ff h1 h
    refine skipI ?_
    refine LWp.sim ?_ (f22_j1_ok h)
    exact simI (M := [((0, 0), (0, 0))]) rfl (And.intro (Vw.ptr _ _ _ _ rfl) (And.intro (Vw.same _ rfl) trivial)) (And.intro (And.intro rfl (BVw.oneL (And.intro (Vw.same _ rfl) (And.intro (Vw.same _ rfl) (And.intro (Vw.same _ rfl) trivial))))) trivial)

theorem f22_ok {a0 : G_QRecord} {m : Option Nat} {o : (List UInt8)} (h : S_journal_payload m a0 = some o) : PFn Try.prog 22 [.agg [.str a0.f_Key, .str a0.f_Value, .bool a0.f_Deleted]] (.str o) := PFn.ofFnW (L := f22_L) f22_low f22_fok (Nat.le_of_ble_eq_true rfl) rfl (f22_start h)

def f15_c1 : LCode := (.seq (.region [⟨some 8, .bin .lss (.t 7) (.t 6), none⟩])
 (.seq (.cond (.t 8)
  .skip
  (.exit 0))
 (.seq (.block 1
  (.seq (.region [⟨some 9, .mv (.t 7), none⟩,
    ⟨some 4, .mv (.t 9), none⟩])
  (.region [⟨some 10, .mv (.t 3), none⟩,
    ⟨some 11, .mv (.t 0), none⟩,
    ⟨some 12, .mv (.t 4), none⟩,
    ⟨some 13, .idxS (.t 11) (.t 12), none⟩,
    ⟨some 14, .conv (.int .u32) (.t 13), none⟩,
    ⟨some 15, .bin .xor (.t 10) (.t 14), none⟩,
    ⟨some 16, .bin .mul (.t 15) (.c (.int .u32 16777619)), none⟩,
    ⟨some 3, .mv (.t 16), none⟩])))
 (.region [⟨some 17, .bin .add (.t 7) (.c (.int .i64 1)), none⟩,
   ⟨some 7, .mv (.t 17), none⟩]))))
def f15_c0 : LCode := (.seq (.region [⟨some 18, .mv (.t 3), none⟩,
   ⟨some 2, .mv (.t 18), none⟩])
 .ret)
def f15_c2 : LCode := (.seq (.region [⟨some 2, .mv (.c (.int .u32 0)), none⟩])
 (.seq (.region [⟨some 3, .mv (.c (.int .u32 2166136261)), none⟩])
 (.seq (.seq (.region [⟨some 5, .mv (.t 0), none⟩,
   ⟨some 6, .len true (.t 5), none⟩,
   ⟨some 7, .mv (.c (.int .i64 0)), none⟩])
 (.block 0
  (.loop
   f15_c1)))
 f15_c0)))
def f15_lay : Lay := ⟨19, [], false⟩
def f15_res : List LRes := [.t 2]
def f15_L : LFn := ⟨1, f15_lay, f15_c2, f15_res⟩
theorem f15_low : lowFn Try.prog [] 15 = some f15_L := by kernel_rfl
theorem f15_fok : FnOk Try.prog 15 := ⟨_, Try.func15, rfl, rfl⟩
def f15_Q (a0 : List UInt8) (o : Int) : Exit → Env → AHeap → Nat → Prop := FinK f15_res (PureEnd (.int .u32 o))

def f15_L1_env (a0 : List UInt8) (s : (Int × Int)) : Env := [(0, .str a0), (3, .int .u32 s.1), (6, .int .i64 (a0.length : Int)), (7, .int .i64 s.2)]
def f15_L1_hp (a0 : List UInt8) (s : (Int × Int)) : AHeap := []
def f15_L1_Q (a0 : List UInt8) (o : Int) : Exit → Env → AHeap → Nat → Prop := (QBlock 0 (QSeq Try.prog f15_lay 0 f15_c0 (f15_Q a0 o)))

noncomputable def S_journal_Checksum_j1 (m : Option Nat) (v1 : Int) : Option Int :=
  some v1

noncomputable def S_journal_Checksum_b1 (m : Option Nat) (a0 : List UInt8) (v1 : Int) (v2 : Int) : Option ((Int × Int) ⊕ Int) :=
  if (decide (v2 < (a0.length : Int))) = true then
    if (0 : Int) ≤ v2 ∧ v2 < (a0.length : Int) then
    some (.inl ((IntKind.wrap .u32 ((ibits .xor .u32 v1 (IntKind.wrap .u32 (((a0.getD v2.toNat 0).toNat : Nat) : Int))) * 16777619)), (W (v2 + 1))))
    else none
  else
    Option.map Sum.inr (
      S_journal_Checksum_j1 m v1)

noncomputable def S_journal_Checksum_l1 (m : Option Nat) (a0 : List UInt8) (v1 : Int) (v2 : Int) : Option Int := loopM m (fun (s : (Int × Int)) => S_journal_Checksum_b1 m a0 s.1 s.2) (v1, v2)

theorem f15_j1_ok {a0 : List UInt8} {v1 : Int} {m : Option Nat} {o : Int} (h : S_journal_Checksum_j1 m v1 = some o) :
    LWp Try.prog f15_lay 0 f15_c0 (f15_Q a0 o) [(3, .int .u32 v1)] [] 0 := by
  unfold S_journal_Checksum_j1 at h
  refine seqI ?_
  refine regI ?_
  refine retI ?_
  cases h
  exact And.intro trivial (And.intro rfl (Vw.same _ rfl))

theorem f15_L1_bok {a0 : List UInt8} {v1 : Int} {v2 : Int} {m : Option Nat} {o : (Int × Int) ⊕ Int} (h : S_journal_Checksum_b1 m a0 v1 v2 = some o) :
    LWp Try.prog f15_lay 0 f15_c1 (BodyQ 0 0 (f15_L1_env a0) (f15_L1_hp a0) (f15_L1_Q a0) o) [(0, .str a0), (3, .int .u32 v1), (6, .int .i64 (a0.length : Int)), (7, .int .i64 v2)] [] 0 := by
  unfold S_journal_Checksum_b1 at h
  refine seqI ?_
  refine regI ?_
  refine seqI ?_
  refine condI (v := (decide (v2 < (a0.length : Int)))) rfl trivial (fun h5 => ?_) (fun h5 => ?_)
  · have h := ite_tt h5 h
    refine skipI ?_
    refine seqI ?_
    refine blockI ?_
    refine seqI ?_
    refine regI ?_
    refine regI ?_
    obtain ⟨h6, h⟩ := ite_some h
    refine And.intro h6 ?_
    show yops _ _ _ [(13, .int .u8 (((a0.getD v2.toNat 0).toNat : Nat) : Int)), (12, .int .i64 v2), (11, .str a0), (10, .int .u32 v1), (4, .int .i64 v2), (9, .int .i64 v2), (8, .bool (decide (v2 < (a0.length : Int)))), (0, .str a0), (3, .int .u32 v1), (6, .int .i64 (a0.length : Int)), (7, .int .i64 v2)] _ _
    refine LWp.sim (e := [(0, .str a0), (3, .int .u32 (IntKind.wrap .u32 ((ibits .xor .u32 v1 (IntKind.wrap .u32 (((a0.getD v2.toNat 0).toNat : Nat) : Int))) * 16777619))), (6, .int .i64 (a0.length : Int)), (7, .int .i64 v2)]) (L := []) (n := 0) ?_ ?_
    · exact simI (M := []) rfl (And.intro (Vw.same _ rfl) (And.intro (Vw.same _ rfl) (And.intro (Vw.same _ rfl) (And.intro (Vw.same _ rfl) trivial)))) trivial
    refine regI ?_
    cases h
    exact And.intro rfl (simI (M := []) rfl (And.intro (Vw.same _ rfl) (And.intro (Vw.same _ rfl) (And.intro (Vw.same _ rfl) (And.intro (Vw.same _ rfl) trivial)))) trivial)
  · have h := ite_ff h5 h
    refine exitI ?_
    obtain ⟨o, hq, rfl⟩ := Option.map_eq_some_iff.1 h
    replace h := hq; clear hq
    refine And.intro nofun ?_
    refine LWp.sim ?_ (f15_j1_ok h)
    exact simI (M := []) rfl (And.intro (Vw.same _ rfl) trivial) trivial

theorem f15_L1_ok {a0 : List UInt8} {v1 : Int} {v2 : Int} {m : Option Nat} {o : Int} (h : S_journal_Checksum_l1 m a0 v1 v2 = some o) :
    LWp Try.prog f15_lay 0 (.loop f15_c1) (QBlock 0 (QSeq Try.prog f15_lay 0 f15_c0 (f15_Q a0 o))) [(0, .str a0), (3, .int .u32 v1), (6, .int .i64 (a0.length : Int)), (7, .int .i64 v2)] [] 0 :=
  LWp_loopM (m := m) (s := ((v1, v2) : (Int × Int))) (r := o) (fun (s : (Int × Int)) => S_journal_Checksum_b1 m a0 s.1 s.2) (f15_L1_env a0) (f15_L1_hp a0) (f15_L1_Q a0) (fun s o h => f15_L1_bok h) h

noncomputable def S_journal_Checksum (m : Option Nat) (a0 : List UInt8) : Option Int :=
  S_journal_Checksum_l1 m a0 2166136261 0

theorem f15_start {a0 : List UInt8} {m : Option Nat} {o : Int} (h : S_journal_Checksum m a0 = some o) : LWp Try.prog f15_lay 0 f15_c2 (f15_Q a0 o) (initEnv 0 [.str a0]) [] 0 := by
  unfold S_journal_Checksum at h
  refine seqI ?_
  refine regI ?_
  refine seqI ?_
  refine regI ?_
  refine seqI ?_
  refine seqI ?_
  refine regI ?_
  refine blockI ?_
  refine LWp.sim ?_ (f15_L1_ok h)
  exact simI (M := []) rfl (And.intro (Vw.same _ rfl) (And.intro (Vw.same _ rfl) (And.intro (Vw.same _ rfl) (And.intro (Vw.same _ rfl) trivial)))) trivial

theorem f15_ok {a0 : List UInt8} {m : Option Nat} {o : Int} (h : S_journal_Checksum m a0 = some o) : PFn Try.prog 15 [.str a0] (.int .u32 o) := PFn.ofFnW (L := f15_L) f15_low f15_fok (Nat.le_of_ble_eq_true rfl) rfl (f15_start h)

def f21_c0 : LCode := (.seq (.region [⟨some 2, .mv (.c (.str [])), none⟩])
 (.seq (.region [⟨some 5, .mv (.t 0), none⟩,
   ⟨some 6, .len true (.t 5), none⟩,
   ⟨some 7, .bin .shr (.t 6) (.c (.int .u64 8)), none⟩,
   ⟨some 8, .conv (.int .u8) (.t 7), none⟩,
   ⟨some 9, .mv (.t 0), none⟩,
   ⟨some 10, .len true (.t 9), none⟩,
   ⟨some 11, .conv (.int .u8) (.t 10), none⟩,
   ⟨some 12, .mkSl true 1 [(.int .u8 0)] 2 [(0, (.t 8)), (1, (.t 11))], none⟩,
   ⟨some 13, .conv .b2s (.t 12), none⟩,
   ⟨some 3, .mv (.t 13), none⟩])
 (.seq (.region [⟨some 14, .mv (.t 3), none⟩,
   ⟨some 15, .mv (.t 0), none⟩,
   ⟨some 16, .bin .add (.t 14) (.t 15), none⟩,
   ⟨some 17, .call 15 [(.t 16)], none⟩,
   ⟨some 4, .mv (.t 17), none⟩])
 (.seq (.region [⟨some 18, .mv (.t 3), none⟩,
   ⟨some 19, .mv (.t 4), none⟩,
   ⟨some 20, .bin .shr (.t 19) (.c (.int .u64 24)), none⟩,
   ⟨some 21, .conv (.int .u8) (.t 20), none⟩,
   ⟨some 22, .mv (.t 4), none⟩,
   ⟨some 23, .bin .shr (.t 22) (.c (.int .u64 16)), none⟩,
   ⟨some 24, .conv (.int .u8) (.t 23), none⟩,
   ⟨some 25, .mv (.t 4), none⟩,
   ⟨some 26, .bin .shr (.t 25) (.c (.int .u64 8)), none⟩,
   ⟨some 27, .conv (.int .u8) (.t 26), none⟩,
   ⟨some 28, .mv (.t 4), none⟩,
   ⟨some 29, .conv (.int .u8) (.t 28), none⟩,
   ⟨some 30, .mkSl true 1 [(.int .u8 0)] 4 [(0, (.t 21)), (1, (.t 24)), (2, (.t 27)), (3, (.t 29))], none⟩,
   ⟨some 31, .conv .b2s (.t 30), none⟩,
   ⟨some 32, .bin .add (.t 18) (.t 31), none⟩,
   ⟨some 33, .mv (.t 0), none⟩,
   ⟨some 34, .bin .add (.t 32) (.t 33), none⟩,
   ⟨some 2, .mv (.t 34), none⟩])
 .ret))))
def f21_lay : Lay := ⟨35, [], false⟩
def f21_res : List LRes := [.t 2]
def f21_L : LFn := ⟨1, f21_lay, f21_c0, f21_res⟩
theorem f21_low : lowFn Try.prog [] 21 = some f21_L := by kernel_rfl
theorem f21_fok : FnOk Try.prog 21 := ⟨_, Try.func21, rfl, rfl⟩
noncomputable def S_journal_frame (m : Option Nat) (a0 : List UInt8) : Option (List UInt8) :=
  if ((((([(IntKind.wrap .u8 ((a0.length : Int).fdiv (2 ^ (min (8 : Int).toNat (IntKind.bits .i64))))), (IntKind.wrap .u8 (a0.length : Int))] : List Int).map toU8).length + a0.length : Nat) : Int) ≤ 9223372036854775807) then
  (S_journal_Checksum m ((([(IntKind.wrap .u8 ((a0.length : Int).fdiv (2 ^ (min (8 : Int).toNat (IntKind.bits .i64))))), (IntKind.wrap .u8 (a0.length : Int))] : List Int).map toU8) ++ a0)).bind fun v1 =>
  if ((((([(IntKind.wrap .u8 ((a0.length : Int).fdiv (2 ^ (min (8 : Int).toNat (IntKind.bits .i64))))), (IntKind.wrap .u8 (a0.length : Int))] : List Int).map toU8).length + (([(IntKind.wrap .u8 (v1.fdiv (2 ^ (min (24 : Int).toNat (IntKind.bits .u32))))), (IntKind.wrap .u8 (v1.fdiv (2 ^ (min (16 : Int).toNat (IntKind.bits .u32))))), (IntKind.wrap .u8 (v1.fdiv (2 ^ (min (8 : Int).toNat (IntKind.bits .u32))))), (IntKind.wrap .u8 v1)] : List Int).map toU8).length : Nat) : Int) ≤ 9223372036854775807) then
  if (((((([(IntKind.wrap .u8 ((a0.length : Int).fdiv (2 ^ (min (8 : Int).toNat (IntKind.bits .i64))))), (IntKind.wrap .u8 (a0.length : Int))] : List Int).map toU8) ++ (([(IntKind.wrap .u8 (v1.fdiv (2 ^ (min (24 : Int).toNat (IntKind.bits .u32))))), (IntKind.wrap .u8 (v1.fdiv (2 ^ (min (16 : Int).toNat (IntKind.bits .u32))))), (IntKind.wrap .u8 (v1.fdiv (2 ^ (min (8 : Int).toNat (IntKind.bits .u32))))), (IntKind.wrap .u8 v1)] : List Int).map toU8)).length + a0.length : Nat) : Int) ≤ 9223372036854775807) then
  some (((([(IntKind.wrap .u8 ((a0.length : Int).fdiv (2 ^ (min (8 : Int).toNat (IntKind.bits .i64))))), (IntKind.wrap .u8 (a0.length : Int))] : List Int).map toU8) ++ (([(IntKind.wrap .u8 (v1.fdiv (2 ^ (min (24 : Int).toNat (IntKind.bits .u32))))), (IntKind.wrap .u8 (v1.fdiv (2 ^ (min (16 : Int).toNat (IntKind.bits .u32))))), (IntKind.wrap .u8 (v1.fdiv (2 ^ (min (8 : Int).toNat (IntKind.bits .u32))))), (IntKind.wrap .u8 v1)] : List Int).map toU8)) ++ a0)
  else none
  else none
  else none

def f21_Q (a0 : List UInt8) (o : (List UInt8)) : Exit → Env → AHeap → Nat → Prop := FinK f21_res (PureEnd (.str o))

theorem f21_start {a0 : List UInt8} {m : Option Nat} {o : (List UInt8)} (h : S_journal_frame m a0 = some o) : LWp Try.prog f21_lay 0 f21_c0 (f21_Q a0 o) (initEnv 0 [.str a0]) [] 0 := by
  unfold S_journal_frame at h
  refine seqI ?_
  refine regI ?_
  refine seqI ?_
  refine regI ?_
  refine And.intro (by decide) ?_
  refine Exists.intro (([(IntKind.wrap .u8 ((a0.length : Int).fdiv (2 ^ (min (8 : Int).toNat (IntKind.bits .i64))))), (IntKind.wrap .u8 (a0.length : Int))] : List Int).map toU8) (And.intro (b2s_enc ([(IntKind.wrap .u8 ((a0.length : Int).fdiv (2 ^ (min (8 : Int).toNat (IntKind.bits .i64))))), (IntKind.wrap .u8 (a0.length : Int))] : List Int)) (And.intro (b2s_all ([(IntKind.wrap .u8 ((a0.length : Int).fdiv (2 ^ (min (8 : Int).toNat (IntKind.bits .i64))))), (IntKind.wrap .u8 (a0.length : Int))] : List Int)) ?_))
  refine LWp.sim (e := [(0, .str a0), (3, .str (([(IntKind.wrap .u8 ((a0.length : Int).fdiv (2 ^ (min (8 : Int).toNat (IntKind.bits .i64))))), (IntKind.wrap .u8 (a0.length : Int))] : List Int).map toU8))]) (L := []) (n := 0) ?_ ?_
  · exact simI (M := []) rfl (And.intro (Vw.same _ rfl) (And.intro (Vw.same _ rfl) trivial)) trivial
  refine seqI ?_
  refine regI ?_
  obtain ⟨h1, h⟩ := ite_some h
  refine And.intro h1 ?_
  obtain ⟨v1, h2, h⟩ := bind_some h
  refine PFn.call (f15_ok h2) (And.intro (Vw.same _ rfl) trivial) ?_
  refine seqI ?_
  refine regI ?_
  refine And.intro (by decide) ?_
  show yops _ _ _ [(20, .int .u32 (v1.fdiv (2 ^ (min (24 : Int).toNat (IntKind.bits .u32))))), (19, .int .u32 v1), (18, .str (([(IntKind.wrap .u8 ((a0.length : Int).fdiv (2 ^ (min (8 : Int).toNat (IntKind.bits .i64))))), (IntKind.wrap .u8 (a0.length : Int))] : List Int).map toU8)), (4, .int .u32 v1), (17, .int .u32 v1), (16, .str ((([(IntKind.wrap .u8 ((a0.length : Int).fdiv (2 ^ (min (8 : Int).toNat (IntKind.bits .i64))))), (IntKind.wrap .u8 (a0.length : Int))] : List Int).map toU8) ++ a0)), (15, .str a0), (14, .str (([(IntKind.wrap .u8 ((a0.length : Int).fdiv (2 ^ (min (8 : Int).toNat (IntKind.bits .i64))))), (IntKind.wrap .u8 (a0.length : Int))] : List Int).map toU8)), (0, .str a0), (3, .str (([(IntKind.wrap .u8 ((a0.length : Int).fdiv (2 ^ (min (8 : Int).toNat (IntKind.bits .i64))))), (IntKind.wrap .u8 (a0.length : Int))] : List Int).map toU8))] _ _
  refine And.intro (by decide) ?_
  refine And.intro (by decide) ?_
  show yops _ _ _ [(26, .int .u32 (v1.fdiv (2 ^ (min (8 : Int).toNat (IntKind.bits .u32))))), (25, .int .u32 v1), (24, .int .u8 (IntKind.wrap .u8 (v1.fdiv (2 ^ (min (16 : Int).toNat (IntKind.bits .u32)))))), (23, .int .u32 (v1.fdiv (2 ^ (min (16 : Int).toNat (IntKind.bits .u32))))), (22, .int .u32 v1), (21, .int .u8 (IntKind.wrap .u8 (v1.fdiv (2 ^ (min (24 : Int).toNat (IntKind.bits .u32)))))), (20, .int .u32 (v1.fdiv (2 ^ (min (24 : Int).toNat (IntKind.bits .u32))))), (19, .int .u32 v1), (18, .str (([(IntKind.wrap .u8 ((a0.length : Int).fdiv (2 ^ (min (8 : Int).toNat (IntKind.bits .i64))))), (IntKind.wrap .u8 (a0.length : Int))] : List Int).map toU8)), (4, .int .u32 v1), (17, .int .u32 v1), (16, .str ((([(IntKind.wrap .u8 ((a0.length : Int).fdiv (2 ^ (min (8 : Int).toNat (IntKind.bits .i64))))), (IntKind.wrap .u8 (a0.length : Int))] : List Int).map toU8) ++ a0)), (15, .str a0), (14, .str (([(IntKind.wrap .u8 ((a0.length : Int).fdiv (2 ^ (min (8 : Int).toNat (IntKind.bits .i64))))), (IntKind.wrap .u8 (a0.length : Int))] : List Int).map toU8)), (0, .str a0), (3, .str (([(IntKind.wrap .u8 ((a0.length : Int).fdiv (2 ^ (min (8 : Int).toNat (IntKind.bits .i64))))), (IntKind.wrap .u8 (a0.length : Int))] : List Int).map toU8))] _ _
  refine Exists.intro (([(IntKind.wrap .u8 (v1.fdiv (2 ^ (min (24 : Int).toNat (IntKind.bits .u32))))), (IntKind.wrap .u8 (v1.fdiv (2 ^ (min (16 : Int).toNat (IntKind.bits .u32))))), (IntKind.wrap .u8 (v1.fdiv (2 ^ (min (8 : Int).toNat (IntKind.bits .u32))))), (IntKind.wrap .u8 v1)] : List Int).map toU8) (And.intro (b2s_enc ([(IntKind.wrap .u8 (v1.fdiv (2 ^ (min (24 : Int).toNat (IntKind.bits .u32))))), (IntKind.wrap .u8 (v1.fdiv (2 ^ (min (16 : Int).toNat (IntKind.bits .u32))))), (IntKind.wrap .u8 (v1.fdiv (2 ^ (min (8 : Int).toNat (IntKind.bits .u32))))), (IntKind.wrap .u8 v1)] : List Int)) (And.intro (b2s_all ([(IntKind.wrap .u8 (v1.fdiv (2 ^ (min (24 : Int).toNat (IntKind.bits .u32))))), (IntKind.wrap .u8 (v1.fdiv (2 ^ (min (16 : Int).toNat (IntKind.bits .u32))))), (IntKind.wrap .u8 (v1.fdiv (2 ^ (min (8 : Int).toNat (IntKind.bits .u32))))), (IntKind.wrap .u8 v1)] : List Int)) ?_))
  obtain ⟨h3, h⟩ := ite_some h
  refine And.intro h3 ?_
  show yops _ _ _ [(32, .str ((([(IntKind.wrap .u8 ((a0.length : Int).fdiv (2 ^ (min (8 : Int).toNat (IntKind.bits .i64))))), (IntKind.wrap .u8 (a0.length : Int))] : List Int).map toU8) ++ (([(IntKind.wrap .u8 (v1.fdiv (2 ^ (min (24 : Int).toNat (IntKind.bits .u32))))), (IntKind.wrap .u8 (v1.fdiv (2 ^ (min (16 : Int).toNat (IntKind.bits .u32))))), (IntKind.wrap .u8 (v1.fdiv (2 ^ (min (8 : Int).toNat (IntKind.bits .u32))))), (IntKind.wrap .u8 v1)] : List Int).map toU8))), (31, .str (([(IntKind.wrap .u8 (v1.fdiv (2 ^ (min (24 : Int).toNat (IntKind.bits .u32))))), (IntKind.wrap .u8 (v1.fdiv (2 ^ (min (16 : Int).toNat (IntKind.bits .u32))))), (IntKind.wrap .u8 (v1.fdiv (2 ^ (min (8 : Int).toNat (IntKind.bits .u32))))), (IntKind.wrap .u8 v1)] : List Int).map toU8)), (30, .isl 1 (([(IntKind.wrap .u8 (v1.fdiv (2 ^ (min (24 : Int).toNat (IntKind.bits .u32))))), (IntKind.wrap .u8 (v1.fdiv (2 ^ (min (16 : Int).toNat (IntKind.bits .u32))))), (IntKind.wrap .u8 (v1.fdiv (2 ^ (min (8 : Int).toNat (IntKind.bits .u32))))), (IntKind.wrap .u8 v1)] : List Int).map e_u8) true), (29, .int .u8 (IntKind.wrap .u8 v1)), (28, .int .u32 v1), (27, .int .u8 (IntKind.wrap .u8 (v1.fdiv (2 ^ (min (8 : Int).toNat (IntKind.bits .u32)))))), (26, .int .u32 (v1.fdiv (2 ^ (min (8 : Int).toNat (IntKind.bits .u32))))), (25, .int .u32 v1), (24, .int .u8 (IntKind.wrap .u8 (v1.fdiv (2 ^ (min (16 : Int).toNat (IntKind.bits .u32)))))), (23, .int .u32 (v1.fdiv (2 ^ (min (16 : Int).toNat (IntKind.bits .u32))))), (22, .int .u32 v1), (21, .int .u8 (IntKind.wrap .u8 (v1.fdiv (2 ^ (min (24 : Int).toNat (IntKind.bits .u32)))))), (20, .int .u32 (v1.fdiv (2 ^ (min (24 : Int).toNat (IntKind.bits .u32))))), (19, .int .u32 v1), (18, .str (([(IntKind.wrap .u8 ((a0.length : Int).fdiv (2 ^ (min (8 : Int).toNat (IntKind.bits .i64))))), (IntKind.wrap .u8 (a0.length : Int))] : List Int).map toU8)), (4, .int .u32 v1), (17, .int .u32 v1), (16, .str ((([(IntKind.wrap .u8 ((a0.length : Int).fdiv (2 ^ (min (8 : Int).toNat (IntKind.bits .i64))))), (IntKind.wrap .u8 (a0.length : Int))] : List Int).map toU8) ++ a0)), (15, .str a0), (14, .str (([(IntKind.wrap .u8 ((a0.length : Int).fdiv (2 ^ (min (8 : Int).toNat (IntKind.bits .i64))))), (IntKind.wrap .u8 (a0.length : Int))] : List Int).map toU8)), (0, .str a0), (3, .str (([(IntKind.wrap .u8 ((a0.length : Int).fdiv (2 ^ (min (8 : Int).toNat (IntKind.bits .i64))))), (IntKind.wrap .u8 (a0.length : Int))] : List Int).map toU8))] _ _
  obtain ⟨h4, h⟩ := ite_some h
  refine And.intro h4 ?_
  refine LWp.sim (e := [(2, .str (((([(IntKind.wrap .u8 ((a0.length : Int).fdiv (2 ^ (min (8 : Int).toNat (IntKind.bits .i64))))), (IntKind.wrap .u8 (a0.length : Int))] : List Int).map toU8) ++ (([(IntKind.wrap .u8 (v1.fdiv (2 ^ (min (24 : Int).toNat (IntKind.bits .u32))))), (IntKind.wrap .u8 (v1.fdiv (2 ^ (min (16 : Int).toNat (IntKind.bits .u32))))), (IntKind.wrap .u8 (v1.fdiv (2 ^ (min (8 : Int).toNat (IntKind.bits .u32))))), (IntKind.wrap .u8 v1)] : List Int).map toU8)) ++ a0))]) (L := []) (n := 0) ?_ ?_
  · exact simI (M := []) rfl (And.intro (Vw.same _ rfl) trivial) trivial
  refine retI ?_
  cases h
  exact And.intro trivial (And.intro rfl (Vw.same _ rfl))

theorem f21_ok {a0 : List UInt8} {m : Option Nat} {o : (List UInt8)} (h : S_journal_frame m a0 = some o) : PFn Try.prog 21 [.str a0] (.str o) := PFn.ofFnW (L := f21_L) f21_low f21_fok (Nat.le_of_ble_eq_true rfl) rfl (f21_start h)

def f14_c0 : LCode := (.seq (.region [⟨some 3, .box (.t 1), none⟩,
   ⟨some 4, .mv (.c (.str [])), none⟩,
   ⟨some 5, .mv (.c (.int .i64 0)), none⟩])
 (.seq (.seq (.region [⟨some 8, .load true 3 (.t 3), none⟩,
   ⟨some 9, .call 26 [(.t 8)], none⟩,
   ⟨some 6, .mv (.t 9), none⟩])
 (.seq (.region [⟨some 10, .mv (.t 6), none⟩,
   ⟨some 11, .bin .neq (.t 10) (.c (.int .i64 0)), none⟩])
 (.cond (.t 11)
  (.seq (.region [⟨some 12, .mv (.t 6), none⟩,
    ⟨some 4, .mv (.c (.str [])), none⟩,
    ⟨some 5, .mv (.t 12), none⟩])
  .ret)
  .skip)))
 (.seq (.region [⟨some 13, .load true 3 (.t 3), none⟩,
   ⟨some 14, .call 22 [(.t 13)], none⟩,
   ⟨some 15, .call 21 [(.t 14)], none⟩,
   ⟨some 7, .mv (.t 15), none⟩])
 (.seq (.seq (.region [⟨some 16, .mv (.t 0), none⟩,
   ⟨some 17, .len true (.t 16), none⟩,
   ⟨some 18, .mv (.t 7), none⟩,
   ⟨some 19, .len true (.t 18), none⟩,
   ⟨some 20, .bin .add (.t 17) (.t 19), none⟩,
   ⟨some 21, .bin .gtr (.t 20) (.c (.int .i64 40000)), none⟩])
 (.cond (.t 21)
  (.seq (.region [⟨some 4, .mv (.c (.str [])), none⟩,
    ⟨some 5, .mv (.c (.int .i64 2)), none⟩])
  .ret)
  .skip))
 (.seq (.region [⟨some 22, .mv (.t 0), none⟩,
   ⟨some 23, .mv (.t 7), none⟩,
   ⟨some 24, .bin .add (.t 22) (.t 23), none⟩,
   ⟨some 4, .mv (.t 24), none⟩,
   ⟨some 5, .mv (.c (.int .i64 0)), none⟩])
 .ret)))))
def f14_lay : Lay := ⟨25, [], false⟩
def f14_res : List LRes := [.t 4, .t 5]
def f14_L : LFn := ⟨2, f14_lay, f14_c0, f14_res⟩
theorem f14_low : lowFn Try.prog [] 14 = some f14_L := by kernel_rfl
theorem f14_fok : FnOk Try.prog 14 := ⟨_, Try.func14, rfl, rfl⟩
noncomputable def S_journal_Append (m : Option Nat) (a0 : List UInt8) (a1 : G_QRecord) : Option ((List UInt8) × Int) :=
  (S_journal_validate m a1).bind fun v1 =>
  if (v1 != 0) = true then
    some (([] : List UInt8), v1)
  else
    (S_journal_payload m a1).bind fun v2 =>
    (S_journal_frame m v2).bind fun v3 =>
    if (decide ((W ((a0.length : Int) + (v3.length : Int))) > 40000)) = true then
      some (([] : List UInt8), 2)
    else
      if (((a0.length + v3.length : Nat) : Int) ≤ 9223372036854775807) then
      some ((a0 ++ v3), 0)
      else none

def f14_Q (a0 : List UInt8) (a1 : G_QRecord) (o : (List UInt8) × Int) : Exit → Env → AHeap → Nat → Prop := FinK f14_res (PureEnd (.tup [.str o.1, .int .i64 o.2]))

theorem f14_start {a0 : List UInt8} {a1 : G_QRecord} {m : Option Nat} {o : (List UInt8) × Int} (h : S_journal_Append m a0 a1 = some o) : LWp Try.prog f14_lay 0 f14_c0 (f14_Q a0 a1 o) (initEnv 0 [.str a0, .agg [.str a1.f_Key, .str a1.f_Value, .bool a1.f_Deleted]]) [] 0 := by
  unfold S_journal_Append at h
  refine seqI ?_
  refine regI ?_
  refine seqI ?_
  refine seqI ?_
  refine regI ?_
  obtain ⟨v1, h1, h⟩ := bind_some h
  refine PFn.call (f26_ok h1) (And.intro (Vw.same _ rfl) trivial) ?_
  show yops _ _ _ [(9, .int .i64 v1), (8, .agg [.str a1.f_Key, .str a1.f_Value, .bool a1.f_Deleted]), (5, .int .i64 0), (4, .str ([] : List UInt8)), (3, .ptr (0, 0) 0 0), (0, .str a0), (1, .agg [.str a1.f_Key, .str a1.f_Value, .bool a1.f_Deleted])] _ _
  refine seqI ?_
  refine regI ?_
  refine LWp.sim (e := [(0, .str a0), (3, .ptr (0, 0) 0 0), (6, .int .i64 v1), (11, .bool (v1 != 0))]) (L := [((0, 0), .one [.str a1.f_Key, .str a1.f_Value, .bool a1.f_Deleted])]) (n := 1) ?_ ?_
  · exact simI (M := [((0, 0), (0, 0))]) rfl (And.intro (Vw.same _ rfl) (And.intro (Vw.ptr _ _ _ _ rfl) (And.intro (Vw.same _ rfl) (And.intro (Vw.same _ rfl) trivial)))) (And.intro (And.intro rfl (BVw.oneL (And.intro (Vw.same _ rfl) (And.intro (Vw.same _ rfl) (And.intro (Vw.same _ rfl) trivial))))) trivial)
  refine condI (v := (v1 != 0)) rfl trivial (fun h2 => ?_) (fun h2 => ?_)
  · have h := ite_tt h2 h
    refine seqI ?_
    refine regI ?_
    refine retI ?_
    cases h
    exact And.intro trivial (And.intro trivial (And.intro rfl (Vw.same _ rfl)))
  · have h := ite_ff h2 h
    refine skipI ?_
    refine seqI ?_
    refine regI ?_
    obtain ⟨v2, h3, h⟩ := bind_some h
    refine PFn.call (f22_ok h3) (And.intro (Vw.same _ rfl) trivial) ?_
    obtain ⟨v3, h4, h⟩ := bind_some h
    refine PFn.call (f21_ok h4) (And.intro (Vw.same _ rfl) trivial) ?_
    refine seqI ?_
    refine seqI ?_
    refine regI ?_
    refine LWp.sim (e := [(0, .str a0), (7, .str v3), (21, .bool (decide ((W ((a0.length : Int) + (v3.length : Int))) > 40000)))]) (L := []) (n := 0) ?_ ?_
    · exact simI (M := []) rfl (And.intro (Vw.same _ rfl) (And.intro (Vw.same _ rfl) (And.intro (Vw.same _ rfl) trivial))) trivial
    refine condI (v := (decide ((W ((a0.length : Int) + (v3.length : Int))) > 40000))) rfl trivial (fun h5 => ?_) (fun h5 => ?_)
    · have h := ite_tt h5 h
      refine seqI ?_
      refine regI ?_
      refine retI ?_
      cases h
      exact And.intro trivial (And.intro trivial (And.intro rfl (Vw.same _ rfl)))
    · have h := ite_ff h5 h
      refine skipI ?_
      refine seqI ?_
      refine regI ?_
      obtain ⟨h6, h⟩ := ite_some h
      refine And.intro h6 ?_
      refine retI ?_
      cases h
      exact And.intro trivial (And.intro trivial (And.intro rfl (Vw.same _ rfl)))

theorem f14_ok {a0 : List UInt8} {a1 : G_QRecord} {m : Option Nat} {o : (List UInt8) × Int} (h : S_journal_Append m a0 a1 = some o) : PFn Try.prog 14 [.str a0, .agg [.str a1.f_Key, .str a1.f_Value, .bool a1.f_Deleted]] (.tup [.str o.1, .int .i64 o.2]) := PFn.ofFnW (L := f14_L) f14_low f14_fok (Nat.le_of_ble_eq_true rfl) rfl (f14_start h)

def f42_c0 : LCode := (.seq (.region [⟨some 2, .alloc [(.str []), (.str []), (.bool false)], none⟩,
   ⟨some 3, .mv (.c (.bool false)), none⟩])
 (.seq (.seq (.region [⟨some 6, .mv (.t 0), none⟩,
   ⟨some 7, .len true (.t 6), none⟩,
   ⟨some 8, .bin .lss (.t 7) (.c (.int .i64 2)), none⟩,
   ⟨some 9, .mv (.t 8), none⟩,
   ⟨some 10, .mv (.t 0), some (9, false)⟩,
   ⟨some 11, .idxS (.t 10) (.c (.int .i64 0)), some (9, false)⟩,
   ⟨some 12, .bin .gtr (.t 11) (.c (.int .u8 1)), some (9, false)⟩,
   ⟨some 13, .pick (.t 9) (.c (.bool true)) (.t 12), none⟩,
   ⟨some 14, .mv (.t 13), none⟩,
   ⟨some 15, .mv (.t 0), some (14, false)⟩,
   ⟨some 16, .len true (.t 15), some (14, false)⟩,
   ⟨some 17, .mv (.t 0), some (14, false)⟩,
   ⟨some 18, .idxS (.t 17) (.c (.int .i64 1)), some (14, false)⟩,
   ⟨some 19, .conv (.int .i64) (.t 18), some (14, false)⟩,
   ⟨some 20, .bin .add (.c (.int .i64 2)) (.t 19), some (14, false)⟩,
   ⟨some 21, .bin .lss (.t 16) (.t 20), some (14, false)⟩,
   ⟨some 22, .pick (.t 14) (.c (.bool true)) (.t 21), none⟩])
 (.cond (.t 22)
  (.seq (.region [⟨some 23, .build [(.str []), (.str []), (.bool false)] [], none⟩,
    ⟨none, .store 3 (.t 2) (.t 23), none⟩,
    ⟨some 3, .mv (.c (.bool false)), none⟩])
  .ret)
  .skip))
 (.seq (.region [⟨some 24, .mv (.t 0), none⟩,
   ⟨some 25, .idxS (.t 24) (.c (.int .i64 1)), none⟩,
   ⟨some 26, .conv (.int .i64) (.t 25), none⟩,
   ⟨some 27, .bin .add (.c (.int .i64 2)) (.t 26), none⟩,
   ⟨some 4, .mv (.t 27), none⟩])
 (.seq (.draw [⟨⟨some 28, .mv (.t 0), none⟩, []⟩,
   ⟨⟨some 29, .mv (.t 4), none⟩, []⟩,
   ⟨⟨some 30, .slStr (.t 28) (some (.c (.int .i64 2))) (some (.t 29)), none⟩, []⟩,
   ⟨⟨some 31, .mv (.t 0), none⟩, []⟩,
   ⟨⟨some 32, .mv (.t 4), none⟩, []⟩,
   ⟨⟨some 33, .slStr (.t 31) (some (.t 32)) none, none⟩, []⟩,
   ⟨⟨some 34, .mv (.t 0), none⟩, []⟩,
   ⟨⟨some 35, .idxS (.t 34) (.c (.int .i64 0)), none⟩, []⟩,
   ⟨⟨some 36, .bin .eql (.t 35) (.c (.int .u8 1)), none⟩, []⟩,
   ⟨⟨some 37, .build [(.str []), (.str []), (.bool false)] [(0, 1, (.t 30)), (1, 1, (.t 33)), (2, 1, (.t 36))], none⟩, []⟩,
   ⟨⟨some 5, .alloc [(.str []), (.str []), (.bool false)], none⟩, []⟩,
   ⟨⟨none, .store 3 (.t 5) (.t 37), none⟩, []⟩])
 (.seq (.draw [⟨⟨some 38, .load true 3 (.t 5), none⟩, []⟩,
   ⟨⟨some 39, .load true 3 (.t 5), none⟩, []⟩,
   ⟨⟨some 40, .call 26 [(.t 39)], none⟩, [0]⟩,
   ⟨⟨some 41, .bin .eql (.t 40) (.c (.int .i64 0)), none⟩, []⟩,
   ⟨⟨none, .store 3 (.t 2) (.t 38), none⟩, []⟩,
   ⟨⟨some 3, .mv (.t 41), none⟩, []⟩])
 .ret)))))
def f42_lay : Lay := ⟨42, [], false⟩
def f42_res : List LRes := [.cell 2 true 3, .t 3]
def f42_L : LFn := ⟨1, f42_lay, f42_c0, f42_res⟩
theorem f42_low : lowFn Try.prog [] 42 = some f42_L := by kernel_rfl
theorem f42_fok : FnOk Try.prog 42 := ⟨_, Try.func42, rfl, rfl⟩
noncomputable def S_journal_parse (m : Option Nat) (a0 : List UInt8) : Option (G_QRecord × Bool) :=
  if (((decide ((a0.length : Int) < 2)) == false) = true → (0 : Int) ≤ 0 ∧ 0 < (a0.length : Int)) then
  if ((((decide ((a0.length : Int) < 2)) || (decide ((((a0.getD (0 : Int).toNat 0).toNat : Nat) : Int) > 1))) == false) = true → (0 : Int) ≤ 1 ∧ 1 < (a0.length : Int)) then
  if (((decide ((a0.length : Int) < 2)) || (decide ((((a0.getD (0 : Int).toNat 0).toNat : Nat) : Int) > 1))) || (decide ((a0.length : Int) < (W ((2 : Int) + (W (((a0.getD (1 : Int).toNat 0).toNat : Nat) : Int))))))) = true then
    some ((G_QRecord.mk ([] : List UInt8) ([] : List UInt8) false), false)
  else
    if (0 : Int) ≤ 1 ∧ 1 < (a0.length : Int) then
    if (0 : Int) ≤ 2 ∧ (2 : Int) ≤ (W ((2 : Int) + (W (((a0.getD (1 : Int).toNat 0).toNat : Nat) : Int)))) ∧ (W ((2 : Int) + (W (((a0.getD (1 : Int).toNat 0).toNat : Nat) : Int)))) ≤ (a0.length : Int) then
    if (0 : Int) ≤ (W ((2 : Int) + (W (((a0.getD (1 : Int).toNat 0).toNat : Nat) : Int)))) ∧ (W ((2 : Int) + (W (((a0.getD (1 : Int).toNat 0).toNat : Nat) : Int)))) ≤ (a0.length : Int) then
    if (0 : Int) ≤ 0 ∧ 0 < (a0.length : Int) then
    (S_journal_validate m (G_QRecord.mk ((a0.take (W ((2 : Int) + (W (((a0.getD (1 : Int).toNat 0).toNat : Nat) : Int)))).toNat).drop (2 : Int).toNat) ((a0.take a0.length).drop (W ((2 : Int) + (W (((a0.getD (1 : Int).toNat 0).toNat : Nat) : Int)))).toNat) ((((a0.getD (0 : Int).toNat 0).toNat : Nat) : Int) == 1))).bind fun v1 =>
    some ((G_QRecord.mk ((a0.take (W ((2 : Int) + (W (((a0.getD (1 : Int).toNat 0).toNat : Nat) : Int)))).toNat).drop (2 : Int).toNat) ((a0.take a0.length).drop (W ((2 : Int) + (W (((a0.getD (1 : Int).toNat 0).toNat : Nat) : Int)))).toNat) ((((a0.getD (0 : Int).toNat 0).toNat : Nat) : Int) == 1)), (v1 == 0))
    else none
    else none
    else none
    else none
  else none
  else none

def f42_Q (a0 : List UInt8) (o : G_QRecord × Bool) : Exit → Env → AHeap → Nat → Prop := FinK f42_res (PureEnd (.tup [.agg [.str o.1.f_Key, .str o.1.f_Value, .bool o.1.f_Deleted], .bool o.2]))

theorem f42_start {a0 : List UInt8} {m : Option Nat} {o : G_QRecord × Bool} (h : S_journal_parse m a0 = some o) : LWp Try.prog f42_lay 0 f42_c0 (f42_Q a0 o) (initEnv 0 [.str a0]) [] 0 := by
  unfold S_journal_parse at h
  refine seqI ?_
  refine regI ?_
  refine seqI ?_
  refine seqI ?_
  refine regI ?_
  obtain ⟨h1, h⟩ := ite_some h
  refine And.intro (fun hp => (And.intro hp (h1 hp))) ?_
  show yops _ _ _ [(11, .cnd ((decide ((a0.length : Int) < 2)) == false) (.int .u8 (((a0.getD (0 : Int).toNat 0).toNat : Nat) : Int))), (10, .cnd ((decide ((a0.length : Int) < 2)) == false) (.str a0)), (9, .bool (decide ((a0.length : Int) < 2))), (8, .bool (decide ((a0.length : Int) < 2))), (7, .int .i64 (a0.length : Int)), (6, .str a0), (3, .bool false), (2, .ptr (0, 0) 0 0), (0, .str a0)] _ _
  refine And.intro (fun hp => hp) ?_
  refine And.intro (fun hc => (bqf hc)) ?_
  refine And.intro (fun hp => hp) ?_
  show yops _ _ _ [(16, .cnd (((decide ((a0.length : Int) < 2)) || (decide ((((a0.getD (0 : Int).toNat 0).toNat : Nat) : Int) > 1))) == false) (.int .i64 (a0.length : Int))), (15, .cnd (((decide ((a0.length : Int) < 2)) || (decide ((((a0.getD (0 : Int).toNat 0).toNat : Nat) : Int) > 1))) == false) (.str a0)), (14, .bool ((decide ((a0.length : Int) < 2)) || (decide ((((a0.getD (0 : Int).toNat 0).toNat : Nat) : Int) > 1)))), (13, .bool ((decide ((a0.length : Int) < 2)) || (decide ((((a0.getD (0 : Int).toNat 0).toNat : Nat) : Int) > 1)))), (12, .cnd ((decide ((a0.length : Int) < 2)) == false) (.bool (decide ((((a0.getD (0 : Int).toNat 0).toNat : Nat) : Int) > 1)))), (11, .cnd ((decide ((a0.length : Int) < 2)) == false) (.int .u8 (((a0.getD (0 : Int).toNat 0).toNat : Nat) : Int))), (10, .cnd ((decide ((a0.length : Int) < 2)) == false) (.str a0)), (9, .bool (decide ((a0.length : Int) < 2))), (8, .bool (decide ((a0.length : Int) < 2))), (7, .int .i64 (a0.length : Int)), (6, .str a0), (3, .bool false), (2, .ptr (0, 0) 0 0), (0, .str a0)] _ _
  obtain ⟨h2, h⟩ := ite_some h
  refine And.intro (fun hp => (And.intro hp (h2 hp))) ?_
  refine And.intro (fun hp => hp) ?_
  refine And.intro (fun hp => hp) ?_
  refine And.intro (fun hp => (And.intro hp hp)) ?_
  show yops _ _ _ [(21, .cnd (((decide ((a0.length : Int) < 2)) || (decide ((((a0.getD (0 : Int).toNat 0).toNat : Nat) : Int) > 1))) == false) (.bool (decide ((a0.length : Int) < (W ((2 : Int) + (W (((a0.getD (1 : Int).toNat 0).toNat : Nat) : Int)))))))), (20, .cnd (((decide ((a0.length : Int) < 2)) || (decide ((((a0.getD (0 : Int).toNat 0).toNat : Nat) : Int) > 1))) == false) (.int .i64 (W ((2 : Int) + (W (((a0.getD (1 : Int).toNat 0).toNat : Nat) : Int)))))), (19, .cnd (((decide ((a0.length : Int) < 2)) || (decide ((((a0.getD (0 : Int).toNat 0).toNat : Nat) : Int) > 1))) == false) (.int .i64 (W (((a0.getD (1 : Int).toNat 0).toNat : Nat) : Int)))), (18, .cnd (((decide ((a0.length : Int) < 2)) || (decide ((((a0.getD (0 : Int).toNat 0).toNat : Nat) : Int) > 1))) == false) (.int .u8 (((a0.getD (1 : Int).toNat 0).toNat : Nat) : Int))), (17, .cnd (((decide ((a0.length : Int) < 2)) || (decide ((((a0.getD (0 : Int).toNat 0).toNat : Nat) : Int) > 1))) == false) (.str a0)), (16, .cnd (((decide ((a0.length : Int) < 2)) || (decide ((((a0.getD (0 : Int).toNat 0).toNat : Nat) : Int) > 1))) == false) (.int .i64 (a0.length : Int))), (15, .cnd (((decide ((a0.length : Int) < 2)) || (decide ((((a0.getD (0 : Int).toNat 0).toNat : Nat) : Int) > 1))) == false) (.str a0)), (14, .bool ((decide ((a0.length : Int) < 2)) || (decide ((((a0.getD (0 : Int).toNat 0).toNat : Nat) : Int) > 1)))), (13, .bool ((decide ((a0.length : Int) < 2)) || (decide ((((a0.getD (0 : Int).toNat 0).toNat : Nat) : Int) > 1)))), (12, .cnd ((decide ((a0.length : Int) < 2)) == false) (.bool (decide ((((a0.getD (0 : Int).toNat 0).toNat : Nat) : Int) > 1)))), (11, .cnd ((decide ((a0.length : Int) < 2)) == false) (.int .u8 (((a0.getD (0 : Int).toNat 0).toNat : Nat) : Int))), (10, .cnd ((decide ((a0.length : Int) < 2)) == false) (.str a0)), (9, .bool (decide ((a0.length : Int) < 2))), (8, .bool (decide ((a0.length : Int) < 2))), (7, .int .i64 (a0.length : Int)), (6, .str a0), (3, .bool false), (2, .ptr (0, 0) 0 0), (0, .str a0)] _ _
  refine And.intro (fun hc => (bqf hc)) ?_
  refine LWp.sim (e := [(0, .str a0), (2, .ptr (0, 0) 0 0), (22, .bool (((decide ((a0.length : Int) < 2)) || (decide ((((a0.getD (0 : Int).toNat 0).toNat : Nat) : Int) > 1))) || (decide ((a0.length : Int) < (W ((2 : Int) + (W (((a0.getD (1 : Int).toNat 0).toNat : Nat) : Int))))))))]) (L := [((0, 0), .one [.str ([] : List UInt8), .str ([] : List UInt8), .bool false])]) (n := 1) ?_ ?_
  · exact simI (M := [((0, 0), (0, 0))]) rfl (And.intro (Vw.same _ rfl) (And.intro (Vw.ptr _ _ _ _ rfl) (And.intro (Vw.same _ rfl) trivial))) (And.intro (And.intro rfl (BVw.oneL (And.intro (Vw.same _ rfl) (And.intro (Vw.same _ rfl) (And.intro (Vw.same _ rfl) trivial))))) trivial)
  refine condI (v := (((decide ((a0.length : Int) < 2)) || (decide ((((a0.getD (0 : Int).toNat 0).toNat : Nat) : Int) > 1))) || (decide ((a0.length : Int) < (W ((2 : Int) + (W (((a0.getD (1 : Int).toNat 0).toNat : Nat) : Int)))))))) rfl trivial (fun h3 => ?_) (fun h3 => ?_)
  · have h := ite_tt h3 h
    refine seqI ?_
    refine regI ?_
    refine retI ?_
    cases h
    exact And.intro (And.intro trivial (And.intro rfl (Nat.le_of_ble_eq_true rfl))) (And.intro trivial (And.intro rfl (Vw.same _ rfl)))
  · have h := ite_ff h3 h
    refine skipI ?_
    refine seqI ?_
    refine regI ?_
    obtain ⟨h4, h⟩ := ite_some h
    refine And.intro h4 ?_
    refine seqI ?_
    refine drawO rfl ?_
    obtain ⟨h5, h⟩ := ite_some h
    refine And.intro h5 ?_
    show yops _ _ _ [(30, .str ((a0.take (W ((2 : Int) + (W (((a0.getD (1 : Int).toNat 0).toNat : Nat) : Int)))).toNat).drop (2 : Int).toNat)), (29, .int .i64 (W ((2 : Int) + (W (((a0.getD (1 : Int).toNat 0).toNat : Nat) : Int))))), (28, .str a0), (4, .int .i64 (W ((2 : Int) + (W (((a0.getD (1 : Int).toNat 0).toNat : Nat) : Int))))), (27, .int .i64 (W ((2 : Int) + (W (((a0.getD (1 : Int).toNat 0).toNat : Nat) : Int))))), (26, .int .i64 (W (((a0.getD (1 : Int).toNat 0).toNat : Nat) : Int))), (25, .int .u8 (((a0.getD (1 : Int).toNat 0).toNat : Nat) : Int)), (24, .str a0), (0, .str a0), (2, .ptr (0, 0) 0 0), (22, .bool (((decide ((a0.length : Int) < 2)) || (decide ((((a0.getD (0 : Int).toNat 0).toNat : Nat) : Int) > 1))) || (decide ((a0.length : Int) < (W ((2 : Int) + (W (((a0.getD (1 : Int).toNat 0).toNat : Nat) : Int))))))))] _ _
    obtain ⟨h6, h⟩ := ite_some h
    refine And.intro (And.intro (And.left h6) (And.intro (And.right h6) (Int.le_refl _))) ?_
    obtain ⟨h7, h⟩ := ite_some h
    refine And.intro h7 ?_
    show yops _ _ _ [(35, .int .u8 (((a0.getD (0 : Int).toNat 0).toNat : Nat) : Int)), (34, .str a0), (33, .str ((a0.take a0.length).drop (W ((2 : Int) + (W (((a0.getD (1 : Int).toNat 0).toNat : Nat) : Int)))).toNat)), (32, .int .i64 (W ((2 : Int) + (W (((a0.getD (1 : Int).toNat 0).toNat : Nat) : Int))))), (31, .str a0), (30, .str ((a0.take (W ((2 : Int) + (W (((a0.getD (1 : Int).toNat 0).toNat : Nat) : Int)))).toNat).drop (2 : Int).toNat)), (29, .int .i64 (W ((2 : Int) + (W (((a0.getD (1 : Int).toNat 0).toNat : Nat) : Int))))), (28, .str a0), (4, .int .i64 (W ((2 : Int) + (W (((a0.getD (1 : Int).toNat 0).toNat : Nat) : Int))))), (27, .int .i64 (W ((2 : Int) + (W (((a0.getD (1 : Int).toNat 0).toNat : Nat) : Int))))), (26, .int .i64 (W (((a0.getD (1 : Int).toNat 0).toNat : Nat) : Int))), (25, .int .u8 (((a0.getD (1 : Int).toNat 0).toNat : Nat) : Int)), (24, .str a0), (0, .str a0), (2, .ptr (0, 0) 0 0), (22, .bool (((decide ((a0.length : Int) < 2)) || (decide ((((a0.getD (0 : Int).toNat 0).toNat : Nat) : Int) > 1))) || (decide ((a0.length : Int) < (W ((2 : Int) + (W (((a0.getD (1 : Int).toNat 0).toNat : Nat) : Int))))))))] _ _
    refine LWp.sim (e := [(2, .ptr (0, 0) 0 0), (5, .ptr (1, 0) 0 0)]) (L := [((0, 0), .one [.str ([] : List UInt8), .str ([] : List UInt8), .bool false]), ((1, 0), .one [.str ((a0.take (W ((2 : Int) + (W (((a0.getD (1 : Int).toNat 0).toNat : Nat) : Int)))).toNat).drop (2 : Int).toNat), .str ((a0.take a0.length).drop (W ((2 : Int) + (W (((a0.getD (1 : Int).toNat 0).toNat : Nat) : Int)))).toNat), .bool ((((a0.getD (0 : Int).toNat 0).toNat : Nat) : Int) == 1)])]) (n := 2) ?_ ?_
    · exact simI (M := [((0, 0), (0, 0)), ((1, 0), (1, 0))]) rfl (And.intro (Vw.ptr _ _ _ _ rfl) (And.intro (Vw.ptr _ _ _ _ rfl) trivial)) (And.intro (And.intro rfl (BVw.oneL (And.intro (Vw.same _ rfl) (And.intro (Vw.same _ rfl) (And.intro (Vw.same _ rfl) trivial))))) (And.intro (And.intro rfl (BVw.oneL (And.intro (Vw.same _ rfl) (And.intro (Vw.same _ rfl) (And.intro (Vw.same _ rfl) trivial))))) trivial))
    refine seqI ?_
    refine drawI ?_
    obtain ⟨v1, h8, h⟩ := bind_some h
    refine PFn.call (f26_ok h8) (And.intro (Vw.same _ rfl) trivial) ?_
    refine And.intro rfl ?_
    refine retI ?_
    cases h
    exact And.intro (And.intro trivial (And.intro rfl (Nat.le_of_ble_eq_true rfl))) (And.intro trivial (And.intro rfl (Vw.same _ rfl)))

theorem f42_ok {a0 : List UInt8} {m : Option Nat} {o : G_QRecord × Bool} (h : S_journal_parse m a0 = some o) : PFn Try.prog 42 [.str a0] (.tup [.agg [.str o.1.f_Key, .str o.1.f_Value, .bool o.1.f_Deleted], .bool o.2]) := PFn.ofFnW (L := f42_L) f42_low f42_fok (Nat.le_of_ble_eq_true rfl) rfl (f42_start h)

def f30_c0 : LCode := (.seq (.region [⟨some 2, .alloc [(.str []), (.str []), (.bool false)], none⟩,
   ⟨some 3, .mv (.c (.int .i64 0)), none⟩,
   ⟨some 4, .mv (.c (.int .i64 0)), none⟩])
 (.seq (.seq (.region [⟨some 7, .mv (.t 0), none⟩,
   ⟨some 8, .len true (.t 7), none⟩,
   ⟨some 9, .bin .lss (.t 8) (.c (.int .i64 6)), none⟩])
 (.cond (.t 9)
  (.seq (.region [⟨some 10, .build [(.str []), (.str []), (.bool false)] [], none⟩,
    ⟨none, .store 3 (.t 2) (.t 10), none⟩,
    ⟨some 3, .mv (.c (.int .i64 0)), none⟩,
    ⟨some 4, .mv (.c (.int .i64 0)), none⟩])
  .ret)
  .skip))
 (.seq (.quiet [⟨some 11, .mv (.t 0), none⟩,
   ⟨some 12, .idxS (.t 11) (.c (.int .i64 0)), none⟩,
   ⟨some 13, .conv (.int .i64) (.t 12), none⟩,
   ⟨some 14, .bin .shl (.t 13) (.c (.int .u64 8)), none⟩,
   ⟨some 15, .bin .add (.c (.int .i64 6)) (.t 14), none⟩,
   ⟨some 16, .mv (.t 0), none⟩,
   ⟨some 17, .idxS (.t 16) (.c (.int .i64 1)), none⟩,
   ⟨some 18, .conv (.int .i64) (.t 17), none⟩,
   ⟨some 19, .bin .add (.t 15) (.t 18), none⟩,
   ⟨some 3, .mv (.t 19), none⟩])
 (.seq (.seq (.region [⟨some 20, .mv (.t 0), none⟩,
   ⟨some 21, .len true (.t 20), none⟩,
   ⟨some 22, .mv (.t 3), none⟩,
   ⟨some 23, .bin .lss (.t 21) (.t 22), none⟩])
 (.cond (.t 23)
  (.seq (.region [⟨some 24, .build [(.str []), (.str []), (.bool false)] [], none⟩,
    ⟨none, .store 3 (.t 2) (.t 24), none⟩,
    ⟨some 3, .mv (.c (.int .i64 0)), none⟩,
    ⟨some 4, .mv (.c (.int .i64 0)), none⟩])
  .ret)
  .skip))
 (.seq (.region [⟨some 25, .mv (.t 0), none⟩,
   ⟨some 26, .mv (.t 3), none⟩,
   ⟨some 27, .slStr (.t 25) (some (.c (.int .i64 6))) (some (.t 26)), none⟩,
   ⟨some 5, .mv (.t 27), none⟩])
 (.seq (.seq (.draw [⟨⟨some 28, .mv (.t 5), none⟩, []⟩,
   ⟨⟨some 30, .mv (.t 0), none⟩, []⟩,
   ⟨⟨some 31, .mv (.t 3), none⟩, []⟩,
   ⟨⟨some 32, .slStr (.t 30) none (some (.t 31)), none⟩, []⟩,
   ⟨⟨some 29, .call 21 [(.t 28)], none⟩, []⟩,
   ⟨⟨some 33, .bin .neq (.t 29) (.t 32), none⟩, []⟩])
 (.cond (.t 33)
  (.seq (.region [⟨some 34, .build [(.str []), (.str []), (.bool false)] [], none⟩,
    ⟨none, .store 3 (.t 2) (.t 34), none⟩,
    ⟨some 3, .mv (.c (.int .i64 0)), none⟩,
    ⟨some 4, .mv (.c (.int .i64 13)), none⟩])
  .ret)
  .skip))
 (.seq (.region [⟨some 36, .mv (.t 5), none⟩,
   ⟨some 37, .call 42 [(.t 36)], none⟩,
   ⟨some 35, .mv (.t 37), none⟩,
   ⟨some 38, .ext 0 (.t 35), none⟩,
   ⟨some 39, .ext 1 (.t 35), none⟩,
   ⟨none, .store 3 (.t 2) (.t 38), none⟩,
   ⟨some 6, .mv (.t 39), none⟩])
 (.seq (.seq (.region [⟨some 40, .mv (.t 6), none⟩,
   ⟨some 41, .un .not (.t 40), none⟩])
 (.cond (.t 41)
  (.seq (.region [⟨some 42, .build [(.str []), (.str []), (.bool false)] [], none⟩,
    ⟨none, .store 3 (.t 2) (.t 42), none⟩,
    ⟨some 3, .mv (.c (.int .i64 0)), none⟩,
    ⟨some 4, .mv (.c (.int .i64 3)), none⟩])
  .ret)
  .skip))
 (.seq (.region [⟨some 43, .load true 3 (.t 2), none⟩,
   ⟨some 44, .mv (.t 3), none⟩,
   ⟨none, .store 3 (.t 2) (.t 43), none⟩,
   ⟨some 3, .mv (.t 44), none⟩,
   ⟨some 4, .mv (.c (.int .i64 0)), none⟩])
 .ret)))))))))
def f30_lay : Lay := ⟨45, [], false⟩
def f30_res : List LRes := [.cell 2 true 3, .t 3, .t 4]
def f30_L : LFn := ⟨1, f30_lay, f30_c0, f30_res⟩
theorem f30_low : lowFn Try.prog [] 30 = some f30_L := by kernel_rfl
theorem f30_fok : FnOk Try.prog 30 := ⟨_, Try.func30, rfl, rfl⟩
noncomputable def S_journal_next (m : Option Nat) (a0 : List UInt8) : Option (G_QRecord × Int × Int) :=
  if (decide ((a0.length : Int) < 6)) = true then
    some ((G_QRecord.mk ([] : List UInt8) ([] : List UInt8) false), 0, 0)
  else
    if (0 : Int) ≤ 0 ∧ 0 < (a0.length : Int) then
    if (0 : Int) ≤ 1 ∧ 1 < (a0.length : Int) then
    if (decide ((a0.length : Int) < (W ((W ((6 : Int) + (W ((W (((a0.getD (0 : Int).toNat 0).toNat : Nat) : Int)) * 2 ^ (min (8 : Int).toNat (IntKind.bits .i64)))))) + (W (((a0.getD (1 : Int).toNat 0).toNat : Nat) : Int)))))) = true then
      some ((G_QRecord.mk ([] : List UInt8) ([] : List UInt8) false), 0, 0)
    else
      if (0 : Int) ≤ 6 ∧ (6 : Int) ≤ (W ((W ((6 : Int) + (W ((W (((a0.getD (0 : Int).toNat 0).toNat : Nat) : Int)) * 2 ^ (min (8 : Int).toNat (IntKind.bits .i64)))))) + (W (((a0.getD (1 : Int).toNat 0).toNat : Nat) : Int)))) ∧ (W ((W ((6 : Int) + (W ((W (((a0.getD (0 : Int).toNat 0).toNat : Nat) : Int)) * 2 ^ (min (8 : Int).toNat (IntKind.bits .i64)))))) + (W (((a0.getD (1 : Int).toNat 0).toNat : Nat) : Int)))) ≤ (a0.length : Int) then
      if (0 : Int) ≤ (W ((W ((6 : Int) + (W ((W (((a0.getD (0 : Int).toNat 0).toNat : Nat) : Int)) * 2 ^ (min (8 : Int).toNat (IntKind.bits .i64)))))) + (W (((a0.getD (1 : Int).toNat 0).toNat : Nat) : Int)))) ∧ (W ((W ((6 : Int) + (W ((W (((a0.getD (0 : Int).toNat 0).toNat : Nat) : Int)) * 2 ^ (min (8 : Int).toNat (IntKind.bits .i64)))))) + (W (((a0.getD (1 : Int).toNat 0).toNat : Nat) : Int)))) ≤ (a0.length : Int) then
      (S_journal_frame m ((a0.take (W ((W ((6 : Int) + (W ((W (((a0.getD (0 : Int).toNat 0).toNat : Nat) : Int)) * 2 ^ (min (8 : Int).toNat (IntKind.bits .i64)))))) + (W (((a0.getD (1 : Int).toNat 0).toNat : Nat) : Int)))).toNat).drop (6 : Int).toNat)).bind fun v1 =>
      if (!(v1 == ((a0.take (W ((W ((6 : Int) + (W ((W (((a0.getD (0 : Int).toNat 0).toNat : Nat) : Int)) * 2 ^ (min (8 : Int).toNat (IntKind.bits .i64)))))) + (W (((a0.getD (1 : Int).toNat 0).toNat : Nat) : Int)))).toNat).drop 0))) = true then
        some ((G_QRecord.mk ([] : List UInt8) ([] : List UInt8) false), 0, 13)
      else
        (S_journal_parse m ((a0.take (W ((W ((6 : Int) + (W ((W (((a0.getD (0 : Int).toNat 0).toNat : Nat) : Int)) * 2 ^ (min (8 : Int).toNat (IntKind.bits .i64)))))) + (W (((a0.getD (1 : Int).toNat 0).toNat : Nat) : Int)))).toNat).drop (6 : Int).toNat)).bind fun v2 =>
        if (!v2.2) = true then
          some ((G_QRecord.mk ([] : List UInt8) ([] : List UInt8) false), 0, 3)
        else
          some ((G_QRecord.mk v2.1.f_Key v2.1.f_Value v2.1.f_Deleted), (W ((W ((6 : Int) + (W ((W (((a0.getD (0 : Int).toNat 0).toNat : Nat) : Int)) * 2 ^ (min (8 : Int).toNat (IntKind.bits .i64)))))) + (W (((a0.getD (1 : Int).toNat 0).toNat : Nat) : Int)))), 0)
      else none
      else none
    else none
    else none

def f30_Q (a0 : List UInt8) (o : G_QRecord × Int × Int) : Exit → Env → AHeap → Nat → Prop := FinK f30_res (PureEnd (.tup [.agg [.str o.1.f_Key, .str o.1.f_Value, .bool o.1.f_Deleted], .int .i64 o.2.1, .int .i64 o.2.2]))

theorem f30_start {a0 : List UInt8} {m : Option Nat} {o : G_QRecord × Int × Int} (h : S_journal_next m a0 = some o) : LWp Try.prog f30_lay 0 f30_c0 (f30_Q a0 o) (initEnv 0 [.str a0]) [] 0 := by
  unfold S_journal_next at h
  refine seqI ?_
  refine regI ?_
  refine seqI ?_
  refine seqI ?_
  refine regI ?_
  refine condI (v := (decide ((a0.length : Int) < 6))) rfl trivial (fun h1 => ?_) (fun h1 => ?_)
  · have h := ite_tt h1 h
    refine seqI ?_
    refine regI ?_
    refine LWp.sim (e := [(2, .ptr (0, 0) 0 0), (3, .int .i64 0), (4, .int .i64 0)]) (L := [((0, 0), .one [.str ([] : List UInt8), .str ([] : List UInt8), .bool false])]) (n := 1) ?_ ?_
    · exact simI (M := [((0, 0), (0, 0))]) rfl (And.intro (Vw.ptr _ _ _ _ rfl) (And.intro (Vw.same _ rfl) (And.intro (Vw.same _ rfl) trivial))) (And.intro (And.intro rfl (BVw.oneL (And.intro (Vw.same _ rfl) (And.intro (Vw.same _ rfl) (And.intro (Vw.same _ rfl) trivial))))) trivial)
    refine retI ?_
    cases h
    exact And.intro (And.intro trivial (And.intro rfl (Nat.le_of_ble_eq_true rfl))) (And.intro trivial (And.intro trivial (And.intro rfl (Vw.same _ rfl))))
  · have h := ite_ff h1 h
    refine skipI ?_
    refine seqI ?_
    refine quietI ?_
    obtain ⟨h2, h⟩ := ite_some h
    refine And.intro h2 ?_
    show yqs _ _ [(12, .int .u8 (((a0.getD (0 : Int).toNat 0).toNat : Nat) : Int)), (11, .str a0), (9, .bool (decide ((a0.length : Int) < 6))), (8, .int .i64 (a0.length : Int)), (7, .str a0), (4, .int .i64 0), (3, .int .i64 0), (2, .ptr (0, 0) 0 0), (0, .str a0)] _ _
    refine And.intro (by decide) ?_
    obtain ⟨h3, h⟩ := ite_some h
    refine And.intro h3 ?_
    show yqs _ _ [(17, .int .u8 (((a0.getD (1 : Int).toNat 0).toNat : Nat) : Int)), (16, .str a0), (15, .int .i64 (W ((6 : Int) + (W ((W (((a0.getD (0 : Int).toNat 0).toNat : Nat) : Int)) * 2 ^ (min (8 : Int).toNat (IntKind.bits .i64))))))), (14, .int .i64 (W ((W (((a0.getD (0 : Int).toNat 0).toNat : Nat) : Int)) * 2 ^ (min (8 : Int).toNat (IntKind.bits .i64))))), (13, .int .i64 (W (((a0.getD (0 : Int).toNat 0).toNat : Nat) : Int))), (12, .int .u8 (((a0.getD (0 : Int).toNat 0).toNat : Nat) : Int)), (11, .str a0), (9, .bool (decide ((a0.length : Int) < 6))), (8, .int .i64 (a0.length : Int)), (7, .str a0), (4, .int .i64 0), (3, .int .i64 0), (2, .ptr (0, 0) 0 0), (0, .str a0)] _ _
    refine LWp.sim (e := [(0, .str a0), (2, .ptr (0, 0) 0 0), (3, .int .i64 (W ((W ((6 : Int) + (W ((W (((a0.getD (0 : Int).toNat 0).toNat : Nat) : Int)) * 2 ^ (min (8 : Int).toNat (IntKind.bits .i64)))))) + (W (((a0.getD (1 : Int).toNat 0).toNat : Nat) : Int)))))]) (L := [((0, 0), .one [.str ([] : List UInt8), .str ([] : List UInt8), .bool false])]) (n := 1) ?_ ?_
    · exact simI (M := [((0, 0), (0, 0))]) rfl (And.intro (Vw.same _ rfl) (And.intro (Vw.ptr _ _ _ _ rfl) (And.intro (Vw.same _ rfl) trivial))) (And.intro (And.intro rfl (BVw.oneL (And.intro (Vw.same _ rfl) (And.intro (Vw.same _ rfl) (And.intro (Vw.same _ rfl) trivial))))) trivial)
    refine seqI ?_
    refine seqI ?_
    refine regI ?_
    refine condI (v := (decide ((a0.length : Int) < (W ((W ((6 : Int) + (W ((W (((a0.getD (0 : Int).toNat 0).toNat : Nat) : Int)) * 2 ^ (min (8 : Int).toNat (IntKind.bits .i64)))))) + (W (((a0.getD (1 : Int).toNat 0).toNat : Nat) : Int))))))) rfl trivial (fun h4 => ?_) (fun h4 => ?_)
    · have h := ite_tt h4 h
      refine seqI ?_
      refine regI ?_
      refine LWp.sim (e := [(2, .ptr (0, 0) 0 0), (3, .int .i64 0), (4, .int .i64 0)]) (L := [((0, 0), .one [.str ([] : List UInt8), .str ([] : List UInt8), .bool false])]) (n := 1) ?_ ?_
      · exact simI (M := [((0, 0), (0, 0))]) rfl (And.intro (Vw.ptr _ _ _ _ rfl) (And.intro (Vw.same _ rfl) (And.intro (Vw.same _ rfl) trivial))) (And.intro (And.intro rfl (BVw.oneL (And.intro (Vw.same _ rfl) (And.intro (Vw.same _ rfl) (And.intro (Vw.same _ rfl) trivial))))) trivial)
      refine retI ?_
      cases h
      exact And.intro (And.intro trivial (And.intro rfl (Nat.le_of_ble_eq_true rfl))) (And.intro trivial (And.intro trivial (And.intro rfl (Vw.same _ rfl))))
    · have h := ite_ff h4 h
      refine skipI ?_
      refine seqI ?_
      refine regI ?_
      obtain ⟨h5, h⟩ := ite_some h
      refine And.intro h5 ?_
      show yops _ _ _ [(27, .str ((a0.take (W ((W ((6 : Int) + (W ((W (((a0.getD (0 : Int).toNat 0).toNat : Nat) : Int)) * 2 ^ (min (8 : Int).toNat (IntKind.bits .i64)))))) + (W (((a0.getD (1 : Int).toNat 0).toNat : Nat) : Int)))).toNat).drop (6 : Int).toNat)), (26, .int .i64 (W ((W ((6 : Int) + (W ((W (((a0.getD (0 : Int).toNat 0).toNat : Nat) : Int)) * 2 ^ (min (8 : Int).toNat (IntKind.bits .i64)))))) + (W (((a0.getD (1 : Int).toNat 0).toNat : Nat) : Int))))), (25, .str a0), (23, .bool (decide ((a0.length : Int) < (W ((W ((6 : Int) + (W ((W (((a0.getD (0 : Int).toNat 0).toNat : Nat) : Int)) * 2 ^ (min (8 : Int).toNat (IntKind.bits .i64)))))) + (W (((a0.getD (1 : Int).toNat 0).toNat : Nat) : Int))))))), (22, .int .i64 (W ((W ((6 : Int) + (W ((W (((a0.getD (0 : Int).toNat 0).toNat : Nat) : Int)) * 2 ^ (min (8 : Int).toNat (IntKind.bits .i64)))))) + (W (((a0.getD (1 : Int).toNat 0).toNat : Nat) : Int))))), (21, .int .i64 (a0.length : Int)), (20, .str a0), (0, .str a0), (2, .ptr (0, 0) 0 0), (3, .int .i64 (W ((W ((6 : Int) + (W ((W (((a0.getD (0 : Int).toNat 0).toNat : Nat) : Int)) * 2 ^ (min (8 : Int).toNat (IntKind.bits .i64)))))) + (W (((a0.getD (1 : Int).toNat 0).toNat : Nat) : Int)))))] _ _
      refine LWp.sim (e := [(0, .str a0), (2, .ptr (0, 0) 0 0), (3, .int .i64 (W ((W ((6 : Int) + (W ((W (((a0.getD (0 : Int).toNat 0).toNat : Nat) : Int)) * 2 ^ (min (8 : Int).toNat (IntKind.bits .i64)))))) + (W (((a0.getD (1 : Int).toNat 0).toNat : Nat) : Int))))), (5, .str ((a0.take (W ((W ((6 : Int) + (W ((W (((a0.getD (0 : Int).toNat 0).toNat : Nat) : Int)) * 2 ^ (min (8 : Int).toNat (IntKind.bits .i64)))))) + (W (((a0.getD (1 : Int).toNat 0).toNat : Nat) : Int)))).toNat).drop (6 : Int).toNat))]) (L := [((0, 0), .one [.str ([] : List UInt8), .str ([] : List UInt8), .bool false])]) (n := 1) ?_ ?_
      · exact simI (M := [((0, 0), (0, 0))]) rfl (And.intro (Vw.same _ rfl) (And.intro (Vw.ptr _ _ _ _ rfl) (And.intro (Vw.same _ rfl) (And.intro (Vw.same _ rfl) trivial)))) (And.intro (And.intro rfl (BVw.oneL (And.intro (Vw.same _ rfl) (And.intro (Vw.same _ rfl) (And.intro (Vw.same _ rfl) trivial))))) trivial)
      refine seqI ?_
      refine seqI ?_
      refine drawO rfl ?_
      obtain ⟨h6, h⟩ := ite_some h
      refine And.intro (And.intro (Int.le_refl _) h6) ?_
      obtain ⟨v1, h7, h⟩ := bind_some h
      refine PFn.call (f21_ok h7) (And.intro (Vw.same _ rfl) trivial) ?_
      show yops _ _ _ [(29, .str v1), (32, .str ((a0.take (W ((W ((6 : Int) + (W ((W (((a0.getD (0 : Int).toNat 0).toNat : Nat) : Int)) * 2 ^ (min (8 : Int).toNat (IntKind.bits .i64)))))) + (W (((a0.getD (1 : Int).toNat 0).toNat : Nat) : Int)))).toNat).drop 0)), (31, .int .i64 (W ((W ((6 : Int) + (W ((W (((a0.getD (0 : Int).toNat 0).toNat : Nat) : Int)) * 2 ^ (min (8 : Int).toNat (IntKind.bits .i64)))))) + (W (((a0.getD (1 : Int).toNat 0).toNat : Nat) : Int))))), (30, .str a0), (28, .str ((a0.take (W ((W ((6 : Int) + (W ((W (((a0.getD (0 : Int).toNat 0).toNat : Nat) : Int)) * 2 ^ (min (8 : Int).toNat (IntKind.bits .i64)))))) + (W (((a0.getD (1 : Int).toNat 0).toNat : Nat) : Int)))).toNat).drop (6 : Int).toNat)), (0, .str a0), (2, .ptr (0, 0) 0 0), (3, .int .i64 (W ((W ((6 : Int) + (W ((W (((a0.getD (0 : Int).toNat 0).toNat : Nat) : Int)) * 2 ^ (min (8 : Int).toNat (IntKind.bits .i64)))))) + (W (((a0.getD (1 : Int).toNat 0).toNat : Nat) : Int))))), (5, .str ((a0.take (W ((W ((6 : Int) + (W ((W (((a0.getD (0 : Int).toNat 0).toNat : Nat) : Int)) * 2 ^ (min (8 : Int).toNat (IntKind.bits .i64)))))) + (W (((a0.getD (1 : Int).toNat 0).toNat : Nat) : Int)))).toNat).drop (6 : Int).toNat))] _ _
      refine condI (v := (!(v1 == ((a0.take (W ((W ((6 : Int) + (W ((W (((a0.getD (0 : Int).toNat 0).toNat : Nat) : Int)) * 2 ^ (min (8 : Int).toNat (IntKind.bits .i64)))))) + (W (((a0.getD (1 : Int).toNat 0).toNat : Nat) : Int)))).toNat).drop 0)))) rfl trivial (fun h8 => ?_) (fun h8 => ?_)
      · have h := ite_tt h8 h
        refine seqI ?_
        refine regI ?_
        refine LWp.sim (e := [(2, .ptr (0, 0) 0 0), (3, .int .i64 0), (4, .int .i64 13)]) (L := [((0, 0), .one [.str ([] : List UInt8), .str ([] : List UInt8), .bool false])]) (n := 1) ?_ ?_
        · exact simI (M := [((0, 0), (0, 0))]) rfl (And.intro (Vw.ptr _ _ _ _ rfl) (And.intro (Vw.same _ rfl) (And.intro (Vw.same _ rfl) trivial))) (And.intro (And.intro rfl (BVw.oneL (And.intro (Vw.same _ rfl) (And.intro (Vw.same _ rfl) (And.intro (Vw.same _ rfl) trivial))))) trivial)
        refine retI ?_
        cases h
        exact And.intro (And.intro trivial (And.intro rfl (Nat.le_of_ble_eq_true rfl))) (And.intro trivial (And.intro trivial (And.intro rfl (Vw.same _ rfl))))
      · have h := ite_ff h8 h
        refine skipI ?_
        refine seqI ?_
        refine regI ?_
        obtain ⟨v2, h9, h⟩ := bind_some h
        refine PFn.call (f42_ok h9) (And.intro (Vw.same _ rfl) trivial) ?_
        refine LWp.sim (e := [(2, .ptr (0, 0) 0 0), (3, .int .i64 (W ((W ((6 : Int) + (W ((W (((a0.getD (0 : Int).toNat 0).toNat : Nat) : Int)) * 2 ^ (min (8 : Int).toNat (IntKind.bits .i64)))))) + (W (((a0.getD (1 : Int).toNat 0).toNat : Nat) : Int))))), (6, .bool v2.2)]) (L := [((0, 0), .one [.str v2.1.f_Key, .str v2.1.f_Value, .bool v2.1.f_Deleted])]) (n := 1) ?_ ?_
        · exact simI (M := [((0, 0), (0, 0))]) rfl (And.intro (Vw.ptr _ _ _ _ rfl) (And.intro (Vw.same _ rfl) (And.intro (Vw.same _ rfl) trivial))) (And.intro (And.intro rfl (BVw.oneL (And.intro (Vw.same _ rfl) (And.intro (Vw.same _ rfl) (And.intro (Vw.same _ rfl) trivial))))) trivial)
        refine seqI ?_
        refine seqI ?_
        refine regI ?_
        refine condI (v := (!v2.2)) rfl trivial (fun h10 => ?_) (fun h10 => ?_)
        · have h := ite_tt h10 h
          refine seqI ?_
          refine regI ?_
          refine retI ?_
          cases h
          exact And.intro (And.intro trivial (And.intro rfl (Nat.le_of_ble_eq_true rfl))) (And.intro trivial (And.intro trivial (And.intro rfl (Vw.same _ rfl))))
        · have h := ite_ff h10 h
          refine skipI ?_
          refine seqI ?_
          refine regI ?_
          refine retI ?_
          cases h
          exact And.intro (And.intro trivial (And.intro rfl (Nat.le_of_ble_eq_true rfl))) (And.intro trivial (And.intro trivial (And.intro rfl (Vw.same _ rfl))))

theorem f30_ok {a0 : List UInt8} {m : Option Nat} {o : G_QRecord × Int × Int} (h : S_journal_next m a0 = some o) : PFn Try.prog 30 [.str a0] (.tup [.agg [.str o.1.f_Key, .str o.1.f_Value, .bool o.1.f_Deleted], .int .i64 o.2.1, .int .i64 o.2.2]) := PFn.ofFnW (L := f30_L) f30_low f30_fok (Nat.le_of_ble_eq_true rfl) rfl (f30_start h)

def f20_c0 : LCode := (.block 1
  (.seq (.region [⟨some 9, .mv (.t 0), none⟩,
    ⟨some 10, .mv (.t 3), none⟩,
    ⟨some 11, .slStr (.t 9) (some (.t 10)) none, none⟩,
    ⟨some 12, .call 30 [(.t 11)], none⟩,
    ⟨some 8, .mv (.t 12), none⟩,
    ⟨some 13, .ext 0 (.t 8), none⟩,
    ⟨some 14, .ext 1 (.t 8), none⟩,
    ⟨some 15, .ext 2 (.t 8), none⟩,
    ⟨some 5, .alloc [(.str []), (.str []), (.bool false)], none⟩,
    ⟨none, .store 3 (.t 5) (.t 13), none⟩,
    ⟨some 6, .mv (.t 14), none⟩,
    ⟨some 7, .mv (.t 15), none⟩])
  (.seq (.seq (.region [⟨some 16, .mv (.t 6), none⟩,
    ⟨some 17, .bin .eql (.t 16) (.c (.int .i64 0)), none⟩])
  (.cond (.t 17)
   (.seq (.region [⟨some 18, .mv (.t 2), none⟩,
     ⟨some 19, .mv (.t 3), none⟩,
     ⟨some 20, .mv (.t 7), none⟩,
     ⟨some 2, .mv (.t 18), none⟩,
     ⟨some 3, .mv (.t 19), none⟩,
     ⟨some 4, .mv (.t 20), none⟩])
   .ret)
   .skip))
  (.seq (.region [⟨some 21, .mv (.t 2), none⟩,
    ⟨some 22, .load true 3 (.t 5), none⟩,
    ⟨some 23, .mkSl true 3 [(.str []), (.str []), (.bool false)] 1 [(0, (.t 22))], none⟩,
    ⟨some 24, .app true 3 40 (.t 21) (.t 23), none⟩,
    ⟨some 2, .mv (.t 24), none⟩])
  (.region [⟨some 25, .mv (.t 3), none⟩,
    ⟨some 26, .mv (.t 6), none⟩,
    ⟨some 27, .bin .add (.t 25) (.t 26), none⟩,
    ⟨some 3, .mv (.t 27), none⟩])))))
def f20_c1 : LCode := (.seq (.region [⟨some 2, .mv (.c (.val (.slice none 0 0))), none⟩,
   ⟨some 3, .mv (.c (.int .i64 0)), none⟩,
   ⟨some 4, .mv (.c (.int .i64 0)), none⟩])
 (.block 0
  (.loop
   f20_c0)))
def f20_lay : Lay := ⟨28, [], false⟩
def f20_res : List LRes := [.t 2, .t 3, .t 4]
def f20_L : LFn := ⟨1, f20_lay, f20_c1, f20_res⟩
theorem f20_low : lowFn Try.prog [] 20 = some f20_L := by kernel_rfl
theorem f20_fok : FnOk Try.prog 20 := ⟨_, Try.func20, rfl, rfl⟩
def f20_Q (a0 : List UInt8) (o : (List G_QRecord) × Int × Int) : Exit → Env → AHeap → Nat → Prop := FinK f20_res (PureEnd (.tup [.isl 3 (o.1.map e_QRecord) false, .int .i64 o.2.1, .int .i64 o.2.2]))

def f20_L1_env (a0 : List UInt8) (s : ((List G_QRecord) × Int)) : Env := [(0, .str a0), (2, .osl (0, 0) 3 (s.1.map e_QRecord)), (3, .int .i64 s.2)]
def f20_L1_hp (a0 : List UInt8) (s : ((List G_QRecord) × Int)) : AHeap := [((0, 0), .tok)]
def f20_L1_Q (a0 : List UInt8) (o : ((List G_QRecord) × Int × Int)) : Exit → Env → AHeap → Nat → Prop := (QBlock 0 (f20_Q a0 o))

noncomputable def S_journal_scan_b1 (m : Option Nat) (a0 : List UInt8) (v2 : List G_QRecord) (v3 : Int) : Option (((List G_QRecord) × Int) ⊕ ((List G_QRecord) × Int × Int)) :=
  if (0 : Int) ≤ v3 ∧ v3 ≤ (a0.length : Int) then
  (S_journal_next m ((a0.take a0.length).drop v3.toNat)).bind fun v5 =>
  if (v5.2.1 == 0) = true then
    Option.map Sum.inr (
      some (v2, v3, v5.2.2))
  else
    if ((v2 ++ ([(G_QRecord.mk v5.1.f_Key v5.1.f_Value v5.1.f_Deleted)] : List G_QRecord)).map e_QRecord).length * 40 ≤ 140737488355328 then
    some (.inl ((v2 ++ ([(G_QRecord.mk v5.1.f_Key v5.1.f_Value v5.1.f_Deleted)] : List G_QRecord)), (W (v3 + v5.2.1))))
    else none
  else none

noncomputable def S_journal_scan_l1 (m : Option Nat) (a0 : List UInt8) (v2 : List G_QRecord) (v3 : Int) : Option ((List G_QRecord) × Int × Int) := loopM m (fun (s : ((List G_QRecord) × Int)) => S_journal_scan_b1 m a0 s.1 s.2) (v2, v3)

theorem f20_L1_bok {a0 : List UInt8} {v2 : List G_QRecord} {v3 : Int} {m : Option Nat} {o : ((List G_QRecord) × Int) ⊕ ((List G_QRecord) × Int × Int)} (h : S_journal_scan_b1 m a0 v2 v3 = some o) :
    LWp Try.prog f20_lay 0 f20_c0 (BodyQ 0 1 (f20_L1_env a0) (f20_L1_hp a0) (f20_L1_Q a0) o) [(0, .str a0), (2, .osl (0, 0) 3 (v2.map e_QRecord)), (3, .int .i64 v3)] [((0, 0), .tok)] 1 := by
  unfold S_journal_scan_b1 at h
  refine blockI ?_
  refine seqI ?_
  refine regI ?_
  obtain ⟨h8, h⟩ := ite_some h
  refine And.intro (And.intro (And.left h8) (And.intro (And.right h8) (Int.le_refl _))) ?_
  obtain ⟨v5, h9, h⟩ := bind_some h
  refine PFn.call (f30_ok h9) (And.intro (Vw.same _ rfl) trivial) ?_
  refine LWp.sim (e := [(0, .str a0), (2, .osl (0, 0) 3 (v2.map e_QRecord)), (3, .int .i64 v3), (5, .ptr (1, 0) 0 0), (6, .int .i64 v5.2.1), (7, .int .i64 v5.2.2)]) (L := [((0, 0), .tok), ((1, 0), .one [.str v5.1.f_Key, .str v5.1.f_Value, .bool v5.1.f_Deleted])]) (n := 2) ?_ ?_
  · exact simI (M := [((0, 0), (0, 0)), ((1, 0), (1, 0))]) rfl (And.intro (Vw.same _ rfl) (And.intro (Vw.osl _ _ _ _ rfl) (And.intro (Vw.same _ rfl) (And.intro (Vw.ptr _ _ _ _ rfl) (And.intro (Vw.same _ rfl) (And.intro (Vw.same _ rfl) trivial)))))) (And.intro (And.intro rfl BVw.tok) (And.intro (And.intro rfl (BVw.oneL (And.intro (Vw.same _ rfl) (And.intro (Vw.same _ rfl) (And.intro (Vw.same _ rfl) trivial))))) trivial))
  refine seqI ?_
  refine seqI ?_
  refine regI ?_
  refine condI (v := (v5.2.1 == 0)) rfl trivial (fun h10 => ?_) (fun h10 => ?_)
  · have h := ite_tt h10 h
    refine seqI ?_
    refine regI ?_
    refine LWp.sim (e := [(2, .osl (0, 0) 3 (v2.map e_QRecord)), (3, .int .i64 v3), (4, .int .i64 v5.2.2)]) (L := [((0, 0), .tok)]) (n := 1) ?_ ?_
    · exact simI (M := [((0, 0), (0, 0))]) rfl (And.intro (Vw.osl _ _ _ _ rfl) (And.intro (Vw.same _ rfl) (And.intro (Vw.same _ rfl) trivial))) (And.intro (And.intro rfl BVw.tok) trivial)
    refine retI ?_
    obtain ⟨o, hq, rfl⟩ := Option.map_eq_some_iff.1 h
    replace h := hq; clear hq
    refine And.intro nofun ?_
    cases h
    exact And.intro trivial (And.intro trivial (And.intro trivial (And.intro rfl (Vw.tupL (And.intro (Vw.oslI _ _ _) (And.intro (Vw.same _ rfl) (And.intro (Vw.same _ rfl) trivial)))))))
  · have h := ite_ff h10 h
    refine skipI ?_
    refine seqI ?_
    refine regI ?_
    obtain ⟨h11, h⟩ := ite_some h
    refine Exists.intro ((v2 ++ ([(G_QRecord.mk v5.1.f_Key v5.1.f_Value v5.1.f_Deleted)] : List G_QRecord)).map e_QRecord) (And.intro (app_enc e_QRecord v2 ([(G_QRecord.mk v5.1.f_Key v5.1.f_Value v5.1.f_Deleted)] : List G_QRecord)) (And.intro h11 ?_))
    refine regI ?_
    cases h
    exact And.intro rfl (simI (M := [((0, 0), (2, 0))]) rfl (And.intro (Vw.same _ rfl) (And.intro (Vw.osl _ _ _ _ rfl) (And.intro (Vw.same _ rfl) trivial))) (And.intro (And.intro rfl BVw.tok) trivial))

theorem f20_L1_ok {a0 : List UInt8} {v2 : List G_QRecord} {v3 : Int} {m : Option Nat} {o : ((List G_QRecord) × Int × Int)} (h : S_journal_scan_l1 m a0 v2 v3 = some o) :
    LWp Try.prog f20_lay 0 (.loop f20_c0) (QBlock 0 (f20_Q a0 o)) [(0, .str a0), (2, .osl (0, 0) 3 (v2.map e_QRecord)), (3, .int .i64 v3)] [((0, 0), .tok)] 1 :=
  LWp_loopM (m := m) (s := ((v2, v3) : ((List G_QRecord) × Int))) (r := o) (fun (s : ((List G_QRecord) × Int)) => S_journal_scan_b1 m a0 s.1 s.2) (f20_L1_env a0) (f20_L1_hp a0) (f20_L1_Q a0) (fun s o h => f20_L1_bok h) h

noncomputable def S_journal_scan (m : Option Nat) (a0 : List UInt8) : Option ((List G_QRecord) × Int × Int) :=
  S_journal_scan_l1 m a0 [] 0

theorem f20_start {a0 : List UInt8} {m : Option Nat} {o : (List G_QRecord) × Int × Int} (h : S_journal_scan m a0 = some o) : LWp Try.prog f20_lay 0 f20_c1 (f20_Q a0 o) (initEnv 0 [.str a0]) [] 0 := by
  unfold S_journal_scan at h
  refine seqI ?_
  refine regI ?_
  refine blockI ?_
  refine LWp.sim ?_ (f20_L1_ok h)
  exact simI (M := []) rfl (And.intro (Vw.same _ rfl) (And.intro (Vw.nilO _ _ (by decide)) (And.intro (Vw.same _ rfl) trivial))) (And.intro (And.intro rfl (And.intro (by decide) (by decide))) trivial)

theorem f20_ok {a0 : List UInt8} {m : Option Nat} {o : (List G_QRecord) × Int × Int} (h : S_journal_scan m a0 = some o) : PFn Try.prog 20 [.str a0] (.tup [.isl 3 (o.1.map e_QRecord) false, .int .i64 o.2.1, .int .i64 o.2.2]) := PFn.ofFnW (L := f20_L) f20_low f20_fok (Nat.le_of_ble_eq_true rfl) rfl (f20_start h)

def f9_c0 : LCode := (.seq (.region [⟨some 2, .mv (.c (.val (.slice none 0 0))), none⟩,
   ⟨some 3, .mv (.c (.int .i64 0)), none⟩,
   ⟨some 4, .mv (.c (.int .i64 0)), none⟩])
 (.seq (.seq (.region [⟨some 8, .mv (.t 0), none⟩,
   ⟨some 9, .len true (.t 8), none⟩,
   ⟨some 10, .bin .gtr (.t 9) (.c (.int .i64 40000)), none⟩])
 (.cond (.t 10)
  (.seq (.region [⟨some 2, .mv (.c (.val (.slice none 0 0))), none⟩,
    ⟨some 3, .mv (.c (.int .i64 0)), none⟩,
    ⟨some 4, .mv (.c (.int .i64 2)), none⟩])
  .ret)
  .skip))
 (.seq (.region [⟨some 12, .mv (.t 0), none⟩,
   ⟨some 13, .call 20 [(.t 12)], none⟩,
   ⟨some 11, .mv (.t 13), none⟩,
   ⟨some 14, .ext 0 (.t 11), none⟩,
   ⟨some 15, .ext 1 (.t 11), none⟩,
   ⟨some 16, .ext 2 (.t 11), none⟩,
   ⟨some 5, .mv (.t 14), none⟩,
   ⟨some 6, .mv (.t 15), none⟩,
   ⟨some 7, .mv (.t 16), none⟩])
 (.seq (.seq (.region [⟨some 17, .mv (.t 7), none⟩,
   ⟨some 18, .bin .neq (.t 17) (.c (.int .i64 0)), none⟩])
 (.cond (.t 18)
  (.seq (.region [⟨some 19, .mv (.t 7), none⟩,
    ⟨some 2, .mv (.c (.val (.slice none 0 0))), none⟩,
    ⟨some 3, .mv (.c (.int .i64 0)), none⟩,
    ⟨some 4, .mv (.t 19), none⟩])
  .ret)
  .skip))
 (.seq (.region [⟨some 20, .mv (.t 5), none⟩,
   ⟨some 21, .mv (.t 6), none⟩,
   ⟨some 2, .mv (.t 20), none⟩,
   ⟨some 3, .mv (.t 21), none⟩,
   ⟨some 4, .mv (.c (.int .i64 0)), none⟩])
 .ret)))))
def f9_lay : Lay := ⟨22, [], false⟩
def f9_res : List LRes := [.t 2, .t 3, .t 4]
def f9_L : LFn := ⟨1, f9_lay, f9_c0, f9_res⟩
theorem f9_low : lowFn Try.prog [] 9 = some f9_L := by kernel_rfl
theorem f9_fok : FnOk Try.prog 9 := ⟨_, Try.func9, rfl, rfl⟩
noncomputable def S_journal_Read (m : Option Nat) (a0 : List UInt8) : Option ((List G_QRecord) × Int × Int) :=
  if (decide ((a0.length : Int) > 40000)) = true then
    some ([], 0, 2)
  else
    (S_journal_scan m a0).bind fun v1 =>
    if (v1.2.2 != 0) = true then
      some ([], 0, v1.2.2)
    else
      some (v1.1, v1.2.1, 0)

def f9_Q (a0 : List UInt8) (o : (List G_QRecord) × Int × Int) : Exit → Env → AHeap → Nat → Prop := FinK f9_res (PureEnd (.tup [.isl 3 (o.1.map e_QRecord) false, .int .i64 o.2.1, .int .i64 o.2.2]))

theorem f9_start {a0 : List UInt8} {m : Option Nat} {o : (List G_QRecord) × Int × Int} (h : S_journal_Read m a0 = some o) : LWp Try.prog f9_lay 0 f9_c0 (f9_Q a0 o) (initEnv 0 [.str a0]) [] 0 := by
  unfold S_journal_Read at h
  refine seqI ?_
  refine regI ?_
  refine seqI ?_
  refine seqI ?_
  refine regI ?_
  refine condI (v := (decide ((a0.length : Int) > 40000))) rfl trivial (fun h1 => ?_) (fun h1 => ?_)
  · have h := ite_tt h1 h
    refine seqI ?_
    refine regI ?_
    refine LWp.sim (e := [(2, .val (.slice none 0 0)), (3, .int .i64 0), (4, .int .i64 2)]) (L := []) (n := 0) ?_ ?_
    · exact simI (M := []) rfl (And.intro (Vw.same _ rfl) (And.intro (Vw.same _ rfl) (And.intro (Vw.same _ rfl) trivial))) trivial
    refine retI ?_
    cases h
    exact And.intro trivial (And.intro trivial (And.intro trivial (And.intro rfl (Vw.tupL (And.intro (Vw.nilI _ _) (And.intro (Vw.same _ rfl) (And.intro (Vw.same _ rfl) trivial)))))))
  · have h := ite_ff h1 h
    refine skipI ?_
    refine seqI ?_
    refine regI ?_
    obtain ⟨v1, h2, h⟩ := bind_some h
    refine PFn.call (f20_ok h2) (And.intro (Vw.same _ rfl) trivial) ?_
    show yops _ _ _ [(13, .tup [.isl 3 (v1.1.map e_QRecord) false, .int .i64 v1.2.1, .int .i64 v1.2.2]), (12, .str a0), (10, .bool (decide ((a0.length : Int) > 40000))), (9, .int .i64 (a0.length : Int)), (8, .str a0), (4, .int .i64 0), (3, .int .i64 0), (2, .val (.slice none 0 0)), (0, .str a0)] _ _
    refine LWp.sim (e := [(5, .isl 3 (v1.1.map e_QRecord) false), (6, .int .i64 v1.2.1), (7, .int .i64 v1.2.2)]) (L := []) (n := 0) ?_ ?_
    · exact simI (M := []) rfl (And.intro (Vw.same _ rfl) (And.intro (Vw.same _ rfl) (And.intro (Vw.same _ rfl) trivial))) trivial
    refine seqI ?_
    refine seqI ?_
    refine regI ?_
    refine condI (v := (v1.2.2 != 0)) rfl trivial (fun h3 => ?_) (fun h3 => ?_)
    · have h := ite_tt h3 h
      refine seqI ?_
      refine regI ?_
      refine retI ?_
      cases h
      exact And.intro trivial (And.intro trivial (And.intro trivial (And.intro rfl (Vw.tupL (And.intro (Vw.nilI _ _) (And.intro (Vw.same _ rfl) (And.intro (Vw.same _ rfl) trivial)))))))
    · have h := ite_ff h3 h
      refine skipI ?_
      refine seqI ?_
      refine regI ?_
      refine retI ?_
      cases h
      exact And.intro trivial (And.intro trivial (And.intro trivial (And.intro rfl (Vw.same _ rfl))))

theorem f9_ok {a0 : List UInt8} {m : Option Nat} {o : (List G_QRecord) × Int × Int} (h : S_journal_Read m a0 = some o) : PFn Try.prog 9 [.str a0] (.tup [.isl 3 (o.1.map e_QRecord) false, .int .i64 o.2.1, .int .i64 o.2.2]) := PFn.ofFnW (L := f9_L) f9_low f9_fok (Nat.le_of_ble_eq_true rfl) rfl (f9_start h)

def f6_c1 : LCode := (.seq (.region [⟨some 15, .bin .lss (.t 14) (.t 13), none⟩])
 (.seq (.cond (.t 15)
  .skip
  (.exit 0))
 (.seq (.block 1
  (.seq (.region [⟨some 16, .mv (.t 14), none⟩,
    ⟨some 17, .iaddr 3 (.t 12) (.t 14), none⟩,
    ⟨some 18, .load true 3 (.t 17), none⟩,
    ⟨some 6, .alloc [(.str []), (.str []), (.bool false)], none⟩,
    ⟨some 5, .mv (.t 16), none⟩,
    ⟨none, .store 3 (.t 6) (.t 18), none⟩])
  (.seq (.quiet [⟨some 19, .load true 3 (.t 6), none⟩,
    ⟨some 20, .mv (.t 1), none⟩,
    ⟨some 21, .mv (.t 5), none⟩,
    ⟨some 22, .iaddr 3 (.t 20) (.t 21), none⟩,
    ⟨some 23, .load true 3 (.t 22), none⟩,
    ⟨some 24, .eq true (.agg [.str, .str, .bool]) (.t 19) (.t 23), none⟩])
  (.cond (.t 24)
   (.seq (.region [⟨some 4, .mv (.c (.bool false)), none⟩])
   .ret)
   .skip))))
 (.region [⟨some 25, .bin .add (.t 14) (.c (.int .i64 1)), none⟩,
   ⟨some 14, .mv (.t 25), none⟩]))))
def f6_c0 : LCode := (.seq (.region [⟨some 4, .mv (.c (.bool true)), none⟩])
 .ret)
def f6_c2 : LCode := (.seq (.region [⟨some 4, .mv (.c (.bool false)), none⟩])
 (.seq (.seq (.region [⟨some 7, .mv (.t 0), none⟩,
   ⟨some 8, .len false (.t 7), none⟩,
   ⟨some 9, .mv (.t 1), none⟩,
   ⟨some 10, .len false (.t 9), none⟩,
   ⟨some 11, .bin .neq (.t 8) (.t 10), none⟩])
 (.cond (.t 11)
  (.seq (.region [⟨some 4, .mv (.c (.bool false)), none⟩])
  .ret)
  .skip))
 (.seq (.seq (.region [⟨some 12, .mv (.t 0), none⟩,
   ⟨some 13, .len false (.t 12), none⟩,
   ⟨some 14, .mv (.c (.int .i64 0)), none⟩])
 (.block 0
  (.loop
   f6_c1)))
 f6_c0)))
def f6_lay : Lay := ⟨26, [], false⟩
def f6_res : List LRes := [.t 4]
def f6_L : LFn := ⟨2, f6_lay, f6_c2, f6_res⟩
theorem f6_low : lowFn Try.prog [] 6 = some f6_L := by kernel_rfl
theorem f6_fok : FnOk Try.prog 6 := ⟨_, Try.func6, rfl, rfl⟩
def f6_Q (a0 : List G_QRecord) (a1 : List G_QRecord) (o : Bool) : Exit → Env → AHeap → Nat → Prop := FinK f6_res (PureEnd (.bool o))

def f6_L1_env (a0 : List G_QRecord) (a1 : List G_QRecord) (s : Int) : Env := [(1, .isl 3 (a1.map e_QRecord) false), (12, .isl 3 (a0.map e_QRecord) false), (13, .int .i64 ((a0.map e_QRecord).length : Int)), (14, .int .i64 s)]
def f6_L1_hp (a0 : List G_QRecord) (a1 : List G_QRecord) (s : Int) : AHeap := []
def f6_L1_Q (a0 : List G_QRecord) (a1 : List G_QRecord) (o : Bool) : Exit → Env → AHeap → Nat → Prop := (QBlock 0 (QSeq Try.prog f6_lay 0 f6_c0 (f6_Q a0 a1 o)))

noncomputable def S_glossatorref3_Equal_api_QRecord_j1 (m : Option Nat) : Option Bool :=
  some true

noncomputable def S_glossatorref3_Equal_api_QRecord_b1 (m : Option Nat) (a0 : List G_QRecord) (a1 : List G_QRecord) (v1 : Int) : Option (Int ⊕ Bool) :=
  if (decide (v1 < ((a0.map e_QRecord).length : Int))) = true then
    if (0 : Int) ≤ v1 ∧ v1 < ((a0.map e_QRecord).length : Int) then
    if (0 : Int) ≤ v1 ∧ v1 < ((a1.map e_QRecord).length : Int) then
    if (!(((a0.getD v1.toNat default).f_Key == (a1.getD v1.toNat default).f_Key) && (((a0.getD v1.toNat default).f_Value == (a1.getD v1.toNat default).f_Value) && (((a0.getD v1.toNat default).f_Deleted == (a1.getD v1.toNat default).f_Deleted) && true)))) = true then
      Option.map Sum.inr (
        some false)
    else
      some (.inl (W (v1 + 1)))
    else none
    else none
  else
    Option.map Sum.inr (
      S_glossatorref3_Equal_api_QRecord_j1 m)

noncomputable def S_glossatorref3_Equal_api_QRecord_l1 (m : Option Nat) (a0 : List G_QRecord) (a1 : List G_QRecord) (v1 : Int) : Option Bool := loopM m (fun (s : Int) => S_glossatorref3_Equal_api_QRecord_b1 m a0 a1 s) v1

theorem f6_j1_ok {a0 : List G_QRecord} {a1 : List G_QRecord} {m : Option Nat} {o : Bool} (h : S_glossatorref3_Equal_api_QRecord_j1 m = some o) :
    LWp Try.prog f6_lay 0 f6_c0 (f6_Q a0 a1 o) [] [] 0 := by
  unfold S_glossatorref3_Equal_api_QRecord_j1 at h
  refine seqI ?_
  refine regI ?_
  refine retI ?_
  cases h
  exact And.intro trivial (And.intro rfl (Vw.same _ rfl))

theorem f6_L1_bok {a0 : List G_QRecord} {a1 : List G_QRecord} {v1 : Int} {m : Option Nat} {o : Int ⊕ Bool} (h : S_glossatorref3_Equal_api_QRecord_b1 m a0 a1 v1 = some o) :
    LWp Try.prog f6_lay 0 f6_c1 (BodyQ 0 0 (f6_L1_env a0 a1) (f6_L1_hp a0 a1) (f6_L1_Q a0 a1) o) [(1, .isl 3 (a1.map e_QRecord) false), (12, .isl 3 (a0.map e_QRecord) false), (13, .int .i64 ((a0.map e_QRecord).length : Int)), (14, .int .i64 v1)] [] 0 := by
  unfold S_glossatorref3_Equal_api_QRecord_b1 at h
  refine seqI ?_
  refine regI ?_
  refine seqI ?_
  refine condI (v := (decide (v1 < ((a0.map e_QRecord).length : Int)))) rfl trivial (fun h10 => ?_) (fun h10 => ?_)
  · have h := ite_tt h10 h
    refine skipI ?_
    refine seqI ?_
    refine blockI ?_
    refine seqI ?_
    refine regI ?_
    obtain ⟨h11, h⟩ := ite_some h
    refine And.intro h11 ?_
    refine Exists.intro (e_QRecord (a0.getD v1.toNat default)) (And.intro (getD_enc e_QRecord _ _ (idx_ltL e_QRecord h11)) (And.intro (And.intro (idx_lt h11) (Nat.le_of_ble_eq_true rfl)) ?_))
    refine seqI ?_
    refine quietI ?_
    obtain ⟨h12, h⟩ := ite_some h
    refine And.intro h12 ?_
    show yqs _ _ [(22, .iptr 3 (a1.map e_QRecord) v1.toNat 0), (21, .int .i64 v1), (20, .isl 3 (a1.map e_QRecord) false), (19, .agg [.str ((a0.getD v1.toNat default).f_Key), .str ((a0.getD v1.toNat default).f_Value), .bool ((a0.getD v1.toNat default).f_Deleted)]), (5, .int .i64 v1), (6, .ptr (0, 0) 0 0), (18, .agg [.str ((a0.getD v1.toNat default).f_Key), .str ((a0.getD v1.toNat default).f_Value), .bool ((a0.getD v1.toNat default).f_Deleted)]), (17, .iptr 3 (a0.map e_QRecord) v1.toNat 0), (16, .int .i64 v1), (15, .bool (decide (v1 < ((a0.map e_QRecord).length : Int)))), (1, .isl 3 (a1.map e_QRecord) false), (12, .isl 3 (a0.map e_QRecord) false), (13, .int .i64 ((a0.map e_QRecord).length : Int)), (14, .int .i64 v1)] _ _
    refine Exists.intro (e_QRecord (a1.getD v1.toNat default)) (And.intro (getD_enc e_QRecord _ _ (idx_ltL e_QRecord h12)) (And.intro (And.intro (idx_lt h12) (Nat.le_of_ble_eq_true rfl)) ?_))
    refine LWp.sim (e := [(1, .isl 3 (a1.map e_QRecord) false), (12, .isl 3 (a0.map e_QRecord) false), (13, .int .i64 ((a0.map e_QRecord).length : Int)), (14, .int .i64 v1), (24, .bool (!(((a0.getD v1.toNat default).f_Key == (a1.getD v1.toNat default).f_Key) && (((a0.getD v1.toNat default).f_Value == (a1.getD v1.toNat default).f_Value) && (((a0.getD v1.toNat default).f_Deleted == (a1.getD v1.toNat default).f_Deleted) && true)))))]) (L := []) (n := 0) ?_ ?_
    · exact simI (M := []) rfl (And.intro (Vw.same _ rfl) (And.intro (Vw.same _ rfl) (And.intro (Vw.same _ rfl) (And.intro (Vw.same _ rfl) (And.intro (Vw.same _ rfl) trivial))))) trivial
    refine condI (v := (!(((a0.getD v1.toNat default).f_Key == (a1.getD v1.toNat default).f_Key) && (((a0.getD v1.toNat default).f_Value == (a1.getD v1.toNat default).f_Value) && (((a0.getD v1.toNat default).f_Deleted == (a1.getD v1.toNat default).f_Deleted) && true))))) rfl trivial (fun h13 => ?_) (fun h13 => ?_)
    · have h := ite_tt h13 h
      refine seqI ?_
      refine regI ?_
      refine retI ?_
      obtain ⟨o, hq, rfl⟩ := Option.map_eq_some_iff.1 h
      replace h := hq; clear hq
      refine And.intro nofun ?_
      cases h
      exact And.intro trivial (And.intro rfl (Vw.same _ rfl))
    · have h := ite_ff h13 h
      refine skipI ?_
      refine regI ?_
      cases h
      exact And.intro rfl (simI (M := []) rfl (And.intro (Vw.same _ rfl) (And.intro (Vw.same _ rfl) (And.intro (Vw.same _ rfl) (And.intro (Vw.same _ rfl) trivial)))) trivial)
  · have h := ite_ff h10 h
    refine exitI ?_
    obtain ⟨o, hq, rfl⟩ := Option.map_eq_some_iff.1 h
    replace h := hq; clear hq
    refine And.intro nofun ?_
    refine LWp.sim ?_ (f6_j1_ok h)
    exact simI (M := []) rfl trivial trivial

theorem f6_L1_ok {a0 : List G_QRecord} {a1 : List G_QRecord} {v1 : Int} {m : Option Nat} {o : Bool} (h : S_glossatorref3_Equal_api_QRecord_l1 m a0 a1 v1 = some o) :
    LWp Try.prog f6_lay 0 (.loop f6_c1) (QBlock 0 (QSeq Try.prog f6_lay 0 f6_c0 (f6_Q a0 a1 o))) [(1, .isl 3 (a1.map e_QRecord) false), (12, .isl 3 (a0.map e_QRecord) false), (13, .int .i64 ((a0.map e_QRecord).length : Int)), (14, .int .i64 v1)] [] 0 :=
  LWp_loopM (m := m) (s := (v1 : Int)) (r := o) (fun (s : Int) => S_glossatorref3_Equal_api_QRecord_b1 m a0 a1 s) (f6_L1_env a0 a1) (f6_L1_hp a0 a1) (f6_L1_Q a0 a1) (fun s o h => f6_L1_bok h) h

noncomputable def S_glossatorref3_Equal_api_QRecord (m : Option Nat) (a0 : List G_QRecord) (a1 : List G_QRecord) : Option Bool :=
  if (((a0.map e_QRecord).length : Int) != ((a1.map e_QRecord).length : Int)) = true then
    some false
  else
    S_glossatorref3_Equal_api_QRecord_l1 m a0 a1 0

theorem f6_start {a0 : List G_QRecord} {a1 : List G_QRecord} {m : Option Nat} {o : Bool} (h : S_glossatorref3_Equal_api_QRecord m a0 a1 = some o) : LWp Try.prog f6_lay 0 f6_c2 (f6_Q a0 a1 o) (initEnv 0 [.isl 3 (a0.map e_QRecord) false, .isl 3 (a1.map e_QRecord) false]) [] 0 := by
  unfold S_glossatorref3_Equal_api_QRecord at h
  refine seqI ?_
  refine regI ?_
  refine seqI ?_
  refine seqI ?_
  refine regI ?_
  refine condI (v := (((a0.map e_QRecord).length : Int) != ((a1.map e_QRecord).length : Int))) rfl trivial (fun h1 => ?_) (fun h1 => ?_)
  · have h := ite_tt h1 h
    refine seqI ?_
    refine regI ?_
    refine retI ?_
    cases h
    exact And.intro trivial (And.intro rfl (Vw.same _ rfl))
  · have h := ite_ff h1 h
    refine skipI ?_
    refine seqI ?_
    refine seqI ?_
    refine regI ?_
    refine LWp.sim (e := [(1, .isl 3 (a1.map e_QRecord) false), (12, .isl 3 (a0.map e_QRecord) false), (13, .int .i64 ((a0.map e_QRecord).length : Int)), (14, .int .i64 0)]) (L := []) (n := 0) ?_ ?_
    · exact simI (M := []) rfl (And.intro (Vw.same _ rfl) (And.intro (Vw.same _ rfl) (And.intro (Vw.same _ rfl) (And.intro (Vw.same _ rfl) trivial)))) trivial
    refine blockI ?_
    refine LWp.sim ?_ (f6_L1_ok h)
    exact simI (M := []) rfl (And.intro (Vw.same _ rfl) (And.intro (Vw.same _ rfl) (And.intro (Vw.same _ rfl) (And.intro (Vw.same _ rfl) trivial)))) trivial

theorem f6_ok {a0 : List G_QRecord} {a1 : List G_QRecord} {m : Option Nat} {o : Bool} (h : S_glossatorref3_Equal_api_QRecord m a0 a1 = some o) : PFn Try.prog 6 [.isl 3 (a0.map e_QRecord) false, .isl 3 (a1.map e_QRecord) false] (.bool o) := PFn.ofFnW (L := f6_L) f6_low f6_fok (Nat.le_of_ble_eq_true rfl) rfl (f6_start h)

def f5_c0 : LCode := (.seq (.region [⟨some 0, .mv (.c (.bool false)), none⟩])
 (.seq (.region [⟨some 7, .build [(.str []), (.str []), (.bool false)] [(0, 1, (.c (.str [107]))), (1, 1, (.c (.str [118])))], none⟩,
   ⟨some 8, .call 14 [(.c (.str [])), (.t 7)], none⟩,
   ⟨some 6, .mv (.t 8), none⟩,
   ⟨some 9, .ext 0 (.t 6), none⟩,
   ⟨some 10, .ext 1 (.t 6), none⟩,
   ⟨some 1, .mv (.t 9), none⟩,
   ⟨some 2, .mv (.t 10), none⟩])
 (.seq (.region [⟨some 12, .mv (.t 1), none⟩,
   ⟨some 13, .bin .add (.t 12) (.c (.str [0])), none⟩,
   ⟨some 14, .call 9 [(.t 13)], none⟩,
   ⟨some 11, .mv (.t 14), none⟩,
   ⟨some 15, .ext 0 (.t 11), none⟩,
   ⟨some 16, .ext 1 (.t 11), none⟩,
   ⟨some 17, .ext 2 (.t 11), none⟩,
   ⟨some 3, .mv (.t 15), none⟩,
   ⟨some 4, .mv (.t 16), none⟩,
   ⟨some 5, .mv (.t 17), none⟩])
 (.seq (.region [⟨some 18, .call 15 [(.c (.str [97]))], none⟩,
   ⟨some 19, .bin .eql (.t 18) (.c (.int .u32 3826002220)), none⟩,
   ⟨some 20, .mv (.t 19), none⟩,
   ⟨some 21, .mv (.t 2), some (20, true)⟩,
   ⟨some 22, .bin .eql (.t 21) (.c (.int .i64 0)), some (20, true)⟩,
   ⟨some 23, .pick (.t 20) (.t 22) (.c (.bool false)), none⟩,
   ⟨some 24, .mv (.t 23), none⟩,
   ⟨some 25, .mv (.t 1), some (24, true)⟩,
   ⟨some 26, .len true (.t 25), some (24, true)⟩,
   ⟨some 27, .bin .eql (.t 26) (.c (.int .i64 10)), some (24, true)⟩,
   ⟨some 28, .pick (.t 24) (.t 27) (.c (.bool false)), none⟩,
   ⟨some 29, .mv (.t 28), none⟩,
   ⟨some 30, .mv (.t 5), some (29, true)⟩,
   ⟨some 31, .bin .eql (.t 30) (.c (.int .i64 0)), some (29, true)⟩,
   ⟨some 32, .pick (.t 29) (.t 31) (.c (.bool false)), none⟩,
   ⟨some 33, .mv (.t 32), none⟩,
   ⟨some 34, .mv (.t 4), some (33, true)⟩,
   ⟨some 35, .bin .eql (.t 34) (.c (.int .i64 10)), some (33, true)⟩,
   ⟨some 36, .pick (.t 33) (.t 35) (.c (.bool false)), none⟩,
   ⟨some 37, .mv (.t 36), none⟩,
   ⟨some 38, .mv (.t 3), some (37, true)⟩,
   ⟨some 39, .build [(.str []), (.str []), (.bool false)] [(0, 1, (.c (.str [107]))), (1, 1, (.c (.str [118])))], some (37, true)⟩,
   ⟨some 40, .mkSl true 3 [(.str []), (.str []), (.bool false)] 1 [(0, (.t 39))], some (37, true)⟩,
   ⟨some 41, .call 6 [(.t 38), (.t 40)], some (37, true)⟩,
   ⟨some 42, .pick (.t 37) (.t 41) (.c (.bool false)), none⟩,
   ⟨some 0, .mv (.t 42), none⟩])
 .ret))))
def f5_lay : Lay := ⟨43, [], false⟩
def f5_res : List LRes := [.t 0]
def f5_L : LFn := ⟨0, f5_lay, f5_c0, f5_res⟩
theorem f5_low : lowFn Try.prog [] 5 = some f5_L := by kernel_rfl
theorem f5_fok : FnOk Try.prog 5 := ⟨_, Try.func5, rfl, rfl⟩
noncomputable def S_glossatorlaw3_journalExample (m : Option Nat) : Option Bool :=
  (S_journal_Append m ([] : List UInt8) (G_QRecord.mk ([107] : List UInt8) ([118] : List UInt8) false)).bind fun v1 =>
  if (((v1.1.length + ([0] : List UInt8).length : Nat) : Int) ≤ 9223372036854775807) then
  (S_journal_Read m (v1.1 ++ ([0] : List UInt8))).bind fun v2 =>
  (S_journal_Checksum m ([97] : List UInt8)).bind fun v3 =>
  (if ((((((v3 == 3826002220) && (v1.2 == 0)) && ((v1.1.length : Int) == 10)) && (v2.2.2 == 0)) && (v2.2.1 == 10)) == true) = true then S_glossatorref3_Equal_api_QRecord m v2.1 ([(G_QRecord.mk ([107] : List UInt8) ([118] : List UInt8) false)] : List G_QRecord) else some default).bind fun v4 =>
  some ((((((v3 == 3826002220) && (v1.2 == 0)) && ((v1.1.length : Int) == 10)) && (v2.2.2 == 0)) && (v2.2.1 == 10)) && v4)
  else none

def f5_Q (o : Bool) : Exit → Env → AHeap → Nat → Prop := FinK f5_res (PureEnd (.bool o))

theorem f5_start {m : Option Nat} {o : Bool} (h : S_glossatorlaw3_journalExample m = some o) : LWp Try.prog f5_lay 0 f5_c0 (f5_Q o) (initEnv 0 []) [] 0 := by
  unfold S_glossatorlaw3_journalExample at h
  refine seqI ?_
  refine regI ?_
  refine seqI ?_
  refine regI ?_
  obtain ⟨v1, h1, h⟩ := bind_some h
  refine PFn.call (f14_ok h1) (And.intro (Vw.same _ rfl) (And.intro (Vw.same _ rfl) trivial)) ?_
  refine LWp.sim (e := [(1, .str v1.1), (2, .int .i64 v1.2)]) (L := []) (n := 0) ?_ ?_
  · exact simI (M := []) rfl (And.intro (Vw.same _ rfl) (And.intro (Vw.same _ rfl) trivial)) trivial
  refine seqI ?_
  refine regI ?_
  obtain ⟨h2, h⟩ := ite_some h
  refine And.intro h2 ?_
  obtain ⟨v2, h3, h⟩ := bind_some h
  refine PFn.call (f9_ok h3) (And.intro (Vw.same _ rfl) trivial) ?_
  refine LWp.sim (e := [(1, .str v1.1), (2, .int .i64 v1.2), (3, .isl 3 (v2.1.map e_QRecord) false), (4, .int .i64 v2.2.1), (5, .int .i64 v2.2.2)]) (L := []) (n := 0) ?_ ?_
  · exact simI (M := []) rfl (And.intro (Vw.same _ rfl) (And.intro (Vw.same _ rfl) (And.intro (Vw.same _ rfl) (And.intro (Vw.same _ rfl) (And.intro (Vw.same _ rfl) trivial))))) trivial
  refine seqI ?_
  refine regI ?_
  obtain ⟨v3, h4, h⟩ := bind_some h
  refine PFn.call (f15_ok h4) (And.intro (Vw.same _ rfl) trivial) ?_
  refine And.intro (fun hp => hp) ?_
  show yops _ _ _ [(22, .cnd ((v3 == 3826002220) == true) (.bool (v1.2 == 0))), (21, .cnd ((v3 == 3826002220) == true) (.int .i64 v1.2)), (20, .bool (v3 == 3826002220)), (19, .bool (v3 == 3826002220)), (18, .int .u32 v3), (1, .str v1.1), (2, .int .i64 v1.2), (3, .isl 3 (v2.1.map e_QRecord) false), (4, .int .i64 v2.2.1), (5, .int .i64 v2.2.2)] _ _
  refine And.intro (fun hc => (bqt hc)) ?_
  refine And.intro (fun hp => hp) ?_
  refine And.intro (fun hp => hp) ?_
  show yops _ _ _ [(27, .cnd (((v3 == 3826002220) && (v1.2 == 0)) == true) (.bool ((v1.1.length : Int) == 10))), (26, .cnd (((v3 == 3826002220) && (v1.2 == 0)) == true) (.int .i64 (v1.1.length : Int))), (25, .cnd (((v3 == 3826002220) && (v1.2 == 0)) == true) (.str v1.1)), (24, .bool ((v3 == 3826002220) && (v1.2 == 0))), (23, .bool ((v3 == 3826002220) && (v1.2 == 0))), (22, .cnd ((v3 == 3826002220) == true) (.bool (v1.2 == 0))), (21, .cnd ((v3 == 3826002220) == true) (.int .i64 v1.2)), (20, .bool (v3 == 3826002220)), (19, .bool (v3 == 3826002220)), (18, .int .u32 v3), (1, .str v1.1), (2, .int .i64 v1.2), (3, .isl 3 (v2.1.map e_QRecord) false), (4, .int .i64 v2.2.1), (5, .int .i64 v2.2.2)] _ _
  refine And.intro (fun hc => (bqt hc)) ?_
  refine And.intro (fun hp => hp) ?_
  refine And.intro (fun hc => (bqt hc)) ?_
  show yops _ _ _ [(32, .bool ((((v3 == 3826002220) && (v1.2 == 0)) && ((v1.1.length : Int) == 10)) && (v2.2.2 == 0))), (31, .cnd ((((v3 == 3826002220) && (v1.2 == 0)) && ((v1.1.length : Int) == 10)) == true) (.bool (v2.2.2 == 0))), (30, .cnd ((((v3 == 3826002220) && (v1.2 == 0)) && ((v1.1.length : Int) == 10)) == true) (.int .i64 v2.2.2)), (29, .bool (((v3 == 3826002220) && (v1.2 == 0)) && ((v1.1.length : Int) == 10))), (28, .bool (((v3 == 3826002220) && (v1.2 == 0)) && ((v1.1.length : Int) == 10))), (27, .cnd (((v3 == 3826002220) && (v1.2 == 0)) == true) (.bool ((v1.1.length : Int) == 10))), (26, .cnd (((v3 == 3826002220) && (v1.2 == 0)) == true) (.int .i64 (v1.1.length : Int))), (25, .cnd (((v3 == 3826002220) && (v1.2 == 0)) == true) (.str v1.1)), (24, .bool ((v3 == 3826002220) && (v1.2 == 0))), (23, .bool ((v3 == 3826002220) && (v1.2 == 0))), (22, .cnd ((v3 == 3826002220) == true) (.bool (v1.2 == 0))), (21, .cnd ((v3 == 3826002220) == true) (.int .i64 v1.2)), (20, .bool (v3 == 3826002220)), (19, .bool (v3 == 3826002220)), (18, .int .u32 v3), (1, .str v1.1), (2, .int .i64 v1.2), (3, .isl 3 (v2.1.map e_QRecord) false), (4, .int .i64 v2.2.1), (5, .int .i64 v2.2.2)] _ _
  refine And.intro (fun hp => hp) ?_
  refine And.intro (fun hc => (bqt hc)) ?_
  refine Or.inl (Exists.intro (.isl 3 (([(G_QRecord.mk ([107] : List UInt8) ([118] : List UInt8) false)] : List G_QRecord).map e_QRecord) true) (And.intro (fun hp => And.intro hp (And.intro rfl (And.intro rfl rfl))) ?_))
  obtain ⟨v4, h5, h⟩ := bind_some h
  refine Or.inl (Exists.intro (.bool v4) (And.intro (fun hp => And.intro (And.intro hp hp) (PFn.call (f6_ok (ite_tt hp h5)) (And.intro (Vw.same _ rfl) (And.intro (Vw.islF _ _ _) trivial)) (And.intro rfl (And.intro rfl rfl)))) ?_))
  refine And.intro (fun hc => (bqt hc)) ?_
  show yops _ _ _ [(42, .bool ((((((v3 == 3826002220) && (v1.2 == 0)) && ((v1.1.length : Int) == 10)) && (v2.2.2 == 0)) && (v2.2.1 == 10)) && v4)), (41, .cnd ((((((v3 == 3826002220) && (v1.2 == 0)) && ((v1.1.length : Int) == 10)) && (v2.2.2 == 0)) && (v2.2.1 == 10)) == true) (.bool v4)), (40, .cnd ((((((v3 == 3826002220) && (v1.2 == 0)) && ((v1.1.length : Int) == 10)) && (v2.2.2 == 0)) && (v2.2.1 == 10)) == true) (.isl 3 (([(G_QRecord.mk ([107] : List UInt8) ([118] : List UInt8) false)] : List G_QRecord).map e_QRecord) true)), (39, .cnd ((((((v3 == 3826002220) && (v1.2 == 0)) && ((v1.1.length : Int) == 10)) && (v2.2.2 == 0)) && (v2.2.1 == 10)) == true) (.agg [.str ([107] : List UInt8), .str ([118] : List UInt8), .bool false])), (38, .cnd ((((((v3 == 3826002220) && (v1.2 == 0)) && ((v1.1.length : Int) == 10)) && (v2.2.2 == 0)) && (v2.2.1 == 10)) == true) (.isl 3 (v2.1.map e_QRecord) false)), (37, .bool (((((v3 == 3826002220) && (v1.2 == 0)) && ((v1.1.length : Int) == 10)) && (v2.2.2 == 0)) && (v2.2.1 == 10))), (36, .bool (((((v3 == 3826002220) && (v1.2 == 0)) && ((v1.1.length : Int) == 10)) && (v2.2.2 == 0)) && (v2.2.1 == 10))), (35, .cnd (((((v3 == 3826002220) && (v1.2 == 0)) && ((v1.1.length : Int) == 10)) && (v2.2.2 == 0)) == true) (.bool (v2.2.1 == 10))), (34, .cnd (((((v3 == 3826002220) && (v1.2 == 0)) && ((v1.1.length : Int) == 10)) && (v2.2.2 == 0)) == true) (.int .i64 v2.2.1)), (33, .bool ((((v3 == 3826002220) && (v1.2 == 0)) && ((v1.1.length : Int) == 10)) && (v2.2.2 == 0))), (32, .bool ((((v3 == 3826002220) && (v1.2 == 0)) && ((v1.1.length : Int) == 10)) && (v2.2.2 == 0))), (31, .cnd ((((v3 == 3826002220) && (v1.2 == 0)) && ((v1.1.length : Int) == 10)) == true) (.bool (v2.2.2 == 0))), (30, .cnd ((((v3 == 3826002220) && (v1.2 == 0)) && ((v1.1.length : Int) == 10)) == true) (.int .i64 v2.2.2)), (29, .bool (((v3 == 3826002220) && (v1.2 == 0)) && ((v1.1.length : Int) == 10))), (28, .bool (((v3 == 3826002220) && (v1.2 == 0)) && ((v1.1.length : Int) == 10))), (27, .cnd (((v3 == 3826002220) && (v1.2 == 0)) == true) (.bool ((v1.1.length : Int) == 10))), (26, .cnd (((v3 == 3826002220) && (v1.2 == 0)) == true) (.int .i64 (v1.1.length : Int))), (25, .cnd (((v3 == 3826002220) && (v1.2 == 0)) == true) (.str v1.1)), (24, .bool ((v3 == 3826002220) && (v1.2 == 0))), (23, .bool ((v3 == 3826002220) && (v1.2 == 0))), (22, .cnd ((v3 == 3826002220) == true) (.bool (v1.2 == 0))), (21, .cnd ((v3 == 3826002220) == true) (.int .i64 v1.2)), (20, .bool (v3 == 3826002220)), (19, .bool (v3 == 3826002220)), (18, .int .u32 v3), (1, .str v1.1), (2, .int .i64 v1.2), (3, .isl 3 (v2.1.map e_QRecord) false), (4, .int .i64 v2.2.1), (5, .int .i64 v2.2.2)] _ _
  refine LWp.sim (e := [(0, .bool ((((((v3 == 3826002220) && (v1.2 == 0)) && ((v1.1.length : Int) == 10)) && (v2.2.2 == 0)) && (v2.2.1 == 10)) && v4))]) (L := []) (n := 0) ?_ ?_
  · exact simI (M := []) rfl (And.intro (Vw.same _ rfl) trivial) trivial
  refine retI ?_
  cases h
  exact And.intro trivial (And.intro rfl (Vw.same _ rfl))

theorem f5_ok {m : Option Nat} {o : Bool} (h : S_glossatorlaw3_journalExample m = some o) : PFn Try.prog 5 [] (.bool o) := PFn.ofFnW (L := f5_L) f5_low f5_fok (Nat.le_of_ble_eq_true rfl) rfl (f5_start h)

def S_strings_Compare (m : Option Nat) (a0 : List UInt8) (a1 : List UInt8) : Option (Int) := some (Go.Lib.compareBytes a0 a1)
theorem f18_fok : FnOk Try.prog 18 := ⟨_, Try.func18, rfl, rfl⟩
theorem f18_ok {m : Option Nat} {a0 : List UInt8} {a1 : List UInt8} {o : Int} (h : S_strings_Compare m a0 a1 = some o) : PFn Try.prog 18 [.str a0, .str a1] (.int .i64 o) := by
  cases h
  exact PFn.lib f18_fok rfl rfl (fun w => Calls.mono (Any.strings_Compare Try.l18 ⟨⟨a0⟩⟩ ⟨⟨a1⟩⟩ w) (fun _ _ h => ⟨h.1, same_grow h.2⟩))

def f17_c0 : LCode := (.seq (.region [⟨some 2, .box (.t 0), none⟩,
   ⟨some 3, .box (.t 1), none⟩,
   ⟨some 4, .mv (.c (.int .i64 0)), none⟩])
 (.seq (.region [⟨some 5, .faddr 0 (.t 2), none⟩,
   ⟨some 6, .load false 1 (.t 5), none⟩,
   ⟨some 7, .faddr 0 (.t 3), none⟩,
   ⟨some 8, .load false 1 (.t 7), none⟩,
   ⟨some 9, .call 18 [(.t 6), (.t 8)], none⟩,
   ⟨some 4, .mv (.t 9), none⟩])
 .ret))
def f17_lay : Lay := ⟨10, [], false⟩
def f17_res : List LRes := [.t 4]
def f17_L : LFn := ⟨2, f17_lay, f17_c0, f17_res⟩
theorem f17_low : lowFn Try.prog [] 17 = some f17_L := by kernel_rfl
theorem f17_fok : FnOk Try.prog 17 := ⟨_, Try.func17, rfl, rfl⟩
noncomputable def S_journal_State_1 (m : Option Nat) (a0 : G_QRecord) (a1 : G_QRecord) : Option Int :=
  (S_strings_Compare m a0.f_Key a1.f_Key).bind fun v1 =>
  some v1

def f17_Q (a0 : G_QRecord) (a1 : G_QRecord) (o : Int) : Exit → Env → AHeap → Nat → Prop := FinK f17_res (PureEnd (.int .i64 o))

theorem f17_start {a0 : G_QRecord} {a1 : G_QRecord} {m : Option Nat} {o : Int} (h : S_journal_State_1 m a0 a1 = some o) : LWp Try.prog f17_lay 0 f17_c0 (f17_Q a0 a1 o) (initEnv 0 [.agg [.str a0.f_Key, .str a0.f_Value, .bool a0.f_Deleted], .agg [.str a1.f_Key, .str a1.f_Value, .bool a1.f_Deleted]]) [] 0 := by
  unfold S_journal_State_1 at h
  refine seqI ?_
  refine regI ?_
  refine seqI ?_
  refine regI ?_
  obtain ⟨v1, h1, h⟩ := bind_some h
  refine PFn.call (f18_ok h1) (And.intro (Vw.same _ rfl) (And.intro (Vw.same _ rfl) trivial)) ?_
  show yops _ _ _ [(9, .int .i64 v1), (8, .str a1.f_Key), (7, .ptr (1, 0) 0 0), (6, .str a0.f_Key), (5, .ptr (0, 0) 0 0), (4, .int .i64 0), (3, .ptr (1, 0) 0 0), (2, .ptr (0, 0) 0 0), (0, .agg [.str a0.f_Key, .str a0.f_Value, .bool a0.f_Deleted]), (1, .agg [.str a1.f_Key, .str a1.f_Value, .bool a1.f_Deleted])] _ _
  refine LWp.sim (e := [(4, .int .i64 v1)]) (L := []) (n := 0) ?_ ?_
  · exact simI (M := []) rfl (And.intro (Vw.same _ rfl) trivial) trivial
  refine retI ?_
  cases h
  exact And.intro trivial (And.intro rfl (Vw.same _ rfl))

theorem f17_ok {a0 : G_QRecord} {a1 : G_QRecord} {m : Option Nat} {o : Int} (h : S_journal_State_1 m a0 a1 = some o) : PFn Try.prog 17 [.agg [.str a0.f_Key, .str a0.f_Value, .bool a0.f_Deleted], .agg [.str a1.f_Key, .str a1.f_Value, .bool a1.f_Deleted]] (.int .i64 o) := PFn.ofFnW (L := f17_L) f17_low f17_fok (Nat.le_of_ble_eq_true rfl) rfl (f17_start h)

noncomputable def cf17 (x y : G_QRecord) : Int := (S_journal_State_1 (some 4096) x y).getD 0
theorem cf17_ok (x y : G_QRecord) : S_journal_State_1 (some 4096) x y = some (cf17 x y) := rfl
noncomputable def S_slices_SortFunc_api_QRecord (m : Option Nat) (a0 : List G_QRecord) : Option (List G_QRecord) := by classical exact if Go.Sort.SWO (Go.Proofs.ltOf cf17) ∧ a0.length < 4611686018427387904 then some (sortF cf17 a0) else none
theorem f16b0_fok : FnOk Try.prog 16 := ⟨_, Try.func16, rfl, rfl⟩
theorem f16b0_ok {m : Option Nat} {a0 : List G_QRecord} {o : List G_QRecord} (h : S_slices_SortFunc_api_QRecord m a0 = some o) : ACalls Try.prog 16 [.msl (0, 0) 3 0 a0.length false, .fn (.func 17) [] []] [((0, 0), .rows 3 (a0.map e_QRecord))] 3 (Gives 3 (.tup []) [((0, 0), .rows 3 (o.map e_QRecord))]) := by
  unfold S_slices_SortFunc_api_QRecord at h
  split at h
  · rename_i hc
    cases h
    exact sortFunc_acalls Try.l16 (by decide) Try.isAgg26 Try.sizeOf26 e_QRecord (fun _ => ⟨rfl, rfl⟩) cf17 hc.1 17 (Go.Proofs.enters_of Try.func17 (by kernel_rfl) rfl) (fun x y W => PFn.cmp (e := e_QRecord) (fun _ => rfl) (f17_ok (cf17_ok x y)) W) f16b0_fok rfl _ hc.2 _
  · cases h

def f7_c1 : LCode := (.seq (.region [⟨some 13, .bin .lss (.t 12) (.t 11), none⟩])
 (.seq (.cond (.t 13)
  .skip
  (.exit 0))
 (.seq (.block 1
  (.seq (.region [⟨some 14, .iaddr 3 (.t 10) (.t 12), none⟩,
    ⟨some 15, .load true 3 (.t 14), none⟩,
    ⟨some 5, .alloc [(.str []), (.str []), (.bool false)], none⟩,
    ⟨none, .store 3 (.t 5) (.t 15), none⟩])
  (.region [⟨some 16, .mv (.t 3), none⟩,
    ⟨some 17, .faddr 0 (.t 5), none⟩,
    ⟨some 18, .load false 1 (.t 17), none⟩,
    ⟨some 19, .load true 3 (.t 5), none⟩,
    ⟨none, .mset [.str] false true [(.str []), (.str []), (.bool false)] (.t 16) (.t 18) (.t 19), none⟩])))
 (.region [⟨some 20, .bin .add (.t 12) (.c (.int .i64 1)), none⟩,
   ⟨some 12, .mv (.t 20), none⟩]))))
def f7_c4 : LCode := (.seq (.cond (.t 24)
  .skip
  (.exit 2))
 (.block 3
  (.seq (.region [⟨some 25, .entry (.t 22), none⟩,
    ⟨some 26, .ext 1 (.t 25), none⟩,
    ⟨some 8, .alloc [(.str []), (.str []), (.bool false)], none⟩,
    ⟨none, .store 3 (.t 8) (.t 26), none⟩])
  (.seq (.region [⟨some 27, .faddr 2 (.t 8), none⟩,
    ⟨some 28, .load false 1 (.t 27), none⟩,
    ⟨some 29, .un .not (.t 28), none⟩])
  (.cond (.t 29)
   (.region [⟨some 30, .mv (.t 6), none⟩,
     ⟨some 31, .load true 3 (.t 8), none⟩,
     ⟨some 32, .mkSl true 3 [(.str []), (.str []), (.bool false)] 1 [(0, (.t 31))], none⟩,
     ⟨some 33, .app false 3 40 (.t 30) (.t 32), none⟩,
     ⟨some 6, .mv (.t 33), none⟩])
   .skip)))))
def f7_c3 : LCode := (.seq (.region [⟨some 23, .next (.t 22), none⟩,
   ⟨some 24, .ext 0 (.t 23), none⟩])
 f7_c4)
def f7_c2 : LCode := (.seq (.region [⟨some 34, .mv (.t 6), none⟩,
   ⟨some 35, .call 16 [(.t 34), (.c (.fn (.func 17) [] []))], none⟩])
 (.seq (.region [⟨some 36, .mv (.t 6), none⟩,
   ⟨some 2, .mv (.t 36), none⟩])
 .ret))
def f7_c0 : LCode := (.seq (.region [⟨some 6, .mv (.c (.val (.slice none 0 0))), none⟩])
 (.seq (.seq (.region [⟨some 21, .mv (.t 3), none⟩,
   ⟨some 22, .range (.t 21), none⟩])
 (.block 2
  (.loop
   f7_c3)))
 f7_c2))
def f7_c5 : LCode := (.seq (.region [⟨some 2, .mv (.c (.val (.slice none 0 0))), none⟩])
 (.seq (.region [⟨some 9, .mkmap none, none⟩,
   ⟨some 3, .mv (.t 9), none⟩])
 (.seq (.seq (.region [⟨some 10, .mv (.t 0), none⟩,
   ⟨some 11, .len false (.t 10), none⟩,
   ⟨some 12, .mv (.c (.int .i64 0)), none⟩])
 (.block 0
  (.loop
   f7_c1)))
 f7_c0)))
def f7_lay : Lay := ⟨37, [33], false⟩
def f7_res : List LRes := [.t 2]
def f7_L : LFn := ⟨1, f7_lay, f7_c5, f7_res⟩
theorem f7_low : lowFn Try.prog [33] 7 = some f7_L := by kernel_rfl
theorem f7_fok : FnOk Try.prog 7 := ⟨_, Try.func7, rfl, rfl⟩
def f7_Q (a0 : List G_QRecord) (o : (List G_QRecord)) : Exit → Env → AHeap → Nat → Prop := FinK f7_res (PureEnd (.isl 3 (o.map e_QRecord) false))

def f7_L1_env (a0 : List G_QRecord) (s : (Int × (List ((List UInt8) × G_QRecord)))) : Env := [(3, .map (0, 0)), (10, .isl 3 (a0.map e_QRecord) false), (11, .int .i64 ((a0.map e_QRecord).length : Int)), (12, .int .i64 s.1)]
def f7_L1_hp (a0 : List G_QRecord) (s : (Int × (List ((List UInt8) × G_QRecord)))) : AHeap := [((0, 0), .amap (s.2.map (em a_str a_QRecord)))]
def f7_L1_Q (a0 : List G_QRecord) (o : (List G_QRecord)) : Exit → Env → AHeap → Nat → Prop := (QBlock 0 (QSeq Try.prog f7_lay 0 f7_c0 (f7_Q a0 o)))

noncomputable def S_journal_State_b2 (m : Option Nat) (v2 : List ((List UInt8) × G_QRecord)) (v3 : List G_QRecord) (v4 : Nat) : Option ((List G_QRecord) ⊕ (List G_QRecord)) :=
  if (!(((v2.getD v4 default).2).f_Deleted)) = true then
    if ((v3 ++ ([(G_QRecord.mk (((v2.getD v4 default).2).f_Key) (((v2.getD v4 default).2).f_Value) (((v2.getD v4 default).2).f_Deleted))] : List G_QRecord)).map e_QRecord).length * 40 ≤ 140737488355328 then
    some (.inl (v3 ++ ([(G_QRecord.mk (((v2.getD v4 default).2).f_Key) (((v2.getD v4 default).2).f_Value) (((v2.getD v4 default).2).f_Deleted))] : List G_QRecord)))
    else none
  else
    some (.inl v3)

noncomputable def S_journal_State_j2 (m : Option Nat) (v3 : List G_QRecord) : Option (List G_QRecord) :=
  (S_slices_SortFunc_api_QRecord m v3).bind fun v5 =>
  if v5.length = v3.length then
  some v5
  else none

noncomputable def S_journal_State_d2 (m : Option Nat) (v2 : List ((List UInt8) × G_QRecord)) (v3 : List G_QRecord) : Option ((List G_QRecord) ⊕ (List G_QRecord)) :=
  Option.map Sum.inr (
    S_journal_State_j2 m v3)

noncomputable def S_journal_State_l2 (m : Option Nat) (v2 : List ((List UInt8) × G_QRecord)) (v3 : List G_QRecord) : Option (List G_QRecord) := rangeF v2.length (fun j (s : (List G_QRecord)) => S_journal_State_b2 m v2 s j) (fun s => S_journal_State_d2 m v2 s) (v2.length + 1) [] v3

noncomputable def S_journal_State_j1 (m : Option Nat) (v2 : List ((List UInt8) × G_QRecord)) : Option (List G_QRecord) :=
  S_journal_State_l2 m v2 ([] : List G_QRecord)

noncomputable def S_journal_State_b1 (m : Option Nat) (a0 : List G_QRecord) (v1 : Int) (v2 : List ((List UInt8) × G_QRecord)) : Option ((Int × (List ((List UInt8) × G_QRecord))) ⊕ (List G_QRecord)) :=
  if (decide (v1 < ((a0.map e_QRecord).length : Int))) = true then
    if (0 : Int) ≤ v1 ∧ v1 < ((a0.map e_QRecord).length : Int) then
    some (.inl ((W (v1 + 1)), (mp q_str v2 ((a0.getD v1.toNat default).f_Key) (G_QRecord.mk ((a0.getD v1.toNat default).f_Key) ((a0.getD v1.toNat default).f_Value) ((a0.getD v1.toNat default).f_Deleted)))))
    else none
  else
    Option.map Sum.inr (
      S_journal_State_j1 m v2)

noncomputable def S_journal_State_l1 (m : Option Nat) (a0 : List G_QRecord) (v1 : Int) (v2 : List ((List UInt8) × G_QRecord)) : Option (List G_QRecord) := loopM m (fun (s : (Int × (List ((List UInt8) × G_QRecord)))) => S_journal_State_b1 m a0 s.1 s.2) (v1, v2)

def f7_L2_env (arr1 : Array MapEntry) (ck1 : Nat) (v2 : List ((List UInt8) × G_QRecord)) (seen2 : List Nat) (s : (List G_QRecord)) : Env := [(6, .msl (0, 0) 3 0 s.length false), (22, .ptr (1, 0) 0 0)]
def f7_L2_hp (arr1 : Array MapEntry) (ck1 : Nat) (v2 : List ((List UInt8) × G_QRecord)) (seen2 : List Nat) (s : (List G_QRecord)) : AHeap := [((0, 0), .rows 3 (s.map e_QRecord)), ((1, 0), .itr (some (2, 0)) arr1 ck1 seen2), ((2, 0), .rmap (v2.map (em a_str a_QRecord)) arr1 ck1)]
def f7_L2_Q (a0 : List G_QRecord) (o : (List G_QRecord)) : Exit → Env → AHeap → Nat → Prop := (QBlock 2 (QSeq Try.prog f7_lay 0 f7_c2 (f7_Q a0 o)))

theorem f7_j2_ok {a0 : List G_QRecord} {v3 : List G_QRecord} {m : Option Nat} {o : (List G_QRecord)} (h : S_journal_State_j2 m v3 = some o) :
    LWp Try.prog f7_lay 0 f7_c2 (f7_Q a0 o) [(6, .msl (0, 0) 3 0 v3.length false)] [((0, 0), .rows 3 (v3.map e_QRecord))] 1 := by
  unfold S_journal_State_j2 at h
  refine seqI ?_
  refine regI ?_
  obtain ⟨v5, h16, h⟩ := bind_some h
  refine bcall (k := 3) (m := 0) (L' := [((0, 0), .rows 3 (v5.map e_QRecord))]) (rest := []) (R' := .tup []) [((0, 0), (0, 0))] (f16b0_ok h16) rfl rfl rfl (And.intro (Vw.mslE rfl (by first | rfl | omega | (simp; done) | (simp only [List.length_map, List.length_replicate, Int.toNat_natCast] at *; omega)) rfl) (And.intro (Vw.same _ rfl) trivial)) (And.intro (h0I (0, 0) rfl rfl (BVw.enc e_QRecord (fun _ => rfl) _ v3)) trivial) (nid_ren _ rfl) (And.intro rfl (And.intro (rows_ren e_QRecord (fun _ => rfl) _ _) trivial)) rfl ?_
  obtain ⟨h17, h⟩ := ite_some h
  refine seqI ?_
  refine regI ?_
  refine retI ?_
  cases h
  exact And.intro trivial (And.intro rfl (Vw.frzB e_QRecord e_QRecord_ok (fun h => h) rfl rfl (by first | rfl | omega | (simp; done) | (simp only [List.length_map, List.length_replicate, Int.toNat_natCast] at *; omega))))

theorem f7_L2_bok {arr1 : Array MapEntry} {ck1 : Nat} {seen2 : List Nat} {a0 : List G_QRecord} {v2 : List ((List UInt8) × G_QRecord)} {v3 : List G_QRecord} {m : Option Nat} {k : Nat} {o : (List G_QRecord)} (h : rangeF v2.length (fun j (s : (List G_QRecord)) => S_journal_State_b2 m v2 s j) (fun s => S_journal_State_d2 m v2 s) (k + 1) seen2 v3 = some o) :
    LWp Try.prog f7_lay 0 f7_c3 (BodyF 0 3 (rangeF v2.length (fun j (s : (List G_QRecord)) => S_journal_State_b2 m v2 s j) (fun s => S_journal_State_d2 m v2 s)) (f7_L2_env arr1 ck1 v2) (f7_L2_hp arr1 ck1 v2) (f7_L2_Q a0) k o) [(6, .msl (0, 0) 3 0 v3.length false), (22, .ptr (1, 0) 0 0)] [((0, 0), .rows 3 (v3.map e_QRecord)), ((1, 0), .itr (some (2, 0)) arr1 ck1 seen2), ((2, 0), .rmap (v2.map (em a_str a_QRecord)) arr1 ck1)] 3 := by
  refine seqI ?_
  refine regI ?_
  refine And.intro (And.intro rfl rfl) (And.intro (fun h13 => ?_) (fun v4 h11 h12 => ?_))
  · obtain ⟨o2, h, hm, hr⟩ := rangeF_done h (fun j hj => h13 j (len_lt hj))
    unfold S_journal_State_d2 at h
    refine LWp.mono ?_ (BodyQ_F hm hr)
    refine seqI ?_
    refine condI (v := false) rfl trivial (fun hc => Bool.noConfusion hc) (fun hc => ?_)
    refine exitI ?_
    obtain ⟨o, hq, rfl⟩ := Option.map_eq_some_iff.1 h
    replace h := hq; clear hq
    refine And.intro nofun ?_
    refine LWp.sim ?_ (f7_j2_ok h)
    exact simI (M := [((0, 0), (0, 0))]) rfl (And.intro (Vw.mslE rfl (by first | rfl | omega | (simp; done) | (simp only [List.length_map, List.length_replicate, Int.toNat_natCast] at *; omega)) rfl) trivial) (And.intro (And.intro rfl (BVw.enc e_QRecord (fun _ => rfl) _ v3)) trivial)
  · obtain ⟨o2, h, hm, hr⟩ := rangeF_more h (lt_len h11) h12
    unfold S_journal_State_b2 at h
    refine LWp.mono ?_ (BodyQ_F hm hr)
    refine seqI ?_
    refine condI (v := true) rfl trivial (fun hc => ?_) (fun hc => Bool.noConfusion hc)
    refine skipI ?_
    refine blockI ?_
    refine seqI ?_
    refine regI ?_
    refine And.intro (And.intro rfl rfl) (Exists.intro ((em a_str a_QRecord) (v2.getD v4 default)) (And.intro (ent_enc h11) ?_))
    refine seqI ?_
    refine regI ?_
    refine condI (v := (!(((v2.getD v4 default).2).f_Deleted))) rfl trivial (fun h14 => ?_) (fun h14 => ?_)
    · have h := ite_tt h14 h
      refine regI ?_
      obtain ⟨h15, h⟩ := ite_some h
      refine And.intro (fun h => Bool.noConfusion h) (And.intro (lenW e_QRecord (by first | rfl | omega | (simp; done) | (simp only [List.length_map, List.length_replicate, Int.toNat_natCast] at *; omega))) (Exists.intro ((v3 ++ ([(G_QRecord.mk (((v2.getD v4 default).2).f_Key) (((v2.getD v4 default).2).f_Value) (((v2.getD v4 default).2).f_Deleted))] : List G_QRecord)).map e_QRecord) (And.intro (appW e_QRecord v3 ([(G_QRecord.mk (((v2.getD v4 default).2).f_Key) (((v2.getD v4 default).2).f_Value) (((v2.getD v4 default).2).f_Deleted))] : List G_QRecord) (by first | rfl | omega | (simp; done) | (simp only [List.length_map, List.length_replicate, Int.toNat_natCast] at *; omega))) (And.intro h15 ?_))))
      cases h
      exact And.intro rfl (simI (M := [((0, 0), (4, 0)), ((1, 0), (1, 0)), ((2, 0), (2, 0))]) rfl (And.intro (Vw.mslE rfl (by first | rfl | omega | (simp; done) | (simp only [List.length_map, List.length_replicate, Int.toNat_natCast] at *; omega)) rfl) (And.intro (Vw.ptr _ _ _ _ rfl) trivial)) (And.intro (And.intro rfl (BVw.enc e_QRecord (fun _ => rfl) _ (v3 ++ ([(G_QRecord.mk (((v2.getD v4 default).2).f_Key) (((v2.getD v4 default).2).f_Value) (((v2.getD v4 default).2).f_Deleted))] : List G_QRecord)))) (And.intro (And.intro rfl (BVw.itr _ _ _ _ _ rfl)) (And.intro (And.intro rfl (BVw.ofRmap a_str a_QRecord a_QRecord_nid v2)) trivial))))
    · have h := ite_ff h14 h
      refine skipI ?_
      cases h
      exact And.intro rfl (simI (M := [((0, 0), (0, 0)), ((1, 0), (1, 0)), ((2, 0), (2, 0))]) rfl (And.intro (Vw.mslE rfl (by first | rfl | omega | (simp; done) | (simp only [List.length_map, List.length_replicate, Int.toNat_natCast] at *; omega)) rfl) (And.intro (Vw.ptr _ _ _ _ rfl) trivial)) (And.intro (And.intro rfl (BVw.enc e_QRecord (fun _ => rfl) _ v3)) (And.intro (And.intro rfl (BVw.itr _ _ _ _ _ rfl)) (And.intro (And.intro rfl (BVw.ofRmap a_str a_QRecord a_QRecord_nid v2)) trivial))))

theorem f7_L2_ok {arr1 : Array MapEntry} {ck1 : Nat} {a0 : List G_QRecord} {v2 : List ((List UInt8) × G_QRecord)} {v3 : List G_QRecord} {m : Option Nat} {o : (List G_QRecord)} (h : S_journal_State_l2 m v2 v3 = some o) :
    LWp Try.prog f7_lay 0 (.loop f7_c3) (QBlock 2 (QSeq Try.prog f7_lay 0 f7_c2 (f7_Q a0 o))) [(6, .msl (0, 0) 3 0 v3.length false), (22, .ptr (1, 0) 0 0)] [((0, 0), .rows 3 (v3.map e_QRecord)), ((1, 0), .itr (some (2, 0)) arr1 ck1 []), ((2, 0), .rmap (v2.map (em a_str a_QRecord)) arr1 ck1)] 3 :=
  LWp_range (s := (v3 : (List G_QRecord))) (rangeF v2.length (fun j (s : (List G_QRecord)) => S_journal_State_b2 m v2 s j) (fun s => S_journal_State_d2 m v2 s)) (f7_L2_env arr1 ck1 v2) (f7_L2_hp arr1 ck1 v2) (f7_L2_Q a0) (fun _ _ _ h => rangeF_zero h) (fun k sn s r h => f7_L2_bok (v3 := s) h) h

theorem f7_j1_ok {a0 : List G_QRecord} {v2 : List ((List UInt8) × G_QRecord)} {m : Option Nat} {o : (List G_QRecord)} (h : S_journal_State_j1 m v2 = some o) :
    LWp Try.prog f7_lay 0 f7_c0 (f7_Q a0 o) [(3, .map (0, 0))] [((0, 0), .amap (v2.map (em a_str a_QRecord)))] 1 := by
  unfold S_journal_State_j1 at h
  refine seqI ?_
  refine LWp.ghost 3 ?_
  refine regI ?_
  refine LWp.sim (e := [(3, .map (0, 0)), (6, .msl (1, 0) 3 0 (([] : List G_QRecord).length) false)]) (L := [((0, 0), .amap (v2.map (em a_str a_QRecord))), ((1, 0), .rows 3 (([] : List G_QRecord).map e_QRecord))]) (n := 2) ?_ ?_
  · exact simI (M := [((0, 0), (0, 0)), ((1, 0), (1, 0))]) rfl (And.intro (Vw.map _ _ rfl) (And.intro (Vw.nilM _ _ _ _ _ _ rfl rfl) trivial)) (And.intro (And.intro rfl (BVw.ofMap a_str a_QRecord a_QRecord_nid v2)) (And.intro (And.intro rfl (BVw.enc e_QRecord (fun _ => rfl) _ ([] : List G_QRecord))) trivial))
  refine seqI ?_
  refine seqI ?_
  refine regI ?_
  refine fun arr1 ck1 => ?_
  refine blockI ?_
  refine LWp.sim ?_ (f7_L2_ok (arr1 := arr1) (ck1 := ck1) h)
  exact simI (M := [((0, 0), (1, 0)), ((1, 0), (2, 0)), ((2, 0), (0, 0))]) rfl (And.intro (Vw.mslE rfl (by first | rfl | omega | (simp; done) | (simp only [List.length_map, List.length_replicate, Int.toNat_natCast] at *; omega)) rfl) (And.intro (Vw.ptr _ _ _ _ rfl) trivial)) (And.intro (And.intro rfl (BVw.enc e_QRecord (fun _ => rfl) _ ([] : List G_QRecord))) (And.intro (And.intro rfl (BVw.itr _ _ _ _ _ rfl)) (And.intro (And.intro rfl (BVw.ofRmap a_str a_QRecord a_QRecord_nid v2)) trivial)))

theorem f7_L1_bok {a0 : List G_QRecord} {v1 : Int} {v2 : List ((List UInt8) × G_QRecord)} {m : Option Nat} {o : (Int × (List ((List UInt8) × G_QRecord))) ⊕ (List G_QRecord)} (h : S_journal_State_b1 m a0 v1 v2 = some o) :
    LWp Try.prog f7_lay 0 f7_c1 (BodyQ 0 1 (f7_L1_env a0) (f7_L1_hp a0) (f7_L1_Q a0) o) [(3, .map (0, 0)), (10, .isl 3 (a0.map e_QRecord) false), (11, .int .i64 ((a0.map e_QRecord).length : Int)), (12, .int .i64 v1)] [((0, 0), .amap (v2.map (em a_str a_QRecord)))] 1 := by
  unfold S_journal_State_b1 at h
  refine seqI ?_
  refine regI ?_
  refine seqI ?_
  refine condI (v := (decide (v1 < ((a0.map e_QRecord).length : Int)))) rfl trivial (fun h5 => ?_) (fun h5 => ?_)
  · have h := ite_tt h5 h
    refine skipI ?_
    refine seqI ?_
    refine blockI ?_
    refine seqI ?_
    refine regI ?_
    obtain ⟨h6, h⟩ := ite_some h
    refine And.intro h6 ?_
    refine Exists.intro (e_QRecord (a0.getD v1.toNat default)) (And.intro (getD_enc e_QRecord _ _ (idx_ltL e_QRecord h6)) (And.intro (And.intro (idx_lt h6) (Nat.le_of_ble_eq_true rfl)) ?_))
    refine regI ?_
    refine Exists.intro ((mp q_str v2 ((a0.getD v1.toNat default).f_Key) (G_QRecord.mk ((a0.getD v1.toNat default).f_Key) ((a0.getD v1.toNat default).f_Value) ((a0.getD v1.toNat default).f_Deleted))).map (em a_str a_QRecord)) (And.intro (mput_enc (ek := a_str) (ev := a_QRecord) q_str_ok ((a0.getD v1.toNat default).f_Key) (G_QRecord.mk ((a0.getD v1.toNat default).f_Key) ((a0.getD v1.toNat default).f_Value) ((a0.getD v1.toNat default).f_Deleted)) v2) ?_)
    refine LWp.sim (e := [(3, .map (0, 0)), (10, .isl 3 (a0.map e_QRecord) false), (11, .int .i64 ((a0.map e_QRecord).length : Int)), (12, .int .i64 v1)]) (L := [((0, 0), .amap ((mp q_str v2 ((a0.getD v1.toNat default).f_Key) (G_QRecord.mk ((a0.getD v1.toNat default).f_Key) ((a0.getD v1.toNat default).f_Value) ((a0.getD v1.toNat default).f_Deleted))).map (em a_str a_QRecord)))]) (n := 1) ?_ ?_
    · exact simI (M := [((0, 0), (0, 0))]) rfl (And.intro (Vw.map _ _ rfl) (And.intro (Vw.same _ rfl) (And.intro (Vw.same _ rfl) (And.intro (Vw.same _ rfl) trivial)))) (And.intro (And.intro rfl (BVw.ofMap a_str a_QRecord a_QRecord_nid (mp q_str v2 ((a0.getD v1.toNat default).f_Key) (G_QRecord.mk ((a0.getD v1.toNat default).f_Key) ((a0.getD v1.toNat default).f_Value) ((a0.getD v1.toNat default).f_Deleted))))) trivial)
    refine regI ?_
    cases h
    exact And.intro rfl (simI (M := [((0, 0), (0, 0))]) rfl (And.intro (Vw.map _ _ rfl) (And.intro (Vw.same _ rfl) (And.intro (Vw.same _ rfl) (And.intro (Vw.same _ rfl) trivial)))) (And.intro (And.intro rfl (BVw.ofMap a_str a_QRecord a_QRecord_nid (mp q_str v2 ((a0.getD v1.toNat default).f_Key) (G_QRecord.mk ((a0.getD v1.toNat default).f_Key) ((a0.getD v1.toNat default).f_Value) ((a0.getD v1.toNat default).f_Deleted))))) trivial))
  · have h := ite_ff h5 h
    refine exitI ?_
    obtain ⟨o, hq, rfl⟩ := Option.map_eq_some_iff.1 h
    replace h := hq; clear hq
    refine And.intro nofun ?_
    refine LWp.sim ?_ (f7_j1_ok h)
    exact simI (M := [((0, 0), (0, 0))]) rfl (And.intro (Vw.map _ _ rfl) trivial) (And.intro (And.intro rfl (BVw.ofMap a_str a_QRecord a_QRecord_nid v2)) trivial)

theorem f7_L1_ok {a0 : List G_QRecord} {v1 : Int} {v2 : List ((List UInt8) × G_QRecord)} {m : Option Nat} {o : (List G_QRecord)} (h : S_journal_State_l1 m a0 v1 v2 = some o) :
    LWp Try.prog f7_lay 0 (.loop f7_c1) (QBlock 0 (QSeq Try.prog f7_lay 0 f7_c0 (f7_Q a0 o))) [(3, .map (0, 0)), (10, .isl 3 (a0.map e_QRecord) false), (11, .int .i64 ((a0.map e_QRecord).length : Int)), (12, .int .i64 v1)] [((0, 0), .amap (v2.map (em a_str a_QRecord)))] 1 :=
  LWp_loopM (m := m) (s := ((v1, v2) : (Int × (List ((List UInt8) × G_QRecord))))) (r := o) (fun (s : (Int × (List ((List UInt8) × G_QRecord)))) => S_journal_State_b1 m a0 s.1 s.2) (f7_L1_env a0) (f7_L1_hp a0) (f7_L1_Q a0) (fun s o h => f7_L1_bok h) h

noncomputable def S_journal_State (m : Option Nat) (a0 : List G_QRecord) : Option (List G_QRecord) :=
  S_journal_State_l1 m a0 0 ([] : List ((List UInt8) × G_QRecord))

theorem f7_start {a0 : List G_QRecord} {m : Option Nat} {o : (List G_QRecord)} (h : S_journal_State m a0 = some o) : LWp Try.prog f7_lay 0 f7_c5 (f7_Q a0 o) (initEnv 0 [.isl 3 (a0.map e_QRecord) false]) [] 0 := by
  unfold S_journal_State at h
  refine seqI ?_
  refine LWp.ghost 3 ?_
  refine regI ?_
  refine LWp.sim (e := [(0, .isl 3 (a0.map e_QRecord) false)]) (L := []) (n := 0) ?_ ?_
  · exact simI (M := []) rfl (And.intro (Vw.same _ rfl) trivial) trivial
  refine seqI ?_
  refine regI ?_
  refine seqI ?_
  refine seqI ?_
  refine regI ?_
  refine blockI ?_
  refine LWp.sim ?_ (f7_L1_ok h)
  exact simI (M := [((0, 0), (0, 0))]) rfl (And.intro (Vw.map _ _ rfl) (And.intro (Vw.same _ rfl) (And.intro (Vw.same _ rfl) (And.intro (Vw.same _ rfl) trivial)))) (And.intro (And.intro rfl (BVw.ofMap a_str a_QRecord a_QRecord_nid ([] : List ((List UInt8) × G_QRecord)))) trivial)

theorem f7_ok {a0 : List G_QRecord} {m : Option Nat} {o : (List G_QRecord)} (h : S_journal_State m a0 = some o) : PFn Try.prog 7 [.isl 3 (a0.map e_QRecord) false] (.isl 3 (o.map e_QRecord) false) := PFn.ofFnW (L := f7_L) f7_low f7_fok (Nat.le_of_ble_eq_true rfl) rfl (f7_start h)

def f19_c2 : LCode := (.seq (.seq (.region [⟨some 13, .mv (.t 6), none⟩,
   ⟨some 14, .mv (.t 3), none⟩,
   ⟨some 15, .len false (.t 14), none⟩,
   ⟨some 16, .bin .lss (.t 13) (.t 15), none⟩,
   ⟨some 17, .mv (.t 16), none⟩,
   ⟨some 18, .mv (.t 3), some (17, true)⟩,
   ⟨some 19, .mv (.t 6), some (17, true)⟩,
   ⟨some 20, .iaddr 1 (.t 18) (.t 19), some (17, true)⟩,
   ⟨some 21, .load false 1 (.t 20), some (17, true)⟩,
   ⟨some 22, .mv (.t 5), some (17, true)⟩,
   ⟨some 23, .bin .lss (.t 21) (.t 22), some (17, true)⟩,
   ⟨some 24, .pick (.t 17) (.t 23) (.c (.bool false)), none⟩])
 (.cond (.t 24)
  .skip
  (.exit 2)))
 (.block 3
  (.region [⟨some 25, .mv (.t 6), none⟩,
    ⟨some 26, .bin .add (.t 25) (.c (.int .i64 1)), none⟩,
    ⟨some 6, .mv (.t 26), none⟩])))
def f19_c0 : LCode := (.seq (.region [⟨some 27, .mv (.t 6), none⟩,
   ⟨some 28, .mv (.t 3), none⟩,
   ⟨some 29, .len false (.t 28), none⟩,
   ⟨some 30, .bin .eql (.t 27) (.t 29), none⟩,
   ⟨some 31, .mv (.t 30), none⟩,
   ⟨some 32, .mv (.t 3), some (31, false)⟩,
   ⟨some 33, .mv (.t 6), some (31, false)⟩,
   ⟨some 34, .iaddr 1 (.t 32) (.t 33), some (31, false)⟩,
   ⟨some 35, .load false 1 (.t 34), some (31, false)⟩,
   ⟨some 36, .mv (.t 5), some (31, false)⟩,
   ⟨some 37, .bin .neq (.t 35) (.t 36), some (31, false)⟩,
   ⟨some 38, .pick (.t 31) (.c (.bool true)) (.t 37), none⟩])
 (.cond (.t 38)
  (.draw [⟨⟨some 39, .mv (.t 3), none⟩, []⟩,
    ⟨⟨some 40, .mv (.t 6), none⟩, []⟩,
    ⟨⟨some 41, .mv (.t 6), none⟩, []⟩,
    ⟨⟨some 42, .slSl 1 (.t 39) none (some (.t 40)) (some (.t 41)), none⟩, []⟩,
    ⟨⟨some 43, .mv (.t 5), none⟩, []⟩,
    ⟨⟨some 45, .mv (.t 3), none⟩, []⟩,
    ⟨⟨some 46, .mv (.t 6), none⟩, []⟩,
    ⟨⟨some 47, .slSl 1 (.t 45) (some (.t 46)) none none, none⟩, []⟩,
    ⟨⟨some 44, .mkSl true 1 [(.str [])] 1 [(0, (.t 43))], none⟩, []⟩,
    ⟨⟨some 48, .app true 1 16 (.t 44) (.t 47), none⟩, []⟩,
    ⟨⟨some 49, .app true 1 16 (.t 42) (.t 48), none⟩, []⟩,
    ⟨⟨some 3, .mv (.t 49), none⟩, []⟩])
  .skip))
def f19_c1 : LCode := (.region [⟨some 50, .bin .add (.t 9) (.c (.int .i64 1)), none⟩,
   ⟨some 9, .mv (.t 50), none⟩])
def f19_c4 : LCode := (.seq (.region [⟨some 10, .bin .lss (.t 9) (.t 8), none⟩])
 (.seq (.cond (.t 10)
  .skip
  (.exit 0))
 (.seq (.block 1
  (.seq (.region [⟨some 11, .iaddr 1 (.t 7) (.t 9), none⟩,
    ⟨some 12, .load false 1 (.t 11), none⟩,
    ⟨some 5, .mv (.t 12), none⟩])
  (.seq (.region [⟨some 6, .mv (.c (.int .i64 0)), none⟩])
  (.seq (.block 2
   (.loop
    f19_c2))
  f19_c0))))
 f19_c1)))
def f19_c3 : LCode := (.seq (.region [⟨some 51, .mv (.t 3), none⟩,
   ⟨some 2, .mv (.t 51), none⟩])
 .ret)
def f19_c5 : LCode := (.seq (.region [⟨some 2, .mv (.c (.val (.slice none 0 0))), none⟩])
 (.seq (.region [⟨some 3, .mv (.c (.val (.slice none 0 0))), none⟩])
 (.seq (.seq (.region [⟨some 7, .mv (.t 0), none⟩,
   ⟨some 8, .len false (.t 7), none⟩,
   ⟨some 9, .mv (.c (.int .i64 0)), none⟩])
 (.block 0
  (.loop
   f19_c4)))
 f19_c3)))
def f19_lay : Lay := ⟨52, [], false⟩
def f19_res : List LRes := [.t 2]
def f19_L : LFn := ⟨1, f19_lay, f19_c5, f19_res⟩
theorem f19_low : lowFn Try.prog [] 19 = some f19_L := by kernel_rfl
theorem f19_fok : FnOk Try.prog 19 := ⟨_, Try.func19, rfl, rfl⟩
def f19_Q (a0 : List (List UInt8)) (o : (List (List UInt8))) : Exit → Env → AHeap → Nat → Prop := FinK f19_res (PureEnd (.isl 1 (o.map e_str) false))

def f19_L3_env (a0 : List (List UInt8)) (s : ((List (List UInt8)) × Int)) : Env := [(3, .osl (0, 0) 1 (s.1.map e_str)), (7, .isl 1 (a0.map e_str) false), (8, .int .i64 ((a0.map e_str).length : Int)), (9, .int .i64 s.2)]
def f19_L3_hp (a0 : List (List UInt8)) (s : ((List (List UInt8)) × Int)) : AHeap := [((0, 0), .tok)]
def f19_L3_Q (a0 : List (List UInt8)) (o : (List (List UInt8))) : Exit → Env → AHeap → Nat → Prop := (QBlock 0 (QSeq Try.prog f19_lay 0 f19_c3 (f19_Q a0 o)))

def f19_L4_env (a0 : List (List UInt8)) (v3 : List (List UInt8)) (v4 : Int) (s : Int) : Env := [(3, .osl (0, 0) 1 (v3.map e_str)), (5, .str (a0.getD v4.toNat default)), (6, .int .i64 s), (7, .isl 1 (a0.map e_str) false), (8, .int .i64 ((a0.map e_str).length : Int)), (9, .int .i64 v4)]
def f19_L4_hp (a0 : List (List UInt8)) (v3 : List (List UInt8)) (v4 : Int) (s : Int) : AHeap := [((0, 0), .tok)]
def f19_L4_Q (a0 : List (List UInt8)) (o : (((List (List UInt8)) × Int) ⊕ (List (List UInt8)))) : Exit → Env → AHeap → Nat → Prop := (QBlock 2 (QSeq Try.prog f19_lay 0 f19_c0 (QBlock 1 (QSeq Try.prog f19_lay 0 f19_c1 (BodyQ 0 1 (f19_L3_env a0) (f19_L3_hp a0) (f19_L3_Q a0) o)))))

noncomputable def S_glossatorref3_SortStrings_j6 (m : Option Nat) (a0 : List (List UInt8)) (v4 : Int) (v8 : List (List UInt8)) : Option (((List (List UInt8)) × Int) ⊕ (List (List UInt8))) :=
  some (.inl (v8, (W (v4 + 1))))

noncomputable def S_glossatorref3_SortStrings_j5 (m : Option Nat) (a0 : List (List UInt8)) (v3 : List (List UInt8)) (v4 : Int) (v7 : Int) : Option (((List (List UInt8)) × Int) ⊕ (List (List UInt8))) :=
  if (((v7 == ((v3.map e_str).length : Int)) == false) = true → (0 : Int) ≤ v7 ∧ v7 < ((v3.map e_str).length : Int)) then
  if ((v7 == ((v3.map e_str).length : Int)) || (!((v3.getD v7.toNat default) == (a0.getD v4.toNat default)))) = true then
    if (0 : Int) ≤ 0 ∧ 0 ≤ v7 ∧ v7 ≤ v7 ∧ v7 ≤ ((v3.map e_str).length : Int) then
    if (0 : Int) ≤ v7 ∧ v7 ≤ ((v3.map e_str).length : Int) then
    if ((([(a0.getD v4.toNat default)] : List (List UInt8)) ++ (v3.drop v7.toNat)).map e_str).length * 16 ≤ 140737488355328 then
    if (decide (v7 = v7)) = true then
    if (((v3.take v7.toNat) ++ (([(a0.getD v4.toNat default)] : List (List UInt8)) ++ (v3.drop v7.toNat))).map e_str).length * 16 ≤ 140737488355328 then
    S_glossatorref3_SortStrings_j6 m a0 v4 ((v3.take v7.toNat) ++ (([(a0.getD v4.toNat default)] : List (List UInt8)) ++ (v3.drop v7.toNat)))
    else none
    else none
    else none
    else none
    else none
  else
    S_glossatorref3_SortStrings_j6 m a0 v4 v3
  else none

noncomputable def S_glossatorref3_SortStrings_b4 (m : Option Nat) (a0 : List (List UInt8)) (v3 : List (List UInt8)) (v4 : Int) (v7 : Int) : Option (Int ⊕ (((List (List UInt8)) × Int) ⊕ (List (List UInt8)))) :=
  if (((decide (v7 < ((v3.map e_str).length : Int))) == true) = true → (0 : Int) ≤ v7 ∧ v7 < ((v3.map e_str).length : Int)) then
  if ((decide (v7 < ((v3.map e_str).length : Int))) && (Op.bytesLess (v3.getD v7.toNat default) (a0.getD v4.toNat default))) = true then
    some (.inl (W (v7 + 1)))
  else
    Option.map Sum.inr (
      S_glossatorref3_SortStrings_j5 m a0 v3 v4 v7)
  else none

noncomputable def S_glossatorref3_SortStrings_l4 (m : Option Nat) (a0 : List (List UInt8)) (v3 : List (List UInt8)) (v4 : Int) (v7 : Int) : Option (((List (List UInt8)) × Int) ⊕ (List (List UInt8))) := loopM m (fun (s : Int) => S_glossatorref3_SortStrings_b4 m a0 v3 v4 s) v7

theorem f19_j6_ok {a0 : List (List UInt8)} {v4 : Int} {v8 : List (List UInt8)} {m : Option Nat} {o : (((List (List UInt8)) × Int) ⊕ (List (List UInt8)))} (h : S_glossatorref3_SortStrings_j6 m a0 v4 v8 = some o) :
    LWp Try.prog f19_lay 0 f19_c1 (BodyQ 0 1 (f19_L3_env a0) (f19_L3_hp a0) (f19_L3_Q a0) o) [(3, .osl (0, 0) 1 (v8.map e_str)), (7, .isl 1 (a0.map e_str) false), (8, .int .i64 ((a0.map e_str).length : Int)), (9, .int .i64 v4)] [((0, 0), .tok)] 1 := by
  unfold S_glossatorref3_SortStrings_j6 at h
  refine regI ?_
  cases h
  exact And.intro rfl (simI (M := [((0, 0), (0, 0))]) rfl (And.intro (Vw.osl _ _ _ _ rfl) (And.intro (Vw.same _ rfl) (And.intro (Vw.same _ rfl) (And.intro (Vw.same _ rfl) trivial)))) (And.intro (And.intro rfl BVw.tok) trivial))

theorem f19_j5_ok {a0 : List (List UInt8)} {v3 : List (List UInt8)} {v4 : Int} {v7 : Int} {m : Option Nat} {o : (((List (List UInt8)) × Int) ⊕ (List (List UInt8)))} (h : S_glossatorref3_SortStrings_j5 m a0 v3 v4 v7 = some o) :
    LWp Try.prog f19_lay 0 f19_c0 (QBlock 1 (QSeq Try.prog f19_lay 0 f19_c1 (BodyQ 0 1 (f19_L3_env a0) (f19_L3_hp a0) (f19_L3_Q a0) o))) [(3, .osl (0, 0) 1 (v3.map e_str)), (5, .str (a0.getD v4.toNat default)), (6, .int .i64 v7), (7, .isl 1 (a0.map e_str) false), (8, .int .i64 ((a0.map e_str).length : Int)), (9, .int .i64 v4)] [((0, 0), .tok)] 1 := by
  unfold S_glossatorref3_SortStrings_j5 at h
  refine seqI ?_
  refine regI ?_
  obtain ⟨h38, h⟩ := ite_some h
  refine And.intro (fun hp => (And.intro (And.intro hp hp) (h38 hp))) ?_
  show yops _ _ _ [(34, .cnd ((v7 == ((v3.map e_str).length : Int)) == false) (.iptr 1 (v3.map e_str) v7.toNat 0)), (33, .cnd ((v7 == ((v3.map e_str).length : Int)) == false) (.int .i64 v7)), (32, .cnd ((v7 == ((v3.map e_str).length : Int)) == false) (.osl (0, 0) 1 (v3.map e_str))), (31, .bool (v7 == ((v3.map e_str).length : Int))), (30, .bool (v7 == ((v3.map e_str).length : Int))), (29, .int .i64 ((v3.map e_str).length : Int)), (28, .osl (0, 0) 1 (v3.map e_str)), (27, .int .i64 v7), (3, .osl (0, 0) 1 (v3.map e_str)), (5, .str (a0.getD v4.toNat default)), (6, .int .i64 v7), (7, .isl 1 (a0.map e_str) false), (8, .int .i64 ((a0.map e_str).length : Int)), (9, .int .i64 v4)] _ _
  refine Exists.intro (e_str (v3.getD v7.toNat default)) (And.intro (fun hp => And.intro (getD_enc e_str _ _ (idx_ltL e_str (h38 hp))) (And.intro hp (And.intro (idx_lt (h38 hp)) (Nat.le_of_ble_eq_true rfl)))) ?_)
  refine And.intro (fun hp => (And.intro hp hp)) ?_
  refine And.intro (fun hc => (bqf hc)) ?_
  refine LWp.sim (e := [(3, .osl (0, 0) 1 (v3.map e_str)), (5, .str (a0.getD v4.toNat default)), (6, .int .i64 v7), (7, .isl 1 (a0.map e_str) false), (8, .int .i64 ((a0.map e_str).length : Int)), (9, .int .i64 v4), (38, .bool ((v7 == ((v3.map e_str).length : Int)) || (!((v3.getD v7.toNat default) == (a0.getD v4.toNat default)))))]) (L := [((0, 0), .tok)]) (n := 1) ?_ ?_
  · exact simI (M := [((0, 0), (0, 0))]) rfl (And.intro (Vw.osl _ _ _ _ rfl) (And.intro (Vw.same _ rfl) (And.intro (Vw.same _ rfl) (And.intro (Vw.same _ rfl) (And.intro (Vw.same _ rfl) (And.intro (Vw.same _ rfl) (And.intro (Vw.same _ rfl) trivial))))))) (And.intro (And.intro rfl BVw.tok) trivial)
  refine condI (v := ((v7 == ((v3.map e_str).length : Int)) || (!((v3.getD v7.toNat default) == (a0.getD v4.toNat default))))) rfl trivial (fun h39 => ?_) (fun h39 => ?_)
  · have h := ite_tt h39 h
    refine drawO rfl ?_
    obtain ⟨h40, h⟩ := ite_some h
    refine Exists.intro (.isl 1 ((v3.take v7.toNat).map e_str) (decide (v7 = v7))) (And.intro (sl_eq e_str (slB e_str v3 _) rfl) (And.intro (And.intro rfl h40) ?_))
    obtain ⟨h41, h⟩ := ite_some h
    refine Exists.intro (.osl (0, 0) 1 ((v3.drop v7.toNat).map e_str)) (And.intro (osl_enc e_str _ _ _ _) (And.intro (And.intro rfl h41) ?_))
    obtain ⟨h42, h⟩ := ite_some h
    refine Exists.intro ((([(a0.getD v4.toNat default)] : List (List UInt8)) ++ (v3.drop v7.toNat)).map e_str) (And.intro (app_enc e_str ([(a0.getD v4.toNat default)] : List (List UInt8)) (v3.drop v7.toNat)) (And.intro (And.intro rfl h42) ?_))
    obtain ⟨h43, h⟩ := ite_some h
    obtain ⟨h44, h⟩ := ite_some h
    refine Exists.intro (((v3.take v7.toNat) ++ (([(a0.getD v4.toNat default)] : List (List UInt8)) ++ (v3.drop v7.toNat))).map e_str) (And.intro (app_enc e_str (v3.take v7.toNat) (([(a0.getD v4.toNat default)] : List (List UInt8)) ++ (v3.drop v7.toNat))) (And.intro (And.intro h43 h44) ?_))
    refine LWp.sim ?_ (f19_j6_ok h)
    exact simI (M := [((0, 0), (2, 0))]) rfl (And.intro (Vw.osl _ _ _ _ rfl) (And.intro (Vw.same _ rfl) (And.intro (Vw.same _ rfl) (And.intro (Vw.same _ rfl) trivial)))) (And.intro (And.intro rfl BVw.tok) trivial)
  · have h := ite_ff h39 h
    refine skipI ?_
    refine LWp.sim ?_ (f19_j6_ok h)
    exact simI (M := [((0, 0), (0, 0))]) rfl (And.intro (Vw.osl _ _ _ _ rfl) (And.intro (Vw.same _ rfl) (And.intro (Vw.same _ rfl) (And.intro (Vw.same _ rfl) trivial)))) (And.intro (And.intro rfl BVw.tok) trivial)

theorem f19_L4_bok {a0 : List (List UInt8)} {v3 : List (List UInt8)} {v4 : Int} {v7 : Int} {m : Option Nat} {o : Int ⊕ (((List (List UInt8)) × Int) ⊕ (List (List UInt8)))} (h : S_glossatorref3_SortStrings_b4 m a0 v3 v4 v7 = some o) :
    LWp Try.prog f19_lay 0 f19_c2 (BodyQ 0 1 (f19_L4_env a0 v3 v4) (f19_L4_hp a0 v3 v4) (f19_L4_Q a0) o) [(3, .osl (0, 0) 1 (v3.map e_str)), (5, .str (a0.getD v4.toNat default)), (6, .int .i64 v7), (7, .isl 1 (a0.map e_str) false), (8, .int .i64 ((a0.map e_str).length : Int)), (9, .int .i64 v4)] [((0, 0), .tok)] 1 := by
  unfold S_glossatorref3_SortStrings_b4 at h
  refine seqI ?_
  refine seqI ?_
  refine regI ?_
  obtain ⟨h36, h⟩ := ite_some h
  refine And.intro (fun hp => (And.intro (And.intro hp hp) (h36 hp))) ?_
  show yops _ _ _ [(20, .cnd ((decide (v7 < ((v3.map e_str).length : Int))) == true) (.iptr 1 (v3.map e_str) v7.toNat 0)), (19, .cnd ((decide (v7 < ((v3.map e_str).length : Int))) == true) (.int .i64 v7)), (18, .cnd ((decide (v7 < ((v3.map e_str).length : Int))) == true) (.osl (0, 0) 1 (v3.map e_str))), (17, .bool (decide (v7 < ((v3.map e_str).length : Int)))), (16, .bool (decide (v7 < ((v3.map e_str).length : Int)))), (15, .int .i64 ((v3.map e_str).length : Int)), (14, .osl (0, 0) 1 (v3.map e_str)), (13, .int .i64 v7), (3, .osl (0, 0) 1 (v3.map e_str)), (5, .str (a0.getD v4.toNat default)), (6, .int .i64 v7), (7, .isl 1 (a0.map e_str) false), (8, .int .i64 ((a0.map e_str).length : Int)), (9, .int .i64 v4)] _ _
  refine Exists.intro (e_str (v3.getD v7.toNat default)) (And.intro (fun hp => And.intro (getD_enc e_str _ _ (idx_ltL e_str (h36 hp))) (And.intro hp (And.intro (idx_lt (h36 hp)) (Nat.le_of_ble_eq_true rfl)))) ?_)
  refine And.intro (fun hp => (And.intro hp hp)) ?_
  refine And.intro (fun hc => (bqt hc)) ?_
  refine LWp.sim (e := [(3, .osl (0, 0) 1 (v3.map e_str)), (5, .str (a0.getD v4.toNat default)), (6, .int .i64 v7), (7, .isl 1 (a0.map e_str) false), (8, .int .i64 ((a0.map e_str).length : Int)), (9, .int .i64 v4), (24, .bool ((decide (v7 < ((v3.map e_str).length : Int))) && (Op.bytesLess (v3.getD v7.toNat default) (a0.getD v4.toNat default))))]) (L := [((0, 0), .tok)]) (n := 1) ?_ ?_
  · exact simI (M := [((0, 0), (0, 0))]) rfl (And.intro (Vw.osl _ _ _ _ rfl) (And.intro (Vw.same _ rfl) (And.intro (Vw.same _ rfl) (And.intro (Vw.same _ rfl) (And.intro (Vw.same _ rfl) (And.intro (Vw.same _ rfl) (And.intro (Vw.same _ rfl) trivial))))))) (And.intro (And.intro rfl BVw.tok) trivial)
  refine condI (v := ((decide (v7 < ((v3.map e_str).length : Int))) && (Op.bytesLess (v3.getD v7.toNat default) (a0.getD v4.toNat default)))) rfl trivial (fun h37 => ?_) (fun h37 => ?_)
  · have h := ite_tt h37 h
    refine skipI ?_
    refine blockI ?_
    refine regI ?_
    cases h
    exact And.intro rfl (simI (M := [((0, 0), (0, 0))]) rfl (And.intro (Vw.osl _ _ _ _ rfl) (And.intro (Vw.same _ rfl) (And.intro (Vw.same _ rfl) (And.intro (Vw.same _ rfl) (And.intro (Vw.same _ rfl) (And.intro (Vw.same _ rfl) trivial)))))) (And.intro (And.intro rfl BVw.tok) trivial))
  · have h := ite_ff h37 h
    refine exitI ?_
    obtain ⟨o, hq, rfl⟩ := Option.map_eq_some_iff.1 h
    replace h := hq; clear hq
    refine And.intro nofun ?_
    refine LWp.sim ?_ (f19_j5_ok h)
    exact simI (M := [((0, 0), (0, 0))]) rfl (And.intro (Vw.osl _ _ _ _ rfl) (And.intro (Vw.same _ rfl) (And.intro (Vw.same _ rfl) (And.intro (Vw.same _ rfl) (And.intro (Vw.same _ rfl) (And.intro (Vw.same _ rfl) trivial)))))) (And.intro (And.intro rfl BVw.tok) trivial)

theorem f19_L4_ok {a0 : List (List UInt8)} {v3 : List (List UInt8)} {v4 : Int} {v7 : Int} {m : Option Nat} {o : (((List (List UInt8)) × Int) ⊕ (List (List UInt8)))} (h : S_glossatorref3_SortStrings_l4 m a0 v3 v4 v7 = some o) :
    LWp Try.prog f19_lay 0 (.loop f19_c2) (QBlock 2 (QSeq Try.prog f19_lay 0 f19_c0 (QBlock 1 (QSeq Try.prog f19_lay 0 f19_c1 (BodyQ 0 1 (f19_L3_env a0) (f19_L3_hp a0) (f19_L3_Q a0) o))))) [(3, .osl (0, 0) 1 (v3.map e_str)), (5, .str (a0.getD v4.toNat default)), (6, .int .i64 v7), (7, .isl 1 (a0.map e_str) false), (8, .int .i64 ((a0.map e_str).length : Int)), (9, .int .i64 v4)] [((0, 0), .tok)] 1 :=
  LWp_loopM (m := m) (s := (v7 : Int)) (r := o) (fun (s : Int) => S_glossatorref3_SortStrings_b4 m a0 v3 v4 s) (f19_L4_env a0 v3 v4) (f19_L4_hp a0 v3 v4) (f19_L4_Q a0) (fun s o h => f19_L4_bok h) h

noncomputable def S_glossatorref3_SortStrings_j7 (m : Option Nat) (v3 : List (List UInt8)) : Option (List (List UInt8)) :=
  some v3

noncomputable def S_glossatorref3_SortStrings_b3 (m : Option Nat) (a0 : List (List UInt8)) (v3 : List (List UInt8)) (v4 : Int) : Option (((List (List UInt8)) × Int) ⊕ (List (List UInt8))) :=
  if (decide (v4 < ((a0.map e_str).length : Int))) = true then
    if (0 : Int) ≤ v4 ∧ v4 < ((a0.map e_str).length : Int) then
    S_glossatorref3_SortStrings_l4 m a0 v3 v4 0
    else none
  else
    Option.map Sum.inr (
      S_glossatorref3_SortStrings_j7 m v3)

noncomputable def S_glossatorref3_SortStrings_l3 (m : Option Nat) (a0 : List (List UInt8)) (v3 : List (List UInt8)) (v4 : Int) : Option (List (List UInt8)) := loopM m (fun (s : ((List (List UInt8)) × Int)) => S_glossatorref3_SortStrings_b3 m a0 s.1 s.2) (v3, v4)

theorem f19_j7_ok {a0 : List (List UInt8)} {v3 : List (List UInt8)} {m : Option Nat} {o : (List (List UInt8))} (h : S_glossatorref3_SortStrings_j7 m v3 = some o) :
    LWp Try.prog f19_lay 0 f19_c3 (f19_Q a0 o) [(3, .osl (0, 0) 1 (v3.map e_str))] [((0, 0), .tok)] 1 := by
  unfold S_glossatorref3_SortStrings_j7 at h
  refine seqI ?_
  refine regI ?_
  refine retI ?_
  cases h
  exact And.intro trivial (And.intro rfl (Vw.oslI _ _ _))

theorem f19_L3_bok {a0 : List (List UInt8)} {v3 : List (List UInt8)} {v4 : Int} {m : Option Nat} {o : ((List (List UInt8)) × Int) ⊕ (List (List UInt8))} (h : S_glossatorref3_SortStrings_b3 m a0 v3 v4 = some o) :
    LWp Try.prog f19_lay 0 f19_c4 (BodyQ 0 1 (f19_L3_env a0) (f19_L3_hp a0) (f19_L3_Q a0) o) [(3, .osl (0, 0) 1 (v3.map e_str)), (7, .isl 1 (a0.map e_str) false), (8, .int .i64 ((a0.map e_str).length : Int)), (9, .int .i64 v4)] [((0, 0), .tok)] 1 := by
  unfold S_glossatorref3_SortStrings_b3 at h
  refine seqI ?_
  refine regI ?_
  refine seqI ?_
  refine condI (v := (decide (v4 < ((a0.map e_str).length : Int)))) rfl trivial (fun h30 => ?_) (fun h30 => ?_)
  · have h := ite_tt h30 h
    refine skipI ?_
    refine seqI ?_
    refine blockI ?_
    refine seqI ?_
    refine regI ?_
    obtain ⟨h31, h⟩ := ite_some h
    refine And.intro h31 ?_
    refine Exists.intro (e_str (a0.getD v4.toNat default)) (And.intro (getD_enc e_str _ _ (idx_ltL e_str h31)) (And.intro (And.intro (idx_lt h31) (Nat.le_of_ble_eq_true rfl)) ?_))
    refine seqI ?_
    refine regI ?_
    refine seqI ?_
    refine blockI ?_
    refine LWp.sim ?_ (f19_L4_ok h)
    exact simI (M := [((0, 0), (0, 0))]) rfl (And.intro (Vw.osl _ _ _ _ rfl) (And.intro (Vw.same _ rfl) (And.intro (Vw.same _ rfl) (And.intro (Vw.same _ rfl) (And.intro (Vw.same _ rfl) (And.intro (Vw.same _ rfl) trivial)))))) (And.intro (And.intro rfl BVw.tok) trivial)
  · have h := ite_ff h30 h
    refine exitI ?_
    obtain ⟨o, hq, rfl⟩ := Option.map_eq_some_iff.1 h
    replace h := hq; clear hq
    refine And.intro nofun ?_
    refine LWp.sim ?_ (f19_j7_ok h)
    exact simI (M := [((0, 0), (0, 0))]) rfl (And.intro (Vw.osl _ _ _ _ rfl) trivial) (And.intro (And.intro rfl BVw.tok) trivial)

theorem f19_L3_ok {a0 : List (List UInt8)} {v3 : List (List UInt8)} {v4 : Int} {m : Option Nat} {o : (List (List UInt8))} (h : S_glossatorref3_SortStrings_l3 m a0 v3 v4 = some o) :
    LWp Try.prog f19_lay 0 (.loop f19_c4) (QBlock 0 (QSeq Try.prog f19_lay 0 f19_c3 (f19_Q a0 o))) [(3, .osl (0, 0) 1 (v3.map e_str)), (7, .isl 1 (a0.map e_str) false), (8, .int .i64 ((a0.map e_str).length : Int)), (9, .int .i64 v4)] [((0, 0), .tok)] 1 :=
  LWp_loopM (m := m) (s := ((v3, v4) : ((List (List UInt8)) × Int))) (r := o) (fun (s : ((List (List UInt8)) × Int)) => S_glossatorref3_SortStrings_b3 m a0 s.1 s.2) (f19_L3_env a0) (f19_L3_hp a0) (f19_L3_Q a0) (fun s o h => f19_L3_bok h) h

noncomputable def S_glossatorref3_SortStrings (m : Option Nat) (a0 : List (List UInt8)) : Option (List (List UInt8)) :=
  S_glossatorref3_SortStrings_l3 m a0 [] 0

theorem f19_start {a0 : List (List UInt8)} {m : Option Nat} {o : (List (List UInt8))} (h : S_glossatorref3_SortStrings m a0 = some o) : LWp Try.prog f19_lay 0 f19_c5 (f19_Q a0 o) (initEnv 0 [.isl 1 (a0.map e_str) false]) [] 0 := by
  unfold S_glossatorref3_SortStrings at h
  refine seqI ?_
  refine regI ?_
  refine seqI ?_
  refine regI ?_
  refine seqI ?_
  refine seqI ?_
  refine regI ?_
  refine blockI ?_
  refine LWp.sim ?_ (f19_L3_ok h)
  exact simI (M := []) rfl (And.intro (Vw.nilO _ _ (by decide)) (And.intro (Vw.same _ rfl) (And.intro (Vw.same _ rfl) (And.intro (Vw.same _ rfl) trivial)))) (And.intro (And.intro rfl (And.intro (by decide) (by decide))) trivial)

theorem f19_ok {a0 : List (List UInt8)} {m : Option Nat} {o : (List (List UInt8))} (h : S_glossatorref3_SortStrings m a0 = some o) : PFn Try.prog 19 [.isl 1 (a0.map e_str) false] (.isl 1 (o.map e_str) false) := PFn.ofFnW (L := f19_L) f19_low f19_fok (Nat.le_of_ble_eq_true rfl) rfl (f19_start h)

def f8_c1 : LCode := (.seq (.region [⟨some 15, .bin .lss (.t 14) (.t 13), none⟩])
 (.seq (.cond (.t 15)
  .skip
  (.exit 0))
 (.seq (.block 1
  (.seq (.region [⟨some 16, .iaddr 3 (.t 12) (.t 14), none⟩,
    ⟨some 17, .load true 3 (.t 16), none⟩,
    ⟨some 5, .alloc [(.str []), (.str []), (.bool false)], none⟩,
    ⟨none, .store 3 (.t 5) (.t 17), none⟩])
  (.region [⟨some 18, .mv (.t 3), none⟩,
    ⟨some 19, .faddr 0 (.t 5), none⟩,
    ⟨some 20, .load false 1 (.t 19), none⟩,
    ⟨some 21, .mkSl true 1 [(.str [])] 1 [(0, (.t 20))], none⟩,
    ⟨some 22, .app true 1 16 (.t 18) (.t 21), none⟩,
    ⟨some 3, .mv (.t 22), none⟩])))
 (.region [⟨some 23, .bin .add (.t 14) (.c (.int .i64 1)), none⟩,
   ⟨some 14, .mv (.t 23), none⟩]))))
def f8_c6 : LCode := (.region [⟨some 42, .bin .add (.t 33) (.c (.int .i64 1)), none⟩,
   ⟨some 33, .mv (.t 42), none⟩])
def f8_c4 : LCode := (.seq (.region [⟨some 34, .bin .lss (.t 33) (.t 32), none⟩])
 (.seq (.cond (.t 34)
  .skip
  (.exit 4))
 (.seq (.block 5
  (.seq (.region [⟨some 35, .iaddr 3 (.t 31) (.t 33), none⟩,
    ⟨some 36, .load true 3 (.t 35), none⟩,
    ⟨some 11, .alloc [(.str []), (.str []), (.bool false)], none⟩,
    ⟨none, .store 3 (.t 11) (.t 36), none⟩])
  (.seq (.region [⟨some 37, .faddr 0 (.t 11), none⟩,
    ⟨some 38, .load false 1 (.t 37), none⟩,
    ⟨some 39, .mv (.t 8), none⟩,
    ⟨some 40, .bin .eql (.t 38) (.t 39), none⟩])
  (.cond (.t 40)
   (.region [⟨some 41, .load true 3 (.t 11), none⟩,
     ⟨none, .store 3 (.t 9) (.t 41), none⟩])
   .skip))))
 f8_c6)))
def f8_c2 : LCode := (.seq (.region [⟨some 43, .faddr 2 (.t 9), none⟩,
   ⟨some 44, .load false 1 (.t 43), none⟩,
   ⟨some 45, .un .not (.t 44), none⟩])
 (.cond (.t 45)
  (.region [⟨some 46, .mv (.t 6), none⟩,
    ⟨some 47, .load true 3 (.t 9), none⟩,
    ⟨some 48, .mkSl true 3 [(.str []), (.str []), (.bool false)] 1 [(0, (.t 47))], none⟩,
    ⟨some 49, .app true 3 40 (.t 46) (.t 48), none⟩,
    ⟨some 6, .mv (.t 49), none⟩])
  .skip))
def f8_c3 : LCode := (.region [⟨some 50, .bin .add (.t 27) (.c (.int .i64 1)), none⟩,
   ⟨some 27, .mv (.t 50), none⟩])
def f8_c7 : LCode := (.seq (.region [⟨some 28, .bin .lss (.t 27) (.t 26), none⟩])
 (.seq (.cond (.t 28)
  .skip
  (.exit 2))
 (.seq (.block 3
  (.seq (.region [⟨some 29, .iaddr 1 (.t 25) (.t 27), none⟩,
    ⟨some 30, .load false 1 (.t 29), none⟩,
    ⟨some 8, .mv (.t 30), none⟩])
  (.seq (.region [⟨some 9, .alloc [(.str []), (.str []), (.bool false)], none⟩])
  (.seq (.seq (.region [⟨some 31, .mv (.t 0), none⟩,
    ⟨some 32, .len false (.t 31), none⟩,
    ⟨some 33, .mv (.c (.int .i64 0)), none⟩])
  (.block 4
   (.loop
    f8_c4)))
  f8_c2))))
 f8_c3)))
def f8_c5 : LCode := (.seq (.region [⟨some 51, .mv (.t 6), none⟩,
   ⟨some 2, .mv (.t 51), none⟩])
 .ret)
def f8_c0 : LCode := (.seq (.region [⟨some 6, .mv (.c (.val (.slice none 0 0))), none⟩])
 (.seq (.seq (.region [⟨some 24, .mv (.t 3), none⟩,
   ⟨some 25, .call 19 [(.t 24)], none⟩,
   ⟨some 26, .len false (.t 25), none⟩,
   ⟨some 27, .mv (.c (.int .i64 0)), none⟩])
 (.block 2
  (.loop
   f8_c7)))
 f8_c5))
def f8_c8 : LCode := (.seq (.region [⟨some 2, .mv (.c (.val (.slice none 0 0))), none⟩])
 (.seq (.region [⟨some 3, .mv (.c (.val (.slice none 0 0))), none⟩])
 (.seq (.seq (.region [⟨some 12, .mv (.t 0), none⟩,
   ⟨some 13, .len false (.t 12), none⟩,
   ⟨some 14, .mv (.c (.int .i64 0)), none⟩])
 (.block 0
  (.loop
   f8_c1)))
 f8_c0)))
def f8_lay : Lay := ⟨52, [], false⟩
def f8_res : List LRes := [.t 2]
def f8_L : LFn := ⟨1, f8_lay, f8_c8, f8_res⟩
theorem f8_low : lowFn Try.prog [] 8 = some f8_L := by kernel_rfl
theorem f8_fok : FnOk Try.prog 8 := ⟨_, Try.func8, rfl, rfl⟩
def f8_Q (a0 : List G_QRecord) (o : (List G_QRecord)) : Exit → Env → AHeap → Nat → Prop := FinK f8_res (PureEnd (.isl 3 (o.map e_QRecord) false))

def f8_L1_env (a0 : List G_QRecord) (s : ((List (List UInt8)) × Int)) : Env := [(0, .isl 3 (a0.map e_QRecord) false), (3, .osl (0, 0) 1 (s.1.map e_str)), (12, .isl 3 (a0.map e_QRecord) false), (13, .int .i64 ((a0.map e_QRecord).length : Int)), (14, .int .i64 s.2)]
def f8_L1_hp (a0 : List G_QRecord) (s : ((List (List UInt8)) × Int)) : AHeap := [((0, 0), .tok)]
def f8_L1_Q (a0 : List G_QRecord) (o : (List G_QRecord)) : Exit → Env → AHeap → Nat → Prop := (QBlock 0 (QSeq Try.prog f8_lay 0 f8_c0 (f8_Q a0 o)))

noncomputable def S_glossatorref3_State_j14 (m : Option Nat) (a0 : List G_QRecord) (v3 : (List (List UInt8))) (v18 : List G_QRecord) (v19 : Int) (v37 : Int) (v44 : List UInt8) (v45 : List UInt8) (v46 : Bool) : Option ((Int × (List UInt8) × (List UInt8) × Bool) ⊕ (((List G_QRecord) × Int) ⊕ (List G_QRecord))) :=
  some (.inl ((W (v37 + 1)), v44, v45, v46))

noncomputable def S_glossatorref3_State_j16 (m : Option Nat) (a0 : List G_QRecord) (v3 : (List (List UInt8))) (v19 : Int) (v47 : List G_QRecord) : Option (((List G_QRecord) × Int) ⊕ (List G_QRecord)) :=
  some (.inl (v47, (W (v19 + 1))))

noncomputable def S_glossatorref3_State_j15 (m : Option Nat) (a0 : List G_QRecord) (v3 : (List (List UInt8))) (v18 : List G_QRecord) (v19 : Int) (v38 : List UInt8) (v39 : List UInt8) (v40 : Bool) : Option (((List G_QRecord) × Int) ⊕ (List G_QRecord)) :=
  if (!v40) = true then
    if ((v18 ++ ([(G_QRecord.mk v38 v39 v40)] : List G_QRecord)).map e_QRecord).length * 40 ≤ 140737488355328 then
    S_glossatorref3_State_j16 m a0 v3 v19 (v18 ++ ([(G_QRecord.mk v38 v39 v40)] : List G_QRecord))
    else none
  else
    S_glossatorref3_State_j16 m a0 v3 v19 v18

noncomputable def S_glossatorref3_State_b5 (m : Option Nat) (a0 : List G_QRecord) (v3 : (List (List UInt8))) (v18 : List G_QRecord) (v19 : Int) (v37 : Int) (v38 : List UInt8) (v39 : List UInt8) (v40 : Bool) : Option ((Int × (List UInt8) × (List UInt8) × Bool) ⊕ (((List G_QRecord) × Int) ⊕ (List G_QRecord))) :=
  if (decide (v37 < ((a0.map e_QRecord).length : Int))) = true then
    if (0 : Int) ≤ v37 ∧ v37 < ((a0.map e_QRecord).length : Int) then
    if ((a0.getD v37.toNat default).f_Key == (v3.getD v19.toNat default)) = true then
      S_glossatorref3_State_j14 m a0 v3 v18 v19 v37 ((a0.getD v37.toNat default).f_Key) ((a0.getD v37.toNat default).f_Value) ((a0.getD v37.toNat default).f_Deleted)
    else
      S_glossatorref3_State_j14 m a0 v3 v18 v19 v37 v38 v39 v40
    else none
  else
    Option.map Sum.inr (
      S_glossatorref3_State_j15 m a0 v3 v18 v19 v38 v39 v40)

noncomputable def S_glossatorref3_State_l5 (m : Option Nat) (a0 : List G_QRecord) (v3 : (List (List UInt8))) (v18 : List G_QRecord) (v19 : Int) (v37 : Int) (v38 : List UInt8) (v39 : List UInt8) (v40 : Bool) : Option (((List G_QRecord) × Int) ⊕ (List G_QRecord)) := loopM m (fun (s : (Int × (List UInt8) × (List UInt8) × Bool)) => S_glossatorref3_State_b5 m a0 v3 v18 v19 s.1 s.2.1 s.2.2.1 s.2.2.2) (v37, v38, v39, v40)

noncomputable def S_glossatorref3_State_j17 (m : Option Nat) (v18 : List G_QRecord) : Option (List G_QRecord) :=
  some v18

noncomputable def S_glossatorref3_State_b4 (m : Option Nat) (a0 : List G_QRecord) (v3 : (List (List UInt8))) (v18 : List G_QRecord) (v19 : Int) : Option (((List G_QRecord) × Int) ⊕ (List G_QRecord)) :=
  if (decide (v19 < ((v3.map e_str).length : Int))) = true then
    if (0 : Int) ≤ v19 ∧ v19 < ((v3.map e_str).length : Int) then
    S_glossatorref3_State_l5 m a0 v3 v18 v19 0 ([] : List UInt8) ([] : List UInt8) false
    else none
  else
    Option.map Sum.inr (
      S_glossatorref3_State_j17 m v18)

noncomputable def S_glossatorref3_State_l4 (m : Option Nat) (a0 : List G_QRecord) (v3 : (List (List UInt8))) (v18 : List G_QRecord) (v19 : Int) : Option (List G_QRecord) := loopM m (fun (s : ((List G_QRecord) × Int)) => S_glossatorref3_State_b4 m a0 v3 s.1 s.2) (v18, v19)

noncomputable def S_glossatorref3_State_j1 (m : Option Nat) (a0 : List G_QRecord) (v1 : List (List UInt8)) : Option (List G_QRecord) :=
  (S_glossatorref3_SortStrings m v1).bind fun v3 =>
  S_glossatorref3_State_l4 m a0 v3 [] 0

noncomputable def S_glossatorref3_State_b1 (m : Option Nat) (a0 : List G_QRecord) (v1 : List (List UInt8)) (v2 : Int) : Option (((List (List UInt8)) × Int) ⊕ (List G_QRecord)) :=
  if (decide (v2 < ((a0.map e_QRecord).length : Int))) = true then
    if (0 : Int) ≤ v2 ∧ v2 < ((a0.map e_QRecord).length : Int) then
    if ((v1 ++ ([(a0.getD v2.toNat default).f_Key] : List (List UInt8))).map e_str).length * 16 ≤ 140737488355328 then
    some (.inl ((v1 ++ ([(a0.getD v2.toNat default).f_Key] : List (List UInt8))), (W (v2 + 1))))
    else none
    else none
  else
    Option.map Sum.inr (
      S_glossatorref3_State_j1 m a0 v1)

noncomputable def S_glossatorref3_State_l1 (m : Option Nat) (a0 : List G_QRecord) (v1 : List (List UInt8)) (v2 : Int) : Option (List G_QRecord) := loopM m (fun (s : ((List (List UInt8)) × Int)) => S_glossatorref3_State_b1 m a0 s.1 s.2) (v1, v2)

def f8_L4_env (a0 : List G_QRecord) (v3 : (List (List UInt8))) (s : ((List G_QRecord) × Int)) : Env := [(0, .isl 3 (a0.map e_QRecord) false), (6, .osl (0, 0) 3 (s.1.map e_QRecord)), (25, .isl 1 (v3.map e_str) false), (26, .int .i64 ((v3.map e_str).length : Int)), (27, .int .i64 s.2)]
def f8_L4_hp (a0 : List G_QRecord) (v3 : (List (List UInt8))) (s : ((List G_QRecord) × Int)) : AHeap := [((0, 0), .tok)]
def f8_L4_Q (a0 : List G_QRecord) (o : (List G_QRecord)) : Exit → Env → AHeap → Nat → Prop := (QBlock 2 (QSeq Try.prog f8_lay 0 f8_c5 (f8_Q a0 o)))

def f8_L5_env (a0 : List G_QRecord) (v3 : (List (List UInt8))) (v18 : List G_QRecord) (v19 : Int) (s : (Int × (List UInt8) × (List UInt8) × Bool)) : Env := [(0, .isl 3 (a0.map e_QRecord) false), (6, .osl (0, 0) 3 (v18.map e_QRecord)), (8, .str (v3.getD v19.toNat default)), (9, .ptr (1, 0) 0 0), (25, .isl 1 (v3.map e_str) false), (26, .int .i64 ((v3.map e_str).length : Int)), (27, .int .i64 v19), (31, .isl 3 (a0.map e_QRecord) false), (32, .int .i64 ((a0.map e_QRecord).length : Int)), (33, .int .i64 s.1)]
def f8_L5_hp (a0 : List G_QRecord) (v3 : (List (List UInt8))) (v18 : List G_QRecord) (v19 : Int) (s : (Int × (List UInt8) × (List UInt8) × Bool)) : AHeap := [((0, 0), .tok), ((1, 0), .one [.str s.2.1, .str s.2.2.1, .bool s.2.2.2])]
def f8_L5_Q (a0 : List G_QRecord) (v3 : (List (List UInt8))) (o : (((List G_QRecord) × Int) ⊕ (List G_QRecord))) : Exit → Env → AHeap → Nat → Prop := (QBlock 4 (QSeq Try.prog f8_lay 0 f8_c2 (QBlock 3 (QSeq Try.prog f8_lay 0 f8_c3 (BodyQ 0 1 (f8_L4_env a0 v3) (f8_L4_hp a0 v3) (f8_L4_Q a0) o)))))

theorem f8_j14_ok {a0 : List G_QRecord} {v3 : (List (List UInt8))} {v18 : List G_QRecord} {v19 : Int} {v37 : Int} {v44 : List UInt8} {v45 : List UInt8} {v46 : Bool} {m : Option Nat} {o : ((Int × (List UInt8) × (List UInt8) × Bool) ⊕ (((List G_QRecord) × Int) ⊕ (List G_QRecord)))} (h : S_glossatorref3_State_j14 m a0 v3 v18 v19 v37 v44 v45 v46 = some o) :
    LWp Try.prog f8_lay 0 f8_c6 (BodyQ 0 2 (f8_L5_env a0 v3 v18 v19) (f8_L5_hp a0 v3 v18 v19) (f8_L5_Q a0 v3) o) [(0, .isl 3 (a0.map e_QRecord) false), (6, .osl (0, 0) 3 (v18.map e_QRecord)), (8, .str (v3.getD v19.toNat default)), (9, .ptr (1, 0) 0 0), (25, .isl 1 (v3.map e_str) false), (26, .int .i64 ((v3.map e_str).length : Int)), (27, .int .i64 v19), (31, .isl 3 (a0.map e_QRecord) false), (32, .int .i64 ((a0.map e_QRecord).length : Int)), (33, .int .i64 v37)] [((0, 0), .tok), ((1, 0), .one [.str v44, .str v45, .bool v46])] 2 := by
  unfold S_glossatorref3_State_j14 at h
  refine regI ?_
  cases h
  exact And.intro rfl (simI (M := [((0, 0), (0, 0)), ((1, 0), (1, 0))]) rfl (And.intro (Vw.same _ rfl) (And.intro (Vw.osl _ _ _ _ rfl) (And.intro (Vw.same _ rfl) (And.intro (Vw.ptr _ _ _ _ rfl) (And.intro (Vw.same _ rfl) (And.intro (Vw.same _ rfl) (And.intro (Vw.same _ rfl) (And.intro (Vw.same _ rfl) (And.intro (Vw.same _ rfl) (And.intro (Vw.same _ rfl) trivial)))))))))) (And.intro (And.intro rfl BVw.tok) (And.intro (And.intro rfl (BVw.oneL (And.intro (Vw.same _ rfl) (And.intro (Vw.same _ rfl) (And.intro (Vw.same _ rfl) trivial))))) trivial)))

theorem f8_j16_ok {a0 : List G_QRecord} {v3 : (List (List UInt8))} {v19 : Int} {v47 : List G_QRecord} {m : Option Nat} {o : (((List G_QRecord) × Int) ⊕ (List G_QRecord))} (h : S_glossatorref3_State_j16 m a0 v3 v19 v47 = some o) :
    LWp Try.prog f8_lay 0 f8_c3 (BodyQ 0 1 (f8_L4_env a0 v3) (f8_L4_hp a0 v3) (f8_L4_Q a0) o) [(0, .isl 3 (a0.map e_QRecord) false), (6, .osl (0, 0) 3 (v47.map e_QRecord)), (25, .isl 1 (v3.map e_str) false), (26, .int .i64 ((v3.map e_str).length : Int)), (27, .int .i64 v19)] [((0, 0), .tok)] 1 := by
  unfold S_glossatorref3_State_j16 at h
  refine regI ?_
  cases h
  exact And.intro rfl (simI (M := [((0, 0), (0, 0))]) rfl (And.intro (Vw.same _ rfl) (And.intro (Vw.osl _ _ _ _ rfl) (And.intro (Vw.same _ rfl) (And.intro (Vw.same _ rfl) (And.intro (Vw.same _ rfl) trivial))))) (And.intro (And.intro rfl BVw.tok) trivial))

theorem f8_j15_ok {a0 : List G_QRecord} {v3 : (List (List UInt8))} {v18 : List G_QRecord} {v19 : Int} {v38 : List UInt8} {v39 : List UInt8} {v40 : Bool} {m : Option Nat} {o : (((List G_QRecord) × Int) ⊕ (List G_QRecord))} (h : S_glossatorref3_State_j15 m a0 v3 v18 v19 v38 v39 v40 = some o) :
    LWp Try.prog f8_lay 0 f8_c2 (QBlock 3 (QSeq Try.prog f8_lay 0 f8_c3 (BodyQ 0 1 (f8_L4_env a0 v3) (f8_L4_hp a0 v3) (f8_L4_Q a0) o))) [(0, .isl 3 (a0.map e_QRecord) false), (6, .osl (0, 0) 3 (v18.map e_QRecord)), (9, .ptr (1, 0) 0 0), (25, .isl 1 (v3.map e_str) false), (26, .int .i64 ((v3.map e_str).length : Int)), (27, .int .i64 v19)] [((0, 0), .tok), ((1, 0), .one [.str v38, .str v39, .bool v40])] 2 := by
  unfold S_glossatorref3_State_j15 at h
  refine seqI ?_
  refine regI ?_
  refine condI (v := (!v40)) rfl trivial (fun h48 => ?_) (fun h48 => ?_)
  · have h := ite_tt h48 h
    refine regI ?_
    obtain ⟨h49, h⟩ := ite_some h
    refine Exists.intro ((v18 ++ ([(G_QRecord.mk v38 v39 v40)] : List G_QRecord)).map e_QRecord) (And.intro (app_enc e_QRecord v18 ([(G_QRecord.mk v38 v39 v40)] : List G_QRecord)) (And.intro h49 ?_))
    refine LWp.sim ?_ (f8_j16_ok h)
    exact simI (M := [((0, 0), (2, 0))]) rfl (And.intro (Vw.same _ rfl) (And.intro (Vw.osl _ _ _ _ rfl) (And.intro (Vw.same _ rfl) (And.intro (Vw.same _ rfl) (And.intro (Vw.same _ rfl) trivial))))) (And.intro (And.intro rfl BVw.tok) trivial)
  · have h := ite_ff h48 h
    refine skipI ?_
    refine LWp.sim ?_ (f8_j16_ok h)
    exact simI (M := [((0, 0), (0, 0))]) rfl (And.intro (Vw.same _ rfl) (And.intro (Vw.osl _ _ _ _ rfl) (And.intro (Vw.same _ rfl) (And.intro (Vw.same _ rfl) (And.intro (Vw.same _ rfl) trivial))))) (And.intro (And.intro rfl BVw.tok) trivial)

theorem f8_L5_bok {a0 : List G_QRecord} {v3 : (List (List UInt8))} {v18 : List G_QRecord} {v19 : Int} {v37 : Int} {v38 : List UInt8} {v39 : List UInt8} {v40 : Bool} {m : Option Nat} {o : (Int × (List UInt8) × (List UInt8) × Bool) ⊕ (((List G_QRecord) × Int) ⊕ (List G_QRecord))} (h : S_glossatorref3_State_b5 m a0 v3 v18 v19 v37 v38 v39 v40 = some o) :
    LWp Try.prog f8_lay 0 f8_c4 (BodyQ 0 2 (f8_L5_env a0 v3 v18 v19) (f8_L5_hp a0 v3 v18 v19) (f8_L5_Q a0 v3) o) [(0, .isl 3 (a0.map e_QRecord) false), (6, .osl (0, 0) 3 (v18.map e_QRecord)), (8, .str (v3.getD v19.toNat default)), (9, .ptr (1, 0) 0 0), (25, .isl 1 (v3.map e_str) false), (26, .int .i64 ((v3.map e_str).length : Int)), (27, .int .i64 v19), (31, .isl 3 (a0.map e_QRecord) false), (32, .int .i64 ((a0.map e_QRecord).length : Int)), (33, .int .i64 v37)] [((0, 0), .tok), ((1, 0), .one [.str v38, .str v39, .bool v40])] 2 := by
  unfold S_glossatorref3_State_b5 at h
  refine seqI ?_
  refine regI ?_
  refine seqI ?_
  refine condI (v := (decide (v37 < ((a0.map e_QRecord).length : Int)))) rfl trivial (fun h45 => ?_) (fun h45 => ?_)
  · have h := ite_tt h45 h
    refine skipI ?_
    refine seqI ?_
    refine blockI ?_
    refine seqI ?_
    refine regI ?_
    obtain ⟨h46, h⟩ := ite_some h
    refine And.intro h46 ?_
    refine Exists.intro (e_QRecord (a0.getD v37.toNat default)) (And.intro (getD_enc e_QRecord _ _ (idx_ltL e_QRecord h46)) (And.intro (And.intro (idx_lt h46) (Nat.le_of_ble_eq_true rfl)) ?_))
    refine seqI ?_
    refine regI ?_
    refine LWp.sim (e := [(0, .isl 3 (a0.map e_QRecord) false), (6, .osl (0, 0) 3 (v18.map e_QRecord)), (8, .str (v3.getD v19.toNat default)), (9, .ptr (1, 0) 0 0), (11, .ptr (2, 0) 0 0), (25, .isl 1 (v3.map e_str) false), (26, .int .i64 ((v3.map e_str).length : Int)), (27, .int .i64 v19), (31, .isl 3 (a0.map e_QRecord) false), (32, .int .i64 ((a0.map e_QRecord).length : Int)), (33, .int .i64 v37), (40, .bool ((a0.getD v37.toNat default).f_Key == (v3.getD v19.toNat default)))]) (L := [((0, 0), .tok), ((1, 0), .one [.str v38, .str v39, .bool v40]), ((2, 0), .one [.str ((a0.getD v37.toNat default).f_Key), .str ((a0.getD v37.toNat default).f_Value), .bool ((a0.getD v37.toNat default).f_Deleted)])]) (n := 3) ?_ ?_
    · exact simI (M := [((0, 0), (0, 0)), ((1, 0), (1, 0)), ((2, 0), (2, 0))]) rfl (And.intro (Vw.same _ rfl) (And.intro (Vw.osl _ _ _ _ rfl) (And.intro (Vw.same _ rfl) (And.intro (Vw.ptr _ _ _ _ rfl) (And.intro (Vw.ptr _ _ _ _ rfl) (And.intro (Vw.same _ rfl) (And.intro (Vw.same _ rfl) (And.intro (Vw.same _ rfl) (And.intro (Vw.same _ rfl) (And.intro (Vw.same _ rfl) (And.intro (Vw.same _ rfl) (And.intro (Vw.same _ rfl) trivial)))))))))))) (And.intro (And.intro rfl BVw.tok) (And.intro (And.intro rfl (BVw.oneL (And.intro (Vw.same _ rfl) (And.intro (Vw.same _ rfl) (And.intro (Vw.same _ rfl) trivial))))) (And.intro (And.intro rfl (BVw.oneL (And.intro (Vw.same _ rfl) (And.intro (Vw.same _ rfl) (And.intro (Vw.same _ rfl) trivial))))) trivial)))
    refine condI (v := ((a0.getD v37.toNat default).f_Key == (v3.getD v19.toNat default))) rfl trivial (fun h47 => ?_) (fun h47 => ?_)
    · have h := ite_tt h47 h
      refine regI ?_
      refine LWp.sim ?_ (f8_j14_ok h)
      exact simI (M := [((0, 0), (0, 0)), ((1, 0), (1, 0))]) rfl (And.intro (Vw.same _ rfl) (And.intro (Vw.osl _ _ _ _ rfl) (And.intro (Vw.same _ rfl) (And.intro (Vw.ptr _ _ _ _ rfl) (And.intro (Vw.same _ rfl) (And.intro (Vw.same _ rfl) (And.intro (Vw.same _ rfl) (And.intro (Vw.same _ rfl) (And.intro (Vw.same _ rfl) (And.intro (Vw.same _ rfl) trivial)))))))))) (And.intro (And.intro rfl BVw.tok) (And.intro (And.intro rfl (BVw.oneL (And.intro (Vw.same _ rfl) (And.intro (Vw.same _ rfl) (And.intro (Vw.same _ rfl) trivial))))) trivial))
    · have h := ite_ff h47 h
      refine skipI ?_
      refine LWp.sim ?_ (f8_j14_ok h)
      exact simI (M := [((0, 0), (0, 0)), ((1, 0), (1, 0))]) rfl (And.intro (Vw.same _ rfl) (And.intro (Vw.osl _ _ _ _ rfl) (And.intro (Vw.same _ rfl) (And.intro (Vw.ptr _ _ _ _ rfl) (And.intro (Vw.same _ rfl) (And.intro (Vw.same _ rfl) (And.intro (Vw.same _ rfl) (And.intro (Vw.same _ rfl) (And.intro (Vw.same _ rfl) (And.intro (Vw.same _ rfl) trivial)))))))))) (And.intro (And.intro rfl BVw.tok) (And.intro (And.intro rfl (BVw.oneL (And.intro (Vw.same _ rfl) (And.intro (Vw.same _ rfl) (And.intro (Vw.same _ rfl) trivial))))) trivial))
  · have h := ite_ff h45 h
    refine exitI ?_
    obtain ⟨o, hq, rfl⟩ := Option.map_eq_some_iff.1 h
    replace h := hq; clear hq
    refine And.intro nofun ?_
    refine LWp.sim ?_ (f8_j15_ok h)
    exact simI (M := [((0, 0), (0, 0)), ((1, 0), (1, 0))]) rfl (And.intro (Vw.same _ rfl) (And.intro (Vw.osl _ _ _ _ rfl) (And.intro (Vw.ptr _ _ _ _ rfl) (And.intro (Vw.same _ rfl) (And.intro (Vw.same _ rfl) (And.intro (Vw.same _ rfl) trivial)))))) (And.intro (And.intro rfl BVw.tok) (And.intro (And.intro rfl (BVw.oneL (And.intro (Vw.same _ rfl) (And.intro (Vw.same _ rfl) (And.intro (Vw.same _ rfl) trivial))))) trivial))

theorem f8_L5_ok {a0 : List G_QRecord} {v3 : (List (List UInt8))} {v18 : List G_QRecord} {v19 : Int} {v37 : Int} {v38 : List UInt8} {v39 : List UInt8} {v40 : Bool} {m : Option Nat} {o : (((List G_QRecord) × Int) ⊕ (List G_QRecord))} (h : S_glossatorref3_State_l5 m a0 v3 v18 v19 v37 v38 v39 v40 = some o) :
    LWp Try.prog f8_lay 0 (.loop f8_c4) (QBlock 4 (QSeq Try.prog f8_lay 0 f8_c2 (QBlock 3 (QSeq Try.prog f8_lay 0 f8_c3 (BodyQ 0 1 (f8_L4_env a0 v3) (f8_L4_hp a0 v3) (f8_L4_Q a0) o))))) [(0, .isl 3 (a0.map e_QRecord) false), (6, .osl (0, 0) 3 (v18.map e_QRecord)), (8, .str (v3.getD v19.toNat default)), (9, .ptr (1, 0) 0 0), (25, .isl 1 (v3.map e_str) false), (26, .int .i64 ((v3.map e_str).length : Int)), (27, .int .i64 v19), (31, .isl 3 (a0.map e_QRecord) false), (32, .int .i64 ((a0.map e_QRecord).length : Int)), (33, .int .i64 v37)] [((0, 0), .tok), ((1, 0), .one [.str v38, .str v39, .bool v40])] 2 :=
  LWp_loopM (m := m) (s := ((v37, v38, v39, v40) : (Int × (List UInt8) × (List UInt8) × Bool))) (r := o) (fun (s : (Int × (List UInt8) × (List UInt8) × Bool)) => S_glossatorref3_State_b5 m a0 v3 v18 v19 s.1 s.2.1 s.2.2.1 s.2.2.2) (f8_L5_env a0 v3 v18 v19) (f8_L5_hp a0 v3 v18 v19) (f8_L5_Q a0 v3) (fun s o h => f8_L5_bok h) h

theorem f8_j17_ok {a0 : List G_QRecord} {v18 : List G_QRecord} {m : Option Nat} {o : (List G_QRecord)} (h : S_glossatorref3_State_j17 m v18 = some o) :
    LWp Try.prog f8_lay 0 f8_c5 (f8_Q a0 o) [(6, .osl (0, 0) 3 (v18.map e_QRecord))] [((0, 0), .tok)] 1 := by
  unfold S_glossatorref3_State_j17 at h
  refine seqI ?_
  refine regI ?_
  refine retI ?_
  cases h
  exact And.intro trivial (And.intro rfl (Vw.oslI _ _ _))

theorem f8_L4_bok {a0 : List G_QRecord} {v3 : (List (List UInt8))} {v18 : List G_QRecord} {v19 : Int} {m : Option Nat} {o : ((List G_QRecord) × Int) ⊕ (List G_QRecord)} (h : S_glossatorref3_State_b4 m a0 v3 v18 v19 = some o) :
    LWp Try.prog f8_lay 0 f8_c7 (BodyQ 0 1 (f8_L4_env a0 v3) (f8_L4_hp a0 v3) (f8_L4_Q a0) o) [(0, .isl 3 (a0.map e_QRecord) false), (6, .osl (0, 0) 3 (v18.map e_QRecord)), (25, .isl 1 (v3.map e_str) false), (26, .int .i64 ((v3.map e_str).length : Int)), (27, .int .i64 v19)] [((0, 0), .tok)] 1 := by
  unfold S_glossatorref3_State_b4 at h
  refine seqI ?_
  refine regI ?_
  refine seqI ?_
  refine condI (v := (decide (v19 < ((v3.map e_str).length : Int)))) rfl trivial (fun h37 => ?_) (fun h37 => ?_)
  · have h := ite_tt h37 h
    refine skipI ?_
    refine seqI ?_
    refine blockI ?_
    refine seqI ?_
    refine regI ?_
    obtain ⟨h38, h⟩ := ite_some h
    refine And.intro h38 ?_
    refine Exists.intro (e_str (v3.getD v19.toNat default)) (And.intro (getD_enc e_str _ _ (idx_ltL e_str h38)) (And.intro (And.intro (idx_lt h38) (Nat.le_of_ble_eq_true rfl)) ?_))
    refine seqI ?_
    refine regI ?_
    refine seqI ?_
    refine seqI ?_
    refine regI ?_
    refine LWp.sim (e := [(0, .isl 3 (a0.map e_QRecord) false), (6, .osl (0, 0) 3 (v18.map e_QRecord)), (8, .str (v3.getD v19.toNat default)), (9, .ptr (1, 0) 0 0), (25, .isl 1 (v3.map e_str) false), (26, .int .i64 ((v3.map e_str).length : Int)), (27, .int .i64 v19), (31, .isl 3 (a0.map e_QRecord) false), (32, .int .i64 ((a0.map e_QRecord).length : Int)), (33, .int .i64 0)]) (L := [((0, 0), .tok), ((1, 0), .one [.str ([] : List UInt8), .str ([] : List UInt8), .bool false])]) (n := 2) ?_ ?_
    · exact simI (M := [((0, 0), (0, 0)), ((1, 0), (1, 0))]) rfl (And.intro (Vw.same _ rfl) (And.intro (Vw.osl _ _ _ _ rfl) (And.intro (Vw.same _ rfl) (And.intro (Vw.ptr _ _ _ _ rfl) (And.intro (Vw.same _ rfl) (And.intro (Vw.same _ rfl) (And.intro (Vw.same _ rfl) (And.intro (Vw.same _ rfl) (And.intro (Vw.same _ rfl) (And.intro (Vw.same _ rfl) trivial)))))))))) (And.intro (And.intro rfl BVw.tok) (And.intro (And.intro rfl (BVw.oneL (And.intro (Vw.same _ rfl) (And.intro (Vw.same _ rfl) (And.intro (Vw.same _ rfl) trivial))))) trivial))
    refine blockI ?_
    refine LWp.sim ?_ (f8_L5_ok h)
    exact simI (M := [((0, 0), (0, 0)), ((1, 0), (1, 0))]) rfl (And.intro (Vw.same _ rfl) (And.intro (Vw.osl _ _ _ _ rfl) (And.intro (Vw.same _ rfl) (And.intro (Vw.ptr _ _ _ _ rfl) (And.intro (Vw.same _ rfl) (And.intro (Vw.same _ rfl) (And.intro (Vw.same _ rfl) (And.intro (Vw.same _ rfl) (And.intro (Vw.same _ rfl) (And.intro (Vw.same _ rfl) trivial)))))))))) (And.intro (And.intro rfl BVw.tok) (And.intro (And.intro rfl (BVw.oneL (And.intro (Vw.same _ rfl) (And.intro (Vw.same _ rfl) (And.intro (Vw.same _ rfl) trivial))))) trivial))
  · have h := ite_ff h37 h
    refine exitI ?_
    obtain ⟨o, hq, rfl⟩ := Option.map_eq_some_iff.1 h
    replace h := hq; clear hq
    refine And.intro nofun ?_
    refine LWp.sim ?_ (f8_j17_ok h)
    exact simI (M := [((0, 0), (0, 0))]) rfl (And.intro (Vw.osl _ _ _ _ rfl) trivial) (And.intro (And.intro rfl BVw.tok) trivial)

theorem f8_L4_ok {a0 : List G_QRecord} {v3 : (List (List UInt8))} {v18 : List G_QRecord} {v19 : Int} {m : Option Nat} {o : (List G_QRecord)} (h : S_glossatorref3_State_l4 m a0 v3 v18 v19 = some o) :
    LWp Try.prog f8_lay 0 (.loop f8_c7) (QBlock 2 (QSeq Try.prog f8_lay 0 f8_c5 (f8_Q a0 o))) [(0, .isl 3 (a0.map e_QRecord) false), (6, .osl (0, 0) 3 (v18.map e_QRecord)), (25, .isl 1 (v3.map e_str) false), (26, .int .i64 ((v3.map e_str).length : Int)), (27, .int .i64 v19)] [((0, 0), .tok)] 1 :=
  LWp_loopM (m := m) (s := ((v18, v19) : ((List G_QRecord) × Int))) (r := o) (fun (s : ((List G_QRecord) × Int)) => S_glossatorref3_State_b4 m a0 v3 s.1 s.2) (f8_L4_env a0 v3) (f8_L4_hp a0 v3) (f8_L4_Q a0) (fun s o h => f8_L4_bok h) h

theorem f8_j1_ok {a0 : List G_QRecord} {v1 : List (List UInt8)} {m : Option Nat} {o : (List G_QRecord)} (h : S_glossatorref3_State_j1 m a0 v1 = some o) :
    LWp Try.prog f8_lay 0 f8_c0 (f8_Q a0 o) [(0, .isl 3 (a0.map e_QRecord) false), (3, .osl (0, 0) 1 (v1.map e_str))] [((0, 0), .tok)] 1 := by
  unfold S_glossatorref3_State_j1 at h
  refine seqI ?_
  refine regI ?_
  refine seqI ?_
  refine seqI ?_
  refine regI ?_
  obtain ⟨v3, h10, h⟩ := bind_some h
  refine PFn.call (f19_ok h10) (And.intro (Vw.oslI _ _ _) trivial) ?_
  refine blockI ?_
  refine LWp.sim ?_ (f8_L4_ok h)
  exact simI (M := []) rfl (And.intro (Vw.same _ rfl) (And.intro (Vw.nilO _ _ (by decide)) (And.intro (Vw.same _ rfl) (And.intro (Vw.same _ rfl) (And.intro (Vw.same _ rfl) trivial))))) (And.intro (And.intro rfl (And.intro (by decide) (by decide))) trivial)

theorem f8_L1_bok {a0 : List G_QRecord} {v1 : List (List UInt8)} {v2 : Int} {m : Option Nat} {o : ((List (List UInt8)) × Int) ⊕ (List G_QRecord)} (h : S_glossatorref3_State_b1 m a0 v1 v2 = some o) :
    LWp Try.prog f8_lay 0 f8_c1 (BodyQ 0 1 (f8_L1_env a0) (f8_L1_hp a0) (f8_L1_Q a0) o) [(0, .isl 3 (a0.map e_QRecord) false), (3, .osl (0, 0) 1 (v1.map e_str)), (12, .isl 3 (a0.map e_QRecord) false), (13, .int .i64 ((a0.map e_QRecord).length : Int)), (14, .int .i64 v2)] [((0, 0), .tok)] 1 := by
  unfold S_glossatorref3_State_b1 at h
  refine seqI ?_
  refine regI ?_
  refine seqI ?_
  refine condI (v := (decide (v2 < ((a0.map e_QRecord).length : Int)))) rfl trivial (fun h7 => ?_) (fun h7 => ?_)
  · have h := ite_tt h7 h
    refine skipI ?_
    refine seqI ?_
    refine blockI ?_
    refine seqI ?_
    refine regI ?_
    obtain ⟨h8, h⟩ := ite_some h
    refine And.intro h8 ?_
    refine Exists.intro (e_QRecord (a0.getD v2.toNat default)) (And.intro (getD_enc e_QRecord _ _ (idx_ltL e_QRecord h8)) (And.intro (And.intro (idx_lt h8) (Nat.le_of_ble_eq_true rfl)) ?_))
    refine regI ?_
    obtain ⟨h9, h⟩ := ite_some h
    refine Exists.intro ((v1 ++ ([(a0.getD v2.toNat default).f_Key] : List (List UInt8))).map e_str) (And.intro (app_enc e_str v1 ([(a0.getD v2.toNat default).f_Key] : List (List UInt8))) (And.intro h9 ?_))
    refine LWp.sim (e := [(0, .isl 3 (a0.map e_QRecord) false), (3, .osl (0, 0) 1 ((v1 ++ ([(a0.getD v2.toNat default).f_Key] : List (List UInt8))).map e_str)), (12, .isl 3 (a0.map e_QRecord) false), (13, .int .i64 ((a0.map e_QRecord).length : Int)), (14, .int .i64 v2)]) (L := [((0, 0), .tok)]) (n := 1) ?_ ?_
    · exact simI (M := [((0, 0), (2, 0))]) rfl (And.intro (Vw.same _ rfl) (And.intro (Vw.osl _ _ _ _ rfl) (And.intro (Vw.same _ rfl) (And.intro (Vw.same _ rfl) (And.intro (Vw.same _ rfl) trivial))))) (And.intro (And.intro rfl BVw.tok) trivial)
    refine regI ?_
    cases h
    exact And.intro rfl (simI (M := [((0, 0), (0, 0))]) rfl (And.intro (Vw.same _ rfl) (And.intro (Vw.osl _ _ _ _ rfl) (And.intro (Vw.same _ rfl) (And.intro (Vw.same _ rfl) (And.intro (Vw.same _ rfl) trivial))))) (And.intro (And.intro rfl BVw.tok) trivial))
  · have h := ite_ff h7 h
    refine exitI ?_
    obtain ⟨o, hq, rfl⟩ := Option.map_eq_some_iff.1 h
    replace h := hq; clear hq
    refine And.intro nofun ?_
    refine LWp.sim ?_ (f8_j1_ok h)
    exact simI (M := [((0, 0), (0, 0))]) rfl (And.intro (Vw.same _ rfl) (And.intro (Vw.osl _ _ _ _ rfl) trivial)) (And.intro (And.intro rfl BVw.tok) trivial)

theorem f8_L1_ok {a0 : List G_QRecord} {v1 : List (List UInt8)} {v2 : Int} {m : Option Nat} {o : (List G_QRecord)} (h : S_glossatorref3_State_l1 m a0 v1 v2 = some o) :
    LWp Try.prog f8_lay 0 (.loop f8_c1) (QBlock 0 (QSeq Try.prog f8_lay 0 f8_c0 (f8_Q a0 o))) [(0, .isl 3 (a0.map e_QRecord) false), (3, .osl (0, 0) 1 (v1.map e_str)), (12, .isl 3 (a0.map e_QRecord) false), (13, .int .i64 ((a0.map e_QRecord).length : Int)), (14, .int .i64 v2)] [((0, 0), .tok)] 1 :=
  LWp_loopM (m := m) (s := ((v1, v2) : ((List (List UInt8)) × Int))) (r := o) (fun (s : ((List (List UInt8)) × Int)) => S_glossatorref3_State_b1 m a0 s.1 s.2) (f8_L1_env a0) (f8_L1_hp a0) (f8_L1_Q a0) (fun s o h => f8_L1_bok h) h

noncomputable def S_glossatorref3_State (m : Option Nat) (a0 : List G_QRecord) : Option (List G_QRecord) :=
  S_glossatorref3_State_l1 m a0 [] 0

theorem f8_start {a0 : List G_QRecord} {m : Option Nat} {o : (List G_QRecord)} (h : S_glossatorref3_State m a0 = some o) : LWp Try.prog f8_lay 0 f8_c8 (f8_Q a0 o) (initEnv 0 [.isl 3 (a0.map e_QRecord) false]) [] 0 := by
  unfold S_glossatorref3_State at h
  refine seqI ?_
  refine regI ?_
  refine seqI ?_
  refine regI ?_
  refine seqI ?_
  refine seqI ?_
  refine regI ?_
  refine blockI ?_
  refine LWp.sim ?_ (f8_L1_ok h)
  exact simI (M := []) rfl (And.intro (Vw.same _ rfl) (And.intro (Vw.nilO _ _ (by decide)) (And.intro (Vw.same _ rfl) (And.intro (Vw.same _ rfl) (And.intro (Vw.same _ rfl) trivial))))) (And.intro (And.intro rfl (And.intro (by decide) (by decide))) trivial)

theorem f8_ok {a0 : List G_QRecord} {m : Option Nat} {o : (List G_QRecord)} (h : S_glossatorref3_State m a0 = some o) : PFn Try.prog 8 [.isl 3 (a0.map e_QRecord) false] (.isl 3 (o.map e_QRecord) false) := PFn.ofFnW (L := f8_L) f8_low f8_fok (Nat.le_of_ble_eq_true rfl) rfl (f8_start h)

def f3_c0 : LCode := (.seq (.region [⟨some 2, .mv (.c (.bool false)), none⟩])
 (.seq (.seq (.region [⟨some 3, .call 5 [], none⟩,
   ⟨some 4, .un .not (.t 3), none⟩])
 (.cond (.t 4)
  (.seq (.region [⟨some 2, .mv (.c (.bool false)), none⟩])
  .ret)
  .skip))
 (.seq (.region [⟨some 5, .mv (.t 0), none⟩,
   ⟨some 6, .mv (.t 0), none⟩,
   ⟨some 7, .len false (.t 6), none⟩,
   ⟨some 8, .mnx false [(.t 7), (.c (.int .i64 40))], none⟩,
   ⟨some 9, .slSl 3 (.t 5) none (some (.t 8)) none, none⟩,
   ⟨some 0, .mv (.t 9), none⟩])
 (.seq (.region [⟨some 10, .call 5 [], none⟩,
   ⟨some 11, .mv (.t 10), none⟩,
   ⟨some 12, .mv (.t 0), some (11, true)⟩,
   ⟨some 13, .call 7 [(.t 12)], some (11, true)⟩,
   ⟨some 14, .mv (.t 0), some (11, true)⟩,
   ⟨some 15, .call 8 [(.t 14)], some (11, true)⟩,
   ⟨some 16, .call 6 [(.t 13), (.t 15)], some (11, true)⟩,
   ⟨some 17, .pick (.t 11) (.t 16) (.c (.bool false)), none⟩,
   ⟨some 2, .mv (.t 17), none⟩])
 .ret))))
def f3_lay : Lay := ⟨18, [], false⟩
def f3_res : List LRes := [.t 2]
def f3_L : LFn := ⟨1, f3_lay, f3_c0, f3_res⟩
theorem f3_low : lowFn Try.prog [] 3 = some f3_L := by kernel_rfl
theorem f3_fok : FnOk Try.prog 3 := ⟨_, Try.func3, rfl, rfl⟩
noncomputable def S_glossatorlaw3_JournalState (m : Option Nat) (a0 : List G_QRecord) : Option Bool :=
  (S_glossatorlaw3_journalExample (some 4096)).bind fun v1 =>
  if (!v1) = true then
    some false
  else
    if (0 : Int) ≤ (if 40 < ((a0.map e_QRecord).length : Int) then 40 else ((a0.map e_QRecord).length : Int)) ∧ (if 40 < ((a0.map e_QRecord).length : Int) then 40 else ((a0.map e_QRecord).length : Int)) ≤ ((a0.map e_QRecord).length : Int) then
    (S_glossatorlaw3_journalExample (some 4096)).bind fun v2 =>
    (if (v2 == true) = true then S_journal_State m (a0.take (if 40 < ((a0.map e_QRecord).length : Int) then 40 else ((a0.map e_QRecord).length : Int)).toNat) else some default).bind fun v3 =>
    (if (v2 == true) = true then S_glossatorref3_State m (a0.take (if 40 < ((a0.map e_QRecord).length : Int) then 40 else ((a0.map e_QRecord).length : Int)).toNat) else some default).bind fun v4 =>
    (if (v2 == true) = true then S_glossatorref3_Equal_api_QRecord m v3 v4 else some default).bind fun v5 =>
    some (v2 && v5)
    else none

def f3_Q (a0 : List G_QRecord) (o : Bool) : Exit → Env → AHeap → Nat → Prop := FinK f3_res (PureEnd (.bool o))

theorem f3_start {a0 : List G_QRecord} {m : Option Nat} {o : Bool} (h : S_glossatorlaw3_JournalState m a0 = some o) : LWp Try.prog f3_lay 0 f3_c0 (f3_Q a0 o) (initEnv 0 [.isl 3 (a0.map e_QRecord) false]) [] 0 := by
  unfold S_glossatorlaw3_JournalState at h
  refine seqI ?_
  refine regI ?_
  refine seqI ?_
  refine seqI ?_
  refine regI ?_
  obtain ⟨v1, h1, h⟩ := bind_some h
  refine PFn.call (f5_ok h1) trivial ?_
  refine condI (v := (!v1)) rfl trivial (fun h2 => ?_) (fun h2 => ?_)
  · have h := ite_tt h2 h
    refine seqI ?_
    refine regI ?_
    refine retI ?_
    cases h
    exact And.intro trivial (And.intro rfl (Vw.same _ rfl))
  · have h := ite_ff h2 h
    refine skipI ?_
    refine seqI ?_
    refine regI ?_
    obtain ⟨h3, h⟩ := ite_some h
    refine Exists.intro (.isl 3 ((a0.take (if 40 < ((a0.map e_QRecord).length : Int) then 40 else ((a0.map e_QRecord).length : Int)).toNat).map e_QRecord) false) (And.intro (sl_eq e_QRecord (slB e_QRecord a0 _) rfl) (And.intro (And.intro rfl (And.intro (Int.le_refl _) h3)) ?_))
    refine LWp.sim (e := [(0, .isl 3 ((a0.take (if 40 < ((a0.map e_QRecord).length : Int) then 40 else ((a0.map e_QRecord).length : Int)).toNat).map e_QRecord) false)]) (L := []) (n := 0) ?_ ?_
    · exact simI (M := []) rfl (And.intro (Vw.same _ rfl) trivial) trivial
    refine seqI ?_
    refine regI ?_
    obtain ⟨v2, h4, h⟩ := bind_some h
    refine PFn.call (f5_ok h4) trivial ?_
    obtain ⟨v3, h5, h⟩ := bind_some h
    refine Or.inl (Exists.intro (.isl 3 (v3.map e_QRecord) false) (And.intro (fun hp => And.intro hp (PFn.call (f7_ok (ite_tt hp h5)) (And.intro (Vw.same _ rfl) trivial) (And.intro rfl (And.intro rfl rfl)))) ?_))
    obtain ⟨v4, h6, h⟩ := bind_some h
    refine Or.inl (Exists.intro (.isl 3 (v4.map e_QRecord) false) (And.intro (fun hp => And.intro hp (PFn.call (f8_ok (ite_tt hp h6)) (And.intro (Vw.same _ rfl) trivial) (And.intro rfl (And.intro rfl rfl)))) ?_))
    obtain ⟨v5, h7, h⟩ := bind_some h
    refine Or.inl (Exists.intro (.bool v5) (And.intro (fun hp => And.intro (And.intro hp hp) (PFn.call (f6_ok (ite_tt hp h7)) (And.intro (Vw.same _ rfl) (And.intro (Vw.same _ rfl) trivial)) (And.intro rfl (And.intro rfl rfl)))) ?_))
    refine And.intro (fun hc => (bqt hc)) ?_
    show yops _ _ _ [(17, .bool (v2 && v5)), (16, .cnd (v2 == true) (.bool v5)), (15, .cnd (v2 == true) (.isl 3 (v4.map e_QRecord) false)), (14, .cnd (v2 == true) (.isl 3 ((a0.take (if 40 < ((a0.map e_QRecord).length : Int) then 40 else ((a0.map e_QRecord).length : Int)).toNat).map e_QRecord) false)), (13, .cnd (v2 == true) (.isl 3 (v3.map e_QRecord) false)), (12, .cnd (v2 == true) (.isl 3 ((a0.take (if 40 < ((a0.map e_QRecord).length : Int) then 40 else ((a0.map e_QRecord).length : Int)).toNat).map e_QRecord) false)), (11, .bool v2), (10, .bool v2), (0, .isl 3 ((a0.take (if 40 < ((a0.map e_QRecord).length : Int) then 40 else ((a0.map e_QRecord).length : Int)).toNat).map e_QRecord) false)] _ _
    refine LWp.sim (e := [(2, .bool (v2 && v5))]) (L := []) (n := 0) ?_ ?_
    · exact simI (M := []) rfl (And.intro (Vw.same _ rfl) trivial) trivial
    refine retI ?_
    cases h
    exact And.intro trivial (And.intro rfl (Vw.same _ rfl))

theorem f3_ok {a0 : List G_QRecord} {m : Option Nat} {o : Bool} (h : S_glossatorlaw3_JournalState m a0 = some o) : PFn Try.prog 3 [.isl 3 (a0.map e_QRecord) false] (.bool o) := PFn.ofFnW (L := f3_L) f3_low f3_fok (Nat.le_of_ble_eq_true rfl) rfl (f3_start h)

def f10_c1 : LCode := (.seq (.region [⟨some 23, .bin .lss (.t 22) (.t 21), none⟩])
 (.seq (.cond (.t 23)
  .skip
  (.exit 0))
 (.seq (.block 1
  (.seq (.region [⟨some 24, .iaddr 3 (.t 20) (.t 22), none⟩,
    ⟨some 25, .load true 3 (.t 24), none⟩,
    ⟨some 9, .alloc [(.str []), (.str []), (.bool false)], none⟩,
    ⟨none, .store 3 (.t 9) (.t 25), none⟩])
  (.region [⟨some 26, .mv (.t 7), none⟩,
    ⟨some 27, .load true 3 (.t 9), none⟩,
    ⟨some 28, .call 22 [(.t 27)], none⟩,
    ⟨some 29, .call 21 [(.t 28)], none⟩,
    ⟨some 30, .bin .add (.t 26) (.t 29), none⟩,
    ⟨some 7, .mv (.t 30), none⟩])))
 (.region [⟨some 31, .bin .add (.t 22) (.c (.int .i64 1)), none⟩,
   ⟨some 22, .mv (.t 31), none⟩]))))
def f10_c0 : LCode := (.seq (.region [⟨some 32, .mv (.t 7), none⟩,
   ⟨some 2, .mv (.t 32), none⟩,
   ⟨some 3, .mv (.c (.int .i64 0)), none⟩])
 .ret)
def f10_c2 : LCode := (.seq (.region [⟨some 2, .mv (.c (.str [])), none⟩,
   ⟨some 3, .mv (.c (.int .i64 0)), none⟩])
 (.seq (.region [⟨some 11, .mv (.t 0), none⟩,
   ⟨some 12, .call 9 [(.t 11)], none⟩,
   ⟨some 10, .mv (.t 12), none⟩,
   ⟨some 13, .ext 0 (.t 10), none⟩,
   ⟨some 14, .ext 1 (.t 10), none⟩,
   ⟨some 15, .ext 2 (.t 10), none⟩,
   ⟨some 4, .mv (.t 13), none⟩,
   ⟨some 5, .mv (.t 14), none⟩,
   ⟨some 6, .mv (.t 15), none⟩])
 (.seq (.seq (.region [⟨some 16, .mv (.t 6), none⟩,
   ⟨some 17, .bin .neq (.t 16) (.c (.int .i64 0)), none⟩])
 (.cond (.t 17)
  (.seq (.region [⟨some 18, .mv (.t 6), none⟩,
    ⟨some 2, .mv (.c (.str [])), none⟩,
    ⟨some 3, .mv (.t 18), none⟩])
  .ret)
  .skip))
 (.seq (.region [⟨some 7, .mv (.c (.str [])), none⟩])
 (.seq (.seq (.region [⟨some 19, .mv (.t 4), none⟩,
   ⟨some 20, .call 7 [(.t 19)], none⟩,
   ⟨some 21, .len false (.t 20), none⟩,
   ⟨some 22, .mv (.c (.int .i64 0)), none⟩])
 (.block 0
  (.loop
   f10_c1)))
 f10_c0)))))
def f10_lay : Lay := ⟨33, [], false⟩
def f10_res : List LRes := [.t 2, .t 3]
def f10_L : LFn := ⟨1, f10_lay, f10_c2, f10_res⟩
theorem f10_low : lowFn Try.prog [] 10 = some f10_L := by kernel_rfl
theorem f10_fok : FnOk Try.prog 10 := ⟨_, Try.func10, rfl, rfl⟩
def f10_Q (a0 : List UInt8) (o : (List UInt8) × Int) : Exit → Env → AHeap → Nat → Prop := FinK f10_res (PureEnd (.tup [.str o.1, .int .i64 o.2]))

def f10_L1_env (v2 : (List G_QRecord)) (s : ((List UInt8) × Int)) : Env := [(7, .str s.1), (20, .isl 3 (v2.map e_QRecord) false), (21, .int .i64 ((v2.map e_QRecord).length : Int)), (22, .int .i64 s.2)]
def f10_L1_hp (v2 : (List G_QRecord)) (s : ((List UInt8) × Int)) : AHeap := []
def f10_L1_Q (a0 : List UInt8) (o : ((List UInt8) × Int)) : Exit → Env → AHeap → Nat → Prop := (QBlock 0 (QSeq Try.prog f10_lay 0 f10_c0 (f10_Q a0 o)))

noncomputable def S_journal_Compact_j1 (m : Option Nat) (v5 : List UInt8) : Option ((List UInt8) × Int) :=
  some (v5, 0)

noncomputable def S_journal_Compact_b1 (m : Option Nat) (v2 : (List G_QRecord)) (v5 : List UInt8) (v6 : Int) : Option (((List UInt8) × Int) ⊕ ((List UInt8) × Int)) :=
  if (decide (v6 < ((v2.map e_QRecord).length : Int))) = true then
    if (0 : Int) ≤ v6 ∧ v6 < ((v2.map e_QRecord).length : Int) then
    (S_journal_payload m (G_QRecord.mk ((v2.getD v6.toNat default).f_Key) ((v2.getD v6.toNat default).f_Value) ((v2.getD v6.toNat default).f_Deleted))).bind fun v9 =>
    (S_journal_frame m v9).bind fun v10 =>
    if (((v5.length + v10.length : Nat) : Int) ≤ 9223372036854775807) then
    some (.inl ((v5 ++ v10), (W (v6 + 1))))
    else none
    else none
  else
    Option.map Sum.inr (
      S_journal_Compact_j1 m v5)

noncomputable def S_journal_Compact_l1 (m : Option Nat) (v2 : (List G_QRecord)) (v5 : List UInt8) (v6 : Int) : Option ((List UInt8) × Int) := loopM m (fun (s : ((List UInt8) × Int)) => S_journal_Compact_b1 m v2 s.1 s.2) (v5, v6)

theorem f10_j1_ok {a0 : List UInt8} {v5 : List UInt8} {m : Option Nat} {o : ((List UInt8) × Int)} (h : S_journal_Compact_j1 m v5 = some o) :
    LWp Try.prog f10_lay 0 f10_c0 (f10_Q a0 o) [(7, .str v5)] [] 0 := by
  unfold S_journal_Compact_j1 at h
  refine seqI ?_
  refine regI ?_
  refine retI ?_
  cases h
  exact And.intro trivial (And.intro trivial (And.intro rfl (Vw.same _ rfl)))

theorem f10_L1_bok {a0 : List UInt8} {v2 : (List G_QRecord)} {v5 : List UInt8} {v6 : Int} {m : Option Nat} {o : ((List UInt8) × Int) ⊕ ((List UInt8) × Int)} (h : S_journal_Compact_b1 m v2 v5 v6 = some o) :
    LWp Try.prog f10_lay 0 f10_c1 (BodyQ 0 0 (f10_L1_env v2) (f10_L1_hp v2) (f10_L1_Q a0) o) [(7, .str v5), (20, .isl 3 (v2.map e_QRecord) false), (21, .int .i64 ((v2.map e_QRecord).length : Int)), (22, .int .i64 v6)] [] 0 := by
  unfold S_journal_Compact_b1 at h
  refine seqI ?_
  refine regI ?_
  refine seqI ?_
  refine condI (v := (decide (v6 < ((v2.map e_QRecord).length : Int)))) rfl trivial (fun h14 => ?_) (fun h14 => ?_)
  · have h := ite_tt h14 h
    refine skipI ?_
    refine seqI ?_
    refine blockI ?_
    refine seqI ?_
    refine regI ?_
    obtain ⟨h15, h⟩ := ite_some h
    refine And.intro h15 ?_
    refine Exists.intro (e_QRecord (v2.getD v6.toNat default)) (And.intro (getD_enc e_QRecord _ _ (idx_ltL e_QRecord h15)) (And.intro (And.intro (idx_lt h15) (Nat.le_of_ble_eq_true rfl)) ?_))
    refine regI ?_
    obtain ⟨v9, h16, h⟩ := bind_some h
    refine PFn.call (f22_ok h16) (And.intro (Vw.same _ rfl) trivial) ?_
    show yops _ _ _ [(28, .str v9), (27, .agg [.str ((v2.getD v6.toNat default).f_Key), .str ((v2.getD v6.toNat default).f_Value), .bool ((v2.getD v6.toNat default).f_Deleted)]), (26, .str v5), (9, .ptr (0, 0) 0 0), (25, .agg [.str ((v2.getD v6.toNat default).f_Key), .str ((v2.getD v6.toNat default).f_Value), .bool ((v2.getD v6.toNat default).f_Deleted)]), (24, .iptr 3 (v2.map e_QRecord) v6.toNat 0), (23, .bool (decide (v6 < ((v2.map e_QRecord).length : Int)))), (7, .str v5), (20, .isl 3 (v2.map e_QRecord) false), (21, .int .i64 ((v2.map e_QRecord).length : Int)), (22, .int .i64 v6)] _ _
    obtain ⟨v10, h17, h⟩ := bind_some h
    refine PFn.call (f21_ok h17) (And.intro (Vw.same _ rfl) trivial) ?_
    obtain ⟨h18, h⟩ := ite_some h
    refine And.intro h18 ?_
    refine LWp.sim (e := [(7, .str (v5 ++ v10)), (20, .isl 3 (v2.map e_QRecord) false), (21, .int .i64 ((v2.map e_QRecord).length : Int)), (22, .int .i64 v6)]) (L := []) (n := 0) ?_ ?_
    · exact simI (M := []) rfl (And.intro (Vw.same _ rfl) (And.intro (Vw.same _ rfl) (And.intro (Vw.same _ rfl) (And.intro (Vw.same _ rfl) trivial)))) trivial
    refine regI ?_
    cases h
    exact And.intro rfl (simI (M := []) rfl (And.intro (Vw.same _ rfl) (And.intro (Vw.same _ rfl) (And.intro (Vw.same _ rfl) (And.intro (Vw.same _ rfl) trivial)))) trivial)
  · have h := ite_ff h14 h
    refine exitI ?_
    obtain ⟨o, hq, rfl⟩ := Option.map_eq_some_iff.1 h
    replace h := hq; clear hq
    refine And.intro nofun ?_
    refine LWp.sim ?_ (f10_j1_ok h)
    exact simI (M := []) rfl (And.intro (Vw.same _ rfl) trivial) trivial

theorem f10_L1_ok {a0 : List UInt8} {v2 : (List G_QRecord)} {v5 : List UInt8} {v6 : Int} {m : Option Nat} {o : ((List UInt8) × Int)} (h : S_journal_Compact_l1 m v2 v5 v6 = some o) :
    LWp Try.prog f10_lay 0 (.loop f10_c1) (QBlock 0 (QSeq Try.prog f10_lay 0 f10_c0 (f10_Q a0 o))) [(7, .str v5), (20, .isl 3 (v2.map e_QRecord) false), (21, .int .i64 ((v2.map e_QRecord).length : Int)), (22, .int .i64 v6)] [] 0 :=
  LWp_loopM (m := m) (s := ((v5, v6) : ((List UInt8) × Int))) (r := o) (fun (s : ((List UInt8) × Int)) => S_journal_Compact_b1 m v2 s.1 s.2) (f10_L1_env v2) (f10_L1_hp v2) (f10_L1_Q a0) (fun s o h => f10_L1_bok h) h

noncomputable def S_journal_Compact (m : Option Nat) (a0 : List UInt8) : Option ((List UInt8) × Int) :=
  (S_journal_Read m a0).bind fun v1 =>
  if (v1.2.2 != 0) = true then
    some (([] : List UInt8), v1.2.2)
  else
    (S_journal_State m v1.1).bind fun v2 =>
    S_journal_Compact_l1 m v2 ([] : List UInt8) 0

theorem f10_start {a0 : List UInt8} {m : Option Nat} {o : (List UInt8) × Int} (h : S_journal_Compact m a0 = some o) : LWp Try.prog f10_lay 0 f10_c2 (f10_Q a0 o) (initEnv 0 [.str a0]) [] 0 := by
  unfold S_journal_Compact at h
  refine seqI ?_
  refine regI ?_
  refine seqI ?_
  refine regI ?_
  obtain ⟨v1, h1, h⟩ := bind_some h
  refine PFn.call (f9_ok h1) (And.intro (Vw.same _ rfl) trivial) ?_
  refine LWp.sim (e := [(4, .isl 3 (v1.1.map e_QRecord) false), (6, .int .i64 v1.2.2)]) (L := []) (n := 0) ?_ ?_
  · exact simI (M := []) rfl (And.intro (Vw.same _ rfl) (And.intro (Vw.same _ rfl) trivial)) trivial
  refine seqI ?_
  refine seqI ?_
  refine regI ?_
  refine condI (v := (v1.2.2 != 0)) rfl trivial (fun h2 => ?_) (fun h2 => ?_)
  · have h := ite_tt h2 h
    refine seqI ?_
    refine regI ?_
    refine retI ?_
    cases h
    exact And.intro trivial (And.intro trivial (And.intro rfl (Vw.same _ rfl)))
  · have h := ite_ff h2 h
    refine skipI ?_
    refine seqI ?_
    refine regI ?_
    refine seqI ?_
    refine seqI ?_
    refine regI ?_
    obtain ⟨v2, h3, h⟩ := bind_some h
    refine PFn.call (f7_ok h3) (And.intro (Vw.same _ rfl) trivial) ?_
    show yops _ _ _ [(20, .isl 3 (v2.map e_QRecord) false), (19, .isl 3 (v1.1.map e_QRecord) false), (7, .str ([] : List UInt8)), (17, .bool (v1.2.2 != 0)), (16, .int .i64 v1.2.2), (4, .isl 3 (v1.1.map e_QRecord) false), (6, .int .i64 v1.2.2)] _ _
    refine blockI ?_
    refine LWp.sim ?_ (f10_L1_ok h)
    exact simI (M := []) rfl (And.intro (Vw.same _ rfl) (And.intro (Vw.same _ rfl) (And.intro (Vw.same _ rfl) (And.intro (Vw.same _ rfl) trivial)))) trivial

theorem f10_ok {a0 : List UInt8} {m : Option Nat} {o : (List UInt8) × Int} (h : S_journal_Compact m a0 = some o) : PFn Try.prog 10 [.str a0] (.tup [.str o.1, .int .i64 o.2]) := PFn.ofFnW (L := f10_L) f10_low f10_fok (Nat.le_of_ble_eq_true rfl) rfl (f10_start h)

def f24_c1 : LCode := (.seq (.region [⟨some 8, .bin .lss (.t 7) (.t 6), none⟩])
 (.seq (.cond (.t 8)
  .skip
  (.exit 0))
 (.seq (.block 1
  (.seq (.region [⟨some 9, .mv (.t 7), none⟩,
    ⟨some 4, .mv (.t 9), none⟩])
  (.region [⟨some 10, .mv (.t 3), none⟩,
    ⟨some 11, .mv (.t 0), none⟩,
    ⟨some 12, .mv (.t 4), none⟩,
    ⟨some 13, .idxS (.t 11) (.t 12), none⟩,
    ⟨some 14, .conv (.int .u64) (.t 13), none⟩,
    ⟨some 15, .bin .xor (.t 10) (.t 14), none⟩,
    ⟨some 16, .bin .mul (.t 15) (.c (.int .u64 16777619)), none⟩,
    ⟨some 17, .bin .rem (.t 16) (.c (.int .u64 4294967296)), none⟩,
    ⟨some 3, .mv (.t 17), none⟩])))
 (.region [⟨some 18, .bin .add (.t 7) (.c (.int .i64 1)), none⟩,
   ⟨some 7, .mv (.t 18), none⟩]))))
def f24_c0 : LCode := (.seq (.region [⟨some 19, .mv (.t 3), none⟩,
   ⟨some 20, .conv (.int .u32) (.t 19), none⟩,
   ⟨some 2, .mv (.t 20), none⟩])
 .ret)
def f24_c2 : LCode := (.seq (.region [⟨some 2, .mv (.c (.int .u32 0)), none⟩])
 (.seq (.region [⟨some 3, .mv (.c (.int .u64 2166136261)), none⟩])
 (.seq (.seq (.region [⟨some 5, .mv (.t 0), none⟩,
   ⟨some 6, .len true (.t 5), none⟩,
   ⟨some 7, .mv (.c (.int .i64 0)), none⟩])
 (.block 0
  (.loop
   f24_c1)))
 f24_c0)))
def f24_lay : Lay := ⟨21, [], false⟩
def f24_res : List LRes := [.t 2]
def f24_L : LFn := ⟨1, f24_lay, f24_c2, f24_res⟩
theorem f24_low : lowFn Try.prog [] 24 = some f24_L := by kernel_rfl
theorem f24_fok : FnOk Try.prog 24 := ⟨_, Try.func24, rfl, rfl⟩
def f24_Q (a0 : List UInt8) (o : Int) : Exit → Env → AHeap → Nat → Prop := FinK f24_res (PureEnd (.int .u32 o))

def f24_L1_env (a0 : List UInt8) (s : (Int × Int)) : Env := [(0, .str a0), (3, .int .u64 s.1), (6, .int .i64 (a0.length : Int)), (7, .int .i64 s.2)]
def f24_L1_hp (a0 : List UInt8) (s : (Int × Int)) : AHeap := []
def f24_L1_Q (a0 : List UInt8) (o : Int) : Exit → Env → AHeap → Nat → Prop := (QBlock 0 (QSeq Try.prog f24_lay 0 f24_c0 (f24_Q a0 o)))

noncomputable def S_glossatorref3_Checksum_j1 (m : Option Nat) (v1 : Int) : Option Int :=
  some (IntKind.wrap .u32 v1)

noncomputable def S_glossatorref3_Checksum_b1 (m : Option Nat) (a0 : List UInt8) (v1 : Int) (v2 : Int) : Option ((Int × Int) ⊕ Int) :=
  if (decide (v2 < (a0.length : Int))) = true then
    if (0 : Int) ≤ v2 ∧ v2 < (a0.length : Int) then
    some (.inl (((IntKind.wrap .u64 ((ibits .xor .u64 v1 (IntKind.wrap .u64 (((a0.getD v2.toNat 0).toNat : Nat) : Int))) * 16777619)).tmod 4294967296), (W (v2 + 1))))
    else none
  else
    Option.map Sum.inr (
      S_glossatorref3_Checksum_j1 m v1)

noncomputable def S_glossatorref3_Checksum_l1 (m : Option Nat) (a0 : List UInt8) (v1 : Int) (v2 : Int) : Option Int := loopM m (fun (s : (Int × Int)) => S_glossatorref3_Checksum_b1 m a0 s.1 s.2) (v1, v2)

theorem f24_j1_ok {a0 : List UInt8} {v1 : Int} {m : Option Nat} {o : Int} (h : S_glossatorref3_Checksum_j1 m v1 = some o) :
    LWp Try.prog f24_lay 0 f24_c0 (f24_Q a0 o) [(3, .int .u64 v1)] [] 0 := by
  unfold S_glossatorref3_Checksum_j1 at h
  refine seqI ?_
  refine regI ?_
  refine retI ?_
  cases h
  exact And.intro trivial (And.intro rfl (Vw.same _ rfl))

theorem f24_L1_bok {a0 : List UInt8} {v1 : Int} {v2 : Int} {m : Option Nat} {o : (Int × Int) ⊕ Int} (h : S_glossatorref3_Checksum_b1 m a0 v1 v2 = some o) :
    LWp Try.prog f24_lay 0 f24_c1 (BodyQ 0 0 (f24_L1_env a0) (f24_L1_hp a0) (f24_L1_Q a0) o) [(0, .str a0), (3, .int .u64 v1), (6, .int .i64 (a0.length : Int)), (7, .int .i64 v2)] [] 0 := by
  unfold S_glossatorref3_Checksum_b1 at h
  refine seqI ?_
  refine regI ?_
  refine seqI ?_
  refine condI (v := (decide (v2 < (a0.length : Int)))) rfl trivial (fun h5 => ?_) (fun h5 => ?_)
  · have h := ite_tt h5 h
    refine skipI ?_
    refine seqI ?_
    refine blockI ?_
    refine seqI ?_
    refine regI ?_
    refine regI ?_
    obtain ⟨h6, h⟩ := ite_some h
    refine And.intro h6 ?_
    show yops _ _ _ [(13, .int .u8 (((a0.getD v2.toNat 0).toNat : Nat) : Int)), (12, .int .i64 v2), (11, .str a0), (10, .int .u64 v1), (4, .int .i64 v2), (9, .int .i64 v2), (8, .bool (decide (v2 < (a0.length : Int)))), (0, .str a0), (3, .int .u64 v1), (6, .int .i64 (a0.length : Int)), (7, .int .i64 v2)] _ _
    refine And.intro (by decide) ?_
    refine LWp.sim (e := [(0, .str a0), (3, .int .u64 ((IntKind.wrap .u64 ((ibits .xor .u64 v1 (IntKind.wrap .u64 (((a0.getD v2.toNat 0).toNat : Nat) : Int))) * 16777619)).tmod 4294967296)), (6, .int .i64 (a0.length : Int)), (7, .int .i64 v2)]) (L := []) (n := 0) ?_ ?_
    · exact simI (M := []) rfl (And.intro (Vw.same _ rfl) (And.intro (Vw.same _ rfl) (And.intro (Vw.same _ rfl) (And.intro (Vw.same _ rfl) trivial)))) trivial
    refine regI ?_
    cases h
    exact And.intro rfl (simI (M := []) rfl (And.intro (Vw.same _ rfl) (And.intro (Vw.same _ rfl) (And.intro (Vw.same _ rfl) (And.intro (Vw.same _ rfl) trivial)))) trivial)
  · have h := ite_ff h5 h
    refine exitI ?_
    obtain ⟨o, hq, rfl⟩ := Option.map_eq_some_iff.1 h
    replace h := hq; clear hq
    refine And.intro nofun ?_
    refine LWp.sim ?_ (f24_j1_ok h)
    exact simI (M := []) rfl (And.intro (Vw.same _ rfl) trivial) trivial

theorem f24_L1_ok {a0 : List UInt8} {v1 : Int} {v2 : Int} {m : Option Nat} {o : Int} (h : S_glossatorref3_Checksum_l1 m a0 v1 v2 = some o) :
    LWp Try.prog f24_lay 0 (.loop f24_c1) (QBlock 0 (QSeq Try.prog f24_lay 0 f24_c0 (f24_Q a0 o))) [(0, .str a0), (3, .int .u64 v1), (6, .int .i64 (a0.length : Int)), (7, .int .i64 v2)] [] 0 :=
  LWp_loopM (m := m) (s := ((v1, v2) : (Int × Int))) (r := o) (fun (s : (Int × Int)) => S_glossatorref3_Checksum_b1 m a0 s.1 s.2) (f24_L1_env a0) (f24_L1_hp a0) (f24_L1_Q a0) (fun s o h => f24_L1_bok h) h

noncomputable def S_glossatorref3_Checksum (m : Option Nat) (a0 : List UInt8) : Option Int :=
  S_glossatorref3_Checksum_l1 m a0 2166136261 0

theorem f24_start {a0 : List UInt8} {m : Option Nat} {o : Int} (h : S_glossatorref3_Checksum m a0 = some o) : LWp Try.prog f24_lay 0 f24_c2 (f24_Q a0 o) (initEnv 0 [.str a0]) [] 0 := by
  unfold S_glossatorref3_Checksum at h
  refine seqI ?_
  refine regI ?_
  refine seqI ?_
  refine regI ?_
  refine seqI ?_
  refine seqI ?_
  refine regI ?_
  refine blockI ?_
  refine LWp.sim ?_ (f24_L1_ok h)
  exact simI (M := []) rfl (And.intro (Vw.same _ rfl) (And.intro (Vw.same _ rfl) (And.intro (Vw.same _ rfl) (And.intro (Vw.same _ rfl) trivial)))) trivial

theorem f24_ok {a0 : List UInt8} {m : Option Nat} {o : Int} (h : S_glossatorref3_Checksum m a0 = some o) : PFn Try.prog 24 [.str a0] (.int .u32 o) := PFn.ofFnW (L := f24_L) f24_low f24_fok (Nat.le_of_ble_eq_true rfl) rfl (f24_start h)

def f23_c0 : LCode := (.seq (.region [⟨some 2, .mv (.c (.str [])), none⟩])
 (.seq (.region [⟨some 3, .mv (.t 0), none⟩,
   ⟨some 4, .bin .shr (.t 3) (.c (.int .u64 24)), none⟩,
   ⟨some 5, .conv (.int .u8) (.t 4), none⟩,
   ⟨some 6, .mv (.t 0), none⟩,
   ⟨some 7, .bin .shr (.t 6) (.c (.int .u64 16)), none⟩,
   ⟨some 8, .conv (.int .u8) (.t 7), none⟩,
   ⟨some 9, .mv (.t 0), none⟩,
   ⟨some 10, .bin .shr (.t 9) (.c (.int .u64 8)), none⟩,
   ⟨some 11, .conv (.int .u8) (.t 10), none⟩,
   ⟨some 12, .mv (.t 0), none⟩,
   ⟨some 13, .conv (.int .u8) (.t 12), none⟩,
   ⟨some 14, .mkSl true 1 [(.int .u8 0)] 4 [(0, (.t 5)), (1, (.t 8)), (2, (.t 11)), (3, (.t 13))], none⟩,
   ⟨some 15, .conv .b2s (.t 14), none⟩,
   ⟨some 2, .mv (.t 15), none⟩])
 .ret))
def f23_lay : Lay := ⟨16, [], false⟩
def f23_res : List LRes := [.t 2]
def f23_L : LFn := ⟨1, f23_lay, f23_c0, f23_res⟩
theorem f23_low : lowFn Try.prog [] 23 = some f23_L := by kernel_rfl
theorem f23_fok : FnOk Try.prog 23 := ⟨_, Try.func23, rfl, rfl⟩
noncomputable def S_glossatorref3_number32 (m : Option Nat) (a0 : Int) : Option (List UInt8) :=
  some (([(IntKind.wrap .u8 (a0.fdiv (2 ^ (min (24 : Int).toNat (IntKind.bits .u32))))), (IntKind.wrap .u8 (a0.fdiv (2 ^ (min (16 : Int).toNat (IntKind.bits .u32))))), (IntKind.wrap .u8 (a0.fdiv (2 ^ (min (8 : Int).toNat (IntKind.bits .u32))))), (IntKind.wrap .u8 a0)] : List Int).map toU8)

def f23_Q (a0 : Int) (o : (List UInt8)) : Exit → Env → AHeap → Nat → Prop := FinK f23_res (PureEnd (.str o))

theorem f23_start {a0 : Int} {m : Option Nat} {o : (List UInt8)} (h : S_glossatorref3_number32 m a0 = some o) : LWp Try.prog f23_lay 0 f23_c0 (f23_Q a0 o) (initEnv 0 [.int .u32 a0]) [] 0 := by
  unfold S_glossatorref3_number32 at h
  refine seqI ?_
  refine regI ?_
  refine seqI ?_
  refine regI ?_
  refine And.intro (by decide) ?_
  refine And.intro (by decide) ?_
  show yops _ _ _ [(7, .int .u32 (a0.fdiv (2 ^ (min (16 : Int).toNat (IntKind.bits .u32))))), (6, .int .u32 a0), (5, .int .u8 (IntKind.wrap .u8 (a0.fdiv (2 ^ (min (24 : Int).toNat (IntKind.bits .u32)))))), (4, .int .u32 (a0.fdiv (2 ^ (min (24 : Int).toNat (IntKind.bits .u32))))), (3, .int .u32 a0), (2, .str ([] : List UInt8)), (0, .int .u32 a0)] _ _
  refine And.intro (by decide) ?_
  refine Exists.intro (([(IntKind.wrap .u8 (a0.fdiv (2 ^ (min (24 : Int).toNat (IntKind.bits .u32))))), (IntKind.wrap .u8 (a0.fdiv (2 ^ (min (16 : Int).toNat (IntKind.bits .u32))))), (IntKind.wrap .u8 (a0.fdiv (2 ^ (min (8 : Int).toNat (IntKind.bits .u32))))), (IntKind.wrap .u8 a0)] : List Int).map toU8) (And.intro (b2s_enc ([(IntKind.wrap .u8 (a0.fdiv (2 ^ (min (24 : Int).toNat (IntKind.bits .u32))))), (IntKind.wrap .u8 (a0.fdiv (2 ^ (min (16 : Int).toNat (IntKind.bits .u32))))), (IntKind.wrap .u8 (a0.fdiv (2 ^ (min (8 : Int).toNat (IntKind.bits .u32))))), (IntKind.wrap .u8 a0)] : List Int)) (And.intro (b2s_all ([(IntKind.wrap .u8 (a0.fdiv (2 ^ (min (24 : Int).toNat (IntKind.bits .u32))))), (IntKind.wrap .u8 (a0.fdiv (2 ^ (min (16 : Int).toNat (IntKind.bits .u32))))), (IntKind.wrap .u8 (a0.fdiv (2 ^ (min (8 : Int).toNat (IntKind.bits .u32))))), (IntKind.wrap .u8 a0)] : List Int)) ?_))
  refine LWp.sim (e := [(2, .str (([(IntKind.wrap .u8 (a0.fdiv (2 ^ (min (24 : Int).toNat (IntKind.bits .u32))))), (IntKind.wrap .u8 (a0.fdiv (2 ^ (min (16 : Int).toNat (IntKind.bits .u32))))), (IntKind.wrap .u8 (a0.fdiv (2 ^ (min (8 : Int).toNat (IntKind.bits .u32))))), (IntKind.wrap .u8 a0)] : List Int).map toU8))]) (L := []) (n := 0) ?_ ?_
  · exact simI (M := []) rfl (And.intro (Vw.same _ rfl) trivial) trivial
  refine retI ?_
  cases h
  exact And.intro trivial (And.intro rfl (Vw.same _ rfl))

theorem f23_ok {a0 : Int} {m : Option Nat} {o : (List UInt8)} (h : S_glossatorref3_number32 m a0 = some o) : PFn Try.prog 23 [.int .u32 a0] (.str o) := PFn.ofFnW (L := f23_L) f23_low f23_fok (Nat.le_of_ble_eq_true rfl) rfl (f23_start h)

def f25_c0 : LCode := (.seq (.region [⟨some 1, .box (.t 0), none⟩,
   ⟨some 2, .mv (.c (.int .i64 0)), none⟩])
 (.seq (.seq (.region [⟨some 3, .faddr 0 (.t 1), none⟩,
   ⟨some 4, .load false 1 (.t 3), none⟩,
   ⟨some 5, .bin .eql (.t 4) (.c (.str [])), none⟩,
   ⟨some 6, .mv (.t 5), none⟩,
   ⟨some 7, .faddr 2 (.t 1), some (6, false)⟩,
   ⟨some 8, .load false 1 (.t 7), some (6, false)⟩,
   ⟨some 9, .mv (.t 8), some (6, false)⟩,
   ⟨some 10, .faddr 1 (.t 1), some (9, true)⟩,
   ⟨some 11, .load false 1 (.t 10), some (9, true)⟩,
   ⟨some 12, .bin .neq (.t 11) (.c (.str [])), some (9, true)⟩,
   ⟨some 13, .pick (.t 9) (.t 12) (.c (.bool false)), some (6, false)⟩,
   ⟨some 14, .pick (.t 6) (.c (.bool true)) (.t 13), none⟩])
 (.cond (.t 14)
  (.seq (.region [⟨some 2, .mv (.c (.int .i64 3)), none⟩])
  .ret)
  .skip))
 (.seq (.seq (.region [⟨some 15, .faddr 0 (.t 1), none⟩,
   ⟨some 16, .load false 1 (.t 15), none⟩,
   ⟨some 17, .len true (.t 16), none⟩,
   ⟨some 18, .bin .gtr (.t 17) (.c (.int .i64 60)), none⟩,
   ⟨some 19, .mv (.t 18), none⟩,
   ⟨some 20, .faddr 1 (.t 1), some (19, false)⟩,
   ⟨some 21, .load false 1 (.t 20), some (19, false)⟩,
   ⟨some 22, .len true (.t 21), some (19, false)⟩,
   ⟨some 23, .bin .gtr (.t 22) (.c (.int .i64 3000)), some (19, false)⟩,
   ⟨some 24, .pick (.t 19) (.c (.bool true)) (.t 23), none⟩])
 (.cond (.t 24)
  (.seq (.region [⟨some 2, .mv (.c (.int .i64 2)), none⟩])
  .ret)
  .skip))
 (.seq (.region [⟨some 2, .mv (.c (.int .i64 0)), none⟩])
 .ret))))
def f25_lay : Lay := ⟨25, [], false⟩
def f25_res : List LRes := [.t 2]
def f25_L : LFn := ⟨1, f25_lay, f25_c0, f25_res⟩
theorem f25_low : lowFn Try.prog [] 25 = some f25_L := by kernel_rfl
theorem f25_fok : FnOk Try.prog 25 := ⟨_, Try.func25, rfl, rfl⟩
noncomputable def S_glossatorref3_CheckRecord (m : Option Nat) (a0 : G_QRecord) : Option Int :=
  if ((a0.f_Key == ([] : List UInt8)) || (a0.f_Deleted && (!(a0.f_Value == ([] : List UInt8))))) = true then
    some 3
  else
    if ((decide ((a0.f_Key.length : Int) > 60)) || (decide ((a0.f_Value.length : Int) > 3000))) = true then
      some 2
    else
      some 0

def f25_Q (a0 : G_QRecord) (o : Int) : Exit → Env → AHeap → Nat → Prop := FinK f25_res (PureEnd (.int .i64 o))

theorem f25_start {a0 : G_QRecord} {m : Option Nat} {o : Int} (h : S_glossatorref3_CheckRecord m a0 = some o) : LWp Try.prog f25_lay 0 f25_c0 (f25_Q a0 o) (initEnv 0 [.agg [.str a0.f_Key, .str a0.f_Value, .bool a0.f_Deleted]]) [] 0 := by
  unfold S_glossatorref3_CheckRecord at h
  refine seqI ?_
  refine regI ?_
  refine seqI ?_
  refine seqI ?_
  refine regI ?_
  refine And.intro (fun hp => hp) ?_
  show yops _ _ _ [(8, .cnd ((a0.f_Key == ([] : List UInt8)) == false) (.bool a0.f_Deleted)), (7, .cnd ((a0.f_Key == ([] : List UInt8)) == false) (.ptr (0, 0) 0 2)), (6, .bool (a0.f_Key == ([] : List UInt8))), (5, .bool (a0.f_Key == ([] : List UInt8))), (4, .str a0.f_Key), (3, .ptr (0, 0) 0 0), (2, .int .i64 0), (1, .ptr (0, 0) 0 0), (0, .agg [.str a0.f_Key, .str a0.f_Value, .bool a0.f_Deleted])] _ _
  refine And.intro (fun hp => hp) ?_
  refine And.intro (fun hp => hp) ?_
  refine And.intro (fun hp => hp) ?_
  refine And.intro (fun hp => (And.intro hp (fun hc => (and_i hp (bqt hc))))) ?_
  show yops _ _ _ [(13, .cnd ((a0.f_Key == ([] : List UInt8)) == false) (.bool (a0.f_Deleted && (!(a0.f_Value == ([] : List UInt8)))))), (12, .cnd (((a0.f_Key == ([] : List UInt8)) == false) && (a0.f_Deleted == true)) (.bool (!(a0.f_Value == ([] : List UInt8))))), (11, .cnd (((a0.f_Key == ([] : List UInt8)) == false) && (a0.f_Deleted == true)) (.str a0.f_Value)), (10, .cnd (((a0.f_Key == ([] : List UInt8)) == false) && (a0.f_Deleted == true)) (.ptr (0, 0) 0 1)), (9, .cnd ((a0.f_Key == ([] : List UInt8)) == false) (.bool a0.f_Deleted)), (8, .cnd ((a0.f_Key == ([] : List UInt8)) == false) (.bool a0.f_Deleted)), (7, .cnd ((a0.f_Key == ([] : List UInt8)) == false) (.ptr (0, 0) 0 2)), (6, .bool (a0.f_Key == ([] : List UInt8))), (5, .bool (a0.f_Key == ([] : List UInt8))), (4, .str a0.f_Key), (3, .ptr (0, 0) 0 0), (2, .int .i64 0), (1, .ptr (0, 0) 0 0), (0, .agg [.str a0.f_Key, .str a0.f_Value, .bool a0.f_Deleted])] _ _
  refine And.intro (fun hc => (bqf hc)) ?_
  refine LWp.sim (e := [(1, .ptr (0, 0) 0 0), (14, .bool ((a0.f_Key == ([] : List UInt8)) || (a0.f_Deleted && (!(a0.f_Value == ([] : List UInt8))))))]) (L := [((0, 0), .one [.str a0.f_Key, .str a0.f_Value, .bool a0.f_Deleted])]) (n := 1) ?_ ?_
  · exact simI (M := [((0, 0), (0, 0))]) rfl (And.intro (Vw.ptr _ _ _ _ rfl) (And.intro (Vw.same _ rfl) trivial)) (And.intro (And.intro rfl (BVw.oneL (And.intro (Vw.same _ rfl) (And.intro (Vw.same _ rfl) (And.intro (Vw.same _ rfl) trivial))))) trivial)
  refine condI (v := ((a0.f_Key == ([] : List UInt8)) || (a0.f_Deleted && (!(a0.f_Value == ([] : List UInt8)))))) rfl trivial (fun h1 => ?_) (fun h1 => ?_)
  · have h := ite_tt h1 h
    refine seqI ?_
    refine regI ?_
    refine retI ?_
    cases h
    exact And.intro trivial (And.intro rfl (Vw.same _ rfl))
  · have h := ite_ff h1 h
    refine skipI ?_
    refine seqI ?_
    refine seqI ?_
    refine regI ?_
    refine And.intro (fun hp => hp) ?_
    show yops _ _ _ [(21, .cnd ((decide ((a0.f_Key.length : Int) > 60)) == false) (.str a0.f_Value)), (20, .cnd ((decide ((a0.f_Key.length : Int) > 60)) == false) (.ptr (0, 0) 0 1)), (19, .bool (decide ((a0.f_Key.length : Int) > 60))), (18, .bool (decide ((a0.f_Key.length : Int) > 60))), (17, .int .i64 (a0.f_Key.length : Int)), (16, .str a0.f_Key), (15, .ptr (0, 0) 0 0), (1, .ptr (0, 0) 0 0), (14, .bool ((a0.f_Key == ([] : List UInt8)) || (a0.f_Deleted && (!(a0.f_Value == ([] : List UInt8))))))] _ _
    refine And.intro (fun hp => hp) ?_
    refine And.intro (fun hp => hp) ?_
    refine And.intro (fun hc => (bqf hc)) ?_
    refine LWp.sim (e := [(24, .bool ((decide ((a0.f_Key.length : Int) > 60)) || (decide ((a0.f_Value.length : Int) > 3000))))]) (L := []) (n := 0) ?_ ?_
    · exact simI (M := []) rfl (And.intro (Vw.same _ rfl) trivial) trivial
    refine condI (v := ((decide ((a0.f_Key.length : Int) > 60)) || (decide ((a0.f_Value.length : Int) > 3000)))) rfl trivial (fun h2 => ?_) (fun h2 => ?_)
    · have h := ite_tt h2 h
      refine seqI ?_
      refine regI ?_
      refine retI ?_
      cases h
      exact And.intro trivial (And.intro rfl (Vw.same _ rfl))
    · have h := ite_ff h2 h
      refine skipI ?_
      refine seqI ?_
      refine regI ?_
      refine retI ?_
      cases h
      exact And.intro trivial (And.intro rfl (Vw.same _ rfl))

theorem f25_ok {a0 : G_QRecord} {m : Option Nat} {o : Int} (h : S_glossatorref3_CheckRecord m a0 = some o) : PFn Try.prog 25 [.agg [.str a0.f_Key, .str a0.f_Value, .bool a0.f_Deleted]] (.int .i64 o) := PFn.ofFnW (L := f25_L) f25_low f25_fok (Nat.le_of_ble_eq_true rfl) rfl (f25_start h)

end Go.Proofs.Ytmbihhbfdoabbaa
