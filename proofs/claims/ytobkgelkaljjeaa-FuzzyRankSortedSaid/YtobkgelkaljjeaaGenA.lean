/-
  Own text GenA of this claim: what functions of the given program compute, in plain Lean, and the proof; no condition.
-/
import Derived.Test.YtobkgelkaljjeaaChecked
import Derived.Test.YtobkgelkaljjeaaFxN
import Derived.Test.YtobkgelkaljjeaaFxRf
import Derived.Test.YtobkgelkaljjeaaFxGr
import Derived.Test.YtobkgelkaljjeaaFxMd
import Derived.Test.YtobkgelkaljjeaaFxHo
import Derived.Test.YtobkgelkaljjeaaFxLb
import Derived.Test.YtobkgelkaljjeaaLib
import Derived.Test.YtobkgelkaljjeaaFxAb
import Derived.KernelRfl
namespace Go.Proofs.Ytobkgelkaljjeaa
open Go.Fx
set_option linter.unusedVariables false
def e_str (x : List UInt8) : List AVal := [.str x]
def e_i64 (x : Int) : List AVal := [.int .i64 x]
def e_sl_i64 (x : List Int) : List AVal := [.isl 1 (x.map e_i64) false]
theorem e_sl_i64_nid (x : List Int) : AVal.nid.nidL (e_sl_i64 x) = true := rfl
theorem e_str_ok (x : List UInt8) : AVal.nid.nidL (e_str x) = true ∧ ∀ y ∈ e_str x, y.imm = some y := ⟨rfl, by simp [e_str, AVal.imm]⟩
theorem e_i64_ok (x : Int) : AVal.nid.nidL (e_i64 x) = true ∧ ∀ y ∈ e_i64 x, y.imm = some y := ⟨rfl, by simp [e_i64, AVal.imm]⟩
theorem e_sl_i64_ok (x : List Int) : AVal.nid.nidL (e_sl_i64 x) = true ∧ ∀ y ∈ e_sl_i64 x, y.imm = some y := ⟨rfl, by simp [e_sl_i64, AVal.imm]⟩
def f21b0_c0 : LCode := (.seq (.region [⟨some 1, .box (.t 0), none⟩,
   ⟨some 2, .mv (.c (.val .nilFunc)), none⟩])
 (.seq (.region [⟨some 3, .mkfn (.func 29) [] [(.t 1)], none⟩,
   ⟨some 2, .mv (.t 3), none⟩])
 .ret))
def f21b0_lay : Lay := ⟨4, [], false⟩
def f21b0_res : List LRes := [.t 2]
def f21b0_L : LFn := ⟨1, f21b0_lay, f21b0_c0, f21b0_res⟩
theorem f21b0_low : lowFn Try.prog [] 21 = some f21b0_L := by kernel_rfl
theorem f21b0_fok : FnOk Try.prog 21 := ⟨_, Try.func21, rfl, rfl⟩
noncomputable def S_slices_Backward_int (m : Option Nat) (a0 : List (List Int)) : Option Unit :=
  some ()

def f21b0_Q (a0 : List (List Int)) (o : Unit) : Exit → Env → AHeap → Nat → Prop := FinK f21b0_res (FinTo 3 4 (.fn (.func 29) [] [.ptr (3, 0) 0 0]) [((0, 0), .rows 1 (a0.map e_sl_i64)), ((3, 0), .one [.msl (0, 0) 1 0 a0.length true])])

theorem f21b0_start {a0 : List (List Int)} {m : Option Nat} {o : Unit} (h : S_slices_Backward_int m a0 = some o) : LWp Try.prog f21b0_lay 3 f21b0_c0 (f21b0_Q a0 o) (initEnv 0 [.msl (0, 0) 1 0 a0.length true]) [((0, 0), .rows 1 (a0.map e_sl_i64))] 3 := by
  unfold S_slices_Backward_int at h
  refine seqI ?_
  refine regI ?_
  refine seqI ?_
  refine regI ?_
  refine retI ?_
  cases h
  exact AI TT (finI (n' := 4) [((3, 0), (3, 0))] [] rfl rfl (Vw.fnL TT (AI (Vw.ptr _ _ _ _ rfl) TT)) (AI (AI rfl (BVw.enc e_sl_i64 (fun _ => rfl) _ a0)) (AI (AI rfl (BVw.oneL (AI (Vw.mslE rfl (by first | rfl | omega | (simp; done) | (simp at *; omega)) rfl) TT))) TT)))

theorem f21b0_ok {a0 : List (List Int)} {m : Option Nat} {o : Unit} (h : S_slices_Backward_int m a0 = some o) : ACalls Try.prog 21 [.msl (0, 0) 1 0 a0.length true] [((0, 0), .rows 1 (a0.map e_sl_i64))] 3 (Gives 4 (.fn (.func 29) [] [.ptr (3, 0) 0 0]) [((0, 0), .rows 1 (a0.map e_sl_i64)), ((3, 0), .one [.msl (0, 0) 1 0 a0.length true])]) := bfn_of (L := f21b0_L) f21b0_low f21b0_fok (NB rfl) (f21b0_start h)

def RND0_a : LCode := (.region [⟨some 6, .mv (.t 14), none⟩])
def RND0_b : LCode := (.block 1
  (.seq (.draw [⟨⟨some 16, .load false 1 (.t 5), none⟩, []⟩,
    ⟨⟨some 17, .mv (.t 6), none⟩, []⟩,
    ⟨⟨some 19, .load false 1 (.t 3), none⟩, []⟩,
    ⟨⟨some 20, .len true (.t 19), none⟩, []⟩,
    ⟨⟨some 18, .mkSl true 1 [(.int .i64 0)] 1 [(0, (.c (.int .i64 (-1))))], none⟩, []⟩,
    ⟨⟨some 21, .call 22 [(.t 18), (.t 20)], none⟩, [0]⟩,
    ⟨⟨some 22, .iaddr 1 (.t 16) (.t 17), none⟩, []⟩,
    ⟨⟨none, .store 1 (.t 22) (.t 21), none⟩, []⟩])
  (.seq (.region [⟨some 23, .load false 1 (.t 3), none⟩,
    ⟨some 24, .len true (.t 23), none⟩,
    ⟨some 25, .mv (.c (.int .i64 0)), none⟩])
  (.block 2
   (.loop
    (.seq (.region [⟨some 26, .bin .lss (.t 25) (.t 24), none⟩])
    (.seq (.cond (.t 26)
     .skip
     (.exit 2))
    (.seq (.block 3
     (.seq (.region [⟨some 27, .mv (.t 25), none⟩,
       ⟨some 7, .mv (.t 27), none⟩])
     (.seq (.seq (.draw [⟨⟨some 28, .load false 1 (.t 2), none⟩, []⟩,
       ⟨⟨some 29, .mv (.t 6), none⟩, []⟩,
       ⟨⟨some 30, .idxS (.t 28) (.t 29), none⟩, []⟩,
       ⟨⟨some 31, .load false 1 (.t 3), none⟩, []⟩,
       ⟨⟨some 32, .mv (.t 7), none⟩, []⟩,
       ⟨⟨some 33, .idxS (.t 31) (.t 32), none⟩, []⟩,
       ⟨⟨some 34, .call 9 [(.t 30), (.t 33)], none⟩, []⟩,
       ⟨⟨some 35, .un .not (.t 34), none⟩, []⟩])
     (.cond (.t 35)
      (.exit 3)
      .skip))
     (.seq (.region [⟨some 8, .mv (.c (.int .i64 0)), none⟩])
     (.seq (.seq (.region [⟨some 36, .mv (.t 6), none⟩,
       ⟨some 37, .bin .add (.t 36) (.c (.int .i64 1)), none⟩,
       ⟨some 38, .load false 1 (.t 2), none⟩,
       ⟨some 39, .len true (.t 38), none⟩,
       ⟨some 40, .bin .lss (.t 37) (.t 39), none⟩])
     (.cond (.t 40)
      (.region [⟨some 42, .load false 1 (.t 5), none⟩,
        ⟨some 43, .mv (.t 6), none⟩,
        ⟨some 44, .bin .add (.t 43) (.c (.int .i64 1)), none⟩,
        ⟨some 45, .iaddr 1 (.t 42) (.t 44), none⟩,
        ⟨some 46, .load false 1 (.t 45), none⟩,
        ⟨some 47, .mv (.t 7), none⟩,
        ⟨some 48, .call 12 [(.t 46), (.t 47)], none⟩,
        ⟨some 41, .mv (.t 48), none⟩,
        ⟨some 49, .ext 0 (.t 41), none⟩,
        ⟨some 50, .ext 1 (.t 41), none⟩,
        ⟨some 8, .mv (.t 49), none⟩])
      .skip))
     (.seq (.region [⟨some 51, .mv (.t 8), none⟩,
       ⟨some 52, .bin .neq (.t 51) (.c (.int .i64 (-1))), none⟩])
     (.cond (.t 52)
      (.draw [⟨⟨some 53, .load false 1 (.t 5), none⟩, []⟩,
        ⟨⟨some 54, .mv (.t 6), none⟩, []⟩,
        ⟨⟨some 55, .iaddr 1 (.t 53) (.t 54), none⟩, []⟩,
        ⟨⟨some 56, .load false 1 (.t 55), none⟩, []⟩,
        ⟨⟨some 57, .mv (.t 7), none⟩, []⟩,
        ⟨⟨some 58, .load false 1 (.t 2), none⟩, []⟩,
        ⟨⟨some 59, .mv (.t 6), none⟩, []⟩,
        ⟨⟨some 60, .idxS (.t 58) (.t 59), none⟩, []⟩,
        ⟨⟨some 61, .load false 1 (.t 3), none⟩, []⟩,
        ⟨⟨some 62, .mv (.t 7), none⟩, []⟩,
        ⟨⟨some 64, .mv (.t 8), none⟩, []⟩,
        ⟨⟨some 63, .call 23 [(.t 60), (.t 61), (.t 62)], none⟩, [0, 3]⟩,
        ⟨⟨some 65, .bin .add (.t 63) (.t 64), none⟩, []⟩,
        ⟨⟨some 66, .iaddr 1 (.t 56) (.t 57), none⟩, []⟩,
        ⟨⟨none, .store 1 (.t 66) (.t 65), none⟩, []⟩])
      .skip)))))))
    (.region [⟨some 67, .bin .add (.t 25) (.c (.int .i64 1)), none⟩,
      ⟨some 25, .mv (.t 67), none⟩])))))))))
def RND0_R (r : Loop) : Prop := RecOf Try.prog ⟨69, [11], false⟩ [14, 15] RND0_a RND0_b r

def f36_c0 : LCode := (.seq (.region [⟨some 4, .mv (.c (.int .u64 0)), none⟩,
   ⟨some 5, .mv (.c (.int .u64 0)), none⟩])
 (.seq (.region [⟨some 14, .mv (.t 0), none⟩,
   ⟨some 15, .bin .and (.t 14) (.c (.int .u64 4294967295)), none⟩,
   ⟨some 6, .mv (.t 15), none⟩])
 (.seq (.region [⟨some 16, .mv (.t 0), none⟩,
   ⟨some 17, .bin .shr (.t 16) (.c (.int .u64 32)), none⟩,
   ⟨some 7, .mv (.t 17), none⟩])
 (.seq (.region [⟨some 18, .mv (.t 1), none⟩,
   ⟨some 19, .bin .and (.t 18) (.c (.int .u64 4294967295)), none⟩,
   ⟨some 8, .mv (.t 19), none⟩])
 (.seq (.region [⟨some 20, .mv (.t 1), none⟩,
   ⟨some 21, .bin .shr (.t 20) (.c (.int .u64 32)), none⟩,
   ⟨some 9, .mv (.t 21), none⟩])
 (.seq (.region [⟨some 22, .mv (.t 6), none⟩,
   ⟨some 23, .mv (.t 8), none⟩,
   ⟨some 24, .bin .mul (.t 22) (.t 23), none⟩,
   ⟨some 10, .mv (.t 24), none⟩])
 (.seq (.region [⟨some 25, .mv (.t 7), none⟩,
   ⟨some 26, .mv (.t 8), none⟩,
   ⟨some 27, .bin .mul (.t 25) (.t 26), none⟩,
   ⟨some 28, .mv (.t 10), none⟩,
   ⟨some 29, .bin .shr (.t 28) (.c (.int .u64 32)), none⟩,
   ⟨some 30, .bin .add (.t 27) (.t 29), none⟩,
   ⟨some 11, .mv (.t 30), none⟩])
 (.seq (.region [⟨some 31, .mv (.t 11), none⟩,
   ⟨some 32, .bin .and (.t 31) (.c (.int .u64 4294967295)), none⟩,
   ⟨some 12, .mv (.t 32), none⟩])
 (.seq (.region [⟨some 33, .mv (.t 11), none⟩,
   ⟨some 34, .bin .shr (.t 33) (.c (.int .u64 32)), none⟩,
   ⟨some 13, .mv (.t 34), none⟩])
 (.seq (.region [⟨some 35, .mv (.t 12), none⟩,
   ⟨some 36, .mv (.t 6), none⟩,
   ⟨some 37, .mv (.t 9), none⟩,
   ⟨some 38, .bin .mul (.t 36) (.t 37), none⟩,
   ⟨some 39, .bin .add (.t 35) (.t 38), none⟩,
   ⟨some 12, .mv (.t 39), none⟩])
 (.seq (.region [⟨some 40, .mv (.t 7), none⟩,
   ⟨some 41, .mv (.t 9), none⟩,
   ⟨some 42, .bin .mul (.t 40) (.t 41), none⟩,
   ⟨some 43, .mv (.t 13), none⟩,
   ⟨some 44, .bin .add (.t 42) (.t 43), none⟩,
   ⟨some 45, .mv (.t 12), none⟩,
   ⟨some 46, .bin .shr (.t 45) (.c (.int .u64 32)), none⟩,
   ⟨some 47, .bin .add (.t 44) (.t 46), none⟩,
   ⟨some 4, .mv (.t 47), none⟩])
 (.seq (.region [⟨some 48, .mv (.t 0), none⟩,
   ⟨some 49, .mv (.t 1), none⟩,
   ⟨some 50, .bin .mul (.t 48) (.t 49), none⟩,
   ⟨some 5, .mv (.t 50), none⟩])
 .ret))))))))))))
def f36_lay : Lay := ⟨51, [], false⟩
def f36_res : List LRes := [.t 4, .t 5]
def f36_L : LFn := ⟨2, f36_lay, f36_c0, f36_res⟩
theorem f36_low : lowFn Try.prog [] 36 = some f36_L := by kernel_rfl
theorem f36_fok : FnOk Try.prog 36 := ⟨_, Try.func36, rfl, rfl⟩
noncomputable def S_bits_Mul64 (m : Option Nat) (a0 : Int) (a1 : Int) : Option (Int × Int) :=
  some ((IntKind.wrap .u64 ((IntKind.wrap .u64 ((IntKind.wrap .u64 ((a0.fdiv (2 ^ (min (32 : Int).toNat (IntKind.bits .u64)))) * (a1.fdiv (2 ^ (min (32 : Int).toNat (IntKind.bits .u64)))))) + ((IntKind.wrap .u64 ((IntKind.wrap .u64 ((a0.fdiv (2 ^ (min (32 : Int).toNat (IntKind.bits .u64)))) * (ibits .and .u64 a1 4294967295))) + ((IntKind.wrap .u64 ((ibits .and .u64 a0 4294967295) * (ibits .and .u64 a1 4294967295))).fdiv (2 ^ (min (32 : Int).toNat (IntKind.bits .u64)))))).fdiv (2 ^ (min (32 : Int).toNat (IntKind.bits .u64)))))) + ((IntKind.wrap .u64 ((ibits .and .u64 (IntKind.wrap .u64 ((IntKind.wrap .u64 ((a0.fdiv (2 ^ (min (32 : Int).toNat (IntKind.bits .u64)))) * (ibits .and .u64 a1 4294967295))) + ((IntKind.wrap .u64 ((ibits .and .u64 a0 4294967295) * (ibits .and .u64 a1 4294967295))).fdiv (2 ^ (min (32 : Int).toNat (IntKind.bits .u64)))))) 4294967295) + (IntKind.wrap .u64 ((ibits .and .u64 a0 4294967295) * (a1.fdiv (2 ^ (min (32 : Int).toNat (IntKind.bits .u64)))))))).fdiv (2 ^ (min (32 : Int).toNat (IntKind.bits .u64)))))), (IntKind.wrap .u64 (a0 * a1)))

def f36_Q (a0 : Int) (a1 : Int) (o : Int × Int) : Exit → Env → AHeap → Nat → Prop := FinK f36_res (PureEnd (.tup [.int .u64 o.1, .int .u64 o.2]))

theorem f36_start {a0 : Int} {a1 : Int} {m : Option Nat} {o : Int × Int} (h : S_bits_Mul64 m a0 a1 = some o) : LWp Try.prog f36_lay 0 f36_c0 (f36_Q a0 a1 o) (initEnv 0 [.int .u64 a0, .int .u64 a1]) [] 0 := by
  unfold S_bits_Mul64 at h
  refine seqI ?_
  refine regI ?_
  refine seqI ?_
  refine regI ?_
  refine seqI ?_
  refine regI ?_
  refine AI (by decide) ?_
  refine LWp.sim (e := [(0, .int .u64 a0), (1, .int .u64 a1), (6, .int .u64 (ibits .and .u64 a0 4294967295)), (7, .int .u64 (a0.fdiv (2 ^ (min (32 : Int).toNat (IntKind.bits .u64)))))]) (L := []) (n := 0) ?_ ?_
  · exact simI (M := []) rfl (AI (VS rfl) (AI (VS rfl) (AI (VS rfl) (AI (VS rfl) TT)))) TT
  refine seqI ?_
  refine regI ?_
  refine seqI ?_
  refine regI ?_
  refine AI (by decide) ?_
  refine seqI ?_
  refine regI ?_
  refine LWp.sim (e := [(0, .int .u64 a0), (1, .int .u64 a1), (6, .int .u64 (ibits .and .u64 a0 4294967295)), (7, .int .u64 (a0.fdiv (2 ^ (min (32 : Int).toNat (IntKind.bits .u64))))), (8, .int .u64 (ibits .and .u64 a1 4294967295)), (9, .int .u64 (a1.fdiv (2 ^ (min (32 : Int).toNat (IntKind.bits .u64))))), (10, .int .u64 (IntKind.wrap .u64 ((ibits .and .u64 a0 4294967295) * (ibits .and .u64 a1 4294967295))))]) (L := []) (n := 0) ?_ ?_
  · exact simI (M := []) rfl (AI (VS rfl) (AI (VS rfl) (AI (VS rfl) (AI (VS rfl) (AI (VS rfl) (AI (VS rfl) (AI (VS rfl) TT))))))) TT
  refine seqI ?_
  refine regI ?_
  refine AI (by decide) ?_
  refine seqI ?_
  refine regI ?_
  refine LWp.sim (e := [(0, .int .u64 a0), (1, .int .u64 a1), (6, .int .u64 (ibits .and .u64 a0 4294967295)), (7, .int .u64 (a0.fdiv (2 ^ (min (32 : Int).toNat (IntKind.bits .u64))))), (9, .int .u64 (a1.fdiv (2 ^ (min (32 : Int).toNat (IntKind.bits .u64))))), (11, .int .u64 (IntKind.wrap .u64 ((IntKind.wrap .u64 ((a0.fdiv (2 ^ (min (32 : Int).toNat (IntKind.bits .u64)))) * (ibits .and .u64 a1 4294967295))) + ((IntKind.wrap .u64 ((ibits .and .u64 a0 4294967295) * (ibits .and .u64 a1 4294967295))).fdiv (2 ^ (min (32 : Int).toNat (IntKind.bits .u64))))))), (12, .int .u64 (ibits .and .u64 (IntKind.wrap .u64 ((IntKind.wrap .u64 ((a0.fdiv (2 ^ (min (32 : Int).toNat (IntKind.bits .u64)))) * (ibits .and .u64 a1 4294967295))) + ((IntKind.wrap .u64 ((ibits .and .u64 a0 4294967295) * (ibits .and .u64 a1 4294967295))).fdiv (2 ^ (min (32 : Int).toNat (IntKind.bits .u64)))))) 4294967295))]) (L := []) (n := 0) ?_ ?_
  · exact simI (M := []) rfl (AI (VS rfl) (AI (VS rfl) (AI (VS rfl) (AI (VS rfl) (AI (VS rfl) (AI (VS rfl) (AI (VS rfl) TT))))))) TT
  refine seqI ?_
  refine regI ?_
  refine AI (by decide) ?_
  refine seqI ?_
  refine regI ?_
  refine LWp.sim (e := [(0, .int .u64 a0), (1, .int .u64 a1), (7, .int .u64 (a0.fdiv (2 ^ (min (32 : Int).toNat (IntKind.bits .u64))))), (9, .int .u64 (a1.fdiv (2 ^ (min (32 : Int).toNat (IntKind.bits .u64))))), (12, .int .u64 (IntKind.wrap .u64 ((ibits .and .u64 (IntKind.wrap .u64 ((IntKind.wrap .u64 ((a0.fdiv (2 ^ (min (32 : Int).toNat (IntKind.bits .u64)))) * (ibits .and .u64 a1 4294967295))) + ((IntKind.wrap .u64 ((ibits .and .u64 a0 4294967295) * (ibits .and .u64 a1 4294967295))).fdiv (2 ^ (min (32 : Int).toNat (IntKind.bits .u64)))))) 4294967295) + (IntKind.wrap .u64 ((ibits .and .u64 a0 4294967295) * (a1.fdiv (2 ^ (min (32 : Int).toNat (IntKind.bits .u64))))))))), (13, .int .u64 ((IntKind.wrap .u64 ((IntKind.wrap .u64 ((a0.fdiv (2 ^ (min (32 : Int).toNat (IntKind.bits .u64)))) * (ibits .and .u64 a1 4294967295))) + ((IntKind.wrap .u64 ((ibits .and .u64 a0 4294967295) * (ibits .and .u64 a1 4294967295))).fdiv (2 ^ (min (32 : Int).toNat (IntKind.bits .u64)))))).fdiv (2 ^ (min (32 : Int).toNat (IntKind.bits .u64)))))]) (L := []) (n := 0) ?_ ?_
  · exact simI (M := []) rfl (AI (VS rfl) (AI (VS rfl) (AI (VS rfl) (AI (VS rfl) (AI (VS rfl) (AI (VS rfl) TT)))))) TT
  refine seqI ?_
  refine regI ?_
  refine AI (by decide) ?_
  refine LWp.sim (e := [(0, .int .u64 a0), (1, .int .u64 a1), (4, .int .u64 (IntKind.wrap .u64 ((IntKind.wrap .u64 ((IntKind.wrap .u64 ((a0.fdiv (2 ^ (min (32 : Int).toNat (IntKind.bits .u64)))) * (a1.fdiv (2 ^ (min (32 : Int).toNat (IntKind.bits .u64)))))) + ((IntKind.wrap .u64 ((IntKind.wrap .u64 ((a0.fdiv (2 ^ (min (32 : Int).toNat (IntKind.bits .u64)))) * (ibits .and .u64 a1 4294967295))) + ((IntKind.wrap .u64 ((ibits .and .u64 a0 4294967295) * (ibits .and .u64 a1 4294967295))).fdiv (2 ^ (min (32 : Int).toNat (IntKind.bits .u64)))))).fdiv (2 ^ (min (32 : Int).toNat (IntKind.bits .u64)))))) + ((IntKind.wrap .u64 ((ibits .and .u64 (IntKind.wrap .u64 ((IntKind.wrap .u64 ((a0.fdiv (2 ^ (min (32 : Int).toNat (IntKind.bits .u64)))) * (ibits .and .u64 a1 4294967295))) + ((IntKind.wrap .u64 ((ibits .and .u64 a0 4294967295) * (ibits .and .u64 a1 4294967295))).fdiv (2 ^ (min (32 : Int).toNat (IntKind.bits .u64)))))) 4294967295) + (IntKind.wrap .u64 ((ibits .and .u64 a0 4294967295) * (a1.fdiv (2 ^ (min (32 : Int).toNat (IntKind.bits .u64)))))))).fdiv (2 ^ (min (32 : Int).toNat (IntKind.bits .u64)))))))]) (L := []) (n := 0) ?_ ?_
  · exact simI (M := []) rfl (AI (VS rfl) (AI (VS rfl) (AI (VS rfl) TT))) TT
  refine seqI ?_
  refine regI ?_
  refine retI ?_
  cases h
  exact AI TT (AI TT (AI rfl (VS rfl)))

theorem f36_ok {a0 : Int} {a1 : Int} {m : Option Nat} {o : Int × Int} (h : S_bits_Mul64 m a0 a1 = some o) : PFn Try.prog 36 [.int .u64 a0, .int .u64 a1] (.tup [.int .u64 o.1, .int .u64 o.2]) := PFn.ofFnW (L := f36_L) f36_low f36_fok (NB rfl) rfl (f36_start h)

def f30_c0 : LCode := (.seq (.region [⟨some 4, .mv (.c (.int .u64 0)), none⟩,
   ⟨some 5, .mv (.c (.int .u64 0)), none⟩])
 (.seq (.cond (.c (.bool false))
  (.seq (.region [⟨some 11, .mv (.t 0), none⟩,
    ⟨some 12, .conv (.int .u32) (.t 11), none⟩,
    ⟨some 13, .mv (.t 1), none⟩,
    ⟨some 14, .conv (.int .u32) (.t 13), none⟩,
    ⟨some 15, .call 35 [(.t 12), (.t 14)], none⟩,
    ⟨some 10, .mv (.t 15), none⟩,
    ⟨some 16, .ext 0 (.t 10), none⟩,
    ⟨some 17, .ext 1 (.t 10), none⟩,
    ⟨some 6, .mv (.t 16), none⟩,
    ⟨some 7, .mv (.t 17), none⟩])
  (.seq (.region [⟨some 18, .mv (.t 6), none⟩,
    ⟨some 19, .conv (.int .u64) (.t 18), none⟩,
    ⟨some 20, .mv (.t 7), none⟩,
    ⟨some 21, .conv (.int .u64) (.t 20), none⟩,
    ⟨some 4, .mv (.t 19), none⟩,
    ⟨some 5, .mv (.t 21), none⟩])
  .ret))
  .skip)
 (.seq (.region [⟨some 23, .mv (.t 0), none⟩,
   ⟨some 24, .mv (.t 1), none⟩,
   ⟨some 25, .call 36 [(.t 23), (.t 24)], none⟩,
   ⟨some 22, .mv (.t 25), none⟩,
   ⟨some 26, .ext 0 (.t 22), none⟩,
   ⟨some 27, .ext 1 (.t 22), none⟩,
   ⟨some 8, .mv (.t 26), none⟩,
   ⟨some 9, .mv (.t 27), none⟩])
 (.seq (.region [⟨some 28, .mv (.t 8), none⟩,
   ⟨some 29, .mv (.t 9), none⟩,
   ⟨some 4, .mv (.t 28), none⟩,
   ⟨some 5, .mv (.t 29), none⟩])
 .ret))))
def f30_lay : Lay := ⟨30, [], false⟩
def f30_res : List LRes := [.t 4, .t 5]
def f30_L : LFn := ⟨2, f30_lay, f30_c0, f30_res⟩
theorem f30_low : lowFn Try.prog [] 30 = some f30_L := by kernel_rfl
theorem f30_fok : FnOk Try.prog 30 := ⟨_, Try.func30, rfl, rfl⟩
noncomputable def S_bits_Mul (m : Option Nat) (a0 : Int) (a1 : Int) : Option (Int × Int) :=
  (S_bits_Mul64 m a0 a1).bind fun v1 =>
  some (v1.1, v1.2)

def f30_Q (a0 : Int) (a1 : Int) (o : Int × Int) : Exit → Env → AHeap → Nat → Prop := FinK f30_res (PureEnd (.tup [.int .u64 o.1, .int .u64 o.2]))

theorem f30_start {a0 : Int} {a1 : Int} {m : Option Nat} {o : Int × Int} (h : S_bits_Mul m a0 a1 = some o) : LWp Try.prog f30_lay 0 f30_c0 (f30_Q a0 a1 o) (initEnv 0 [.int .u64 a0, .int .u64 a1]) [] 0 := by
  unfold S_bits_Mul at h
  refine seqI ?_
  refine regI ?_
  refine seqI ?_
  refine condI (v := false) rfl TT (fun hc => Bool.noConfusion hc) (fun hc => ?_)
  refine skipI ?_
  refine seqI ?_
  refine regI ?_
  obtain ⟨v1, h1, h⟩ := bind_some h
  refine PFn.call (f36_ok h1) (AI (VS rfl) (AI (VS rfl) TT)) ?_
  refine LWp.sim (e := [(8, .int .u64 v1.1), (9, .int .u64 v1.2)]) (L := []) (n := 0) ?_ ?_
  · exact simI (M := []) rfl (AI (VS rfl) (AI (VS rfl) TT)) TT
  refine seqI ?_
  refine regI ?_
  refine retI ?_
  cases h
  exact AI TT (AI TT (AI rfl (VS rfl)))

theorem f30_ok {a0 : Int} {a1 : Int} {m : Option Nat} {o : Int × Int} (h : S_bits_Mul m a0 a1 = some o) : PFn Try.prog 30 [.int .u64 a0, .int .u64 a1] (.tup [.int .u64 o.1, .int .u64 o.2]) := PFn.ofFnW (L := f30_L) f30_low f30_fok (NB rfl) rfl (f30_start h)

def f22b0_c1 : LCode := (.seq (.seq (.region [⟨some 34, .mv (.t 8), none⟩,
   ⟨some 35, .mv (.t 7), none⟩,
   ⟨some 36, .len false (.t 35), none⟩,
   ⟨some 37, .bin .lss (.t 34) (.t 36), none⟩])
 (.cond (.t 37)
  .skip
  (.exit 0)))
 (.block 1
  (.draw [⟨⟨some 38, .mv (.t 8), none⟩, []⟩,
    ⟨⟨some 39, .mv (.t 7), none⟩, []⟩,
    ⟨⟨some 40, .mv (.t 8), none⟩, []⟩,
    ⟨⟨some 41, .slSl 1 (.t 39) (some (.t 40)) none none, none⟩, []⟩,
    ⟨⟨some 42, .mv (.t 7), none⟩, []⟩,
    ⟨⟨some 43, .mv (.t 8), none⟩, []⟩,
    ⟨⟨some 44, .slSl 1 (.t 42) none (some (.t 43)) none, none⟩, []⟩,
    ⟨⟨some 45, .copy 1 (.t 41) (.t 44), none⟩, []⟩,
    ⟨⟨some 46, .bin .add (.t 38) (.t 45), none⟩, []⟩,
    ⟨⟨some 8, .mv (.t 46), none⟩, []⟩])))
def f22b0_c0 : LCode := (.seq (.region [⟨some 47, .mv (.t 7), none⟩,
   ⟨some 4, .mv (.t 47), none⟩])
 .ret)
def f22b0_c2 : LCode := (.seq (.region [⟨some 28, .mv (.t 6), none⟩,
   ⟨some 29, .conv (.int .i64) (.t 28), none⟩,
   ⟨some 30, .mkslice false 1 8 [(.int .i64 0)] (.t 29) (.t 29), none⟩,
   ⟨some 7, .mv (.t 30), none⟩])
 (.seq (.region [⟨some 31, .mv (.t 7), none⟩,
   ⟨some 32, .mv (.t 0), none⟩,
   ⟨some 33, .copy 1 (.t 31) (.t 32), none⟩,
   ⟨some 8, .mv (.t 33), none⟩])
 (.seq (.block 0
  (.loop
   f22b0_c1))
 f22b0_c0)))
def f22b0_c3 : LCode := (.seq (.region [⟨some 13, .mv (.t 0), none⟩,
   ⟨some 14, .len false (.t 13), none⟩,
   ⟨some 15, .conv (.int .u64) (.t 14), none⟩,
   ⟨some 16, .mv (.t 1), none⟩,
   ⟨some 17, .conv (.int .u64) (.t 16), none⟩,
   ⟨some 18, .call 30 [(.t 15), (.t 17)], none⟩,
   ⟨some 12, .mv (.t 18), none⟩,
   ⟨some 19, .ext 0 (.t 12), none⟩,
   ⟨some 20, .ext 1 (.t 12), none⟩,
   ⟨some 5, .mv (.t 19), none⟩,
   ⟨some 6, .mv (.t 20), none⟩])
 (.seq (.seq (.region [⟨some 21, .mv (.t 5), none⟩,
   ⟨some 22, .bin .gtr (.t 21) (.c (.int .u64 0)), none⟩,
   ⟨some 23, .mv (.t 22), none⟩,
   ⟨some 24, .mv (.t 6), some (23, false)⟩,
   ⟨some 25, .bin .gtr (.t 24) (.c (.int .u64 9223372036854775807)), some (23, false)⟩,
   ⟨some 26, .pick (.t 23) (.c (.bool true)) (.t 25), none⟩])
 (.cond (.t 26)
  (.region [⟨some 27, .bad, none⟩,
    ⟨none, .bad, none⟩])
  .skip))
 f22b0_c2))
def f22b0_c4 : LCode := (.seq (.region [⟨some 4, .mv (.c (.val (.slice none 0 0))), none⟩])
 (.seq (.seq (.region [⟨some 9, .mv (.t 1), none⟩,
   ⟨some 10, .bin .lss (.t 9) (.c (.int .i64 0)), none⟩])
 (.cond (.t 10)
  (.region [⟨some 11, .bad, none⟩,
    ⟨none, .bad, none⟩])
  .skip))
 f22b0_c3))
def f22b0_lay : Lay := ⟨48, [30], false⟩
def f22b0_res : List LRes := [.t 4]
def f22b0_L : LFn := ⟨2, f22b0_lay, f22b0_c4, f22b0_res⟩
theorem f22b0_low : lowFn Try.prog [30] 22 = some f22b0_L := by kernel_rfl
theorem f22b0_fok : FnOk Try.prog 22 := ⟨_, Try.func22, rfl, rfl⟩
def f22b0_Q (a0 : List Int) (a1 : Int) (o : (List Int)) : Exit → Env → AHeap → Nat → Prop := FinK f22b0_res (FinTo 3 4 (.msl (3, 0) 1 0 o.length true) [((3, 0), .rows 1 (o.map e_i64))])

def f22b0_L1_env (s : (Int × (List Int))) : Env := [(7, .msl (3, 0) 1 0 s.2.length true), (8, .int .i64 s.1)]
def f22b0_L1_hp (s : (Int × (List Int))) : AHeap := [((3, 0), .rows 1 (s.2.map e_i64))]
def f22b0_L1_Q (a0 : List Int) (a1 : Int) (o : (List Int)) : Exit → Env → AHeap → Nat → Prop := (QBlock 0 (QSeq Try.prog f22b0_lay 3 f22b0_c0 (f22b0_Q a0 a1 o)))

noncomputable def S_slices_Repeat_int_j3 (m : Option Nat) (v3 : List Int) : Option (List Int) :=
  some v3

noncomputable def S_slices_Repeat_int_b1 (m : Option Nat) (v2 : Int) (v3 : List Int) : Option ((Int × (List Int)) ⊕ (List Int)) :=
  if (decide (v2 < ((v3.length : Nat) : Int))) = true then
    if (0 : Int) ≤ v2 ∧ v2 ≤ ((v3.length : Nat) : Int) then
    if (0 : Int) ≤ v2 ∧ v2 ≤ ((v3.length : Nat) : Int) then
    if 0 + v2.toNat ≤ (v3.map e_i64).length then
    if (0 + v2.toNat) + (v3.length - v2.toNat) ≤ (v3.map e_i64).length then
    if (v3.take (0 + v2.toNat) ++ ((v3.drop 0).take v2.toNat).take (v3.length - v2.toNat) ++ v3.drop ((0 + v2.toNat) + min ((v3.drop 0).take v2.toNat).length (v3.length - v2.toNat))).length = v3.length then
    some (.inl ((W (v2 + ((min (((v3.map e_i64).drop 0).take v2.toNat).length (v3.length - v2.toNat) : Nat) : Int))), (v3.take (0 + v2.toNat) ++ ((v3.drop 0).take v2.toNat).take (v3.length - v2.toNat) ++ v3.drop ((0 + v2.toNat) + min ((v3.drop 0).take v2.toNat).length (v3.length - v2.toNat)))))
    else none
    else none
    else none
    else none
    else none
  else
    Option.map Sum.inr (
      S_slices_Repeat_int_j3 m v3)

noncomputable def S_slices_Repeat_int_l1 (m : Option Nat) (v2 : Int) (v3 : List Int) : Option (List Int) := loopM m (fun (s : (Int × (List Int))) => S_slices_Repeat_int_b1 m s.1 s.2) (v2, v3)

theorem f22b0_j3_ok {a0 : List Int} {a1 : Int} {v3 : List Int} {m : Option Nat} {o : (List Int)} (h : S_slices_Repeat_int_j3 m v3 = some o) :
    LWp Try.prog f22b0_lay 3 f22b0_c0 (f22b0_Q a0 a1 o) [(7, .msl (3, 0) 1 0 v3.length true)] [((3, 0), .rows 1 (v3.map e_i64))] 4 := by
  unfold S_slices_Repeat_int_j3 at h
  refine seqI ?_
  refine regI ?_
  refine retI ?_
  cases h
  exact AI TT (finI (n' := 4) [((3, 0), (3, 0))] [] rfl rfl (Vw.mslE rfl (by first | rfl | omega | (simp; done) | (simp at *; omega)) rfl) (AI (AI rfl (BVw.enc e_i64 (fun _ => rfl) _ v3)) TT))

theorem f22b0_L1_bok {a0 : List Int} {a1 : Int} {v2 : Int} {v3 : List Int} {m : Option Nat} {o : (Int × (List Int)) ⊕ (List Int)} (h : S_slices_Repeat_int_b1 m v2 v3 = some o) :
    LWp Try.prog f22b0_lay 3 f22b0_c1 (BodyQ 3 4 (f22b0_L1_env) (f22b0_L1_hp) (f22b0_L1_Q a0 a1) o) [(7, .msl (3, 0) 1 0 v3.length true), (8, .int .i64 v2)] [((3, 0), .rows 1 (v3.map e_i64))] 4 := by
  unfold S_slices_Repeat_int_b1 at h
  refine seqI ?_
  refine seqI ?_
  refine regI ?_
  refine condI (v := (decide (v2 < ((v3.length : Nat) : Int)))) rfl TT (fun h19 => ?_) (fun h19 => ?_)
  · have h := ite_tt h19 h
    refine skipI ?_
    refine blockI ?_
    refine drawO rfl ?_
    obtain ⟨h20, h⟩ := ite_some h
    refine EX (.msl (3, 0) 1 (0 + v2.toNat) (v3.length - v2.toNat) true) (AI (by simp) (AI (AI rfl (AI (And.left h20) (AI (And.right h20) (Int.le_refl _)))) ?_))
    obtain ⟨h21, h⟩ := ite_some h
    refine EX (.msl (3, 0) 1 0 v2.toNat (true && decide (v2 = (v3.length : Int)))) (AI (by simp) (AI (AI rfl (AI (Int.le_refl _) h21)) ?_))
    obtain ⟨h22, h⟩ := ite_some h
    obtain ⟨h23, h⟩ := ite_some h
    refine AI h22 ?_
    refine EX ((v3.take (0 + v2.toNat) ++ ((v3.drop 0).take v2.toNat).take (v3.length - v2.toNat) ++ v3.drop ((0 + v2.toNat) + min ((v3.drop 0).take v2.toNat).length (v3.length - v2.toNat))).map e_i64) (AI (copyWM e_i64 _ _ _ _ _ _) (AI h23 ?_))
    obtain ⟨h24, h⟩ := ite_some h
    cases h
    exact AI rfl (simI (M := [((3, 0), (3, 0))]) rfl (AI (Vw.mslE rfl (by first | rfl | omega | (simp; done) | (simp at *; omega)) rfl) (AI (VS rfl) TT)) (AI (AI rfl (BVw.enc e_i64 (fun _ => rfl) _ (v3.take (0 + v2.toNat) ++ ((v3.drop 0).take v2.toNat).take (v3.length - v2.toNat) ++ v3.drop ((0 + v2.toNat) + min ((v3.drop 0).take v2.toNat).length (v3.length - v2.toNat))))) TT))
  · have h := ite_ff h19 h
    refine exitI ?_
    obtain ⟨o, hq, rfl⟩ := Option.map_eq_some_iff.1 h
    replace h := hq; clear hq
    refine AI nofun ?_
    refine LWp.sim ?_ (f22b0_j3_ok h)
    exact simI (M := [((3, 0), (3, 0))]) rfl (AI (Vw.mslE rfl (by first | rfl | omega | (simp; done) | (simp at *; omega)) rfl) TT) (AI (AI rfl (BVw.enc e_i64 (fun _ => rfl) _ v3)) TT)

theorem f22b0_L1_ok {a0 : List Int} {a1 : Int} {v2 : Int} {v3 : List Int} {m : Option Nat} {o : (List Int)} (h : S_slices_Repeat_int_l1 m v2 v3 = some o) :
    LWp Try.prog f22b0_lay 3 (.loop f22b0_c1) (QBlock 0 (QSeq Try.prog f22b0_lay 3 f22b0_c0 (f22b0_Q a0 a1 o))) [(7, .msl (3, 0) 1 0 v3.length true), (8, .int .i64 v2)] [((3, 0), .rows 1 (v3.map e_i64))] 4 :=
  LWp_loopM (m := m) (s := ((v2, v3) : (Int × (List Int)))) (r := o) (fun (s : (Int × (List Int))) => S_slices_Repeat_int_b1 m s.1 s.2) (f22b0_L1_env) (f22b0_L1_hp) (f22b0_L1_Q a0 a1) (fun s o h => f22b0_L1_bok h) h

noncomputable def S_slices_Repeat_int_j2 (m : Option Nat) (a0 : List Int) (v1 : Int × Int) : Option (List Int) :=
  if (0 : Int) ≤ (W v1.2) ∧ (W v1.2) ≤ (W v1.2) ∧ (W v1.2) * 8 ≤ 140737488355328 then
  if 0 + ((List.replicate (W v1.2).toNat 0).map e_i64).length ≤ ((List.replicate (W v1.2).toNat 0).map e_i64).length then
  if ((List.replicate (W v1.2).toNat 0).take 0 ++ a0.take (((List.replicate (W v1.2).toNat 0).map e_i64).length) ++ (List.replicate (W v1.2).toNat 0).drop (0 + min a0.length (((List.replicate (W v1.2).toNat 0).map e_i64).length))).length = (List.replicate (W v1.2).toNat 0).length then
  S_slices_Repeat_int_l1 m ((min (a0.map e_i64).length (((List.replicate (W v1.2).toNat 0).map e_i64).length) : Nat) : Int) ((List.replicate (W v1.2).toNat 0).take 0 ++ a0.take (((List.replicate (W v1.2).toNat 0).map e_i64).length) ++ (List.replicate (W v1.2).toNat 0).drop (0 + min a0.length (((List.replicate (W v1.2).toNat 0).map e_i64).length)))
  else none
  else none
  else none

theorem f22b0_j2_ok {a1 : Int} {a0 : List Int} {v1 : Int × Int} {m : Option Nat} {o : (List Int)} (h : S_slices_Repeat_int_j2 m a0 v1 = some o) :
    LWp Try.prog f22b0_lay 3 f22b0_c2 (f22b0_Q a0 a1 o) [(0, .isl 1 (a0.map e_i64) false), (6, .int .u64 v1.2)] [] 3 := by
  unfold S_slices_Repeat_int_j2 at h
  refine seqI ?_
  refine regI ?_
  obtain ⟨h4, h⟩ := ite_some h
  refine EX ((List.replicate (W v1.2).toNat 0).map e_i64) (EX true (AI (Or.inl (repl_enc e_i64 (W v1.2).toNat 0)) (AI (by simp) (AI h4 ?_))))
  refine seqI ?_
  refine regI ?_
  obtain ⟨h5, h⟩ := ite_some h
  refine EX (((List.replicate (W v1.2).toNat 0).take 0 ++ a0.take (((List.replicate (W v1.2).toNat 0).map e_i64).length) ++ (List.replicate (W v1.2).toNat 0).drop (0 + min a0.length (((List.replicate (W v1.2).toNat 0).map e_i64).length))).map e_i64) (AI (copyW e_i64 _ _ _ _) (AI h5 ?_))
  obtain ⟨h6, h⟩ := ite_some h
  refine LWp.sim (e := [(7, .msl (3, 0) 1 0 (((List.replicate (W v1.2).toNat 0).map e_i64).length) true), (8, .int .i64 ((min (a0.map e_i64).length (((List.replicate (W v1.2).toNat 0).map e_i64).length) : Nat) : Int))]) (L := [((3, 0), .rows 1 (((List.replicate (W v1.2).toNat 0).take 0 ++ a0.take (((List.replicate (W v1.2).toNat 0).map e_i64).length) ++ (List.replicate (W v1.2).toNat 0).drop (0 + min a0.length (((List.replicate (W v1.2).toNat 0).map e_i64).length))).map e_i64))]) (n := 4) ?_ ?_
  · exact simI (M := [((3, 0), (3, 0))]) rfl (AI (Vw.mslE rfl (by first | rfl | omega | (simp; done) | (simp at *; omega)) rfl) (AI (VS rfl) TT)) (AI (AI rfl (BVw.enc e_i64 (fun _ => rfl) _ ((List.replicate (W v1.2).toNat 0).take 0 ++ a0.take (((List.replicate (W v1.2).toNat 0).map e_i64).length) ++ (List.replicate (W v1.2).toNat 0).drop (0 + min a0.length (((List.replicate (W v1.2).toNat 0).map e_i64).length))))) TT)
  refine seqI ?_
  refine blockI ?_
  refine LWp.sim ?_ (f22b0_L1_ok h)
  exact simI (M := [((3, 0), (3, 0))]) rfl (AI (Vw.mslE rfl (by first | rfl | omega | (simp; done) | (simp at *; omega)) rfl) (AI (VS rfl) TT)) (AI (AI rfl (BVw.enc e_i64 (fun _ => rfl) _ ((List.replicate (W v1.2).toNat 0).take 0 ++ a0.take (((List.replicate (W v1.2).toNat 0).map e_i64).length) ++ (List.replicate (W v1.2).toNat 0).drop (0 + min a0.length (((List.replicate (W v1.2).toNat 0).map e_i64).length))))) TT)

noncomputable def S_slices_Repeat_int_j1 (m : Option Nat) (a0 : List Int) (a1 : Int) : Option (List Int) :=
  (S_bits_Mul m (IntKind.wrap .u64 ((a0.map e_i64).length : Int)) (IntKind.wrap .u64 a1)).bind fun v1 =>
  if ((decide (v1.1 > 0)) || (decide (v1.2 > 9223372036854775807))) = true then
    none
  else
    S_slices_Repeat_int_j2 m a0 v1

theorem f22b0_j1_ok {a0 : List Int} {a1 : Int} {m : Option Nat} {o : (List Int)} (h : S_slices_Repeat_int_j1 m a0 a1 = some o) :
    LWp Try.prog f22b0_lay 3 f22b0_c3 (f22b0_Q a0 a1 o) [(0, .isl 1 (a0.map e_i64) false), (1, .int .i64 a1)] [] 3 := by
  unfold S_slices_Repeat_int_j1 at h
  refine seqI ?_
  refine regI ?_
  obtain ⟨v1, h2, h⟩ := bind_some h
  refine PFn.call (f30_ok h2) (AI (VS rfl) (AI (VS rfl) TT)) ?_
  refine LWp.sim (e := [(0, .isl 1 (a0.map e_i64) false), (5, .int .u64 v1.1), (6, .int .u64 v1.2)]) (L := []) (n := 3) ?_ ?_
  · exact simI (M := []) rfl (AI (VS rfl) (AI (VS rfl) (AI (VS rfl) TT))) TT
  refine seqI ?_
  refine seqI ?_
  refine regI ?_
  refine AI (fun hp => hp) ?_
  refine AI (fun hc => (bqf hc)) ?_
  refine condI (v := ((decide (v1.1 > 0)) || (decide (v1.2 > 9223372036854775807)))) rfl TT (fun h3 => ?_) (fun h3 => ?_)
  · have h := ite_tt h3 h
    cases h
  · have h := ite_ff h3 h
    refine skipI ?_
    refine LWp.sim ?_ (f22b0_j2_ok h)
    exact simI (M := []) rfl (AI (VS rfl) (AI (VS rfl) TT)) TT

noncomputable def S_slices_Repeat_int (m : Option Nat) (a0 : List Int) (a1 : Int) : Option (List Int) :=
  if (decide (a1 < 0)) = true then
    none
  else
    S_slices_Repeat_int_j1 m a0 a1

theorem f22b0_start {a0 : List Int} {a1 : Int} {m : Option Nat} {o : (List Int)} (h : S_slices_Repeat_int m a0 a1 = some o) : LWp Try.prog f22b0_lay 3 f22b0_c4 (f22b0_Q a0 a1 o) (initEnv 0 [.isl 1 (a0.map e_i64) false, .int .i64 a1]) [] 3 := by
  unfold S_slices_Repeat_int at h
  refine seqI ?_
  refine LWp.ghost 1 ?_
  refine regI ?_
  refine LWp.sim (e := [(0, .isl 1 (a0.map e_i64) false), (1, .int .i64 a1)]) (L := []) (n := 3) ?_ ?_
  · exact simI (M := []) rfl (AI (VS rfl) (AI (VS rfl) TT)) TT
  refine seqI ?_
  refine seqI ?_
  refine regI ?_
  refine condI (v := (decide (a1 < 0))) rfl TT (fun h1 => ?_) (fun h1 => ?_)
  · have h := ite_tt h1 h
    cases h
  · have h := ite_ff h1 h
    refine skipI ?_
    refine LWp.sim ?_ (f22b0_j1_ok h)
    exact simI (M := []) rfl (AI (VS rfl) (AI (VS rfl) TT)) TT

theorem f22b0_ok {a0 : List Int} {a1 : Int} {m : Option Nat} {o : (List Int)} (h : S_slices_Repeat_int m a0 a1 = some o) : ACalls Try.prog 22 [.isl 1 (a0.map e_i64) false, .int .i64 a1] [] 3 (Gives 4 (.msl (3, 0) 1 0 o.length true) [((3, 0), .rows 1 (o.map e_i64))]) := bfn_of (L := f22b0_L) f22b0_low f22b0_fok (NB rfl) (f22b0_start h)

def f25_c0 : LCode := (.seq (.region [⟨some 2, .mv (.c (.bool false)), none⟩])
 (.seq (.region [⟨some 3, .mv (.t 0), none⟩,
   ⟨some 4, .bin .geq (.t 3) (.c (.int .u8 65)), none⟩,
   ⟨some 5, .mv (.t 4), none⟩,
   ⟨some 6, .mv (.t 0), some (5, true)⟩,
   ⟨some 7, .bin .leq (.t 6) (.c (.int .u8 90)), some (5, true)⟩,
   ⟨some 8, .pick (.t 5) (.t 7) (.c (.bool false)), none⟩,
   ⟨some 2, .mv (.t 8), none⟩])
 .ret))
def f25_lay : Lay := ⟨9, [], false⟩
def f25_res : List LRes := [.t 2]
def f25_L : LFn := ⟨1, f25_lay, f25_c0, f25_res⟩
theorem f25_low : lowFn Try.prog [] 25 = some f25_L := by kernel_rfl
theorem f25_fok : FnOk Try.prog 25 := ⟨_, Try.func25, rfl, rfl⟩
noncomputable def S_fuzzy_isUpper (m : Option Nat) (a0 : Int) : Option Bool :=
  some ((decide (a0 ≥ 65)) && (decide (a0 ≤ 90)))

def f25_Q (a0 : Int) (o : Bool) : Exit → Env → AHeap → Nat → Prop := FinK f25_res (PureEnd (.bool o))

theorem f25_start {a0 : Int} {m : Option Nat} {o : Bool} (h : S_fuzzy_isUpper m a0 = some o) : LWp Try.prog f25_lay 0 f25_c0 (f25_Q a0 o) (initEnv 0 [.int .u8 a0]) [] 0 := by
  unfold S_fuzzy_isUpper at h
  refine seqI ?_
  refine regI ?_
  refine seqI ?_
  refine regI ?_
  refine AI (fun hp => hp) ?_
  refine AI (fun hc => (bqt hc)) ?_
  refine LWp.sim (e := [(2, .bool ((decide (a0 ≥ 65)) && (decide (a0 ≤ 90))))]) (L := []) (n := 0) ?_ ?_
  · exact simI (M := []) rfl (AI (VS rfl) TT) TT
  refine retI ?_
  cases h
  exact AI TT (AI rfl (VS rfl))

theorem f25_ok {a0 : Int} {m : Option Nat} {o : Bool} (h : S_fuzzy_isUpper m a0 = some o) : PFn Try.prog 25 [.int .u8 a0] (.bool o) := PFn.ofFnW (L := f25_L) f25_low f25_fok (NB rfl) rfl (f25_start h)

def f15_c0 : LCode := (.seq (.region [⟨some 2, .mv (.c (.int .u8 0)), none⟩])
 (.seq (.seq (.region [⟨some 3, .mv (.t 0), none⟩,
   ⟨some 4, .call 25 [(.t 3)], none⟩])
 (.cond (.t 4)
  (.seq (.region [⟨some 5, .mv (.t 0), none⟩,
    ⟨some 6, .bin .add (.t 5) (.c (.int .u8 97)), none⟩,
    ⟨some 7, .bin .sub (.t 6) (.c (.int .u8 65)), none⟩,
    ⟨some 2, .mv (.t 7), none⟩])
  .ret)
  .skip))
 (.seq (.region [⟨some 8, .mv (.t 0), none⟩,
   ⟨some 2, .mv (.t 8), none⟩])
 .ret)))
def f15_lay : Lay := ⟨9, [], false⟩
def f15_res : List LRes := [.t 2]
def f15_L : LFn := ⟨1, f15_lay, f15_c0, f15_res⟩
theorem f15_low : lowFn Try.prog [] 15 = some f15_L := by kernel_rfl
theorem f15_fok : FnOk Try.prog 15 := ⟨_, Try.func15, rfl, rfl⟩
noncomputable def S_fuzzy_lower (m : Option Nat) (a0 : Int) : Option Int :=
  (S_fuzzy_isUpper m a0).bind fun v1 =>
  if v1 = true then
    some (IntKind.wrap .u8 ((IntKind.wrap .u8 (a0 + 97)) - 65))
  else
    some a0

def f15_Q (a0 : Int) (o : Int) : Exit → Env → AHeap → Nat → Prop := FinK f15_res (PureEnd (.int .u8 o))

theorem f15_start {a0 : Int} {m : Option Nat} {o : Int} (h : S_fuzzy_lower m a0 = some o) : LWp Try.prog f15_lay 0 f15_c0 (f15_Q a0 o) (initEnv 0 [.int .u8 a0]) [] 0 := by
  unfold S_fuzzy_lower at h
  refine seqI ?_
  refine regI ?_
  refine seqI ?_
  refine seqI ?_
  refine regI ?_
  obtain ⟨v1, h1, h⟩ := bind_some h
  refine PFn.call (f25_ok h1) (AI (VS rfl) TT) ?_
  refine condI (v := v1) rfl TT (fun h2 => ?_) (fun h2 => ?_)
  · have h := ite_tt h2 h
    refine seqI ?_
    refine regI ?_
    refine retI ?_
    cases h
    exact AI TT (AI rfl (VS rfl))
  · have h := ite_ff h2 h
    refine skipI ?_
    refine seqI ?_
    refine regI ?_
    refine retI ?_
    cases h
    exact AI TT (AI rfl (VS rfl))

theorem f15_ok {a0 : Int} {m : Option Nat} {o : Int} (h : S_fuzzy_lower m a0 = some o) : PFn Try.prog 15 [.int .u8 a0] (.int .u8 o) := PFn.ofFnW (L := f15_L) f15_low f15_fok (NB rfl) rfl (f15_start h)

def f9_c0 : LCode := (.seq (.region [⟨some 4, .mv (.c (.bool false)), none⟩])
 (.seq (.region [⟨some 5, .mv (.t 0), none⟩,
   ⟨some 6, .call 15 [(.t 5)], none⟩,
   ⟨some 7, .mv (.t 1), none⟩,
   ⟨some 8, .call 15 [(.t 7)], none⟩,
   ⟨some 9, .bin .eql (.t 6) (.t 8), none⟩,
   ⟨some 4, .mv (.t 9), none⟩])
 .ret))
def f9_lay : Lay := ⟨10, [], false⟩
def f9_res : List LRes := [.t 4]
def f9_L : LFn := ⟨2, f9_lay, f9_c0, f9_res⟩
theorem f9_low : lowFn Try.prog [] 9 = some f9_L := by kernel_rfl
theorem f9_fok : FnOk Try.prog 9 := ⟨_, Try.func9, rfl, rfl⟩
noncomputable def S_fuzzy_EqualFold (m : Option Nat) (a0 : Int) (a1 : Int) : Option Bool :=
  (S_fuzzy_lower m a0).bind fun v1 =>
  (S_fuzzy_lower m a1).bind fun v2 =>
  some (v1 == v2)

def f9_Q (a0 : Int) (a1 : Int) (o : Bool) : Exit → Env → AHeap → Nat → Prop := FinK f9_res (PureEnd (.bool o))

theorem f9_start {a0 : Int} {a1 : Int} {m : Option Nat} {o : Bool} (h : S_fuzzy_EqualFold m a0 a1 = some o) : LWp Try.prog f9_lay 0 f9_c0 (f9_Q a0 a1 o) (initEnv 0 [.int .u8 a0, .int .u8 a1]) [] 0 := by
  unfold S_fuzzy_EqualFold at h
  refine seqI ?_
  refine regI ?_
  refine seqI ?_
  refine regI ?_
  obtain ⟨v1, h1, h⟩ := bind_some h
  refine PFn.call (f15_ok h1) (AI (VS rfl) TT) ?_
  obtain ⟨v2, h2, h⟩ := bind_some h
  refine PFn.call (f15_ok h2) (AI (VS rfl) TT) ?_
  refine retI ?_
  cases h
  exact AI TT (AI rfl (VS rfl))

theorem f9_ok {a0 : Int} {a1 : Int} {m : Option Nat} {o : Bool} (h : S_fuzzy_EqualFold m a0 a1 = some o) : PFn Try.prog 9 [.int .u8 a0, .int .u8 a1] (.bool o) := PFn.ofFnW (L := f9_L) f9_low f9_fok (NB rfl) rfl (f9_start h)

def f12_c2 : LCode := (.seq (.region [⟨some 36, .mv (.t 9), none⟩,
   ⟨some 37, .mv (.t 6), none⟩,
   ⟨some 38, .bin .gtr (.t 36) (.t 37), none⟩])
 (.cond (.t 38)
  (.region [⟨some 39, .mv (.t 9), none⟩,
    ⟨some 40, .mv (.t 8), none⟩,
    ⟨some 6, .mv (.t 39), none⟩,
    ⟨some 7, .mv (.t 40), none⟩])
  .skip))
def f12_c0 : LCode := (.region [⟨some 16, .mv (.t 8), none⟩,
   ⟨some 17, .bin .add (.t 16) (.c (.int .i64 1)), none⟩,
   ⟨some 8, .mv (.t 17), none⟩])
def f12_c3 : LCode := (.seq (.seq (.region [⟨some 12, .mv (.t 8), none⟩,
   ⟨some 13, .mv (.t 0), none⟩,
   ⟨some 14, .len false (.t 13), none⟩,
   ⟨some 15, .bin .lss (.t 12) (.t 14), none⟩])
 (.cond (.t 15)
  .skip
  (.exit 0)))
 (.seq (.block 1
  (.seq (.region [⟨some 18, .mv (.t 0), none⟩,
    ⟨some 19, .mv (.t 8), none⟩,
    ⟨some 20, .iaddr 1 (.t 18) (.t 19), none⟩,
    ⟨some 21, .load false 1 (.t 20), none⟩,
    ⟨some 9, .mv (.t 21), none⟩])
  (.seq (.seq (.region [⟨some 22, .mv (.t 9), none⟩,
    ⟨some 23, .bin .neq (.t 22) (.c (.int .i64 (-1))), none⟩,
    ⟨some 24, .mv (.t 23), none⟩,
    ⟨some 25, .mv (.t 1), some (24, true)⟩,
    ⟨some 26, .bin .geq (.t 25) (.c (.int .i64 0)), some (24, true)⟩,
    ⟨some 27, .pick (.t 24) (.t 26) (.c (.bool false)), none⟩,
    ⟨some 28, .mv (.t 27), none⟩,
    ⟨some 29, .mv (.t 8), some (28, true)⟩,
    ⟨some 30, .mv (.t 1), some (28, true)⟩,
    ⟨some 31, .bin .add (.t 30) (.c (.int .i64 1)), some (28, true)⟩,
    ⟨some 32, .bin .eql (.t 29) (.t 31), some (28, true)⟩,
    ⟨some 33, .pick (.t 28) (.t 32) (.c (.bool false)), none⟩])
  (.cond (.t 33)
   (.region [⟨some 34, .mv (.t 9), none⟩,
     ⟨some 35, .bin .add (.t 34) (.c (.int .i64 3)), none⟩,
     ⟨some 9, .mv (.t 35), none⟩])
   .skip))
  f12_c2)))
 f12_c0))
def f12_c1 : LCode := (.seq (.region [⟨some 41, .mv (.t 6), none⟩,
   ⟨some 42, .mv (.t 7), none⟩,
   ⟨some 4, .mv (.t 41), none⟩,
   ⟨some 5, .mv (.t 42), none⟩])
 .ret)
def f12_c4 : LCode := (.seq (.region [⟨some 4, .mv (.c (.int .i64 0)), none⟩,
   ⟨some 5, .mv (.c (.int .i64 0)), none⟩])
 (.seq (.region [⟨some 6, .mv (.c (.int .i64 (-1))), none⟩,
   ⟨some 7, .mv (.c (.int .i64 (-1))), none⟩])
 (.seq (.seq (.region [⟨some 10, .mv (.t 1), none⟩,
   ⟨some 11, .bin .add (.t 10) (.c (.int .i64 1)), none⟩,
   ⟨some 8, .mv (.t 11), none⟩])
 (.block 0
  (.loop
   f12_c3)))
 f12_c1)))
def f12_lay : Lay := ⟨43, [], false⟩
def f12_res : List LRes := [.t 4, .t 5]
def f12_L : LFn := ⟨2, f12_lay, f12_c4, f12_res⟩
theorem f12_low : lowFn Try.prog [] 12 = some f12_L := by kernel_rfl
theorem f12_fok : FnOk Try.prog 12 := ⟨_, Try.func12, rfl, rfl⟩
def f12_Q (a0 : List Int) (a1 : Int) (o : Int × Int) : Exit → Env → AHeap → Nat → Prop := FinK f12_res (PureEnd (.tup [.int .i64 o.1, .int .i64 o.2]))

def f12_L1_env (a0 : List Int) (a1 : Int) (s : (Int × Int × Int)) : Env := [(0, .isl 1 (a0.map e_i64) false), (1, .int .i64 a1), (6, .int .i64 s.1), (7, .int .i64 s.2.1), (8, .int .i64 s.2.2)]
def f12_L1_hp (a0 : List Int) (a1 : Int) (s : (Int × Int × Int)) : AHeap := []
def f12_L1_Q (a0 : List Int) (a1 : Int) (o : (Int × Int)) : Exit → Env → AHeap → Nat → Prop := (QBlock 0 (QSeq Try.prog f12_lay 0 f12_c1 (f12_Q a0 a1 o)))

noncomputable def S_fuzzy_best_j6 (m : Option Nat) (a0 : List Int) (a1 : Int) (v6 : Int) (v11 : Int) (v12 : Int) : Option ((Int × Int × Int) ⊕ (Int × Int)) :=
  some (.inl (v11, v12, (W (v6 + 1))))

theorem f12_j6_ok {a0 : List Int} {a1 : Int} {v6 : Int} {v11 : Int} {v12 : Int} {m : Option Nat} {o : ((Int × Int × Int) ⊕ (Int × Int))} (h : S_fuzzy_best_j6 m a0 a1 v6 v11 v12 = some o) :
    LWp Try.prog f12_lay 0 f12_c0 (BodyQ 0 0 (f12_L1_env a0 a1) (f12_L1_hp a0 a1) (f12_L1_Q a0 a1) o) [(0, .isl 1 (a0.map e_i64) false), (1, .int .i64 a1), (6, .int .i64 v11), (7, .int .i64 v12), (8, .int .i64 v6)] [] 0 := by
  unfold S_fuzzy_best_j6 at h
  refine regI ?_
  cases h
  exact AI rfl (simI (M := []) rfl (AI (VS rfl) (AI (VS rfl) (AI (VS rfl) (AI (VS rfl) (AI (VS rfl) TT))))) TT)

noncomputable def S_fuzzy_best_j5 (m : Option Nat) (a0 : List Int) (a1 : Int) (v4 : Int) (v5 : Int) (v6 : Int) (v10 : Int) : Option ((Int × Int × Int) ⊕ (Int × Int)) :=
  if (decide (v10 > v4)) = true then
    S_fuzzy_best_j6 m a0 a1 v6 v10 v6
  else
    S_fuzzy_best_j6 m a0 a1 v6 v4 v5

theorem f12_j5_ok {a0 : List Int} {a1 : Int} {v4 : Int} {v5 : Int} {v6 : Int} {v10 : Int} {m : Option Nat} {o : ((Int × Int × Int) ⊕ (Int × Int))} (h : S_fuzzy_best_j5 m a0 a1 v4 v5 v6 v10 = some o) :
    LWp Try.prog f12_lay 0 f12_c2 (QBlock 1 (QSeq Try.prog f12_lay 0 f12_c0 (BodyQ 0 0 (f12_L1_env a0 a1) (f12_L1_hp a0 a1) (f12_L1_Q a0 a1) o))) [(0, .isl 1 (a0.map e_i64) false), (1, .int .i64 a1), (6, .int .i64 v4), (7, .int .i64 v5), (8, .int .i64 v6), (9, .int .i64 v10)] [] 0 := by
  unfold S_fuzzy_best_j5 at h
  refine seqI ?_
  refine regI ?_
  refine condI (v := (decide (v10 > v4))) rfl TT (fun h12 => ?_) (fun h12 => ?_)
  · have h := ite_tt h12 h
    refine regI ?_
    refine LWp.sim ?_ (f12_j6_ok h)
    exact simI (M := []) rfl (AI (VS rfl) (AI (VS rfl) (AI (VS rfl) (AI (VS rfl) (AI (VS rfl) TT))))) TT
  · have h := ite_ff h12 h
    refine skipI ?_
    refine LWp.sim ?_ (f12_j6_ok h)
    exact simI (M := []) rfl (AI (VS rfl) (AI (VS rfl) (AI (VS rfl) (AI (VS rfl) (AI (VS rfl) TT))))) TT

noncomputable def S_fuzzy_best_j7 (m : Option Nat) (v4 : Int) (v5 : Int) : Option (Int × Int) :=
  some (v4, v5)

noncomputable def S_fuzzy_best_b1 (m : Option Nat) (a0 : List Int) (a1 : Int) (v4 : Int) (v5 : Int) (v6 : Int) : Option ((Int × Int × Int) ⊕ (Int × Int)) :=
  if (decide (v6 < ((a0.map e_i64).length : Int))) = true then
    if (0 : Int) ≤ v6 ∧ v6 < ((a0.map e_i64).length : Int) then
    if ((((a0.getD v6.toNat default) != (-1)) && (decide (a1 ≥ 0))) && (v6 == (W (a1 + 1)))) = true then
      S_fuzzy_best_j5 m a0 a1 v4 v5 v6 (W ((a0.getD v6.toNat default) + 3))
    else
      S_fuzzy_best_j5 m a0 a1 v4 v5 v6 (a0.getD v6.toNat default)
    else none
  else
    Option.map Sum.inr (
      S_fuzzy_best_j7 m v4 v5)

noncomputable def S_fuzzy_best_l1 (m : Option Nat) (a0 : List Int) (a1 : Int) (v4 : Int) (v5 : Int) (v6 : Int) : Option (Int × Int) := loopM m (fun (s : (Int × Int × Int)) => S_fuzzy_best_b1 m a0 a1 s.1 s.2.1 s.2.2) (v4, v5, v6)

theorem f12_j7_ok {a0 : List Int} {a1 : Int} {v4 : Int} {v5 : Int} {m : Option Nat} {o : (Int × Int)} (h : S_fuzzy_best_j7 m v4 v5 = some o) :
    LWp Try.prog f12_lay 0 f12_c1 (f12_Q a0 a1 o) [(6, .int .i64 v4), (7, .int .i64 v5)] [] 0 := by
  unfold S_fuzzy_best_j7 at h
  refine seqI ?_
  refine regI ?_
  refine retI ?_
  cases h
  exact AI TT (AI TT (AI rfl (VS rfl)))

theorem f12_L1_bok {a0 : List Int} {a1 : Int} {v4 : Int} {v5 : Int} {v6 : Int} {m : Option Nat} {o : (Int × Int × Int) ⊕ (Int × Int)} (h : S_fuzzy_best_b1 m a0 a1 v4 v5 v6 = some o) :
    LWp Try.prog f12_lay 0 f12_c3 (BodyQ 0 0 (f12_L1_env a0 a1) (f12_L1_hp a0 a1) (f12_L1_Q a0 a1) o) [(0, .isl 1 (a0.map e_i64) false), (1, .int .i64 a1), (6, .int .i64 v4), (7, .int .i64 v5), (8, .int .i64 v6)] [] 0 := by
  unfold S_fuzzy_best_b1 at h
  refine seqI ?_
  refine seqI ?_
  refine regI ?_
  refine condI (v := (decide (v6 < ((a0.map e_i64).length : Int)))) rfl TT (fun h9 => ?_) (fun h9 => ?_)
  · have h := ite_tt h9 h
    refine skipI ?_
    refine seqI ?_
    refine blockI ?_
    refine seqI ?_
    refine regI ?_
    obtain ⟨h10, h⟩ := ite_some h
    refine AI h10 ?_
    refine EX (e_i64 (a0.getD v6.toNat default)) (AI (getD_enc e_i64 _ _ (idx_ltL e_i64 h10)) (AI (AI (idx_lt h10) (NB rfl)) ?_))
    refine LWp.sim (e := [(0, .isl 1 (a0.map e_i64) false), (1, .int .i64 a1), (6, .int .i64 v4), (7, .int .i64 v5), (8, .int .i64 v6), (9, .int .i64 (a0.getD v6.toNat default))]) (L := []) (n := 0) ?_ ?_
    · exact simI (M := []) rfl (AI (VS rfl) (AI (VS rfl) (AI (VS rfl) (AI (VS rfl) (AI (VS rfl) (AI (VS rfl) TT)))))) TT
    refine seqI ?_
    refine seqI ?_
    refine regI ?_
    refine AI (fun hp => hp) ?_
    refine AI (fun hc => (bqt hc)) ?_
    refine AI (fun hp => hp) ?_
    refine AI (fun hp => (AI hp hp)) ?_
    refine AI (fun hc => (bqt hc)) ?_
    refine LWp.sim (e := [(0, .isl 1 (a0.map e_i64) false), (1, .int .i64 a1), (6, .int .i64 v4), (7, .int .i64 v5), (8, .int .i64 v6), (9, .int .i64 (a0.getD v6.toNat default)), (33, .bool ((((a0.getD v6.toNat default) != (-1)) && (decide (a1 ≥ 0))) && (v6 == (W (a1 + 1)))))]) (L := []) (n := 0) ?_ ?_
    · exact simI (M := []) rfl (AI (VS rfl) (AI (VS rfl) (AI (VS rfl) (AI (VS rfl) (AI (VS rfl) (AI (VS rfl) (AI (VS rfl) TT))))))) TT
    refine condI (v := ((((a0.getD v6.toNat default) != (-1)) && (decide (a1 ≥ 0))) && (v6 == (W (a1 + 1))))) rfl TT (fun h11 => ?_) (fun h11 => ?_)
    · have h := ite_tt h11 h
      refine regI ?_
      refine LWp.sim ?_ (f12_j5_ok h)
      exact simI (M := []) rfl (AI (VS rfl) (AI (VS rfl) (AI (VS rfl) (AI (VS rfl) (AI (VS rfl) (AI (VS rfl) TT)))))) TT
    · have h := ite_ff h11 h
      refine skipI ?_
      refine LWp.sim ?_ (f12_j5_ok h)
      exact simI (M := []) rfl (AI (VS rfl) (AI (VS rfl) (AI (VS rfl) (AI (VS rfl) (AI (VS rfl) (AI (VS rfl) TT)))))) TT
  · have h := ite_ff h9 h
    refine exitI ?_
    obtain ⟨o, hq, rfl⟩ := Option.map_eq_some_iff.1 h
    replace h := hq; clear hq
    refine AI nofun ?_
    refine LWp.sim ?_ (f12_j7_ok h)
    exact simI (M := []) rfl (AI (VS rfl) (AI (VS rfl) TT)) TT

theorem f12_L1_ok {a0 : List Int} {a1 : Int} {v4 : Int} {v5 : Int} {v6 : Int} {m : Option Nat} {o : (Int × Int)} (h : S_fuzzy_best_l1 m a0 a1 v4 v5 v6 = some o) :
    LWp Try.prog f12_lay 0 (.loop f12_c3) (QBlock 0 (QSeq Try.prog f12_lay 0 f12_c1 (f12_Q a0 a1 o))) [(0, .isl 1 (a0.map e_i64) false), (1, .int .i64 a1), (6, .int .i64 v4), (7, .int .i64 v5), (8, .int .i64 v6)] [] 0 :=
  LWp_loopM (m := m) (s := ((v4, v5, v6) : (Int × Int × Int))) (r := o) (fun (s : (Int × Int × Int)) => S_fuzzy_best_b1 m a0 a1 s.1 s.2.1 s.2.2) (f12_L1_env a0 a1) (f12_L1_hp a0 a1) (f12_L1_Q a0 a1) (fun s o h => f12_L1_bok h) h

noncomputable def S_fuzzy_best (m : Option Nat) (a0 : List Int) (a1 : Int) : Option (Int × Int) :=
  S_fuzzy_best_l1 m a0 a1 (-1) (-1) (W (a1 + 1))

theorem f12_start {a0 : List Int} {a1 : Int} {m : Option Nat} {o : Int × Int} (h : S_fuzzy_best m a0 a1 = some o) : LWp Try.prog f12_lay 0 f12_c4 (f12_Q a0 a1 o) (initEnv 0 [.isl 1 (a0.map e_i64) false, .int .i64 a1]) [] 0 := by
  unfold S_fuzzy_best at h
  refine seqI ?_
  refine regI ?_
  refine seqI ?_
  refine regI ?_
  refine seqI ?_
  refine seqI ?_
  refine regI ?_
  refine blockI ?_
  refine LWp.sim ?_ (f12_L1_ok h)
  exact simI (M := []) rfl (AI (VS rfl) (AI (VS rfl) (AI (VS rfl) (AI (VS rfl) (AI (VS rfl) TT))))) TT

theorem f12_ok {a0 : List Int} {a1 : Int} {m : Option Nat} {o : Int × Int} (h : S_fuzzy_best m a0 a1 = some o) : PFn Try.prog 12 [.isl 1 (a0.map e_i64) false, .int .i64 a1] (.tup [.int .i64 o.1, .int .i64 o.2]) := PFn.ofFnW (L := f12_L) f12_low f12_fok (NB rfl) rfl (f12_start h)

def f31_c0 : LCode := (.seq (.region [⟨some 4, .mv (.c (.bool false)), none⟩])
 (.seq (.region [⟨some 5, .mv (.t 1), none⟩,
   ⟨some 6, .bin .eql (.t 5) (.c (.int .i64 0)), none⟩,
   ⟨some 7, .mv (.t 6), none⟩,
   ⟨some 8, .mv (.t 0), some (7, false)⟩,
   ⟨some 9, .mv (.t 1), some (7, false)⟩,
   ⟨some 10, .bin .sub (.t 9) (.c (.int .i64 1)), some (7, false)⟩,
   ⟨some 11, .idxS (.t 8) (.t 10), some (7, false)⟩,
   ⟨some 12, .bin .eql (.t 11) (.c (.int .u8 95)), some (7, false)⟩,
   ⟨some 13, .pick (.t 7) (.c (.bool true)) (.t 12), none⟩,
   ⟨some 14, .mv (.t 13), none⟩,
   ⟨some 15, .mv (.t 0), some (14, false)⟩,
   ⟨some 16, .mv (.t 1), some (14, false)⟩,
   ⟨some 17, .idxS (.t 15) (.t 16), some (14, false)⟩,
   ⟨some 18, .call 25 [(.t 17)], some (14, false)⟩,
   ⟨some 19, .mv (.t 18), some (14, false)⟩,
   ⟨some 20, .mv (.t 0), some (19, true)⟩,
   ⟨some 21, .mv (.t 1), some (19, true)⟩,
   ⟨some 22, .bin .sub (.t 21) (.c (.int .i64 1)), some (19, true)⟩,
   ⟨some 23, .idxS (.t 20) (.t 22), some (19, true)⟩,
   ⟨some 24, .call 25 [(.t 23)], some (19, true)⟩,
   ⟨some 25, .un .not (.t 24), some (19, true)⟩,
   ⟨some 26, .pick (.t 19) (.t 25) (.c (.bool false)), some (14, false)⟩,
   ⟨some 27, .pick (.t 14) (.c (.bool true)) (.t 26), none⟩,
   ⟨some 4, .mv (.t 27), none⟩])
 .ret))
def f31_lay : Lay := ⟨28, [], false⟩
def f31_res : List LRes := [.t 4]
def f31_L : LFn := ⟨2, f31_lay, f31_c0, f31_res⟩
theorem f31_low : lowFn Try.prog [] 31 = some f31_L := by kernel_rfl
theorem f31_fok : FnOk Try.prog 31 := ⟨_, Try.func31, rfl, rfl⟩
noncomputable def S_fuzzy_startsWord (m : Option Nat) (a0 : List UInt8) (a1 : Int) : Option Bool :=
  if (((a1 == 0) == false) = true → (0 : Int) ≤ (W (a1 - 1)) ∧ (W (a1 - 1)) < (a0.length : Int)) then
  if ((((a1 == 0) || ((((a0.getD (W (a1 - 1)).toNat 0).toNat : Nat) : Int) == 95)) == false) = true → (0 : Int) ≤ a1 ∧ a1 < (a0.length : Int)) then
  (if (((a1 == 0) || ((((a0.getD (W (a1 - 1)).toNat 0).toNat : Nat) : Int) == 95)) == false) = true then S_fuzzy_isUpper m (((a0.getD a1.toNat 0).toNat : Nat) : Int) else some default).bind fun v1 =>
  if (((((a1 == 0) || ((((a0.getD (W (a1 - 1)).toNat 0).toNat : Nat) : Int) == 95)) == false) && (v1 == true)) = true → (0 : Int) ≤ (W (a1 - 1)) ∧ (W (a1 - 1)) < (a0.length : Int)) then
  (if ((((a1 == 0) || ((((a0.getD (W (a1 - 1)).toNat 0).toNat : Nat) : Int) == 95)) == false) && (v1 == true)) = true then S_fuzzy_isUpper m (((a0.getD (W (a1 - 1)).toNat 0).toNat : Nat) : Int) else some default).bind fun v2 =>
  some (((a1 == 0) || ((((a0.getD (W (a1 - 1)).toNat 0).toNat : Nat) : Int) == 95)) || (v1 && (!v2)))
  else none
  else none
  else none

def f31_Q (a0 : List UInt8) (a1 : Int) (o : Bool) : Exit → Env → AHeap → Nat → Prop := FinK f31_res (PureEnd (.bool o))

theorem f31_start {a0 : List UInt8} {a1 : Int} {m : Option Nat} {o : Bool} (h : S_fuzzy_startsWord m a0 a1 = some o) : LWp Try.prog f31_lay 0 f31_c0 (f31_Q a0 a1 o) (initEnv 0 [.str a0, .int .i64 a1]) [] 0 := by
  unfold S_fuzzy_startsWord at h
  refine seqI ?_
  refine regI ?_
  refine seqI ?_
  refine regI ?_
  refine AI (fun hp => hp) ?_
  obtain ⟨h1, h⟩ := ite_some h
  refine AI (fun hp => (AI (AI hp hp) (h1 hp))) ?_
  refine AI (fun hp => hp) ?_
  refine AI (fun hc => (bqf hc)) ?_
  obtain ⟨h2, h⟩ := ite_some h
  refine AI (fun hp => (AI (AI hp hp) (h2 hp))) ?_
  obtain ⟨v1, h3, h⟩ := bind_some h
  refine Or.inl (EX (.bool v1) (AI (fun hp => AI hp (PFn.call (f25_ok (ite_tt hp h3)) (AI (VS rfl) TT) (AI rfl (AI rfl rfl)))) ?_))
  refine AI (fun hp => hp) ?_
  refine AI (fun hp => hp) ?_
  obtain ⟨h4, h⟩ := ite_some h
  refine AI (fun hp => (AI (AI hp hp) (h4 hp))) ?_
  obtain ⟨v2, h5, h⟩ := bind_some h
  refine Or.inl (EX (.bool v2) (AI (fun hp => AI hp (PFn.call (f25_ok (ite_tt hp h5)) (AI (VS rfl) TT) (AI rfl (AI rfl rfl)))) ?_))
  refine AI (fun hp => hp) ?_
  refine AI (fun hp => (AI hp (fun hc => (and_i hp (bqt hc))))) ?_
  refine AI (fun hc => (bqf hc)) ?_
  refine LWp.sim (e := [(4, .bool (((a1 == 0) || ((((a0.getD (W (a1 - 1)).toNat 0).toNat : Nat) : Int) == 95)) || (v1 && (!v2))))]) (L := []) (n := 0) ?_ ?_
  · exact simI (M := []) rfl (AI (VS rfl) TT) TT
  refine retI ?_
  cases h
  exact AI TT (AI rfl (VS rfl))

theorem f31_ok {a0 : List UInt8} {a1 : Int} {m : Option Nat} {o : Bool} (h : S_fuzzy_startsWord m a0 a1 = some o) : PFn Try.prog 31 [.str a0, .int .i64 a1] (.bool o) := PFn.ofFnW (L := f31_L) f31_low f31_fok (NB rfl) rfl (f31_start h)

def f23_c0 : LCode := (.seq (.region [⟨some 20, .mv (.t 7), none⟩,
   ⟨some 6, .mv (.t 20), none⟩])
 .ret)
def f23_c1 : LCode := (.seq (.seq (.region [⟨some 15, .mv (.t 1), none⟩,
   ⟨some 16, .mv (.t 2), none⟩,
   ⟨some 17, .call 31 [(.t 15), (.t 16)], none⟩])
 (.cond (.t 17)
  (.region [⟨some 18, .mv (.t 7), none⟩,
    ⟨some 19, .bin .add (.t 18) (.c (.int .i64 4)), none⟩,
    ⟨some 7, .mv (.t 19), none⟩])
  .skip))
 f23_c0)
def f23_c2 : LCode := (.seq (.region [⟨some 6, .mv (.c (.int .i64 0)), none⟩])
 (.seq (.region [⟨some 7, .mv (.c (.int .i64 1)), none⟩])
 (.seq (.seq (.region [⟨some 8, .mv (.t 0), none⟩,
   ⟨some 9, .mv (.t 1), none⟩,
   ⟨some 10, .mv (.t 2), none⟩,
   ⟨some 11, .idxS (.t 9) (.t 10), none⟩,
   ⟨some 12, .bin .eql (.t 8) (.t 11), none⟩])
 (.cond (.t 12)
  (.region [⟨some 13, .mv (.t 7), none⟩,
    ⟨some 14, .bin .add (.t 13) (.c (.int .i64 1)), none⟩,
    ⟨some 7, .mv (.t 14), none⟩])
  .skip))
 f23_c1)))
def f23_lay : Lay := ⟨21, [], false⟩
def f23_res : List LRes := [.t 6]
def f23_L : LFn := ⟨3, f23_lay, f23_c2, f23_res⟩
theorem f23_low : lowFn Try.prog [] 23 = some f23_L := by kernel_rfl
theorem f23_fok : FnOk Try.prog 23 := ⟨_, Try.func23, rfl, rfl⟩
noncomputable def S_fuzzy_points_j2 (m : Option Nat) (v3 : Int) : Option Int :=
  some v3

def f23_Q (a0 : Int) (a1 : List UInt8) (a2 : Int) (o : Int) : Exit → Env → AHeap → Nat → Prop := FinK f23_res (PureEnd (.int .i64 o))

theorem f23_j2_ok {a0 : Int} {a1 : List UInt8} {a2 : Int} {v3 : Int} {m : Option Nat} {o : Int} (h : S_fuzzy_points_j2 m v3 = some o) :
    LWp Try.prog f23_lay 0 f23_c0 (f23_Q a0 a1 a2 o) [(7, .int .i64 v3)] [] 0 := by
  unfold S_fuzzy_points_j2 at h
  refine seqI ?_
  refine regI ?_
  refine retI ?_
  cases h
  exact AI TT (AI rfl (VS rfl))

noncomputable def S_fuzzy_points_j1 (m : Option Nat) (a1 : List UInt8) (a2 : Int) (v1 : Int) : Option Int :=
  (S_fuzzy_startsWord m a1 a2).bind fun v2 =>
  if v2 = true then
    S_fuzzy_points_j2 m (W (v1 + 4))
  else
    S_fuzzy_points_j2 m v1

theorem f23_j1_ok {a0 : Int} {a1 : List UInt8} {a2 : Int} {v1 : Int} {m : Option Nat} {o : Int} (h : S_fuzzy_points_j1 m a1 a2 v1 = some o) :
    LWp Try.prog f23_lay 0 f23_c1 (f23_Q a0 a1 a2 o) [(1, .str a1), (2, .int .i64 a2), (7, .int .i64 v1)] [] 0 := by
  unfold S_fuzzy_points_j1 at h
  refine seqI ?_
  refine seqI ?_
  refine regI ?_
  obtain ⟨v2, h3, h⟩ := bind_some h
  refine PFn.call (f31_ok h3) (AI (VS rfl) (AI (VS rfl) TT)) ?_
  refine condI (v := v2) rfl TT (fun h4 => ?_) (fun h4 => ?_)
  · have h := ite_tt h4 h
    refine regI ?_
    refine LWp.sim ?_ (f23_j2_ok h)
    exact simI (M := []) rfl (AI (VS rfl) TT) TT
  · have h := ite_ff h4 h
    refine skipI ?_
    refine LWp.sim ?_ (f23_j2_ok h)
    exact simI (M := []) rfl (AI (VS rfl) TT) TT

noncomputable def S_fuzzy_points (m : Option Nat) (a0 : Int) (a1 : List UInt8) (a2 : Int) : Option Int :=
  if (0 : Int) ≤ a2 ∧ a2 < (a1.length : Int) then
  if (a0 == (((a1.getD a2.toNat 0).toNat : Nat) : Int)) = true then
    S_fuzzy_points_j1 m a1 a2 (W ((1 : Int) + 1))
  else
    S_fuzzy_points_j1 m a1 a2 1
  else none

theorem f23_start {a0 : Int} {a1 : List UInt8} {a2 : Int} {m : Option Nat} {o : Int} (h : S_fuzzy_points m a0 a1 a2 = some o) : LWp Try.prog f23_lay 0 f23_c2 (f23_Q a0 a1 a2 o) (initEnv 0 [.int .u8 a0, .str a1, .int .i64 a2]) [] 0 := by
  unfold S_fuzzy_points at h
  refine seqI ?_
  refine regI ?_
  refine seqI ?_
  refine regI ?_
  refine seqI ?_
  refine seqI ?_
  refine regI ?_
  obtain ⟨h1, h⟩ := ite_some h
  refine AI h1 ?_
  refine condI (v := (a0 == (((a1.getD a2.toNat 0).toNat : Nat) : Int))) rfl TT (fun h2 => ?_) (fun h2 => ?_)
  · have h := ite_tt h2 h
    refine regI ?_
    refine LWp.sim ?_ (f23_j1_ok h)
    exact simI (M := []) rfl (AI (VS rfl) (AI (VS rfl) (AI (VS rfl) TT))) TT
  · have h := ite_ff h2 h
    refine skipI ?_
    refine LWp.sim ?_ (f23_j1_ok h)
    exact simI (M := []) rfl (AI (VS rfl) (AI (VS rfl) (AI (VS rfl) TT))) TT

theorem f23_ok {a0 : Int} {a1 : List UInt8} {a2 : Int} {m : Option Nat} {o : Int} (h : S_fuzzy_points m a0 a1 a2 = some o) : PFn Try.prog 23 [.int .u8 a0, .str a1, .int .i64 a2] (.int .i64 o) := PFn.ofFnW (L := f23_L) f23_low f23_fok (NB rfl) rfl (f23_start h)

def f1000000b0_c3 : LCode := (.region [⟨some 6, .mv (.t 14), none⟩])
def f1000000b0_c1 : LCode := (.seq (.region [⟨some 51, .mv (.t 8), none⟩,
   ⟨some 52, .bin .neq (.t 51) (.c (.int .i64 (-1))), none⟩])
 (.cond (.t 52)
  (.draw [⟨⟨some 53, .load false 1 (.t 5), none⟩, []⟩,
    ⟨⟨some 54, .mv (.t 6), none⟩, []⟩,
    ⟨⟨some 55, .iaddr 1 (.t 53) (.t 54), none⟩, []⟩,
    ⟨⟨some 56, .load false 1 (.t 55), none⟩, []⟩,
    ⟨⟨some 57, .mv (.t 7), none⟩, []⟩,
    ⟨⟨some 58, .load false 1 (.t 2), none⟩, []⟩,
    ⟨⟨some 59, .mv (.t 6), none⟩, []⟩,
    ⟨⟨some 60, .idxS (.t 58) (.t 59), none⟩, []⟩,
    ⟨⟨some 61, .load false 1 (.t 3), none⟩, []⟩,
    ⟨⟨some 62, .mv (.t 7), none⟩, []⟩,
    ⟨⟨some 64, .mv (.t 8), none⟩, []⟩,
    ⟨⟨some 63, .call 23 [(.t 60), (.t 61), (.t 62)], none⟩, [0, 3]⟩,
    ⟨⟨some 65, .bin .add (.t 63) (.t 64), none⟩, []⟩,
    ⟨⟨some 66, .iaddr 1 (.t 56) (.t 57), none⟩, []⟩,
    ⟨⟨none, .store 1 (.t 66) (.t 65), none⟩, []⟩])
  .skip))
def f1000000b0_c0 : LCode := (.region [⟨some 67, .bin .add (.t 25) (.c (.int .i64 1)), none⟩,
   ⟨some 25, .mv (.t 67), none⟩])
def f1000000b0_c2 : LCode := (.seq (.region [⟨some 26, .bin .lss (.t 25) (.t 24), none⟩])
 (.seq (.cond (.t 26)
  .skip
  (.exit 2))
 (.seq (.block 3
  (.seq (.region [⟨some 27, .mv (.t 25), none⟩,
    ⟨some 7, .mv (.t 27), none⟩])
  (.seq (.seq (.draw [⟨⟨some 28, .load false 1 (.t 2), none⟩, []⟩,
    ⟨⟨some 29, .mv (.t 6), none⟩, []⟩,
    ⟨⟨some 30, .idxS (.t 28) (.t 29), none⟩, []⟩,
    ⟨⟨some 31, .load false 1 (.t 3), none⟩, []⟩,
    ⟨⟨some 32, .mv (.t 7), none⟩, []⟩,
    ⟨⟨some 33, .idxS (.t 31) (.t 32), none⟩, []⟩,
    ⟨⟨some 34, .call 9 [(.t 30), (.t 33)], none⟩, []⟩,
    ⟨⟨some 35, .un .not (.t 34), none⟩, []⟩])
  (.cond (.t 35)
   (.exit 3)
   .skip))
  (.seq (.region [⟨some 8, .mv (.c (.int .i64 0)), none⟩])
  (.seq (.seq (.region [⟨some 36, .mv (.t 6), none⟩,
    ⟨some 37, .bin .add (.t 36) (.c (.int .i64 1)), none⟩,
    ⟨some 38, .load false 1 (.t 2), none⟩,
    ⟨some 39, .len true (.t 38), none⟩,
    ⟨some 40, .bin .lss (.t 37) (.t 39), none⟩])
  (.cond (.t 40)
   (.region [⟨some 42, .load false 1 (.t 5), none⟩,
     ⟨some 43, .mv (.t 6), none⟩,
     ⟨some 44, .bin .add (.t 43) (.c (.int .i64 1)), none⟩,
     ⟨some 45, .iaddr 1 (.t 42) (.t 44), none⟩,
     ⟨some 46, .load false 1 (.t 45), none⟩,
     ⟨some 47, .mv (.t 7), none⟩,
     ⟨some 48, .call 12 [(.t 46), (.t 47)], none⟩,
     ⟨some 41, .mv (.t 48), none⟩,
     ⟨some 49, .ext 0 (.t 41), none⟩,
     ⟨some 50, .ext 1 (.t 41), none⟩,
     ⟨some 8, .mv (.t 49), none⟩])
   .skip))
  f1000000b0_c1)))))
 f1000000b0_c0)))
def f1000000b0_c4 : LCode := (.block 1
  (.seq (.draw [⟨⟨some 16, .load false 1 (.t 5), none⟩, []⟩,
    ⟨⟨some 17, .mv (.t 6), none⟩, []⟩,
    ⟨⟨some 19, .load false 1 (.t 3), none⟩, []⟩,
    ⟨⟨some 20, .len true (.t 19), none⟩, []⟩,
    ⟨⟨some 18, .mkSl true 1 [(.int .i64 0)] 1 [(0, (.c (.int .i64 (-1))))], none⟩, []⟩,
    ⟨⟨some 21, .call 22 [(.t 18), (.t 20)], none⟩, [0]⟩,
    ⟨⟨some 22, .iaddr 1 (.t 16) (.t 17), none⟩, []⟩,
    ⟨⟨none, .store 1 (.t 22) (.t 21), none⟩, []⟩])
  (.seq (.region [⟨some 23, .load false 1 (.t 3), none⟩,
    ⟨some 24, .len true (.t 23), none⟩,
    ⟨some 25, .mv (.c (.int .i64 0)), none⟩])
  (.block 2
   (.loop
    f1000000b0_c2)))))
def f1000000b0_lay : Lay := ⟨69, [11], true⟩
def f1000000b0_lay0 : Lay := ⟨69, [11], false⟩
def f1000000b0_Q (l : Nat) (r : Loop) (a0 : Int) (a1 : List Int) (a2 : List UInt8) (a3 : List UInt8) (a4 : List (List Int)) (o : Bool × (List (List Int))) : Exit → Env → AHeap → Nat → Prop := QRnd (0, 0) l r (FinTo 3 4 (.bool o.1) [((0, 0), .lrec l r [(2, .ptr (0, 1) 0 0), (3, .ptr (0, 2) 0 0), (5, .ptr (0, 3) 0 0)]), ((0, 1), .one [.str a2]), ((0, 2), .one [.str a3]), ((0, 3), .one [.msl (0, 4) 1 0 o.2.length true]), ((0, 4), .rows 1 (o.2.map e_sl_i64))])

def f1000000b0_L1_env (l : Nat) (r : Loop) (a0 : Int) (a2 : List UInt8) (a3 : List UInt8) (a4 : List (List Int)) (s : (Int × (List Int))) : Env := [(2, .ptr (0, 1) 0 0), (3, .ptr (0, 2) 0 0), (5, .ptr (0, 3) 0 0), (6, .int .i64 a0), (24, .int .i64 (a3.length : Int)), (25, .int .i64 s.1)]
def f1000000b0_L1_hp (l : Nat) (r : Loop) (a0 : Int) (a2 : List UInt8) (a3 : List UInt8) (a4 : List (List Int)) (s : (Int × (List Int))) : AHeap := [((0, 0), .lrec l (busy r) [(2, .ptr (0, 1) 0 0), (3, .ptr (0, 2) 0 0), (5, .ptr (0, 3) 0 0)]), ((0, 1), .one [.str a2]), ((0, 2), .one [.str a3]), ((0, 3), .one [.msl (0, 4) 1 0 a4.length true]), ((0, 4), .rows 1 (holeR e_sl_i64 a4 (0 + a0.toNat) (.msl (3, 0) 1 0 s.2.length true))), ((3, 0), .rows 1 (s.2.map e_i64))]
def f1000000b0_L1_Q (l : Nat) (r : Loop) (a0 : Int) (a1 : List Int) (a2 : List UInt8) (a3 : List UInt8) (a4 : List (List Int)) (o : (Bool × (List (List Int)))) : Exit → Env → AHeap → Nat → Prop := (QBlock 2 (QBlock 1 (f1000000b0_Q l r a0 a1 a2 a3 a4 o)))

noncomputable def S_fuzzy_suffixScores_round_j6 (m : Option Nat) (a0 : Int) (a2 : List UInt8) (a3 : List UInt8) (a4 : List (List Int)) (v7 : Int) (v18 : List Int) : Option ((Int × (List Int)) ⊕ (Bool × (List (List Int)))) :=
  some (.inl ((W (v7 + 1)), v18))

noncomputable def S_fuzzy_suffixScores_round_j5 (m : Option Nat) (a0 : Int) (a2 : List UInt8) (a3 : List UInt8) (a4 : List (List Int)) (v7 : Int) (v8 : List Int) (v16 : Int) : Option ((Int × (List Int)) ⊕ (Bool × (List (List Int)))) :=
  if (v16 != (-1)) = true then
    if (0 : Int) ≤ a0 ∧ a0 < ((a4.length : Nat) : Int) then
    if (0 + a0.toNat) < a4.length then
    if (0 : Int) ≤ a0 ∧ a0 < (a2.length : Int) then
    (S_fuzzy_points m (((a2.getD a0.toNat 0).toNat : Nat) : Int) a3 v7).bind fun v17 =>
    if (0 : Int) ≤ v7 ∧ v7 < ((v8.length : Nat) : Int) then
    if (0 + v7.toNat) < v8.length then
    S_fuzzy_suffixScores_round_j6 m a0 a2 a3 a4 v7 (v8.set (0 + v7.toNat) (W (v17 + v16)))
    else none
    else none
    else none
    else none
    else none
  else
    S_fuzzy_suffixScores_round_j6 m a0 a2 a3 a4 v7 v8

theorem f1000000b0_j6_ok {l : Nat} {r : Loop} {a1 : List Int} {a0 : Int} {a2 : List UInt8} {a3 : List UInt8} {a4 : List (List Int)} {v7 : Int} {v18 : List Int} {m : Option Nat} {o : ((Int × (List Int)) ⊕ (Bool × (List (List Int))))} (h : S_fuzzy_suffixScores_round_j6 m a0 a2 a3 a4 v7 v18 = some o) :
    LWp Try.prog f1000000b0_lay 3 f1000000b0_c0 (BodyQ 3 4 (f1000000b0_L1_env l r a0 a2 a3 a4) (f1000000b0_L1_hp l r a0 a2 a3 a4) (f1000000b0_L1_Q l r a0 a1 a2 a3 a4) o) [(2, .ptr (0, 1) 0 0), (3, .ptr (0, 2) 0 0), (5, .ptr (0, 3) 0 0), (6, .int .i64 a0), (24, .int .i64 (a3.length : Int)), (25, .int .i64 v7)] [((0, 0), .lrec l (busy r) [(2, .ptr (0, 1) 0 0), (3, .ptr (0, 2) 0 0), (5, .ptr (0, 3) 0 0)]), ((0, 1), .one [.str a2]), ((0, 2), .one [.str a3]), ((0, 3), .one [.msl (0, 4) 1 0 a4.length true]), ((0, 4), .rows 1 (holeR e_sl_i64 a4 (0 + a0.toNat) (.msl (3, 0) 1 0 v18.length true))), ((3, 0), .rows 1 (v18.map e_i64))] 4 := by
  unfold S_fuzzy_suffixScores_round_j6 at h
  refine regI ?_
  cases h
  exact AI rfl (simI (M := [((3, 0), (3, 0))]) rfl (AI (Vw.ptr _ _ _ _ rfl) (AI (Vw.ptr _ _ _ _ rfl) (AI (Vw.ptr _ _ _ _ rfl) (AI (VS rfl) (AI (VS rfl) (AI (VS rfl) TT)))))) (AI (AI rfl (BVw.lrecL (AI (AI rfl (Vw.ptr _ _ _ _ rfl)) (AI (AI rfl (Vw.ptr _ _ _ _ rfl)) (AI (AI rfl (Vw.ptr _ _ _ _ rfl)) TT))))) (AI (AI rfl (BVw.oneL (AI (VS rfl) TT))) (AI (AI rfl (BVw.oneL (AI (VS rfl) TT))) (AI (AI rfl (BVw.oneL (AI (Vw.mslE rfl (by first | rfl | omega | (simp; done) | (simp at *; omega)) rfl) TT))) (AI (AI rfl (BVw.hole e_sl_i64_nid (Vw.mslE rfl (by first | rfl | omega | (simp; done) | (simp at *; omega)) rfl))) (AI (AI rfl (BVw.enc e_i64 (fun _ => rfl) _ v18)) TT)))))))

theorem f1000000b0_j5_ok {l : Nat} {r : Loop} {a1 : List Int} {a0 : Int} {a2 : List UInt8} {a3 : List UInt8} {a4 : List (List Int)} {v7 : Int} {v8 : List Int} {v16 : Int} {m : Option Nat} {o : ((Int × (List Int)) ⊕ (Bool × (List (List Int))))} (h : S_fuzzy_suffixScores_round_j5 m a0 a2 a3 a4 v7 v8 v16 = some o) :
    LWp Try.prog f1000000b0_lay 3 f1000000b0_c1 (QBlock 3 (QSeq Try.prog f1000000b0_lay 3 f1000000b0_c0 (BodyQ 3 4 (f1000000b0_L1_env l r a0 a2 a3 a4) (f1000000b0_L1_hp l r a0 a2 a3 a4) (f1000000b0_L1_Q l r a0 a1 a2 a3 a4) o))) [(2, .ptr (0, 1) 0 0), (3, .ptr (0, 2) 0 0), (5, .ptr (0, 3) 0 0), (6, .int .i64 a0), (7, .int .i64 v7), (8, .int .i64 v16), (24, .int .i64 (a3.length : Int)), (25, .int .i64 v7)] [((0, 0), .lrec l (busy r) [(2, .ptr (0, 1) 0 0), (3, .ptr (0, 2) 0 0), (5, .ptr (0, 3) 0 0)]), ((0, 1), .one [.str a2]), ((0, 2), .one [.str a3]), ((0, 3), .one [.msl (0, 4) 1 0 a4.length true]), ((0, 4), .rows 1 (holeR e_sl_i64 a4 (0 + a0.toNat) (.msl (3, 0) 1 0 v8.length true))), ((3, 0), .rows 1 (v8.map e_i64))] 4 := by
  unfold S_fuzzy_suffixScores_round_j5 at h
  refine seqI ?_
  refine regI ?_
  refine condI (v := (v16 != (-1))) rfl TT (fun h48 => ?_) (fun h48 => ?_)
  · have h := ite_tt h48 h
    refine drawI ?_
    obtain ⟨h49, h⟩ := ite_some h
    refine AI h49 ?_
    obtain ⟨h50, h⟩ := ite_some h
    refine EX ([.msl (3, 0) 1 0 v8.length true]) (AI (hole_rowI h50) (AI (AI (hole_lt h50) (NB rfl)) ?_))
    obtain ⟨h51, h⟩ := ite_some h
    refine AI h51 ?_
    obtain ⟨v17, h52, h⟩ := bind_some h
    refine PFn.call (f23_ok h52) (AI (VS rfl) (AI (VS rfl) (AI (VS rfl) TT))) ?_
    refine AI (AI (AI (hole_lt h50) (NB rfl)) (congrArg (cellsAt false 1 0) (hole_rowI h50))) ?_
    refine AI rfl ?_
    obtain ⟨h53, h⟩ := ite_some h
    refine AI h53 ?_
    obtain ⟨h54, h⟩ := ite_some h
    refine EX ((v8.set (0 + v7.toNat) (W (v17 + v16))).map e_i64) (AI (set_enc e_i64 _ _ _ _ _ h54 rfl) (AI (AI rfl (AI (lt_map e_i64 h54) (NB rfl))) ?_))
    refine LWp.sim ?_ (f1000000b0_j6_ok h)
    exact simI (M := [((3, 0), (3, 0))]) rfl (AI (Vw.ptr _ _ _ _ rfl) (AI (Vw.ptr _ _ _ _ rfl) (AI (Vw.ptr _ _ _ _ rfl) (AI (VS rfl) (AI (VS rfl) (AI (VS rfl) TT)))))) (AI (AI rfl (BVw.lrecL (AI (AI rfl (Vw.ptr _ _ _ _ rfl)) (AI (AI rfl (Vw.ptr _ _ _ _ rfl)) (AI (AI rfl (Vw.ptr _ _ _ _ rfl)) TT))))) (AI (AI rfl (BVw.oneL (AI (VS rfl) TT))) (AI (AI rfl (BVw.oneL (AI (VS rfl) TT))) (AI (AI rfl (BVw.oneL (AI (Vw.mslE rfl (by first | rfl | omega | (simp; done) | (simp at *; omega)) rfl) TT))) (AI (AI rfl (BVw.hole e_sl_i64_nid (Vw.mslE rfl (by first | rfl | omega | (simp; done) | (simp at *; omega)) rfl))) (AI (AI rfl (BVw.enc e_i64 (fun _ => rfl) _ (v8.set (0 + v7.toNat) (W (v17 + v16))))) TT))))))
  · have h := ite_ff h48 h
    refine skipI ?_
    refine LWp.sim ?_ (f1000000b0_j6_ok h)
    exact simI (M := [((3, 0), (3, 0))]) rfl (AI (Vw.ptr _ _ _ _ rfl) (AI (Vw.ptr _ _ _ _ rfl) (AI (Vw.ptr _ _ _ _ rfl) (AI (VS rfl) (AI (VS rfl) (AI (VS rfl) TT)))))) (AI (AI rfl (BVw.lrecL (AI (AI rfl (Vw.ptr _ _ _ _ rfl)) (AI (AI rfl (Vw.ptr _ _ _ _ rfl)) (AI (AI rfl (Vw.ptr _ _ _ _ rfl)) TT))))) (AI (AI rfl (BVw.oneL (AI (VS rfl) TT))) (AI (AI rfl (BVw.oneL (AI (VS rfl) TT))) (AI (AI rfl (BVw.oneL (AI (Vw.mslE rfl (by first | rfl | omega | (simp; done) | (simp at *; omega)) rfl) TT))) (AI (AI rfl (BVw.hole e_sl_i64_nid (Vw.mslE rfl (by first | rfl | omega | (simp; done) | (simp at *; omega)) rfl))) (AI (AI rfl (BVw.enc e_i64 (fun _ => rfl) _ v8)) TT))))))

noncomputable def S_fuzzy_suffixScores_round_b1 (m : Option Nat) (a0 : Int) (a2 : List UInt8) (a3 : List UInt8) (a4 : List (List Int)) (v7 : Int) (v8 : List Int) : Option ((Int × (List Int)) ⊕ (Bool × (List (List Int)))) :=
  if (decide (v7 < (a3.length : Int))) = true then
    if (0 : Int) ≤ a0 ∧ a0 < (a2.length : Int) then
    if (0 : Int) ≤ v7 ∧ v7 < (a3.length : Int) then
    (S_fuzzy_EqualFold m (((a2.getD a0.toNat 0).toNat : Nat) : Int) (((a3.getD v7.toNat 0).toNat : Nat) : Int)).bind fun v14 =>
    if (!v14) = true then
      S_fuzzy_suffixScores_round_j6 m a0 a2 a3 a4 v7 v8
    else
      if (decide ((W (a0 + 1)) < (a2.length : Int))) = true then
        if (0 : Int) ≤ (W (a0 + 1)) ∧ (W (a0 + 1)) < ((a4.length : Nat) : Int) then
        if (0 + (W (a0 + 1)).toNat) < a4.length then
        if (0 + (W (a0 + 1)).toNat) ≠ (0 + a0.toNat) then
        (S_fuzzy_best m (a4.getD (0 + (W (a0 + 1)).toNat) default) v7).bind fun v15 =>
        S_fuzzy_suffixScores_round_j5 m a0 a2 a3 a4 v7 v8 v15.1
        else none
        else none
        else none
      else
        S_fuzzy_suffixScores_round_j5 m a0 a2 a3 a4 v7 v8 0
    else none
    else none
  else
    Option.map Sum.inr (
      some (true, (a4.set (0 + a0.toNat) v8)))

noncomputable def S_fuzzy_suffixScores_round_l1 (m : Option Nat) (a0 : Int) (a2 : List UInt8) (a3 : List UInt8) (a4 : List (List Int)) (v7 : Int) (v8 : List Int) : Option (Bool × (List (List Int))) := loopM m (fun (s : (Int × (List Int))) => S_fuzzy_suffixScores_round_b1 m a0 a2 a3 a4 s.1 s.2) (v7, v8)

theorem f1000000b0_L1_bok {l : Nat} {r : Loop} {a1 : List Int} {a0 : Int} {a2 : List UInt8} {a3 : List UInt8} {a4 : List (List Int)} {v7 : Int} {v8 : List Int} {m : Option Nat} {o : (Int × (List Int)) ⊕ (Bool × (List (List Int)))} (h : S_fuzzy_suffixScores_round_b1 m a0 a2 a3 a4 v7 v8 = some o) :
    LWp Try.prog f1000000b0_lay 3 f1000000b0_c2 (BodyQ 3 4 (f1000000b0_L1_env l r a0 a2 a3 a4) (f1000000b0_L1_hp l r a0 a2 a3 a4) (f1000000b0_L1_Q l r a0 a1 a2 a3 a4) o) [(2, .ptr (0, 1) 0 0), (3, .ptr (0, 2) 0 0), (5, .ptr (0, 3) 0 0), (6, .int .i64 a0), (24, .int .i64 (a3.length : Int)), (25, .int .i64 v7)] [((0, 0), .lrec l (busy r) [(2, .ptr (0, 1) 0 0), (3, .ptr (0, 2) 0 0), (5, .ptr (0, 3) 0 0)]), ((0, 1), .one [.str a2]), ((0, 2), .one [.str a3]), ((0, 3), .one [.msl (0, 4) 1 0 a4.length true]), ((0, 4), .rows 1 (holeR e_sl_i64 a4 (0 + a0.toNat) (.msl (3, 0) 1 0 v8.length true))), ((3, 0), .rows 1 (v8.map e_i64))] 4 := by
  unfold S_fuzzy_suffixScores_round_b1 at h
  refine seqI ?_
  refine regI ?_
  refine seqI ?_
  refine condI (v := (decide (v7 < (a3.length : Int)))) rfl TT (fun h38 => ?_) (fun h38 => ?_)
  · have h := ite_tt h38 h
    refine skipI ?_
    refine seqI ?_
    refine blockI ?_
    refine seqI ?_
    refine regI ?_
    refine seqI ?_
    refine seqI ?_
    refine drawO rfl ?_
    obtain ⟨h39, h⟩ := ite_some h
    refine AI h39 ?_
    obtain ⟨h40, h⟩ := ite_some h
    refine AI h40 ?_
    obtain ⟨v14, h41, h⟩ := bind_some h
    refine PFn.call (f9_ok h41) (AI (VS rfl) (AI (VS rfl) TT)) ?_
    refine LWp.sim (e := [(2, .ptr (0, 1) 0 0), (3, .ptr (0, 2) 0 0), (5, .ptr (0, 3) 0 0), (6, .int .i64 a0), (7, .int .i64 v7), (24, .int .i64 (a3.length : Int)), (25, .int .i64 v7), (35, .bool (!v14))]) (L := [((0, 0), .lrec l (busy r) [(2, .ptr (0, 1) 0 0), (3, .ptr (0, 2) 0 0), (5, .ptr (0, 3) 0 0)]), ((0, 1), .one [.str a2]), ((0, 2), .one [.str a3]), ((0, 3), .one [.msl (0, 4) 1 0 a4.length true]), ((0, 4), .rows 1 (holeR e_sl_i64 a4 (0 + a0.toNat) (.msl (3, 0) 1 0 v8.length true))), ((3, 0), .rows 1 (v8.map e_i64))]) (n := 4) ?_ ?_
    · exact simI (M := [((3, 0), (3, 0))]) rfl (AI (Vw.ptr _ _ _ _ rfl) (AI (Vw.ptr _ _ _ _ rfl) (AI (Vw.ptr _ _ _ _ rfl) (AI (VS rfl) (AI (VS rfl) (AI (VS rfl) (AI (VS rfl) (AI (VS rfl) TT)))))))) (AI (AI rfl (BVw.lrecL (AI (AI rfl (Vw.ptr _ _ _ _ rfl)) (AI (AI rfl (Vw.ptr _ _ _ _ rfl)) (AI (AI rfl (Vw.ptr _ _ _ _ rfl)) TT))))) (AI (AI rfl (BVw.oneL (AI (VS rfl) TT))) (AI (AI rfl (BVw.oneL (AI (VS rfl) TT))) (AI (AI rfl (BVw.oneL (AI (Vw.mslE rfl (by first | rfl | omega | (simp; done) | (simp at *; omega)) rfl) TT))) (AI (AI rfl (BVw.hole e_sl_i64_nid (Vw.mslE rfl (by first | rfl | omega | (simp; done) | (simp at *; omega)) rfl))) (AI (AI rfl (BVw.enc e_i64 (fun _ => rfl) _ v8)) TT))))))
    refine condI (v := (!v14)) rfl TT (fun h42 => ?_) (fun h42 => ?_)
    · have h := ite_tt h42 h
      refine exitI ?_
      refine LWp.sim ?_ (f1000000b0_j6_ok h)
      exact simI (M := [((3, 0), (3, 0))]) rfl (AI (Vw.ptr _ _ _ _ rfl) (AI (Vw.ptr _ _ _ _ rfl) (AI (Vw.ptr _ _ _ _ rfl) (AI (VS rfl) (AI (VS rfl) (AI (VS rfl) TT)))))) (AI (AI rfl (BVw.lrecL (AI (AI rfl (Vw.ptr _ _ _ _ rfl)) (AI (AI rfl (Vw.ptr _ _ _ _ rfl)) (AI (AI rfl (Vw.ptr _ _ _ _ rfl)) TT))))) (AI (AI rfl (BVw.oneL (AI (VS rfl) TT))) (AI (AI rfl (BVw.oneL (AI (VS rfl) TT))) (AI (AI rfl (BVw.oneL (AI (Vw.mslE rfl (by first | rfl | omega | (simp; done) | (simp at *; omega)) rfl) TT))) (AI (AI rfl (BVw.hole e_sl_i64_nid (Vw.mslE rfl (by first | rfl | omega | (simp; done) | (simp at *; omega)) rfl))) (AI (AI rfl (BVw.enc e_i64 (fun _ => rfl) _ v8)) TT))))))
    · have h := ite_ff h42 h
      refine skipI ?_
      refine seqI ?_
      refine regI ?_
      refine seqI ?_
      refine seqI ?_
      refine regI ?_
      refine condI (v := (decide ((W (a0 + 1)) < (a2.length : Int)))) rfl TT (fun h43 => ?_) (fun h43 => ?_)
      · have h := ite_tt h43 h
        refine regI ?_
        obtain ⟨h44, h⟩ := ite_some h
        refine AI h44 ?_
        obtain ⟨h45, h⟩ := ite_some h
        obtain ⟨h46, h⟩ := ite_some h
        refine EX (e_sl_i64 (a4.getD (0 + (W (a0 + 1)).toNat) default)) (AI (hole_rowN h45 h46) (AI (AI (hole_lt h45) (NB rfl)) ?_))
        obtain ⟨v15, h47, h⟩ := bind_some h
        refine PFn.call (f12_ok h47) (AI (VS rfl) (AI (VS rfl) TT)) ?_
        refine LWp.sim ?_ (f1000000b0_j5_ok h)
        exact simI (M := [((3, 0), (3, 0))]) rfl (AI (Vw.ptr _ _ _ _ rfl) (AI (Vw.ptr _ _ _ _ rfl) (AI (Vw.ptr _ _ _ _ rfl) (AI (VS rfl) (AI (VS rfl) (AI (VS rfl) (AI (VS rfl) (AI (VS rfl) TT)))))))) (AI (AI rfl (BVw.lrecL (AI (AI rfl (Vw.ptr _ _ _ _ rfl)) (AI (AI rfl (Vw.ptr _ _ _ _ rfl)) (AI (AI rfl (Vw.ptr _ _ _ _ rfl)) TT))))) (AI (AI rfl (BVw.oneL (AI (VS rfl) TT))) (AI (AI rfl (BVw.oneL (AI (VS rfl) TT))) (AI (AI rfl (BVw.oneL (AI (Vw.mslE rfl (by first | rfl | omega | (simp; done) | (simp at *; omega)) rfl) TT))) (AI (AI rfl (BVw.hole e_sl_i64_nid (Vw.mslE rfl (by first | rfl | omega | (simp; done) | (simp at *; omega)) rfl))) (AI (AI rfl (BVw.enc e_i64 (fun _ => rfl) _ v8)) TT))))))
      · have h := ite_ff h43 h
        refine skipI ?_
        refine LWp.sim ?_ (f1000000b0_j5_ok h)
        exact simI (M := [((3, 0), (3, 0))]) rfl (AI (Vw.ptr _ _ _ _ rfl) (AI (Vw.ptr _ _ _ _ rfl) (AI (Vw.ptr _ _ _ _ rfl) (AI (VS rfl) (AI (VS rfl) (AI (VS rfl) (AI (VS rfl) (AI (VS rfl) TT)))))))) (AI (AI rfl (BVw.lrecL (AI (AI rfl (Vw.ptr _ _ _ _ rfl)) (AI (AI rfl (Vw.ptr _ _ _ _ rfl)) (AI (AI rfl (Vw.ptr _ _ _ _ rfl)) TT))))) (AI (AI rfl (BVw.oneL (AI (VS rfl) TT))) (AI (AI rfl (BVw.oneL (AI (VS rfl) TT))) (AI (AI rfl (BVw.oneL (AI (Vw.mslE rfl (by first | rfl | omega | (simp; done) | (simp at *; omega)) rfl) TT))) (AI (AI rfl (BVw.hole e_sl_i64_nid (Vw.mslE rfl (by first | rfl | omega | (simp; done) | (simp at *; omega)) rfl))) (AI (AI rfl (BVw.enc e_i64 (fun _ => rfl) _ v8)) TT))))))
  · have h := ite_ff h38 h
    refine exitI ?_
    obtain ⟨o, hq, rfl⟩ := Option.map_eq_some_iff.1 h
    replace h := hq; clear hq
    refine AI nofun ?_
    cases h
    exact AI rfl (EX _ (AI rfl (finI (n' := 4) [] [(3, 0)] rfl rfl (VS rfl) (AI (AI rfl (BVw.lrecL (AI (AI rfl (Vw.ptr _ _ _ _ rfl)) (AI (AI rfl (Vw.ptr _ _ _ _ rfl)) (AI (AI rfl (Vw.ptr _ _ _ _ rfl)) TT))))) (AI (AI rfl (BVw.oneL (AI (VS rfl) TT))) (AI (AI rfl (BVw.oneL (AI (VS rfl) TT))) (AI (AI rfl (BVw.oneL (AI (Vw.mslE rfl (by first | rfl | omega | (simp; done) | (simp at *; omega)) rfl) TT))) (AI (AI rfl (BVw.holeFrz e_sl_i64_nid rfl (Vw.frzB e_i64 e_i64_ok (fun h => Bool.noConfusion h) rfl rfl (by first | rfl | omega | (simp; done) | (simp at *; omega))))) TT))))))))

theorem f1000000b0_L1_ok {l : Nat} {r : Loop} {a1 : List Int} {a0 : Int} {a2 : List UInt8} {a3 : List UInt8} {a4 : List (List Int)} {v7 : Int} {v8 : List Int} {m : Option Nat} {o : (Bool × (List (List Int)))} (h : S_fuzzy_suffixScores_round_l1 m a0 a2 a3 a4 v7 v8 = some o) :
    LWp Try.prog f1000000b0_lay 3 (.loop f1000000b0_c2) (QBlock 2 (QBlock 1 (f1000000b0_Q l r a0 a1 a2 a3 a4 o))) [(2, .ptr (0, 1) 0 0), (3, .ptr (0, 2) 0 0), (5, .ptr (0, 3) 0 0), (6, .int .i64 a0), (24, .int .i64 (a3.length : Int)), (25, .int .i64 v7)] [((0, 0), .lrec l (busy r) [(2, .ptr (0, 1) 0 0), (3, .ptr (0, 2) 0 0), (5, .ptr (0, 3) 0 0)]), ((0, 1), .one [.str a2]), ((0, 2), .one [.str a3]), ((0, 3), .one [.msl (0, 4) 1 0 a4.length true]), ((0, 4), .rows 1 (holeR e_sl_i64 a4 (0 + a0.toNat) (.msl (3, 0) 1 0 v8.length true))), ((3, 0), .rows 1 (v8.map e_i64))] 4 :=
  LWp_loopM (m := m) (s := ((v7, v8) : (Int × (List Int)))) (r := o) (fun (s : (Int × (List Int))) => S_fuzzy_suffixScores_round_b1 m a0 a2 a3 a4 s.1 s.2) (f1000000b0_L1_env l r a0 a2 a3 a4) (f1000000b0_L1_hp l r a0 a2 a3 a4) (f1000000b0_L1_Q l r a0 a1 a2 a3 a4) (fun s o h => f1000000b0_L1_bok h) h

noncomputable def S_fuzzy_suffixScores_round (m : Option Nat) (a0 : Int) (a1 : List Int) (a2 : List UInt8) (a3 : List UInt8) (a4 : List (List Int)) : Option (Bool × (List (List Int))) :=
  (S_slices_Repeat_int m ([(-1)] : List Int) (a3.length : Int)).bind fun v1 =>
  if (0 : Int) ≤ a0 ∧ a0 < ((a4.length : Nat) : Int) then
  if (0 + a0.toNat) < a4.length then
  S_fuzzy_suffixScores_round_l1 m a0 a2 a3 a4 0 v1
  else none
  else none

theorem f1000000b0_start {l : Nat} {r : Loop} {a0 : Int} {a1 : List Int} {a2 : List UInt8} {a3 : List UInt8} {a4 : List (List Int)} {m : Option Nat} {o : Bool × (List (List Int))} (h : S_fuzzy_suffixScores_round m a0 a1 a2 a3 a4 = some o) : LWp Try.prog f1000000b0_lay 3 f1000000b0_c3 (QAsg (0, 0) l r Try.prog f1000000b0_lay0 3 f1000000b0_c4 (f1000000b0_Q l r a0 a1 a2 a3 a4 o)) (putPs [(2, .ptr (0, 1) 0 0), (3, .ptr (0, 2) 0 0), (5, .ptr (0, 3) 0 0)] [14, 15] [.int .i64 a0, .isl 1 (a1.map e_i64) false]) [((0, 0), .lrec l r [(2, .ptr (0, 1) 0 0), (3, .ptr (0, 2) 0 0), (5, .ptr (0, 3) 0 0)]), ((0, 1), .one [.str a2]), ((0, 2), .one [.str a3]), ((0, 3), .one [.msl (0, 4) 1 0 a4.length true]), ((0, 4), .rows 1 (a4.map e_sl_i64))] 3 := by
  unfold S_fuzzy_suffixScores_round at h
  refine regI ?_
  refine AI rfl (EX _ (AI rfl ?_))
  refine LWp.sim (e := [(2, .ptr (0, 1) 0 0), (3, .ptr (0, 2) 0 0), (5, .ptr (0, 3) 0 0), (6, .int .i64 a0)]) (L := [((0, 0), .lrec l (busy r) [(2, .ptr (0, 1) 0 0), (3, .ptr (0, 2) 0 0), (5, .ptr (0, 3) 0 0)]), ((0, 1), .one [.str a2]), ((0, 2), .one [.str a3]), ((0, 3), .one [.msl (0, 4) 1 0 a4.length true]), ((0, 4), .rows 1 (a4.map e_sl_i64))]) (n := 3) ?_ ?_
  · exact simI (M := []) rfl (AI (Vw.ptr _ _ _ _ rfl) (AI (Vw.ptr _ _ _ _ rfl) (AI (Vw.ptr _ _ _ _ rfl) (AI (VS rfl) TT)))) (AI (AI rfl (BVw.lrecL (AI (AI rfl (Vw.ptr _ _ _ _ rfl)) (AI (AI rfl (Vw.ptr _ _ _ _ rfl)) (AI (AI rfl (Vw.ptr _ _ _ _ rfl)) TT))))) (AI (AI rfl (BVw.oneL (AI (VS rfl) TT))) (AI (AI rfl (BVw.oneL (AI (VS rfl) TT))) (AI (AI rfl (BVw.oneL (AI (Vw.mslE rfl (by first | rfl | omega | (simp; done) | (simp at *; omega)) rfl) TT))) (AI (AI rfl (BVw.enc e_sl_i64 (fun _ => rfl) _ a4)) TT)))))
  refine blockI ?_
  refine seqI ?_
  refine drawI ?_
  obtain ⟨v1, h1, h⟩ := bind_some h
  refine bcall (k := 3) (m := 1) (L' := [((3, 0), .rows 1 (v1.map e_i64))]) (rest := [((0, 0), .lrec l (busy r) [(2, .ptr (0, 1) 0 0), (3, .ptr (0, 2) 0 0), (5, .ptr (0, 3) 0 0)]), ((0, 1), .one [.str a2]), ((0, 2), .one [.str a3]), ((0, 3), .one [.msl (0, 4) 1 0 a4.length true]), ((0, 4), .rows 1 (a4.map e_sl_i64))]) (R' := .msl (3, 0) 1 0 v1.length true) [] (f22b0_ok h1) rfl rfl rfl (AI (Vw.islF _ _ _) (AI (VS rfl) TT)) TT rfl (AI rfl (AI (rows_ren e_i64 (fun _ => rfl) _ _) TT)) rfl ?_
  refine AI rfl ?_
  obtain ⟨h2, h⟩ := ite_some h
  refine AI h2 ?_
  obtain ⟨h3, h⟩ := ite_some h
  refine EX (holeR e_sl_i64 a4 (0 + a0.toNat) (.msl (3, 0) 1 0 v1.length true)) (AI (hole_set (fun _ => rfl) h3) (AI (AI rfl (AI (lt_map e_sl_i64 h3) (NB rfl))) ?_))
  refine LWp.sim (e := [(2, .ptr (0, 1) 0 0), (3, .ptr (0, 2) 0 0), (5, .ptr (0, 3) 0 0), (6, .int .i64 a0)]) (L := [((0, 0), .lrec l (busy r) [(2, .ptr (0, 1) 0 0), (3, .ptr (0, 2) 0 0), (5, .ptr (0, 3) 0 0)]), ((0, 1), .one [.str a2]), ((0, 2), .one [.str a3]), ((0, 3), .one [.msl (0, 4) 1 0 a4.length true]), ((0, 4), .rows 1 (holeR e_sl_i64 a4 (0 + a0.toNat) (.msl (3, 0) 1 0 v1.length true))), ((3, 0), .rows 1 (v1.map e_i64))]) (n := 4) ?_ ?_
  · exact simI (M := [((3, 0), (3, 0))]) rfl (AI (Vw.ptr _ _ _ _ rfl) (AI (Vw.ptr _ _ _ _ rfl) (AI (Vw.ptr _ _ _ _ rfl) (AI (VS rfl) TT)))) (AI (AI rfl (BVw.lrecL (AI (AI rfl (Vw.ptr _ _ _ _ rfl)) (AI (AI rfl (Vw.ptr _ _ _ _ rfl)) (AI (AI rfl (Vw.ptr _ _ _ _ rfl)) TT))))) (AI (AI rfl (BVw.oneL (AI (VS rfl) TT))) (AI (AI rfl (BVw.oneL (AI (VS rfl) TT))) (AI (AI rfl (BVw.oneL (AI (Vw.mslE rfl (by first | rfl | omega | (simp; done) | (simp at *; omega)) rfl) TT))) (AI (AI rfl (BVw.hole e_sl_i64_nid (Vw.mslE rfl (by first | rfl | omega | (simp; done) | (simp at *; omega)) rfl))) (AI (AI rfl (BVw.enc e_i64 (fun _ => rfl) _ v1)) TT))))))
  refine seqI ?_
  refine regI ?_
  refine blockI ?_
  refine LWp.sim ?_ (f1000000b0_L1_ok h)
  exact simI (M := [((3, 0), (3, 0))]) rfl (AI (Vw.ptr _ _ _ _ rfl) (AI (Vw.ptr _ _ _ _ rfl) (AI (Vw.ptr _ _ _ _ rfl) (AI (VS rfl) (AI (VS rfl) (AI (VS rfl) TT)))))) (AI (AI rfl (BVw.lrecL (AI (AI rfl (Vw.ptr _ _ _ _ rfl)) (AI (AI rfl (Vw.ptr _ _ _ _ rfl)) (AI (AI rfl (Vw.ptr _ _ _ _ rfl)) TT))))) (AI (AI rfl (BVw.oneL (AI (VS rfl) TT))) (AI (AI rfl (BVw.oneL (AI (VS rfl) TT))) (AI (AI rfl (BVw.oneL (AI (Vw.mslE rfl (by first | rfl | omega | (simp; done) | (simp at *; omega)) rfl) TT))) (AI (AI rfl (BVw.hole e_sl_i64_nid (Vw.mslE rfl (by first | rfl | omega | (simp; done) | (simp at *; omega)) rfl))) (AI (AI rfl (BVw.enc e_i64 (fun _ => rfl) _ v1)) TT))))))

theorem f1000000b0_ok {l : Nat} {r : Loop} {a0 : Int} {a1 : List Int} {a2 : List UInt8} {a3 : List UInt8} {a4 : List (List Int)} {m : Option Nat} {o : Bool × (List (List Int))} (hr : RecOf Try.prog f1000000b0_lay0 [14, 15] f1000000b0_c3 f1000000b0_c4 r) (h : S_fuzzy_suffixScores_round m a0 a1 a2 a3 a4 = some o) : ACalls Try.prog (.yield l) [.int .i64 a0, .isl 1 (a1.map e_i64) false] [((0, 0), .lrec l r [(2, .ptr (0, 1) 0 0), (3, .ptr (0, 2) 0 0), (5, .ptr (0, 3) 0 0)]), ((0, 1), .one [.str a2]), ((0, 2), .one [.str a3]), ((0, 3), .one [.msl (0, 4) 1 0 a4.length true]), ((0, 4), .rows 1 (a4.map e_sl_i64))] 3 (Gives 4 (.bool o.1) [((0, 0), .lrec l r [(2, .ptr (0, 1) 0 0), (3, .ptr (0, 2) 0 0), (5, .ptr (0, 3) 0 0)]), ((0, 1), .one [.str a2]), ((0, 2), .one [.str a3]), ((0, 3), .one [.msl (0, 4) 1 0 o.2.length true]), ((0, 4), .rows 1 (o.2.map e_sl_i64))]) := ACalls.fin (yields_of (k := (0, 0)) hr rfl rfl rfl (f1000000b0_start h))

def f29b0_c0 : LCode := (.seq (.seq (.region [⟨some 7, .mv (.t 3), none⟩,
   ⟨some 8, .bin .geq (.t 7) (.c (.int .i64 0)), none⟩])
 (.cond (.t 8)
  .skip
  (.exit 0)))
 (.seq (.block 1
  (.seq (.region [⟨some 11, .mv (.t 0), none⟩,
    ⟨some 12, .mv (.t 3), none⟩,
    ⟨some 13, .load false 1 (.t 1), none⟩,
    ⟨some 14, .mv (.t 3), none⟩,
    ⟨some 15, .iaddr 1 (.t 13) (.t 14), none⟩,
    ⟨some 16, .load false 1 (.t 15), none⟩,
    ⟨some 17, .callv (.t 11) [(.t 12), (.t 16)], none⟩,
    ⟨some 18, .un .not (.t 17), none⟩])
  (.cond (.t 18)
   .ret
   .skip)))
 (.region [⟨some 9, .mv (.t 3), none⟩,
   ⟨some 10, .bin .sub (.t 9) (.c (.int .i64 1)), none⟩,
   ⟨some 3, .mv (.t 10), none⟩])))
def f29b0_c1 : LCode := (.seq (.region [⟨some 4, .load false 1 (.t 1), none⟩,
   ⟨some 5, .len false (.t 4), none⟩,
   ⟨some 6, .bin .sub (.t 5) (.c (.int .i64 1)), none⟩,
   ⟨some 3, .mv (.t 6), none⟩])
 (.block 0
  (.loop
   f29b0_c0)))
def f29b0_lay : Lay := ⟨19, [], false⟩
def f29b0_res : List LRes := []
def f29b0_L : LFn := ⟨2, f29b0_lay, f29b0_c1, f29b0_res⟩
theorem f29b0_low : lowFn Try.prog [] 29 = some f29b0_L := by kernel_rfl
theorem f29b0_fok : FnOk Try.prog 29 := ⟨_, Try.func29, rfl, rfl⟩
def f29b0_Q (l : Nat) (r : Loop) (a0 : List UInt8) (a1 : List UInt8) (a2 : List (List Int)) (o : (List (List Int))) : Exit → Env → AHeap → Nat → Prop := FinK f29b0_res (FinTo 3 3 (.tup []) [((0, 0), .lrec l r [(2, .ptr (0, 2) 0 0), (3, .ptr (0, 3) 0 0), (5, .ptr (0, 4) 0 0)]), ((0, 1), .one [.msl (0, 5) 1 0 o.length true]), ((0, 2), .one [.str a0]), ((0, 3), .one [.str a1]), ((0, 4), .one [.msl (0, 5) 1 0 o.length true]), ((0, 5), .rows 1 (o.map e_sl_i64))])

def f29b0_L1_env (l : Nat) (r : Loop) (a0 : List UInt8) (a1 : List UInt8) (s : ((List (List Int)) × Int)) : Env := [(0, .fn (.yield l) [] []), (1, .ptr (0, 1) 0 0), (3, .int .i64 s.2)]
def f29b0_L1_hp (l : Nat) (r : Loop) (a0 : List UInt8) (a1 : List UInt8) (s : ((List (List Int)) × Int)) : AHeap := [((0, 0), .lrec l r [(2, .ptr (0, 2) 0 0), (3, .ptr (0, 3) 0 0), (5, .ptr (0, 4) 0 0)]), ((0, 1), .one [.msl (0, 5) 1 0 s.1.length true]), ((0, 2), .one [.str a0]), ((0, 3), .one [.str a1]), ((0, 4), .one [.msl (0, 5) 1 0 s.1.length true]), ((0, 5), .rows 1 (s.1.map e_sl_i64))]
def f29b0_L1_Q (l : Nat) (r : Loop) (a0 : List UInt8) (a1 : List UInt8) (a2 : List (List Int)) (o : (List (List Int))) : Exit → Env → AHeap → Nat → Prop := (QBlock 0 (f29b0_Q l r a0 a1 a2 o))

noncomputable def S_slices_Backward_int_1_b1 (m : Option Nat) (a0 : List UInt8) (a1 : List UInt8) (v2 : List (List Int)) (v3 : Int) : Option (((List (List Int)) × Int) ⊕ (List (List Int))) :=
  if (decide (v3 ≥ 0)) = true then
    if (0 : Int) ≤ v3 ∧ v3 < ((v2.length : Nat) : Int) then
    if (0 + v3.toNat) < v2.length then
    (S_fuzzy_suffixScores_round m v3 (v2.getD (0 + v3.toNat) default) a0 a1 v2).bind fun v5 =>
    if v5.2.length = v2.length then
    if (!v5.1) = true then
      Option.map Sum.inr (
        some v5.2)
    else
      some (.inl (v5.2, (W (v3 - 1))))
    else none
    else none
    else none
  else
    Option.map Sum.inr (
      some v2)

noncomputable def S_slices_Backward_int_1_l1 (m : Option Nat) (a0 : List UInt8) (a1 : List UInt8) (v2 : List (List Int)) (v3 : Int) : Option (List (List Int)) := loopM m (fun (s : ((List (List Int)) × Int)) => S_slices_Backward_int_1_b1 m a0 a1 s.1 s.2) (v2, v3)

theorem f29b0_L1_bok {l : Nat} {r : Loop} (hr : RND0_R r) {a2 : List (List Int)} {a0 : List UInt8} {a1 : List UInt8} {v2 : List (List Int)} {v3 : Int} {m : Option Nat} {o : ((List (List Int)) × Int) ⊕ (List (List Int))} (h : S_slices_Backward_int_1_b1 m a0 a1 v2 v3 = some o) :
    LWp Try.prog f29b0_lay 3 f29b0_c0 (BodyQ 3 3 (f29b0_L1_env l r a0 a1) (f29b0_L1_hp l r a0 a1) (f29b0_L1_Q l r a0 a1 a2) o) [(0, .fn (.yield l) [] []), (1, .ptr (0, 1) 0 0), (3, .int .i64 v3)] [((0, 0), .lrec l r [(2, .ptr (0, 2) 0 0), (3, .ptr (0, 3) 0 0), (5, .ptr (0, 4) 0 0)]), ((0, 1), .one [.msl (0, 5) 1 0 v2.length true]), ((0, 2), .one [.str a0]), ((0, 3), .one [.str a1]), ((0, 4), .one [.msl (0, 5) 1 0 v2.length true]), ((0, 5), .rows 1 (v2.map e_sl_i64))] 3 := by
  unfold S_slices_Backward_int_1_b1 at h
  refine seqI ?_
  refine seqI ?_
  refine regI ?_
  refine condI (v := (decide (v3 ≥ 0))) rfl TT (fun h13 => ?_) (fun h13 => ?_)
  · have h := ite_tt h13 h
    refine skipI ?_
    refine seqI ?_
    refine blockI ?_
    refine seqI ?_
    refine regI ?_
    obtain ⟨h14, h⟩ := ite_some h
    refine AI h14 ?_
    obtain ⟨h15, h⟩ := ite_some h
    refine EX (e_sl_i64 (v2.getD (0 + v3.toNat) default)) (AI (getD_enc e_sl_i64 _ _ h15) (AI (AI (lt_map e_sl_i64 h15) (NB rfl)) ?_))
    obtain ⟨v5, h16, h⟩ := bind_some h
    refine AI rfl (bcall (k := 3) (m := 1) (L' := [((0, 0), .lrec l r [(2, .ptr (0, 2) 0 0), (3, .ptr (0, 3) 0 0), (5, .ptr (0, 4) 0 0)]), ((0, 2), .one [.str a0]), ((0, 3), .one [.str a1]), ((0, 4), .one [.msl (0, 5) 1 0 v5.2.length true]), ((0, 5), .rows 1 (v5.2.map e_sl_i64))]) (rest := [((0, 1), .one [.msl (0, 5) 1 0 v2.length true])]) (R' := .bool v5.1) [((0, 0), (0, 0)), ((0, 1), (0, 2)), ((0, 2), (0, 3)), ((0, 3), (0, 4)), ((0, 4), (0, 5))] (f1000000b0_ok hr h16) rfl rfl rfl (AI (VS rfl) (AI (VS rfl) TT)) (AI (h0I (0, 0) rfl rfl (BVw.lrecL (AI (AI rfl (Vw.ptr _ _ _ _ rfl)) (AI (AI rfl (Vw.ptr _ _ _ _ rfl)) (AI (AI rfl (Vw.ptr _ _ _ _ rfl)) TT))))) (AI (h0I (0, 2) rfl rfl (BVw.oneL (AI (VS rfl) TT))) (AI (h0I (0, 3) rfl rfl (BVw.oneL (AI (VS rfl) TT))) (AI (h0I (0, 4) rfl rfl (BVw.oneL (AI (Vw.mslE rfl (by first | rfl | omega | (simp; done) | (simp at *; omega)) rfl) TT))) (AI (h0I (0, 5) rfl rfl (BVw.enc e_sl_i64 (fun _ => rfl) _ v2)) TT))))) (nid_ren _ rfl) (AI rfl (AI rfl (AI rfl (AI rfl (AI rfl (AI rfl (AI rfl (AI rfl (AI rfl (AI (rows_ren e_sl_i64 (fun _ => rfl) _ _) TT)))))))))) rfl ?_)
    obtain ⟨h17, h⟩ := ite_some h
    refine LWp.sim (e := [(0, .fn (.yield l) [] []), (1, .ptr (0, 1) 0 0), (3, .int .i64 v3), (18, .bool (!v5.1))]) (L := [((0, 0), .lrec l r [(2, .ptr (0, 2) 0 0), (3, .ptr (0, 3) 0 0), (5, .ptr (0, 4) 0 0)]), ((0, 1), .one [.msl (0, 5) 1 0 v2.length true]), ((0, 2), .one [.str a0]), ((0, 3), .one [.str a1]), ((0, 4), .one [.msl (0, 5) 1 0 v5.2.length true]), ((0, 5), .rows 1 (v5.2.map e_sl_i64))]) (n := 3) ?_ ?_
    · exact simI (M := []) rfl (AI (VS rfl) (AI (Vw.ptr _ _ _ _ rfl) (AI (VS rfl) (AI (VS rfl) TT)))) (AI (AI rfl (BVw.lrecL (AI (AI rfl (Vw.ptr _ _ _ _ rfl)) (AI (AI rfl (Vw.ptr _ _ _ _ rfl)) (AI (AI rfl (Vw.ptr _ _ _ _ rfl)) TT))))) (AI (AI rfl (BVw.oneL (AI (Vw.mslE rfl (by first | rfl | omega | (simp; done) | (simp at *; omega)) rfl) TT))) (AI (AI rfl (BVw.oneL (AI (VS rfl) TT))) (AI (AI rfl (BVw.oneL (AI (VS rfl) TT))) (AI (AI rfl (BVw.oneL (AI (Vw.mslE rfl (by first | rfl | omega | (simp; done) | (simp at *; omega)) rfl) TT))) (AI (AI rfl (BVw.enc e_sl_i64 (fun _ => rfl) _ v5.2)) TT))))))
    refine condI (v := (!v5.1)) rfl TT (fun h18 => ?_) (fun h18 => ?_)
    · have h := ite_tt h18 h
      refine retI ?_
      obtain ⟨o, hq, rfl⟩ := Option.map_eq_some_iff.1 h
      replace h := hq; clear hq
      refine AI nofun ?_
      cases h
      exact finI (n' := 3) [] [] rfl rfl (VS rfl) (AI (AI rfl (BVw.lrecL (AI (AI rfl (Vw.ptr _ _ _ _ rfl)) (AI (AI rfl (Vw.ptr _ _ _ _ rfl)) (AI (AI rfl (Vw.ptr _ _ _ _ rfl)) TT))))) (AI (AI rfl (BVw.oneL (AI (Vw.mslE rfl (by first | rfl | omega | (simp; done) | (simp at *; omega)) rfl) TT))) (AI (AI rfl (BVw.oneL (AI (VS rfl) TT))) (AI (AI rfl (BVw.oneL (AI (VS rfl) TT))) (AI (AI rfl (BVw.oneL (AI (Vw.mslE rfl (by first | rfl | omega | (simp; done) | (simp at *; omega)) rfl) TT))) (AI (AI rfl (BVw.enc e_sl_i64 (fun _ => rfl) _ v5.2)) TT))))))
    · have h := ite_ff h18 h
      refine skipI ?_
      refine regI ?_
      cases h
      exact AI rfl (simI (M := []) rfl (AI (VS rfl) (AI (Vw.ptr _ _ _ _ rfl) (AI (VS rfl) TT))) (AI (AI rfl (BVw.lrecL (AI (AI rfl (Vw.ptr _ _ _ _ rfl)) (AI (AI rfl (Vw.ptr _ _ _ _ rfl)) (AI (AI rfl (Vw.ptr _ _ _ _ rfl)) TT))))) (AI (AI rfl (BVw.oneL (AI (Vw.mslE rfl (by first | rfl | omega | (simp; done) | (simp at *; omega)) rfl) TT))) (AI (AI rfl (BVw.oneL (AI (VS rfl) TT))) (AI (AI rfl (BVw.oneL (AI (VS rfl) TT))) (AI (AI rfl (BVw.oneL (AI (Vw.mslE rfl (by first | rfl | omega | (simp; done) | (simp at *; omega)) rfl) TT))) (AI (AI rfl (BVw.enc e_sl_i64 (fun _ => rfl) _ v5.2)) TT)))))))
  · have h := ite_ff h13 h
    refine exitI ?_
    obtain ⟨o, hq, rfl⟩ := Option.map_eq_some_iff.1 h
    replace h := hq; clear hq
    refine AI nofun ?_
    cases h
    exact finI (n' := 3) [] [] rfl rfl (VS rfl) (AI (AI rfl (BVw.lrecL (AI (AI rfl (Vw.ptr _ _ _ _ rfl)) (AI (AI rfl (Vw.ptr _ _ _ _ rfl)) (AI (AI rfl (Vw.ptr _ _ _ _ rfl)) TT))))) (AI (AI rfl (BVw.oneL (AI (Vw.mslE rfl (by first | rfl | omega | (simp; done) | (simp at *; omega)) rfl) TT))) (AI (AI rfl (BVw.oneL (AI (VS rfl) TT))) (AI (AI rfl (BVw.oneL (AI (VS rfl) TT))) (AI (AI rfl (BVw.oneL (AI (Vw.mslE rfl (by first | rfl | omega | (simp; done) | (simp at *; omega)) rfl) TT))) (AI (AI rfl (BVw.enc e_sl_i64 (fun _ => rfl) _ v2)) TT))))))

theorem f29b0_L1_ok {l : Nat} {r : Loop} (hr : RND0_R r) {a2 : List (List Int)} {a0 : List UInt8} {a1 : List UInt8} {v2 : List (List Int)} {v3 : Int} {m : Option Nat} {o : (List (List Int))} (h : S_slices_Backward_int_1_l1 m a0 a1 v2 v3 = some o) :
    LWp Try.prog f29b0_lay 3 (.loop f29b0_c0) (QBlock 0 (f29b0_Q l r a0 a1 a2 o)) [(0, .fn (.yield l) [] []), (1, .ptr (0, 1) 0 0), (3, .int .i64 v3)] [((0, 0), .lrec l r [(2, .ptr (0, 2) 0 0), (3, .ptr (0, 3) 0 0), (5, .ptr (0, 4) 0 0)]), ((0, 1), .one [.msl (0, 5) 1 0 v2.length true]), ((0, 2), .one [.str a0]), ((0, 3), .one [.str a1]), ((0, 4), .one [.msl (0, 5) 1 0 v2.length true]), ((0, 5), .rows 1 (v2.map e_sl_i64))] 3 :=
  LWp_loopM (m := m) (s := ((v2, v3) : ((List (List Int)) × Int))) (r := o) (fun (s : ((List (List Int)) × Int)) => S_slices_Backward_int_1_b1 m a0 a1 s.1 s.2) (f29b0_L1_env l r a0 a1) (f29b0_L1_hp l r a0 a1) (f29b0_L1_Q l r a0 a1 a2) (fun s o h => f29b0_L1_bok hr h) h

noncomputable def S_slices_Backward_int_1 (m : Option Nat) (a0 : List UInt8) (a1 : List UInt8) (a2 : List (List Int)) : Option (List (List Int)) :=
  S_slices_Backward_int_1_l1 m a0 a1 a2 (W (((a2.length : Nat) : Int) - 1))

theorem f29b0_start {l : Nat} {r : Loop} (hr : RND0_R r) {a0 : List UInt8} {a1 : List UInt8} {a2 : List (List Int)} {m : Option Nat} {o : (List (List Int))} (h : S_slices_Backward_int_1 m a0 a1 a2 = some o) : LWp Try.prog f29b0_lay 3 f29b0_c1 (f29b0_Q l r a0 a1 a2 o) (initEnv 0 [.fn (.yield l) [] [], .ptr (0, 1) 0 0]) [((0, 0), .lrec l r [(2, .ptr (0, 2) 0 0), (3, .ptr (0, 3) 0 0), (5, .ptr (0, 4) 0 0)]), ((0, 1), .one [.msl (0, 5) 1 0 a2.length true]), ((0, 2), .one [.str a0]), ((0, 3), .one [.str a1]), ((0, 4), .one [.msl (0, 5) 1 0 a2.length true]), ((0, 5), .rows 1 (a2.map e_sl_i64))] 3 := by
  unfold S_slices_Backward_int_1 at h
  refine seqI ?_
  refine regI ?_
  refine blockI ?_
  refine LWp.sim ?_ (f29b0_L1_ok hr h)
  exact simI (M := []) rfl (AI (VS rfl) (AI (Vw.ptr _ _ _ _ rfl) (AI (VS rfl) TT))) (AI (AI rfl (BVw.lrecL (AI (AI rfl (Vw.ptr _ _ _ _ rfl)) (AI (AI rfl (Vw.ptr _ _ _ _ rfl)) (AI (AI rfl (Vw.ptr _ _ _ _ rfl)) TT))))) (AI (AI rfl (BVw.oneL (AI (Vw.mslE rfl (by first | rfl | omega | (simp; done) | (simp at *; omega)) rfl) TT))) (AI (AI rfl (BVw.oneL (AI (VS rfl) TT))) (AI (AI rfl (BVw.oneL (AI (VS rfl) TT))) (AI (AI rfl (BVw.oneL (AI (Vw.mslE rfl (by first | rfl | omega | (simp; done) | (simp at *; omega)) rfl) TT))) (AI (AI rfl (BVw.enc e_sl_i64 (fun _ => rfl) _ a2)) TT))))))

theorem f29b0_ok {l : Nat} {r : Loop} (hr : RND0_R r) {a0 : List UInt8} {a1 : List UInt8} {a2 : List (List Int)} {m : Option Nat} {o : (List (List Int))} (h : S_slices_Backward_int_1 m a0 a1 a2 = some o) : ACalls Try.prog 29 [.fn (.yield l) [] [], .ptr (0, 1) 0 0] [((0, 0), .lrec l r [(2, .ptr (0, 2) 0 0), (3, .ptr (0, 3) 0 0), (5, .ptr (0, 4) 0 0)]), ((0, 1), .one [.msl (0, 5) 1 0 a2.length true]), ((0, 2), .one [.str a0]), ((0, 3), .one [.str a1]), ((0, 4), .one [.msl (0, 5) 1 0 a2.length true]), ((0, 5), .rows 1 (a2.map e_sl_i64))] 3 (Gives 3 (.tup []) [((0, 0), .lrec l r [(2, .ptr (0, 2) 0 0), (3, .ptr (0, 3) 0 0), (5, .ptr (0, 4) 0 0)]), ((0, 1), .one [.msl (0, 5) 1 0 o.length true]), ((0, 2), .one [.str a0]), ((0, 3), .one [.str a1]), ((0, 4), .one [.msl (0, 5) 1 0 o.length true]), ((0, 5), .rows 1 (o.map e_sl_i64))]) := bfn_of (L := f29b0_L) f29b0_low f29b0_fok (NB rfl) (f29b0_start hr h)

def f11_c0 : LCode := (.seq (.region [⟨some 68, .load false 1 (.t 5), none⟩,
   ⟨some 4, .mv (.t 68), none⟩])
 .ret)
def f11_c1 : LCode := (.seq (.region [⟨some 2, .box (.t 0), none⟩,
   ⟨some 3, .box (.t 1), none⟩,
   ⟨some 4, .mv (.c (.val (.slice none 0 0))), none⟩])
 (.seq (.region [⟨some 9, .load false 1 (.t 2), none⟩,
   ⟨some 10, .len true (.t 9), none⟩,
   ⟨some 11, .mkslice false 1 24 [(.isl 1 [] true)] (.t 10) (.t 10), none⟩,
   ⟨some 5, .alloc [(.isl 1 [] true)], none⟩,
   ⟨none, .store 1 (.t 5) (.t 11), none⟩])
 (.seq (.seq (.region [⟨some 12, .load false 1 (.t 5), none⟩,
   ⟨some 13, .call 21 [(.t 12)], none⟩])
 (.block 0
  (.rng (.t 13) [14, 15]
   (.region [⟨some 6, .mv (.t 14), none⟩])
   (.block 1
    (.seq (.draw [⟨⟨some 16, .load false 1 (.t 5), none⟩, []⟩,
      ⟨⟨some 17, .mv (.t 6), none⟩, []⟩,
      ⟨⟨some 19, .load false 1 (.t 3), none⟩, []⟩,
      ⟨⟨some 20, .len true (.t 19), none⟩, []⟩,
      ⟨⟨some 18, .mkSl true 1 [(.int .i64 0)] 1 [(0, (.c (.int .i64 (-1))))], none⟩, []⟩,
      ⟨⟨some 21, .call 22 [(.t 18), (.t 20)], none⟩, [0]⟩,
      ⟨⟨some 22, .iaddr 1 (.t 16) (.t 17), none⟩, []⟩,
      ⟨⟨none, .store 1 (.t 22) (.t 21), none⟩, []⟩])
    (.seq (.region [⟨some 23, .load false 1 (.t 3), none⟩,
      ⟨some 24, .len true (.t 23), none⟩,
      ⟨some 25, .mv (.c (.int .i64 0)), none⟩])
    (.block 2
     (.loop
      (.seq (.region [⟨some 26, .bin .lss (.t 25) (.t 24), none⟩])
      (.seq (.cond (.t 26)
       .skip
       (.exit 2))
      (.seq (.block 3
       (.seq (.region [⟨some 27, .mv (.t 25), none⟩,
         ⟨some 7, .mv (.t 27), none⟩])
       (.seq (.seq (.draw [⟨⟨some 28, .load false 1 (.t 2), none⟩, []⟩,
         ⟨⟨some 29, .mv (.t 6), none⟩, []⟩,
         ⟨⟨some 30, .idxS (.t 28) (.t 29), none⟩, []⟩,
         ⟨⟨some 31, .load false 1 (.t 3), none⟩, []⟩,
         ⟨⟨some 32, .mv (.t 7), none⟩, []⟩,
         ⟨⟨some 33, .idxS (.t 31) (.t 32), none⟩, []⟩,
         ⟨⟨some 34, .call 9 [(.t 30), (.t 33)], none⟩, []⟩,
         ⟨⟨some 35, .un .not (.t 34), none⟩, []⟩])
       (.cond (.t 35)
        (.exit 3)
        .skip))
       (.seq (.region [⟨some 8, .mv (.c (.int .i64 0)), none⟩])
       (.seq (.seq (.region [⟨some 36, .mv (.t 6), none⟩,
         ⟨some 37, .bin .add (.t 36) (.c (.int .i64 1)), none⟩,
         ⟨some 38, .load false 1 (.t 2), none⟩,
         ⟨some 39, .len true (.t 38), none⟩,
         ⟨some 40, .bin .lss (.t 37) (.t 39), none⟩])
       (.cond (.t 40)
        (.region [⟨some 42, .load false 1 (.t 5), none⟩,
          ⟨some 43, .mv (.t 6), none⟩,
          ⟨some 44, .bin .add (.t 43) (.c (.int .i64 1)), none⟩,
          ⟨some 45, .iaddr 1 (.t 42) (.t 44), none⟩,
          ⟨some 46, .load false 1 (.t 45), none⟩,
          ⟨some 47, .mv (.t 7), none⟩,
          ⟨some 48, .call 12 [(.t 46), (.t 47)], none⟩,
          ⟨some 41, .mv (.t 48), none⟩,
          ⟨some 49, .ext 0 (.t 41), none⟩,
          ⟨some 50, .ext 1 (.t 41), none⟩,
          ⟨some 8, .mv (.t 49), none⟩])
        .skip))
       (.seq (.region [⟨some 51, .mv (.t 8), none⟩,
         ⟨some 52, .bin .neq (.t 51) (.c (.int .i64 (-1))), none⟩])
       (.cond (.t 52)
        (.draw [⟨⟨some 53, .load false 1 (.t 5), none⟩, []⟩,
          ⟨⟨some 54, .mv (.t 6), none⟩, []⟩,
          ⟨⟨some 55, .iaddr 1 (.t 53) (.t 54), none⟩, []⟩,
          ⟨⟨some 56, .load false 1 (.t 55), none⟩, []⟩,
          ⟨⟨some 57, .mv (.t 7), none⟩, []⟩,
          ⟨⟨some 58, .load false 1 (.t 2), none⟩, []⟩,
          ⟨⟨some 59, .mv (.t 6), none⟩, []⟩,
          ⟨⟨some 60, .idxS (.t 58) (.t 59), none⟩, []⟩,
          ⟨⟨some 61, .load false 1 (.t 3), none⟩, []⟩,
          ⟨⟨some 62, .mv (.t 7), none⟩, []⟩,
          ⟨⟨some 64, .mv (.t 8), none⟩, []⟩,
          ⟨⟨some 63, .call 23 [(.t 60), (.t 61), (.t 62)], none⟩, [0, 3]⟩,
          ⟨⟨some 65, .bin .add (.t 63) (.t 64), none⟩, []⟩,
          ⟨⟨some 66, .iaddr 1 (.t 56) (.t 57), none⟩, []⟩,
          ⟨⟨none, .store 1 (.t 66) (.t 65), none⟩, []⟩])
        .skip)))))))
      (.region [⟨some 67, .bin .add (.t 25) (.c (.int .i64 1)), none⟩,
        ⟨some 25, .mv (.t 67), none⟩]))))))))))))
 f11_c0)))
def f11_lay : Lay := ⟨69, [11], false⟩
def f11_res : List LRes := [.t 4]
def f11_L : LFn := ⟨2, f11_lay, f11_c1, f11_res⟩
theorem f11_low : lowFn Try.prog [11] 11 = some f11_L := by kernel_rfl
theorem f11_fok : FnOk Try.prog 11 := ⟨_, Try.func11, rfl, rfl⟩
noncomputable def S_fuzzy_suffixScores_j1 (m : Option Nat) (v2 : (List (List Int))) : Option (List (List Int)) :=
  some v2

def f11_Q (a0 : List UInt8) (a1 : List UInt8) (o : (List (List Int))) : Exit → Env → AHeap → Nat → Prop := FinK f11_res (PureEnd (.isl 1 (o.map e_sl_i64) false))

theorem f11_j1_ok {a0 : List UInt8} {a1 : List UInt8} {v2 : (List (List Int))} {m : Option Nat} {o : (List (List Int))} (h : S_fuzzy_suffixScores_j1 m v2 = some o) :
    LWp Try.prog f11_lay 0 f11_c0 (f11_Q a0 a1 o) [(5, .ptr (0, 0) 0 0)] [((0, 0), .one [.msl (1, 0) 1 0 v2.length true]), ((1, 0), .rows 1 (v2.map e_sl_i64))] 2 := by
  unfold S_fuzzy_suffixScores_j1 at h
  refine seqI ?_
  refine regI ?_
  refine retI ?_
  cases h
  exact AI TT (AI rfl (Vw.frzB e_sl_i64 e_sl_i64_ok (fun h => Bool.noConfusion h) rfl rfl (by first | rfl | omega | (simp; done) | (simp at *; omega))))

noncomputable def S_fuzzy_suffixScores (m : Option Nat) (a0 : List UInt8) (a1 : List UInt8) : Option (List (List Int)) :=
  if (0 : Int) ≤ (a0.length : Int) ∧ (a0.length : Int) ≤ (a0.length : Int) ∧ (a0.length : Int) * 24 ≤ 140737488355328 then
  (S_slices_Backward_int m (List.replicate (a0.length : Int).toNat ([] : List Int))).bind fun v1 =>
  (S_slices_Backward_int_1 m a0 a1 (List.replicate (a0.length : Int).toNat ([] : List Int))).bind fun v2 =>
  if v2.length = (List.replicate (a0.length : Int).toNat ([] : List Int)).length then
  S_fuzzy_suffixScores_j1 m v2
  else none
  else none

theorem f11_start {a0 : List UInt8} {a1 : List UInt8} {m : Option Nat} {o : (List (List Int))} (h : S_fuzzy_suffixScores m a0 a1 = some o) : LWp Try.prog f11_lay 0 f11_c1 (f11_Q a0 a1 o) (initEnv 0 [.str a0, .str a1]) [] 0 := by
  unfold S_fuzzy_suffixScores at h
  refine seqI ?_
  refine regI ?_
  refine seqI ?_
  refine regI ?_
  obtain ⟨h1, h⟩ := ite_some h
  refine EX ((List.replicate (a0.length : Int).toNat ([] : List Int)).map e_sl_i64) (EX true (AI (Or.inl (repl_enc e_sl_i64 (a0.length : Int).toNat ([] : List Int))) (AI (by simp) (AI h1 ?_))))
  refine LWp.sim (e := [(2, .ptr (0, 0) 0 0), (3, .ptr (1, 0) 0 0), (5, .ptr (2, 0) 0 0)]) (L := [((0, 0), .one [.str a0]), ((1, 0), .one [.str a1]), ((2, 0), .one [.msl (3, 0) 1 0 (((List.replicate (a0.length : Int).toNat ([] : List Int)).map e_sl_i64).length) true]), ((3, 0), .rows 1 ((List.replicate (a0.length : Int).toNat ([] : List Int)).map e_sl_i64))]) (n := 4) ?_ ?_
  · exact simI (M := [((0, 0), (0, 0)), ((1, 0), (1, 0)), ((2, 0), (3, 0)), ((3, 0), (2, 0))]) rfl (AI (Vw.ptr _ _ _ _ rfl) (AI (Vw.ptr _ _ _ _ rfl) (AI (Vw.ptr _ _ _ _ rfl) TT))) (AI (AI rfl (BVw.oneL (AI (VS rfl) TT))) (AI (AI rfl (BVw.oneL (AI (VS rfl) TT))) (AI (AI rfl (BVw.oneL (AI (Vw.mslE rfl (by first | rfl | omega | (simp; done) | (simp at *; omega)) rfl) TT))) (AI (AI rfl (BVw.enc e_sl_i64 (fun _ => rfl) _ (List.replicate (a0.length : Int).toNat ([] : List Int)))) TT))))
  refine seqI ?_
  refine seqI ?_
  refine regI ?_
  obtain ⟨v1, h2, h⟩ := bind_some h
  refine bcall (k := 3) (m := 1) (L' := [((3, 0), .rows 1 ((List.replicate (a0.length : Int).toNat ([] : List Int)).map e_sl_i64)), ((4, 0), .one [.msl (3, 0) 1 0 ((List.replicate (a0.length : Int).toNat ([] : List Int)).length) true])]) (rest := [((0, 0), .one [.str a0]), ((1, 0), .one [.str a1]), ((2, 0), .one [.msl (3, 0) 1 0 (((List.replicate (a0.length : Int).toNat ([] : List Int)).map e_sl_i64).length) true])]) (R' := .fn (.func 29) [] [.ptr (4, 0) 0 0]) [((0, 0), (3, 0))] (f21b0_ok h2) rfl rfl rfl (AI (Vw.mslE rfl (by first | rfl | omega | (simp; done) | (simp at *; omega)) rfl) TT) (AI (h0I (3, 0) rfl rfl (BVw.enc e_sl_i64 (fun _ => rfl) _ (List.replicate (a0.length : Int).toNat ([] : List Int)))) TT) rfl (AI rfl (AI (rows_ren e_sl_i64 (fun _ => rfl) _ _) (AI rfl (AI rfl TT)))) rfl ?_
  refine blockI ?_
  refine LWp.sim (e := [(2, .ptr (0, 0) 0 0), (3, .ptr (1, 0) 0 0), (5, .ptr (2, 0) 0 0), (13, .fn (.func 29) [] [.ptr (3, 0) 0 0])]) (L := [((0, 0), .one [.str a0]), ((1, 0), .one [.str a1]), ((2, 0), .one [.msl (4, 0) 1 0 (((List.replicate (a0.length : Int).toNat ([] : List Int)).map e_sl_i64).length) true]), ((3, 0), .one [.msl (4, 0) 1 0 ((List.replicate (a0.length : Int).toNat ([] : List Int)).length) true]), ((4, 0), .rows 1 ((List.replicate (a0.length : Int).toNat ([] : List Int)).map e_sl_i64))]) (n := 5) ?_ ?_
  · exact simI (M := [((0, 0), (0, 0)), ((1, 0), (1, 0)), ((2, 0), (2, 0)), ((3, 0), (4, 0)), ((4, 0), (3, 0))]) rfl (AI (Vw.ptr _ _ _ _ rfl) (AI (Vw.ptr _ _ _ _ rfl) (AI (Vw.ptr _ _ _ _ rfl) (AI (Vw.fnL TT (AI (Vw.ptr _ _ _ _ rfl) TT)) TT)))) (AI (AI rfl (BVw.oneL (AI (VS rfl) TT))) (AI (AI rfl (BVw.oneL (AI (VS rfl) TT))) (AI (AI rfl (BVw.oneL (AI (Vw.mslE rfl (by first | rfl | omega | (simp; done) | (simp at *; omega)) rfl) TT))) (AI (AI rfl (BVw.oneL (AI (Vw.mslE rfl (by first | rfl | omega | (simp; done) | (simp at *; omega)) rfl) TT))) (AI (AI rfl (BVw.enc e_sl_i64 (fun _ => rfl) _ (List.replicate (a0.length : Int).toNat ([] : List Int)))) TT)))))
  refine LWp_rng (gf := 29) (lb := [.ptr (3, 0) 0 0]) [(2, .ptr (0, 0) 0 0), (3, .ptr (1, 0) 0 0), (5, .ptr (2, 0) 0 0)] rfl TT (AI (rfl) (AI (rfl) (AI (rfl) TT))) (fun l r hr => ?_)
  obtain ⟨v2, h3, h⟩ := bind_some h
  refine bcall (k := 3) (m := 0) (L' := [((5, 0), .lrec l r [(2, .ptr (0, 0) 0 0), (3, .ptr (1, 0) 0 0), (5, .ptr (2, 0) 0 0)]), ((3, 0), .one [.msl (4, 0) 1 0 v2.length true]), ((0, 0), .one [.str a0]), ((1, 0), .one [.str a1]), ((2, 0), .one [.msl (4, 0) 1 0 v2.length true]), ((4, 0), .rows 1 (v2.map e_sl_i64))]) (rest := []) (R' := .tup []) [((0, 0), (5, 0)), ((0, 1), (3, 0)), ((0, 2), (0, 0)), ((0, 3), (1, 0)), ((0, 4), (2, 0)), ((0, 5), (4, 0))] (f29b0_ok hr h3) rfl rfl rfl (AI (VS rfl) (AI (Vw.ptr _ _ _ _ rfl) TT)) (AI (h0I (5, 0) rfl rfl (BVw.lrecL (AI (AI rfl (Vw.ptr _ _ _ _ rfl)) (AI (AI rfl (Vw.ptr _ _ _ _ rfl)) (AI (AI rfl (Vw.ptr _ _ _ _ rfl)) TT))))) (AI (h0I (3, 0) rfl rfl (BVw.oneL (AI (Vw.mslE rfl (by first | rfl | omega | (simp; done) | (simp at *; omega)) rfl) TT))) (AI (h0I (0, 0) rfl rfl (BVw.oneL (AI (VS rfl) TT))) (AI (h0I (1, 0) rfl rfl (BVw.oneL (AI (VS rfl) TT))) (AI (h0I (2, 0) rfl rfl (BVw.oneL (AI (Vw.mslE rfl (by first | rfl | omega | (simp; done) | (simp at *; omega)) rfl) TT))) (AI (h0I (4, 0) rfl rfl (BVw.enc e_sl_i64 (fun _ => rfl) _ (List.replicate (a0.length : Int).toNat ([] : List Int)))) TT)))))) (nid_ren _ rfl) (AI rfl (AI rfl (AI rfl (AI rfl (AI rfl (AI rfl (AI rfl (AI rfl (AI rfl (AI rfl (AI rfl (AI (rows_ren e_sl_i64 (fun _ => rfl) _ _) TT)))))))))))) rfl ?_
  obtain ⟨h4, h⟩ := ite_some h
  refine EX (5, 0) (EX _ (AI rfl ?_))
  refine LWp.sim (e := [(5, .ptr (0, 0) 0 0)]) (L := [((0, 0), .one [.msl (1, 0) 1 0 v2.length true]), ((1, 0), .rows 1 (v2.map e_sl_i64))]) (n := 2) ?_ ?_
  · exact simI (M := [((0, 0), (2, 0)), ((1, 0), (4, 0))]) rfl (AI (Vw.ptr _ _ _ _ rfl) TT) (AI (AI rfl (BVw.oneL (AI (Vw.mslE rfl (by first | rfl | omega | (simp; done) | (simp at *; omega)) rfl) TT))) (AI (AI rfl (BVw.enc e_sl_i64 (fun _ => rfl) _ v2)) TT))
  refine LWp.sim ?_ (f11_j1_ok h)
  exact simI (M := [((0, 0), (0, 0)), ((1, 0), (1, 0))]) rfl (AI (Vw.ptr _ _ _ _ rfl) TT) (AI (AI rfl (BVw.oneL (AI (Vw.mslE rfl (by first | rfl | omega | (simp; done) | (simp at *; omega)) rfl) TT))) (AI (AI rfl (BVw.enc e_sl_i64 (fun _ => rfl) _ v2)) TT))

theorem f11_ok {a0 : List UInt8} {a1 : List UInt8} {m : Option Nat} {o : (List (List Int))} (h : S_fuzzy_suffixScores m a0 a1 = some o) : PFn Try.prog 11 [.str a0, .str a1] (.isl 1 (o.map e_sl_i64) false) := PFn.ofFnW (L := f11_L) f11_low f11_fok (NB rfl) rfl (f11_start h)

def f6_c2 : LCode := (.region [⟨some 42, .mv (.t 7), none⟩,
   ⟨some 43, .mv (.t 13), none⟩,
   ⟨some 44, .mkSl true 1 [(.int .i64 0)] 1 [(0, (.t 43))], none⟩,
   ⟨some 45, .app true 1 8 (.t 42) (.t 44), none⟩,
   ⟨some 46, .mv (.t 13), none⟩,
   ⟨some 7, .mv (.t 45), none⟩,
   ⟨some 9, .mv (.t 46), none⟩])
def f6_c0 : LCode := (.region [⟨some 47, .bin .add (.t 26) (.c (.int .i64 1)), none⟩,
   ⟨some 26, .mv (.t 47), none⟩])
def f6_c3 : LCode := (.seq (.region [⟨some 27, .bin .lss (.t 26) (.t 25), none⟩])
 (.seq (.cond (.t 27)
  .skip
  (.exit 0))
 (.seq (.block 1
  (.seq (.region [⟨some 28, .mv (.t 26), none⟩,
    ⟨some 29, .iaddr 1 (.t 24) (.t 26), none⟩,
    ⟨some 30, .load false 1 (.t 29), none⟩,
    ⟨some 10, .mv (.t 28), none⟩,
    ⟨some 11, .mv (.t 30), none⟩])
  (.seq (.region [⟨some 32, .mv (.t 11), none⟩,
    ⟨some 33, .mv (.t 9), none⟩,
    ⟨some 34, .call 12 [(.t 32), (.t 33)], none⟩,
    ⟨some 31, .mv (.t 34), none⟩,
    ⟨some 35, .ext 0 (.t 31), none⟩,
    ⟨some 36, .ext 1 (.t 31), none⟩,
    ⟨some 12, .mv (.t 35), none⟩,
    ⟨some 13, .mv (.t 36), none⟩])
  (.seq (.seq (.region [⟨some 37, .mv (.t 12), none⟩,
    ⟨some 38, .bin .eql (.t 37) (.c (.int .i64 (-1))), none⟩])
  (.cond (.t 38)
   (.seq (.region [⟨some 4, .mv (.c (.int .i64 0)), none⟩,
     ⟨some 5, .mv (.c (.val (.slice none 0 0))), none⟩,
     ⟨some 6, .mv (.c (.bool false)), none⟩])
   .ret)
   .skip))
  (.seq (.seq (.region [⟨some 39, .mv (.t 10), none⟩,
    ⟨some 40, .bin .eql (.t 39) (.c (.int .i64 0)), none⟩])
  (.cond (.t 40)
   (.region [⟨some 41, .mv (.t 12), none⟩,
     ⟨some 8, .mv (.t 41), none⟩])
   .skip))
  f6_c2)))))
 f6_c0)))
def f6_c1 : LCode := (.seq (.region [⟨some 48, .mv (.t 8), none⟩,
   ⟨some 49, .mv (.t 7), none⟩,
   ⟨some 4, .mv (.t 48), none⟩,
   ⟨some 5, .mv (.t 49), none⟩,
   ⟨some 6, .mv (.c (.bool true)), none⟩])
 .ret)
def f6_c4 : LCode := (.seq (.region [⟨some 4, .mv (.c (.int .i64 0)), none⟩,
   ⟨some 5, .mv (.c (.val (.slice none 0 0))), none⟩,
   ⟨some 6, .mv (.c (.bool false)), none⟩])
 (.seq (.seq (.region [⟨some 14, .mv (.t 0), none⟩,
   ⟨some 15, .len true (.t 14), none⟩,
   ⟨some 16, .bin .gtr (.t 15) (.c (.int .i64 30)), none⟩,
   ⟨some 17, .mv (.t 16), none⟩,
   ⟨some 18, .mv (.t 1), some (17, false)⟩,
   ⟨some 19, .len true (.t 18), some (17, false)⟩,
   ⟨some 20, .bin .gtr (.t 19) (.c (.int .i64 30)), some (17, false)⟩,
   ⟨some 21, .pick (.t 17) (.c (.bool true)) (.t 20), none⟩])
 (.cond (.t 21)
  (.seq (.region [⟨some 4, .mv (.c (.int .i64 0)), none⟩,
    ⟨some 5, .mv (.c (.val (.slice none 0 0))), none⟩,
    ⟨some 6, .mv (.c (.bool false)), none⟩])
  .ret)
  .skip))
 (.seq (.region [⟨some 7, .mv (.c (.val (.slice none 0 0))), none⟩])
 (.seq (.region [⟨some 8, .mv (.c (.int .i64 0)), none⟩,
   ⟨some 9, .mv (.c (.int .i64 (-1))), none⟩])
 (.seq (.seq (.region [⟨some 22, .mv (.t 0), none⟩,
   ⟨some 23, .mv (.t 1), none⟩,
   ⟨some 24, .call 11 [(.t 22), (.t 23)], none⟩,
   ⟨some 25, .len false (.t 24), none⟩,
   ⟨some 26, .mv (.c (.int .i64 0)), none⟩])
 (.block 0
  (.loop
   f6_c3)))
 f6_c1)))))
def f6_lay : Lay := ⟨50, [], false⟩
def f6_res : List LRes := [.t 4, .t 5, .t 6]
def f6_L : LFn := ⟨2, f6_lay, f6_c4, f6_res⟩
theorem f6_low : lowFn Try.prog [] 6 = some f6_L := by kernel_rfl
theorem f6_fok : FnOk Try.prog 6 := ⟨_, Try.func6, rfl, rfl⟩
def f6_Q (a0 : List UInt8) (a1 : List UInt8) (o : Int × (List Int) × Bool) : Exit → Env → AHeap → Nat → Prop := FinK f6_res (PureEnd (.tup [.int .i64 o.1, .isl 1 (o.2.1.map e_i64) false, .bool o.2.2]))

def f6_L1_env (v1 : (List (List Int))) (s : ((List Int) × Int × Int × Int)) : Env := [(7, .osl (0, 0) 1 (s.1.map e_i64)), (8, .int .i64 s.2.1), (9, .int .i64 s.2.2.1), (24, .isl 1 (v1.map e_sl_i64) false), (25, .int .i64 ((v1.map e_sl_i64).length : Int)), (26, .int .i64 s.2.2.2)]
def f6_L1_hp (v1 : (List (List Int))) (s : ((List Int) × Int × Int × Int)) : AHeap := [((0, 0), .tok)]
def f6_L1_Q (a0 : List UInt8) (a1 : List UInt8) (o : (Int × (List Int) × Bool)) : Exit → Env → AHeap → Nat → Prop := (QBlock 0 (QSeq Try.prog f6_lay 0 f6_c1 (f6_Q a0 a1 o)))

noncomputable def S_fuzzy_Score_j3 (m : Option Nat) (v1 : (List (List Int))) (v4 : List Int) (v7 : Int) (v10 : Int × Int) (v11 : Int) : Option (((List Int) × Int × Int × Int) ⊕ (Int × (List Int) × Bool)) :=
  if ((v4 ++ ([v10.2] : List Int)).map e_i64).length * 8 ≤ 140737488355328 then
  some (.inl ((v4 ++ ([v10.2] : List Int)), v11, v10.2, (W (v7 + 1))))
  else none

theorem f6_j3_ok {a0 : List UInt8} {a1 : List UInt8} {v1 : (List (List Int))} {v4 : List Int} {v7 : Int} {v10 : Int × Int} {v11 : Int} {m : Option Nat} {o : (((List Int) × Int × Int × Int) ⊕ (Int × (List Int) × Bool))} (h : S_fuzzy_Score_j3 m v1 v4 v7 v10 v11 = some o) :
    LWp Try.prog f6_lay 0 f6_c2 (QBlock 1 (QSeq Try.prog f6_lay 0 f6_c0 (BodyQ 0 1 (f6_L1_env v1) (f6_L1_hp v1) (f6_L1_Q a0 a1) o))) [(7, .osl (0, 0) 1 (v4.map e_i64)), (8, .int .i64 v11), (13, .int .i64 v10.2), (24, .isl 1 (v1.map e_sl_i64) false), (25, .int .i64 ((v1.map e_sl_i64).length : Int)), (26, .int .i64 v7)] [((0, 0), .tok)] 1 := by
  unfold S_fuzzy_Score_j3 at h
  refine regI ?_
  obtain ⟨h20, h⟩ := ite_some h
  refine EX ((v4 ++ ([v10.2] : List Int)).map e_i64) (AI (app_enc e_i64 v4 ([v10.2] : List Int)) (AI h20 ?_))
  refine regI ?_
  cases h
  exact AI rfl (simI (M := [((0, 0), (1, 0))]) rfl (AI (Vw.osl _ _ _ _ rfl) (AI (VS rfl) (AI (VS rfl) (AI (VS rfl) (AI (VS rfl) (AI (VS rfl) TT)))))) (AI (AI rfl BVw.tok) TT))

noncomputable def S_fuzzy_Score_j4 (m : Option Nat) (v4 : List Int) (v5 : Int) : Option (Int × (List Int) × Bool) :=
  some (v5, v4, true)

noncomputable def S_fuzzy_Score_b1 (m : Option Nat) (v1 : (List (List Int))) (v4 : List Int) (v5 : Int) (v6 : Int) (v7 : Int) : Option (((List Int) × Int × Int × Int) ⊕ (Int × (List Int) × Bool)) :=
  if (decide (v7 < ((v1.map e_sl_i64).length : Int))) = true then
    if (0 : Int) ≤ v7 ∧ v7 < ((v1.map e_sl_i64).length : Int) then
    (S_fuzzy_best m (v1.getD v7.toNat default) v6).bind fun v10 =>
    if (v10.1 == (-1)) = true then
      Option.map Sum.inr (
        some (0, [], false))
    else
      if (v7 == 0) = true then
        S_fuzzy_Score_j3 m v1 v4 v7 v10 v10.1
      else
        S_fuzzy_Score_j3 m v1 v4 v7 v10 v5
    else none
  else
    Option.map Sum.inr (
      S_fuzzy_Score_j4 m v4 v5)

noncomputable def S_fuzzy_Score_l1 (m : Option Nat) (v1 : (List (List Int))) (v4 : List Int) (v5 : Int) (v6 : Int) (v7 : Int) : Option (Int × (List Int) × Bool) := loopM m (fun (s : ((List Int) × Int × Int × Int)) => S_fuzzy_Score_b1 m v1 s.1 s.2.1 s.2.2.1 s.2.2.2) (v4, v5, v6, v7)

theorem f6_j4_ok {a0 : List UInt8} {a1 : List UInt8} {v4 : List Int} {v5 : Int} {m : Option Nat} {o : (Int × (List Int) × Bool)} (h : S_fuzzy_Score_j4 m v4 v5 = some o) :
    LWp Try.prog f6_lay 0 f6_c1 (f6_Q a0 a1 o) [(7, .osl (0, 0) 1 (v4.map e_i64)), (8, .int .i64 v5)] [((0, 0), .tok)] 1 := by
  unfold S_fuzzy_Score_j4 at h
  refine seqI ?_
  refine regI ?_
  refine retI ?_
  cases h
  exact AI TT (AI TT (AI TT (AI rfl (Vw.tupL (AI (VS rfl) (AI (Vw.oslI _ _ _) (AI (VS rfl) TT)))))))

theorem f6_L1_bok {a0 : List UInt8} {a1 : List UInt8} {v1 : (List (List Int))} {v4 : List Int} {v5 : Int} {v6 : Int} {v7 : Int} {m : Option Nat} {o : ((List Int) × Int × Int × Int) ⊕ (Int × (List Int) × Bool)} (h : S_fuzzy_Score_b1 m v1 v4 v5 v6 v7 = some o) :
    LWp Try.prog f6_lay 0 f6_c3 (BodyQ 0 1 (f6_L1_env v1) (f6_L1_hp v1) (f6_L1_Q a0 a1) o) [(7, .osl (0, 0) 1 (v4.map e_i64)), (8, .int .i64 v5), (9, .int .i64 v6), (24, .isl 1 (v1.map e_sl_i64) false), (25, .int .i64 ((v1.map e_sl_i64).length : Int)), (26, .int .i64 v7)] [((0, 0), .tok)] 1 := by
  unfold S_fuzzy_Score_b1 at h
  refine seqI ?_
  refine regI ?_
  refine seqI ?_
  refine condI (v := (decide (v7 < ((v1.map e_sl_i64).length : Int)))) rfl TT (fun h15 => ?_) (fun h15 => ?_)
  · have h := ite_tt h15 h
    refine skipI ?_
    refine seqI ?_
    refine blockI ?_
    refine seqI ?_
    refine regI ?_
    obtain ⟨h16, h⟩ := ite_some h
    refine AI h16 ?_
    refine EX (e_sl_i64 (v1.getD v7.toNat default)) (AI (getD_enc e_sl_i64 _ _ (idx_ltL e_sl_i64 h16)) (AI (AI (idx_lt h16) (NB rfl)) ?_))
    refine seqI ?_
    refine regI ?_
    obtain ⟨v10, h17, h⟩ := bind_some h
    refine PFn.call (f12_ok h17) (AI (VS rfl) (AI (VS rfl) TT)) ?_
    refine LWp.sim (e := [(7, .osl (0, 0) 1 (v4.map e_i64)), (8, .int .i64 v5), (10, .int .i64 v7), (12, .int .i64 v10.1), (13, .int .i64 v10.2), (24, .isl 1 (v1.map e_sl_i64) false), (25, .int .i64 ((v1.map e_sl_i64).length : Int)), (26, .int .i64 v7)]) (L := [((0, 0), .tok)]) (n := 1) ?_ ?_
    · exact simI (M := [((0, 0), (0, 0))]) rfl (AI (Vw.osl _ _ _ _ rfl) (AI (VS rfl) (AI (VS rfl) (AI (VS rfl) (AI (VS rfl) (AI (VS rfl) (AI (VS rfl) (AI (VS rfl) TT)))))))) (AI (AI rfl BVw.tok) TT)
    refine seqI ?_
    refine seqI ?_
    refine regI ?_
    refine condI (v := (v10.1 == (-1))) rfl TT (fun h18 => ?_) (fun h18 => ?_)
    · have h := ite_tt h18 h
      refine seqI ?_
      refine regI ?_
      refine retI ?_
      obtain ⟨o, hq, rfl⟩ := Option.map_eq_some_iff.1 h
      replace h := hq; clear hq
      refine AI nofun ?_
      cases h
      exact AI TT (AI TT (AI TT (AI rfl (Vw.tupL (AI (VS rfl) (AI (Vw.nilI _ _) (AI (VS rfl) TT)))))))
    · have h := ite_ff h18 h
      refine skipI ?_
      refine seqI ?_
      refine seqI ?_
      refine regI ?_
      refine condI (v := (v7 == 0)) rfl TT (fun h19 => ?_) (fun h19 => ?_)
      · have h := ite_tt h19 h
        refine regI ?_
        refine LWp.sim ?_ (f6_j3_ok h)
        exact simI (M := [((0, 0), (0, 0))]) rfl (AI (Vw.osl _ _ _ _ rfl) (AI (VS rfl) (AI (VS rfl) (AI (VS rfl) (AI (VS rfl) (AI (VS rfl) TT)))))) (AI (AI rfl BVw.tok) TT)
      · have h := ite_ff h19 h
        refine skipI ?_
        refine LWp.sim ?_ (f6_j3_ok h)
        exact simI (M := [((0, 0), (0, 0))]) rfl (AI (Vw.osl _ _ _ _ rfl) (AI (VS rfl) (AI (VS rfl) (AI (VS rfl) (AI (VS rfl) (AI (VS rfl) TT)))))) (AI (AI rfl BVw.tok) TT)
  · have h := ite_ff h15 h
    refine exitI ?_
    obtain ⟨o, hq, rfl⟩ := Option.map_eq_some_iff.1 h
    replace h := hq; clear hq
    refine AI nofun ?_
    refine LWp.sim ?_ (f6_j4_ok h)
    exact simI (M := [((0, 0), (0, 0))]) rfl (AI (Vw.osl _ _ _ _ rfl) (AI (VS rfl) TT)) (AI (AI rfl BVw.tok) TT)

theorem f6_L1_ok {a0 : List UInt8} {a1 : List UInt8} {v1 : (List (List Int))} {v4 : List Int} {v5 : Int} {v6 : Int} {v7 : Int} {m : Option Nat} {o : (Int × (List Int) × Bool)} (h : S_fuzzy_Score_l1 m v1 v4 v5 v6 v7 = some o) :
    LWp Try.prog f6_lay 0 (.loop f6_c3) (QBlock 0 (QSeq Try.prog f6_lay 0 f6_c1 (f6_Q a0 a1 o))) [(7, .osl (0, 0) 1 (v4.map e_i64)), (8, .int .i64 v5), (9, .int .i64 v6), (24, .isl 1 (v1.map e_sl_i64) false), (25, .int .i64 ((v1.map e_sl_i64).length : Int)), (26, .int .i64 v7)] [((0, 0), .tok)] 1 :=
  LWp_loopM (m := m) (s := ((v4, v5, v6, v7) : ((List Int) × Int × Int × Int))) (r := o) (fun (s : ((List Int) × Int × Int × Int)) => S_fuzzy_Score_b1 m v1 s.1 s.2.1 s.2.2.1 s.2.2.2) (f6_L1_env v1) (f6_L1_hp v1) (f6_L1_Q a0 a1) (fun s o h => f6_L1_bok h) h

noncomputable def S_fuzzy_Score (m : Option Nat) (a0 : List UInt8) (a1 : List UInt8) : Option (Int × (List Int) × Bool) :=
  if ((decide ((a0.length : Int) > 30)) || (decide ((a1.length : Int) > 30))) = true then
    some (0, [], false)
  else
    (S_fuzzy_suffixScores m a0 a1).bind fun v1 =>
    S_fuzzy_Score_l1 m v1 [] 0 (-1) 0

theorem f6_start {a0 : List UInt8} {a1 : List UInt8} {m : Option Nat} {o : Int × (List Int) × Bool} (h : S_fuzzy_Score m a0 a1 = some o) : LWp Try.prog f6_lay 0 f6_c4 (f6_Q a0 a1 o) (initEnv 0 [.str a0, .str a1]) [] 0 := by
  unfold S_fuzzy_Score at h
  refine seqI ?_
  refine regI ?_
  refine seqI ?_
  refine seqI ?_
  refine regI ?_
  refine AI (fun hp => hp) ?_
  refine AI (fun hp => hp) ?_
  refine AI (fun hc => (bqf hc)) ?_
  refine LWp.sim (e := [(0, .str a0), (1, .str a1), (21, .bool ((decide ((a0.length : Int) > 30)) || (decide ((a1.length : Int) > 30))))]) (L := []) (n := 0) ?_ ?_
  · exact simI (M := []) rfl (AI (VS rfl) (AI (VS rfl) (AI (VS rfl) TT))) TT
  refine condI (v := ((decide ((a0.length : Int) > 30)) || (decide ((a1.length : Int) > 30)))) rfl TT (fun h1 => ?_) (fun h1 => ?_)
  · have h := ite_tt h1 h
    refine seqI ?_
    refine regI ?_
    refine retI ?_
    cases h
    exact AI TT (AI TT (AI TT (AI rfl (Vw.tupL (AI (VS rfl) (AI (Vw.nilI _ _) (AI (VS rfl) TT)))))))
  · have h := ite_ff h1 h
    refine skipI ?_
    refine seqI ?_
    refine regI ?_
    refine seqI ?_
    refine regI ?_
    refine seqI ?_
    refine seqI ?_
    refine regI ?_
    obtain ⟨v1, h2, h⟩ := bind_some h
    refine PFn.call (f11_ok h2) (AI (VS rfl) (AI (VS rfl) TT)) ?_
    refine LWp.sim (e := [(7, .val (.slice none 0 0)), (8, .int .i64 0), (9, .int .i64 (-1)), (24, .isl 1 (v1.map e_sl_i64) false), (25, .int .i64 ((v1.map e_sl_i64).length : Int)), (26, .int .i64 0)]) (L := []) (n := 0) ?_ ?_
    · exact simI (M := []) rfl (AI (VS rfl) (AI (VS rfl) (AI (VS rfl) (AI (VS rfl) (AI (VS rfl) (AI (VS rfl) TT)))))) TT
    refine blockI ?_
    refine LWp.sim ?_ (f6_L1_ok h)
    exact simI (M := []) rfl (AI (Vw.nilO _ _ (by decide)) (AI (VS rfl) (AI (VS rfl) (AI (VS rfl) (AI (VS rfl) (AI (VS rfl) TT)))))) (AI (AI rfl (AI (by decide) (by decide))) TT)

theorem f6_ok {a0 : List UInt8} {a1 : List UInt8} {m : Option Nat} {o : Int × (List Int) × Bool} (h : S_fuzzy_Score m a0 a1 = some o) : PFn Try.prog 6 [.str a0, .str a1] (.tup [.int .i64 o.1, .isl 1 (o.2.1.map e_i64) false, .bool o.2.2]) := PFn.ofFnW (L := f6_L) f6_low f6_fok (NB rfl) rfl (f6_start h)

def f27_c0 : LCode := (.seq (.region [⟨some 2, .mv (.c (.bool false)), none⟩])
 (.seq (.region [⟨some 3, .mv (.t 0), none⟩,
   ⟨some 4, .mv (.t 0), none⟩,
   ⟨some 5, .bin .neq (.t 3) (.t 4), none⟩,
   ⟨some 2, .mv (.t 5), none⟩])
 .ret))
def f27_lay : Lay := ⟨6, [], false⟩
def f27_res : List LRes := [.t 2]
def f27_L : LFn := ⟨1, f27_lay, f27_c0, f27_res⟩
theorem f27_low : lowFn Try.prog [] 27 = some f27_L := by kernel_rfl
theorem f27_fok : FnOk Try.prog 27 := ⟨_, Try.func27, rfl, rfl⟩
noncomputable def S_cmp_isNaN_int (m : Option Nat) (a0 : Int) : Option Bool :=
  some (a0 != a0)

def f27_Q (a0 : Int) (o : Bool) : Exit → Env → AHeap → Nat → Prop := FinK f27_res (PureEnd (.bool o))

theorem f27_start {a0 : Int} {m : Option Nat} {o : Bool} (h : S_cmp_isNaN_int m a0 = some o) : LWp Try.prog f27_lay 0 f27_c0 (f27_Q a0 o) (initEnv 0 [.int .i64 a0]) [] 0 := by
  unfold S_cmp_isNaN_int at h
  refine seqI ?_
  refine regI ?_
  refine seqI ?_
  refine regI ?_
  refine retI ?_
  cases h
  exact AI TT (AI rfl (VS rfl))

theorem f27_ok {a0 : Int} {m : Option Nat} {o : Bool} (h : S_cmp_isNaN_int m a0 = some o) : PFn Try.prog 27 [.int .i64 a0] (.bool o) := PFn.ofFnW (L := f27_L) f27_low f27_fok (NB rfl) rfl (f27_start h)

def f19_c0 : LCode := (.seq (.region [⟨some 4, .mv (.c (.int .i64 0)), none⟩])
 (.seq (.region [⟨some 7, .mv (.t 0), none⟩,
   ⟨some 8, .call 27 [(.t 7)], none⟩,
   ⟨some 5, .mv (.t 8), none⟩])
 (.seq (.region [⟨some 9, .mv (.t 1), none⟩,
   ⟨some 10, .call 27 [(.t 9)], none⟩,
   ⟨some 6, .mv (.t 10), none⟩])
 (.seq (.seq (.region [⟨some 11, .mv (.t 5), none⟩])
 (.cond (.t 11)
  (.seq (.seq (.region [⟨some 12, .mv (.t 6), none⟩])
  (.cond (.t 12)
   (.seq (.region [⟨some 4, .mv (.c (.int .i64 0)), none⟩])
   .ret)
   .skip))
  (.seq (.region [⟨some 4, .mv (.c (.int .i64 (-1))), none⟩])
  .ret))
  .skip))
 (.seq (.seq (.region [⟨some 13, .mv (.t 6), none⟩])
 (.cond (.t 13)
  (.seq (.region [⟨some 4, .mv (.c (.int .i64 1)), none⟩])
  .ret)
  .skip))
 (.seq (.seq (.region [⟨some 14, .mv (.t 0), none⟩,
   ⟨some 15, .mv (.t 1), none⟩,
   ⟨some 16, .bin .lss (.t 14) (.t 15), none⟩])
 (.cond (.t 16)
  (.seq (.region [⟨some 4, .mv (.c (.int .i64 (-1))), none⟩])
  .ret)
  .skip))
 (.seq (.seq (.region [⟨some 17, .mv (.t 0), none⟩,
   ⟨some 18, .mv (.t 1), none⟩,
   ⟨some 19, .bin .gtr (.t 17) (.t 18), none⟩])
 (.cond (.t 19)
  (.seq (.region [⟨some 4, .mv (.c (.int .i64 1)), none⟩])
  .ret)
  .skip))
 (.seq (.region [⟨some 4, .mv (.c (.int .i64 0)), none⟩])
 .ret))))))))
def f19_lay : Lay := ⟨20, [], false⟩
def f19_res : List LRes := [.t 4]
def f19_L : LFn := ⟨2, f19_lay, f19_c0, f19_res⟩
theorem f19_low : lowFn Try.prog [] 19 = some f19_L := by kernel_rfl
theorem f19_fok : FnOk Try.prog 19 := ⟨_, Try.func19, rfl, rfl⟩
noncomputable def S_cmp_Compare_int (m : Option Nat) (a0 : Int) (a1 : Int) : Option Int :=
  (S_cmp_isNaN_int m a0).bind fun v1 =>
  (S_cmp_isNaN_int m a1).bind fun v2 =>
  if v1 = true then
    if v2 = true then
      some 0
    else
      some (-1)
  else
    if v2 = true then
      some 1
    else
      if (decide (a0 < a1)) = true then
        some (-1)
      else
        if (decide (a0 > a1)) = true then
          some 1
        else
          some 0

def f19_Q (a0 : Int) (a1 : Int) (o : Int) : Exit → Env → AHeap → Nat → Prop := FinK f19_res (PureEnd (.int .i64 o))

theorem f19_start {a0 : Int} {a1 : Int} {m : Option Nat} {o : Int} (h : S_cmp_Compare_int m a0 a1 = some o) : LWp Try.prog f19_lay 0 f19_c0 (f19_Q a0 a1 o) (initEnv 0 [.int .i64 a0, .int .i64 a1]) [] 0 := by
  unfold S_cmp_Compare_int at h
  refine seqI ?_
  refine regI ?_
  refine seqI ?_
  refine regI ?_
  obtain ⟨v1, h1, h⟩ := bind_some h
  refine PFn.call (f27_ok h1) (AI (VS rfl) TT) ?_
  refine seqI ?_
  refine regI ?_
  obtain ⟨v2, h2, h⟩ := bind_some h
  refine PFn.call (f27_ok h2) (AI (VS rfl) TT) ?_
  refine seqI ?_
  refine seqI ?_
  refine regI ?_
  refine LWp.sim (e := [(0, .int .i64 a0), (1, .int .i64 a1), (6, .bool v2), (11, .bool v1)]) (L := []) (n := 0) ?_ ?_
  · exact simI (M := []) rfl (AI (VS rfl) (AI (VS rfl) (AI (VS rfl) (AI (VS rfl) TT)))) TT
  refine condI (v := v1) rfl TT (fun h3 => ?_) (fun h3 => ?_)
  · have h := ite_tt h3 h
    refine seqI ?_
    refine seqI ?_
    refine regI ?_
    refine condI (v := v2) rfl TT (fun h4 => ?_) (fun h4 => ?_)
    · have h := ite_tt h4 h
      refine seqI ?_
      refine regI ?_
      refine retI ?_
      cases h
      exact AI TT (AI rfl (VS rfl))
    · have h := ite_ff h4 h
      refine skipI ?_
      refine seqI ?_
      refine regI ?_
      refine retI ?_
      cases h
      exact AI TT (AI rfl (VS rfl))
  · have h := ite_ff h3 h
    refine skipI ?_
    refine seqI ?_
    refine seqI ?_
    refine regI ?_
    refine condI (v := v2) rfl TT (fun h5 => ?_) (fun h5 => ?_)
    · have h := ite_tt h5 h
      refine seqI ?_
      refine regI ?_
      refine retI ?_
      cases h
      exact AI TT (AI rfl (VS rfl))
    · have h := ite_ff h5 h
      refine skipI ?_
      refine seqI ?_
      refine seqI ?_
      refine regI ?_
      refine condI (v := (decide (a0 < a1))) rfl TT (fun h6 => ?_) (fun h6 => ?_)
      · have h := ite_tt h6 h
        refine seqI ?_
        refine regI ?_
        refine retI ?_
        cases h
        exact AI TT (AI rfl (VS rfl))
      · have h := ite_ff h6 h
        refine skipI ?_
        refine seqI ?_
        refine seqI ?_
        refine regI ?_
        refine condI (v := (decide (a0 > a1))) rfl TT (fun h7 => ?_) (fun h7 => ?_)
        · have h := ite_tt h7 h
          refine seqI ?_
          refine regI ?_
          refine LWp.sim (e := [(4, .int .i64 1)]) (L := []) (n := 0) ?_ ?_
          · exact simI (M := []) rfl (AI (VS rfl) TT) TT
          refine retI ?_
          cases h
          exact AI TT (AI rfl (VS rfl))
        · have h := ite_ff h7 h
          refine skipI ?_
          refine seqI ?_
          refine regI ?_
          refine LWp.sim (e := [(4, .int .i64 0)]) (L := []) (n := 0) ?_ ?_
          · exact simI (M := []) rfl (AI (VS rfl) TT) TT
          refine retI ?_
          cases h
          exact AI TT (AI rfl (VS rfl))

theorem f19_ok {a0 : Int} {a1 : Int} {m : Option Nat} {o : Int} (h : S_cmp_Compare_int m a0 a1 = some o) : PFn Try.prog 19 [.int .i64 a0, .int .i64 a1] (.int .i64 o) := PFn.ofFnW (L := f19_L) f19_low f19_fok (NB rfl) rfl (f19_start h)

def S_strings_Compare (m : Option Nat) (a0 : List UInt8) (a1 : List UInt8) : Option (Int) := some (Go.Lib.compareBytes a0 a1)
theorem f20_fok : FnOk Try.prog 20 := ⟨_, Try.func20, rfl, rfl⟩
theorem f20_ok {m : Option Nat} {a0 : List UInt8} {a1 : List UInt8} {o : Int} (h : S_strings_Compare m a0 a1 = some o) : PFn Try.prog 20 [.str a0, .str a1] (.int .i64 o) := by
  cases h
  exact PFn.lib f20_fok rfl rfl (fun w => Calls.mono (Any.strings_Compare Try.l20 ⟨⟨a0⟩⟩ ⟨⟨a1⟩⟩ w) (fun _ _ h => ⟨h.1, same_grow h.2⟩))

def f18_c1 : LCode := (.seq (.region [⟨some 9, .bin .lss (.t 8) (.t 7), none⟩])
 (.seq (.cond (.t 9)
  .skip
  (.exit 0))
 (.seq (.block 1
  (.seq (.region [⟨some 10, .iaddr 1 (.t 6) (.t 8), none⟩,
    ⟨some 11, .load false 1 (.t 10), none⟩,
    ⟨some 5, .mv (.t 11), none⟩])
  (.seq (.region [⟨some 12, .mv (.t 5), none⟩,
    ⟨some 13, .mv (.t 3), none⟩,
    ⟨some 14, .bin .neq (.t 12) (.t 13), none⟩])
  (.cond (.t 14)
   (.seq (.region [⟨some 15, .mv (.t 5), none⟩,
     ⟨some 2, .mv (.t 15), none⟩])
   .ret)
   .skip))))
 (.region [⟨some 16, .bin .add (.t 8) (.c (.int .i64 1)), none⟩,
   ⟨some 8, .mv (.t 16), none⟩]))))
def f18_c0 : LCode := (.seq (.region [⟨some 17, .mv (.t 3), none⟩,
   ⟨some 2, .mv (.t 17), none⟩])
 .ret)
def f18_c2 : LCode := (.seq (.region [⟨some 2, .mv (.c (.int .i64 0)), none⟩])
 (.seq (.region [⟨some 3, .mv (.c (.int .i64 0)), none⟩])
 (.seq (.seq (.region [⟨some 6, .mv (.t 0), none⟩,
   ⟨some 7, .len false (.t 6), none⟩,
   ⟨some 8, .mv (.c (.int .i64 0)), none⟩])
 (.block 0
  (.loop
   f18_c1)))
 f18_c0)))
def f18_lay : Lay := ⟨18, [], false⟩
def f18_res : List LRes := [.t 2]
def f18_L : LFn := ⟨1, f18_lay, f18_c2, f18_res⟩
theorem f18_low : lowFn Try.prog [] 18 = some f18_L := by kernel_rfl
theorem f18_fok : FnOk Try.prog 18 := ⟨_, Try.func18, rfl, rfl⟩
def f18_Q (a0 : List Int) (o : Int) : Exit → Env → AHeap → Nat → Prop := FinK f18_res (PureEnd (.int .i64 o))

def f18_L1_env (a0 : List Int) (s : Int) : Env := [(3, .int .i64 0), (6, .isl 1 (a0.map e_i64) false), (7, .int .i64 ((a0.map e_i64).length : Int)), (8, .int .i64 s)]
def f18_L1_hp (a0 : List Int) (s : Int) : AHeap := []
def f18_L1_Q (a0 : List Int) (o : Int) : Exit → Env → AHeap → Nat → Prop := (QBlock 0 (QSeq Try.prog f18_lay 0 f18_c0 (f18_Q a0 o)))

noncomputable def S_cmp_Or_int_j1 (m : Option Nat) : Option Int :=
  some 0

noncomputable def S_cmp_Or_int_b1 (m : Option Nat) (a0 : List Int) (v1 : Int) : Option (Int ⊕ Int) :=
  if (decide (v1 < ((a0.map e_i64).length : Int))) = true then
    if (0 : Int) ≤ v1 ∧ v1 < ((a0.map e_i64).length : Int) then
    if ((a0.getD v1.toNat default) != 0) = true then
      Option.map Sum.inr (
        some (a0.getD v1.toNat default))
    else
      some (.inl (W (v1 + 1)))
    else none
  else
    Option.map Sum.inr (
      S_cmp_Or_int_j1 m)

noncomputable def S_cmp_Or_int_l1 (m : Option Nat) (a0 : List Int) (v1 : Int) : Option Int := loopM m (fun (s : Int) => S_cmp_Or_int_b1 m a0 s) v1

theorem f18_j1_ok {a0 : List Int} {m : Option Nat} {o : Int} (h : S_cmp_Or_int_j1 m = some o) :
    LWp Try.prog f18_lay 0 f18_c0 (f18_Q a0 o) [(3, .int .i64 0)] [] 0 := by
  unfold S_cmp_Or_int_j1 at h
  refine seqI ?_
  refine regI ?_
  refine retI ?_
  cases h
  exact AI TT (AI rfl (VS rfl))

theorem f18_L1_bok {a0 : List Int} {v1 : Int} {m : Option Nat} {o : Int ⊕ Int} (h : S_cmp_Or_int_b1 m a0 v1 = some o) :
    LWp Try.prog f18_lay 0 f18_c1 (BodyQ 0 0 (f18_L1_env a0) (f18_L1_hp a0) (f18_L1_Q a0) o) [(3, .int .i64 0), (6, .isl 1 (a0.map e_i64) false), (7, .int .i64 ((a0.map e_i64).length : Int)), (8, .int .i64 v1)] [] 0 := by
  unfold S_cmp_Or_int_b1 at h
  refine seqI ?_
  refine regI ?_
  refine seqI ?_
  refine condI (v := (decide (v1 < ((a0.map e_i64).length : Int)))) rfl TT (fun h7 => ?_) (fun h7 => ?_)
  · have h := ite_tt h7 h
    refine skipI ?_
    refine seqI ?_
    refine blockI ?_
    refine seqI ?_
    refine regI ?_
    obtain ⟨h8, h⟩ := ite_some h
    refine AI h8 ?_
    refine EX (e_i64 (a0.getD v1.toNat default)) (AI (getD_enc e_i64 _ _ (idx_ltL e_i64 h8)) (AI (AI (idx_lt h8) (NB rfl)) ?_))
    refine seqI ?_
    refine regI ?_
    refine condI (v := ((a0.getD v1.toNat default) != 0)) rfl TT (fun h9 => ?_) (fun h9 => ?_)
    · have h := ite_tt h9 h
      refine seqI ?_
      refine regI ?_
      refine LWp.sim (e := [(2, .int .i64 (a0.getD v1.toNat default))]) (L := []) (n := 0) ?_ ?_
      · exact simI (M := []) rfl (AI (VS rfl) TT) TT
      refine retI ?_
      obtain ⟨o, hq, rfl⟩ := Option.map_eq_some_iff.1 h
      replace h := hq; clear hq
      refine AI nofun ?_
      cases h
      exact AI TT (AI rfl (VS rfl))
    · have h := ite_ff h9 h
      refine skipI ?_
      refine regI ?_
      cases h
      exact AI rfl (simI (M := []) rfl (AI (VS rfl) (AI (VS rfl) (AI (VS rfl) (AI (VS rfl) TT)))) TT)
  · have h := ite_ff h7 h
    refine exitI ?_
    obtain ⟨o, hq, rfl⟩ := Option.map_eq_some_iff.1 h
    replace h := hq; clear hq
    refine AI nofun ?_
    refine LWp.sim ?_ (f18_j1_ok h)
    exact simI (M := []) rfl (AI (VS rfl) TT) TT

theorem f18_L1_ok {a0 : List Int} {v1 : Int} {m : Option Nat} {o : Int} (h : S_cmp_Or_int_l1 m a0 v1 = some o) :
    LWp Try.prog f18_lay 0 (.loop f18_c1) (QBlock 0 (QSeq Try.prog f18_lay 0 f18_c0 (f18_Q a0 o))) [(3, .int .i64 0), (6, .isl 1 (a0.map e_i64) false), (7, .int .i64 ((a0.map e_i64).length : Int)), (8, .int .i64 v1)] [] 0 :=
  LWp_loopM (m := m) (s := (v1 : Int)) (r := o) (fun (s : Int) => S_cmp_Or_int_b1 m a0 s) (f18_L1_env a0) (f18_L1_hp a0) (f18_L1_Q a0) (fun s o h => f18_L1_bok h) h

noncomputable def S_cmp_Or_int (m : Option Nat) (a0 : List Int) : Option Int :=
  S_cmp_Or_int_l1 m a0 0

theorem f18_start {a0 : List Int} {m : Option Nat} {o : Int} (h : S_cmp_Or_int m a0 = some o) : LWp Try.prog f18_lay 0 f18_c2 (f18_Q a0 o) (initEnv 0 [.isl 1 (a0.map e_i64) false]) [] 0 := by
  unfold S_cmp_Or_int at h
  refine seqI ?_
  refine regI ?_
  refine seqI ?_
  refine regI ?_
  refine seqI ?_
  refine seqI ?_
  refine regI ?_
  refine blockI ?_
  refine LWp.sim ?_ (f18_L1_ok h)
  exact simI (M := []) rfl (AI (VS rfl) (AI (VS rfl) (AI (VS rfl) (AI (VS rfl) TT)))) TT

theorem f18_ok {a0 : List Int} {m : Option Nat} {o : Int} (h : S_cmp_Or_int m a0 = some o) : PFn Try.prog 18 [.isl 1 (a0.map e_i64) false] (.int .i64 o) := PFn.ofFnW (L := f18_L) f18_low f18_fok (NB rfl) rfl (f18_start h)

def f17c0_c0 : LCode := (.seq (.region [⟨some 6, .mv (.c (.int .i64 0)), none⟩])
 (.seq (.draw [⟨⟨some 7, .load false 1 (.t 2), none⟩, []⟩,
   ⟨⟨some 8, .mv (.t 1), none⟩, []⟩,
   ⟨⟨some 9, .iaddr 1 (.t 7) (.t 8), none⟩, []⟩,
   ⟨⟨some 10, .load false 1 (.t 9), none⟩, []⟩,
   ⟨⟨some 11, .load false 1 (.t 2), none⟩, []⟩,
   ⟨⟨some 12, .mv (.t 0), none⟩, []⟩,
   ⟨⟨some 13, .iaddr 1 (.t 11) (.t 12), none⟩, []⟩,
   ⟨⟨some 14, .load false 1 (.t 13), none⟩, []⟩,
   ⟨⟨some 16, .load false 1 (.t 3), none⟩, []⟩,
   ⟨⟨some 17, .mv (.t 0), none⟩, []⟩,
   ⟨⟨some 18, .iaddr 1 (.t 16) (.t 17), none⟩, []⟩,
   ⟨⟨some 19, .load false 1 (.t 18), none⟩, []⟩,
   ⟨⟨some 20, .len true (.t 19), none⟩, []⟩,
   ⟨⟨some 21, .load false 1 (.t 3), none⟩, []⟩,
   ⟨⟨some 22, .mv (.t 1), none⟩, []⟩,
   ⟨⟨some 23, .iaddr 1 (.t 21) (.t 22), none⟩, []⟩,
   ⟨⟨some 24, .load false 1 (.t 23), none⟩, []⟩,
   ⟨⟨some 25, .len true (.t 24), none⟩, []⟩,
   ⟨⟨some 27, .load false 1 (.t 3), none⟩, []⟩,
   ⟨⟨some 28, .mv (.t 0), none⟩, []⟩,
   ⟨⟨some 29, .iaddr 1 (.t 27) (.t 28), none⟩, []⟩,
   ⟨⟨some 30, .load false 1 (.t 29), none⟩, []⟩,
   ⟨⟨some 31, .load false 1 (.t 3), none⟩, []⟩,
   ⟨⟨some 32, .mv (.t 1), none⟩, []⟩,
   ⟨⟨some 33, .iaddr 1 (.t 31) (.t 32), none⟩, []⟩,
   ⟨⟨some 34, .load false 1 (.t 33), none⟩, []⟩,
   ⟨⟨some 15, .call 19 [(.t 10), (.t 14)], none⟩, [8, 11, 13, 16, 18, 21, 22, 25]⟩,
   ⟨⟨some 26, .call 19 [(.t 20), (.t 25)], none⟩, [18, 21, 22, 25]⟩,
   ⟨⟨some 35, .call 20 [(.t 30), (.t 34)], none⟩, []⟩,
   ⟨⟨some 36, .mkSl true 1 [(.int .i64 0)] 3 [(0, (.t 15)), (1, (.t 26)), (2, (.t 35))], none⟩, []⟩,
   ⟨⟨some 37, .call 18 [(.t 36)], none⟩, []⟩,
   ⟨⟨some 6, .mv (.t 37), none⟩, []⟩])
 .ret))
def f17c0_lay : Lay := ⟨38, [], false⟩
def f17c0_res : List LRes := [.t 6]
def f17c0_L : LFn := ⟨4, f17c0_lay, f17c0_c0, f17c0_res⟩
theorem f17c0_low : lowFn Try.prog [] 17 = some f17c0_L := by kernel_rfl
theorem f17c0_fok : FnOk Try.prog 17 := ⟨_, Try.func17, rfl, rfl⟩
noncomputable def S_fuzzy_Rank_1c (m : Option Nat) (a0 : List (List UInt8)) (a1 : List Int) (a2 : Int) (a3 : Int) : Option Int :=
  if (0 : Int) ≤ a3 ∧ a3 < ((a1.length : Nat) : Int) then
  if (0 + a3.toNat) < a1.length then
  if (0 : Int) ≤ a2 ∧ a2 < ((a1.length : Nat) : Int) then
  if (0 + a2.toNat) < a1.length then
  if (0 : Int) ≤ a2 ∧ a2 < ((a0.map e_str).length : Int) then
  if (0 : Int) ≤ a3 ∧ a3 < ((a0.map e_str).length : Int) then
  if (0 : Int) ≤ a2 ∧ a2 < ((a0.map e_str).length : Int) then
  if (0 : Int) ≤ a3 ∧ a3 < ((a0.map e_str).length : Int) then
  (S_cmp_Compare_int m (a1.getD (0 + a3.toNat) default) (a1.getD (0 + a2.toNat) default)).bind fun v1 =>
  (S_cmp_Compare_int m ((a0.getD a2.toNat default).length : Int) ((a0.getD a3.toNat default).length : Int)).bind fun v2 =>
  (S_strings_Compare m (a0.getD a2.toNat default) (a0.getD a3.toNat default)).bind fun v3 =>
  (S_cmp_Or_int m ([v1, v2, v3] : List Int)).bind fun v4 =>
  some v4
  else none
  else none
  else none
  else none
  else none
  else none
  else none
  else none

def f17c0_Q (a0 : List (List UInt8)) (a1 : List Int) (a2 : Int) (a3 : Int) (o : Int) : Exit → Env → AHeap → Nat → Prop := FinK f17c0_res (FinTo 3 4 (.int .i64 o) [((1, 0), .one [.msl (3, 0) 1 0 a1.length true]), ((1, 1), .one [.isl 1 (a0.map e_str) false]), ((3, 0), .rows 1 (a1.map e_i64))])

theorem f17c0_start {a0 : List (List UInt8)} {a1 : List Int} {a2 : Int} {a3 : Int} {m : Option Nat} {o : Int} (h : S_fuzzy_Rank_1c m a0 a1 a2 a3 = some o) : LWp Try.prog f17c0_lay 3 f17c0_c0 (f17c0_Q a0 a1 a2 a3 o) (initEnv 0 [.int .i64 a2, .int .i64 a3, .ptr (1, 0) 0 0, .ptr (1, 1) 0 0]) [((1, 0), .one [.msl (2, 0) 1 0 a1.length true]), ((1, 1), .one [.isl 1 (a0.map e_str) false]), ((2, 0), .rows 1 (a1.map e_i64))] 3 := by
  unfold S_fuzzy_Rank_1c at h
  refine seqI ?_
  refine regI ?_
  refine seqI ?_
  refine drawI ?_
  obtain ⟨h1, h⟩ := ite_some h
  refine AI h1 ?_
  obtain ⟨h2, h⟩ := ite_some h
  refine EX (e_i64 (a1.getD (0 + a3.toNat) default)) (AI (getD_enc e_i64 _ _ h2) (AI (AI (lt_map e_i64 h2) (NB rfl)) ?_))
  obtain ⟨h3, h⟩ := ite_some h
  refine AI h3 ?_
  obtain ⟨h4, h⟩ := ite_some h
  refine EX (e_i64 (a1.getD (0 + a2.toNat) default)) (AI (getD_enc e_i64 _ _ h4) (AI (AI (lt_map e_i64 h4) (NB rfl)) ?_))
  obtain ⟨h5, h⟩ := ite_some h
  refine AI h5 ?_
  refine EX (e_str (a0.getD a2.toNat default)) (AI (getD_enc e_str _ _ (idx_ltL e_str h5)) (AI (AI (idx_lt h5) (NB rfl)) ?_))
  obtain ⟨h6, h⟩ := ite_some h
  refine AI h6 ?_
  refine EX (e_str (a0.getD a3.toNat default)) (AI (getD_enc e_str _ _ (idx_ltL e_str h6)) (AI (AI (idx_lt h6) (NB rfl)) ?_))
  obtain ⟨h7, h⟩ := ite_some h
  refine AI h7 ?_
  refine EX (e_str (a0.getD a2.toNat default)) (AI (getD_enc e_str _ _ (idx_ltL e_str h7)) (AI (AI (idx_lt h7) (NB rfl)) ?_))
  obtain ⟨h8, h⟩ := ite_some h
  refine AI h8 ?_
  refine EX (e_str (a0.getD a3.toNat default)) (AI (getD_enc e_str _ _ (idx_ltL e_str h8)) (AI (AI (idx_lt h8) (NB rfl)) ?_))
  obtain ⟨v1, h9, h⟩ := bind_some h
  refine PFn.call (f19_ok h9) (AI (VS rfl) (AI (VS rfl) TT)) ?_
  refine AI (AI (AI (idx_lt h8) (NB rfl)) (congrArg (cellsAt false 1 0) (getD_enc e_str _ _ (idx_ltL e_str h8)))) ?_
  refine AI rfl ?_
  refine AI (AI (AI (idx_lt h7) (NB rfl)) (congrArg (cellsAt false 1 0) (getD_enc e_str _ _ (idx_ltL e_str h7)))) ?_
  refine AI rfl ?_
  refine AI (AI (AI (idx_lt h6) (NB rfl)) (congrArg (cellsAt false 1 0) (getD_enc e_str _ _ (idx_ltL e_str h6)))) ?_
  refine AI rfl ?_
  refine AI (AI (AI (idx_lt h5) (NB rfl)) (congrArg (cellsAt false 1 0) (getD_enc e_str _ _ (idx_ltL e_str h5)))) ?_
  refine AI rfl ?_
  obtain ⟨v2, h10, h⟩ := bind_some h
  refine PFn.call (f19_ok h10) (AI (VS rfl) (AI (VS rfl) TT)) ?_
  refine AI (AI (AI (idx_lt h8) (NB rfl)) (congrArg (cellsAt false 1 0) (getD_enc e_str _ _ (idx_ltL e_str h8)))) ?_
  refine AI rfl ?_
  refine AI (AI (AI (idx_lt h7) (NB rfl)) (congrArg (cellsAt false 1 0) (getD_enc e_str _ _ (idx_ltL e_str h7)))) ?_
  refine AI rfl ?_
  obtain ⟨v3, h11, h⟩ := bind_some h
  refine PFn.call (f20_ok h11) (AI (VS rfl) (AI (VS rfl) TT)) ?_
  obtain ⟨v4, h12, h⟩ := bind_some h
  refine PFn.call (f18_ok h12) (AI (Vw.islF _ _ _) TT) ?_
  refine LWp.sim (e := [(6, .int .i64 v4)]) (L := [((1, 0), .one [.msl (3, 0) 1 0 a1.length true]), ((1, 1), .one [.isl 1 (a0.map e_str) false]), ((3, 0), .rows 1 (a1.map e_i64))]) (n := 4) ?_ ?_
  · exact simI (M := [((3, 0), (2, 0))]) rfl (AI (VS rfl) TT) (AI (AI rfl (BVw.oneL (AI (Vw.mslE rfl (by first | rfl | omega | (simp; done) | (simp at *; omega)) rfl) TT))) (AI (AI rfl (BVw.oneL (AI (VS rfl) TT))) (AI (AI rfl (BVw.enc e_i64 (fun _ => rfl) _ a1)) TT)))
  refine retI ?_
  cases h
  exact AI TT (finI (n' := 4) [((3, 0), (3, 0))] [] rfl rfl (VS rfl) (AI (AI rfl (BVw.oneL (AI (Vw.mslE rfl (by first | rfl | omega | (simp; done) | (simp at *; omega)) rfl) TT))) (AI (AI rfl (BVw.oneL (AI (VS rfl) TT))) (AI (AI rfl (BVw.enc e_i64 (fun _ => rfl) _ a1)) TT))))

theorem f17c0_ok {a0 : List (List UInt8)} {a1 : List Int} {a2 : Int} {a3 : Int} {m : Option Nat} {o : Int} (h : S_fuzzy_Rank_1c m a0 a1 a2 a3 = some o) : ACalls Try.prog 17 [.int .i64 a2, .int .i64 a3, .ptr (1, 0) 0 0, .ptr (1, 1) 0 0] [((1, 0), .one [.msl (2, 0) 1 0 a1.length true]), ((1, 1), .one [.isl 1 (a0.map e_str) false]), ((2, 0), .rows 1 (a1.map e_i64))] 3 (Gives 4 (.int .i64 o) [((1, 0), .one [.msl (3, 0) 1 0 a1.length true]), ((1, 1), .one [.isl 1 (a0.map e_str) false]), ((3, 0), .rows 1 (a1.map e_i64))]) := bfn_of (L := f17c0_L) f17c0_low f17c0_fok (NB rfl) (f17c0_start h)

def f32b0_c3 : LCode := (.cond (.t 34)
  .skip
  (.exit 2))
def f32b0_c0 : LCode := (.seq (.block 3
  (.draw [⟨⟨some 37, .mv (.t 0), none⟩, []⟩,
    ⟨⟨some 38, .mv (.t 9), none⟩, []⟩,
    ⟨⟨some 39, .mv (.t 0), none⟩, []⟩,
    ⟨⟨some 40, .mv (.t 9), none⟩, []⟩,
    ⟨⟨some 41, .bin .sub (.t 40) (.c (.int .i64 1)), none⟩, []⟩,
    ⟨⟨some 42, .mv (.t 0), none⟩, []⟩,
    ⟨⟨some 43, .mv (.t 9), none⟩, []⟩,
    ⟨⟨some 44, .bin .sub (.t 43) (.c (.int .i64 1)), none⟩, []⟩,
    ⟨⟨some 45, .iaddr 1 (.t 42) (.t 44), none⟩, []⟩,
    ⟨⟨some 46, .load false 1 (.t 45), none⟩, []⟩,
    ⟨⟨some 47, .mv (.t 0), none⟩, []⟩,
    ⟨⟨some 48, .mv (.t 9), none⟩, []⟩,
    ⟨⟨some 49, .iaddr 1 (.t 47) (.t 48), none⟩, []⟩,
    ⟨⟨some 50, .load false 1 (.t 49), none⟩, []⟩,
    ⟨⟨some 51, .iaddr 1 (.t 37) (.t 38), none⟩, []⟩,
    ⟨⟨none, .store 1 (.t 51) (.t 46), none⟩, []⟩,
    ⟨⟨some 52, .iaddr 1 (.t 39) (.t 41), none⟩, []⟩,
    ⟨⟨none, .store 1 (.t 52) (.t 50), none⟩, []⟩]))
 (.region [⟨some 35, .mv (.t 9), none⟩,
   ⟨some 36, .bin .sub (.t 35) (.c (.int .i64 1)), none⟩,
   ⟨some 9, .mv (.t 36), none⟩]))
def f32b0_c2 : LCode := (.seq (.seq (.draw [⟨⟨some 18, .mv (.t 9), none⟩, []⟩,
   ⟨⟨some 19, .mv (.t 1), none⟩, []⟩,
   ⟨⟨some 20, .bin .gtr (.t 18) (.t 19), none⟩, []⟩,
   ⟨⟨some 21, .mv (.t 20), none⟩, []⟩,
   ⟨⟨some 22, .mv (.t 3), some (21, true)⟩, []⟩,
   ⟨⟨some 23, .mv (.t 0), some (21, true)⟩, []⟩,
   ⟨⟨some 24, .mv (.t 9), some (21, true)⟩, []⟩,
   ⟨⟨some 25, .iaddr 1 (.t 23) (.t 24), some (21, true)⟩, []⟩,
   ⟨⟨some 26, .load false 1 (.t 25), some (21, true)⟩, []⟩,
   ⟨⟨some 27, .mv (.t 0), some (21, true)⟩, []⟩,
   ⟨⟨some 28, .mv (.t 9), some (21, true)⟩, []⟩,
   ⟨⟨some 29, .bin .sub (.t 28) (.c (.int .i64 1)), some (21, true)⟩, []⟩,
   ⟨⟨some 30, .iaddr 1 (.t 27) (.t 29), some (21, true)⟩, []⟩,
   ⟨⟨some 31, .load false 1 (.t 30), some (21, true)⟩, []⟩,
   ⟨⟨some 32, .callv (.t 22) [(.t 26), (.t 31)], some (21, true)⟩, []⟩,
   ⟨⟨some 33, .bin .lss (.t 32) (.c (.int .i64 0)), some (21, true)⟩, []⟩,
   ⟨⟨some 34, .pick (.t 21) (.t 33) (.c (.bool false)), none⟩, []⟩])
 f32b0_c3)
 f32b0_c0)
def f32b0_c1 : LCode := (.region [⟨some 15, .mv (.t 8), none⟩,
   ⟨some 16, .bin .add (.t 15) (.c (.int .i64 1)), none⟩,
   ⟨some 8, .mv (.t 16), none⟩])
def f32b0_c4 : LCode := (.seq (.seq (.region [⟨some 12, .mv (.t 8), none⟩,
   ⟨some 13, .mv (.t 2), none⟩,
   ⟨some 14, .bin .lss (.t 12) (.t 13), none⟩])
 (.cond (.t 14)
  .skip
  (.exit 0)))
 (.seq (.block 1
  (.seq (.region [⟨some 17, .mv (.t 8), none⟩,
    ⟨some 9, .mv (.t 17), none⟩])
  (.block 2
   (.loop
    f32b0_c2))))
 f32b0_c1))
def f32b0_c5 : LCode := (.seq (.region [⟨some 10, .mv (.t 1), none⟩,
   ⟨some 11, .bin .add (.t 10) (.c (.int .i64 1)), none⟩,
   ⟨some 8, .mv (.t 11), none⟩])
 (.block 0
  (.loop
   f32b0_c4)))
def f32b0_lay : Lay := ⟨53, [], false⟩
def f32b0_res : List LRes := []
def f32b0_L : LFn := ⟨4, f32b0_lay, f32b0_c5, f32b0_res⟩
theorem f32b0_low : lowFn Try.prog [] 32 = some f32b0_L := by kernel_rfl
theorem f32b0_fok : FnOk Try.prog 32 := ⟨_, Try.func32, rfl, rfl⟩
def f32b0_Q {σ : Type} (Hc : σ → AHeap) (fi0 : Fn) (ff0 fc0 : List AVal) (a0 : Int) (a1 : Int) (a2 : List Int) (z0 : σ) (o : (List Int) × σ) : Exit → Env → AHeap → Nat → Prop := FinK f32b0_res (FinTo 3 4 (.tup []) ([((0, 0), .rows 1 (o.1.map e_i64))] ++ up 3 (Hc o.2)))

def f32b0_L3_env {σ : Type} (Hc : σ → AHeap) (fi0 : Fn) (ff0 fc0 : List AVal) (a0 : Int) (a1 : Int) (s : ((List Int) × Int × σ)) : Env := [(0, .msl (0, 0) 1 0 s.1.length false), (1, .int .i64 a0), (2, .int .i64 a1), (3, .fn fi0 ff0 fc0), (8, .int .i64 s.2.1)]
def f32b0_L3_hp {σ : Type} (Hc : σ → AHeap) (fi0 : Fn) (ff0 fc0 : List AVal) (a0 : Int) (a1 : Int) (s : ((List Int) × Int × σ)) : AHeap := ([((0, 0), .rows 1 (s.1.map e_i64))] ++ up 3 (Hc s.2.2))
def f32b0_L3_Q {σ : Type} (Hc : σ → AHeap) (fi0 : Fn) (ff0 fc0 : List AVal) (a0 : Int) (a1 : Int) (a2 : List Int) (z0 : σ) (o : ((List Int) × σ)) : Exit → Env → AHeap → Nat → Prop := (QBlock 0 (f32b0_Q Hc fi0 ff0 fc0 a0 a1 a2 z0 o))

def f32b0_L4_env {σ : Type} (Hc : σ → AHeap) (fi0 : Fn) (ff0 fc0 : List AVal) (a0 : Int) (a1 : Int) (v14 : Int) (s : ((List Int) × Int × σ)) : Env := [(0, .msl (0, 0) 1 0 s.1.length false), (1, .int .i64 a0), (2, .int .i64 a1), (3, .fn fi0 ff0 fc0), (8, .int .i64 v14), (9, .int .i64 s.2.1)]
def f32b0_L4_hp {σ : Type} (Hc : σ → AHeap) (fi0 : Fn) (ff0 fc0 : List AVal) (a0 : Int) (a1 : Int) (v14 : Int) (s : ((List Int) × Int × σ)) : AHeap := ([((0, 0), .rows 1 (s.1.map e_i64))] ++ up 3 (Hc s.2.2))
def f32b0_L4_Q {σ : Type} (Hc : σ → AHeap) (fi0 : Fn) (ff0 fc0 : List AVal) (a0 : Int) (a1 : Int) (a2 : List Int) (z0 : σ) (o : (((List Int) × Int × σ) ⊕ ((List Int) × σ))) : Exit → Env → AHeap → Nat → Prop := (QBlock 2 (QBlock 1 (QSeq Try.prog f32b0_lay 3 f32b0_c1 (BodyQ 3 4 (f32b0_L3_env Hc fi0 ff0 fc0 a0 a1) (f32b0_L3_hp Hc fi0 ff0 fc0 a0 a1) (f32b0_L3_Q Hc fi0 ff0 fc0 a0 a1 a2 z0) o))))

noncomputable def S_slices_insertionSortCmpFunc_int_j12 {σ : Type} (g0 : σ → (Int × Int) → Option (Int × σ)) (m : Option Nat) (a0 : Int) (a1 : Int) (v14 : Int) (v31 : List Int) (v39 : σ) : Option (((List Int) × Int × σ) ⊕ ((List Int) × σ)) :=
  some (.inl (v31, (W (v14 + 1)), v39))

noncomputable def S_slices_insertionSortCmpFunc_int_j11 {σ : Type} (g0 : σ → (Int × Int) → Option (Int × σ)) (m : Option Nat) (a0 : Int) (a1 : Int) (v14 : Int) (v31 : List Int) (v32 : Int) (v38 : Bool) (v39 : σ) : Option (((List Int) × Int × σ) ⊕ (((List Int) × Int × σ) ⊕ ((List Int) × σ))) :=
  if v38 = true then
    if (0 : Int) ≤ (W (v32 - 1)) ∧ (W (v32 - 1)) < ((v31.length : Nat) : Int) then
    if (0 + (W (v32 - 1)).toNat) < v31.length then
    if (0 : Int) ≤ v32 ∧ v32 < ((v31.length : Nat) : Int) then
    if (0 + v32.toNat) < v31.length then
    if (0 : Int) ≤ v32 ∧ v32 < ((v31.length : Nat) : Int) then
    if (0 + v32.toNat) < v31.length then
    if (0 : Int) ≤ (W (v32 - 1)) ∧ (W (v32 - 1)) < ((v31.length : Nat) : Int) then
    if (0 + (W (v32 - 1)).toNat) < (v31.set (0 + v32.toNat) (v31.getD (0 + (W (v32 - 1)).toNat) default)).length then
    some (.inl (((v31.set (0 + v32.toNat) (v31.getD (0 + (W (v32 - 1)).toNat) default)).set (0 + (W (v32 - 1)).toNat) (v31.getD (0 + v32.toNat) default)), (W (v32 - 1)), v39))
    else none
    else none
    else none
    else none
    else none
    else none
    else none
    else none
  else
    Option.map Sum.inr (
      S_slices_insertionSortCmpFunc_int_j12 g0 m a0 a1 v14 v31 v39)

theorem f32b0_j12_ok {σ : Type} {Hc : σ → AHeap} {fi0 : Fn} {ff0 fc0 : List AVal} {g0 : σ → (Int × Int) → Option (Int × σ)} (hg0 : Clo Try.prog fi0 ff0 fc0 Hc (fun (x : (Int × Int)) => [.int .i64 x.1, .int .i64 x.2]) (fun (b : Int) => .int .i64 b) g0) {a2 : List Int} {z0 : σ} {a0 : Int} {a1 : Int} {v14 : Int} {v31 : List Int} {v39 : σ} {m : Option Nat} {o : (((List Int) × Int × σ) ⊕ ((List Int) × σ))} (h : S_slices_insertionSortCmpFunc_int_j12 g0 m a0 a1 v14 v31 v39 = some o) :
    LWp Try.prog f32b0_lay 3 f32b0_c1 (BodyQ 3 4 (f32b0_L3_env Hc fi0 ff0 fc0 a0 a1) (f32b0_L3_hp Hc fi0 ff0 fc0 a0 a1) (f32b0_L3_Q Hc fi0 ff0 fc0 a0 a1 a2 z0) o) [(0, .msl (0, 0) 1 0 v31.length false), (1, .int .i64 a0), (2, .int .i64 a1), (3, .fn fi0 ff0 fc0), (8, .int .i64 v14)] ([((0, 0), .rows 1 (v31.map e_i64))] ++ up 3 (Hc v39)) 4 := by
  unfold S_slices_insertionSortCmpFunc_int_j12 at h
  refine regI ?_
  cases h
  exact AI rfl (simT (M := []) (lit' := [((0, 0), .rows 1 (v31.map e_i64))]) (hg0.tl _) rfl (AI (Vw.mslE rfl (by first | rfl | omega | (simp; done) | (simp at *; omega)) rfl) (AI (VS rfl) (AI (VS rfl) (AI (Vw.clo hg0.hf hg0.hc (by decide) (rhoT_1 (chkT_ok (n := 4) (q := 3) (lit' := [((0, 0), .rows 1 (v31.map e_i64))]) rfl))) (AI (VS rfl) TT))))) (AI (AI rfl (BVw.enc e_i64 (fun _ => rfl) _ v31)) TT))

theorem f32b0_j11_ok {σ : Type} {Hc : σ → AHeap} {fi0 : Fn} {ff0 fc0 : List AVal} {g0 : σ → (Int × Int) → Option (Int × σ)} (hg0 : Clo Try.prog fi0 ff0 fc0 Hc (fun (x : (Int × Int)) => [.int .i64 x.1, .int .i64 x.2]) (fun (b : Int) => .int .i64 b) g0) {a2 : List Int} {z0 : σ} {a0 : Int} {a1 : Int} {v14 : Int} {v31 : List Int} {v32 : Int} {v38 : Bool} {v39 : σ} {m : Option Nat} {o : (((List Int) × Int × σ) ⊕ (((List Int) × Int × σ) ⊕ ((List Int) × σ)))} (h : S_slices_insertionSortCmpFunc_int_j11 g0 m a0 a1 v14 v31 v32 v38 v39 = some o) :
    LWp Try.prog f32b0_lay 3 f32b0_c3 (QSeq Try.prog f32b0_lay 3 f32b0_c0 (BodyQ 3 4 (f32b0_L4_env Hc fi0 ff0 fc0 a0 a1 v14) (f32b0_L4_hp Hc fi0 ff0 fc0 a0 a1 v14) (f32b0_L4_Q Hc fi0 ff0 fc0 a0 a1 a2 z0) o)) [(0, .msl (0, 0) 1 0 v31.length false), (1, .int .i64 a0), (2, .int .i64 a1), (3, .fn fi0 ff0 fc0), (8, .int .i64 v14), (9, .int .i64 v32), (34, .bool v38)] ([((0, 0), .rows 1 (v31.map e_i64))] ++ up 3 (Hc v39)) 4 := by
  unfold S_slices_insertionSortCmpFunc_int_j11 at h
  refine condI (v := v38) rfl TT (fun h139 => ?_) (fun h139 => ?_)
  · have h := ite_tt h139 h
    refine skipI ?_
    refine seqI ?_
    refine blockI ?_
    refine drawO rfl ?_
    obtain ⟨h140, h⟩ := ite_some h
    refine AI h140 ?_
    obtain ⟨h141, h⟩ := ite_some h
    refine EX (e_i64 (v31.getD (0 + (W (v32 - 1)).toNat) default)) (AI (getD_enc e_i64 _ _ h141) (AI (AI (lt_map e_i64 h141) (NB rfl)) ?_))
    obtain ⟨h142, h⟩ := ite_some h
    refine AI h142 ?_
    obtain ⟨h143, h⟩ := ite_some h
    refine EX (e_i64 (v31.getD (0 + v32.toNat) default)) (AI (getD_enc e_i64 _ _ h143) (AI (AI (lt_map e_i64 h143) (NB rfl)) ?_))
    obtain ⟨h144, h⟩ := ite_some h
    refine AI h144 ?_
    obtain ⟨h145, h⟩ := ite_some h
    refine EX ((v31.set (0 + v32.toNat) (v31.getD (0 + (W (v32 - 1)).toNat) default)).map e_i64) (AI (set_enc e_i64 _ _ _ _ _ h145 rfl) (AI (AI rfl (AI (lt_map e_i64 h145) (NB rfl))) ?_))
    obtain ⟨h146, h⟩ := ite_some h
    refine AI h146 ?_
    obtain ⟨h147, h⟩ := ite_some h
    refine EX (((v31.set (0 + v32.toNat) (v31.getD (0 + (W (v32 - 1)).toNat) default)).set (0 + (W (v32 - 1)).toNat) (v31.getD (0 + v32.toNat) default)).map e_i64) (AI (set_enc e_i64 _ _ _ _ _ h147 rfl) (AI (AI rfl (AI (lt_map e_i64 h147) (NB rfl))) ?_))
    refine LWp.sim (e := [(0, .msl (0, 0) 1 0 v31.length false), (1, .int .i64 a0), (2, .int .i64 a1), (3, .fn fi0 ff0 fc0), (8, .int .i64 v14), (9, .int .i64 v32)]) (L := ([((0, 0), .rows 1 (((v31.set (0 + v32.toNat) (v31.getD (0 + (W (v32 - 1)).toNat) default)).set (0 + (W (v32 - 1)).toNat) (v31.getD (0 + v32.toNat) default)).map e_i64))] ++ up 3 (Hc v39))) (n := 4) ?_ ?_
    · exact simT (M := []) (lit' := [((0, 0), .rows 1 (((v31.set (0 + v32.toNat) (v31.getD (0 + (W (v32 - 1)).toNat) default)).set (0 + (W (v32 - 1)).toNat) (v31.getD (0 + v32.toNat) default)).map e_i64))]) (hg0.tl _) rfl (AI (Vw.mslE rfl (by first | rfl | omega | (simp; done) | (simp at *; omega)) rfl) (AI (VS rfl) (AI (VS rfl) (AI (Vw.clo hg0.hf hg0.hc (by decide) (rhoT_1 (chkT_ok (n := 4) (q := 3) (lit' := [((0, 0), .rows 1 (((v31.set (0 + v32.toNat) (v31.getD (0 + (W (v32 - 1)).toNat) default)).set (0 + (W (v32 - 1)).toNat) (v31.getD (0 + v32.toNat) default)).map e_i64))]) rfl))) (AI (VS rfl) (AI (VS rfl) TT)))))) (AI (AI rfl (BVw.enc e_i64 (fun _ => rfl) _ ((v31.set (0 + v32.toNat) (v31.getD (0 + (W (v32 - 1)).toNat) default)).set (0 + (W (v32 - 1)).toNat) (v31.getD (0 + v32.toNat) default)))) TT)
    refine regI ?_
    cases h
    exact AI rfl (simT (M := []) (lit' := [((0, 0), .rows 1 (((v31.set (0 + v32.toNat) (v31.getD (0 + (W (v32 - 1)).toNat) default)).set (0 + (W (v32 - 1)).toNat) (v31.getD (0 + v32.toNat) default)).map e_i64))]) (hg0.tl _) rfl (AI (Vw.mslE rfl (by first | rfl | omega | (simp; done) | (simp at *; omega)) rfl) (AI (VS rfl) (AI (VS rfl) (AI (Vw.clo hg0.hf hg0.hc (by decide) (rhoT_1 (chkT_ok (n := 4) (q := 3) (lit' := [((0, 0), .rows 1 (((v31.set (0 + v32.toNat) (v31.getD (0 + (W (v32 - 1)).toNat) default)).set (0 + (W (v32 - 1)).toNat) (v31.getD (0 + v32.toNat) default)).map e_i64))]) rfl))) (AI (VS rfl) (AI (VS rfl) TT)))))) (AI (AI rfl (BVw.enc e_i64 (fun _ => rfl) _ ((v31.set (0 + v32.toNat) (v31.getD (0 + (W (v32 - 1)).toNat) default)).set (0 + (W (v32 - 1)).toNat) (v31.getD (0 + v32.toNat) default)))) TT))
  · have h := ite_ff h139 h
    refine exitI ?_
    obtain ⟨o, hq, rfl⟩ := Option.map_eq_some_iff.1 h
    replace h := hq; clear hq
    refine AI nofun ?_
    refine LWp.sim ?_ (f32b0_j12_ok hg0 h)
    exact simT (M := []) (lit' := [((0, 0), .rows 1 (v31.map e_i64))]) (hg0.tl _) rfl (AI (Vw.mslE rfl (by first | rfl | omega | (simp; done) | (simp at *; omega)) rfl) (AI (VS rfl) (AI (VS rfl) (AI (Vw.clo hg0.hf hg0.hc (by decide) (rhoT_1 (chkT_ok (n := 4) (q := 3) (lit' := [((0, 0), .rows 1 (v31.map e_i64))]) rfl))) (AI (VS rfl) TT))))) (AI (AI rfl (BVw.enc e_i64 (fun _ => rfl) _ v31)) TT)

noncomputable def S_slices_insertionSortCmpFunc_int_b4 {σ : Type} (g0 : σ → (Int × Int) → Option (Int × σ)) (m : Option Nat) (a0 : Int) (a1 : Int) (v14 : Int) (v31 : List Int) (v32 : Int) (v33 : σ) : Option (((List Int) × Int × σ) ⊕ (((List Int) × Int × σ) ⊕ ((List Int) × σ))) :=
  if (((decide (v32 > a0)) == true) = true → (0 : Int) ≤ v32 ∧ v32 < ((v31.length : Nat) : Int)) then
  if (((decide (v32 > a0)) == true) = true → (0 + v32.toNat) < v31.length) then
  if (((decide (v32 > a0)) == true) = true → (0 : Int) ≤ (W (v32 - 1)) ∧ (W (v32 - 1)) < ((v31.length : Nat) : Int)) then
  if (((decide (v32 > a0)) == true) = true → (0 + (W (v32 - 1)).toNat) < v31.length) then
  if ((decide (v32 > a0)) == true) = true then
    (g0 v33 ((v31.getD (0 + v32.toNat) default), (v31.getD (0 + (W (v32 - 1)).toNat) default))).bind fun v37 =>
    S_slices_insertionSortCmpFunc_int_j11 g0 m a0 a1 v14 v31 v32 ((decide (v32 > a0)) && (decide (v37.1 < 0))) v37.2
  else
    S_slices_insertionSortCmpFunc_int_j11 g0 m a0 a1 v14 v31 v32 ((decide (v32 > a0)) && (decide ((0 : Int) < 0))) v33
  else none
  else none
  else none
  else none

noncomputable def S_slices_insertionSortCmpFunc_int_l4 {σ : Type} (g0 : σ → (Int × Int) → Option (Int × σ)) (m : Option Nat) (a0 : Int) (a1 : Int) (v14 : Int) (v31 : List Int) (v32 : Int) (v33 : σ) : Option (((List Int) × Int × σ) ⊕ ((List Int) × σ)) := loopM m (fun (s : ((List Int) × Int × σ)) => S_slices_insertionSortCmpFunc_int_b4 g0 m a0 a1 v14 s.1 s.2.1 s.2.2) (v31, v32, v33)

theorem f32b0_L4_bok {σ : Type} {Hc : σ → AHeap} {fi0 : Fn} {ff0 fc0 : List AVal} {g0 : σ → (Int × Int) → Option (Int × σ)} (hg0 : Clo Try.prog fi0 ff0 fc0 Hc (fun (x : (Int × Int)) => [.int .i64 x.1, .int .i64 x.2]) (fun (b : Int) => .int .i64 b) g0) {a2 : List Int} {z0 : σ} {a0 : Int} {a1 : Int} {v14 : Int} {v31 : List Int} {v32 : Int} {v33 : σ} {m : Option Nat} {o : ((List Int) × Int × σ) ⊕ (((List Int) × Int × σ) ⊕ ((List Int) × σ))} (h : S_slices_insertionSortCmpFunc_int_b4 g0 m a0 a1 v14 v31 v32 v33 = some o) :
    LWp Try.prog f32b0_lay 3 f32b0_c2 (BodyQ 3 4 (f32b0_L4_env Hc fi0 ff0 fc0 a0 a1 v14) (f32b0_L4_hp Hc fi0 ff0 fc0 a0 a1 v14) (f32b0_L4_Q Hc fi0 ff0 fc0 a0 a1 a2 z0) o) [(0, .msl (0, 0) 1 0 v31.length false), (1, .int .i64 a0), (2, .int .i64 a1), (3, .fn fi0 ff0 fc0), (8, .int .i64 v14), (9, .int .i64 v32)] ([((0, 0), .rows 1 (v31.map e_i64))] ++ up 3 (Hc v33)) 4 := by
  unfold S_slices_insertionSortCmpFunc_int_b4 at h
  refine seqI ?_
  refine seqI ?_
  refine drawO rfl ?_
  obtain ⟨h132, h⟩ := ite_some h
  refine AI (fun hp => (AI (AI hp hp) (h132 hp))) ?_
  obtain ⟨h133, h⟩ := ite_some h
  refine EX (e_i64 (v31.getD (0 + v32.toNat) default)) (AI (fun hp => AI (getD_enc e_i64 _ _ (h133 hp)) (AI hp (AI (lt_map e_i64 (h133 hp)) (NB rfl)))) ?_)
  refine AI (fun hp => hp) ?_
  obtain ⟨h134, h⟩ := ite_some h
  refine AI (fun hp => (AI (AI hp hp) (h134 hp))) ?_
  obtain ⟨h135, h⟩ := ite_some h
  refine EX (e_i64 (v31.getD (0 + (W (v32 - 1)).toNat) default)) (AI (fun hp => AI (getD_enc e_i64 _ _ (h135 hp)) (AI hp (AI (lt_map e_i64 (h135 hp)) (NB rfl)))) ?_)
  refine Or.inr (AI (fun h136 => ?_) (fun h137 => ?_))
  · have h := ite_tt h136 h
    obtain ⟨v37, h138, h⟩ := bind_some h
    refine AI (AI h136 (AI h136 h136)) ?_
    refine Clo.use (q := 3) (lit := [((0, 0), .rows 1 (v31.map e_i64))]) hg0 h138 rfl rfl (AI (VS rfl) (AI (VS rfl) TT)) ?_
    refine AI (fun hc => h136) ?_
    refine LWp.sim ?_ (f32b0_j11_ok hg0 h)
    exact simT (M := []) (lit' := [((0, 0), .rows 1 (v31.map e_i64))]) (hg0.tl _) rfl (AI (Vw.mslE rfl (by first | rfl | omega | (simp; done) | (simp at *; omega)) rfl) (AI (VS rfl) (AI (VS rfl) (AI (Vw.clo hg0.hf hg0.hc (by decide) (rhoT_1 (chkT_ok (n := 4) (q := 4) (lit' := [((0, 0), .rows 1 (v31.map e_i64))]) rfl))) (AI (VS rfl) (AI (VS rfl) (AI (VS rfl) TT))))))) (AI (AI rfl (BVw.enc e_i64 (fun _ => rfl) _ v31)) TT)
  · have h := ite_ff h137 h
    refine EX (.cnd ((decide (v32 > a0)) == true) (.int .i64 0)) (AI (Or.inr (EX _ (congrArg (fun q => AVal.cnd q _) h137))) ?_)
    refine AI (fun hp => hp) ?_
    refine AI (fun hc => (bqt hc)) ?_
    refine LWp.sim ?_ (f32b0_j11_ok hg0 h)
    exact simT (M := []) (lit' := [((0, 0), .rows 1 (v31.map e_i64))]) (hg0.tl _) rfl (AI (Vw.mslE rfl (by first | rfl | omega | (simp; done) | (simp at *; omega)) rfl) (AI (VS rfl) (AI (VS rfl) (AI (Vw.clo hg0.hf hg0.hc (by decide) (rhoT_1 (chkT_ok (n := 4) (q := 3) (lit' := [((0, 0), .rows 1 (v31.map e_i64))]) rfl))) (AI (VS rfl) (AI (VS rfl) (AI (VS rfl) TT))))))) (AI (AI rfl (BVw.enc e_i64 (fun _ => rfl) _ v31)) TT)

theorem f32b0_L4_ok {σ : Type} {Hc : σ → AHeap} {fi0 : Fn} {ff0 fc0 : List AVal} {g0 : σ → (Int × Int) → Option (Int × σ)} (hg0 : Clo Try.prog fi0 ff0 fc0 Hc (fun (x : (Int × Int)) => [.int .i64 x.1, .int .i64 x.2]) (fun (b : Int) => .int .i64 b) g0) {a2 : List Int} {z0 : σ} {a0 : Int} {a1 : Int} {v14 : Int} {v31 : List Int} {v32 : Int} {v33 : σ} {m : Option Nat} {o : (((List Int) × Int × σ) ⊕ ((List Int) × σ))} (h : S_slices_insertionSortCmpFunc_int_l4 g0 m a0 a1 v14 v31 v32 v33 = some o) :
    LWp Try.prog f32b0_lay 3 (.loop f32b0_c2) (QBlock 2 (QBlock 1 (QSeq Try.prog f32b0_lay 3 f32b0_c1 (BodyQ 3 4 (f32b0_L3_env Hc fi0 ff0 fc0 a0 a1) (f32b0_L3_hp Hc fi0 ff0 fc0 a0 a1) (f32b0_L3_Q Hc fi0 ff0 fc0 a0 a1 a2 z0) o)))) [(0, .msl (0, 0) 1 0 v31.length false), (1, .int .i64 a0), (2, .int .i64 a1), (3, .fn fi0 ff0 fc0), (8, .int .i64 v14), (9, .int .i64 v32)] ([((0, 0), .rows 1 (v31.map e_i64))] ++ up 3 (Hc v33)) 4 :=
  LWp_loopM (m := m) (s := ((v31, v32, v33) : ((List Int) × Int × σ))) (r := o) (fun (s : ((List Int) × Int × σ)) => S_slices_insertionSortCmpFunc_int_b4 g0 m a0 a1 v14 s.1 s.2.1 s.2.2) (f32b0_L4_env Hc fi0 ff0 fc0 a0 a1 v14) (f32b0_L4_hp Hc fi0 ff0 fc0 a0 a1 v14) (f32b0_L4_Q Hc fi0 ff0 fc0 a0 a1 a2 z0) (fun s o h => f32b0_L4_bok hg0 h) h

noncomputable def S_slices_insertionSortCmpFunc_int_b3 {σ : Type} (g0 : σ → (Int × Int) → Option (Int × σ)) (m : Option Nat) (a0 : Int) (a1 : Int) (v13 : List Int) (v14 : Int) (v15 : σ) : Option (((List Int) × Int × σ) ⊕ ((List Int) × σ)) :=
  if (decide (v14 < a1)) = true then
    S_slices_insertionSortCmpFunc_int_l4 g0 m a0 a1 v14 v13 v14 v15
  else
    Option.map Sum.inr (
      some (v13, v15))

noncomputable def S_slices_insertionSortCmpFunc_int_l3 {σ : Type} (g0 : σ → (Int × Int) → Option (Int × σ)) (m : Option Nat) (a0 : Int) (a1 : Int) (v13 : List Int) (v14 : Int) (v15 : σ) : Option ((List Int) × σ) := loopM m (fun (s : ((List Int) × Int × σ)) => S_slices_insertionSortCmpFunc_int_b3 g0 m a0 a1 s.1 s.2.1 s.2.2) (v13, v14, v15)

theorem f32b0_L3_bok {σ : Type} {Hc : σ → AHeap} {fi0 : Fn} {ff0 fc0 : List AVal} {g0 : σ → (Int × Int) → Option (Int × σ)} (hg0 : Clo Try.prog fi0 ff0 fc0 Hc (fun (x : (Int × Int)) => [.int .i64 x.1, .int .i64 x.2]) (fun (b : Int) => .int .i64 b) g0) {a2 : List Int} {z0 : σ} {a0 : Int} {a1 : Int} {v13 : List Int} {v14 : Int} {v15 : σ} {m : Option Nat} {o : ((List Int) × Int × σ) ⊕ ((List Int) × σ)} (h : S_slices_insertionSortCmpFunc_int_b3 g0 m a0 a1 v13 v14 v15 = some o) :
    LWp Try.prog f32b0_lay 3 f32b0_c4 (BodyQ 3 4 (f32b0_L3_env Hc fi0 ff0 fc0 a0 a1) (f32b0_L3_hp Hc fi0 ff0 fc0 a0 a1) (f32b0_L3_Q Hc fi0 ff0 fc0 a0 a1 a2 z0) o) [(0, .msl (0, 0) 1 0 v13.length false), (1, .int .i64 a0), (2, .int .i64 a1), (3, .fn fi0 ff0 fc0), (8, .int .i64 v14)] ([((0, 0), .rows 1 (v13.map e_i64))] ++ up 3 (Hc v15)) 4 := by
  unfold S_slices_insertionSortCmpFunc_int_b3 at h
  refine seqI ?_
  refine seqI ?_
  refine regI ?_
  refine condI (v := (decide (v14 < a1))) rfl TT (fun h99 => ?_) (fun h99 => ?_)
  · have h := ite_tt h99 h
    refine skipI ?_
    refine seqI ?_
    refine blockI ?_
    refine seqI ?_
    refine regI ?_
    refine blockI ?_
    refine LWp.sim ?_ (f32b0_L4_ok hg0 h)
    exact simT (M := []) (lit' := [((0, 0), .rows 1 (v13.map e_i64))]) (hg0.tl _) rfl (AI (Vw.mslE rfl (by first | rfl | omega | (simp; done) | (simp at *; omega)) rfl) (AI (VS rfl) (AI (VS rfl) (AI (Vw.clo hg0.hf hg0.hc (by decide) (rhoT_1 (chkT_ok (n := 4) (q := 3) (lit' := [((0, 0), .rows 1 (v13.map e_i64))]) rfl))) (AI (VS rfl) (AI (VS rfl) TT)))))) (AI (AI rfl (BVw.enc e_i64 (fun _ => rfl) _ v13)) TT)
  · have h := ite_ff h99 h
    refine exitI ?_
    obtain ⟨o, hq, rfl⟩ := Option.map_eq_some_iff.1 h
    replace h := hq; clear hq
    refine AI nofun ?_
    cases h
    exact finT (n' := 4) (q := 3) (lit' := [((0, 0), .rows 1 (v13.map e_i64))]) (hg0.tl _) [] [] rfl rfl (VS rfl) (AI (AI rfl (BVw.enc e_i64 (fun _ => rfl) _ v13)) TT)

theorem f32b0_L3_ok {σ : Type} {Hc : σ → AHeap} {fi0 : Fn} {ff0 fc0 : List AVal} {g0 : σ → (Int × Int) → Option (Int × σ)} (hg0 : Clo Try.prog fi0 ff0 fc0 Hc (fun (x : (Int × Int)) => [.int .i64 x.1, .int .i64 x.2]) (fun (b : Int) => .int .i64 b) g0) {a2 : List Int} {z0 : σ} {a0 : Int} {a1 : Int} {v13 : List Int} {v14 : Int} {v15 : σ} {m : Option Nat} {o : ((List Int) × σ)} (h : S_slices_insertionSortCmpFunc_int_l3 g0 m a0 a1 v13 v14 v15 = some o) :
    LWp Try.prog f32b0_lay 3 (.loop f32b0_c4) (QBlock 0 (f32b0_Q Hc fi0 ff0 fc0 a0 a1 a2 z0 o)) [(0, .msl (0, 0) 1 0 v13.length false), (1, .int .i64 a0), (2, .int .i64 a1), (3, .fn fi0 ff0 fc0), (8, .int .i64 v14)] ([((0, 0), .rows 1 (v13.map e_i64))] ++ up 3 (Hc v15)) 4 :=
  LWp_loopM (m := m) (s := ((v13, v14, v15) : ((List Int) × Int × σ))) (r := o) (fun (s : ((List Int) × Int × σ)) => S_slices_insertionSortCmpFunc_int_b3 g0 m a0 a1 s.1 s.2.1 s.2.2) (f32b0_L3_env Hc fi0 ff0 fc0 a0 a1) (f32b0_L3_hp Hc fi0 ff0 fc0 a0 a1) (f32b0_L3_Q Hc fi0 ff0 fc0 a0 a1 a2 z0) (fun s o h => f32b0_L3_bok hg0 h) h

noncomputable def S_slices_insertionSortCmpFunc_int {σ : Type} (g0 : σ → (Int × Int) → Option (Int × σ)) (m : Option Nat) (a0 : Int) (a1 : Int) (a2 : List Int) (z0 : σ) : Option ((List Int) × σ) :=
  S_slices_insertionSortCmpFunc_int_l3 g0 m a0 a1 a2 (W (a0 + 1)) z0

theorem f32b0_start {σ : Type} {Hc : σ → AHeap} {fi0 : Fn} {ff0 fc0 : List AVal} {g0 : σ → (Int × Int) → Option (Int × σ)} (hg0 : Clo Try.prog fi0 ff0 fc0 Hc (fun (x : (Int × Int)) => [.int .i64 x.1, .int .i64 x.2]) (fun (b : Int) => .int .i64 b) g0) {a0 : Int} {a1 : Int} {a2 : List Int} {z0 : σ} {m : Option Nat} {o : (List Int) × σ} (h : S_slices_insertionSortCmpFunc_int g0 m a0 a1 a2 z0 = some o) : LWp Try.prog f32b0_lay 3 f32b0_c5 (f32b0_Q Hc fi0 ff0 fc0 a0 a1 a2 z0 o) (initEnv 0 [.msl (0, 0) 1 0 a2.length false, .int .i64 a0, .int .i64 a1, .fn fi0 ff0 fc0]) ([((0, 0), .rows 1 (a2.map e_i64))] ++ Hc z0) 3 := by
  unfold S_slices_insertionSortCmpFunc_int at h
  refine LWp.sim (e := [(0, .msl (0, 0) 1 0 a2.length false), (1, .int .i64 a0), (2, .int .i64 a1), (3, .fn fi0 ff0 fc0)]) (L := ([((0, 0), .rows 1 (a2.map e_i64))] ++ up 3 (Hc z0))) (n := 4) (entryT (T := Hc z0) (e' := initEnv 0 [.msl (0, 0) 1 0 a2.length false, .int .i64 a0, .int .i64 a1, .fn fi0 ff0 fc0]) (e := [(0, .msl (0, 0) 1 0 a2.length false), (1, .int .i64 a0), (2, .int .i64 a1), (3, .fn fi0 ff0 fc0)]) (lit' := [((0, 0), .rows 1 (a2.map e_i64))]) (lit := [((0, 0), .rows 1 (a2.map e_i64))]) (hg0.tl z0) rfl rfl (AI (Vw.mslE rfl (by first | rfl | omega | (simp; done) | (simp at *; omega)) rfl) (AI (VS rfl) (AI (VS rfl) (AI (Vw.clo hg0.hf hg0.hc (by decide) (rhoE_1 _)) TT)))) (AI (AI rfl (BVw.enc e_i64 (fun _ => rfl) _ a2)) TT)) ?_
  refine seqI ?_
  refine regI ?_
  refine blockI ?_
  refine LWp.sim ?_ (f32b0_L3_ok hg0 h)
  exact simT (M := []) (lit' := [((0, 0), .rows 1 (a2.map e_i64))]) (hg0.tl _) rfl (AI (Vw.mslE rfl (by first | rfl | omega | (simp; done) | (simp at *; omega)) rfl) (AI (VS rfl) (AI (VS rfl) (AI (Vw.clo hg0.hf hg0.hc (by decide) (rhoT_1 (chkT_ok (n := 4) (q := 3) (lit' := [((0, 0), .rows 1 (a2.map e_i64))]) rfl))) (AI (VS rfl) TT))))) (AI (AI rfl (BVw.enc e_i64 (fun _ => rfl) _ a2)) TT)

theorem f32b0_ok {σ : Type} {Hc : σ → AHeap} {fi0 : Fn} {ff0 fc0 : List AVal} {g0 : σ → (Int × Int) → Option (Int × σ)} (hg0 : Clo Try.prog fi0 ff0 fc0 Hc (fun (x : (Int × Int)) => [.int .i64 x.1, .int .i64 x.2]) (fun (b : Int) => .int .i64 b) g0) {a0 : Int} {a1 : Int} {a2 : List Int} {z0 : σ} {m : Option Nat} {o : (List Int) × σ} (h : S_slices_insertionSortCmpFunc_int g0 m a0 a1 a2 z0 = some o) : ACalls Try.prog 32 [.msl (0, 0) 1 0 a2.length false, .int .i64 a0, .int .i64 a1, .fn fi0 ff0 fc0] ([((0, 0), .rows 1 (a2.map e_i64))] ++ Hc z0) 3 (Gives 4 (.tup []) ([((0, 0), .rows 1 (o.1.map e_i64))] ++ up 3 (Hc o.2))) := bfn_of (L := f32b0_L) f32b0_low f32b0_fok (NB rfl) (f32b0_start hg0 h)

def f38b0_c0 : LCode := (.seq (.seq (.region [⟨some 11, .mv (.t 10), none⟩,
   ⟨some 12, .mv (.t 3), none⟩,
   ⟨some 13, .bin .lss (.t 11) (.t 12), none⟩])
 (.cond (.t 13)
  .skip
  (.exit 0)))
 (.seq (.block 1
  (.draw [⟨⟨some 16, .mv (.t 0), none⟩, []⟩,
    ⟨⟨some 17, .mv (.t 1), none⟩, []⟩,
    ⟨⟨some 18, .mv (.t 10), none⟩, []⟩,
    ⟨⟨some 19, .bin .add (.t 17) (.t 18), none⟩, []⟩,
    ⟨⟨some 20, .mv (.t 0), none⟩, []⟩,
    ⟨⟨some 21, .mv (.t 2), none⟩, []⟩,
    ⟨⟨some 22, .mv (.t 10), none⟩, []⟩,
    ⟨⟨some 23, .bin .add (.t 21) (.t 22), none⟩, []⟩,
    ⟨⟨some 24, .mv (.t 0), none⟩, []⟩,
    ⟨⟨some 25, .mv (.t 2), none⟩, []⟩,
    ⟨⟨some 26, .mv (.t 10), none⟩, []⟩,
    ⟨⟨some 27, .bin .add (.t 25) (.t 26), none⟩, []⟩,
    ⟨⟨some 28, .iaddr 1 (.t 24) (.t 27), none⟩, []⟩,
    ⟨⟨some 29, .load false 1 (.t 28), none⟩, []⟩,
    ⟨⟨some 30, .mv (.t 0), none⟩, []⟩,
    ⟨⟨some 31, .mv (.t 1), none⟩, []⟩,
    ⟨⟨some 32, .mv (.t 10), none⟩, []⟩,
    ⟨⟨some 33, .bin .add (.t 31) (.t 32), none⟩, []⟩,
    ⟨⟨some 34, .iaddr 1 (.t 30) (.t 33), none⟩, []⟩,
    ⟨⟨some 35, .load false 1 (.t 34), none⟩, []⟩,
    ⟨⟨some 36, .iaddr 1 (.t 16) (.t 19), none⟩, []⟩,
    ⟨⟨none, .store 1 (.t 36) (.t 29), none⟩, []⟩,
    ⟨⟨some 37, .iaddr 1 (.t 20) (.t 23), none⟩, []⟩,
    ⟨⟨none, .store 1 (.t 37) (.t 35), none⟩, []⟩]))
 (.region [⟨some 14, .mv (.t 10), none⟩,
   ⟨some 15, .bin .add (.t 14) (.c (.int .i64 1)), none⟩,
   ⟨some 10, .mv (.t 15), none⟩])))
def f38b0_c1 : LCode := (.seq (.region [⟨some 10, .mv (.c (.int .i64 0)), none⟩])
 (.block 0
  (.loop
   f38b0_c0)))
def f38b0_lay : Lay := ⟨38, [], false⟩
def f38b0_res : List LRes := []
def f38b0_L : LFn := ⟨5, f38b0_lay, f38b0_c1, f38b0_res⟩
theorem f38b0_low : lowFn Try.prog [] 38 = some f38b0_L := by kernel_rfl
theorem f38b0_fok : FnOk Try.prog 38 := ⟨_, Try.func38, rfl, rfl⟩
def f38b0_Q {σ : Type} (Hc : σ → AHeap) (fi0 : Fn) (ff0 fc0 : List AVal) (a0 : Int) (a1 : Int) (a2 : Int) (a3 : List Int) (z0 : σ) (o : (List Int) × σ) : Exit → Env → AHeap → Nat → Prop := FinK f38b0_res (FinTo 3 4 (.tup []) ([((0, 0), .rows 1 (o.1.map e_i64))] ++ up 3 (Hc o.2)))

def f38b0_L1_env {σ : Type} (Hc : σ → AHeap) (fi0 : Fn) (ff0 fc0 : List AVal) (a0 : Int) (a1 : Int) (a2 : Int) (z0 : σ) (s : ((List Int) × Int)) : Env := [(0, .msl (0, 0) 1 0 s.1.length false), (1, .int .i64 a0), (2, .int .i64 a1), (3, .int .i64 a2), (10, .int .i64 s.2)]
def f38b0_L1_hp {σ : Type} (Hc : σ → AHeap) (fi0 : Fn) (ff0 fc0 : List AVal) (a0 : Int) (a1 : Int) (a2 : Int) (z0 : σ) (s : ((List Int) × Int)) : AHeap := ([((0, 0), .rows 1 (s.1.map e_i64))] ++ up 3 (Hc z0))
def f38b0_L1_Q {σ : Type} (Hc : σ → AHeap) (fi0 : Fn) (ff0 fc0 : List AVal) (a0 : Int) (a1 : Int) (a2 : Int) (a3 : List Int) (z0 : σ) (o : ((List Int) × σ)) : Exit → Env → AHeap → Nat → Prop := (QBlock 0 (f38b0_Q Hc fi0 ff0 fc0 a0 a1 a2 a3 z0 o))

noncomputable def S_slices_swapRangeCmpFunc_int_b1 {σ : Type} (g0 : σ → (Int × Int) → Option (Int × σ)) (m : Option Nat) (a0 : Int) (a1 : Int) (a2 : Int) (z0 : σ) (v1 : List Int) (v2 : Int) : Option (((List Int) × Int) ⊕ ((List Int) × σ)) :=
  if (decide (v2 < a2)) = true then
    if (0 : Int) ≤ (W (a1 + v2)) ∧ (W (a1 + v2)) < ((v1.length : Nat) : Int) then
    if (0 + (W (a1 + v2)).toNat) < v1.length then
    if (0 : Int) ≤ (W (a0 + v2)) ∧ (W (a0 + v2)) < ((v1.length : Nat) : Int) then
    if (0 + (W (a0 + v2)).toNat) < v1.length then
    if (0 : Int) ≤ (W (a0 + v2)) ∧ (W (a0 + v2)) < ((v1.length : Nat) : Int) then
    if (0 + (W (a0 + v2)).toNat) < v1.length then
    if (0 : Int) ≤ (W (a1 + v2)) ∧ (W (a1 + v2)) < ((v1.length : Nat) : Int) then
    if (0 + (W (a1 + v2)).toNat) < (v1.set (0 + (W (a0 + v2)).toNat) (v1.getD (0 + (W (a1 + v2)).toNat) default)).length then
    some (.inl (((v1.set (0 + (W (a0 + v2)).toNat) (v1.getD (0 + (W (a1 + v2)).toNat) default)).set (0 + (W (a1 + v2)).toNat) (v1.getD (0 + (W (a0 + v2)).toNat) default)), (W (v2 + 1))))
    else none
    else none
    else none
    else none
    else none
    else none
    else none
    else none
  else
    Option.map Sum.inr (
      some (v1, z0))

noncomputable def S_slices_swapRangeCmpFunc_int_l1 {σ : Type} (g0 : σ → (Int × Int) → Option (Int × σ)) (m : Option Nat) (a0 : Int) (a1 : Int) (a2 : Int) (z0 : σ) (v1 : List Int) (v2 : Int) : Option ((List Int) × σ) := loopM m (fun (s : ((List Int) × Int)) => S_slices_swapRangeCmpFunc_int_b1 g0 m a0 a1 a2 z0 s.1 s.2) (v1, v2)

theorem f38b0_L1_bok {σ : Type} {Hc : σ → AHeap} {fi0 : Fn} {ff0 fc0 : List AVal} {g0 : σ → (Int × Int) → Option (Int × σ)} (hg0 : Clo Try.prog fi0 ff0 fc0 Hc (fun (x : (Int × Int)) => [.int .i64 x.1, .int .i64 x.2]) (fun (b : Int) => .int .i64 b) g0) {a3 : List Int} {a0 : Int} {a1 : Int} {a2 : Int} {z0 : σ} {v1 : List Int} {v2 : Int} {m : Option Nat} {o : ((List Int) × Int) ⊕ ((List Int) × σ)} (h : S_slices_swapRangeCmpFunc_int_b1 g0 m a0 a1 a2 z0 v1 v2 = some o) :
    LWp Try.prog f38b0_lay 3 f38b0_c0 (BodyQ 3 4 (f38b0_L1_env Hc fi0 ff0 fc0 a0 a1 a2 z0) (f38b0_L1_hp Hc fi0 ff0 fc0 a0 a1 a2 z0) (f38b0_L1_Q Hc fi0 ff0 fc0 a0 a1 a2 a3 z0) o) [(0, .msl (0, 0) 1 0 v1.length false), (1, .int .i64 a0), (2, .int .i64 a1), (3, .int .i64 a2), (10, .int .i64 v2)] ([((0, 0), .rows 1 (v1.map e_i64))] ++ up 3 (Hc z0)) 4 := by
  unfold S_slices_swapRangeCmpFunc_int_b1 at h
  refine seqI ?_
  refine seqI ?_
  refine regI ?_
  refine condI (v := (decide (v2 < a2))) rfl TT (fun h19 => ?_) (fun h19 => ?_)
  · have h := ite_tt h19 h
    refine skipI ?_
    refine seqI ?_
    refine blockI ?_
    refine drawO rfl ?_
    obtain ⟨h20, h⟩ := ite_some h
    refine AI h20 ?_
    obtain ⟨h21, h⟩ := ite_some h
    refine EX (e_i64 (v1.getD (0 + (W (a1 + v2)).toNat) default)) (AI (getD_enc e_i64 _ _ h21) (AI (AI (lt_map e_i64 h21) (NB rfl)) ?_))
    obtain ⟨h22, h⟩ := ite_some h
    refine AI h22 ?_
    obtain ⟨h23, h⟩ := ite_some h
    refine EX (e_i64 (v1.getD (0 + (W (a0 + v2)).toNat) default)) (AI (getD_enc e_i64 _ _ h23) (AI (AI (lt_map e_i64 h23) (NB rfl)) ?_))
    obtain ⟨h24, h⟩ := ite_some h
    refine AI h24 ?_
    obtain ⟨h25, h⟩ := ite_some h
    refine EX ((v1.set (0 + (W (a0 + v2)).toNat) (v1.getD (0 + (W (a1 + v2)).toNat) default)).map e_i64) (AI (set_enc e_i64 _ _ _ _ _ h25 rfl) (AI (AI rfl (AI (lt_map e_i64 h25) (NB rfl))) ?_))
    obtain ⟨h26, h⟩ := ite_some h
    refine AI h26 ?_
    obtain ⟨h27, h⟩ := ite_some h
    refine EX (((v1.set (0 + (W (a0 + v2)).toNat) (v1.getD (0 + (W (a1 + v2)).toNat) default)).set (0 + (W (a1 + v2)).toNat) (v1.getD (0 + (W (a0 + v2)).toNat) default)).map e_i64) (AI (set_enc e_i64 _ _ _ _ _ h27 rfl) (AI (AI rfl (AI (lt_map e_i64 h27) (NB rfl))) ?_))
    refine LWp.sim (e := [(0, .msl (0, 0) 1 0 v1.length false), (1, .int .i64 a0), (2, .int .i64 a1), (3, .int .i64 a2), (10, .int .i64 v2)]) (L := ([((0, 0), .rows 1 (((v1.set (0 + (W (a0 + v2)).toNat) (v1.getD (0 + (W (a1 + v2)).toNat) default)).set (0 + (W (a1 + v2)).toNat) (v1.getD (0 + (W (a0 + v2)).toNat) default)).map e_i64))] ++ up 3 (Hc z0))) (n := 4) ?_ ?_
    · exact simT (M := []) (lit' := [((0, 0), .rows 1 (((v1.set (0 + (W (a0 + v2)).toNat) (v1.getD (0 + (W (a1 + v2)).toNat) default)).set (0 + (W (a1 + v2)).toNat) (v1.getD (0 + (W (a0 + v2)).toNat) default)).map e_i64))]) (hg0.tl _) rfl (AI (Vw.mslE rfl (by first | rfl | omega | (simp; done) | (simp at *; omega)) rfl) (AI (VS rfl) (AI (VS rfl) (AI (VS rfl) (AI (VS rfl) TT))))) (AI (AI rfl (BVw.enc e_i64 (fun _ => rfl) _ ((v1.set (0 + (W (a0 + v2)).toNat) (v1.getD (0 + (W (a1 + v2)).toNat) default)).set (0 + (W (a1 + v2)).toNat) (v1.getD (0 + (W (a0 + v2)).toNat) default)))) TT)
    refine regI ?_
    cases h
    exact AI rfl (simT (M := []) (lit' := [((0, 0), .rows 1 (((v1.set (0 + (W (a0 + v2)).toNat) (v1.getD (0 + (W (a1 + v2)).toNat) default)).set (0 + (W (a1 + v2)).toNat) (v1.getD (0 + (W (a0 + v2)).toNat) default)).map e_i64))]) (hg0.tl _) rfl (AI (Vw.mslE rfl (by first | rfl | omega | (simp; done) | (simp at *; omega)) rfl) (AI (VS rfl) (AI (VS rfl) (AI (VS rfl) (AI (VS rfl) TT))))) (AI (AI rfl (BVw.enc e_i64 (fun _ => rfl) _ ((v1.set (0 + (W (a0 + v2)).toNat) (v1.getD (0 + (W (a1 + v2)).toNat) default)).set (0 + (W (a1 + v2)).toNat) (v1.getD (0 + (W (a0 + v2)).toNat) default)))) TT))
  · have h := ite_ff h19 h
    refine exitI ?_
    obtain ⟨o, hq, rfl⟩ := Option.map_eq_some_iff.1 h
    replace h := hq; clear hq
    refine AI nofun ?_
    cases h
    exact finT (n' := 4) (q := 3) (lit' := [((0, 0), .rows 1 (v1.map e_i64))]) (hg0.tl _) [] [] rfl rfl (VS rfl) (AI (AI rfl (BVw.enc e_i64 (fun _ => rfl) _ v1)) TT)

theorem f38b0_L1_ok {σ : Type} {Hc : σ → AHeap} {fi0 : Fn} {ff0 fc0 : List AVal} {g0 : σ → (Int × Int) → Option (Int × σ)} (hg0 : Clo Try.prog fi0 ff0 fc0 Hc (fun (x : (Int × Int)) => [.int .i64 x.1, .int .i64 x.2]) (fun (b : Int) => .int .i64 b) g0) {a3 : List Int} {a0 : Int} {a1 : Int} {a2 : Int} {z0 : σ} {v1 : List Int} {v2 : Int} {m : Option Nat} {o : ((List Int) × σ)} (h : S_slices_swapRangeCmpFunc_int_l1 g0 m a0 a1 a2 z0 v1 v2 = some o) :
    LWp Try.prog f38b0_lay 3 (.loop f38b0_c0) (QBlock 0 (f38b0_Q Hc fi0 ff0 fc0 a0 a1 a2 a3 z0 o)) [(0, .msl (0, 0) 1 0 v1.length false), (1, .int .i64 a0), (2, .int .i64 a1), (3, .int .i64 a2), (10, .int .i64 v2)] ([((0, 0), .rows 1 (v1.map e_i64))] ++ up 3 (Hc z0)) 4 :=
  LWp_loopM (m := m) (s := ((v1, v2) : ((List Int) × Int))) (r := o) (fun (s : ((List Int) × Int)) => S_slices_swapRangeCmpFunc_int_b1 g0 m a0 a1 a2 z0 s.1 s.2) (f38b0_L1_env Hc fi0 ff0 fc0 a0 a1 a2 z0) (f38b0_L1_hp Hc fi0 ff0 fc0 a0 a1 a2 z0) (f38b0_L1_Q Hc fi0 ff0 fc0 a0 a1 a2 a3 z0) (fun s o h => f38b0_L1_bok hg0 h) h

noncomputable def S_slices_swapRangeCmpFunc_int {σ : Type} (g0 : σ → (Int × Int) → Option (Int × σ)) (m : Option Nat) (a0 : Int) (a1 : Int) (a2 : Int) (a3 : List Int) (z0 : σ) : Option ((List Int) × σ) :=
  S_slices_swapRangeCmpFunc_int_l1 g0 m a0 a1 a2 z0 a3 0

theorem f38b0_start {σ : Type} {Hc : σ → AHeap} {fi0 : Fn} {ff0 fc0 : List AVal} {g0 : σ → (Int × Int) → Option (Int × σ)} (hg0 : Clo Try.prog fi0 ff0 fc0 Hc (fun (x : (Int × Int)) => [.int .i64 x.1, .int .i64 x.2]) (fun (b : Int) => .int .i64 b) g0) {a0 : Int} {a1 : Int} {a2 : Int} {a3 : List Int} {z0 : σ} {m : Option Nat} {o : (List Int) × σ} (h : S_slices_swapRangeCmpFunc_int g0 m a0 a1 a2 a3 z0 = some o) : LWp Try.prog f38b0_lay 3 f38b0_c1 (f38b0_Q Hc fi0 ff0 fc0 a0 a1 a2 a3 z0 o) (initEnv 0 [.msl (0, 0) 1 0 a3.length false, .int .i64 a0, .int .i64 a1, .int .i64 a2, .fn fi0 ff0 fc0]) ([((0, 0), .rows 1 (a3.map e_i64))] ++ Hc z0) 3 := by
  unfold S_slices_swapRangeCmpFunc_int at h
  refine LWp.sim (e := [(0, .msl (0, 0) 1 0 a3.length false), (1, .int .i64 a0), (2, .int .i64 a1), (3, .int .i64 a2), (4, .fn fi0 ff0 fc0)]) (L := ([((0, 0), .rows 1 (a3.map e_i64))] ++ up 3 (Hc z0))) (n := 4) (entryT (T := Hc z0) (e' := initEnv 0 [.msl (0, 0) 1 0 a3.length false, .int .i64 a0, .int .i64 a1, .int .i64 a2, .fn fi0 ff0 fc0]) (e := [(0, .msl (0, 0) 1 0 a3.length false), (1, .int .i64 a0), (2, .int .i64 a1), (3, .int .i64 a2), (4, .fn fi0 ff0 fc0)]) (lit' := [((0, 0), .rows 1 (a3.map e_i64))]) (lit := [((0, 0), .rows 1 (a3.map e_i64))]) (hg0.tl z0) rfl rfl (AI (Vw.mslE rfl (by first | rfl | omega | (simp; done) | (simp at *; omega)) rfl) (AI (VS rfl) (AI (VS rfl) (AI (VS rfl) (AI (Vw.clo hg0.hf hg0.hc (by decide) (rhoE_1 _)) TT))))) (AI (AI rfl (BVw.enc e_i64 (fun _ => rfl) _ a3)) TT)) ?_
  refine seqI ?_
  refine regI ?_
  refine blockI ?_
  refine LWp.sim ?_ (f38b0_L1_ok hg0 h)
  exact simT (M := []) (lit' := [((0, 0), .rows 1 (a3.map e_i64))]) (hg0.tl _) rfl (AI (Vw.mslE rfl (by first | rfl | omega | (simp; done) | (simp at *; omega)) rfl) (AI (VS rfl) (AI (VS rfl) (AI (VS rfl) (AI (VS rfl) TT))))) (AI (AI rfl (BVw.enc e_i64 (fun _ => rfl) _ a3)) TT)

theorem f38b0_ok {σ : Type} {Hc : σ → AHeap} {fi0 : Fn} {ff0 fc0 : List AVal} {g0 : σ → (Int × Int) → Option (Int × σ)} (hg0 : Clo Try.prog fi0 ff0 fc0 Hc (fun (x : (Int × Int)) => [.int .i64 x.1, .int .i64 x.2]) (fun (b : Int) => .int .i64 b) g0) {a0 : Int} {a1 : Int} {a2 : Int} {a3 : List Int} {z0 : σ} {m : Option Nat} {o : (List Int) × σ} (h : S_slices_swapRangeCmpFunc_int g0 m a0 a1 a2 a3 z0 = some o) : ACalls Try.prog 38 [.msl (0, 0) 1 0 a3.length false, .int .i64 a0, .int .i64 a1, .int .i64 a2, .fn fi0 ff0 fc0] ([((0, 0), .rows 1 (a3.map e_i64))] ++ Hc z0) 3 (Gives 4 (.tup []) ([((0, 0), .rows 1 (o.1.map e_i64))] ++ up 3 (Hc o.2))) := bfn_of (L := f38b0_L) f38b0_low f38b0_fok (NB rfl) (f38b0_start hg0 h)

def f37b0_c1 : LCode := (.seq (.seq (.region [⟨some 18, .mv (.t 10), none⟩,
   ⟨some 19, .mv (.t 11), none⟩,
   ⟨some 20, .bin .neq (.t 18) (.t 19), none⟩])
 (.cond (.t 20)
  .skip
  (.exit 0)))
 (.block 1
  (.seq (.region [⟨some 21, .mv (.t 10), none⟩,
    ⟨some 22, .mv (.t 11), none⟩,
    ⟨some 23, .bin .gtr (.t 21) (.t 22), none⟩])
  (.cond (.t 23)
   (.seq (.region [⟨some 24, .mv (.t 0), none⟩,
     ⟨some 25, .mv (.t 2), none⟩,
     ⟨some 26, .mv (.t 10), none⟩,
     ⟨some 27, .bin .sub (.t 25) (.t 26), none⟩,
     ⟨some 28, .mv (.t 2), none⟩,
     ⟨some 29, .mv (.t 11), none⟩,
     ⟨some 30, .mv (.t 4), none⟩,
     ⟨some 31, .call 38 [(.t 24), (.t 27), (.t 28), (.t 29), (.t 30)], none⟩])
   (.region [⟨some 32, .mv (.t 10), none⟩,
     ⟨some 33, .mv (.t 11), none⟩,
     ⟨some 34, .bin .sub (.t 32) (.t 33), none⟩,
     ⟨some 10, .mv (.t 34), none⟩]))
   (.seq (.region [⟨some 35, .mv (.t 0), none⟩,
     ⟨some 36, .mv (.t 2), none⟩,
     ⟨some 37, .mv (.t 10), none⟩,
     ⟨some 38, .bin .sub (.t 36) (.t 37), none⟩,
     ⟨some 39, .mv (.t 2), none⟩,
     ⟨some 40, .mv (.t 11), none⟩,
     ⟨some 41, .bin .add (.t 39) (.t 40), none⟩,
     ⟨some 42, .mv (.t 10), none⟩,
     ⟨some 43, .bin .sub (.t 41) (.t 42), none⟩,
     ⟨some 44, .mv (.t 10), none⟩,
     ⟨some 45, .mv (.t 4), none⟩,
     ⟨some 46, .call 38 [(.t 35), (.t 38), (.t 43), (.t 44), (.t 45)], none⟩])
   (.region [⟨some 47, .mv (.t 11), none⟩,
     ⟨some 48, .mv (.t 10), none⟩,
     ⟨some 49, .bin .sub (.t 47) (.t 48), none⟩,
     ⟨some 11, .mv (.t 49), none⟩]))))))
def f37b0_c0 : LCode := (.region [⟨some 50, .mv (.t 0), none⟩,
   ⟨some 51, .mv (.t 2), none⟩,
   ⟨some 52, .mv (.t 10), none⟩,
   ⟨some 53, .bin .sub (.t 51) (.t 52), none⟩,
   ⟨some 54, .mv (.t 2), none⟩,
   ⟨some 55, .mv (.t 10), none⟩,
   ⟨some 56, .mv (.t 4), none⟩,
   ⟨some 57, .call 38 [(.t 50), (.t 53), (.t 54), (.t 55), (.t 56)], none⟩])
def f37b0_c2 : LCode := (.seq (.region [⟨some 12, .mv (.t 2), none⟩,
   ⟨some 13, .mv (.t 1), none⟩,
   ⟨some 14, .bin .sub (.t 12) (.t 13), none⟩,
   ⟨some 10, .mv (.t 14), none⟩])
 (.seq (.region [⟨some 15, .mv (.t 3), none⟩,
   ⟨some 16, .mv (.t 2), none⟩,
   ⟨some 17, .bin .sub (.t 15) (.t 16), none⟩,
   ⟨some 11, .mv (.t 17), none⟩])
 (.seq (.block 0
  (.loop
   f37b0_c1))
 f37b0_c0)))
def f37b0_lay : Lay := ⟨58, [], false⟩
def f37b0_res : List LRes := []
def f37b0_L : LFn := ⟨5, f37b0_lay, f37b0_c2, f37b0_res⟩
theorem f37b0_low : lowFn Try.prog [] 37 = some f37b0_L := by kernel_rfl
theorem f37b0_fok : FnOk Try.prog 37 := ⟨_, Try.func37, rfl, rfl⟩
def f37b0_Q {σ : Type} (Hc : σ → AHeap) (fi0 : Fn) (ff0 fc0 : List AVal) (a0 : Int) (a1 : Int) (a2 : Int) (a3 : List Int) (z0 : σ) (o : (List Int) × σ) : Exit → Env → AHeap → Nat → Prop := FinK f37b0_res (FinTo 3 4 (.tup []) ([((0, 0), .rows 1 (o.1.map e_i64))] ++ up 3 (Hc o.2)))

def f37b0_L1_env {σ : Type} (Hc : σ → AHeap) (fi0 : Fn) (ff0 fc0 : List AVal) (a1 : Int) (s : ((List Int) × Int × σ × Int)) : Env := [(0, .msl (0, 0) 1 0 s.1.length false), (2, .int .i64 a1), (4, .fn fi0 ff0 fc0), (10, .int .i64 s.2.1), (11, .int .i64 s.2.2.2)]
def f37b0_L1_hp {σ : Type} (Hc : σ → AHeap) (fi0 : Fn) (ff0 fc0 : List AVal) (a1 : Int) (s : ((List Int) × Int × σ × Int)) : AHeap := ([((0, 0), .rows 1 (s.1.map e_i64))] ++ up 3 (Hc s.2.2.1))
def f37b0_L1_Q {σ : Type} (Hc : σ → AHeap) (fi0 : Fn) (ff0 fc0 : List AVal) (a0 : Int) (a1 : Int) (a2 : Int) (a3 : List Int) (z0 : σ) (o : ((List Int) × σ)) : Exit → Env → AHeap → Nat → Prop := (QBlock 0 (QSeq Try.prog f37b0_lay 3 f37b0_c0 (f37b0_Q Hc fi0 ff0 fc0 a0 a1 a2 a3 z0 o)))

noncomputable def S_slices_rotateCmpFunc_int_j1 {σ : Type} (g0 : σ → (Int × Int) → Option (Int × σ)) (m : Option Nat) (a1 : Int) (v3 : List Int) (v4 : Int) (v5 : σ) : Option ((List Int) × σ) :=
  (S_slices_swapRangeCmpFunc_int g0 m (W (a1 - v4)) a1 v4 v3 v5).bind fun v11 =>
  if v11.1.length = v3.length then
  some (v11.1, v11.2)
  else none

noncomputable def S_slices_rotateCmpFunc_int_b1 {σ : Type} (g0 : σ → (Int × Int) → Option (Int × σ)) (m : Option Nat) (a1 : Int) (v3 : List Int) (v4 : Int) (v5 : σ) (v6 : Int) : Option (((List Int) × Int × σ × Int) ⊕ ((List Int) × σ)) :=
  if (v4 != v6) = true then
    if (decide (v4 > v6)) = true then
      (S_slices_swapRangeCmpFunc_int g0 m (W (a1 - v4)) a1 v6 v3 v5).bind fun v9 =>
      if v9.1.length = v3.length then
      some (.inl (v9.1, (W (v4 - v6)), v9.2, v6))
      else none
    else
      (S_slices_swapRangeCmpFunc_int g0 m (W (a1 - v4)) (W ((W (a1 + v6)) - v4)) v4 v3 v5).bind fun v10 =>
      if v10.1.length = v3.length then
      some (.inl (v10.1, v4, v10.2, (W (v6 - v4))))
      else none
  else
    Option.map Sum.inr (
      S_slices_rotateCmpFunc_int_j1 g0 m a1 v3 v4 v5)

noncomputable def S_slices_rotateCmpFunc_int_l1 {σ : Type} (g0 : σ → (Int × Int) → Option (Int × σ)) (m : Option Nat) (a1 : Int) (v3 : List Int) (v4 : Int) (v5 : σ) (v6 : Int) : Option ((List Int) × σ) := loopM m (fun (s : ((List Int) × Int × σ × Int)) => S_slices_rotateCmpFunc_int_b1 g0 m a1 s.1 s.2.1 s.2.2.1 s.2.2.2) (v3, v4, v5, v6)

theorem f37b0_j1_ok {σ : Type} {Hc : σ → AHeap} {fi0 : Fn} {ff0 fc0 : List AVal} {g0 : σ → (Int × Int) → Option (Int × σ)} (hg0 : Clo Try.prog fi0 ff0 fc0 Hc (fun (x : (Int × Int)) => [.int .i64 x.1, .int .i64 x.2]) (fun (b : Int) => .int .i64 b) g0) {a0 : Int} {a2 : Int} {a3 : List Int} {z0 : σ} {a1 : Int} {v3 : List Int} {v4 : Int} {v5 : σ} {m : Option Nat} {o : ((List Int) × σ)} (h : S_slices_rotateCmpFunc_int_j1 g0 m a1 v3 v4 v5 = some o) :
    LWp Try.prog f37b0_lay 3 f37b0_c0 (f37b0_Q Hc fi0 ff0 fc0 a0 a1 a2 a3 z0 o) [(0, .msl (0, 0) 1 0 v3.length false), (2, .int .i64 a1), (4, .fn fi0 ff0 fc0), (10, .int .i64 v4)] ([((0, 0), .rows 1 (v3.map e_i64))] ++ up 3 (Hc v5)) 4 := by
  unfold S_slices_rotateCmpFunc_int_j1 at h
  refine regI ?_
  obtain ⟨v11, h19, h⟩ := bind_some h
  refine bcallT (m := 1) (q := 3) (lit0 := [((0, 0), .rows 1 (v3.map e_i64))]) (lit := [((0, 0), .rows 1 (v3.map e_i64))]) (L := [((0, 0), .rows 1 (v11.1.map e_i64))]) (L' := [((0, 0), .rows 1 (v11.1.map e_i64))]) (rest := []) (R' := .tup []) (hg0.tl _) (hg0.tl _) [((0, 0), (0, 0))] (f38b0_ok hg0 h19) rfl rfl rfl rfl rfl rfl (AI (Vw.mslE rfl (by first | rfl | omega | (simp; done) | (simp at *; omega)) rfl) (AI (VS rfl) (AI (VS rfl) (AI (VS rfl) (AI (Vw.clo hg0.hf hg0.hc (by decide) (lookT_1 _ _)) TT))))) (AI (h0I (0, 0) rfl rfl (BVw.enc e_i64 (fun _ => rfl) _ v3)) TT) (nid_ren _ rfl) (AI rfl (AI (rows_ren e_i64 (fun _ => rfl) _ _) TT)) rfl ?_
  obtain ⟨h20, h⟩ := ite_some h
  cases h
  exact finT (n' := 6) (q := 4) (lit' := [((0, 0), .rows 1 (v11.1.map e_i64))]) (hg0.tl _) [] [] rfl rfl (VS rfl) (AI (AI rfl (BVw.enc e_i64 (fun _ => rfl) _ v11.1)) TT)

theorem f37b0_L1_bok {σ : Type} {Hc : σ → AHeap} {fi0 : Fn} {ff0 fc0 : List AVal} {g0 : σ → (Int × Int) → Option (Int × σ)} (hg0 : Clo Try.prog fi0 ff0 fc0 Hc (fun (x : (Int × Int)) => [.int .i64 x.1, .int .i64 x.2]) (fun (b : Int) => .int .i64 b) g0) {a0 : Int} {a2 : Int} {a3 : List Int} {z0 : σ} {a1 : Int} {v3 : List Int} {v4 : Int} {v5 : σ} {v6 : Int} {m : Option Nat} {o : ((List Int) × Int × σ × Int) ⊕ ((List Int) × σ)} (h : S_slices_rotateCmpFunc_int_b1 g0 m a1 v3 v4 v5 v6 = some o) :
    LWp Try.prog f37b0_lay 3 f37b0_c1 (BodyQ 3 4 (f37b0_L1_env Hc fi0 ff0 fc0 a1) (f37b0_L1_hp Hc fi0 ff0 fc0 a1) (f37b0_L1_Q Hc fi0 ff0 fc0 a0 a1 a2 a3 z0) o) [(0, .msl (0, 0) 1 0 v3.length false), (2, .int .i64 a1), (4, .fn fi0 ff0 fc0), (10, .int .i64 v4), (11, .int .i64 v6)] ([((0, 0), .rows 1 (v3.map e_i64))] ++ up 3 (Hc v5)) 4 := by
  unfold S_slices_rotateCmpFunc_int_b1 at h
  refine seqI ?_
  refine seqI ?_
  refine regI ?_
  refine condI (v := (v4 != v6)) rfl TT (fun h13 => ?_) (fun h13 => ?_)
  · have h := ite_tt h13 h
    refine skipI ?_
    refine blockI ?_
    refine seqI ?_
    refine regI ?_
    refine condI (v := (decide (v4 > v6))) rfl TT (fun h14 => ?_) (fun h14 => ?_)
    · have h := ite_tt h14 h
      refine seqI ?_
      refine regI ?_
      obtain ⟨v9, h15, h⟩ := bind_some h
      refine bcallT (m := 1) (q := 3) (lit0 := [((0, 0), .rows 1 (v3.map e_i64))]) (lit := [((0, 0), .rows 1 (v3.map e_i64))]) (L := [((0, 0), .rows 1 (v9.1.map e_i64))]) (L' := [((0, 0), .rows 1 (v9.1.map e_i64))]) (rest := []) (R' := .tup []) (hg0.tl _) (hg0.tl _) [((0, 0), (0, 0))] (f38b0_ok hg0 h15) rfl rfl rfl rfl rfl rfl (AI (Vw.mslE rfl (by first | rfl | omega | (simp; done) | (simp at *; omega)) rfl) (AI (VS rfl) (AI (VS rfl) (AI (VS rfl) (AI (Vw.clo hg0.hf hg0.hc (by decide) (lookT_1 _ _)) TT))))) (AI (h0I (0, 0) rfl rfl (BVw.enc e_i64 (fun _ => rfl) _ v3)) TT) (nid_ren _ rfl) (AI rfl (AI (rows_ren e_i64 (fun _ => rfl) _ _) TT)) rfl ?_
      obtain ⟨h16, h⟩ := ite_some h
      refine LWp.sim (e := [(0, .msl (0, 0) 1 0 v3.length false), (2, .int .i64 a1), (4, .fn fi0 ff0 fc0), (10, .int .i64 v4), (11, .int .i64 v6)]) (L := ([((0, 0), .rows 1 (v9.1.map e_i64))] ++ up 3 (Hc v9.2))) (n := 4) ?_ ?_
      · exact simT (M := []) (lit' := [((0, 0), .rows 1 (v9.1.map e_i64))]) (hg0.tl _) rfl (AI (Vw.mslE rfl (by first | rfl | omega | (simp; done) | (simp at *; omega)) rfl) (AI (VS rfl) (AI (Vw.clo hg0.hf hg0.hc (by decide) (rhoT_1 (chkT_ok (n := 4) (q := 4) (lit' := [((0, 0), .rows 1 (v9.1.map e_i64))]) rfl))) (AI (VS rfl) (AI (VS rfl) TT))))) (AI (AI rfl (BVw.enc e_i64 (fun _ => rfl) _ v9.1)) TT)
      refine regI ?_
      cases h
      exact AI rfl (simT (M := []) (lit' := [((0, 0), .rows 1 (v9.1.map e_i64))]) (hg0.tl _) rfl (AI (Vw.mslE rfl (by first | rfl | omega | (simp; done) | (simp at *; omega)) rfl) (AI (VS rfl) (AI (Vw.clo hg0.hf hg0.hc (by decide) (rhoT_1 (chkT_ok (n := 4) (q := 3) (lit' := [((0, 0), .rows 1 (v9.1.map e_i64))]) rfl))) (AI (VS rfl) (AI (VS rfl) TT))))) (AI (AI rfl (BVw.enc e_i64 (fun _ => rfl) _ v9.1)) TT))
    · have h := ite_ff h14 h
      refine seqI ?_
      refine regI ?_
      obtain ⟨v10, h17, h⟩ := bind_some h
      refine bcallT (m := 1) (q := 3) (lit0 := [((0, 0), .rows 1 (v3.map e_i64))]) (lit := [((0, 0), .rows 1 (v3.map e_i64))]) (L := [((0, 0), .rows 1 (v10.1.map e_i64))]) (L' := [((0, 0), .rows 1 (v10.1.map e_i64))]) (rest := []) (R' := .tup []) (hg0.tl _) (hg0.tl _) [((0, 0), (0, 0))] (f38b0_ok hg0 h17) rfl rfl rfl rfl rfl rfl (AI (Vw.mslE rfl (by first | rfl | omega | (simp; done) | (simp at *; omega)) rfl) (AI (VS rfl) (AI (VS rfl) (AI (VS rfl) (AI (Vw.clo hg0.hf hg0.hc (by decide) (lookT_1 _ _)) TT))))) (AI (h0I (0, 0) rfl rfl (BVw.enc e_i64 (fun _ => rfl) _ v3)) TT) (nid_ren _ rfl) (AI rfl (AI (rows_ren e_i64 (fun _ => rfl) _ _) TT)) rfl ?_
      obtain ⟨h18, h⟩ := ite_some h
      refine LWp.sim (e := [(0, .msl (0, 0) 1 0 v3.length false), (2, .int .i64 a1), (4, .fn fi0 ff0 fc0), (10, .int .i64 v4), (11, .int .i64 v6)]) (L := ([((0, 0), .rows 1 (v10.1.map e_i64))] ++ up 3 (Hc v10.2))) (n := 4) ?_ ?_
      · exact simT (M := []) (lit' := [((0, 0), .rows 1 (v10.1.map e_i64))]) (hg0.tl _) rfl (AI (Vw.mslE rfl (by first | rfl | omega | (simp; done) | (simp at *; omega)) rfl) (AI (VS rfl) (AI (Vw.clo hg0.hf hg0.hc (by decide) (rhoT_1 (chkT_ok (n := 4) (q := 4) (lit' := [((0, 0), .rows 1 (v10.1.map e_i64))]) rfl))) (AI (VS rfl) (AI (VS rfl) TT))))) (AI (AI rfl (BVw.enc e_i64 (fun _ => rfl) _ v10.1)) TT)
      refine regI ?_
      cases h
      exact AI rfl (simT (M := []) (lit' := [((0, 0), .rows 1 (v10.1.map e_i64))]) (hg0.tl _) rfl (AI (Vw.mslE rfl (by first | rfl | omega | (simp; done) | (simp at *; omega)) rfl) (AI (VS rfl) (AI (Vw.clo hg0.hf hg0.hc (by decide) (rhoT_1 (chkT_ok (n := 4) (q := 3) (lit' := [((0, 0), .rows 1 (v10.1.map e_i64))]) rfl))) (AI (VS rfl) (AI (VS rfl) TT))))) (AI (AI rfl (BVw.enc e_i64 (fun _ => rfl) _ v10.1)) TT))
  · have h := ite_ff h13 h
    refine exitI ?_
    obtain ⟨o, hq, rfl⟩ := Option.map_eq_some_iff.1 h
    replace h := hq; clear hq
    refine AI nofun ?_
    refine LWp.sim ?_ (f37b0_j1_ok hg0 h)
    exact simT (M := []) (lit' := [((0, 0), .rows 1 (v3.map e_i64))]) (hg0.tl _) rfl (AI (Vw.mslE rfl (by first | rfl | omega | (simp; done) | (simp at *; omega)) rfl) (AI (VS rfl) (AI (Vw.clo hg0.hf hg0.hc (by decide) (rhoT_1 (chkT_ok (n := 4) (q := 3) (lit' := [((0, 0), .rows 1 (v3.map e_i64))]) rfl))) (AI (VS rfl) TT)))) (AI (AI rfl (BVw.enc e_i64 (fun _ => rfl) _ v3)) TT)

theorem f37b0_L1_ok {σ : Type} {Hc : σ → AHeap} {fi0 : Fn} {ff0 fc0 : List AVal} {g0 : σ → (Int × Int) → Option (Int × σ)} (hg0 : Clo Try.prog fi0 ff0 fc0 Hc (fun (x : (Int × Int)) => [.int .i64 x.1, .int .i64 x.2]) (fun (b : Int) => .int .i64 b) g0) {a0 : Int} {a2 : Int} {a3 : List Int} {z0 : σ} {a1 : Int} {v3 : List Int} {v4 : Int} {v5 : σ} {v6 : Int} {m : Option Nat} {o : ((List Int) × σ)} (h : S_slices_rotateCmpFunc_int_l1 g0 m a1 v3 v4 v5 v6 = some o) :
    LWp Try.prog f37b0_lay 3 (.loop f37b0_c1) (QBlock 0 (QSeq Try.prog f37b0_lay 3 f37b0_c0 (f37b0_Q Hc fi0 ff0 fc0 a0 a1 a2 a3 z0 o))) [(0, .msl (0, 0) 1 0 v3.length false), (2, .int .i64 a1), (4, .fn fi0 ff0 fc0), (10, .int .i64 v4), (11, .int .i64 v6)] ([((0, 0), .rows 1 (v3.map e_i64))] ++ up 3 (Hc v5)) 4 :=
  LWp_loopM (m := m) (s := ((v3, v4, v5, v6) : ((List Int) × Int × σ × Int))) (r := o) (fun (s : ((List Int) × Int × σ × Int)) => S_slices_rotateCmpFunc_int_b1 g0 m a1 s.1 s.2.1 s.2.2.1 s.2.2.2) (f37b0_L1_env Hc fi0 ff0 fc0 a1) (f37b0_L1_hp Hc fi0 ff0 fc0 a1) (f37b0_L1_Q Hc fi0 ff0 fc0 a0 a1 a2 a3 z0) (fun s o h => f37b0_L1_bok hg0 h) h

noncomputable def S_slices_rotateCmpFunc_int {σ : Type} (g0 : σ → (Int × Int) → Option (Int × σ)) (m : Option Nat) (a0 : Int) (a1 : Int) (a2 : Int) (a3 : List Int) (z0 : σ) : Option ((List Int) × σ) :=
  S_slices_rotateCmpFunc_int_l1 g0 m a1 a3 (W (a1 - a0)) z0 (W (a2 - a1))

theorem f37b0_start {σ : Type} {Hc : σ → AHeap} {fi0 : Fn} {ff0 fc0 : List AVal} {g0 : σ → (Int × Int) → Option (Int × σ)} (hg0 : Clo Try.prog fi0 ff0 fc0 Hc (fun (x : (Int × Int)) => [.int .i64 x.1, .int .i64 x.2]) (fun (b : Int) => .int .i64 b) g0) {a0 : Int} {a1 : Int} {a2 : Int} {a3 : List Int} {z0 : σ} {m : Option Nat} {o : (List Int) × σ} (h : S_slices_rotateCmpFunc_int g0 m a0 a1 a2 a3 z0 = some o) : LWp Try.prog f37b0_lay 3 f37b0_c2 (f37b0_Q Hc fi0 ff0 fc0 a0 a1 a2 a3 z0 o) (initEnv 0 [.msl (0, 0) 1 0 a3.length false, .int .i64 a0, .int .i64 a1, .int .i64 a2, .fn fi0 ff0 fc0]) ([((0, 0), .rows 1 (a3.map e_i64))] ++ Hc z0) 3 := by
  unfold S_slices_rotateCmpFunc_int at h
  refine LWp.sim (e := [(0, .msl (0, 0) 1 0 a3.length false), (1, .int .i64 a0), (2, .int .i64 a1), (3, .int .i64 a2), (4, .fn fi0 ff0 fc0)]) (L := ([((0, 0), .rows 1 (a3.map e_i64))] ++ up 3 (Hc z0))) (n := 4) (entryT (T := Hc z0) (e' := initEnv 0 [.msl (0, 0) 1 0 a3.length false, .int .i64 a0, .int .i64 a1, .int .i64 a2, .fn fi0 ff0 fc0]) (e := [(0, .msl (0, 0) 1 0 a3.length false), (1, .int .i64 a0), (2, .int .i64 a1), (3, .int .i64 a2), (4, .fn fi0 ff0 fc0)]) (lit' := [((0, 0), .rows 1 (a3.map e_i64))]) (lit := [((0, 0), .rows 1 (a3.map e_i64))]) (hg0.tl z0) rfl rfl (AI (Vw.mslE rfl (by first | rfl | omega | (simp; done) | (simp at *; omega)) rfl) (AI (VS rfl) (AI (VS rfl) (AI (VS rfl) (AI (Vw.clo hg0.hf hg0.hc (by decide) (rhoE_1 _)) TT))))) (AI (AI rfl (BVw.enc e_i64 (fun _ => rfl) _ a3)) TT)) ?_
  refine seqI ?_
  refine regI ?_
  refine seqI ?_
  refine regI ?_
  refine LWp.sim (e := [(0, .msl (0, 0) 1 0 a3.length false), (2, .int .i64 a1), (4, .fn fi0 ff0 fc0), (10, .int .i64 (W (a1 - a0))), (11, .int .i64 (W (a2 - a1)))]) (L := ([((0, 0), .rows 1 (a3.map e_i64))] ++ up 3 (Hc z0))) (n := 4) ?_ ?_
  · exact simT (M := []) (lit' := [((0, 0), .rows 1 (a3.map e_i64))]) (hg0.tl _) rfl (AI (Vw.mslE rfl (by first | rfl | omega | (simp; done) | (simp at *; omega)) rfl) (AI (VS rfl) (AI (Vw.clo hg0.hf hg0.hc (by decide) (rhoT_1 (chkT_ok (n := 4) (q := 3) (lit' := [((0, 0), .rows 1 (a3.map e_i64))]) rfl))) (AI (VS rfl) (AI (VS rfl) TT))))) (AI (AI rfl (BVw.enc e_i64 (fun _ => rfl) _ a3)) TT)
  refine seqI ?_
  refine blockI ?_
  refine LWp.sim ?_ (f37b0_L1_ok hg0 h)
  exact simT (M := []) (lit' := [((0, 0), .rows 1 (a3.map e_i64))]) (hg0.tl _) rfl (AI (Vw.mslE rfl (by first | rfl | omega | (simp; done) | (simp at *; omega)) rfl) (AI (VS rfl) (AI (Vw.clo hg0.hf hg0.hc (by decide) (rhoT_1 (chkT_ok (n := 4) (q := 3) (lit' := [((0, 0), .rows 1 (a3.map e_i64))]) rfl))) (AI (VS rfl) (AI (VS rfl) TT))))) (AI (AI rfl (BVw.enc e_i64 (fun _ => rfl) _ a3)) TT)

theorem f37b0_ok {σ : Type} {Hc : σ → AHeap} {fi0 : Fn} {ff0 fc0 : List AVal} {g0 : σ → (Int × Int) → Option (Int × σ)} (hg0 : Clo Try.prog fi0 ff0 fc0 Hc (fun (x : (Int × Int)) => [.int .i64 x.1, .int .i64 x.2]) (fun (b : Int) => .int .i64 b) g0) {a0 : Int} {a1 : Int} {a2 : Int} {a3 : List Int} {z0 : σ} {m : Option Nat} {o : (List Int) × σ} (h : S_slices_rotateCmpFunc_int g0 m a0 a1 a2 a3 z0 = some o) : ACalls Try.prog 37 [.msl (0, 0) 1 0 a3.length false, .int .i64 a0, .int .i64 a1, .int .i64 a2, .fn fi0 ff0 fc0] ([((0, 0), .rows 1 (a3.map e_i64))] ++ Hc z0) 3 (Gives 4 (.tup []) ([((0, 0), .rows 1 (o.1.map e_i64))] ++ up 3 (Hc o.2))) := bfn_of (L := f37b0_L) f37b0_low f37b0_fok (NB rfl) (f37b0_start hg0 h)

end Go.Proofs.Ytobkgelkaljjeaa
