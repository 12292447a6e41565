/-
  Own text Gen of this claim: what functions of the given program compute, in plain Lean, and the proof; no condition.
-/
import Derived.Test.YtdmmbedincbhjaaChecked
import Derived.Test.YtdmmbedincbhjaaFxS
import Derived.KernelRfl
namespace Go.Proofs.Ytdmmbedincbhjaa
open Go.Fx
set_option linter.unusedVariables false
structure G_QRecord where
  f_Key : List UInt8
  f_Value : List UInt8
  f_Deleted : Bool
instance : Inhabited G_QRecord := ⟨(G_QRecord.mk [] [] false)⟩
def e_QRecord (x : G_QRecord) : List AVal := [.str x.f_Key, .str x.f_Value, .bool x.f_Deleted]
theorem e_QRecord_ok (x : G_QRecord) : AVal.nid.nidL (e_QRecord x) = true ∧ ∀ y ∈ e_QRecord x, y.imm = some y := ⟨rfl, by simp [e_QRecord, AVal.imm]⟩
def f6_c0 : LCode := (.seq (.region [⟨some 1, .box (.t 0), none⟩,
   ⟨some 2, .mv (.c (.int .i64 0)), none⟩])
 (.seq (.seq (.region [⟨some 3, .faddr 0 (.t 1), none⟩,
   ⟨some 4, .load false 1 (.t 3), none⟩,
   ⟨some 5, .bin .eql (.t 4) (.c (.str [])), none⟩,
   ⟨some 6, .mv (.t 5), none⟩,
   ⟨some 7, .faddr 2 (.t 1), some (6, false)⟩,
   ⟨some 8, .load false 1 (.t 7), some (6, false)⟩,
   ⟨some 9, .mv (.t 8), some (6, false)⟩,
   ⟨some 10, .faddr 1 (.t 1), some (9, true)⟩,
   ⟨some 11, .load false 1 (.t 10), some (9, true)⟩,
   ⟨some 12, .bin .neq (.t 11) (.c (.str [])), some (9, true)⟩,
   ⟨some 13, .pick (.t 9) (.t 12) (.c (.bool false)), some (6, false)⟩,
   ⟨some 14, .pick (.t 6) (.c (.bool true)) (.t 13), none⟩])
 (.cond (.t 14)
  (.seq (.region [⟨some 2, .mv (.c (.int .i64 3)), none⟩])
  .ret)
  .skip))
 (.seq (.seq (.region [⟨some 15, .faddr 0 (.t 1), none⟩,
   ⟨some 16, .load false 1 (.t 15), none⟩,
   ⟨some 17, .len true (.t 16), none⟩,
   ⟨some 18, .bin .gtr (.t 17) (.c (.int .i64 60)), none⟩,
   ⟨some 19, .mv (.t 18), none⟩,
   ⟨some 20, .faddr 1 (.t 1), some (19, false)⟩,
   ⟨some 21, .load false 1 (.t 20), some (19, false)⟩,
   ⟨some 22, .len true (.t 21), some (19, false)⟩,
   ⟨some 23, .bin .gtr (.t 22) (.c (.int .i64 3000)), some (19, false)⟩,
   ⟨some 24, .pick (.t 19) (.c (.bool true)) (.t 23), none⟩])
 (.cond (.t 24)
  (.seq (.region [⟨some 2, .mv (.c (.int .i64 2)), none⟩])
  .ret)
  .skip))
 (.seq (.region [⟨some 2, .mv (.c (.int .i64 0)), none⟩])
 .ret))))
def f6_lay : Lay := ⟨25, []⟩
def f6_res : List LRes := [.t 2]
def f6_L : LFn := ⟨1, f6_lay, f6_c0, f6_res⟩
theorem f6_low : lowFn Try.prog [] 6 = some f6_L := by kernel_rfl
theorem f6_fok : FnOk Try.prog 6 := ⟨_, Try.func6, rfl, rfl⟩
def f8_c1 : LCode := (.seq (.region [⟨some 8, .bin .lss (.t 7) (.t 6), none⟩])
 (.seq (.cond (.t 8)
  .skip
  (.exit 0))
 (.seq (.block 1
  (.seq (.region [⟨some 9, .mv (.t 7), none⟩,
    ⟨some 4, .mv (.t 9), none⟩])
  (.region [⟨some 10, .mv (.t 3), none⟩,
    ⟨some 11, .mv (.t 0), none⟩,
    ⟨some 12, .mv (.t 4), none⟩,
    ⟨some 13, .idxS (.t 11) (.t 12), none⟩,
    ⟨some 14, .conv (.int .u32) (.t 13), none⟩,
    ⟨some 15, .bin .xor (.t 10) (.t 14), none⟩,
    ⟨some 16, .bin .mul (.t 15) (.c (.int .u32 16777619)), none⟩,
    ⟨some 3, .mv (.t 16), none⟩])))
 (.region [⟨some 17, .bin .add (.t 7) (.c (.int .i64 1)), none⟩,
   ⟨some 7, .mv (.t 17), none⟩]))))
def f8_c0 : LCode := (.seq (.region [⟨some 18, .mv (.t 3), none⟩,
   ⟨some 2, .mv (.t 18), none⟩])
 .ret)
def f8_c2 : LCode := (.seq (.region [⟨some 2, .mv (.c (.int .u32 0)), none⟩])
 (.seq (.region [⟨some 3, .mv (.c (.int .u32 2166136261)), none⟩])
 (.seq (.seq (.region [⟨some 5, .mv (.t 0), none⟩,
   ⟨some 6, .len true (.t 5), none⟩,
   ⟨some 7, .mv (.c (.int .i64 0)), none⟩])
 (.block 0
  (.loop
   f8_c1)))
 f8_c0)))
def f8_lay : Lay := ⟨19, []⟩
def f8_res : List LRes := [.t 2]
def f8_L : LFn := ⟨1, f8_lay, f8_c2, f8_res⟩
theorem f8_low : lowFn Try.prog [] 8 = some f8_L := by kernel_rfl
theorem f8_fok : FnOk Try.prog 8 := ⟨_, Try.func8, rfl, rfl⟩
def f9_c1 : LCode := (.seq (.region [⟨some 8, .bin .lss (.t 7) (.t 6), none⟩])
 (.seq (.cond (.t 8)
  .skip
  (.exit 0))
 (.seq (.block 1
  (.seq (.region [⟨some 9, .mv (.t 7), none⟩,
    ⟨some 4, .mv (.t 9), none⟩])
  (.region [⟨some 10, .mv (.t 3), none⟩,
    ⟨some 11, .mv (.t 0), none⟩,
    ⟨some 12, .mv (.t 4), none⟩,
    ⟨some 13, .idxS (.t 11) (.t 12), none⟩,
    ⟨some 14, .conv (.int .u64) (.t 13), none⟩,
    ⟨some 15, .bin .xor (.t 10) (.t 14), none⟩,
    ⟨some 16, .bin .mul (.t 15) (.c (.int .u64 16777619)), none⟩,
    ⟨some 17, .bin .rem (.t 16) (.c (.int .u64 4294967296)), none⟩,
    ⟨some 3, .mv (.t 17), none⟩])))
 (.region [⟨some 18, .bin .add (.t 7) (.c (.int .i64 1)), none⟩,
   ⟨some 7, .mv (.t 18), none⟩]))))
def f9_c0 : LCode := (.seq (.region [⟨some 19, .mv (.t 3), none⟩,
   ⟨some 20, .conv (.int .u32) (.t 19), none⟩,
   ⟨some 2, .mv (.t 20), none⟩])
 .ret)
def f9_c2 : LCode := (.seq (.region [⟨some 2, .mv (.c (.int .u32 0)), none⟩])
 (.seq (.region [⟨some 3, .mv (.c (.int .u64 2166136261)), none⟩])
 (.seq (.seq (.region [⟨some 5, .mv (.t 0), none⟩,
   ⟨some 6, .len true (.t 5), none⟩,
   ⟨some 7, .mv (.c (.int .i64 0)), none⟩])
 (.block 0
  (.loop
   f9_c1)))
 f9_c0)))
def f9_lay : Lay := ⟨21, []⟩
def f9_res : List LRes := [.t 2]
def f9_L : LFn := ⟨1, f9_lay, f9_c2, f9_res⟩
theorem f9_low : lowFn Try.prog [] 9 = some f9_L := by kernel_rfl
theorem f9_fok : FnOk Try.prog 9 := ⟨_, Try.func9, rfl, rfl⟩
def f11_c1 : LCode := (.seq (.region [⟨some 15, .bin .lss (.t 14) (.t 13), none⟩])
 (.seq (.cond (.t 15)
  .skip
  (.exit 0))
 (.seq (.block 1
  (.seq (.region [⟨some 16, .mv (.t 14), none⟩,
    ⟨some 17, .iaddr 3 (.t 12) (.t 14), none⟩,
    ⟨some 18, .load true 3 (.t 17), none⟩,
    ⟨some 6, .alloc [(.str []), (.str []), (.bool false)], none⟩,
    ⟨some 5, .mv (.t 16), none⟩,
    ⟨none, .store 3 (.t 6) (.t 18), none⟩])
  (.seq (.quiet [⟨some 19, .load true 3 (.t 6), none⟩,
    ⟨some 20, .mv (.t 1), none⟩,
    ⟨some 21, .mv (.t 5), none⟩,
    ⟨some 22, .iaddr 3 (.t 20) (.t 21), none⟩,
    ⟨some 23, .load true 3 (.t 22), none⟩,
    ⟨some 24, .eq true (.agg [.str, .str, .bool]) (.t 19) (.t 23), none⟩])
  (.cond (.t 24)
   (.seq (.region [⟨some 4, .mv (.c (.bool false)), none⟩])
   .ret)
   .skip))))
 (.region [⟨some 25, .bin .add (.t 14) (.c (.int .i64 1)), none⟩,
   ⟨some 14, .mv (.t 25), none⟩]))))
def f11_c0 : LCode := (.seq (.region [⟨some 4, .mv (.c (.bool true)), none⟩])
 .ret)
def f11_c2 : LCode := (.seq (.region [⟨some 4, .mv (.c (.bool false)), none⟩])
 (.seq (.seq (.region [⟨some 7, .mv (.t 0), none⟩,
   ⟨some 8, .len false (.t 7), none⟩,
   ⟨some 9, .mv (.t 1), none⟩,
   ⟨some 10, .len false (.t 9), none⟩,
   ⟨some 11, .bin .neq (.t 8) (.t 10), none⟩])
 (.cond (.t 11)
  (.seq (.region [⟨some 4, .mv (.c (.bool false)), none⟩])
  .ret)
  .skip))
 (.seq (.seq (.region [⟨some 12, .mv (.t 0), none⟩,
   ⟨some 13, .len false (.t 12), none⟩,
   ⟨some 14, .mv (.c (.int .i64 0)), none⟩])
 (.block 0
  (.loop
   f11_c1)))
 f11_c0)))
def f11_lay : Lay := ⟨26, []⟩
def f11_res : List LRes := [.t 4]
def f11_L : LFn := ⟨2, f11_lay, f11_c2, f11_res⟩
theorem f11_low : lowFn Try.prog [] 11 = some f11_L := by kernel_rfl
theorem f11_fok : FnOk Try.prog 11 := ⟨_, Try.func11, rfl, rfl⟩
def f12_c0 : LCode := (.seq (.region [⟨some 1, .box (.t 0), none⟩,
   ⟨some 2, .mv (.c (.int .i64 0)), none⟩])
 (.seq (.block 0
  (.seq (.region [⟨some 4, .faddr 0 (.t 1), none⟩,
    ⟨some 5, .load false 1 (.t 4), none⟩,
    ⟨some 6, .bin .eql (.t 5) (.c (.str [])), none⟩,
    ⟨some 7, .mv (.t 6), none⟩,
    ⟨some 8, .faddr 2 (.t 1), some (7, false)⟩,
    ⟨some 9, .load false 1 (.t 8), some (7, false)⟩,
    ⟨some 10, .mv (.t 9), some (7, false)⟩,
    ⟨some 11, .faddr 1 (.t 1), some (10, true)⟩,
    ⟨some 12, .load false 1 (.t 11), some (10, true)⟩,
    ⟨some 13, .bin .neq (.t 12) (.c (.str [])), some (10, true)⟩,
    ⟨some 14, .pick (.t 10) (.t 13) (.c (.bool false)), some (7, false)⟩,
    ⟨some 15, .pick (.t 7) (.c (.bool true)) (.t 14), none⟩,
    ⟨some 3, .mv (.t 15), none⟩])
  (.cond (.t 3)
   (.seq (.region [⟨some 2, .mv (.c (.int .i64 3)), none⟩])
   .ret)
   (.seq (.region [⟨some 17, .faddr 0 (.t 1), none⟩,
     ⟨some 18, .load false 1 (.t 17), none⟩,
     ⟨some 19, .len true (.t 18), none⟩,
     ⟨some 20, .bin .gtr (.t 19) (.c (.int .i64 60)), none⟩,
     ⟨some 21, .mv (.t 20), none⟩,
     ⟨some 22, .faddr 1 (.t 1), some (21, false)⟩,
     ⟨some 23, .load false 1 (.t 22), some (21, false)⟩,
     ⟨some 24, .len true (.t 23), some (21, false)⟩,
     ⟨some 25, .bin .gtr (.t 24) (.c (.int .i64 3000)), some (21, false)⟩,
     ⟨some 26, .pick (.t 21) (.c (.bool true)) (.t 25), none⟩,
     ⟨some 16, .mv (.t 26), none⟩])
   (.cond (.t 16)
    (.seq (.region [⟨some 2, .mv (.c (.int .i64 2)), none⟩])
    .ret)
    .skip)))))
 (.seq (.region [⟨some 2, .mv (.c (.int .i64 0)), none⟩])
 .ret)))
def f12_lay : Lay := ⟨27, []⟩
def f12_res : List LRes := [.t 2]
def f12_L : LFn := ⟨1, f12_lay, f12_c0, f12_res⟩
theorem f12_low : lowFn Try.prog [] 12 = some f12_L := by kernel_rfl
theorem f12_fok : FnOk Try.prog 12 := ⟨_, Try.func12, rfl, rfl⟩
def f13_c0 : LCode := (.seq (.region [⟨some 2, .mv (.c (.str [])), none⟩])
 (.seq (.region [⟨some 5, .mv (.t 0), none⟩,
   ⟨some 6, .len true (.t 5), none⟩,
   ⟨some 7, .bin .shr (.t 6) (.c (.int .u64 8)), none⟩,
   ⟨some 8, .conv (.int .u8) (.t 7), none⟩,
   ⟨some 9, .mv (.t 0), none⟩,
   ⟨some 10, .len true (.t 9), none⟩,
   ⟨some 11, .conv (.int .u8) (.t 10), none⟩,
   ⟨some 12, .mkSl true 1 [(.int .u8 0)] 2 [(0, (.t 8)), (1, (.t 11))], none⟩,
   ⟨some 13, .conv .b2s (.t 12), none⟩,
   ⟨some 3, .mv (.t 13), none⟩])
 (.seq (.region [⟨some 14, .mv (.t 3), none⟩,
   ⟨some 15, .mv (.t 0), none⟩,
   ⟨some 16, .bin .add (.t 14) (.t 15), none⟩,
   ⟨some 17, .call 8 [(.t 16)], none⟩,
   ⟨some 4, .mv (.t 17), none⟩])
 (.seq (.region [⟨some 18, .mv (.t 3), none⟩,
   ⟨some 19, .mv (.t 4), none⟩,
   ⟨some 20, .bin .shr (.t 19) (.c (.int .u64 24)), none⟩,
   ⟨some 21, .conv (.int .u8) (.t 20), none⟩,
   ⟨some 22, .mv (.t 4), none⟩,
   ⟨some 23, .bin .shr (.t 22) (.c (.int .u64 16)), none⟩,
   ⟨some 24, .conv (.int .u8) (.t 23), none⟩,
   ⟨some 25, .mv (.t 4), none⟩,
   ⟨some 26, .bin .shr (.t 25) (.c (.int .u64 8)), none⟩,
   ⟨some 27, .conv (.int .u8) (.t 26), none⟩,
   ⟨some 28, .mv (.t 4), none⟩,
   ⟨some 29, .conv (.int .u8) (.t 28), none⟩,
   ⟨some 30, .mkSl true 1 [(.int .u8 0)] 4 [(0, (.t 21)), (1, (.t 24)), (2, (.t 27)), (3, (.t 29))], none⟩,
   ⟨some 31, .conv .b2s (.t 30), none⟩,
   ⟨some 32, .bin .add (.t 18) (.t 31), none⟩,
   ⟨some 33, .mv (.t 0), none⟩,
   ⟨some 34, .bin .add (.t 32) (.t 33), none⟩,
   ⟨some 2, .mv (.t 34), none⟩])
 .ret))))
def f13_lay : Lay := ⟨35, []⟩
def f13_res : List LRes := [.t 2]
def f13_L : LFn := ⟨1, f13_lay, f13_c0, f13_res⟩
theorem f13_low : lowFn Try.prog [] 13 = some f13_L := by kernel_rfl
theorem f13_fok : FnOk Try.prog 13 := ⟨_, Try.func13, rfl, rfl⟩
def f14_c0 : LCode := (.seq (.region [⟨some 6, .mv (.t 3), none⟩,
   ⟨some 7, .faddr 0 (.t 1), none⟩,
   ⟨some 8, .load false 1 (.t 7), none⟩,
   ⟨some 9, .len true (.t 8), none⟩,
   ⟨some 10, .conv (.int .u8) (.t 9), none⟩,
   ⟨some 11, .mkSl true 1 [(.int .u8 0)] 1 [(0, (.t 10))], none⟩,
   ⟨some 12, .conv .b2s (.t 11), none⟩,
   ⟨some 13, .bin .add (.t 6) (.t 12), none⟩,
   ⟨some 14, .faddr 0 (.t 1), none⟩,
   ⟨some 15, .load false 1 (.t 14), none⟩,
   ⟨some 16, .bin .add (.t 13) (.t 15), none⟩,
   ⟨some 17, .faddr 1 (.t 1), none⟩,
   ⟨some 18, .load false 1 (.t 17), none⟩,
   ⟨some 19, .bin .add (.t 16) (.t 18), none⟩,
   ⟨some 2, .mv (.t 19), none⟩])
 .ret)
def f14_c1 : LCode := (.seq (.region [⟨some 1, .box (.t 0), none⟩,
   ⟨some 2, .mv (.c (.str [])), none⟩])
 (.seq (.region [⟨some 3, .mv (.c (.str [0])), none⟩])
 (.seq (.seq (.region [⟨some 4, .faddr 2 (.t 1), none⟩,
   ⟨some 5, .load false 1 (.t 4), none⟩])
 (.cond (.t 5)
  (.region [⟨some 3, .mv (.c (.str [1])), none⟩])
  .skip))
 f14_c0)))
def f14_lay : Lay := ⟨20, []⟩
def f14_res : List LRes := [.t 2]
def f14_L : LFn := ⟨1, f14_lay, f14_c1, f14_res⟩
theorem f14_low : lowFn Try.prog [] 14 = some f14_L := by kernel_rfl
theorem f14_fok : FnOk Try.prog 14 := ⟨_, Try.func14, rfl, rfl⟩
def f15_c0 : LCode := (.seq (.region [⟨some 2, .mv (.c (.str [])), none⟩])
 (.seq (.region [⟨some 3, .mv (.t 0), none⟩,
   ⟨some 4, .bin .shr (.t 3) (.c (.int .u64 24)), none⟩,
   ⟨some 5, .conv (.int .u8) (.t 4), none⟩,
   ⟨some 6, .mv (.t 0), none⟩,
   ⟨some 7, .bin .shr (.t 6) (.c (.int .u64 16)), none⟩,
   ⟨some 8, .conv (.int .u8) (.t 7), none⟩,
   ⟨some 9, .mv (.t 0), none⟩,
   ⟨some 10, .bin .shr (.t 9) (.c (.int .u64 8)), none⟩,
   ⟨some 11, .conv (.int .u8) (.t 10), none⟩,
   ⟨some 12, .mv (.t 0), none⟩,
   ⟨some 13, .conv (.int .u8) (.t 12), none⟩,
   ⟨some 14, .mkSl true 1 [(.int .u8 0)] 4 [(0, (.t 5)), (1, (.t 8)), (2, (.t 11)), (3, (.t 13))], none⟩,
   ⟨some 15, .conv .b2s (.t 14), none⟩,
   ⟨some 2, .mv (.t 15), none⟩])
 .ret))
def f15_lay : Lay := ⟨16, []⟩
def f15_res : List LRes := [.t 2]
def f15_L : LFn := ⟨1, f15_lay, f15_c0, f15_res⟩
theorem f15_low : lowFn Try.prog [] 15 = some f15_L := by kernel_rfl
theorem f15_fok : FnOk Try.prog 15 := ⟨_, Try.func15, rfl, rfl⟩
def f18_c0 : LCode := (.seq (.region [⟨some 2, .alloc [(.str []), (.str []), (.bool false)], none⟩,
   ⟨some 3, .mv (.c (.bool false)), none⟩])
 (.seq (.seq (.region [⟨some 6, .mv (.t 0), none⟩,
   ⟨some 7, .len true (.t 6), none⟩,
   ⟨some 8, .bin .lss (.t 7) (.c (.int .i64 2)), none⟩,
   ⟨some 9, .mv (.t 8), none⟩,
   ⟨some 10, .mv (.t 0), some (9, false)⟩,
   ⟨some 11, .idxS (.t 10) (.c (.int .i64 0)), some (9, false)⟩,
   ⟨some 12, .bin .gtr (.t 11) (.c (.int .u8 1)), some (9, false)⟩,
   ⟨some 13, .pick (.t 9) (.c (.bool true)) (.t 12), none⟩,
   ⟨some 14, .mv (.t 13), none⟩,
   ⟨some 15, .mv (.t 0), some (14, false)⟩,
   ⟨some 16, .len true (.t 15), some (14, false)⟩,
   ⟨some 17, .mv (.t 0), some (14, false)⟩,
   ⟨some 18, .idxS (.t 17) (.c (.int .i64 1)), some (14, false)⟩,
   ⟨some 19, .conv (.int .i64) (.t 18), some (14, false)⟩,
   ⟨some 20, .bin .add (.c (.int .i64 2)) (.t 19), some (14, false)⟩,
   ⟨some 21, .bin .lss (.t 16) (.t 20), some (14, false)⟩,
   ⟨some 22, .pick (.t 14) (.c (.bool true)) (.t 21), none⟩])
 (.cond (.t 22)
  (.seq (.region [⟨some 23, .build [(.str []), (.str []), (.bool false)] [], none⟩,
    ⟨none, .store 3 (.t 2) (.t 23), none⟩,
    ⟨some 3, .mv (.c (.bool false)), none⟩])
  .ret)
  .skip))
 (.seq (.region [⟨some 24, .mv (.t 0), none⟩,
   ⟨some 25, .idxS (.t 24) (.c (.int .i64 1)), none⟩,
   ⟨some 26, .conv (.int .i64) (.t 25), none⟩,
   ⟨some 27, .bin .add (.c (.int .i64 2)) (.t 26), none⟩,
   ⟨some 4, .mv (.t 27), none⟩])
 (.seq (.draw [⟨⟨some 28, .mv (.t 0), none⟩, []⟩,
   ⟨⟨some 29, .mv (.t 4), none⟩, []⟩,
   ⟨⟨some 30, .slStr (.t 28) (some (.c (.int .i64 2))) (some (.t 29)), none⟩, []⟩,
   ⟨⟨some 31, .mv (.t 0), none⟩, []⟩,
   ⟨⟨some 32, .mv (.t 4), none⟩, []⟩,
   ⟨⟨some 33, .slStr (.t 31) (some (.t 32)) none, none⟩, []⟩,
   ⟨⟨some 34, .mv (.t 0), none⟩, []⟩,
   ⟨⟨some 35, .idxS (.t 34) (.c (.int .i64 0)), none⟩, []⟩,
   ⟨⟨some 36, .bin .eql (.t 35) (.c (.int .u8 1)), none⟩, []⟩,
   ⟨⟨some 37, .build [(.str []), (.str []), (.bool false)] [(0, 1, (.t 30)), (1, 1, (.t 33)), (2, 1, (.t 36))], none⟩, []⟩,
   ⟨⟨some 5, .alloc [(.str []), (.str []), (.bool false)], none⟩, []⟩,
   ⟨⟨none, .store 3 (.t 5) (.t 37), none⟩, []⟩])
 (.seq (.draw [⟨⟨some 38, .load true 3 (.t 5), none⟩, []⟩,
   ⟨⟨some 39, .load true 3 (.t 5), none⟩, []⟩,
   ⟨⟨some 40, .call 12 [(.t 39)], none⟩, [0]⟩,
   ⟨⟨some 41, .bin .eql (.t 40) (.c (.int .i64 0)), none⟩, []⟩,
   ⟨⟨none, .store 3 (.t 2) (.t 38), none⟩, []⟩,
   ⟨⟨some 3, .mv (.t 41), none⟩, []⟩])
 .ret)))))
def f18_lay : Lay := ⟨42, []⟩
def f18_res : List LRes := [.cell 2 true 3, .t 3]
def f18_L : LFn := ⟨1, f18_lay, f18_c0, f18_res⟩
theorem f18_low : lowFn Try.prog [] 18 = some f18_L := by kernel_rfl
theorem f18_fok : FnOk Try.prog 18 := ⟨_, Try.func18, rfl, rfl⟩
def f5_c0 : LCode := (.seq (.region [⟨some 3, .box (.t 1), none⟩,
   ⟨some 4, .mv (.c (.str [])), none⟩,
   ⟨some 5, .mv (.c (.int .i64 0)), none⟩])
 (.seq (.seq (.region [⟨some 8, .load true 3 (.t 3), none⟩,
   ⟨some 9, .call 12 [(.t 8)], none⟩,
   ⟨some 6, .mv (.t 9), none⟩])
 (.seq (.region [⟨some 10, .mv (.t 6), none⟩,
   ⟨some 11, .bin .neq (.t 10) (.c (.int .i64 0)), none⟩])
 (.cond (.t 11)
  (.seq (.region [⟨some 12, .mv (.t 6), none⟩,
    ⟨some 4, .mv (.c (.str [])), none⟩,
    ⟨some 5, .mv (.t 12), none⟩])
  .ret)
  .skip)))
 (.seq (.region [⟨some 13, .load true 3 (.t 3), none⟩,
   ⟨some 14, .call 14 [(.t 13)], none⟩,
   ⟨some 15, .call 13 [(.t 14)], none⟩,
   ⟨some 7, .mv (.t 15), none⟩])
 (.seq (.seq (.region [⟨some 16, .mv (.t 0), none⟩,
   ⟨some 17, .len true (.t 16), none⟩,
   ⟨some 18, .mv (.t 7), none⟩,
   ⟨some 19, .len true (.t 18), none⟩,
   ⟨some 20, .bin .add (.t 17) (.t 19), none⟩,
   ⟨some 21, .bin .gtr (.t 20) (.c (.int .i64 40000)), none⟩])
 (.cond (.t 21)
  (.seq (.region [⟨some 4, .mv (.c (.str [])), none⟩,
    ⟨some 5, .mv (.c (.int .i64 2)), none⟩])
  .ret)
  .skip))
 (.seq (.region [⟨some 22, .mv (.t 0), none⟩,
   ⟨some 23, .mv (.t 7), none⟩,
   ⟨some 24, .bin .add (.t 22) (.t 23), none⟩,
   ⟨some 4, .mv (.t 24), none⟩,
   ⟨some 5, .mv (.c (.int .i64 0)), none⟩])
 .ret)))))
def f5_lay : Lay := ⟨25, []⟩
def f5_res : List LRes := [.t 4, .t 5]
def f5_L : LFn := ⟨2, f5_lay, f5_c0, f5_res⟩
theorem f5_low : lowFn Try.prog [] 5 = some f5_L := by kernel_rfl
theorem f5_fok : FnOk Try.prog 5 := ⟨_, Try.func5, rfl, rfl⟩
def f7_c0 : LCode := (.seq (.region [⟨some 8, .mv (.t 3), none⟩,
   ⟨some 9, .faddr 0 (.t 1), none⟩,
   ⟨some 10, .load false 1 (.t 9), none⟩,
   ⟨some 11, .len true (.t 10), none⟩,
   ⟨some 12, .conv (.int .u8) (.t 11), none⟩,
   ⟨some 13, .mkSl true 1 [(.int .u8 0)] 2 [(0, (.t 8)), (1, (.t 12))], none⟩,
   ⟨some 14, .conv .b2s (.t 13), none⟩,
   ⟨some 15, .faddr 0 (.t 1), none⟩,
   ⟨some 16, .load false 1 (.t 15), none⟩,
   ⟨some 17, .bin .add (.t 14) (.t 16), none⟩,
   ⟨some 18, .faddr 1 (.t 1), none⟩,
   ⟨some 19, .load false 1 (.t 18), none⟩,
   ⟨some 20, .bin .add (.t 17) (.t 19), none⟩,
   ⟨some 4, .mv (.t 20), none⟩])
 (.seq (.region [⟨some 21, .mv (.t 4), none⟩,
   ⟨some 22, .len true (.t 21), none⟩,
   ⟨some 23, .bin .quo (.t 22) (.c (.int .i64 256)), none⟩,
   ⟨some 24, .conv (.int .u8) (.t 23), none⟩,
   ⟨some 25, .mv (.t 4), none⟩,
   ⟨some 26, .len true (.t 25), none⟩,
   ⟨some 27, .bin .rem (.t 26) (.c (.int .i64 256)), none⟩,
   ⟨some 28, .conv (.int .u8) (.t 27), none⟩,
   ⟨some 29, .mkSl true 1 [(.int .u8 0)] 2 [(0, (.t 24)), (1, (.t 28))], none⟩,
   ⟨some 30, .conv .b2s (.t 29), none⟩,
   ⟨some 5, .mv (.t 30), none⟩])
 (.seq (.region [⟨some 31, .mv (.t 5), none⟩,
   ⟨some 32, .mv (.t 5), none⟩,
   ⟨some 33, .mv (.t 4), none⟩,
   ⟨some 34, .bin .add (.t 32) (.t 33), none⟩,
   ⟨some 35, .call 9 [(.t 34)], none⟩,
   ⟨some 36, .call 15 [(.t 35)], none⟩,
   ⟨some 37, .bin .add (.t 31) (.t 36), none⟩,
   ⟨some 38, .mv (.t 4), none⟩,
   ⟨some 39, .bin .add (.t 37) (.t 38), none⟩,
   ⟨some 2, .mv (.t 39), none⟩])
 .ret)))
def f7_c1 : LCode := (.seq (.region [⟨some 1, .box (.t 0), none⟩,
   ⟨some 2, .mv (.c (.str [])), none⟩])
 (.seq (.region [⟨some 3, .mv (.c (.int .u8 0)), none⟩])
 (.seq (.seq (.region [⟨some 6, .faddr 2 (.t 1), none⟩,
   ⟨some 7, .load false 1 (.t 6), none⟩])
 (.cond (.t 7)
  (.region [⟨some 3, .mv (.c (.int .u8 1)), none⟩])
  .skip))
 f7_c0)))
def f7_lay : Lay := ⟨40, []⟩
def f7_res : List LRes := [.t 2]
def f7_L : LFn := ⟨1, f7_lay, f7_c1, f7_res⟩
theorem f7_low : lowFn Try.prog [] 7 = some f7_L := by kernel_rfl
theorem f7_fok : FnOk Try.prog 7 := ⟨_, Try.func7, rfl, rfl⟩
def f17_c0 : LCode := (.seq (.region [⟨some 2, .alloc [(.str []), (.str []), (.bool false)], none⟩,
   ⟨some 3, .mv (.c (.int .i64 0)), none⟩,
   ⟨some 4, .mv (.c (.int .i64 0)), none⟩])
 (.seq (.seq (.region [⟨some 7, .mv (.t 0), none⟩,
   ⟨some 8, .len true (.t 7), none⟩,
   ⟨some 9, .bin .lss (.t 8) (.c (.int .i64 6)), none⟩])
 (.cond (.t 9)
  (.seq (.region [⟨some 10, .build [(.str []), (.str []), (.bool false)] [], none⟩,
    ⟨none, .store 3 (.t 2) (.t 10), none⟩,
    ⟨some 3, .mv (.c (.int .i64 0)), none⟩,
    ⟨some 4, .mv (.c (.int .i64 0)), none⟩])
  .ret)
  .skip))
 (.seq (.quiet [⟨some 11, .mv (.t 0), none⟩,
   ⟨some 12, .idxS (.t 11) (.c (.int .i64 0)), none⟩,
   ⟨some 13, .conv (.int .i64) (.t 12), none⟩,
   ⟨some 14, .bin .shl (.t 13) (.c (.int .u64 8)), none⟩,
   ⟨some 15, .bin .add (.c (.int .i64 6)) (.t 14), none⟩,
   ⟨some 16, .mv (.t 0), none⟩,
   ⟨some 17, .idxS (.t 16) (.c (.int .i64 1)), none⟩,
   ⟨some 18, .conv (.int .i64) (.t 17), none⟩,
   ⟨some 19, .bin .add (.t 15) (.t 18), none⟩,
   ⟨some 3, .mv (.t 19), none⟩])
 (.seq (.seq (.region [⟨some 20, .mv (.t 0), none⟩,
   ⟨some 21, .len true (.t 20), none⟩,
   ⟨some 22, .mv (.t 3), none⟩,
   ⟨some 23, .bin .lss (.t 21) (.t 22), none⟩])
 (.cond (.t 23)
  (.seq (.region [⟨some 24, .build [(.str []), (.str []), (.bool false)] [], none⟩,
    ⟨none, .store 3 (.t 2) (.t 24), none⟩,
    ⟨some 3, .mv (.c (.int .i64 0)), none⟩,
    ⟨some 4, .mv (.c (.int .i64 0)), none⟩])
  .ret)
  .skip))
 (.seq (.region [⟨some 25, .mv (.t 0), none⟩,
   ⟨some 26, .mv (.t 3), none⟩,
   ⟨some 27, .slStr (.t 25) (some (.c (.int .i64 6))) (some (.t 26)), none⟩,
   ⟨some 5, .mv (.t 27), none⟩])
 (.seq (.seq (.draw [⟨⟨some 28, .mv (.t 5), none⟩, []⟩,
   ⟨⟨some 30, .mv (.t 0), none⟩, []⟩,
   ⟨⟨some 31, .mv (.t 3), none⟩, []⟩,
   ⟨⟨some 32, .slStr (.t 30) none (some (.t 31)), none⟩, []⟩,
   ⟨⟨some 29, .call 13 [(.t 28)], none⟩, []⟩,
   ⟨⟨some 33, .bin .neq (.t 29) (.t 32), none⟩, []⟩])
 (.cond (.t 33)
  (.seq (.region [⟨some 34, .build [(.str []), (.str []), (.bool false)] [], none⟩,
    ⟨none, .store 3 (.t 2) (.t 34), none⟩,
    ⟨some 3, .mv (.c (.int .i64 0)), none⟩,
    ⟨some 4, .mv (.c (.int .i64 13)), none⟩])
  .ret)
  .skip))
 (.seq (.region [⟨some 36, .mv (.t 5), none⟩,
   ⟨some 37, .call 18 [(.t 36)], none⟩,
   ⟨some 35, .mv (.t 37), none⟩,
   ⟨some 38, .ext 0 (.t 35), none⟩,
   ⟨some 39, .ext 1 (.t 35), none⟩,
   ⟨none, .store 3 (.t 2) (.t 38), none⟩,
   ⟨some 6, .mv (.t 39), none⟩])
 (.seq (.seq (.region [⟨some 40, .mv (.t 6), none⟩,
   ⟨some 41, .un .not (.t 40), none⟩])
 (.cond (.t 41)
  (.seq (.region [⟨some 42, .build [(.str []), (.str []), (.bool false)] [], none⟩,
    ⟨none, .store 3 (.t 2) (.t 42), none⟩,
    ⟨some 3, .mv (.c (.int .i64 0)), none⟩,
    ⟨some 4, .mv (.c (.int .i64 3)), none⟩])
  .ret)
  .skip))
 (.seq (.region [⟨some 43, .load true 3 (.t 2), none⟩,
   ⟨some 44, .mv (.t 3), none⟩,
   ⟨none, .store 3 (.t 2) (.t 43), none⟩,
   ⟨some 3, .mv (.t 44), none⟩,
   ⟨some 4, .mv (.c (.int .i64 0)), none⟩])
 .ret)))))))))
def f17_lay : Lay := ⟨45, []⟩
def f17_res : List LRes := [.cell 2 true 3, .t 3, .t 4]
def f17_L : LFn := ⟨1, f17_lay, f17_c0, f17_res⟩
theorem f17_low : lowFn Try.prog [] 17 = some f17_L := by kernel_rfl
theorem f17_fok : FnOk Try.prog 17 := ⟨_, Try.func17, rfl, rfl⟩
def f16_c0 : LCode := (.block 1
  (.seq (.region [⟨some 9, .mv (.t 0), none⟩,
    ⟨some 10, .mv (.t 3), none⟩,
    ⟨some 11, .slStr (.t 9) (some (.t 10)) none, none⟩,
    ⟨some 12, .call 17 [(.t 11)], none⟩,
    ⟨some 8, .mv (.t 12), none⟩,
    ⟨some 13, .ext 0 (.t 8), none⟩,
    ⟨some 14, .ext 1 (.t 8), none⟩,
    ⟨some 15, .ext 2 (.t 8), none⟩,
    ⟨some 5, .alloc [(.str []), (.str []), (.bool false)], none⟩,
    ⟨none, .store 3 (.t 5) (.t 13), none⟩,
    ⟨some 6, .mv (.t 14), none⟩,
    ⟨some 7, .mv (.t 15), none⟩])
  (.seq (.seq (.region [⟨some 16, .mv (.t 6), none⟩,
    ⟨some 17, .bin .eql (.t 16) (.c (.int .i64 0)), none⟩])
  (.cond (.t 17)
   (.seq (.region [⟨some 18, .mv (.t 2), none⟩,
     ⟨some 19, .mv (.t 3), none⟩,
     ⟨some 20, .mv (.t 7), none⟩,
     ⟨some 2, .mv (.t 18), none⟩,
     ⟨some 3, .mv (.t 19), none⟩,
     ⟨some 4, .mv (.t 20), none⟩])
   .ret)
   .skip))
  (.seq (.region [⟨some 21, .mv (.t 2), none⟩,
    ⟨some 22, .load true 3 (.t 5), none⟩,
    ⟨some 23, .mkSl true 3 [(.str []), (.str []), (.bool false)] 1 [(0, (.t 22))], none⟩,
    ⟨some 24, .app true 3 40 (.t 21) (.t 23), none⟩,
    ⟨some 2, .mv (.t 24), none⟩])
  (.region [⟨some 25, .mv (.t 3), none⟩,
    ⟨some 26, .mv (.t 6), none⟩,
    ⟨some 27, .bin .add (.t 25) (.t 26), none⟩,
    ⟨some 3, .mv (.t 27), none⟩])))))
def f16_c1 : LCode := (.seq (.region [⟨some 2, .mv (.c (.val (.slice none 0 0))), none⟩,
   ⟨some 3, .mv (.c (.int .i64 0)), none⟩,
   ⟨some 4, .mv (.c (.int .i64 0)), none⟩])
 (.block 0
  (.loop
   f16_c0)))
def f16_lay : Lay := ⟨28, []⟩
def f16_res : List LRes := [.t 2, .t 3, .t 4]
def f16_L : LFn := ⟨1, f16_lay, f16_c1, f16_res⟩
theorem f16_low : lowFn Try.prog [] 16 = some f16_L := by kernel_rfl
theorem f16_fok : FnOk Try.prog 16 := ⟨_, Try.func16, rfl, rfl⟩
def f10_c0 : LCode := (.seq (.region [⟨some 2, .mv (.c (.val (.slice none 0 0))), none⟩,
   ⟨some 3, .mv (.c (.int .i64 0)), none⟩,
   ⟨some 4, .mv (.c (.int .i64 0)), none⟩])
 (.seq (.seq (.region [⟨some 8, .mv (.t 0), none⟩,
   ⟨some 9, .len true (.t 8), none⟩,
   ⟨some 10, .bin .gtr (.t 9) (.c (.int .i64 40000)), none⟩])
 (.cond (.t 10)
  (.seq (.region [⟨some 2, .mv (.c (.val (.slice none 0 0))), none⟩,
    ⟨some 3, .mv (.c (.int .i64 0)), none⟩,
    ⟨some 4, .mv (.c (.int .i64 2)), none⟩])
  .ret)
  .skip))
 (.seq (.region [⟨some 12, .mv (.t 0), none⟩,
   ⟨some 13, .call 16 [(.t 12)], none⟩,
   ⟨some 11, .mv (.t 13), none⟩,
   ⟨some 14, .ext 0 (.t 11), none⟩,
   ⟨some 15, .ext 1 (.t 11), none⟩,
   ⟨some 16, .ext 2 (.t 11), none⟩,
   ⟨some 5, .mv (.t 14), none⟩,
   ⟨some 6, .mv (.t 15), none⟩,
   ⟨some 7, .mv (.t 16), none⟩])
 (.seq (.seq (.region [⟨some 17, .mv (.t 7), none⟩,
   ⟨some 18, .bin .neq (.t 17) (.c (.int .i64 0)), none⟩])
 (.cond (.t 18)
  (.seq (.region [⟨some 19, .mv (.t 7), none⟩,
    ⟨some 2, .mv (.c (.val (.slice none 0 0))), none⟩,
    ⟨some 3, .mv (.c (.int .i64 0)), none⟩,
    ⟨some 4, .mv (.t 19), none⟩])
  .ret)
  .skip))
 (.seq (.region [⟨some 20, .mv (.t 5), none⟩,
   ⟨some 21, .mv (.t 6), none⟩,
   ⟨some 2, .mv (.t 20), none⟩,
   ⟨some 3, .mv (.t 21), none⟩,
   ⟨some 4, .mv (.c (.int .i64 0)), none⟩])
 .ret)))))
def f10_lay : Lay := ⟨22, []⟩
def f10_res : List LRes := [.t 2, .t 3, .t 4]
def f10_L : LFn := ⟨1, f10_lay, f10_c0, f10_res⟩
theorem f10_low : lowFn Try.prog [] 10 = some f10_L := by kernel_rfl
theorem f10_fok : FnOk Try.prog 10 := ⟨_, Try.func10, rfl, rfl⟩
def f4_c0 : LCode := (.seq (.region [⟨some 0, .mv (.c (.bool false)), none⟩])
 (.seq (.region [⟨some 7, .build [(.str []), (.str []), (.bool false)] [(0, 1, (.c (.str [107]))), (1, 1, (.c (.str [118])))], none⟩,
   ⟨some 8, .call 5 [(.c (.str [])), (.t 7)], none⟩,
   ⟨some 6, .mv (.t 8), none⟩,
   ⟨some 9, .ext 0 (.t 6), none⟩,
   ⟨some 10, .ext 1 (.t 6), none⟩,
   ⟨some 1, .mv (.t 9), none⟩,
   ⟨some 2, .mv (.t 10), none⟩])
 (.seq (.region [⟨some 12, .mv (.t 1), none⟩,
   ⟨some 13, .bin .add (.t 12) (.c (.str [0])), none⟩,
   ⟨some 14, .call 10 [(.t 13)], none⟩,
   ⟨some 11, .mv (.t 14), none⟩,
   ⟨some 15, .ext 0 (.t 11), none⟩,
   ⟨some 16, .ext 1 (.t 11), none⟩,
   ⟨some 17, .ext 2 (.t 11), none⟩,
   ⟨some 3, .mv (.t 15), none⟩,
   ⟨some 4, .mv (.t 16), none⟩,
   ⟨some 5, .mv (.t 17), none⟩])
 (.seq (.region [⟨some 18, .call 8 [(.c (.str [97]))], none⟩,
   ⟨some 19, .bin .eql (.t 18) (.c (.int .u32 3826002220)), none⟩,
   ⟨some 20, .mv (.t 19), none⟩,
   ⟨some 21, .mv (.t 2), some (20, true)⟩,
   ⟨some 22, .bin .eql (.t 21) (.c (.int .i64 0)), some (20, true)⟩,
   ⟨some 23, .pick (.t 20) (.t 22) (.c (.bool false)), none⟩,
   ⟨some 24, .mv (.t 23), none⟩,
   ⟨some 25, .mv (.t 1), some (24, true)⟩,
   ⟨some 26, .len true (.t 25), some (24, true)⟩,
   ⟨some 27, .bin .eql (.t 26) (.c (.int .i64 10)), some (24, true)⟩,
   ⟨some 28, .pick (.t 24) (.t 27) (.c (.bool false)), none⟩,
   ⟨some 29, .mv (.t 28), none⟩,
   ⟨some 30, .mv (.t 5), some (29, true)⟩,
   ⟨some 31, .bin .eql (.t 30) (.c (.int .i64 0)), some (29, true)⟩,
   ⟨some 32, .pick (.t 29) (.t 31) (.c (.bool false)), none⟩,
   ⟨some 33, .mv (.t 32), none⟩,
   ⟨some 34, .mv (.t 4), some (33, true)⟩,
   ⟨some 35, .bin .eql (.t 34) (.c (.int .i64 10)), some (33, true)⟩,
   ⟨some 36, .pick (.t 33) (.t 35) (.c (.bool false)), none⟩,
   ⟨some 37, .mv (.t 36), none⟩,
   ⟨some 38, .mv (.t 3), some (37, true)⟩,
   ⟨some 39, .build [(.str []), (.str []), (.bool false)] [(0, 1, (.c (.str [107]))), (1, 1, (.c (.str [118])))], some (37, true)⟩,
   ⟨some 40, .mkSl true 3 [(.str []), (.str []), (.bool false)] 1 [(0, (.t 39))], some (37, true)⟩,
   ⟨some 41, .call 11 [(.t 38), (.t 40)], some (37, true)⟩,
   ⟨some 42, .pick (.t 37) (.t 41) (.c (.bool false)), none⟩,
   ⟨some 0, .mv (.t 42), none⟩])
 .ret))))
def f4_lay : Lay := ⟨43, []⟩
def f4_res : List LRes := [.t 0]
def f4_L : LFn := ⟨0, f4_lay, f4_c0, f4_res⟩
theorem f4_low : lowFn Try.prog [] 4 = some f4_L := by kernel_rfl
theorem f4_fok : FnOk Try.prog 4 := ⟨_, Try.func4, rfl, rfl⟩
def f3_c0 : LCode := (.seq (.region [⟨some 28, .call 4 [], none⟩,
   ⟨some 29, .mv (.t 28), none⟩,
   ⟨some 30, .mv (.t 6), some (29, true)⟩,
   ⟨some 31, .mv (.t 7), some (29, true)⟩,
   ⟨some 32, .bin .eql (.t 30) (.t 31), some (29, true)⟩,
   ⟨some 33, .pick (.t 29) (.t 32) (.c (.bool false)), none⟩,
   ⟨some 34, .mv (.t 33), none⟩,
   ⟨some 35, .mv (.t 5), some (34, true)⟩,
   ⟨some 36, .mv (.t 8), some (34, true)⟩,
   ⟨some 37, .bin .eql (.t 35) (.t 36), some (34, true)⟩,
   ⟨some 38, .pick (.t 34) (.t 37) (.c (.bool false)), none⟩,
   ⟨some 39, .mv (.t 38), none⟩,
   ⟨some 40, .mv (.t 0), some (39, true)⟩,
   ⟨some 41, .call 8 [(.t 40)], some (39, true)⟩,
   ⟨some 42, .mv (.t 0), some (39, true)⟩,
   ⟨some 43, .call 9 [(.t 42)], some (39, true)⟩,
   ⟨some 44, .bin .eql (.t 41) (.t 43), some (39, true)⟩,
   ⟨some 45, .pick (.t 39) (.t 44) (.c (.bool false)), none⟩,
   ⟨some 4, .mv (.t 45), none⟩])
 .ret)
def f3_c1 : LCode := (.seq (.region [⟨some 3, .box (.t 1), none⟩,
   ⟨some 4, .mv (.c (.bool false)), none⟩])
 (.seq (.seq (.region [⟨some 9, .call 4 [], none⟩,
   ⟨some 10, .un .not (.t 9), none⟩])
 (.cond (.t 10)
  (.seq (.region [⟨some 4, .mv (.c (.bool false)), none⟩])
  .ret)
  .skip))
 (.seq (.region [⟨some 12, .mv (.t 0), none⟩,
   ⟨some 13, .load true 3 (.t 3), none⟩,
   ⟨some 14, .call 5 [(.t 12), (.t 13)], none⟩,
   ⟨some 11, .mv (.t 14), none⟩,
   ⟨some 15, .ext 0 (.t 11), none⟩,
   ⟨some 16, .ext 1 (.t 11), none⟩,
   ⟨some 5, .mv (.t 15), none⟩,
   ⟨some 6, .mv (.t 16), none⟩])
 (.seq (.region [⟨some 17, .load true 3 (.t 3), none⟩,
   ⟨some 18, .call 6 [(.t 17)], none⟩,
   ⟨some 7, .mv (.t 18), none⟩])
 (.seq (.region [⟨some 8, .mv (.c (.str [])), none⟩])
 (.seq (.seq (.region [⟨some 19, .mv (.t 7), none⟩,
   ⟨some 20, .bin .eql (.t 19) (.c (.int .i64 0)), none⟩])
 (.cond (.t 20)
  (.seq (.region [⟨some 21, .mv (.t 0), none⟩,
    ⟨some 22, .load true 3 (.t 3), none⟩,
    ⟨some 23, .call 7 [(.t 22)], none⟩,
    ⟨some 24, .bin .add (.t 21) (.t 23), none⟩,
    ⟨some 8, .mv (.t 24), none⟩])
  (.seq (.region [⟨some 25, .mv (.t 8), none⟩,
    ⟨some 26, .len true (.t 25), none⟩,
    ⟨some 27, .bin .gtr (.t 26) (.c (.int .i64 40000)), none⟩])
  (.cond (.t 27)
   (.region [⟨some 8, .mv (.c (.str [])), none⟩,
     ⟨some 7, .mv (.c (.int .i64 2)), none⟩])
   .skip)))
  .skip))
 f3_c0))))))
def f3_lay : Lay := ⟨46, []⟩
def f3_res : List LRes := [.t 4]
def f3_L : LFn := ⟨2, f3_lay, f3_c1, f3_res⟩
theorem f3_low : lowFn Try.prog [] 3 = some f3_L := by kernel_rfl
theorem f3_fok : FnOk Try.prog 3 := ⟨_, Try.func3, rfl, rfl⟩
noncomputable def S_glossatorref3_CheckRecord (m : Option Nat) (a0 : G_QRecord) : Option Int :=
  if ((a0.f_Key == ([] : List UInt8)) || (a0.f_Deleted && (!(a0.f_Value == ([] : List UInt8))))) = true then
    some 3
  else
    if ((decide ((a0.f_Key.length : Int) > 60)) || (decide ((a0.f_Value.length : Int) > 3000))) = true then
      some 2
    else
      some 0

theorem f6_start {a0 : G_QRecord} {m : Option Nat} {o : Int} (h : S_glossatorref3_CheckRecord m a0 = some o) : LWp Try.prog f6_lay 0 f6_c0 (FinK f6_res (PureEnd (.int .i64 o))) (initEnv 0 [.agg [.str a0.f_Key, .str a0.f_Value, .bool a0.f_Deleted]]) [] 0 := by
  unfold S_glossatorref3_CheckRecord at h
  refine seqI ?_
  refine regI ?_
  refine seqI ?_
  refine seqI ?_
  refine regI ?_
  refine And.intro (fun hp => hp) ?_
  show yops _ _ _ [(8, .cnd ((a0.f_Key == ([] : List UInt8)) == false) (.bool a0.f_Deleted)), (7, .cnd ((a0.f_Key == ([] : List UInt8)) == false) (.ptr (0, 0) 0 2)), (6, .bool (a0.f_Key == ([] : List UInt8))), (5, .bool (a0.f_Key == ([] : List UInt8))), (4, .str a0.f_Key), (3, .ptr (0, 0) 0 0), (2, .int .i64 0), (1, .ptr (0, 0) 0 0), (0, .agg [.str a0.f_Key, .str a0.f_Value, .bool a0.f_Deleted])] _ _
  refine And.intro (fun hp => hp) ?_
  refine And.intro (fun hp => hp) ?_
  refine And.intro (fun hp => hp) ?_
  refine And.intro (fun hp => (And.intro hp (fun hc => (and_i hp (bqt hc))))) ?_
  show yops _ _ _ [(13, .cnd ((a0.f_Key == ([] : List UInt8)) == false) (.bool (a0.f_Deleted && (!(a0.f_Value == ([] : List UInt8)))))), (12, .cnd (((a0.f_Key == ([] : List UInt8)) == false) && (a0.f_Deleted == true)) (.bool (!(a0.f_Value == ([] : List UInt8))))), (11, .cnd (((a0.f_Key == ([] : List UInt8)) == false) && (a0.f_Deleted == true)) (.str a0.f_Value)), (10, .cnd (((a0.f_Key == ([] : List UInt8)) == false) && (a0.f_Deleted == true)) (.ptr (0, 0) 0 1)), (9, .cnd ((a0.f_Key == ([] : List UInt8)) == false) (.bool a0.f_Deleted)), (8, .cnd ((a0.f_Key == ([] : List UInt8)) == false) (.bool a0.f_Deleted)), (7, .cnd ((a0.f_Key == ([] : List UInt8)) == false) (.ptr (0, 0) 0 2)), (6, .bool (a0.f_Key == ([] : List UInt8))), (5, .bool (a0.f_Key == ([] : List UInt8))), (4, .str a0.f_Key), (3, .ptr (0, 0) 0 0), (2, .int .i64 0), (1, .ptr (0, 0) 0 0), (0, .agg [.str a0.f_Key, .str a0.f_Value, .bool a0.f_Deleted])] _ _
  refine And.intro (fun hc => (bqf hc)) ?_
  refine LWp.sim (e := [(1, .ptr (0, 0) 0 0), (14, .bool ((a0.f_Key == ([] : List UInt8)) || (a0.f_Deleted && (!(a0.f_Value == ([] : List UInt8))))))]) (L := [((0, 0), .one [.str a0.f_Key, .str a0.f_Value, .bool a0.f_Deleted])]) (n := 1) (simI (M := [((0, 0), (0, 0))]) rfl (And.intro (Vw.ptr _ _ _ _ rfl) (And.intro (Vw.same _ rfl) trivial)) (And.intro (And.intro rfl (BVw.oneL (And.intro (Vw.same _ rfl) (And.intro (Vw.same _ rfl) (And.intro (Vw.same _ rfl) trivial))))) trivial)) ?_
  refine condI (v := ((a0.f_Key == ([] : List UInt8)) || (a0.f_Deleted && (!(a0.f_Value == ([] : List UInt8)))))) rfl trivial (fun h1 => ?_) (fun h1 => ?_)
  · have h := ite_tt h1 h
    refine seqI ?_
    refine regI ?_
    refine retI ?_
    cases h
    exact And.intro trivial (And.intro rfl ((Vw.same _ rfl)))
  · have h := ite_ff h1 h
    refine skipI ?_
    refine seqI ?_
    refine seqI ?_
    refine regI ?_
    refine And.intro (fun hp => hp) ?_
    show yops _ _ _ [(21, .cnd ((decide ((a0.f_Key.length : Int) > 60)) == false) (.str a0.f_Value)), (20, .cnd ((decide ((a0.f_Key.length : Int) > 60)) == false) (.ptr (0, 0) 0 1)), (19, .bool (decide ((a0.f_Key.length : Int) > 60))), (18, .bool (decide ((a0.f_Key.length : Int) > 60))), (17, .int .i64 (a0.f_Key.length : Int)), (16, .str a0.f_Key), (15, .ptr (0, 0) 0 0), (1, .ptr (0, 0) 0 0), (14, .bool ((a0.f_Key == ([] : List UInt8)) || (a0.f_Deleted && (!(a0.f_Value == ([] : List UInt8))))))] _ _
    refine And.intro (fun hp => hp) ?_
    refine And.intro (fun hp => hp) ?_
    refine And.intro (fun hc => (bqf hc)) ?_
    refine LWp.sim (e := [(24, .bool ((decide ((a0.f_Key.length : Int) > 60)) || (decide ((a0.f_Value.length : Int) > 3000))))]) (L := []) (n := 0) (simI (M := []) rfl (And.intro (Vw.same _ rfl) trivial) trivial) ?_
    refine condI (v := ((decide ((a0.f_Key.length : Int) > 60)) || (decide ((a0.f_Value.length : Int) > 3000)))) rfl trivial (fun h2 => ?_) (fun h2 => ?_)
    · have h := ite_tt h2 h
      refine seqI ?_
      refine regI ?_
      refine retI ?_
      cases h
      exact And.intro trivial (And.intro rfl ((Vw.same _ rfl)))
    · have h := ite_ff h2 h
      refine skipI ?_
      refine seqI ?_
      refine regI ?_
      refine retI ?_
      cases h
      exact And.intro trivial (And.intro rfl ((Vw.same _ rfl)))

theorem f6_ok {a0 : G_QRecord} {m : Option Nat} {o : Int} (h : S_glossatorref3_CheckRecord m a0 = some o) : PFn Try.prog 6 [.agg [.str a0.f_Key, .str a0.f_Value, .bool a0.f_Deleted]] (.int .i64 o) := PFn.ofFnW (L := f6_L) f6_low f6_fok (Nat.le_of_ble_eq_true rfl) rfl (f6_start h)

def f8_L1_env (a0 : List UInt8) (s : (Int × Int)) : Env := [(0, .str a0), (3, .int .u32 s.1), (6, .int .i64 (a0.length : Int)), (7, .int .i64 s.2)]
def f8_L1_hp (a0 : List UInt8) (s : (Int × Int)) : AHeap := []
def f8_L1_Q (o : Int) : Exit → Env → AHeap → Nat → Prop := (QBlock 0 (QSeq Try.prog f8_lay 0 f8_c0 (FinK f8_res (PureEnd (.int .u32 o)))))

noncomputable def S_journal_Checksum_j1 (m : Option Nat) (v1 : Int) : Option Int :=
  some v1

noncomputable def S_journal_Checksum_b1 (m : Option Nat) (a0 : List UInt8) (v1 : Int) (v2 : Int) : Option ((Int × Int) ⊕ Int) :=
  if (decide (v2 < (a0.length : Int))) = true then
    if (0 : Int) ≤ v2 ∧ v2 < (a0.length : Int) then
    some (.inl ((IntKind.wrap .u32 ((ibits .xor .u32 v1 (IntKind.wrap .u32 (((a0.getD v2.toNat 0).toNat : Nat) : Int))) * 16777619)), (W (v2 + 1))))
    else none
  else
    Option.map Sum.inr (
      S_journal_Checksum_j1 m v1)

noncomputable def S_journal_Checksum_l1 (m : Option Nat) (a0 : List UInt8) (v1 : Int) (v2 : Int) : Option Int := loopM m (fun (s : (Int × Int)) => S_journal_Checksum_b1 m a0 s.1 s.2) (v1, v2)

theorem f8_j1_ok {v1 : Int} {m : Option Nat} {o : Int} (h : S_journal_Checksum_j1 m v1 = some o) :
    LWp Try.prog f8_lay 0 f8_c0 (FinK f8_res (PureEnd (.int .u32 o))) [(3, .int .u32 v1)] [] 0 := by
  unfold S_journal_Checksum_j1 at h
  refine seqI ?_
  refine regI ?_
  refine retI ?_
  cases h
  exact And.intro trivial (And.intro rfl ((Vw.same _ rfl)))

theorem f8_L1_bok {a0 : List UInt8} {v1 : Int} {v2 : Int} {m : Option Nat} {o : (Int × Int) ⊕ Int} (h : S_journal_Checksum_b1 m a0 v1 v2 = some o) :
    LWp Try.prog f8_lay 0 f8_c1 (BodyQ 0 0 (f8_L1_env a0) (f8_L1_hp a0) (f8_L1_Q) o) [(0, .str a0), (3, .int .u32 v1), (6, .int .i64 (a0.length : Int)), (7, .int .i64 v2)] [] 0 := by
  unfold S_journal_Checksum_b1 at h
  refine seqI ?_
  refine regI ?_
  refine seqI ?_
  refine condI (v := (decide (v2 < (a0.length : Int)))) rfl trivial (fun h5 => ?_) (fun h5 => ?_)
  · have h := ite_tt h5 h
    refine skipI ?_
    refine seqI ?_
    refine blockI ?_
    refine seqI ?_
    refine regI ?_
    refine regI ?_
    obtain ⟨h6, h⟩ := ite_some h
    refine And.intro h6 ?_
    show yops _ _ _ [(13, .int .u8 (((a0.getD v2.toNat 0).toNat : Nat) : Int)), (12, .int .i64 v2), (11, .str a0), (10, .int .u32 v1), (4, .int .i64 v2), (9, .int .i64 v2), (8, .bool (decide (v2 < (a0.length : Int)))), (0, .str a0), (3, .int .u32 v1), (6, .int .i64 (a0.length : Int)), (7, .int .i64 v2)] _ _
    refine LWp.sim (e := [(0, .str a0), (3, .int .u32 (IntKind.wrap .u32 ((ibits .xor .u32 v1 (IntKind.wrap .u32 (((a0.getD v2.toNat 0).toNat : Nat) : Int))) * 16777619))), (6, .int .i64 (a0.length : Int)), (7, .int .i64 v2)]) (L := []) (n := 0) (simI (M := []) rfl (And.intro (Vw.same _ rfl) (And.intro (Vw.same _ rfl) (And.intro (Vw.same _ rfl) (And.intro (Vw.same _ rfl) trivial)))) trivial) ?_
    refine regI ?_
    cases h
    exact And.intro rfl (simI (M := []) rfl (And.intro (Vw.same _ rfl) (And.intro (Vw.same _ rfl) (And.intro (Vw.same _ rfl) (And.intro (Vw.same _ rfl) trivial)))) trivial)
  · have h := ite_ff h5 h
    refine exitI ?_
    obtain ⟨o, hq, rfl⟩ := Option.map_eq_some_iff.1 h
    replace h := hq; clear hq
    refine And.intro nofun ?_
    refine LWp.sim ?_ (f8_j1_ok h)
    exact simI (M := []) rfl (And.intro (Vw.same _ rfl) trivial) trivial

theorem f8_L1_ok {a0 : List UInt8} {v1 : Int} {v2 : Int} {m : Option Nat} {o : Int} (h : S_journal_Checksum_l1 m a0 v1 v2 = some o) :
    LWp Try.prog f8_lay 0 (.loop f8_c1) (QBlock 0 (QSeq Try.prog f8_lay 0 f8_c0 (FinK f8_res (PureEnd (.int .u32 o))))) [(0, .str a0), (3, .int .u32 v1), (6, .int .i64 (a0.length : Int)), (7, .int .i64 v2)] [] 0 :=
  LWp_loopM (m := m) (s := ((v1, v2) : (Int × Int))) (r := o) (fun (s : (Int × Int)) => S_journal_Checksum_b1 m a0 s.1 s.2) (f8_L1_env a0) (f8_L1_hp a0) (f8_L1_Q) (fun s o h => f8_L1_bok h) h

noncomputable def S_journal_Checksum (m : Option Nat) (a0 : List UInt8) : Option Int :=
  S_journal_Checksum_l1 m a0 2166136261 0

theorem f8_start {a0 : List UInt8} {m : Option Nat} {o : Int} (h : S_journal_Checksum m a0 = some o) : LWp Try.prog f8_lay 0 f8_c2 (FinK f8_res (PureEnd (.int .u32 o))) (initEnv 0 [.str a0]) [] 0 := by
  unfold S_journal_Checksum at h
  refine seqI ?_
  refine regI ?_
  refine seqI ?_
  refine regI ?_
  refine seqI ?_
  refine seqI ?_
  refine regI ?_
  refine blockI ?_
  refine LWp.sim ?_ (f8_L1_ok h)
  exact simI (M := []) rfl (And.intro (Vw.same _ rfl) (And.intro (Vw.same _ rfl) (And.intro (Vw.same _ rfl) (And.intro (Vw.same _ rfl) trivial)))) trivial

theorem f8_ok {a0 : List UInt8} {m : Option Nat} {o : Int} (h : S_journal_Checksum m a0 = some o) : PFn Try.prog 8 [.str a0] (.int .u32 o) := PFn.ofFnW (L := f8_L) f8_low f8_fok (Nat.le_of_ble_eq_true rfl) rfl (f8_start h)

def f9_L1_env (a0 : List UInt8) (s : (Int × Int)) : Env := [(0, .str a0), (3, .int .u64 s.1), (6, .int .i64 (a0.length : Int)), (7, .int .i64 s.2)]
def f9_L1_hp (a0 : List UInt8) (s : (Int × Int)) : AHeap := []
def f9_L1_Q (o : Int) : Exit → Env → AHeap → Nat → Prop := (QBlock 0 (QSeq Try.prog f9_lay 0 f9_c0 (FinK f9_res (PureEnd (.int .u32 o)))))

noncomputable def S_glossatorref3_Checksum_j1 (m : Option Nat) (v1 : Int) : Option Int :=
  some (IntKind.wrap .u32 v1)

noncomputable def S_glossatorref3_Checksum_b1 (m : Option Nat) (a0 : List UInt8) (v1 : Int) (v2 : Int) : Option ((Int × Int) ⊕ Int) :=
  if (decide (v2 < (a0.length : Int))) = true then
    if (0 : Int) ≤ v2 ∧ v2 < (a0.length : Int) then
    some (.inl (((IntKind.wrap .u64 ((ibits .xor .u64 v1 (IntKind.wrap .u64 (((a0.getD v2.toNat 0).toNat : Nat) : Int))) * 16777619)).tmod 4294967296), (W (v2 + 1))))
    else none
  else
    Option.map Sum.inr (
      S_glossatorref3_Checksum_j1 m v1)

noncomputable def S_glossatorref3_Checksum_l1 (m : Option Nat) (a0 : List UInt8) (v1 : Int) (v2 : Int) : Option Int := loopM m (fun (s : (Int × Int)) => S_glossatorref3_Checksum_b1 m a0 s.1 s.2) (v1, v2)

theorem f9_j1_ok {v1 : Int} {m : Option Nat} {o : Int} (h : S_glossatorref3_Checksum_j1 m v1 = some o) :
    LWp Try.prog f9_lay 0 f9_c0 (FinK f9_res (PureEnd (.int .u32 o))) [(3, .int .u64 v1)] [] 0 := by
  unfold S_glossatorref3_Checksum_j1 at h
  refine seqI ?_
  refine regI ?_
  refine retI ?_
  cases h
  exact And.intro trivial (And.intro rfl ((Vw.same _ rfl)))

theorem f9_L1_bok {a0 : List UInt8} {v1 : Int} {v2 : Int} {m : Option Nat} {o : (Int × Int) ⊕ Int} (h : S_glossatorref3_Checksum_b1 m a0 v1 v2 = some o) :
    LWp Try.prog f9_lay 0 f9_c1 (BodyQ 0 0 (f9_L1_env a0) (f9_L1_hp a0) (f9_L1_Q) o) [(0, .str a0), (3, .int .u64 v1), (6, .int .i64 (a0.length : Int)), (7, .int .i64 v2)] [] 0 := by
  unfold S_glossatorref3_Checksum_b1 at h
  refine seqI ?_
  refine regI ?_
  refine seqI ?_
  refine condI (v := (decide (v2 < (a0.length : Int)))) rfl trivial (fun h5 => ?_) (fun h5 => ?_)
  · have h := ite_tt h5 h
    refine skipI ?_
    refine seqI ?_
    refine blockI ?_
    refine seqI ?_
    refine regI ?_
    refine regI ?_
    obtain ⟨h6, h⟩ := ite_some h
    refine And.intro h6 ?_
    show yops _ _ _ [(13, .int .u8 (((a0.getD v2.toNat 0).toNat : Nat) : Int)), (12, .int .i64 v2), (11, .str a0), (10, .int .u64 v1), (4, .int .i64 v2), (9, .int .i64 v2), (8, .bool (decide (v2 < (a0.length : Int)))), (0, .str a0), (3, .int .u64 v1), (6, .int .i64 (a0.length : Int)), (7, .int .i64 v2)] _ _
    refine And.intro (by decide) ?_
    refine LWp.sim (e := [(0, .str a0), (3, .int .u64 ((IntKind.wrap .u64 ((ibits .xor .u64 v1 (IntKind.wrap .u64 (((a0.getD v2.toNat 0).toNat : Nat) : Int))) * 16777619)).tmod 4294967296)), (6, .int .i64 (a0.length : Int)), (7, .int .i64 v2)]) (L := []) (n := 0) (simI (M := []) rfl (And.intro (Vw.same _ rfl) (And.intro (Vw.same _ rfl) (And.intro (Vw.same _ rfl) (And.intro (Vw.same _ rfl) trivial)))) trivial) ?_
    refine regI ?_
    cases h
    exact And.intro rfl (simI (M := []) rfl (And.intro (Vw.same _ rfl) (And.intro (Vw.same _ rfl) (And.intro (Vw.same _ rfl) (And.intro (Vw.same _ rfl) trivial)))) trivial)
  · have h := ite_ff h5 h
    refine exitI ?_
    obtain ⟨o, hq, rfl⟩ := Option.map_eq_some_iff.1 h
    replace h := hq; clear hq
    refine And.intro nofun ?_
    refine LWp.sim ?_ (f9_j1_ok h)
    exact simI (M := []) rfl (And.intro (Vw.same _ rfl) trivial) trivial

theorem f9_L1_ok {a0 : List UInt8} {v1 : Int} {v2 : Int} {m : Option Nat} {o : Int} (h : S_glossatorref3_Checksum_l1 m a0 v1 v2 = some o) :
    LWp Try.prog f9_lay 0 (.loop f9_c1) (QBlock 0 (QSeq Try.prog f9_lay 0 f9_c0 (FinK f9_res (PureEnd (.int .u32 o))))) [(0, .str a0), (3, .int .u64 v1), (6, .int .i64 (a0.length : Int)), (7, .int .i64 v2)] [] 0 :=
  LWp_loopM (m := m) (s := ((v1, v2) : (Int × Int))) (r := o) (fun (s : (Int × Int)) => S_glossatorref3_Checksum_b1 m a0 s.1 s.2) (f9_L1_env a0) (f9_L1_hp a0) (f9_L1_Q) (fun s o h => f9_L1_bok h) h

noncomputable def S_glossatorref3_Checksum (m : Option Nat) (a0 : List UInt8) : Option Int :=
  S_glossatorref3_Checksum_l1 m a0 2166136261 0

theorem f9_start {a0 : List UInt8} {m : Option Nat} {o : Int} (h : S_glossatorref3_Checksum m a0 = some o) : LWp Try.prog f9_lay 0 f9_c2 (FinK f9_res (PureEnd (.int .u32 o))) (initEnv 0 [.str a0]) [] 0 := by
  unfold S_glossatorref3_Checksum at h
  refine seqI ?_
  refine regI ?_
  refine seqI ?_
  refine regI ?_
  refine seqI ?_
  refine seqI ?_
  refine regI ?_
  refine blockI ?_
  refine LWp.sim ?_ (f9_L1_ok h)
  exact simI (M := []) rfl (And.intro (Vw.same _ rfl) (And.intro (Vw.same _ rfl) (And.intro (Vw.same _ rfl) (And.intro (Vw.same _ rfl) trivial)))) trivial

theorem f9_ok {a0 : List UInt8} {m : Option Nat} {o : Int} (h : S_glossatorref3_Checksum m a0 = some o) : PFn Try.prog 9 [.str a0] (.int .u32 o) := PFn.ofFnW (L := f9_L) f9_low f9_fok (Nat.le_of_ble_eq_true rfl) rfl (f9_start h)

def f11_L1_env (a0 : List G_QRecord) (a1 : List G_QRecord) (s : Int) : Env := [(1, .isl 3 (a1.map e_QRecord) false), (12, .isl 3 (a0.map e_QRecord) false), (13, .int .i64 ((a0.map e_QRecord).length : Int)), (14, .int .i64 s)]
def f11_L1_hp (a0 : List G_QRecord) (a1 : List G_QRecord) (s : Int) : AHeap := []
def f11_L1_Q (o : Bool) : Exit → Env → AHeap → Nat → Prop := (QBlock 0 (QSeq Try.prog f11_lay 0 f11_c0 (FinK f11_res (PureEnd (.bool o)))))

noncomputable def S_glossatorref3_Equal_api_QRecord_j1 (m : Option Nat) : Option Bool :=
  some true

noncomputable def S_glossatorref3_Equal_api_QRecord_b1 (m : Option Nat) (a0 : List G_QRecord) (a1 : List G_QRecord) (v1 : Int) : Option (Int ⊕ Bool) :=
  if (decide (v1 < ((a0.map e_QRecord).length : Int))) = true then
    if (0 : Int) ≤ v1 ∧ v1 < ((a0.map e_QRecord).length : Int) then
    if (0 : Int) ≤ v1 ∧ v1 < ((a1.map e_QRecord).length : Int) then
    if (!(((a0.getD v1.toNat default).f_Key == (a1.getD v1.toNat default).f_Key) && (((a0.getD v1.toNat default).f_Value == (a1.getD v1.toNat default).f_Value) && (((a0.getD v1.toNat default).f_Deleted == (a1.getD v1.toNat default).f_Deleted) && true)))) = true then
      Option.map Sum.inr (
        some false)
    else
      some (.inl (W (v1 + 1)))
    else none
    else none
  else
    Option.map Sum.inr (
      S_glossatorref3_Equal_api_QRecord_j1 m)

noncomputable def S_glossatorref3_Equal_api_QRecord_l1 (m : Option Nat) (a0 : List G_QRecord) (a1 : List G_QRecord) (v1 : Int) : Option Bool := loopM m (fun (s : Int) => S_glossatorref3_Equal_api_QRecord_b1 m a0 a1 s) v1

theorem f11_j1_ok {m : Option Nat} {o : Bool} (h : S_glossatorref3_Equal_api_QRecord_j1 m = some o) :
    LWp Try.prog f11_lay 0 f11_c0 (FinK f11_res (PureEnd (.bool o))) [] [] 0 := by
  unfold S_glossatorref3_Equal_api_QRecord_j1 at h
  refine seqI ?_
  refine regI ?_
  refine retI ?_
  cases h
  exact And.intro trivial (And.intro rfl ((Vw.same _ rfl)))

theorem f11_L1_bok {a0 : List G_QRecord} {a1 : List G_QRecord} {v1 : Int} {m : Option Nat} {o : Int ⊕ Bool} (h : S_glossatorref3_Equal_api_QRecord_b1 m a0 a1 v1 = some o) :
    LWp Try.prog f11_lay 0 f11_c1 (BodyQ 0 0 (f11_L1_env a0 a1) (f11_L1_hp a0 a1) (f11_L1_Q) o) [(1, .isl 3 (a1.map e_QRecord) false), (12, .isl 3 (a0.map e_QRecord) false), (13, .int .i64 ((a0.map e_QRecord).length : Int)), (14, .int .i64 v1)] [] 0 := by
  unfold S_glossatorref3_Equal_api_QRecord_b1 at h
  refine seqI ?_
  refine regI ?_
  refine seqI ?_
  refine condI (v := (decide (v1 < ((a0.map e_QRecord).length : Int)))) rfl trivial (fun h10 => ?_) (fun h10 => ?_)
  · have h := ite_tt h10 h
    refine skipI ?_
    refine seqI ?_
    refine blockI ?_
    refine seqI ?_
    refine regI ?_
    obtain ⟨h11, h⟩ := ite_some h
    refine And.intro h11 ?_
    refine Exists.intro (e_QRecord (a0.getD v1.toNat default)) (And.intro (getD_enc e_QRecord _ _ (idx_ltL e_QRecord h11)) (And.intro (And.intro (idx_lt h11) (Nat.le_of_ble_eq_true rfl)) ?_))
    refine seqI ?_
    refine quietI ?_
    obtain ⟨h12, h⟩ := ite_some h
    refine And.intro h12 ?_
    show yqs _ _ [(22, .iptr 3 (a1.map e_QRecord) v1.toNat 0), (21, .int .i64 v1), (20, .isl 3 (a1.map e_QRecord) false), (19, .agg [.str ((a0.getD v1.toNat default).f_Key), .str ((a0.getD v1.toNat default).f_Value), .bool ((a0.getD v1.toNat default).f_Deleted)]), (5, .int .i64 v1), (6, .ptr (0, 0) 0 0), (18, .agg [.str ((a0.getD v1.toNat default).f_Key), .str ((a0.getD v1.toNat default).f_Value), .bool ((a0.getD v1.toNat default).f_Deleted)]), (17, .iptr 3 (a0.map e_QRecord) v1.toNat 0), (16, .int .i64 v1), (15, .bool (decide (v1 < ((a0.map e_QRecord).length : Int)))), (1, .isl 3 (a1.map e_QRecord) false), (12, .isl 3 (a0.map e_QRecord) false), (13, .int .i64 ((a0.map e_QRecord).length : Int)), (14, .int .i64 v1)] _ _
    refine Exists.intro (e_QRecord (a1.getD v1.toNat default)) (And.intro (getD_enc e_QRecord _ _ (idx_ltL e_QRecord h12)) (And.intro (And.intro (idx_lt h12) (Nat.le_of_ble_eq_true rfl)) ?_))
    refine LWp.sim (e := [(1, .isl 3 (a1.map e_QRecord) false), (12, .isl 3 (a0.map e_QRecord) false), (13, .int .i64 ((a0.map e_QRecord).length : Int)), (14, .int .i64 v1), (24, .bool (!(((a0.getD v1.toNat default).f_Key == (a1.getD v1.toNat default).f_Key) && (((a0.getD v1.toNat default).f_Value == (a1.getD v1.toNat default).f_Value) && (((a0.getD v1.toNat default).f_Deleted == (a1.getD v1.toNat default).f_Deleted) && true)))))]) (L := []) (n := 0) (simI (M := []) rfl (And.intro (Vw.same _ rfl) (And.intro (Vw.same _ rfl) (And.intro (Vw.same _ rfl) (And.intro (Vw.same _ rfl) (And.intro (Vw.same _ rfl) trivial))))) trivial) ?_
    refine condI (v := (!(((a0.getD v1.toNat default).f_Key == (a1.getD v1.toNat default).f_Key) && (((a0.getD v1.toNat default).f_Value == (a1.getD v1.toNat default).f_Value) && (((a0.getD v1.toNat default).f_Deleted == (a1.getD v1.toNat default).f_Deleted) && true))))) rfl trivial (fun h13 => ?_) (fun h13 => ?_)
    · have h := ite_tt h13 h
      refine seqI ?_
      refine regI ?_
      refine retI ?_
      obtain ⟨o, hq, rfl⟩ := Option.map_eq_some_iff.1 h
      replace h := hq; clear hq
      refine And.intro nofun ?_
      cases h
      exact And.intro trivial (And.intro rfl ((Vw.same _ rfl)))
    · have h := ite_ff h13 h
      refine skipI ?_
      refine regI ?_
      cases h
      exact And.intro rfl (simI (M := []) rfl (And.intro (Vw.same _ rfl) (And.intro (Vw.same _ rfl) (And.intro (Vw.same _ rfl) (And.intro (Vw.same _ rfl) trivial)))) trivial)
  · have h := ite_ff h10 h
    refine exitI ?_
    obtain ⟨o, hq, rfl⟩ := Option.map_eq_some_iff.1 h
    replace h := hq; clear hq
    refine And.intro nofun ?_
    refine LWp.sim ?_ (f11_j1_ok h)
    exact simI (M := []) rfl trivial trivial

theorem f11_L1_ok {a0 : List G_QRecord} {a1 : List G_QRecord} {v1 : Int} {m : Option Nat} {o : Bool} (h : S_glossatorref3_Equal_api_QRecord_l1 m a0 a1 v1 = some o) :
    LWp Try.prog f11_lay 0 (.loop f11_c1) (QBlock 0 (QSeq Try.prog f11_lay 0 f11_c0 (FinK f11_res (PureEnd (.bool o))))) [(1, .isl 3 (a1.map e_QRecord) false), (12, .isl 3 (a0.map e_QRecord) false), (13, .int .i64 ((a0.map e_QRecord).length : Int)), (14, .int .i64 v1)] [] 0 :=
  LWp_loopM (m := m) (s := (v1 : Int)) (r := o) (fun (s : Int) => S_glossatorref3_Equal_api_QRecord_b1 m a0 a1 s) (f11_L1_env a0 a1) (f11_L1_hp a0 a1) (f11_L1_Q) (fun s o h => f11_L1_bok h) h

noncomputable def S_glossatorref3_Equal_api_QRecord (m : Option Nat) (a0 : List G_QRecord) (a1 : List G_QRecord) : Option Bool :=
  if (((a0.map e_QRecord).length : Int) != ((a1.map e_QRecord).length : Int)) = true then
    some false
  else
    S_glossatorref3_Equal_api_QRecord_l1 m a0 a1 0

theorem f11_start {a0 : List G_QRecord} {a1 : List G_QRecord} {m : Option Nat} {o : Bool} (h : S_glossatorref3_Equal_api_QRecord m a0 a1 = some o) : LWp Try.prog f11_lay 0 f11_c2 (FinK f11_res (PureEnd (.bool o))) (initEnv 0 [.isl 3 (a0.map e_QRecord) false, .isl 3 (a1.map e_QRecord) false]) [] 0 := by
  unfold S_glossatorref3_Equal_api_QRecord at h
  refine seqI ?_
  refine regI ?_
  refine seqI ?_
  refine seqI ?_
  refine regI ?_
  refine condI (v := (((a0.map e_QRecord).length : Int) != ((a1.map e_QRecord).length : Int))) rfl trivial (fun h1 => ?_) (fun h1 => ?_)
  · have h := ite_tt h1 h
    refine seqI ?_
    refine regI ?_
    refine retI ?_
    cases h
    exact And.intro trivial (And.intro rfl ((Vw.same _ rfl)))
  · have h := ite_ff h1 h
    refine skipI ?_
    refine seqI ?_
    refine seqI ?_
    refine regI ?_
    refine LWp.sim (e := [(1, .isl 3 (a1.map e_QRecord) false), (12, .isl 3 (a0.map e_QRecord) false), (13, .int .i64 ((a0.map e_QRecord).length : Int)), (14, .int .i64 0)]) (L := []) (n := 0) (simI (M := []) rfl (And.intro (Vw.same _ rfl) (And.intro (Vw.same _ rfl) (And.intro (Vw.same _ rfl) (And.intro (Vw.same _ rfl) trivial)))) trivial) ?_
    refine blockI ?_
    refine LWp.sim ?_ (f11_L1_ok h)
    exact simI (M := []) rfl (And.intro (Vw.same _ rfl) (And.intro (Vw.same _ rfl) (And.intro (Vw.same _ rfl) (And.intro (Vw.same _ rfl) trivial)))) trivial

theorem f11_ok {a0 : List G_QRecord} {a1 : List G_QRecord} {m : Option Nat} {o : Bool} (h : S_glossatorref3_Equal_api_QRecord m a0 a1 = some o) : PFn Try.prog 11 [.isl 3 (a0.map e_QRecord) false, .isl 3 (a1.map e_QRecord) false] (.bool o) := PFn.ofFnW (L := f11_L) f11_low f11_fok (Nat.le_of_ble_eq_true rfl) rfl (f11_start h)

noncomputable def S_journal_validate (m : Option Nat) (a0 : G_QRecord) : Option Int :=
  if ((a0.f_Key == ([] : List UInt8)) || (a0.f_Deleted && (!(a0.f_Value == ([] : List UInt8))))) = true then
    some 3
  else
    if ((decide ((a0.f_Key.length : Int) > 60)) || (decide ((a0.f_Value.length : Int) > 3000))) = true then
      some 2
    else
      some 0

theorem f12_start {a0 : G_QRecord} {m : Option Nat} {o : Int} (h : S_journal_validate m a0 = some o) : LWp Try.prog f12_lay 0 f12_c0 (FinK f12_res (PureEnd (.int .i64 o))) (initEnv 0 [.agg [.str a0.f_Key, .str a0.f_Value, .bool a0.f_Deleted]]) [] 0 := by
  unfold S_journal_validate at h
  refine seqI ?_
  refine regI ?_
  refine seqI ?_
  refine blockI ?_
  refine seqI ?_
  refine regI ?_
  refine And.intro (fun hp => hp) ?_
  show yops _ _ _ [(9, .cnd ((a0.f_Key == ([] : List UInt8)) == false) (.bool a0.f_Deleted)), (8, .cnd ((a0.f_Key == ([] : List UInt8)) == false) (.ptr (0, 0) 0 2)), (7, .bool (a0.f_Key == ([] : List UInt8))), (6, .bool (a0.f_Key == ([] : List UInt8))), (5, .str a0.f_Key), (4, .ptr (0, 0) 0 0), (2, .int .i64 0), (1, .ptr (0, 0) 0 0), (0, .agg [.str a0.f_Key, .str a0.f_Value, .bool a0.f_Deleted])] _ _
  refine And.intro (fun hp => hp) ?_
  refine And.intro (fun hp => hp) ?_
  refine And.intro (fun hp => hp) ?_
  refine And.intro (fun hp => (And.intro hp (fun hc => (and_i hp (bqt hc))))) ?_
  show yops _ _ _ [(14, .cnd ((a0.f_Key == ([] : List UInt8)) == false) (.bool (a0.f_Deleted && (!(a0.f_Value == ([] : List UInt8)))))), (13, .cnd (((a0.f_Key == ([] : List UInt8)) == false) && (a0.f_Deleted == true)) (.bool (!(a0.f_Value == ([] : List UInt8))))), (12, .cnd (((a0.f_Key == ([] : List UInt8)) == false) && (a0.f_Deleted == true)) (.str a0.f_Value)), (11, .cnd (((a0.f_Key == ([] : List UInt8)) == false) && (a0.f_Deleted == true)) (.ptr (0, 0) 0 1)), (10, .cnd ((a0.f_Key == ([] : List UInt8)) == false) (.bool a0.f_Deleted)), (9, .cnd ((a0.f_Key == ([] : List UInt8)) == false) (.bool a0.f_Deleted)), (8, .cnd ((a0.f_Key == ([] : List UInt8)) == false) (.ptr (0, 0) 0 2)), (7, .bool (a0.f_Key == ([] : List UInt8))), (6, .bool (a0.f_Key == ([] : List UInt8))), (5, .str a0.f_Key), (4, .ptr (0, 0) 0 0), (2, .int .i64 0), (1, .ptr (0, 0) 0 0), (0, .agg [.str a0.f_Key, .str a0.f_Value, .bool a0.f_Deleted])] _ _
  refine And.intro (fun hc => (bqf hc)) ?_
  refine LWp.sim (e := [(1, .ptr (0, 0) 0 0), (3, .bool ((a0.f_Key == ([] : List UInt8)) || (a0.f_Deleted && (!(a0.f_Value == ([] : List UInt8))))))]) (L := [((0, 0), .one [.str a0.f_Key, .str a0.f_Value, .bool a0.f_Deleted])]) (n := 1) (simI (M := [((0, 0), (0, 0))]) rfl (And.intro (Vw.ptr _ _ _ _ rfl) (And.intro (Vw.same _ rfl) trivial)) (And.intro (And.intro rfl (BVw.oneL (And.intro (Vw.same _ rfl) (And.intro (Vw.same _ rfl) (And.intro (Vw.same _ rfl) trivial))))) trivial)) ?_
  refine condI (v := ((a0.f_Key == ([] : List UInt8)) || (a0.f_Deleted && (!(a0.f_Value == ([] : List UInt8)))))) rfl trivial (fun h1 => ?_) (fun h1 => ?_)
  · have h := ite_tt h1 h
    refine seqI ?_
    refine regI ?_
    refine retI ?_
    cases h
    exact And.intro trivial (And.intro rfl ((Vw.same _ rfl)))
  · have h := ite_ff h1 h
    refine seqI ?_
    refine regI ?_
    refine And.intro (fun hp => hp) ?_
    show yops _ _ _ [(23, .cnd ((decide ((a0.f_Key.length : Int) > 60)) == false) (.str a0.f_Value)), (22, .cnd ((decide ((a0.f_Key.length : Int) > 60)) == false) (.ptr (0, 0) 0 1)), (21, .bool (decide ((a0.f_Key.length : Int) > 60))), (20, .bool (decide ((a0.f_Key.length : Int) > 60))), (19, .int .i64 (a0.f_Key.length : Int)), (18, .str a0.f_Key), (17, .ptr (0, 0) 0 0), (1, .ptr (0, 0) 0 0), (3, .bool ((a0.f_Key == ([] : List UInt8)) || (a0.f_Deleted && (!(a0.f_Value == ([] : List UInt8))))))] _ _
    refine And.intro (fun hp => hp) ?_
    refine And.intro (fun hp => hp) ?_
    refine And.intro (fun hc => (bqf hc)) ?_
    refine LWp.sim (e := [(16, .bool ((decide ((a0.f_Key.length : Int) > 60)) || (decide ((a0.f_Value.length : Int) > 3000))))]) (L := []) (n := 0) (simI (M := []) rfl (And.intro (Vw.same _ rfl) trivial) trivial) ?_
    refine condI (v := ((decide ((a0.f_Key.length : Int) > 60)) || (decide ((a0.f_Value.length : Int) > 3000)))) rfl trivial (fun h2 => ?_) (fun h2 => ?_)
    · have h := ite_tt h2 h
      refine seqI ?_
      refine regI ?_
      refine retI ?_
      cases h
      exact And.intro trivial (And.intro rfl ((Vw.same _ rfl)))
    · have h := ite_ff h2 h
      refine skipI ?_
      refine seqI ?_
      refine regI ?_
      refine retI ?_
      cases h
      exact And.intro trivial (And.intro rfl ((Vw.same _ rfl)))

theorem f12_ok {a0 : G_QRecord} {m : Option Nat} {o : Int} (h : S_journal_validate m a0 = some o) : PFn Try.prog 12 [.agg [.str a0.f_Key, .str a0.f_Value, .bool a0.f_Deleted]] (.int .i64 o) := PFn.ofFnW (L := f12_L) f12_low f12_fok (Nat.le_of_ble_eq_true rfl) rfl (f12_start h)

noncomputable def S_journal_frame (m : Option Nat) (a0 : List UInt8) : Option (List UInt8) :=
  if ((((([(IntKind.wrap .u8 ((a0.length : Int).fdiv (2 ^ (min (8 : Int).toNat (IntKind.bits .i64))))), (IntKind.wrap .u8 (a0.length : Int))] : List Int).map toU8).length + a0.length : Nat) : Int) ≤ 9223372036854775807) then
  (S_journal_Checksum m ((([(IntKind.wrap .u8 ((a0.length : Int).fdiv (2 ^ (min (8 : Int).toNat (IntKind.bits .i64))))), (IntKind.wrap .u8 (a0.length : Int))] : List Int).map toU8) ++ a0)).bind fun v1 =>
  if ((((([(IntKind.wrap .u8 ((a0.length : Int).fdiv (2 ^ (min (8 : Int).toNat (IntKind.bits .i64))))), (IntKind.wrap .u8 (a0.length : Int))] : List Int).map toU8).length + (([(IntKind.wrap .u8 (v1.fdiv (2 ^ (min (24 : Int).toNat (IntKind.bits .u32))))), (IntKind.wrap .u8 (v1.fdiv (2 ^ (min (16 : Int).toNat (IntKind.bits .u32))))), (IntKind.wrap .u8 (v1.fdiv (2 ^ (min (8 : Int).toNat (IntKind.bits .u32))))), (IntKind.wrap .u8 v1)] : List Int).map toU8).length : Nat) : Int) ≤ 9223372036854775807) then
  if (((((([(IntKind.wrap .u8 ((a0.length : Int).fdiv (2 ^ (min (8 : Int).toNat (IntKind.bits .i64))))), (IntKind.wrap .u8 (a0.length : Int))] : List Int).map toU8) ++ (([(IntKind.wrap .u8 (v1.fdiv (2 ^ (min (24 : Int).toNat (IntKind.bits .u32))))), (IntKind.wrap .u8 (v1.fdiv (2 ^ (min (16 : Int).toNat (IntKind.bits .u32))))), (IntKind.wrap .u8 (v1.fdiv (2 ^ (min (8 : Int).toNat (IntKind.bits .u32))))), (IntKind.wrap .u8 v1)] : List Int).map toU8)).length + a0.length : Nat) : Int) ≤ 9223372036854775807) then
  some (((([(IntKind.wrap .u8 ((a0.length : Int).fdiv (2 ^ (min (8 : Int).toNat (IntKind.bits .i64))))), (IntKind.wrap .u8 (a0.length : Int))] : List Int).map toU8) ++ (([(IntKind.wrap .u8 (v1.fdiv (2 ^ (min (24 : Int).toNat (IntKind.bits .u32))))), (IntKind.wrap .u8 (v1.fdiv (2 ^ (min (16 : Int).toNat (IntKind.bits .u32))))), (IntKind.wrap .u8 (v1.fdiv (2 ^ (min (8 : Int).toNat (IntKind.bits .u32))))), (IntKind.wrap .u8 v1)] : List Int).map toU8)) ++ a0)
  else none
  else none
  else none

theorem f13_start {a0 : List UInt8} {m : Option Nat} {o : (List UInt8)} (h : S_journal_frame m a0 = some o) : LWp Try.prog f13_lay 0 f13_c0 (FinK f13_res (PureEnd (.str o))) (initEnv 0 [.str a0]) [] 0 := by
  unfold S_journal_frame at h
  refine seqI ?_
  refine regI ?_
  refine seqI ?_
  refine regI ?_
  refine And.intro (by decide) ?_
  refine Exists.intro (([(IntKind.wrap .u8 ((a0.length : Int).fdiv (2 ^ (min (8 : Int).toNat (IntKind.bits .i64))))), (IntKind.wrap .u8 (a0.length : Int))] : List Int).map toU8) (And.intro (b2s_enc ([(IntKind.wrap .u8 ((a0.length : Int).fdiv (2 ^ (min (8 : Int).toNat (IntKind.bits .i64))))), (IntKind.wrap .u8 (a0.length : Int))] : List Int)) (And.intro (b2s_all ([(IntKind.wrap .u8 ((a0.length : Int).fdiv (2 ^ (min (8 : Int).toNat (IntKind.bits .i64))))), (IntKind.wrap .u8 (a0.length : Int))] : List Int)) ?_))
  refine LWp.sim (e := [(0, .str a0), (3, .str (([(IntKind.wrap .u8 ((a0.length : Int).fdiv (2 ^ (min (8 : Int).toNat (IntKind.bits .i64))))), (IntKind.wrap .u8 (a0.length : Int))] : List Int).map toU8))]) (L := []) (n := 0) (simI (M := []) rfl (And.intro (Vw.same _ rfl) (And.intro (Vw.same _ rfl) trivial)) trivial) ?_
  refine seqI ?_
  refine regI ?_
  obtain ⟨h1, h⟩ := ite_some h
  refine And.intro h1 ?_
  obtain ⟨v1, h2, h⟩ := bind_some h
  refine PFn.call (f8_ok h2) (And.intro (Vw.same _ rfl) trivial) ?_
  refine seqI ?_
  refine regI ?_
  refine And.intro (by decide) ?_
  show yops _ _ _ [(20, .int .u32 (v1.fdiv (2 ^ (min (24 : Int).toNat (IntKind.bits .u32))))), (19, .int .u32 v1), (18, .str (([(IntKind.wrap .u8 ((a0.length : Int).fdiv (2 ^ (min (8 : Int).toNat (IntKind.bits .i64))))), (IntKind.wrap .u8 (a0.length : Int))] : List Int).map toU8)), (4, .int .u32 v1), (17, .int .u32 v1), (16, .str ((([(IntKind.wrap .u8 ((a0.length : Int).fdiv (2 ^ (min (8 : Int).toNat (IntKind.bits .i64))))), (IntKind.wrap .u8 (a0.length : Int))] : List Int).map toU8) ++ a0)), (15, .str a0), (14, .str (([(IntKind.wrap .u8 ((a0.length : Int).fdiv (2 ^ (min (8 : Int).toNat (IntKind.bits .i64))))), (IntKind.wrap .u8 (a0.length : Int))] : List Int).map toU8)), (0, .str a0), (3, .str (([(IntKind.wrap .u8 ((a0.length : Int).fdiv (2 ^ (min (8 : Int).toNat (IntKind.bits .i64))))), (IntKind.wrap .u8 (a0.length : Int))] : List Int).map toU8))] _ _
  refine And.intro (by decide) ?_
  refine And.intro (by decide) ?_
  show yops _ _ _ [(26, .int .u32 (v1.fdiv (2 ^ (min (8 : Int).toNat (IntKind.bits .u32))))), (25, .int .u32 v1), (24, .int .u8 (IntKind.wrap .u8 (v1.fdiv (2 ^ (min (16 : Int).toNat (IntKind.bits .u32)))))), (23, .int .u32 (v1.fdiv (2 ^ (min (16 : Int).toNat (IntKind.bits .u32))))), (22, .int .u32 v1), (21, .int .u8 (IntKind.wrap .u8 (v1.fdiv (2 ^ (min (24 : Int).toNat (IntKind.bits .u32)))))), (20, .int .u32 (v1.fdiv (2 ^ (min (24 : Int).toNat (IntKind.bits .u32))))), (19, .int .u32 v1), (18, .str (([(IntKind.wrap .u8 ((a0.length : Int).fdiv (2 ^ (min (8 : Int).toNat (IntKind.bits .i64))))), (IntKind.wrap .u8 (a0.length : Int))] : List Int).map toU8)), (4, .int .u32 v1), (17, .int .u32 v1), (16, .str ((([(IntKind.wrap .u8 ((a0.length : Int).fdiv (2 ^ (min (8 : Int).toNat (IntKind.bits .i64))))), (IntKind.wrap .u8 (a0.length : Int))] : List Int).map toU8) ++ a0)), (15, .str a0), (14, .str (([(IntKind.wrap .u8 ((a0.length : Int).fdiv (2 ^ (min (8 : Int).toNat (IntKind.bits .i64))))), (IntKind.wrap .u8 (a0.length : Int))] : List Int).map toU8)), (0, .str a0), (3, .str (([(IntKind.wrap .u8 ((a0.length : Int).fdiv (2 ^ (min (8 : Int).toNat (IntKind.bits .i64))))), (IntKind.wrap .u8 (a0.length : Int))] : List Int).map toU8))] _ _
  refine Exists.intro (([(IntKind.wrap .u8 (v1.fdiv (2 ^ (min (24 : Int).toNat (IntKind.bits .u32))))), (IntKind.wrap .u8 (v1.fdiv (2 ^ (min (16 : Int).toNat (IntKind.bits .u32))))), (IntKind.wrap .u8 (v1.fdiv (2 ^ (min (8 : Int).toNat (IntKind.bits .u32))))), (IntKind.wrap .u8 v1)] : List Int).map toU8) (And.intro (b2s_enc ([(IntKind.wrap .u8 (v1.fdiv (2 ^ (min (24 : Int).toNat (IntKind.bits .u32))))), (IntKind.wrap .u8 (v1.fdiv (2 ^ (min (16 : Int).toNat (IntKind.bits .u32))))), (IntKind.wrap .u8 (v1.fdiv (2 ^ (min (8 : Int).toNat (IntKind.bits .u32))))), (IntKind.wrap .u8 v1)] : List Int)) (And.intro (b2s_all ([(IntKind.wrap .u8 (v1.fdiv (2 ^ (min (24 : Int).toNat (IntKind.bits .u32))))), (IntKind.wrap .u8 (v1.fdiv (2 ^ (min (16 : Int).toNat (IntKind.bits .u32))))), (IntKind.wrap .u8 (v1.fdiv (2 ^ (min (8 : Int).toNat (IntKind.bits .u32))))), (IntKind.wrap .u8 v1)] : List Int)) ?_))
  obtain ⟨h3, h⟩ := ite_some h
  refine And.intro h3 ?_
  show yops _ _ _ [(32, .str ((([(IntKind.wrap .u8 ((a0.length : Int).fdiv (2 ^ (min (8 : Int).toNat (IntKind.bits .i64))))), (IntKind.wrap .u8 (a0.length : Int))] : List Int).map toU8) ++ (([(IntKind.wrap .u8 (v1.fdiv (2 ^ (min (24 : Int).toNat (IntKind.bits .u32))))), (IntKind.wrap .u8 (v1.fdiv (2 ^ (min (16 : Int).toNat (IntKind.bits .u32))))), (IntKind.wrap .u8 (v1.fdiv (2 ^ (min (8 : Int).toNat (IntKind.bits .u32))))), (IntKind.wrap .u8 v1)] : List Int).map toU8))), (31, .str (([(IntKind.wrap .u8 (v1.fdiv (2 ^ (min (24 : Int).toNat (IntKind.bits .u32))))), (IntKind.wrap .u8 (v1.fdiv (2 ^ (min (16 : Int).toNat (IntKind.bits .u32))))), (IntKind.wrap .u8 (v1.fdiv (2 ^ (min (8 : Int).toNat (IntKind.bits .u32))))), (IntKind.wrap .u8 v1)] : List Int).map toU8)), (30, .isl 1 (([(IntKind.wrap .u8 (v1.fdiv (2 ^ (min (24 : Int).toNat (IntKind.bits .u32))))), (IntKind.wrap .u8 (v1.fdiv (2 ^ (min (16 : Int).toNat (IntKind.bits .u32))))), (IntKind.wrap .u8 (v1.fdiv (2 ^ (min (8 : Int).toNat (IntKind.bits .u32))))), (IntKind.wrap .u8 v1)] : List Int).map e_u8) true), (29, .int .u8 (IntKind.wrap .u8 v1)), (28, .int .u32 v1), (27, .int .u8 (IntKind.wrap .u8 (v1.fdiv (2 ^ (min (8 : Int).toNat (IntKind.bits .u32)))))), (26, .int .u32 (v1.fdiv (2 ^ (min (8 : Int).toNat (IntKind.bits .u32))))), (25, .int .u32 v1), (24, .int .u8 (IntKind.wrap .u8 (v1.fdiv (2 ^ (min (16 : Int).toNat (IntKind.bits .u32)))))), (23, .int .u32 (v1.fdiv (2 ^ (min (16 : Int).toNat (IntKind.bits .u32))))), (22, .int .u32 v1), (21, .int .u8 (IntKind.wrap .u8 (v1.fdiv (2 ^ (min (24 : Int).toNat (IntKind.bits .u32)))))), (20, .int .u32 (v1.fdiv (2 ^ (min (24 : Int).toNat (IntKind.bits .u32))))), (19, .int .u32 v1), (18, .str (([(IntKind.wrap .u8 ((a0.length : Int).fdiv (2 ^ (min (8 : Int).toNat (IntKind.bits .i64))))), (IntKind.wrap .u8 (a0.length : Int))] : List Int).map toU8)), (4, .int .u32 v1), (17, .int .u32 v1), (16, .str ((([(IntKind.wrap .u8 ((a0.length : Int).fdiv (2 ^ (min (8 : Int).toNat (IntKind.bits .i64))))), (IntKind.wrap .u8 (a0.length : Int))] : List Int).map toU8) ++ a0)), (15, .str a0), (14, .str (([(IntKind.wrap .u8 ((a0.length : Int).fdiv (2 ^ (min (8 : Int).toNat (IntKind.bits .i64))))), (IntKind.wrap .u8 (a0.length : Int))] : List Int).map toU8)), (0, .str a0), (3, .str (([(IntKind.wrap .u8 ((a0.length : Int).fdiv (2 ^ (min (8 : Int).toNat (IntKind.bits .i64))))), (IntKind.wrap .u8 (a0.length : Int))] : List Int).map toU8))] _ _
  obtain ⟨h4, h⟩ := ite_some h
  refine And.intro h4 ?_
  refine LWp.sim (e := [(2, .str (((([(IntKind.wrap .u8 ((a0.length : Int).fdiv (2 ^ (min (8 : Int).toNat (IntKind.bits .i64))))), (IntKind.wrap .u8 (a0.length : Int))] : List Int).map toU8) ++ (([(IntKind.wrap .u8 (v1.fdiv (2 ^ (min (24 : Int).toNat (IntKind.bits .u32))))), (IntKind.wrap .u8 (v1.fdiv (2 ^ (min (16 : Int).toNat (IntKind.bits .u32))))), (IntKind.wrap .u8 (v1.fdiv (2 ^ (min (8 : Int).toNat (IntKind.bits .u32))))), (IntKind.wrap .u8 v1)] : List Int).map toU8)) ++ a0))]) (L := []) (n := 0) (simI (M := []) rfl (And.intro (Vw.same _ rfl) trivial) trivial) ?_
  refine retI ?_
  cases h
  exact And.intro trivial (And.intro rfl ((Vw.same _ rfl)))

theorem f13_ok {a0 : List UInt8} {m : Option Nat} {o : (List UInt8)} (h : S_journal_frame m a0 = some o) : PFn Try.prog 13 [.str a0] (.str o) := PFn.ofFnW (L := f13_L) f13_low f13_fok (Nat.le_of_ble_eq_true rfl) rfl (f13_start h)

noncomputable def S_journal_payload_j1 (m : Option Nat) (a0 : G_QRecord) (v1 : List UInt8) : Option (List UInt8) :=
  if (((v1.length + (([(IntKind.wrap .u8 (a0.f_Key.length : Int))] : List Int).map toU8).length : Nat) : Int) ≤ 9223372036854775807) then
  if ((((v1 ++ (([(IntKind.wrap .u8 (a0.f_Key.length : Int))] : List Int).map toU8)).length + a0.f_Key.length : Nat) : Int) ≤ 9223372036854775807) then
  if (((((v1 ++ (([(IntKind.wrap .u8 (a0.f_Key.length : Int))] : List Int).map toU8)) ++ a0.f_Key).length + a0.f_Value.length : Nat) : Int) ≤ 9223372036854775807) then
  some (((v1 ++ (([(IntKind.wrap .u8 (a0.f_Key.length : Int))] : List Int).map toU8)) ++ a0.f_Key) ++ a0.f_Value)
  else none
  else none
  else none

theorem f14_j1_ok {a0 : G_QRecord} {v1 : List UInt8} {m : Option Nat} {o : (List UInt8)} (h : S_journal_payload_j1 m a0 v1 = some o) :
    LWp Try.prog f14_lay 0 f14_c0 (FinK f14_res (PureEnd (.str o))) [(1, .ptr (0, 0) 0 0), (3, .str v1)] [((0, 0), .one [.str a0.f_Key, .str a0.f_Value, .bool a0.f_Deleted])] 1 := by
  unfold S_journal_payload_j1 at h
  refine seqI ?_
  refine regI ?_
  refine Exists.intro (([(IntKind.wrap .u8 (a0.f_Key.length : Int))] : List Int).map toU8) (And.intro (b2s_enc ([(IntKind.wrap .u8 (a0.f_Key.length : Int))] : List Int)) (And.intro (b2s_all ([(IntKind.wrap .u8 (a0.f_Key.length : Int))] : List Int)) ?_))
  obtain ⟨h2, h⟩ := ite_some h
  refine And.intro h2 ?_
  show yops _ _ _ [(13, .str (v1 ++ (([(IntKind.wrap .u8 (a0.f_Key.length : Int))] : List Int).map toU8))), (12, .str (([(IntKind.wrap .u8 (a0.f_Key.length : Int))] : List Int).map toU8)), (11, .isl 1 (([(IntKind.wrap .u8 (a0.f_Key.length : Int))] : List Int).map e_u8) true), (10, .int .u8 (IntKind.wrap .u8 (a0.f_Key.length : Int))), (9, .int .i64 (a0.f_Key.length : Int)), (8, .str a0.f_Key), (7, .ptr (0, 0) 0 0), (6, .str v1), (1, .ptr (0, 0) 0 0), (3, .str v1)] _ _
  obtain ⟨h3, h⟩ := ite_some h
  refine And.intro h3 ?_
  obtain ⟨h4, h⟩ := ite_some h
  refine And.intro h4 ?_
  show yops _ _ _ [(19, .str (((v1 ++ (([(IntKind.wrap .u8 (a0.f_Key.length : Int))] : List Int).map toU8)) ++ a0.f_Key) ++ a0.f_Value)), (18, .str a0.f_Value), (17, .ptr (0, 0) 0 1), (16, .str ((v1 ++ (([(IntKind.wrap .u8 (a0.f_Key.length : Int))] : List Int).map toU8)) ++ a0.f_Key)), (15, .str a0.f_Key), (14, .ptr (0, 0) 0 0), (13, .str (v1 ++ (([(IntKind.wrap .u8 (a0.f_Key.length : Int))] : List Int).map toU8))), (12, .str (([(IntKind.wrap .u8 (a0.f_Key.length : Int))] : List Int).map toU8)), (11, .isl 1 (([(IntKind.wrap .u8 (a0.f_Key.length : Int))] : List Int).map e_u8) true), (10, .int .u8 (IntKind.wrap .u8 (a0.f_Key.length : Int))), (9, .int .i64 (a0.f_Key.length : Int)), (8, .str a0.f_Key), (7, .ptr (0, 0) 0 0), (6, .str v1), (1, .ptr (0, 0) 0 0), (3, .str v1)] _ _
  refine LWp.sim (e := [(2, .str (((v1 ++ (([(IntKind.wrap .u8 (a0.f_Key.length : Int))] : List Int).map toU8)) ++ a0.f_Key) ++ a0.f_Value))]) (L := []) (n := 0) (simI (M := []) rfl (And.intro (Vw.same _ rfl) trivial) trivial) ?_
  refine retI ?_
  cases h
  exact And.intro trivial (And.intro rfl ((Vw.same _ rfl)))

noncomputable def S_journal_payload (m : Option Nat) (a0 : G_QRecord) : Option (List UInt8) :=
  if a0.f_Deleted = true then
    S_journal_payload_j1 m a0 ([1] : List UInt8)
  else
    S_journal_payload_j1 m a0 ([0] : List UInt8)

theorem f14_start {a0 : G_QRecord} {m : Option Nat} {o : (List UInt8)} (h : S_journal_payload m a0 = some o) : LWp Try.prog f14_lay 0 f14_c1 (FinK f14_res (PureEnd (.str o))) (initEnv 0 [.agg [.str a0.f_Key, .str a0.f_Value, .bool a0.f_Deleted]]) [] 0 := by
  unfold S_journal_payload at h
  refine seqI ?_
  refine regI ?_
  refine seqI ?_
  refine regI ?_
  refine seqI ?_
  refine seqI ?_
  refine regI ?_
  refine condI (v := a0.f_Deleted) rfl trivial (fun h1 => ?_) (fun h1 => ?_)
  · have h := ite_tt h1 h
    refine regI ?_
    refine LWp.sim ?_ (f14_j1_ok h)
    exact simI (M := [((0, 0), (0, 0))]) rfl (And.intro (Vw.ptr _ _ _ _ rfl) (And.intro (Vw.same _ rfl) trivial)) (And.intro (And.intro rfl (BVw.oneL (And.intro (Vw.same _ rfl) (And.intro (Vw.same _ rfl) (And.intro (Vw.same _ rfl) trivial))))) trivial)
  · have h := ite_ff h1 h
    refine skipI ?_
    refine LWp.sim ?_ (f14_j1_ok h)
    exact simI (M := [((0, 0), (0, 0))]) rfl (And.intro (Vw.ptr _ _ _ _ rfl) (And.intro (Vw.same _ rfl) trivial)) (And.intro (And.intro rfl (BVw.oneL (And.intro (Vw.same _ rfl) (And.intro (Vw.same _ rfl) (And.intro (Vw.same _ rfl) trivial))))) trivial)

theorem f14_ok {a0 : G_QRecord} {m : Option Nat} {o : (List UInt8)} (h : S_journal_payload m a0 = some o) : PFn Try.prog 14 [.agg [.str a0.f_Key, .str a0.f_Value, .bool a0.f_Deleted]] (.str o) := PFn.ofFnW (L := f14_L) f14_low f14_fok (Nat.le_of_ble_eq_true rfl) rfl (f14_start h)

noncomputable def S_glossatorref3_number32 (m : Option Nat) (a0 : Int) : Option (List UInt8) :=
  some (([(IntKind.wrap .u8 (a0.fdiv (2 ^ (min (24 : Int).toNat (IntKind.bits .u32))))), (IntKind.wrap .u8 (a0.fdiv (2 ^ (min (16 : Int).toNat (IntKind.bits .u32))))), (IntKind.wrap .u8 (a0.fdiv (2 ^ (min (8 : Int).toNat (IntKind.bits .u32))))), (IntKind.wrap .u8 a0)] : List Int).map toU8)

theorem f15_start {a0 : Int} {m : Option Nat} {o : (List UInt8)} (h : S_glossatorref3_number32 m a0 = some o) : LWp Try.prog f15_lay 0 f15_c0 (FinK f15_res (PureEnd (.str o))) (initEnv 0 [.int .u32 a0]) [] 0 := by
  unfold S_glossatorref3_number32 at h
  refine seqI ?_
  refine regI ?_
  refine seqI ?_
  refine regI ?_
  refine And.intro (by decide) ?_
  refine And.intro (by decide) ?_
  show yops _ _ _ [(7, .int .u32 (a0.fdiv (2 ^ (min (16 : Int).toNat (IntKind.bits .u32))))), (6, .int .u32 a0), (5, .int .u8 (IntKind.wrap .u8 (a0.fdiv (2 ^ (min (24 : Int).toNat (IntKind.bits .u32)))))), (4, .int .u32 (a0.fdiv (2 ^ (min (24 : Int).toNat (IntKind.bits .u32))))), (3, .int .u32 a0), (2, .str ([] : List UInt8)), (0, .int .u32 a0)] _ _
  refine And.intro (by decide) ?_
  refine Exists.intro (([(IntKind.wrap .u8 (a0.fdiv (2 ^ (min (24 : Int).toNat (IntKind.bits .u32))))), (IntKind.wrap .u8 (a0.fdiv (2 ^ (min (16 : Int).toNat (IntKind.bits .u32))))), (IntKind.wrap .u8 (a0.fdiv (2 ^ (min (8 : Int).toNat (IntKind.bits .u32))))), (IntKind.wrap .u8 a0)] : List Int).map toU8) (And.intro (b2s_enc ([(IntKind.wrap .u8 (a0.fdiv (2 ^ (min (24 : Int).toNat (IntKind.bits .u32))))), (IntKind.wrap .u8 (a0.fdiv (2 ^ (min (16 : Int).toNat (IntKind.bits .u32))))), (IntKind.wrap .u8 (a0.fdiv (2 ^ (min (8 : Int).toNat (IntKind.bits .u32))))), (IntKind.wrap .u8 a0)] : List Int)) (And.intro (b2s_all ([(IntKind.wrap .u8 (a0.fdiv (2 ^ (min (24 : Int).toNat (IntKind.bits .u32))))), (IntKind.wrap .u8 (a0.fdiv (2 ^ (min (16 : Int).toNat (IntKind.bits .u32))))), (IntKind.wrap .u8 (a0.fdiv (2 ^ (min (8 : Int).toNat (IntKind.bits .u32))))), (IntKind.wrap .u8 a0)] : List Int)) ?_))
  refine LWp.sim (e := [(2, .str (([(IntKind.wrap .u8 (a0.fdiv (2 ^ (min (24 : Int).toNat (IntKind.bits .u32))))), (IntKind.wrap .u8 (a0.fdiv (2 ^ (min (16 : Int).toNat (IntKind.bits .u32))))), (IntKind.wrap .u8 (a0.fdiv (2 ^ (min (8 : Int).toNat (IntKind.bits .u32))))), (IntKind.wrap .u8 a0)] : List Int).map toU8))]) (L := []) (n := 0) (simI (M := []) rfl (And.intro (Vw.same _ rfl) trivial) trivial) ?_
  refine retI ?_
  cases h
  exact And.intro trivial (And.intro rfl ((Vw.same _ rfl)))

theorem f15_ok {a0 : Int} {m : Option Nat} {o : (List UInt8)} (h : S_glossatorref3_number32 m a0 = some o) : PFn Try.prog 15 [.int .u32 a0] (.str o) := PFn.ofFnW (L := f15_L) f15_low f15_fok (Nat.le_of_ble_eq_true rfl) rfl (f15_start h)

noncomputable def S_journal_parse (m : Option Nat) (a0 : List UInt8) : Option (G_QRecord × Bool) :=
  if (((decide ((a0.length : Int) < 2)) == false) = true → (0 : Int) ≤ 0 ∧ 0 < (a0.length : Int)) then
  if ((((decide ((a0.length : Int) < 2)) || (decide ((((a0.getD (0 : Int).toNat 0).toNat : Nat) : Int) > 1))) == false) = true → (0 : Int) ≤ 1 ∧ 1 < (a0.length : Int)) then
  if (((decide ((a0.length : Int) < 2)) || (decide ((((a0.getD (0 : Int).toNat 0).toNat : Nat) : Int) > 1))) || (decide ((a0.length : Int) < (W ((2 : Int) + (W (((a0.getD (1 : Int).toNat 0).toNat : Nat) : Int))))))) = true then
    some ((G_QRecord.mk ([] : List UInt8) ([] : List UInt8) false), false)
  else
    if (0 : Int) ≤ 1 ∧ 1 < (a0.length : Int) then
    if (0 : Int) ≤ 2 ∧ 2 ≤ (W ((2 : Int) + (W (((a0.getD (1 : Int).toNat 0).toNat : Nat) : Int)))) ∧ (W ((2 : Int) + (W (((a0.getD (1 : Int).toNat 0).toNat : Nat) : Int)))) ≤ (a0.length : Int) then
    if (0 : Int) ≤ (W ((2 : Int) + (W (((a0.getD (1 : Int).toNat 0).toNat : Nat) : Int)))) ∧ (W ((2 : Int) + (W (((a0.getD (1 : Int).toNat 0).toNat : Nat) : Int)))) ≤ (a0.length : Int) then
    if (0 : Int) ≤ 0 ∧ 0 < (a0.length : Int) then
    (S_journal_validate m (G_QRecord.mk ((a0.take (W ((2 : Int) + (W (((a0.getD (1 : Int).toNat 0).toNat : Nat) : Int)))).toNat).drop (2 : Int).toNat) ((a0.take a0.length).drop (W ((2 : Int) + (W (((a0.getD (1 : Int).toNat 0).toNat : Nat) : Int)))).toNat) ((((a0.getD (0 : Int).toNat 0).toNat : Nat) : Int) == 1))).bind fun v1 =>
    some ((G_QRecord.mk ((a0.take (W ((2 : Int) + (W (((a0.getD (1 : Int).toNat 0).toNat : Nat) : Int)))).toNat).drop (2 : Int).toNat) ((a0.take a0.length).drop (W ((2 : Int) + (W (((a0.getD (1 : Int).toNat 0).toNat : Nat) : Int)))).toNat) ((((a0.getD (0 : Int).toNat 0).toNat : Nat) : Int) == 1)), (v1 == 0))
    else none
    else none
    else none
    else none
  else none
  else none

theorem f18_start {a0 : List UInt8} {m : Option Nat} {o : G_QRecord × Bool} (h : S_journal_parse m a0 = some o) : LWp Try.prog f18_lay 0 f18_c0 (FinK f18_res (PureEnd (.tup [.agg [.str o.1.f_Key, .str o.1.f_Value, .bool o.1.f_Deleted], .bool o.2]))) (initEnv 0 [.str a0]) [] 0 := by
  unfold S_journal_parse at h
  refine seqI ?_
  refine regI ?_
  refine seqI ?_
  refine seqI ?_
  refine regI ?_
  obtain ⟨h1, h⟩ := ite_some h
  refine And.intro (fun hp => (And.intro hp (h1 hp))) ?_
  show yops _ _ _ [(11, .cnd ((decide ((a0.length : Int) < 2)) == false) (.int .u8 (((a0.getD (0 : Int).toNat 0).toNat : Nat) : Int))), (10, .cnd ((decide ((a0.length : Int) < 2)) == false) (.str a0)), (9, .bool (decide ((a0.length : Int) < 2))), (8, .bool (decide ((a0.length : Int) < 2))), (7, .int .i64 (a0.length : Int)), (6, .str a0), (3, .bool false), (2, .ptr (0, 0) 0 0), (0, .str a0)] _ _
  refine And.intro (fun hp => hp) ?_
  refine And.intro (fun hc => (bqf hc)) ?_
  refine And.intro (fun hp => hp) ?_
  show yops _ _ _ [(16, .cnd (((decide ((a0.length : Int) < 2)) || (decide ((((a0.getD (0 : Int).toNat 0).toNat : Nat) : Int) > 1))) == false) (.int .i64 (a0.length : Int))), (15, .cnd (((decide ((a0.length : Int) < 2)) || (decide ((((a0.getD (0 : Int).toNat 0).toNat : Nat) : Int) > 1))) == false) (.str a0)), (14, .bool ((decide ((a0.length : Int) < 2)) || (decide ((((a0.getD (0 : Int).toNat 0).toNat : Nat) : Int) > 1)))), (13, .bool ((decide ((a0.length : Int) < 2)) || (decide ((((a0.getD (0 : Int).toNat 0).toNat : Nat) : Int) > 1)))), (12, .cnd ((decide ((a0.length : Int) < 2)) == false) (.bool (decide ((((a0.getD (0 : Int).toNat 0).toNat : Nat) : Int) > 1)))), (11, .cnd ((decide ((a0.length : Int) < 2)) == false) (.int .u8 (((a0.getD (0 : Int).toNat 0).toNat : Nat) : Int))), (10, .cnd ((decide ((a0.length : Int) < 2)) == false) (.str a0)), (9, .bool (decide ((a0.length : Int) < 2))), (8, .bool (decide ((a0.length : Int) < 2))), (7, .int .i64 (a0.length : Int)), (6, .str a0), (3, .bool false), (2, .ptr (0, 0) 0 0), (0, .str a0)] _ _
  obtain ⟨h2, h⟩ := ite_some h
  refine And.intro (fun hp => (And.intro hp (h2 hp))) ?_
  refine And.intro (fun hp => hp) ?_
  refine And.intro (fun hp => hp) ?_
  refine And.intro (fun hp => (And.intro hp hp)) ?_
  show yops _ _ _ [(21, .cnd (((decide ((a0.length : Int) < 2)) || (decide ((((a0.getD (0 : Int).toNat 0).toNat : Nat) : Int) > 1))) == false) (.bool (decide ((a0.length : Int) < (W ((2 : Int) + (W (((a0.getD (1 : Int).toNat 0).toNat : Nat) : Int)))))))), (20, .cnd (((decide ((a0.length : Int) < 2)) || (decide ((((a0.getD (0 : Int).toNat 0).toNat : Nat) : Int) > 1))) == false) (.int .i64 (W ((2 : Int) + (W (((a0.getD (1 : Int).toNat 0).toNat : Nat) : Int)))))), (19, .cnd (((decide ((a0.length : Int) < 2)) || (decide ((((a0.getD (0 : Int).toNat 0).toNat : Nat) : Int) > 1))) == false) (.int .i64 (W (((a0.getD (1 : Int).toNat 0).toNat : Nat) : Int)))), (18, .cnd (((decide ((a0.length : Int) < 2)) || (decide ((((a0.getD (0 : Int).toNat 0).toNat : Nat) : Int) > 1))) == false) (.int .u8 (((a0.getD (1 : Int).toNat 0).toNat : Nat) : Int))), (17, .cnd (((decide ((a0.length : Int) < 2)) || (decide ((((a0.getD (0 : Int).toNat 0).toNat : Nat) : Int) > 1))) == false) (.str a0)), (16, .cnd (((decide ((a0.length : Int) < 2)) || (decide ((((a0.getD (0 : Int).toNat 0).toNat : Nat) : Int) > 1))) == false) (.int .i64 (a0.length : Int))), (15, .cnd (((decide ((a0.length : Int) < 2)) || (decide ((((a0.getD (0 : Int).toNat 0).toNat : Nat) : Int) > 1))) == false) (.str a0)), (14, .bool ((decide ((a0.length : Int) < 2)) || (decide ((((a0.getD (0 : Int).toNat 0).toNat : Nat) : Int) > 1)))), (13, .bool ((decide ((a0.length : Int) < 2)) || (decide ((((a0.getD (0 : Int).toNat 0).toNat : Nat) : Int) > 1)))), (12, .cnd ((decide ((a0.length : Int) < 2)) == false) (.bool (decide ((((a0.getD (0 : Int).toNat 0).toNat : Nat) : Int) > 1)))), (11, .cnd ((decide ((a0.length : Int) < 2)) == false) (.int .u8 (((a0.getD (0 : Int).toNat 0).toNat : Nat) : Int))), (10, .cnd ((decide ((a0.length : Int) < 2)) == false) (.str a0)), (9, .bool (decide ((a0.length : Int) < 2))), (8, .bool (decide ((a0.length : Int) < 2))), (7, .int .i64 (a0.length : Int)), (6, .str a0), (3, .bool false), (2, .ptr (0, 0) 0 0), (0, .str a0)] _ _
  refine And.intro (fun hc => (bqf hc)) ?_
  refine LWp.sim (e := [(0, .str a0), (2, .ptr (0, 0) 0 0), (22, .bool (((decide ((a0.length : Int) < 2)) || (decide ((((a0.getD (0 : Int).toNat 0).toNat : Nat) : Int) > 1))) || (decide ((a0.length : Int) < (W ((2 : Int) + (W (((a0.getD (1 : Int).toNat 0).toNat : Nat) : Int))))))))]) (L := [((0, 0), .one [.str ([] : List UInt8), .str ([] : List UInt8), .bool false])]) (n := 1) (simI (M := [((0, 0), (0, 0))]) rfl (And.intro (Vw.same _ rfl) (And.intro (Vw.ptr _ _ _ _ rfl) (And.intro (Vw.same _ rfl) trivial))) (And.intro (And.intro rfl (BVw.oneL (And.intro (Vw.same _ rfl) (And.intro (Vw.same _ rfl) (And.intro (Vw.same _ rfl) trivial))))) trivial)) ?_
  refine condI (v := (((decide ((a0.length : Int) < 2)) || (decide ((((a0.getD (0 : Int).toNat 0).toNat : Nat) : Int) > 1))) || (decide ((a0.length : Int) < (W ((2 : Int) + (W (((a0.getD (1 : Int).toNat 0).toNat : Nat) : Int)))))))) rfl trivial (fun h3 => ?_) (fun h3 => ?_)
  · have h := ite_tt h3 h
    refine seqI ?_
    refine regI ?_
    refine retI ?_
    cases h
    exact And.intro (And.intro trivial (And.intro rfl (Nat.le_of_ble_eq_true rfl))) (And.intro trivial (And.intro rfl (Vw.tupL (And.intro (Vw.same _ rfl) (And.intro (Vw.same _ rfl) trivial)))))
  · have h := ite_ff h3 h
    refine skipI ?_
    refine seqI ?_
    refine regI ?_
    obtain ⟨h4, h⟩ := ite_some h
    refine And.intro h4 ?_
    refine seqI ?_
    refine drawI ?_
    obtain ⟨h5, h⟩ := ite_some h
    refine And.intro h5 ?_
    obtain ⟨h6, h⟩ := ite_some h
    refine And.intro (And.intro (And.left h6) (And.intro (And.right h6) (Int.le_refl _))) ?_
    obtain ⟨h7, h⟩ := ite_some h
    refine And.intro h7 ?_
    refine LWp.sim (e := [(2, .ptr (0, 0) 0 0), (5, .ptr (1, 0) 0 0)]) (L := [((0, 0), .one [.str ([] : List UInt8), .str ([] : List UInt8), .bool false]), ((1, 0), .one [.str ((a0.take (W ((2 : Int) + (W (((a0.getD (1 : Int).toNat 0).toNat : Nat) : Int)))).toNat).drop (2 : Int).toNat), .str ((a0.take a0.length).drop (W ((2 : Int) + (W (((a0.getD (1 : Int).toNat 0).toNat : Nat) : Int)))).toNat), .bool ((((a0.getD (0 : Int).toNat 0).toNat : Nat) : Int) == 1)])]) (n := 2) (simI (M := [((0, 0), (0, 0)), ((1, 0), (1, 0))]) rfl (And.intro (Vw.ptr _ _ _ _ rfl) (And.intro (Vw.ptr _ _ _ _ rfl) trivial)) (And.intro (And.intro rfl (BVw.oneL (And.intro (Vw.same _ rfl) (And.intro (Vw.same _ rfl) (And.intro (Vw.same _ rfl) trivial))))) (And.intro (And.intro rfl (BVw.oneL (And.intro (Vw.same _ rfl) (And.intro (Vw.same _ rfl) (And.intro (Vw.same _ rfl) trivial))))) trivial))) ?_
    refine seqI ?_
    refine drawI ?_
    obtain ⟨v1, h8, h⟩ := bind_some h
    refine PFn.call (f12_ok h8) (And.intro (Vw.same _ rfl) trivial) ?_
    refine And.intro (by first | rfl | exact And.intro trivial rfl | exact And.intro (by assumption) rfl) ?_
    refine retI ?_
    cases h
    exact And.intro (And.intro trivial (And.intro rfl (Nat.le_of_ble_eq_true rfl))) (And.intro trivial (And.intro rfl (Vw.tupL (And.intro (Vw.same _ rfl) (And.intro (Vw.same _ rfl) trivial)))))

theorem f18_ok {a0 : List UInt8} {m : Option Nat} {o : G_QRecord × Bool} (h : S_journal_parse m a0 = some o) : PFn Try.prog 18 [.str a0] (.tup [.agg [.str o.1.f_Key, .str o.1.f_Value, .bool o.1.f_Deleted], .bool o.2]) := PFn.ofFnW (L := f18_L) f18_low f18_fok (Nat.le_of_ble_eq_true rfl) rfl (f18_start h)

noncomputable def S_journal_Append (m : Option Nat) (a0 : List UInt8) (a1 : G_QRecord) : Option ((List UInt8) × Int) :=
  (S_journal_validate m a1).bind fun v1 =>
  if (v1 != 0) = true then
    some (([] : List UInt8), v1)
  else
    (S_journal_payload m a1).bind fun v2 =>
    (S_journal_frame m v2).bind fun v3 =>
    if (decide ((W ((a0.length : Int) + (v3.length : Int))) > 40000)) = true then
      some (([] : List UInt8), 2)
    else
      if (((a0.length + v3.length : Nat) : Int) ≤ 9223372036854775807) then
      some ((a0 ++ v3), 0)
      else none

theorem f5_start {a0 : List UInt8} {a1 : G_QRecord} {m : Option Nat} {o : (List UInt8) × Int} (h : S_journal_Append m a0 a1 = some o) : LWp Try.prog f5_lay 0 f5_c0 (FinK f5_res (PureEnd (.tup [.str o.1, .int .i64 o.2]))) (initEnv 0 [.str a0, .agg [.str a1.f_Key, .str a1.f_Value, .bool a1.f_Deleted]]) [] 0 := by
  unfold S_journal_Append at h
  refine seqI ?_
  refine regI ?_
  refine seqI ?_
  refine seqI ?_
  refine regI ?_
  obtain ⟨v1, h1, h⟩ := bind_some h
  refine PFn.call (f12_ok h1) (And.intro (Vw.same _ rfl) trivial) ?_
  show yops _ _ _ [(9, .int .i64 v1), (8, .agg [.str a1.f_Key, .str a1.f_Value, .bool a1.f_Deleted]), (5, .int .i64 0), (4, .str ([] : List UInt8)), (3, .ptr (0, 0) 0 0), (0, .str a0), (1, .agg [.str a1.f_Key, .str a1.f_Value, .bool a1.f_Deleted])] _ _
  refine seqI ?_
  refine regI ?_
  refine LWp.sim (e := [(0, .str a0), (3, .ptr (0, 0) 0 0), (6, .int .i64 v1), (11, .bool (v1 != 0))]) (L := [((0, 0), .one [.str a1.f_Key, .str a1.f_Value, .bool a1.f_Deleted])]) (n := 1) (simI (M := [((0, 0), (0, 0))]) rfl (And.intro (Vw.same _ rfl) (And.intro (Vw.ptr _ _ _ _ rfl) (And.intro (Vw.same _ rfl) (And.intro (Vw.same _ rfl) trivial)))) (And.intro (And.intro rfl (BVw.oneL (And.intro (Vw.same _ rfl) (And.intro (Vw.same _ rfl) (And.intro (Vw.same _ rfl) trivial))))) trivial)) ?_
  refine condI (v := (v1 != 0)) rfl trivial (fun h2 => ?_) (fun h2 => ?_)
  · have h := ite_tt h2 h
    refine seqI ?_
    refine regI ?_
    refine retI ?_
    cases h
    exact And.intro trivial (And.intro trivial (And.intro rfl (Vw.same _ rfl)))
  · have h := ite_ff h2 h
    refine skipI ?_
    refine seqI ?_
    refine regI ?_
    obtain ⟨v2, h3, h⟩ := bind_some h
    refine PFn.call (f14_ok h3) (And.intro (Vw.same _ rfl) trivial) ?_
    obtain ⟨v3, h4, h⟩ := bind_some h
    refine PFn.call (f13_ok h4) (And.intro (Vw.same _ rfl) trivial) ?_
    refine seqI ?_
    refine seqI ?_
    refine regI ?_
    refine LWp.sim (e := [(0, .str a0), (7, .str v3), (21, .bool (decide ((W ((a0.length : Int) + (v3.length : Int))) > 40000)))]) (L := []) (n := 0) (simI (M := []) rfl (And.intro (Vw.same _ rfl) (And.intro (Vw.same _ rfl) (And.intro (Vw.same _ rfl) trivial))) trivial) ?_
    refine condI (v := (decide ((W ((a0.length : Int) + (v3.length : Int))) > 40000))) rfl trivial (fun h5 => ?_) (fun h5 => ?_)
    · have h := ite_tt h5 h
      refine seqI ?_
      refine regI ?_
      refine retI ?_
      cases h
      exact And.intro trivial (And.intro trivial (And.intro rfl (Vw.same _ rfl)))
    · have h := ite_ff h5 h
      refine skipI ?_
      refine seqI ?_
      refine regI ?_
      obtain ⟨h6, h⟩ := ite_some h
      refine And.intro h6 ?_
      refine retI ?_
      cases h
      exact And.intro trivial (And.intro trivial (And.intro rfl (Vw.same _ rfl)))

theorem f5_ok {a0 : List UInt8} {a1 : G_QRecord} {m : Option Nat} {o : (List UInt8) × Int} (h : S_journal_Append m a0 a1 = some o) : PFn Try.prog 5 [.str a0, .agg [.str a1.f_Key, .str a1.f_Value, .bool a1.f_Deleted]] (.tup [.str o.1, .int .i64 o.2]) := PFn.ofFnW (L := f5_L) f5_low f5_fok (Nat.le_of_ble_eq_true rfl) rfl (f5_start h)

noncomputable def S_glossatorref3_Frame_j1 (m : Option Nat) (a0 : G_QRecord) (v1 : Int) : Option (List UInt8) :=
  if ((((([v1, (IntKind.wrap .u8 (a0.f_Key.length : Int))] : List Int).map toU8).length + a0.f_Key.length : Nat) : Int) ≤ 9223372036854775807) then
  if (((((([v1, (IntKind.wrap .u8 (a0.f_Key.length : Int))] : List Int).map toU8) ++ a0.f_Key).length + a0.f_Value.length : Nat) : Int) ≤ 9223372036854775807) then
  if ((((([(IntKind.wrap .u8 (W (((((([v1, (IntKind.wrap .u8 (a0.f_Key.length : Int))] : List Int).map toU8) ++ a0.f_Key) ++ a0.f_Value).length : Int).tdiv 256))), (IntKind.wrap .u8 (((((([v1, (IntKind.wrap .u8 (a0.f_Key.length : Int))] : List Int).map toU8) ++ a0.f_Key) ++ a0.f_Value).length : Int).tmod 256))] : List Int).map toU8).length + (((([v1, (IntKind.wrap .u8 (a0.f_Key.length : Int))] : List Int).map toU8) ++ a0.f_Key) ++ a0.f_Value).length : Nat) : Int) ≤ 9223372036854775807) then
  (S_glossatorref3_Checksum m ((([(IntKind.wrap .u8 (W (((((([v1, (IntKind.wrap .u8 (a0.f_Key.length : Int))] : List Int).map toU8) ++ a0.f_Key) ++ a0.f_Value).length : Int).tdiv 256))), (IntKind.wrap .u8 (((((([v1, (IntKind.wrap .u8 (a0.f_Key.length : Int))] : List Int).map toU8) ++ a0.f_Key) ++ a0.f_Value).length : Int).tmod 256))] : List Int).map toU8) ++ (((([v1, (IntKind.wrap .u8 (a0.f_Key.length : Int))] : List Int).map toU8) ++ a0.f_Key) ++ a0.f_Value))).bind fun v2 =>
  (S_glossatorref3_number32 m v2).bind fun v3 =>
  if ((((([(IntKind.wrap .u8 (W (((((([v1, (IntKind.wrap .u8 (a0.f_Key.length : Int))] : List Int).map toU8) ++ a0.f_Key) ++ a0.f_Value).length : Int).tdiv 256))), (IntKind.wrap .u8 (((((([v1, (IntKind.wrap .u8 (a0.f_Key.length : Int))] : List Int).map toU8) ++ a0.f_Key) ++ a0.f_Value).length : Int).tmod 256))] : List Int).map toU8).length + v3.length : Nat) : Int) ≤ 9223372036854775807) then
  if (((((([(IntKind.wrap .u8 (W (((((([v1, (IntKind.wrap .u8 (a0.f_Key.length : Int))] : List Int).map toU8) ++ a0.f_Key) ++ a0.f_Value).length : Int).tdiv 256))), (IntKind.wrap .u8 (((((([v1, (IntKind.wrap .u8 (a0.f_Key.length : Int))] : List Int).map toU8) ++ a0.f_Key) ++ a0.f_Value).length : Int).tmod 256))] : List Int).map toU8) ++ v3).length + (((([v1, (IntKind.wrap .u8 (a0.f_Key.length : Int))] : List Int).map toU8) ++ a0.f_Key) ++ a0.f_Value).length : Nat) : Int) ≤ 9223372036854775807) then
  some (((([(IntKind.wrap .u8 (W (((((([v1, (IntKind.wrap .u8 (a0.f_Key.length : Int))] : List Int).map toU8) ++ a0.f_Key) ++ a0.f_Value).length : Int).tdiv 256))), (IntKind.wrap .u8 (((((([v1, (IntKind.wrap .u8 (a0.f_Key.length : Int))] : List Int).map toU8) ++ a0.f_Key) ++ a0.f_Value).length : Int).tmod 256))] : List Int).map toU8) ++ v3) ++ (((([v1, (IntKind.wrap .u8 (a0.f_Key.length : Int))] : List Int).map toU8) ++ a0.f_Key) ++ a0.f_Value))
  else none
  else none
  else none
  else none
  else none

theorem f7_j1_ok {a0 : G_QRecord} {v1 : Int} {m : Option Nat} {o : (List UInt8)} (h : S_glossatorref3_Frame_j1 m a0 v1 = some o) :
    LWp Try.prog f7_lay 0 f7_c0 (FinK f7_res (PureEnd (.str o))) [(1, .ptr (0, 0) 0 0), (3, .int .u8 v1)] [((0, 0), .one [.str a0.f_Key, .str a0.f_Value, .bool a0.f_Deleted])] 1 := by
  unfold S_glossatorref3_Frame_j1 at h
  refine seqI ?_
  refine regI ?_
  refine Exists.intro (([v1, (IntKind.wrap .u8 (a0.f_Key.length : Int))] : List Int).map toU8) (And.intro (b2s_enc ([v1, (IntKind.wrap .u8 (a0.f_Key.length : Int))] : List Int)) (And.intro (b2s_all ([v1, (IntKind.wrap .u8 (a0.f_Key.length : Int))] : List Int)) ?_))
  obtain ⟨h2, h⟩ := ite_some h
  refine And.intro h2 ?_
  show yops _ _ _ [(17, .str ((([v1, (IntKind.wrap .u8 (a0.f_Key.length : Int))] : List Int).map toU8) ++ a0.f_Key)), (16, .str a0.f_Key), (15, .ptr (0, 0) 0 0), (14, .str (([v1, (IntKind.wrap .u8 (a0.f_Key.length : Int))] : List Int).map toU8)), (13, .isl 1 (([v1, (IntKind.wrap .u8 (a0.f_Key.length : Int))] : List Int).map e_u8) true), (12, .int .u8 (IntKind.wrap .u8 (a0.f_Key.length : Int))), (11, .int .i64 (a0.f_Key.length : Int)), (10, .str a0.f_Key), (9, .ptr (0, 0) 0 0), (8, .int .u8 v1), (1, .ptr (0, 0) 0 0), (3, .int .u8 v1)] _ _
  obtain ⟨h3, h⟩ := ite_some h
  refine And.intro h3 ?_
  refine LWp.sim (e := [(4, .str (((([v1, (IntKind.wrap .u8 (a0.f_Key.length : Int))] : List Int).map toU8) ++ a0.f_Key) ++ a0.f_Value))]) (L := []) (n := 0) (simI (M := []) rfl (And.intro (Vw.same _ rfl) trivial) trivial) ?_
  refine seqI ?_
  refine regI ?_
  refine And.intro (by decide) ?_
  refine And.intro (by decide) ?_
  show yops _ _ _ [(27, .int .i64 (((((([v1, (IntKind.wrap .u8 (a0.f_Key.length : Int))] : List Int).map toU8) ++ a0.f_Key) ++ a0.f_Value).length : Int).tmod 256)), (26, .int .i64 ((((([v1, (IntKind.wrap .u8 (a0.f_Key.length : Int))] : List Int).map toU8) ++ a0.f_Key) ++ a0.f_Value).length : Int)), (25, .str (((([v1, (IntKind.wrap .u8 (a0.f_Key.length : Int))] : List Int).map toU8) ++ a0.f_Key) ++ a0.f_Value)), (24, .int .u8 (IntKind.wrap .u8 (W (((((([v1, (IntKind.wrap .u8 (a0.f_Key.length : Int))] : List Int).map toU8) ++ a0.f_Key) ++ a0.f_Value).length : Int).tdiv 256)))), (23, .int .i64 (W (((((([v1, (IntKind.wrap .u8 (a0.f_Key.length : Int))] : List Int).map toU8) ++ a0.f_Key) ++ a0.f_Value).length : Int).tdiv 256))), (22, .int .i64 ((((([v1, (IntKind.wrap .u8 (a0.f_Key.length : Int))] : List Int).map toU8) ++ a0.f_Key) ++ a0.f_Value).length : Int)), (21, .str (((([v1, (IntKind.wrap .u8 (a0.f_Key.length : Int))] : List Int).map toU8) ++ a0.f_Key) ++ a0.f_Value)), (4, .str (((([v1, (IntKind.wrap .u8 (a0.f_Key.length : Int))] : List Int).map toU8) ++ a0.f_Key) ++ a0.f_Value))] _ _
  refine Exists.intro (([(IntKind.wrap .u8 (W (((((([v1, (IntKind.wrap .u8 (a0.f_Key.length : Int))] : List Int).map toU8) ++ a0.f_Key) ++ a0.f_Value).length : Int).tdiv 256))), (IntKind.wrap .u8 (((((([v1, (IntKind.wrap .u8 (a0.f_Key.length : Int))] : List Int).map toU8) ++ a0.f_Key) ++ a0.f_Value).length : Int).tmod 256))] : List Int).map toU8) (And.intro (b2s_enc ([(IntKind.wrap .u8 (W (((((([v1, (IntKind.wrap .u8 (a0.f_Key.length : Int))] : List Int).map toU8) ++ a0.f_Key) ++ a0.f_Value).length : Int).tdiv 256))), (IntKind.wrap .u8 (((((([v1, (IntKind.wrap .u8 (a0.f_Key.length : Int))] : List Int).map toU8) ++ a0.f_Key) ++ a0.f_Value).length : Int).tmod 256))] : List Int)) (And.intro (b2s_all ([(IntKind.wrap .u8 (W (((((([v1, (IntKind.wrap .u8 (a0.f_Key.length : Int))] : List Int).map toU8) ++ a0.f_Key) ++ a0.f_Value).length : Int).tdiv 256))), (IntKind.wrap .u8 (((((([v1, (IntKind.wrap .u8 (a0.f_Key.length : Int))] : List Int).map toU8) ++ a0.f_Key) ++ a0.f_Value).length : Int).tmod 256))] : List Int)) ?_))
  refine LWp.sim (e := [(4, .str (((([v1, (IntKind.wrap .u8 (a0.f_Key.length : Int))] : List Int).map toU8) ++ a0.f_Key) ++ a0.f_Value)), (5, .str (([(IntKind.wrap .u8 (W (((((([v1, (IntKind.wrap .u8 (a0.f_Key.length : Int))] : List Int).map toU8) ++ a0.f_Key) ++ a0.f_Value).length : Int).tdiv 256))), (IntKind.wrap .u8 (((((([v1, (IntKind.wrap .u8 (a0.f_Key.length : Int))] : List Int).map toU8) ++ a0.f_Key) ++ a0.f_Value).length : Int).tmod 256))] : List Int).map toU8))]) (L := []) (n := 0) (simI (M := []) rfl (And.intro (Vw.same _ rfl) (And.intro (Vw.same _ rfl) trivial)) trivial) ?_
  refine seqI ?_
  refine regI ?_
  obtain ⟨h4, h⟩ := ite_some h
  refine And.intro h4 ?_
  obtain ⟨v2, h5, h⟩ := bind_some h
  refine PFn.call (f9_ok h5) (And.intro (Vw.same _ rfl) trivial) ?_
  show yops _ _ _ [(35, .int .u32 v2), (34, .str ((([(IntKind.wrap .u8 (W (((((([v1, (IntKind.wrap .u8 (a0.f_Key.length : Int))] : List Int).map toU8) ++ a0.f_Key) ++ a0.f_Value).length : Int).tdiv 256))), (IntKind.wrap .u8 (((((([v1, (IntKind.wrap .u8 (a0.f_Key.length : Int))] : List Int).map toU8) ++ a0.f_Key) ++ a0.f_Value).length : Int).tmod 256))] : List Int).map toU8) ++ (((([v1, (IntKind.wrap .u8 (a0.f_Key.length : Int))] : List Int).map toU8) ++ a0.f_Key) ++ a0.f_Value))), (33, .str (((([v1, (IntKind.wrap .u8 (a0.f_Key.length : Int))] : List Int).map toU8) ++ a0.f_Key) ++ a0.f_Value)), (32, .str (([(IntKind.wrap .u8 (W (((((([v1, (IntKind.wrap .u8 (a0.f_Key.length : Int))] : List Int).map toU8) ++ a0.f_Key) ++ a0.f_Value).length : Int).tdiv 256))), (IntKind.wrap .u8 (((((([v1, (IntKind.wrap .u8 (a0.f_Key.length : Int))] : List Int).map toU8) ++ a0.f_Key) ++ a0.f_Value).length : Int).tmod 256))] : List Int).map toU8)), (31, .str (([(IntKind.wrap .u8 (W (((((([v1, (IntKind.wrap .u8 (a0.f_Key.length : Int))] : List Int).map toU8) ++ a0.f_Key) ++ a0.f_Value).length : Int).tdiv 256))), (IntKind.wrap .u8 (((((([v1, (IntKind.wrap .u8 (a0.f_Key.length : Int))] : List Int).map toU8) ++ a0.f_Key) ++ a0.f_Value).length : Int).tmod 256))] : List Int).map toU8)), (4, .str (((([v1, (IntKind.wrap .u8 (a0.f_Key.length : Int))] : List Int).map toU8) ++ a0.f_Key) ++ a0.f_Value)), (5, .str (([(IntKind.wrap .u8 (W (((((([v1, (IntKind.wrap .u8 (a0.f_Key.length : Int))] : List Int).map toU8) ++ a0.f_Key) ++ a0.f_Value).length : Int).tdiv 256))), (IntKind.wrap .u8 (((((([v1, (IntKind.wrap .u8 (a0.f_Key.length : Int))] : List Int).map toU8) ++ a0.f_Key) ++ a0.f_Value).length : Int).tmod 256))] : List Int).map toU8))] _ _
  obtain ⟨v3, h6, h⟩ := bind_some h
  refine PFn.call (f15_ok h6) (And.intro (Vw.same _ rfl) trivial) ?_
  obtain ⟨h7, h⟩ := ite_some h
  refine And.intro h7 ?_
  obtain ⟨h8, h⟩ := ite_some h
  refine And.intro h8 ?_
  refine LWp.sim (e := [(2, .str (((([(IntKind.wrap .u8 (W (((((([v1, (IntKind.wrap .u8 (a0.f_Key.length : Int))] : List Int).map toU8) ++ a0.f_Key) ++ a0.f_Value).length : Int).tdiv 256))), (IntKind.wrap .u8 (((((([v1, (IntKind.wrap .u8 (a0.f_Key.length : Int))] : List Int).map toU8) ++ a0.f_Key) ++ a0.f_Value).length : Int).tmod 256))] : List Int).map toU8) ++ v3) ++ (((([v1, (IntKind.wrap .u8 (a0.f_Key.length : Int))] : List Int).map toU8) ++ a0.f_Key) ++ a0.f_Value)))]) (L := []) (n := 0) (simI (M := []) rfl (And.intro (Vw.same _ rfl) trivial) trivial) ?_
  refine retI ?_
  cases h
  exact And.intro trivial (And.intro rfl ((Vw.same _ rfl)))

noncomputable def S_glossatorref3_Frame (m : Option Nat) (a0 : G_QRecord) : Option (List UInt8) :=
  if a0.f_Deleted = true then
    S_glossatorref3_Frame_j1 m a0 1
  else
    S_glossatorref3_Frame_j1 m a0 0

theorem f7_start {a0 : G_QRecord} {m : Option Nat} {o : (List UInt8)} (h : S_glossatorref3_Frame m a0 = some o) : LWp Try.prog f7_lay 0 f7_c1 (FinK f7_res (PureEnd (.str o))) (initEnv 0 [.agg [.str a0.f_Key, .str a0.f_Value, .bool a0.f_Deleted]]) [] 0 := by
  unfold S_glossatorref3_Frame at h
  refine seqI ?_
  refine regI ?_
  refine seqI ?_
  refine regI ?_
  refine seqI ?_
  refine seqI ?_
  refine regI ?_
  refine condI (v := a0.f_Deleted) rfl trivial (fun h1 => ?_) (fun h1 => ?_)
  · have h := ite_tt h1 h
    refine regI ?_
    refine LWp.sim ?_ (f7_j1_ok h)
    exact simI (M := [((0, 0), (0, 0))]) rfl (And.intro (Vw.ptr _ _ _ _ rfl) (And.intro (Vw.same _ rfl) trivial)) (And.intro (And.intro rfl (BVw.oneL (And.intro (Vw.same _ rfl) (And.intro (Vw.same _ rfl) (And.intro (Vw.same _ rfl) trivial))))) trivial)
  · have h := ite_ff h1 h
    refine skipI ?_
    refine LWp.sim ?_ (f7_j1_ok h)
    exact simI (M := [((0, 0), (0, 0))]) rfl (And.intro (Vw.ptr _ _ _ _ rfl) (And.intro (Vw.same _ rfl) trivial)) (And.intro (And.intro rfl (BVw.oneL (And.intro (Vw.same _ rfl) (And.intro (Vw.same _ rfl) (And.intro (Vw.same _ rfl) trivial))))) trivial)

theorem f7_ok {a0 : G_QRecord} {m : Option Nat} {o : (List UInt8)} (h : S_glossatorref3_Frame m a0 = some o) : PFn Try.prog 7 [.agg [.str a0.f_Key, .str a0.f_Value, .bool a0.f_Deleted]] (.str o) := PFn.ofFnW (L := f7_L) f7_low f7_fok (Nat.le_of_ble_eq_true rfl) rfl (f7_start h)

noncomputable def S_journal_next (m : Option Nat) (a0 : List UInt8) : Option (G_QRecord × Int × Int) :=
  if (decide ((a0.length : Int) < 6)) = true then
    some ((G_QRecord.mk ([] : List UInt8) ([] : List UInt8) false), 0, 0)
  else
    if (0 : Int) ≤ 0 ∧ 0 < (a0.length : Int) then
    if (0 : Int) ≤ 1 ∧ 1 < (a0.length : Int) then
    if (decide ((a0.length : Int) < (W ((W ((6 : Int) + (W ((W (((a0.getD (0 : Int).toNat 0).toNat : Nat) : Int)) * 2 ^ (min (8 : Int).toNat (IntKind.bits .i64)))))) + (W (((a0.getD (1 : Int).toNat 0).toNat : Nat) : Int)))))) = true then
      some ((G_QRecord.mk ([] : List UInt8) ([] : List UInt8) false), 0, 0)
    else
      if (0 : Int) ≤ 6 ∧ 6 ≤ (W ((W ((6 : Int) + (W ((W (((a0.getD (0 : Int).toNat 0).toNat : Nat) : Int)) * 2 ^ (min (8 : Int).toNat (IntKind.bits .i64)))))) + (W (((a0.getD (1 : Int).toNat 0).toNat : Nat) : Int)))) ∧ (W ((W ((6 : Int) + (W ((W (((a0.getD (0 : Int).toNat 0).toNat : Nat) : Int)) * 2 ^ (min (8 : Int).toNat (IntKind.bits .i64)))))) + (W (((a0.getD (1 : Int).toNat 0).toNat : Nat) : Int)))) ≤ (a0.length : Int) then
      if (0 : Int) ≤ (W ((W ((6 : Int) + (W ((W (((a0.getD (0 : Int).toNat 0).toNat : Nat) : Int)) * 2 ^ (min (8 : Int).toNat (IntKind.bits .i64)))))) + (W (((a0.getD (1 : Int).toNat 0).toNat : Nat) : Int)))) ∧ (W ((W ((6 : Int) + (W ((W (((a0.getD (0 : Int).toNat 0).toNat : Nat) : Int)) * 2 ^ (min (8 : Int).toNat (IntKind.bits .i64)))))) + (W (((a0.getD (1 : Int).toNat 0).toNat : Nat) : Int)))) ≤ (a0.length : Int) then
      (S_journal_frame m ((a0.take (W ((W ((6 : Int) + (W ((W (((a0.getD (0 : Int).toNat 0).toNat : Nat) : Int)) * 2 ^ (min (8 : Int).toNat (IntKind.bits .i64)))))) + (W (((a0.getD (1 : Int).toNat 0).toNat : Nat) : Int)))).toNat).drop (6 : Int).toNat)).bind fun v1 =>
      if (!(v1 == ((a0.take (W ((W ((6 : Int) + (W ((W (((a0.getD (0 : Int).toNat 0).toNat : Nat) : Int)) * 2 ^ (min (8 : Int).toNat (IntKind.bits .i64)))))) + (W (((a0.getD (1 : Int).toNat 0).toNat : Nat) : Int)))).toNat).drop 0))) = true then
        some ((G_QRecord.mk ([] : List UInt8) ([] : List UInt8) false), 0, 13)
      else
        (S_journal_parse m ((a0.take (W ((W ((6 : Int) + (W ((W (((a0.getD (0 : Int).toNat 0).toNat : Nat) : Int)) * 2 ^ (min (8 : Int).toNat (IntKind.bits .i64)))))) + (W (((a0.getD (1 : Int).toNat 0).toNat : Nat) : Int)))).toNat).drop (6 : Int).toNat)).bind fun v2 =>
        if (!v2.2) = true then
          some ((G_QRecord.mk ([] : List UInt8) ([] : List UInt8) false), 0, 3)
        else
          some ((G_QRecord.mk v2.1.f_Key v2.1.f_Value v2.1.f_Deleted), (W ((W ((6 : Int) + (W ((W (((a0.getD (0 : Int).toNat 0).toNat : Nat) : Int)) * 2 ^ (min (8 : Int).toNat (IntKind.bits .i64)))))) + (W (((a0.getD (1 : Int).toNat 0).toNat : Nat) : Int)))), 0)
      else none
      else none
    else none
    else none

theorem f17_start {a0 : List UInt8} {m : Option Nat} {o : G_QRecord × Int × Int} (h : S_journal_next m a0 = some o) : LWp Try.prog f17_lay 0 f17_c0 (FinK f17_res (PureEnd (.tup [.agg [.str o.1.f_Key, .str o.1.f_Value, .bool o.1.f_Deleted], .int .i64 o.2.1, .int .i64 o.2.2]))) (initEnv 0 [.str a0]) [] 0 := by
  unfold S_journal_next at h
  refine seqI ?_
  refine regI ?_
  refine seqI ?_
  refine seqI ?_
  refine regI ?_
  refine condI (v := (decide ((a0.length : Int) < 6))) rfl trivial (fun h1 => ?_) (fun h1 => ?_)
  · have h := ite_tt h1 h
    refine seqI ?_
    refine regI ?_
    refine LWp.sim (e := [(2, .ptr (0, 0) 0 0), (3, .int .i64 0), (4, .int .i64 0)]) (L := [((0, 0), .one [.str ([] : List UInt8), .str ([] : List UInt8), .bool false])]) (n := 1) (simI (M := [((0, 0), (0, 0))]) rfl (And.intro (Vw.ptr _ _ _ _ rfl) (And.intro (Vw.same _ rfl) (And.intro (Vw.same _ rfl) trivial))) (And.intro (And.intro rfl (BVw.oneL (And.intro (Vw.same _ rfl) (And.intro (Vw.same _ rfl) (And.intro (Vw.same _ rfl) trivial))))) trivial)) ?_
    refine retI ?_
    cases h
    exact And.intro (And.intro trivial (And.intro rfl (Nat.le_of_ble_eq_true rfl))) (And.intro trivial (And.intro trivial (And.intro rfl (Vw.tupL (And.intro (Vw.same _ rfl) (And.intro (Vw.same _ rfl) (And.intro (Vw.same _ rfl) trivial)))))))
  · have h := ite_ff h1 h
    refine skipI ?_
    refine seqI ?_
    refine quietI ?_
    obtain ⟨h2, h⟩ := ite_some h
    refine And.intro h2 ?_
    show yqs _ _ [(12, .int .u8 (((a0.getD (0 : Int).toNat 0).toNat : Nat) : Int)), (11, .str a0), (9, .bool (decide ((a0.length : Int) < 6))), (8, .int .i64 (a0.length : Int)), (7, .str a0), (4, .int .i64 0), (3, .int .i64 0), (2, .ptr (0, 0) 0 0), (0, .str a0)] _ _
    refine And.intro (by decide) ?_
    obtain ⟨h3, h⟩ := ite_some h
    refine And.intro h3 ?_
    show yqs _ _ [(17, .int .u8 (((a0.getD (1 : Int).toNat 0).toNat : Nat) : Int)), (16, .str a0), (15, .int .i64 (W ((6 : Int) + (W ((W (((a0.getD (0 : Int).toNat 0).toNat : Nat) : Int)) * 2 ^ (min (8 : Int).toNat (IntKind.bits .i64))))))), (14, .int .i64 (W ((W (((a0.getD (0 : Int).toNat 0).toNat : Nat) : Int)) * 2 ^ (min (8 : Int).toNat (IntKind.bits .i64))))), (13, .int .i64 (W (((a0.getD (0 : Int).toNat 0).toNat : Nat) : Int))), (12, .int .u8 (((a0.getD (0 : Int).toNat 0).toNat : Nat) : Int)), (11, .str a0), (9, .bool (decide ((a0.length : Int) < 6))), (8, .int .i64 (a0.length : Int)), (7, .str a0), (4, .int .i64 0), (3, .int .i64 0), (2, .ptr (0, 0) 0 0), (0, .str a0)] _ _
    refine LWp.sim (e := [(0, .str a0), (2, .ptr (0, 0) 0 0), (3, .int .i64 (W ((W ((6 : Int) + (W ((W (((a0.getD (0 : Int).toNat 0).toNat : Nat) : Int)) * 2 ^ (min (8 : Int).toNat (IntKind.bits .i64)))))) + (W (((a0.getD (1 : Int).toNat 0).toNat : Nat) : Int)))))]) (L := [((0, 0), .one [.str ([] : List UInt8), .str ([] : List UInt8), .bool false])]) (n := 1) (simI (M := [((0, 0), (0, 0))]) rfl (And.intro (Vw.same _ rfl) (And.intro (Vw.ptr _ _ _ _ rfl) (And.intro (Vw.same _ rfl) trivial))) (And.intro (And.intro rfl (BVw.oneL (And.intro (Vw.same _ rfl) (And.intro (Vw.same _ rfl) (And.intro (Vw.same _ rfl) trivial))))) trivial)) ?_
    refine seqI ?_
    refine seqI ?_
    refine regI ?_
    refine condI (v := (decide ((a0.length : Int) < (W ((W ((6 : Int) + (W ((W (((a0.getD (0 : Int).toNat 0).toNat : Nat) : Int)) * 2 ^ (min (8 : Int).toNat (IntKind.bits .i64)))))) + (W (((a0.getD (1 : Int).toNat 0).toNat : Nat) : Int))))))) rfl trivial (fun h4 => ?_) (fun h4 => ?_)
    · have h := ite_tt h4 h
      refine seqI ?_
      refine regI ?_
      refine LWp.sim (e := [(2, .ptr (0, 0) 0 0), (3, .int .i64 0), (4, .int .i64 0)]) (L := [((0, 0), .one [.str ([] : List UInt8), .str ([] : List UInt8), .bool false])]) (n := 1) (simI (M := [((0, 0), (0, 0))]) rfl (And.intro (Vw.ptr _ _ _ _ rfl) (And.intro (Vw.same _ rfl) (And.intro (Vw.same _ rfl) trivial))) (And.intro (And.intro rfl (BVw.oneL (And.intro (Vw.same _ rfl) (And.intro (Vw.same _ rfl) (And.intro (Vw.same _ rfl) trivial))))) trivial)) ?_
      refine retI ?_
      cases h
      exact And.intro (And.intro trivial (And.intro rfl (Nat.le_of_ble_eq_true rfl))) (And.intro trivial (And.intro trivial (And.intro rfl (Vw.tupL (And.intro (Vw.same _ rfl) (And.intro (Vw.same _ rfl) (And.intro (Vw.same _ rfl) trivial)))))))
    · have h := ite_ff h4 h
      refine skipI ?_
      refine seqI ?_
      refine regI ?_
      obtain ⟨h5, h⟩ := ite_some h
      refine And.intro h5 ?_
      show yops _ _ _ [(27, .str ((a0.take (W ((W ((6 : Int) + (W ((W (((a0.getD (0 : Int).toNat 0).toNat : Nat) : Int)) * 2 ^ (min (8 : Int).toNat (IntKind.bits .i64)))))) + (W (((a0.getD (1 : Int).toNat 0).toNat : Nat) : Int)))).toNat).drop (6 : Int).toNat)), (26, .int .i64 (W ((W ((6 : Int) + (W ((W (((a0.getD (0 : Int).toNat 0).toNat : Nat) : Int)) * 2 ^ (min (8 : Int).toNat (IntKind.bits .i64)))))) + (W (((a0.getD (1 : Int).toNat 0).toNat : Nat) : Int))))), (25, .str a0), (23, .bool (decide ((a0.length : Int) < (W ((W ((6 : Int) + (W ((W (((a0.getD (0 : Int).toNat 0).toNat : Nat) : Int)) * 2 ^ (min (8 : Int).toNat (IntKind.bits .i64)))))) + (W (((a0.getD (1 : Int).toNat 0).toNat : Nat) : Int))))))), (22, .int .i64 (W ((W ((6 : Int) + (W ((W (((a0.getD (0 : Int).toNat 0).toNat : Nat) : Int)) * 2 ^ (min (8 : Int).toNat (IntKind.bits .i64)))))) + (W (((a0.getD (1 : Int).toNat 0).toNat : Nat) : Int))))), (21, .int .i64 (a0.length : Int)), (20, .str a0), (0, .str a0), (2, .ptr (0, 0) 0 0), (3, .int .i64 (W ((W ((6 : Int) + (W ((W (((a0.getD (0 : Int).toNat 0).toNat : Nat) : Int)) * 2 ^ (min (8 : Int).toNat (IntKind.bits .i64)))))) + (W (((a0.getD (1 : Int).toNat 0).toNat : Nat) : Int)))))] _ _
      refine LWp.sim (e := [(0, .str a0), (2, .ptr (0, 0) 0 0), (3, .int .i64 (W ((W ((6 : Int) + (W ((W (((a0.getD (0 : Int).toNat 0).toNat : Nat) : Int)) * 2 ^ (min (8 : Int).toNat (IntKind.bits .i64)))))) + (W (((a0.getD (1 : Int).toNat 0).toNat : Nat) : Int))))), (5, .str ((a0.take (W ((W ((6 : Int) + (W ((W (((a0.getD (0 : Int).toNat 0).toNat : Nat) : Int)) * 2 ^ (min (8 : Int).toNat (IntKind.bits .i64)))))) + (W (((a0.getD (1 : Int).toNat 0).toNat : Nat) : Int)))).toNat).drop (6 : Int).toNat))]) (L := [((0, 0), .one [.str ([] : List UInt8), .str ([] : List UInt8), .bool false])]) (n := 1) (simI (M := [((0, 0), (0, 0))]) rfl (And.intro (Vw.same _ rfl) (And.intro (Vw.ptr _ _ _ _ rfl) (And.intro (Vw.same _ rfl) (And.intro (Vw.same _ rfl) trivial)))) (And.intro (And.intro rfl (BVw.oneL (And.intro (Vw.same _ rfl) (And.intro (Vw.same _ rfl) (And.intro (Vw.same _ rfl) trivial))))) trivial)) ?_
      refine seqI ?_
      refine seqI ?_
      refine drawI ?_
      obtain ⟨h6, h⟩ := ite_some h
      refine And.intro (And.intro (Int.le_refl _) h6) ?_
      obtain ⟨v1, h7, h⟩ := bind_some h
      refine PFn.call (f13_ok h7) (And.intro (Vw.same _ rfl) trivial) ?_
      refine condI (v := (!(v1 == ((a0.take (W ((W ((6 : Int) + (W ((W (((a0.getD (0 : Int).toNat 0).toNat : Nat) : Int)) * 2 ^ (min (8 : Int).toNat (IntKind.bits .i64)))))) + (W (((a0.getD (1 : Int).toNat 0).toNat : Nat) : Int)))).toNat).drop 0)))) rfl trivial (fun h8 => ?_) (fun h8 => ?_)
      · have h := ite_tt h8 h
        refine seqI ?_
        refine regI ?_
        refine LWp.sim (e := [(2, .ptr (0, 0) 0 0), (3, .int .i64 0), (4, .int .i64 13)]) (L := [((0, 0), .one [.str ([] : List UInt8), .str ([] : List UInt8), .bool false])]) (n := 1) (simI (M := [((0, 0), (0, 0))]) rfl (And.intro (Vw.ptr _ _ _ _ rfl) (And.intro (Vw.same _ rfl) (And.intro (Vw.same _ rfl) trivial))) (And.intro (And.intro rfl (BVw.oneL (And.intro (Vw.same _ rfl) (And.intro (Vw.same _ rfl) (And.intro (Vw.same _ rfl) trivial))))) trivial)) ?_
        refine retI ?_
        cases h
        exact And.intro (And.intro trivial (And.intro rfl (Nat.le_of_ble_eq_true rfl))) (And.intro trivial (And.intro trivial (And.intro rfl (Vw.tupL (And.intro (Vw.same _ rfl) (And.intro (Vw.same _ rfl) (And.intro (Vw.same _ rfl) trivial)))))))
      · have h := ite_ff h8 h
        refine skipI ?_
        refine seqI ?_
        refine regI ?_
        obtain ⟨v2, h9, h⟩ := bind_some h
        refine PFn.call (f18_ok h9) (And.intro (Vw.same _ rfl) trivial) ?_
        show yops _ _ _ [(37, .tup [.agg [.str v2.1.f_Key, .str v2.1.f_Value, .bool v2.1.f_Deleted], .bool v2.2]), (36, .str ((a0.take (W ((W ((6 : Int) + (W ((W (((a0.getD (0 : Int).toNat 0).toNat : Nat) : Int)) * 2 ^ (min (8 : Int).toNat (IntKind.bits .i64)))))) + (W (((a0.getD (1 : Int).toNat 0).toNat : Nat) : Int)))).toNat).drop (6 : Int).toNat)), (33, .bool (!(v1 == ((a0.take (W ((W ((6 : Int) + (W ((W (((a0.getD (0 : Int).toNat 0).toNat : Nat) : Int)) * 2 ^ (min (8 : Int).toNat (IntKind.bits .i64)))))) + (W (((a0.getD (1 : Int).toNat 0).toNat : Nat) : Int)))).toNat).drop 0)))), (29, .str v1), (32, .str ((a0.take (W ((W ((6 : Int) + (W ((W (((a0.getD (0 : Int).toNat 0).toNat : Nat) : Int)) * 2 ^ (min (8 : Int).toNat (IntKind.bits .i64)))))) + (W (((a0.getD (1 : Int).toNat 0).toNat : Nat) : Int)))).toNat).drop 0)), (31, .int .i64 (W ((W ((6 : Int) + (W ((W (((a0.getD (0 : Int).toNat 0).toNat : Nat) : Int)) * 2 ^ (min (8 : Int).toNat (IntKind.bits .i64)))))) + (W (((a0.getD (1 : Int).toNat 0).toNat : Nat) : Int))))), (30, .str a0), (28, .str ((a0.take (W ((W ((6 : Int) + (W ((W (((a0.getD (0 : Int).toNat 0).toNat : Nat) : Int)) * 2 ^ (min (8 : Int).toNat (IntKind.bits .i64)))))) + (W (((a0.getD (1 : Int).toNat 0).toNat : Nat) : Int)))).toNat).drop (6 : Int).toNat)), (0, .str a0), (2, .ptr (0, 0) 0 0), (3, .int .i64 (W ((W ((6 : Int) + (W ((W (((a0.getD (0 : Int).toNat 0).toNat : Nat) : Int)) * 2 ^ (min (8 : Int).toNat (IntKind.bits .i64)))))) + (W (((a0.getD (1 : Int).toNat 0).toNat : Nat) : Int))))), (5, .str ((a0.take (W ((W ((6 : Int) + (W ((W (((a0.getD (0 : Int).toNat 0).toNat : Nat) : Int)) * 2 ^ (min (8 : Int).toNat (IntKind.bits .i64)))))) + (W (((a0.getD (1 : Int).toNat 0).toNat : Nat) : Int)))).toNat).drop (6 : Int).toNat))] _ _
        refine LWp.sim (e := [(2, .ptr (0, 0) 0 0), (3, .int .i64 (W ((W ((6 : Int) + (W ((W (((a0.getD (0 : Int).toNat 0).toNat : Nat) : Int)) * 2 ^ (min (8 : Int).toNat (IntKind.bits .i64)))))) + (W (((a0.getD (1 : Int).toNat 0).toNat : Nat) : Int))))), (6, .bool v2.2)]) (L := [((0, 0), .one [.str v2.1.f_Key, .str v2.1.f_Value, .bool v2.1.f_Deleted])]) (n := 1) (simI (M := [((0, 0), (0, 0))]) rfl (And.intro (Vw.ptr _ _ _ _ rfl) (And.intro (Vw.same _ rfl) (And.intro (Vw.same _ rfl) trivial))) (And.intro (And.intro rfl (BVw.oneL (And.intro (Vw.same _ rfl) (And.intro (Vw.same _ rfl) (And.intro (Vw.same _ rfl) trivial))))) trivial)) ?_
        refine seqI ?_
        refine seqI ?_
        refine regI ?_
        refine condI (v := (!v2.2)) rfl trivial (fun h10 => ?_) (fun h10 => ?_)
        · have h := ite_tt h10 h
          refine seqI ?_
          refine regI ?_
          refine retI ?_
          cases h
          exact And.intro (And.intro trivial (And.intro rfl (Nat.le_of_ble_eq_true rfl))) (And.intro trivial (And.intro trivial (And.intro rfl (Vw.tupL (And.intro (Vw.same _ rfl) (And.intro (Vw.same _ rfl) (And.intro (Vw.same _ rfl) trivial)))))))
        · have h := ite_ff h10 h
          refine skipI ?_
          refine seqI ?_
          refine regI ?_
          refine retI ?_
          cases h
          exact And.intro (And.intro trivial (And.intro rfl (Nat.le_of_ble_eq_true rfl))) (And.intro trivial (And.intro trivial (And.intro rfl (Vw.tupL (And.intro (Vw.same _ rfl) (And.intro (Vw.same _ rfl) (And.intro (Vw.same _ rfl) trivial)))))))

theorem f17_ok {a0 : List UInt8} {m : Option Nat} {o : G_QRecord × Int × Int} (h : S_journal_next m a0 = some o) : PFn Try.prog 17 [.str a0] (.tup [.agg [.str o.1.f_Key, .str o.1.f_Value, .bool o.1.f_Deleted], .int .i64 o.2.1, .int .i64 o.2.2]) := PFn.ofFnW (L := f17_L) f17_low f17_fok (Nat.le_of_ble_eq_true rfl) rfl (f17_start h)

def f16_L1_env (a0 : List UInt8) (s : ((List G_QRecord) × Int)) : Env := [(0, .str a0), (2, .osl (0, 0) 3 (s.1.map e_QRecord)), (3, .int .i64 s.2)]
def f16_L1_hp (a0 : List UInt8) (s : ((List G_QRecord) × Int)) : AHeap := [((0, 0), .tok)]
def f16_L1_Q (o : (List G_QRecord) × Int × Int) : Exit → Env → AHeap → Nat → Prop := (QBlock 0 (FinK f16_res (PureEnd (.tup [.isl 3 (o.1.map e_QRecord) false, .int .i64 o.2.1, .int .i64 o.2.2]))))

noncomputable def S_journal_scan_b1 (m : Option Nat) (a0 : List UInt8) (v2 : List G_QRecord) (v3 : Int) : Option (((List G_QRecord) × Int) ⊕ ((List G_QRecord) × Int × Int)) :=
  if (0 : Int) ≤ v3 ∧ v3 ≤ (a0.length : Int) then
  (S_journal_next m ((a0.take a0.length).drop v3.toNat)).bind fun v5 =>
  if (v5.2.1 == 0) = true then
    Option.map Sum.inr (
      some (v2, v3, v5.2.2))
  else
    if ((v2 ++ ([(G_QRecord.mk v5.1.f_Key v5.1.f_Value v5.1.f_Deleted)] : List G_QRecord)).map e_QRecord).length * 40 ≤ 140737488355328 then
    some (.inl ((v2 ++ ([(G_QRecord.mk v5.1.f_Key v5.1.f_Value v5.1.f_Deleted)] : List G_QRecord)), (W (v3 + v5.2.1))))
    else none
  else none

noncomputable def S_journal_scan_l1 (m : Option Nat) (a0 : List UInt8) (v2 : List G_QRecord) (v3 : Int) : Option ((List G_QRecord) × Int × Int) := loopM m (fun (s : ((List G_QRecord) × Int)) => S_journal_scan_b1 m a0 s.1 s.2) (v2, v3)

theorem f16_L1_bok {a0 : List UInt8} {v2 : List G_QRecord} {v3 : Int} {m : Option Nat} {o : ((List G_QRecord) × Int) ⊕ ((List G_QRecord) × Int × Int)} (h : S_journal_scan_b1 m a0 v2 v3 = some o) :
    LWp Try.prog f16_lay 0 f16_c0 (BodyQ 0 1 (f16_L1_env a0) (f16_L1_hp a0) (f16_L1_Q) o) [(0, .str a0), (2, .osl (0, 0) 3 (v2.map e_QRecord)), (3, .int .i64 v3)] [((0, 0), .tok)] 1 := by
  unfold S_journal_scan_b1 at h
  refine blockI ?_
  refine seqI ?_
  refine regI ?_
  obtain ⟨h8, h⟩ := ite_some h
  refine And.intro (And.intro (And.left h8) (And.intro (And.right h8) (Int.le_refl _))) ?_
  obtain ⟨v5, h9, h⟩ := bind_some h
  refine PFn.call (f17_ok h9) (And.intro (Vw.same _ rfl) trivial) ?_
  refine LWp.sim (e := [(0, .str a0), (2, .osl (0, 0) 3 (v2.map e_QRecord)), (3, .int .i64 v3), (5, .ptr (1, 0) 0 0), (6, .int .i64 v5.2.1), (7, .int .i64 v5.2.2)]) (L := [((0, 0), .tok), ((1, 0), .one [.str v5.1.f_Key, .str v5.1.f_Value, .bool v5.1.f_Deleted])]) (n := 2) (simI (M := [((0, 0), (0, 0)), ((1, 0), (1, 0))]) rfl (And.intro (Vw.same _ rfl) (And.intro (Vw.osl _ _ _ _ rfl) (And.intro (Vw.same _ rfl) (And.intro (Vw.ptr _ _ _ _ rfl) (And.intro (Vw.same _ rfl) (And.intro (Vw.same _ rfl) trivial)))))) (And.intro (And.intro rfl BVw.tok) (And.intro (And.intro rfl (BVw.oneL (And.intro (Vw.same _ rfl) (And.intro (Vw.same _ rfl) (And.intro (Vw.same _ rfl) trivial))))) trivial))) ?_
  refine seqI ?_
  refine seqI ?_
  refine regI ?_
  refine condI (v := (v5.2.1 == 0)) rfl trivial (fun h10 => ?_) (fun h10 => ?_)
  · have h := ite_tt h10 h
    refine seqI ?_
    refine regI ?_
    refine LWp.sim (e := [(2, .osl (0, 0) 3 (v2.map e_QRecord)), (3, .int .i64 v3), (4, .int .i64 v5.2.2)]) (L := [((0, 0), .tok)]) (n := 1) (simI (M := [((0, 0), (0, 0))]) rfl (And.intro (Vw.osl _ _ _ _ rfl) (And.intro (Vw.same _ rfl) (And.intro (Vw.same _ rfl) trivial))) (And.intro (And.intro rfl BVw.tok) trivial)) ?_
    refine retI ?_
    obtain ⟨o, hq, rfl⟩ := Option.map_eq_some_iff.1 h
    replace h := hq; clear hq
    refine And.intro nofun ?_
    cases h
    exact And.intro trivial (And.intro trivial (And.intro trivial (And.intro rfl (Vw.tupL (And.intro (Vw.oslI _ _ _) (And.intro (Vw.same _ rfl) (And.intro (Vw.same _ rfl) trivial)))))))
  · have h := ite_ff h10 h
    refine skipI ?_
    refine seqI ?_
    refine regI ?_
    obtain ⟨h11, h⟩ := ite_some h
    refine Exists.intro ((v2 ++ ([(G_QRecord.mk v5.1.f_Key v5.1.f_Value v5.1.f_Deleted)] : List G_QRecord)).map e_QRecord) (And.intro (app_enc e_QRecord _ ([(G_QRecord.mk v5.1.f_Key v5.1.f_Value v5.1.f_Deleted)] : List G_QRecord)) (And.intro h11 ?_))
    refine regI ?_
    cases h
    exact And.intro rfl (simI (M := [((0, 0), (2, 0))]) rfl (And.intro (Vw.same _ rfl) (And.intro (Vw.osl _ _ _ _ rfl) (And.intro (Vw.same _ rfl) trivial))) (And.intro (And.intro rfl BVw.tok) trivial))

theorem f16_L1_ok {a0 : List UInt8} {v2 : List G_QRecord} {v3 : Int} {m : Option Nat} {o : (List G_QRecord) × Int × Int} (h : S_journal_scan_l1 m a0 v2 v3 = some o) :
    LWp Try.prog f16_lay 0 (.loop f16_c0) (QBlock 0 (FinK f16_res (PureEnd (.tup [.isl 3 (o.1.map e_QRecord) false, .int .i64 o.2.1, .int .i64 o.2.2])))) [(0, .str a0), (2, .osl (0, 0) 3 (v2.map e_QRecord)), (3, .int .i64 v3)] [((0, 0), .tok)] 1 :=
  LWp_loopM (m := m) (s := ((v2, v3) : ((List G_QRecord) × Int))) (r := o) (fun (s : ((List G_QRecord) × Int)) => S_journal_scan_b1 m a0 s.1 s.2) (f16_L1_env a0) (f16_L1_hp a0) (f16_L1_Q) (fun s o h => f16_L1_bok h) h

noncomputable def S_journal_scan (m : Option Nat) (a0 : List UInt8) : Option ((List G_QRecord) × Int × Int) :=
  S_journal_scan_l1 m a0 [] 0

theorem f16_start {a0 : List UInt8} {m : Option Nat} {o : (List G_QRecord) × Int × Int} (h : S_journal_scan m a0 = some o) : LWp Try.prog f16_lay 0 f16_c1 (FinK f16_res (PureEnd (.tup [.isl 3 (o.1.map e_QRecord) false, .int .i64 o.2.1, .int .i64 o.2.2]))) (initEnv 0 [.str a0]) [] 0 := by
  unfold S_journal_scan at h
  refine seqI ?_
  refine regI ?_
  refine blockI ?_
  refine LWp.sim ?_ (f16_L1_ok h)
  exact simI (M := []) rfl (And.intro (Vw.same _ rfl) (And.intro (Vw.nilO _ _ (by decide)) (And.intro (Vw.same _ rfl) trivial))) (And.intro (And.intro rfl (And.intro (Nat.zero_le _) (by decide))) trivial)

theorem f16_ok {a0 : List UInt8} {m : Option Nat} {o : (List G_QRecord) × Int × Int} (h : S_journal_scan m a0 = some o) : PFn Try.prog 16 [.str a0] (.tup [.isl 3 (o.1.map e_QRecord) false, .int .i64 o.2.1, .int .i64 o.2.2]) := PFn.ofFnW (L := f16_L) f16_low f16_fok (Nat.le_of_ble_eq_true rfl) rfl (f16_start h)

noncomputable def S_journal_Read (m : Option Nat) (a0 : List UInt8) : Option ((List G_QRecord) × Int × Int) :=
  if (decide ((a0.length : Int) > 40000)) = true then
    some ([], 0, 2)
  else
    (S_journal_scan m a0).bind fun v1 =>
    if (v1.2.2 != 0) = true then
      some ([], 0, v1.2.2)
    else
      some (v1.1, v1.2.1, 0)

theorem f10_start {a0 : List UInt8} {m : Option Nat} {o : (List G_QRecord) × Int × Int} (h : S_journal_Read m a0 = some o) : LWp Try.prog f10_lay 0 f10_c0 (FinK f10_res (PureEnd (.tup [.isl 3 (o.1.map e_QRecord) false, .int .i64 o.2.1, .int .i64 o.2.2]))) (initEnv 0 [.str a0]) [] 0 := by
  unfold S_journal_Read at h
  refine seqI ?_
  refine regI ?_
  refine seqI ?_
  refine seqI ?_
  refine regI ?_
  refine condI (v := (decide ((a0.length : Int) > 40000))) rfl trivial (fun h1 => ?_) (fun h1 => ?_)
  · have h := ite_tt h1 h
    refine seqI ?_
    refine regI ?_
    refine LWp.sim (e := [(2, .val (.slice none 0 0)), (3, .int .i64 0), (4, .int .i64 2)]) (L := []) (n := 0) (simI (M := []) rfl (And.intro (Vw.same _ rfl) (And.intro (Vw.same _ rfl) (And.intro (Vw.same _ rfl) trivial))) trivial) ?_
    refine retI ?_
    cases h
    exact And.intro trivial (And.intro trivial (And.intro trivial (And.intro rfl (Vw.tupL (And.intro (Vw.nilI _ _) (And.intro (Vw.same _ rfl) (And.intro (Vw.same _ rfl) trivial)))))))
  · have h := ite_ff h1 h
    refine skipI ?_
    refine seqI ?_
    refine regI ?_
    obtain ⟨v1, h2, h⟩ := bind_some h
    refine PFn.call (f16_ok h2) (And.intro (Vw.same _ rfl) trivial) ?_
    show yops _ _ _ [(13, .tup [.isl 3 (v1.1.map e_QRecord) false, .int .i64 v1.2.1, .int .i64 v1.2.2]), (12, .str a0), (10, .bool (decide ((a0.length : Int) > 40000))), (9, .int .i64 (a0.length : Int)), (8, .str a0), (4, .int .i64 0), (3, .int .i64 0), (2, .val (.slice none 0 0)), (0, .str a0)] _ _
    refine LWp.sim (e := [(5, .isl 3 (v1.1.map e_QRecord) false), (6, .int .i64 v1.2.1), (7, .int .i64 v1.2.2)]) (L := []) (n := 0) (simI (M := []) rfl (And.intro (Vw.same _ rfl) (And.intro (Vw.same _ rfl) (And.intro (Vw.same _ rfl) trivial))) trivial) ?_
    refine seqI ?_
    refine seqI ?_
    refine regI ?_
    refine condI (v := (v1.2.2 != 0)) rfl trivial (fun h3 => ?_) (fun h3 => ?_)
    · have h := ite_tt h3 h
      refine seqI ?_
      refine regI ?_
      refine retI ?_
      cases h
      exact And.intro trivial (And.intro trivial (And.intro trivial (And.intro rfl (Vw.tupL (And.intro (Vw.nilI _ _) (And.intro (Vw.same _ rfl) (And.intro (Vw.same _ rfl) trivial)))))))
    · have h := ite_ff h3 h
      refine skipI ?_
      refine seqI ?_
      refine regI ?_
      refine retI ?_
      cases h
      exact And.intro trivial (And.intro trivial (And.intro trivial (And.intro rfl (Vw.same _ rfl))))

theorem f10_ok {a0 : List UInt8} {m : Option Nat} {o : (List G_QRecord) × Int × Int} (h : S_journal_Read m a0 = some o) : PFn Try.prog 10 [.str a0] (.tup [.isl 3 (o.1.map e_QRecord) false, .int .i64 o.2.1, .int .i64 o.2.2]) := PFn.ofFnW (L := f10_L) f10_low f10_fok (Nat.le_of_ble_eq_true rfl) rfl (f10_start h)

noncomputable def S_glossatorlaw3_journalExample (m : Option Nat) : Option Bool :=
  (S_journal_Append m ([] : List UInt8) (G_QRecord.mk ([107] : List UInt8) ([118] : List UInt8) false)).bind fun v1 =>
  if (((v1.1.length + ([0] : List UInt8).length : Nat) : Int) ≤ 9223372036854775807) then
  (S_journal_Read m (v1.1 ++ ([0] : List UInt8))).bind fun v2 =>
  (S_journal_Checksum m ([97] : List UInt8)).bind fun v3 =>
  (if ((((((v3 == 3826002220) && (v1.2 == 0)) && ((v1.1.length : Int) == 10)) && (v2.2.2 == 0)) && (v2.2.1 == 10)) == true) = true then S_glossatorref3_Equal_api_QRecord m v2.1 ([(G_QRecord.mk ([107] : List UInt8) ([118] : List UInt8) false)] : List G_QRecord) else some default).bind fun v4 =>
  some ((((((v3 == 3826002220) && (v1.2 == 0)) && ((v1.1.length : Int) == 10)) && (v2.2.2 == 0)) && (v2.2.1 == 10)) && v4)
  else none

theorem f4_start {m : Option Nat} {o : Bool} (h : S_glossatorlaw3_journalExample m = some o) : LWp Try.prog f4_lay 0 f4_c0 (FinK f4_res (PureEnd (.bool o))) (initEnv 0 []) [] 0 := by
  unfold S_glossatorlaw3_journalExample at h
  refine seqI ?_
  refine regI ?_
  refine seqI ?_
  refine regI ?_
  obtain ⟨v1, h1, h⟩ := bind_some h
  refine PFn.call (f5_ok h1) (And.intro (Vw.same _ rfl) (And.intro (Vw.same _ rfl) trivial)) ?_
  refine LWp.sim (e := [(1, .str v1.1), (2, .int .i64 v1.2)]) (L := []) (n := 0) (simI (M := []) rfl (And.intro (Vw.same _ rfl) (And.intro (Vw.same _ rfl) trivial)) trivial) ?_
  refine seqI ?_
  refine regI ?_
  obtain ⟨h2, h⟩ := ite_some h
  refine And.intro h2 ?_
  obtain ⟨v2, h3, h⟩ := bind_some h
  refine PFn.call (f10_ok h3) (And.intro (Vw.same _ rfl) trivial) ?_
  refine LWp.sim (e := [(1, .str v1.1), (2, .int .i64 v1.2), (3, .isl 3 (v2.1.map e_QRecord) false), (4, .int .i64 v2.2.1), (5, .int .i64 v2.2.2)]) (L := []) (n := 0) (simI (M := []) rfl (And.intro (Vw.same _ rfl) (And.intro (Vw.same _ rfl) (And.intro (Vw.same _ rfl) (And.intro (Vw.same _ rfl) (And.intro (Vw.same _ rfl) trivial))))) trivial) ?_
  refine seqI ?_
  refine regI ?_
  obtain ⟨v3, h4, h⟩ := bind_some h
  refine PFn.call (f8_ok h4) (And.intro (Vw.same _ rfl) trivial) ?_
  refine And.intro (fun hp => hp) ?_
  show yops _ _ _ [(22, .cnd ((v3 == 3826002220) == true) (.bool (v1.2 == 0))), (21, .cnd ((v3 == 3826002220) == true) (.int .i64 v1.2)), (20, .bool (v3 == 3826002220)), (19, .bool (v3 == 3826002220)), (18, .int .u32 v3), (1, .str v1.1), (2, .int .i64 v1.2), (3, .isl 3 (v2.1.map e_QRecord) false), (4, .int .i64 v2.2.1), (5, .int .i64 v2.2.2)] _ _
  refine And.intro (fun hc => (bqt hc)) ?_
  refine And.intro (fun hp => hp) ?_
  refine And.intro (fun hp => hp) ?_
  show yops _ _ _ [(27, .cnd (((v3 == 3826002220) && (v1.2 == 0)) == true) (.bool ((v1.1.length : Int) == 10))), (26, .cnd (((v3 == 3826002220) && (v1.2 == 0)) == true) (.int .i64 (v1.1.length : Int))), (25, .cnd (((v3 == 3826002220) && (v1.2 == 0)) == true) (.str v1.1)), (24, .bool ((v3 == 3826002220) && (v1.2 == 0))), (23, .bool ((v3 == 3826002220) && (v1.2 == 0))), (22, .cnd ((v3 == 3826002220) == true) (.bool (v1.2 == 0))), (21, .cnd ((v3 == 3826002220) == true) (.int .i64 v1.2)), (20, .bool (v3 == 3826002220)), (19, .bool (v3 == 3826002220)), (18, .int .u32 v3), (1, .str v1.1), (2, .int .i64 v1.2), (3, .isl 3 (v2.1.map e_QRecord) false), (4, .int .i64 v2.2.1), (5, .int .i64 v2.2.2)] _ _
  refine And.intro (fun hc => (bqt hc)) ?_
  refine And.intro (fun hp => hp) ?_
  refine And.intro (fun hc => (bqt hc)) ?_
  show yops _ _ _ [(32, .bool ((((v3 == 3826002220) && (v1.2 == 0)) && ((v1.1.length : Int) == 10)) && (v2.2.2 == 0))), (31, .cnd ((((v3 == 3826002220) && (v1.2 == 0)) && ((v1.1.length : Int) == 10)) == true) (.bool (v2.2.2 == 0))), (30, .cnd ((((v3 == 3826002220) && (v1.2 == 0)) && ((v1.1.length : Int) == 10)) == true) (.int .i64 v2.2.2)), (29, .bool (((v3 == 3826002220) && (v1.2 == 0)) && ((v1.1.length : Int) == 10))), (28, .bool (((v3 == 3826002220) && (v1.2 == 0)) && ((v1.1.length : Int) == 10))), (27, .cnd (((v3 == 3826002220) && (v1.2 == 0)) == true) (.bool ((v1.1.length : Int) == 10))), (26, .cnd (((v3 == 3826002220) && (v1.2 == 0)) == true) (.int .i64 (v1.1.length : Int))), (25, .cnd (((v3 == 3826002220) && (v1.2 == 0)) == true) (.str v1.1)), (24, .bool ((v3 == 3826002220) && (v1.2 == 0))), (23, .bool ((v3 == 3826002220) && (v1.2 == 0))), (22, .cnd ((v3 == 3826002220) == true) (.bool (v1.2 == 0))), (21, .cnd ((v3 == 3826002220) == true) (.int .i64 v1.2)), (20, .bool (v3 == 3826002220)), (19, .bool (v3 == 3826002220)), (18, .int .u32 v3), (1, .str v1.1), (2, .int .i64 v1.2), (3, .isl 3 (v2.1.map e_QRecord) false), (4, .int .i64 v2.2.1), (5, .int .i64 v2.2.2)] _ _
  refine And.intro (fun hp => hp) ?_
  refine And.intro (fun hc => (bqt hc)) ?_
  refine Or.inl (Exists.intro (.isl 3 (([(G_QRecord.mk ([107] : List UInt8) ([118] : List UInt8) false)] : List G_QRecord).map e_QRecord) true) (And.intro (fun hp => And.intro hp (And.intro rfl (And.intro rfl rfl))) ?_))
  obtain ⟨v4, h5, h⟩ := bind_some h
  refine Or.inl (Exists.intro (.bool v4) (And.intro (fun hp => And.intro (And.intro hp hp) (PFn.call (f11_ok (ite_tt hp h5)) (And.intro (Vw.same _ rfl) (And.intro (Vw.islF _ _ _) trivial)) (And.intro rfl (And.intro rfl rfl)))) ?_))
  refine And.intro (fun hc => (bqt hc)) ?_
  show yops _ _ _ [(42, .bool ((((((v3 == 3826002220) && (v1.2 == 0)) && ((v1.1.length : Int) == 10)) && (v2.2.2 == 0)) && (v2.2.1 == 10)) && v4)), (41, .cnd ((((((v3 == 3826002220) && (v1.2 == 0)) && ((v1.1.length : Int) == 10)) && (v2.2.2 == 0)) && (v2.2.1 == 10)) == true) (.bool v4)), (40, .cnd ((((((v3 == 3826002220) && (v1.2 == 0)) && ((v1.1.length : Int) == 10)) && (v2.2.2 == 0)) && (v2.2.1 == 10)) == true) (.isl 3 (([(G_QRecord.mk ([107] : List UInt8) ([118] : List UInt8) false)] : List G_QRecord).map e_QRecord) true)), (39, .cnd ((((((v3 == 3826002220) && (v1.2 == 0)) && ((v1.1.length : Int) == 10)) && (v2.2.2 == 0)) && (v2.2.1 == 10)) == true) (.agg [.str ([107] : List UInt8), .str ([118] : List UInt8), .bool false])), (38, .cnd ((((((v3 == 3826002220) && (v1.2 == 0)) && ((v1.1.length : Int) == 10)) && (v2.2.2 == 0)) && (v2.2.1 == 10)) == true) (.isl 3 (v2.1.map e_QRecord) false)), (37, .bool (((((v3 == 3826002220) && (v1.2 == 0)) && ((v1.1.length : Int) == 10)) && (v2.2.2 == 0)) && (v2.2.1 == 10))), (36, .bool (((((v3 == 3826002220) && (v1.2 == 0)) && ((v1.1.length : Int) == 10)) && (v2.2.2 == 0)) && (v2.2.1 == 10))), (35, .cnd (((((v3 == 3826002220) && (v1.2 == 0)) && ((v1.1.length : Int) == 10)) && (v2.2.2 == 0)) == true) (.bool (v2.2.1 == 10))), (34, .cnd (((((v3 == 3826002220) && (v1.2 == 0)) && ((v1.1.length : Int) == 10)) && (v2.2.2 == 0)) == true) (.int .i64 v2.2.1)), (33, .bool ((((v3 == 3826002220) && (v1.2 == 0)) && ((v1.1.length : Int) == 10)) && (v2.2.2 == 0))), (32, .bool ((((v3 == 3826002220) && (v1.2 == 0)) && ((v1.1.length : Int) == 10)) && (v2.2.2 == 0))), (31, .cnd ((((v3 == 3826002220) && (v1.2 == 0)) && ((v1.1.length : Int) == 10)) == true) (.bool (v2.2.2 == 0))), (30, .cnd ((((v3 == 3826002220) && (v1.2 == 0)) && ((v1.1.length : Int) == 10)) == true) (.int .i64 v2.2.2)), (29, .bool (((v3 == 3826002220) && (v1.2 == 0)) && ((v1.1.length : Int) == 10))), (28, .bool (((v3 == 3826002220) && (v1.2 == 0)) && ((v1.1.length : Int) == 10))), (27, .cnd (((v3 == 3826002220) && (v1.2 == 0)) == true) (.bool ((v1.1.length : Int) == 10))), (26, .cnd (((v3 == 3826002220) && (v1.2 == 0)) == true) (.int .i64 (v1.1.length : Int))), (25, .cnd (((v3 == 3826002220) && (v1.2 == 0)) == true) (.str v1.1)), (24, .bool ((v3 == 3826002220) && (v1.2 == 0))), (23, .bool ((v3 == 3826002220) && (v1.2 == 0))), (22, .cnd ((v3 == 3826002220) == true) (.bool (v1.2 == 0))), (21, .cnd ((v3 == 3826002220) == true) (.int .i64 v1.2)), (20, .bool (v3 == 3826002220)), (19, .bool (v3 == 3826002220)), (18, .int .u32 v3), (1, .str v1.1), (2, .int .i64 v1.2), (3, .isl 3 (v2.1.map e_QRecord) false), (4, .int .i64 v2.2.1), (5, .int .i64 v2.2.2)] _ _
  refine LWp.sim (e := [(0, .bool ((((((v3 == 3826002220) && (v1.2 == 0)) && ((v1.1.length : Int) == 10)) && (v2.2.2 == 0)) && (v2.2.1 == 10)) && v4))]) (L := []) (n := 0) (simI (M := []) rfl (And.intro (Vw.same _ rfl) trivial) trivial) ?_
  refine retI ?_
  cases h
  exact And.intro trivial (And.intro rfl ((Vw.same _ rfl)))

theorem f4_ok {m : Option Nat} {o : Bool} (h : S_glossatorlaw3_journalExample m = some o) : PFn Try.prog 4 [] (.bool o) := PFn.ofFnW (L := f4_L) f4_low f4_fok (Nat.le_of_ble_eq_true rfl) rfl (f4_start h)

noncomputable def S_glossatorlaw3_JournalAppend_j1 (m : Option Nat) (a0 : List UInt8) (v2 : (List UInt8) × Int) (v5 : Int) (v6 : List UInt8) : Option Bool :=
  (S_glossatorlaw3_journalExample (some 4096)).bind fun v7 =>
  (if (((v7 && (v2.2 == v5)) && (v2.1 == v6)) == true) = true then S_journal_Checksum m a0 else some default).bind fun v8 =>
  (if (((v7 && (v2.2 == v5)) && (v2.1 == v6)) == true) = true then S_glossatorref3_Checksum m a0 else some default).bind fun v9 =>
  some (((v7 && (v2.2 == v5)) && (v2.1 == v6)) && (v8 == v9))

theorem f3_j1_ok {a0 : List UInt8} {v2 : (List UInt8) × Int} {v5 : Int} {v6 : List UInt8} {m : Option Nat} {o : Bool} (h : S_glossatorlaw3_JournalAppend_j1 m a0 v2 v5 v6 = some o) :
    LWp Try.prog f3_lay 0 f3_c0 (FinK f3_res (PureEnd (.bool o))) [(0, .str a0), (5, .str v2.1), (6, .int .i64 v2.2), (7, .int .i64 v5), (8, .str v6)] [] 0 := by
  unfold S_glossatorlaw3_JournalAppend_j1 at h
  refine seqI ?_
  refine regI ?_
  obtain ⟨v7, h9, h⟩ := bind_some h
  refine PFn.call (f4_ok h9) trivial ?_
  refine And.intro (fun hp => (And.intro hp hp)) ?_
  show yops _ _ _ [(32, .cnd (v7 == true) (.bool (v2.2 == v5))), (31, .cnd (v7 == true) (.int .i64 v5)), (30, .cnd (v7 == true) (.int .i64 v2.2)), (29, .bool v7), (28, .bool v7), (0, .str a0), (5, .str v2.1), (6, .int .i64 v2.2), (7, .int .i64 v5), (8, .str v6)] _ _
  refine And.intro (fun hc => (bqt hc)) ?_
  refine And.intro (fun hp => (And.intro hp hp)) ?_
  show yops _ _ _ [(37, .cnd ((v7 && (v2.2 == v5)) == true) (.bool (v2.1 == v6))), (36, .cnd ((v7 && (v2.2 == v5)) == true) (.str v6)), (35, .cnd ((v7 && (v2.2 == v5)) == true) (.str v2.1)), (34, .bool (v7 && (v2.2 == v5))), (33, .bool (v7 && (v2.2 == v5))), (32, .cnd (v7 == true) (.bool (v2.2 == v5))), (31, .cnd (v7 == true) (.int .i64 v5)), (30, .cnd (v7 == true) (.int .i64 v2.2)), (29, .bool v7), (28, .bool v7), (0, .str a0), (5, .str v2.1), (6, .int .i64 v2.2), (7, .int .i64 v5), (8, .str v6)] _ _
  refine And.intro (fun hc => (bqt hc)) ?_
  obtain ⟨v8, h10, h⟩ := bind_some h
  refine Or.inl (Exists.intro (.int .u32 v8) (And.intro (fun hp => And.intro hp (PFn.call (f8_ok (ite_tt hp h10)) (And.intro (Vw.same _ rfl) trivial) (And.intro rfl (And.intro rfl rfl)))) ?_))
  obtain ⟨v9, h11, h⟩ := bind_some h
  refine Or.inl (Exists.intro (.int .u32 v9) (And.intro (fun hp => And.intro hp (PFn.call (f9_ok (ite_tt hp h11)) (And.intro (Vw.same _ rfl) trivial) (And.intro rfl (And.intro rfl rfl)))) ?_))
  refine And.intro (fun hp => (And.intro hp hp)) ?_
  show yops _ _ _ [(44, .cnd (((v7 && (v2.2 == v5)) && (v2.1 == v6)) == true) (.bool (v8 == v9))), (43, .cnd (((v7 && (v2.2 == v5)) && (v2.1 == v6)) == true) (.int .u32 v9)), (42, .cnd (((v7 && (v2.2 == v5)) && (v2.1 == v6)) == true) (.str a0)), (41, .cnd (((v7 && (v2.2 == v5)) && (v2.1 == v6)) == true) (.int .u32 v8)), (40, .cnd (((v7 && (v2.2 == v5)) && (v2.1 == v6)) == true) (.str a0)), (39, .bool ((v7 && (v2.2 == v5)) && (v2.1 == v6))), (38, .bool ((v7 && (v2.2 == v5)) && (v2.1 == v6))), (37, .cnd ((v7 && (v2.2 == v5)) == true) (.bool (v2.1 == v6))), (36, .cnd ((v7 && (v2.2 == v5)) == true) (.str v6)), (35, .cnd ((v7 && (v2.2 == v5)) == true) (.str v2.1)), (34, .bool (v7 && (v2.2 == v5))), (33, .bool (v7 && (v2.2 == v5))), (32, .cnd (v7 == true) (.bool (v2.2 == v5))), (31, .cnd (v7 == true) (.int .i64 v5)), (30, .cnd (v7 == true) (.int .i64 v2.2)), (29, .bool v7), (28, .bool v7), (0, .str a0), (5, .str v2.1), (6, .int .i64 v2.2), (7, .int .i64 v5), (8, .str v6)] _ _
  refine And.intro (fun hc => (bqt hc)) ?_
  refine LWp.sim (e := [(4, .bool (((v7 && (v2.2 == v5)) && (v2.1 == v6)) && (v8 == v9)))]) (L := []) (n := 0) (simI (M := []) rfl (And.intro (Vw.same _ rfl) trivial) trivial) ?_
  refine retI ?_
  cases h
  exact And.intro trivial (And.intro rfl ((Vw.same _ rfl)))

noncomputable def S_glossatorlaw3_JournalAppend (m : Option Nat) (a0 : List UInt8) (a1 : G_QRecord) : Option Bool :=
  (S_glossatorlaw3_journalExample (some 4096)).bind fun v1 =>
  if (!v1) = true then
    some false
  else
    (S_journal_Append m a0 a1).bind fun v2 =>
    (S_glossatorref3_CheckRecord m a1).bind fun v3 =>
    if (v3 == 0) = true then
      (S_glossatorref3_Frame m a1).bind fun v4 =>
      if (((a0.length + v4.length : Nat) : Int) ≤ 9223372036854775807) then
      if (decide (((a0 ++ v4).length : Int) > 40000)) = true then
        S_glossatorlaw3_JournalAppend_j1 m a0 v2 2 ([] : List UInt8)
      else
        S_glossatorlaw3_JournalAppend_j1 m a0 v2 v3 (a0 ++ v4)
      else none
    else
      S_glossatorlaw3_JournalAppend_j1 m a0 v2 v3 ([] : List UInt8)

theorem f3_start {a0 : List UInt8} {a1 : G_QRecord} {m : Option Nat} {o : Bool} (h : S_glossatorlaw3_JournalAppend m a0 a1 = some o) : LWp Try.prog f3_lay 0 f3_c1 (FinK f3_res (PureEnd (.bool o))) (initEnv 0 [.str a0, .agg [.str a1.f_Key, .str a1.f_Value, .bool a1.f_Deleted]]) [] 0 := by
  unfold S_glossatorlaw3_JournalAppend at h
  refine seqI ?_
  refine regI ?_
  refine seqI ?_
  refine seqI ?_
  refine regI ?_
  obtain ⟨v1, h1, h⟩ := bind_some h
  refine PFn.call (f4_ok h1) trivial ?_
  refine condI (v := (!v1)) rfl trivial (fun h2 => ?_) (fun h2 => ?_)
  · have h := ite_tt h2 h
    refine seqI ?_
    refine regI ?_
    refine retI ?_
    cases h
    exact And.intro trivial (And.intro rfl ((Vw.same _ rfl)))
  · have h := ite_ff h2 h
    refine skipI ?_
    refine seqI ?_
    refine regI ?_
    obtain ⟨v2, h3, h⟩ := bind_some h
    refine PFn.call (f5_ok h3) (And.intro (Vw.same _ rfl) (And.intro (Vw.same _ rfl) trivial)) ?_
    show yops _ _ _ [(14, .tup [.str v2.1, .int .i64 v2.2]), (13, .agg [.str a1.f_Key, .str a1.f_Value, .bool a1.f_Deleted]), (12, .str a0), (10, .bool (!v1)), (9, .bool v1), (4, .bool false), (3, .ptr (0, 0) 0 0), (0, .str a0), (1, .agg [.str a1.f_Key, .str a1.f_Value, .bool a1.f_Deleted])] _ _
    refine LWp.sim (e := [(0, .str a0), (3, .ptr (0, 0) 0 0), (5, .str v2.1), (6, .int .i64 v2.2)]) (L := [((0, 0), .one [.str a1.f_Key, .str a1.f_Value, .bool a1.f_Deleted])]) (n := 1) (simI (M := [((0, 0), (0, 0))]) rfl (And.intro (Vw.same _ rfl) (And.intro (Vw.ptr _ _ _ _ rfl) (And.intro (Vw.same _ rfl) (And.intro (Vw.same _ rfl) trivial)))) (And.intro (And.intro rfl (BVw.oneL (And.intro (Vw.same _ rfl) (And.intro (Vw.same _ rfl) (And.intro (Vw.same _ rfl) trivial))))) trivial)) ?_
    refine seqI ?_
    refine regI ?_
    obtain ⟨v3, h4, h⟩ := bind_some h
    refine PFn.call (f6_ok h4) (And.intro (Vw.same _ rfl) trivial) ?_
    refine seqI ?_
    refine regI ?_
    refine seqI ?_
    refine seqI ?_
    refine regI ?_
    refine condI (v := (v3 == 0)) rfl trivial (fun h5 => ?_) (fun h5 => ?_)
    · have h := ite_tt h5 h
      refine seqI ?_
      refine regI ?_
      obtain ⟨v4, h6, h⟩ := bind_some h
      refine PFn.call (f7_ok h6) (And.intro (Vw.same _ rfl) trivial) ?_
      show yops _ _ _ [(23, .str v4), (22, .agg [.str a1.f_Key, .str a1.f_Value, .bool a1.f_Deleted]), (21, .str a0), (20, .bool (v3 == 0)), (19, .int .i64 v3), (8, .str ([] : List UInt8)), (7, .int .i64 v3), (18, .int .i64 v3), (17, .agg [.str a1.f_Key, .str a1.f_Value, .bool a1.f_Deleted]), (0, .str a0), (3, .ptr (0, 0) 0 0), (5, .str v2.1), (6, .int .i64 v2.2)] _ _
      obtain ⟨h7, h⟩ := ite_some h
      refine And.intro h7 ?_
      refine LWp.sim (e := [(0, .str a0), (5, .str v2.1), (6, .int .i64 v2.2), (7, .int .i64 v3), (8, .str (a0 ++ v4))]) (L := []) (n := 0) (simI (M := []) rfl (And.intro (Vw.same _ rfl) (And.intro (Vw.same _ rfl) (And.intro (Vw.same _ rfl) (And.intro (Vw.same _ rfl) (And.intro (Vw.same _ rfl) trivial))))) trivial) ?_
      refine seqI ?_
      refine regI ?_
      refine condI (v := (decide (((a0 ++ v4).length : Int) > 40000))) rfl trivial (fun h8 => ?_) (fun h8 => ?_)
      · have h := ite_tt h8 h
        refine regI ?_
        refine LWp.sim ?_ (f3_j1_ok h)
        exact simI (M := []) rfl (And.intro (Vw.same _ rfl) (And.intro (Vw.same _ rfl) (And.intro (Vw.same _ rfl) (And.intro (Vw.same _ rfl) (And.intro (Vw.same _ rfl) trivial))))) trivial
      · have h := ite_ff h8 h
        refine skipI ?_
        refine LWp.sim ?_ (f3_j1_ok h)
        exact simI (M := []) rfl (And.intro (Vw.same _ rfl) (And.intro (Vw.same _ rfl) (And.intro (Vw.same _ rfl) (And.intro (Vw.same _ rfl) (And.intro (Vw.same _ rfl) trivial))))) trivial
    · have h := ite_ff h5 h
      refine skipI ?_
      refine LWp.sim ?_ (f3_j1_ok h)
      exact simI (M := []) rfl (And.intro (Vw.same _ rfl) (And.intro (Vw.same _ rfl) (And.intro (Vw.same _ rfl) (And.intro (Vw.same _ rfl) (And.intro (Vw.same _ rfl) trivial))))) trivial

theorem f3_ok {a0 : List UInt8} {a1 : G_QRecord} {m : Option Nat} {o : Bool} (h : S_glossatorlaw3_JournalAppend m a0 a1 = some o) : PFn Try.prog 3 [.str a0, .agg [.str a1.f_Key, .str a1.f_Value, .bool a1.f_Deleted]] (.bool o) := PFn.ofFnW (L := f3_L) f3_low f3_fok (Nat.le_of_ble_eq_true rfl) rfl (f3_start h)
end Go.Proofs.Ytdmmbedincbhjaa
