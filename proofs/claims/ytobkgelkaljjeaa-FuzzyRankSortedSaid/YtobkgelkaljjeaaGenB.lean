/-
  Own text GenB of this claim: what functions of the given program compute, in plain Lean, and the proof; no condition.
-/
import Derived.Test.YtobkgelkaljjeaaGenA
namespace Go.Proofs.Ytobkgelkaljjeaa
open Go.Fx
set_option linter.unusedVariables false
def f33b3_c2 : LCode := (.seq (.seq (.region [⟨some 31, .mv (.t 10), none⟩,
   ⟨some 32, .mv (.t 11), none⟩,
   ⟨some 33, .bin .lss (.t 31) (.t 32), none⟩])
 (.cond (.t 33)
  .skip
  (.exit 0)))
 (.block 1
  (.seq (.region [⟨some 34, .mv (.t 10), none⟩,
    ⟨some 35, .mv (.t 11), none⟩,
    ⟨some 36, .bin .add (.t 34) (.t 35), none⟩,
    ⟨some 37, .conv (.int .u64) (.t 36), none⟩,
    ⟨some 38, .bin .shr (.t 37) (.c (.int .u64 1)), none⟩,
    ⟨some 39, .conv (.int .i64) (.t 38), none⟩,
    ⟨some 12, .mv (.t 39), none⟩])
  (.seq (.draw [⟨⟨some 40, .mv (.t 4), none⟩, []⟩,
    ⟨⟨some 41, .mv (.t 0), none⟩, []⟩,
    ⟨⟨some 42, .mv (.t 12), none⟩, []⟩,
    ⟨⟨some 43, .iaddr 1 (.t 41) (.t 42), none⟩, []⟩,
    ⟨⟨some 44, .load false 1 (.t 43), none⟩, []⟩,
    ⟨⟨some 45, .mv (.t 0), none⟩, []⟩,
    ⟨⟨some 46, .mv (.t 1), none⟩, []⟩,
    ⟨⟨some 47, .iaddr 1 (.t 45) (.t 46), none⟩, []⟩,
    ⟨⟨some 48, .load false 1 (.t 47), none⟩, []⟩,
    ⟨⟨some 49, .callv (.t 40) [(.t 44), (.t 48)], none⟩, []⟩,
    ⟨⟨some 50, .bin .lss (.t 49) (.c (.int .i64 0)), none⟩, []⟩])
  (.cond (.t 50)
   (.region [⟨some 51, .mv (.t 12), none⟩,
     ⟨some 52, .bin .add (.t 51) (.c (.int .i64 1)), none⟩,
     ⟨some 10, .mv (.t 52), none⟩])
   (.region [⟨some 53, .mv (.t 12), none⟩,
     ⟨some 11, .mv (.t 53), none⟩]))))))
def f33b3_c4 : LCode := (.seq (.seq (.region [⟨some 55, .mv (.t 13), none⟩,
   ⟨some 56, .mv (.t 10), none⟩,
   ⟨some 57, .bin .sub (.t 56) (.c (.int .i64 1)), none⟩,
   ⟨some 58, .bin .lss (.t 55) (.t 57), none⟩])
 (.cond (.t 58)
  .skip
  (.exit 2)))
 (.seq (.block 3
  (.draw [⟨⟨some 61, .mv (.t 0), none⟩, []⟩,
    ⟨⟨some 62, .mv (.t 13), none⟩, []⟩,
    ⟨⟨some 63, .mv (.t 0), none⟩, []⟩,
    ⟨⟨some 64, .mv (.t 13), none⟩, []⟩,
    ⟨⟨some 65, .bin .add (.t 64) (.c (.int .i64 1)), none⟩, []⟩,
    ⟨⟨some 66, .mv (.t 0), none⟩, []⟩,
    ⟨⟨some 67, .mv (.t 13), none⟩, []⟩,
    ⟨⟨some 68, .bin .add (.t 67) (.c (.int .i64 1)), none⟩, []⟩,
    ⟨⟨some 69, .iaddr 1 (.t 66) (.t 68), none⟩, []⟩,
    ⟨⟨some 70, .load false 1 (.t 69), none⟩, []⟩,
    ⟨⟨some 71, .mv (.t 0), none⟩, []⟩,
    ⟨⟨some 72, .mv (.t 13), none⟩, []⟩,
    ⟨⟨some 73, .iaddr 1 (.t 71) (.t 72), none⟩, []⟩,
    ⟨⟨some 74, .load false 1 (.t 73), none⟩, []⟩,
    ⟨⟨some 75, .iaddr 1 (.t 61) (.t 62), none⟩, []⟩,
    ⟨⟨none, .store 1 (.t 75) (.t 70), none⟩, []⟩,
    ⟨⟨some 76, .iaddr 1 (.t 63) (.t 65), none⟩, []⟩,
    ⟨⟨none, .store 1 (.t 76) (.t 74), none⟩, []⟩]))
 (.region [⟨some 59, .mv (.t 13), none⟩,
   ⟨some 60, .bin .add (.t 59) (.c (.int .i64 1)), none⟩,
   ⟨some 13, .mv (.t 60), none⟩])))
def f33b3_c3 : LCode := .ret
def f33b3_c0 : LCode := (.seq (.seq (.region [⟨some 54, .mv (.t 1), none⟩,
   ⟨some 13, .mv (.t 54), none⟩])
 (.block 2
  (.loop
   f33b3_c4)))
 f33b3_c3)
def f33b3_c7 : LCode := (.seq (.seq (.region [⟨some 83, .mv (.t 14), none⟩,
   ⟨some 84, .mv (.t 15), none⟩,
   ⟨some 85, .bin .lss (.t 83) (.t 84), none⟩])
 (.cond (.t 85)
  .skip
  (.exit 4)))
 (.block 5
  (.seq (.region [⟨some 86, .mv (.t 14), none⟩,
    ⟨some 87, .mv (.t 15), none⟩,
    ⟨some 88, .bin .add (.t 86) (.t 87), none⟩,
    ⟨some 89, .conv (.int .u64) (.t 88), none⟩,
    ⟨some 90, .bin .shr (.t 89) (.c (.int .u64 1)), none⟩,
    ⟨some 91, .conv (.int .i64) (.t 90), none⟩,
    ⟨some 16, .mv (.t 91), none⟩])
  (.seq (.draw [⟨⟨some 92, .mv (.t 4), none⟩, []⟩,
    ⟨⟨some 93, .mv (.t 0), none⟩, []⟩,
    ⟨⟨some 94, .mv (.t 2), none⟩, []⟩,
    ⟨⟨some 95, .iaddr 1 (.t 93) (.t 94), none⟩, []⟩,
    ⟨⟨some 96, .load false 1 (.t 95), none⟩, []⟩,
    ⟨⟨some 97, .mv (.t 0), none⟩, []⟩,
    ⟨⟨some 98, .mv (.t 16), none⟩, []⟩,
    ⟨⟨some 99, .iaddr 1 (.t 97) (.t 98), none⟩, []⟩,
    ⟨⟨some 100, .load false 1 (.t 99), none⟩, []⟩,
    ⟨⟨some 101, .callv (.t 92) [(.t 96), (.t 100)], none⟩, []⟩,
    ⟨⟨some 102, .bin .lss (.t 101) (.c (.int .i64 0)), none⟩, []⟩,
    ⟨⟨some 103, .un .not (.t 102), none⟩, []⟩])
  (.cond (.t 103)
   (.region [⟨some 104, .mv (.t 16), none⟩,
     ⟨some 105, .bin .add (.t 104) (.c (.int .i64 1)), none⟩,
     ⟨some 14, .mv (.t 105), none⟩])
   (.region [⟨some 106, .mv (.t 16), none⟩,
     ⟨some 15, .mv (.t 106), none⟩]))))))
def f33b3_c9 : LCode := (.seq (.seq (.region [⟨some 108, .mv (.t 17), none⟩,
   ⟨some 109, .mv (.t 14), none⟩,
   ⟨some 110, .bin .gtr (.t 108) (.t 109), none⟩])
 (.cond (.t 110)
  .skip
  (.exit 6)))
 (.seq (.block 7
  (.draw [⟨⟨some 113, .mv (.t 0), none⟩, []⟩,
    ⟨⟨some 114, .mv (.t 17), none⟩, []⟩,
    ⟨⟨some 115, .mv (.t 0), none⟩, []⟩,
    ⟨⟨some 116, .mv (.t 17), none⟩, []⟩,
    ⟨⟨some 117, .bin .sub (.t 116) (.c (.int .i64 1)), none⟩, []⟩,
    ⟨⟨some 118, .mv (.t 0), none⟩, []⟩,
    ⟨⟨some 119, .mv (.t 17), none⟩, []⟩,
    ⟨⟨some 120, .bin .sub (.t 119) (.c (.int .i64 1)), none⟩, []⟩,
    ⟨⟨some 121, .iaddr 1 (.t 118) (.t 120), none⟩, []⟩,
    ⟨⟨some 122, .load false 1 (.t 121), none⟩, []⟩,
    ⟨⟨some 123, .mv (.t 0), none⟩, []⟩,
    ⟨⟨some 124, .mv (.t 17), none⟩, []⟩,
    ⟨⟨some 125, .iaddr 1 (.t 123) (.t 124), none⟩, []⟩,
    ⟨⟨some 126, .load false 1 (.t 125), none⟩, []⟩,
    ⟨⟨some 127, .iaddr 1 (.t 113) (.t 114), none⟩, []⟩,
    ⟨⟨none, .store 1 (.t 127) (.t 122), none⟩, []⟩,
    ⟨⟨some 128, .iaddr 1 (.t 115) (.t 117), none⟩, []⟩,
    ⟨⟨none, .store 1 (.t 128) (.t 126), none⟩, []⟩]))
 (.region [⟨some 111, .mv (.t 17), none⟩,
   ⟨some 112, .bin .sub (.t 111) (.c (.int .i64 1)), none⟩,
   ⟨some 17, .mv (.t 112), none⟩])))
def f33b3_c8 : LCode := .ret
def f33b3_c5 : LCode := (.seq (.seq (.region [⟨some 107, .mv (.t 2), none⟩,
   ⟨some 17, .mv (.t 107), none⟩])
 (.block 6
  (.loop
   f33b3_c9)))
 f33b3_c8)
def f33b3_c11 : LCode := (.seq (.seq (.region [⟨some 149, .mv (.t 20), none⟩,
   ⟨some 150, .mv (.t 21), none⟩,
   ⟨some 151, .bin .lss (.t 149) (.t 150), none⟩])
 (.cond (.t 151)
  .skip
  (.exit 8)))
 (.block 9
  (.seq (.region [⟨some 152, .mv (.t 20), none⟩,
    ⟨some 153, .mv (.t 21), none⟩,
    ⟨some 154, .bin .add (.t 152) (.t 153), none⟩,
    ⟨some 155, .conv (.int .u64) (.t 154), none⟩,
    ⟨some 156, .bin .shr (.t 155) (.c (.int .u64 1)), none⟩,
    ⟨some 157, .conv (.int .i64) (.t 156), none⟩,
    ⟨some 23, .mv (.t 157), none⟩])
  (.seq (.draw [⟨⟨some 158, .mv (.t 4), none⟩, []⟩,
    ⟨⟨some 159, .mv (.t 0), none⟩, []⟩,
    ⟨⟨some 160, .mv (.t 22), none⟩, []⟩,
    ⟨⟨some 161, .mv (.t 23), none⟩, []⟩,
    ⟨⟨some 162, .bin .sub (.t 160) (.t 161), none⟩, []⟩,
    ⟨⟨some 163, .iaddr 1 (.t 159) (.t 162), none⟩, []⟩,
    ⟨⟨some 164, .load false 1 (.t 163), none⟩, []⟩,
    ⟨⟨some 165, .mv (.t 0), none⟩, []⟩,
    ⟨⟨some 166, .mv (.t 23), none⟩, []⟩,
    ⟨⟨some 167, .iaddr 1 (.t 165) (.t 166), none⟩, []⟩,
    ⟨⟨some 168, .load false 1 (.t 167), none⟩, []⟩,
    ⟨⟨some 169, .callv (.t 158) [(.t 164), (.t 168)], none⟩, []⟩,
    ⟨⟨some 170, .bin .lss (.t 169) (.c (.int .i64 0)), none⟩, []⟩,
    ⟨⟨some 171, .un .not (.t 170), none⟩, []⟩])
  (.cond (.t 171)
   (.region [⟨some 172, .mv (.t 23), none⟩,
     ⟨some 173, .bin .add (.t 172) (.c (.int .i64 1)), none⟩,
     ⟨some 20, .mv (.t 173), none⟩])
   (.region [⟨some 174, .mv (.t 23), none⟩,
     ⟨some 21, .mv (.t 174), none⟩]))))))
def f33b3_c12 : LCode := (.seq (.region [⟨some 206, .mv (.t 18), none⟩,
   ⟨some 207, .mv (.t 24), none⟩,
   ⟨some 208, .bin .lss (.t 206) (.t 207), none⟩,
   ⟨some 209, .mv (.t 208), none⟩,
   ⟨some 210, .mv (.t 24), some (209, true)⟩,
   ⟨some 211, .mv (.t 3), some (209, true)⟩,
   ⟨some 212, .bin .lss (.t 210) (.t 211), some (209, true)⟩,
   ⟨some 213, .pick (.t 209) (.t 212) (.c (.bool false)), none⟩])
 (.cond (.t 213)
  (.region [⟨some 214, .mv (.t 0), none⟩,
    ⟨some 215, .mv (.t 18), none⟩,
    ⟨some 216, .mv (.t 24), none⟩,
    ⟨some 217, .mv (.t 3), none⟩,
    ⟨some 218, .mv (.t 4), none⟩,
    ⟨some 219, .call 33 [(.t 214), (.t 215), (.t 216), (.t 217), (.t 218)], none⟩])
  .skip))
def f33b3_c13 : LCode := (.seq (.seq (.region [⟨some 192, .mv (.t 1), none⟩,
   ⟨some 193, .mv (.t 20), none⟩,
   ⟨some 194, .bin .lss (.t 192) (.t 193), none⟩,
   ⟨some 195, .mv (.t 194), none⟩,
   ⟨some 196, .mv (.t 20), some (195, true)⟩,
   ⟨some 197, .mv (.t 18), some (195, true)⟩,
   ⟨some 198, .bin .lss (.t 196) (.t 197), some (195, true)⟩,
   ⟨some 199, .pick (.t 195) (.t 198) (.c (.bool false)), none⟩])
 (.cond (.t 199)
  (.region [⟨some 200, .mv (.t 0), none⟩,
    ⟨some 201, .mv (.t 1), none⟩,
    ⟨some 202, .mv (.t 20), none⟩,
    ⟨some 203, .mv (.t 18), none⟩,
    ⟨some 204, .mv (.t 4), none⟩,
    ⟨some 205, .call 33 [(.t 200), (.t 201), (.t 202), (.t 203), (.t 204)], none⟩])
  .skip))
 f33b3_c12)
def f33b3_c10 : LCode := (.seq (.region [⟨some 175, .mv (.t 19), none⟩,
   ⟨some 176, .mv (.t 20), none⟩,
   ⟨some 177, .bin .sub (.t 175) (.t 176), none⟩,
   ⟨some 24, .mv (.t 177), none⟩])
 (.seq (.seq (.region [⟨some 178, .mv (.t 20), none⟩,
   ⟨some 179, .mv (.t 2), none⟩,
   ⟨some 180, .bin .lss (.t 178) (.t 179), none⟩,
   ⟨some 181, .mv (.t 180), none⟩,
   ⟨some 182, .mv (.t 2), some (181, true)⟩,
   ⟨some 183, .mv (.t 24), some (181, true)⟩,
   ⟨some 184, .bin .lss (.t 182) (.t 183), some (181, true)⟩,
   ⟨some 185, .pick (.t 181) (.t 184) (.c (.bool false)), none⟩])
 (.cond (.t 185)
  (.region [⟨some 186, .mv (.t 0), none⟩,
    ⟨some 187, .mv (.t 20), none⟩,
    ⟨some 188, .mv (.t 2), none⟩,
    ⟨some 189, .mv (.t 24), none⟩,
    ⟨some 190, .mv (.t 4), none⟩,
    ⟨some 191, .call 37 [(.t 186), (.t 187), (.t 188), (.t 189), (.t 190)], none⟩])
  .skip))
 f33b3_c13))
def f33b3_c14 : LCode := (.seq (.region [⟨some 147, .mv (.t 19), none⟩,
   ⟨some 148, .bin .sub (.t 147) (.c (.int .i64 1)), none⟩,
   ⟨some 22, .mv (.t 148), none⟩])
 (.seq (.block 8
  (.loop
   f33b3_c11))
 f33b3_c10))
def f33b3_c6 : LCode := (.seq (.region [⟨some 129, .mv (.t 1), none⟩,
   ⟨some 130, .mv (.t 3), none⟩,
   ⟨some 131, .bin .add (.t 129) (.t 130), none⟩,
   ⟨some 132, .conv (.int .u64) (.t 131), none⟩,
   ⟨some 133, .bin .shr (.t 132) (.c (.int .u64 1)), none⟩,
   ⟨some 134, .conv (.int .i64) (.t 133), none⟩,
   ⟨some 18, .mv (.t 134), none⟩])
 (.seq (.region [⟨some 135, .mv (.t 18), none⟩,
   ⟨some 136, .mv (.t 2), none⟩,
   ⟨some 137, .bin .add (.t 135) (.t 136), none⟩,
   ⟨some 19, .mv (.t 137), none⟩])
 (.seq (.region [⟨some 20, .mv (.c (.int .i64 0)), none⟩,
   ⟨some 21, .mv (.c (.int .i64 0)), none⟩])
 (.seq (.seq (.region [⟨some 138, .mv (.t 2), none⟩,
   ⟨some 139, .mv (.t 18), none⟩,
   ⟨some 140, .bin .gtr (.t 138) (.t 139), none⟩])
 (.cond (.t 140)
  (.seq (.region [⟨some 141, .mv (.t 19), none⟩,
    ⟨some 142, .mv (.t 3), none⟩,
    ⟨some 143, .bin .sub (.t 141) (.t 142), none⟩,
    ⟨some 20, .mv (.t 143), none⟩])
  (.region [⟨some 144, .mv (.t 18), none⟩,
    ⟨some 21, .mv (.t 144), none⟩]))
  (.seq (.region [⟨some 145, .mv (.t 1), none⟩,
    ⟨some 20, .mv (.t 145), none⟩])
  (.region [⟨some 146, .mv (.t 2), none⟩,
    ⟨some 21, .mv (.t 146), none⟩]))))
 f33b3_c14))))
def f33b3_c1 : LCode := (.seq (.seq (.region [⟨some 77, .mv (.t 3), none⟩,
   ⟨some 78, .mv (.t 2), none⟩,
   ⟨some 79, .bin .sub (.t 77) (.t 78), none⟩,
   ⟨some 80, .bin .eql (.t 79) (.c (.int .i64 1)), none⟩])
 (.cond (.t 80)
  (.seq (.region [⟨some 81, .mv (.t 1), none⟩,
    ⟨some 14, .mv (.t 81), none⟩])
  (.seq (.region [⟨some 82, .mv (.t 2), none⟩,
    ⟨some 15, .mv (.t 82), none⟩])
  (.seq (.block 4
   (.loop
    f33b3_c7))
  f33b3_c5)))
  .skip))
 f33b3_c6)
def f33b3_c15 : LCode := (.seq (.seq (.region [⟨some 25, .mv (.t 2), none⟩,
   ⟨some 26, .mv (.t 1), none⟩,
   ⟨some 27, .bin .sub (.t 25) (.t 26), none⟩,
   ⟨some 28, .bin .eql (.t 27) (.c (.int .i64 1)), none⟩])
 (.cond (.t 28)
  (.seq (.region [⟨some 29, .mv (.t 2), none⟩,
    ⟨some 10, .mv (.t 29), none⟩])
  (.seq (.region [⟨some 30, .mv (.t 3), none⟩,
    ⟨some 11, .mv (.t 30), none⟩])
  (.seq (.block 0
   (.loop
    f33b3_c2))
  f33b3_c0)))
  .skip))
 f33b3_c1)
def f33b3_lay : Lay := ⟨220, [], false⟩
def f33b3_res : List LRes := []
def f33b3_L : LFn := ⟨5, f33b3_lay, f33b3_c15, f33b3_res⟩
theorem f33b3_low : lowFn Try.prog [] 33 = some f33b3_L := by kernel_rfl
theorem f33b3_fok : FnOk Try.prog 33 := ⟨_, Try.func33, rfl, rfl⟩
def f33b3_Q {σ : Type} (Hc : σ → AHeap) (fi0 : Fn) (ff0 fc0 : List AVal) (a0 : Int) (a1 : Int) (a2 : Int) (a3 : List Int) (z0 : σ) (o : (List Int) × σ) : Exit → Env → AHeap → Nat → Prop := FinK f33b3_res (FinTo 3 4 (.tup []) ([((0, 0), .rows 1 (o.1.map e_i64))] ++ up 3 (Hc o.2)))

def f33b3_L1_env {σ : Type} (Hc : σ → AHeap) (fi0 : Fn) (ff0 fc0 : List AVal) (a0 : Int) (a3 : List Int) (s : (Int × σ × Int)) : Env := [(0, .msl (0, 0) 1 0 a3.length false), (1, .int .i64 a0), (4, .fn fi0 ff0 fc0), (10, .int .i64 s.1), (11, .int .i64 s.2.2)]
def f33b3_L1_hp {σ : Type} (Hc : σ → AHeap) (fi0 : Fn) (ff0 fc0 : List AVal) (a0 : Int) (a3 : List Int) (s : (Int × σ × Int)) : AHeap := ([((0, 0), .rows 1 (a3.map e_i64))] ++ up 3 (Hc s.2.1))
def f33b3_L1_Q {σ : Type} (Hc : σ → AHeap) (fi0 : Fn) (ff0 fc0 : List AVal) (a0 : Int) (a1 : Int) (a2 : Int) (a3 : List Int) (z0 : σ) (o : ((List Int) × σ)) : Exit → Env → AHeap → Nat → Prop := (QBlock 0 (QSeq Try.prog f33b3_lay 3 f33b3_c0 (QSeq Try.prog f33b3_lay 3 f33b3_c1 (f33b3_Q Hc fi0 ff0 fc0 a0 a1 a2 a3 z0 o))))

noncomputable def S_slices_symMergeCmpFunc_int_33_3_j2 {σ : Type} (rec0 : Int → Int → Int → (List Int) → σ → Option ((List Int) × σ)) (g0 : σ → (Int × Int) → Option (Int × σ)) (m : Option Nat) (v3 : σ) (v7 : List Int) : Option ((List Int) × σ) :=
  some (v7, v3)

noncomputable def S_slices_symMergeCmpFunc_int_33_3_b2 {σ : Type} (rec0 : Int → Int → Int → (List Int) → σ → Option ((List Int) × σ)) (g0 : σ → (Int × Int) → Option (Int × σ)) (m : Option Nat) (v2 : Int) (v3 : σ) (v7 : List Int) (v8 : Int) : Option (((List Int) × Int) ⊕ ((List Int) × σ)) :=
  if (decide (v8 < (W (v2 - 1)))) = true then
    if (0 : Int) ≤ (W (v8 + 1)) ∧ (W (v8 + 1)) < ((v7.length : Nat) : Int) then
    if (0 + (W (v8 + 1)).toNat) < v7.length then
    if (0 : Int) ≤ v8 ∧ v8 < ((v7.length : Nat) : Int) then
    if (0 + v8.toNat) < v7.length then
    if (0 : Int) ≤ v8 ∧ v8 < ((v7.length : Nat) : Int) then
    if (0 + v8.toNat) < v7.length then
    if (0 : Int) ≤ (W (v8 + 1)) ∧ (W (v8 + 1)) < ((v7.length : Nat) : Int) then
    if (0 + (W (v8 + 1)).toNat) < (v7.set (0 + v8.toNat) (v7.getD (0 + (W (v8 + 1)).toNat) default)).length then
    some (.inl (((v7.set (0 + v8.toNat) (v7.getD (0 + (W (v8 + 1)).toNat) default)).set (0 + (W (v8 + 1)).toNat) (v7.getD (0 + v8.toNat) default)), (W (v8 + 1))))
    else none
    else none
    else none
    else none
    else none
    else none
    else none
    else none
  else
    Option.map Sum.inr (
      S_slices_symMergeCmpFunc_int_33_3_j2 rec0 g0 m v3 v7)

noncomputable def S_slices_symMergeCmpFunc_int_33_3_l2 {σ : Type} (rec0 : Int → Int → Int → (List Int) → σ → Option ((List Int) × σ)) (g0 : σ → (Int × Int) → Option (Int × σ)) (m : Option Nat) (v2 : Int) (v3 : σ) (v7 : List Int) (v8 : Int) : Option ((List Int) × σ) := loopM m (fun (s : ((List Int) × Int)) => S_slices_symMergeCmpFunc_int_33_3_b2 rec0 g0 m v2 v3 s.1 s.2) (v7, v8)

noncomputable def S_slices_symMergeCmpFunc_int_33_3_j1 {σ : Type} (rec0 : Int → Int → Int → (List Int) → σ → Option ((List Int) × σ)) (g0 : σ → (Int × Int) → Option (Int × σ)) (m : Option Nat) (a0 : Int) (a3 : List Int) (v2 : Int) (v3 : σ) : Option ((List Int) × σ) :=
  S_slices_symMergeCmpFunc_int_33_3_l2 rec0 g0 m v2 v3 a3 a0

noncomputable def S_slices_symMergeCmpFunc_int_33_3_b1 {σ : Type} (rec0 : Int → Int → Int → (List Int) → σ → Option ((List Int) × σ)) (g0 : σ → (Int × Int) → Option (Int × σ)) (m : Option Nat) (a0 : Int) (a3 : List Int) (v2 : Int) (v3 : σ) (v4 : Int) : Option ((Int × σ × Int) ⊕ ((List Int) × σ)) :=
  if (decide (v2 < v4)) = true then
    if (0 : Int) ≤ (W ((IntKind.wrap .u64 (W (v2 + v4))).fdiv (2 ^ (min (1 : Int).toNat (IntKind.bits .u64))))) ∧ (W ((IntKind.wrap .u64 (W (v2 + v4))).fdiv (2 ^ (min (1 : Int).toNat (IntKind.bits .u64))))) < ((a3.length : Nat) : Int) then
    if (0 + (W ((IntKind.wrap .u64 (W (v2 + v4))).fdiv (2 ^ (min (1 : Int).toNat (IntKind.bits .u64))))).toNat) < a3.length then
    if (0 : Int) ≤ a0 ∧ a0 < ((a3.length : Nat) : Int) then
    if (0 + a0.toNat) < a3.length then
    (g0 v3 ((a3.getD (0 + (W ((IntKind.wrap .u64 (W (v2 + v4))).fdiv (2 ^ (min (1 : Int).toNat (IntKind.bits .u64))))).toNat) default), (a3.getD (0 + a0.toNat) default))).bind fun v6 =>
    if (decide (v6.1 < 0)) = true then
      some (.inl ((W ((W ((IntKind.wrap .u64 (W (v2 + v4))).fdiv (2 ^ (min (1 : Int).toNat (IntKind.bits .u64))))) + 1)), v6.2, v4))
    else
      some (.inl (v2, v6.2, (W ((IntKind.wrap .u64 (W (v2 + v4))).fdiv (2 ^ (min (1 : Int).toNat (IntKind.bits .u64)))))))
    else none
    else none
    else none
    else none
  else
    Option.map Sum.inr (
      S_slices_symMergeCmpFunc_int_33_3_j1 rec0 g0 m a0 a3 v2 v3)

noncomputable def S_slices_symMergeCmpFunc_int_33_3_l1 {σ : Type} (rec0 : Int → Int → Int → (List Int) → σ → Option ((List Int) × σ)) (g0 : σ → (Int × Int) → Option (Int × σ)) (m : Option Nat) (a0 : Int) (a3 : List Int) (v2 : Int) (v3 : σ) (v4 : Int) : Option ((List Int) × σ) := loopM m (fun (s : (Int × σ × Int)) => S_slices_symMergeCmpFunc_int_33_3_b1 rec0 g0 m a0 a3 s.1 s.2.1 s.2.2) (v2, v3, v4)

def f33b3_L2_env {σ : Type} (Hc : σ → AHeap) (fi0 : Fn) (ff0 fc0 : List AVal) (v2 : Int) (v3 : σ) (s : ((List Int) × Int)) : Env := [(0, .msl (0, 0) 1 0 s.1.length false), (10, .int .i64 v2), (13, .int .i64 s.2)]
def f33b3_L2_hp {σ : Type} (Hc : σ → AHeap) (fi0 : Fn) (ff0 fc0 : List AVal) (v2 : Int) (v3 : σ) (s : ((List Int) × Int)) : AHeap := ([((0, 0), .rows 1 (s.1.map e_i64))] ++ up 3 (Hc v3))
def f33b3_L2_Q {σ : Type} (Hc : σ → AHeap) (fi0 : Fn) (ff0 fc0 : List AVal) (a0 : Int) (a1 : Int) (a2 : Int) (a3 : List Int) (z0 : σ) (o : ((List Int) × σ)) : Exit → Env → AHeap → Nat → Prop := (QBlock 2 (QSeq Try.prog f33b3_lay 3 f33b3_c3 (QSeq Try.prog f33b3_lay 3 f33b3_c1 (f33b3_Q Hc fi0 ff0 fc0 a0 a1 a2 a3 z0 o))))

theorem f33b3_j2_ok {σ : Type} {Hc : σ → AHeap} {fi0 : Fn} {ff0 fc0 : List AVal} {g0 : σ → (Int × Int) → Option (Int × σ)} {rec0 : Int → Int → Int → (List Int) → σ → Option ((List Int) × σ)} (hrec0 : ∀ {a0 : Int} {a1 : Int} {a2 : Int} {a3 : List Int} {z0 : σ} {o : (List Int) × σ}, rec0 a0 a1 a2 a3 z0 = some o → ACalls Try.prog 33 [.msl (0, 0) 1 0 a3.length false, .int .i64 a0, .int .i64 a1, .int .i64 a2, .fn fi0 ff0 fc0] ([((0, 0), .rows 1 (a3.map e_i64))] ++ Hc z0) 3 (Gives 4 (.tup []) ([((0, 0), .rows 1 (o.1.map e_i64))] ++ up 3 (Hc o.2)))) (hg0 : Clo Try.prog fi0 ff0 fc0 Hc (fun (x : (Int × Int)) => [.int .i64 x.1, .int .i64 x.2]) (fun (b : Int) => .int .i64 b) g0) {a0 : Int} {a1 : Int} {a2 : Int} {a3 : List Int} {z0 : σ} {v3 : σ} {v7 : List Int} {m : Option Nat} {o : ((List Int) × σ)} (h : S_slices_symMergeCmpFunc_int_33_3_j2 rec0 g0 m v3 v7 = some o) :
    LWp Try.prog f33b3_lay 3 f33b3_c3 (QSeq Try.prog f33b3_lay 3 f33b3_c1 (f33b3_Q Hc fi0 ff0 fc0 a0 a1 a2 a3 z0 o)) [] ([((0, 0), .rows 1 (v7.map e_i64))] ++ up 3 (Hc v3)) 4 := by
  unfold S_slices_symMergeCmpFunc_int_33_3_j2 at h
  refine retI ?_
  cases h
  exact finT (n' := 4) (q := 3) (lit' := [((0, 0), .rows 1 (v7.map e_i64))]) (hg0.tl _) [] [] rfl rfl (VS rfl) (AI (AI rfl (BVw.enc e_i64 (fun _ => rfl) _ v7)) TT)

theorem f33b3_L2_bok {σ : Type} {Hc : σ → AHeap} {fi0 : Fn} {ff0 fc0 : List AVal} {g0 : σ → (Int × Int) → Option (Int × σ)} {rec0 : Int → Int → Int → (List Int) → σ → Option ((List Int) × σ)} (hrec0 : ∀ {a0 : Int} {a1 : Int} {a2 : Int} {a3 : List Int} {z0 : σ} {o : (List Int) × σ}, rec0 a0 a1 a2 a3 z0 = some o → ACalls Try.prog 33 [.msl (0, 0) 1 0 a3.length false, .int .i64 a0, .int .i64 a1, .int .i64 a2, .fn fi0 ff0 fc0] ([((0, 0), .rows 1 (a3.map e_i64))] ++ Hc z0) 3 (Gives 4 (.tup []) ([((0, 0), .rows 1 (o.1.map e_i64))] ++ up 3 (Hc o.2)))) (hg0 : Clo Try.prog fi0 ff0 fc0 Hc (fun (x : (Int × Int)) => [.int .i64 x.1, .int .i64 x.2]) (fun (b : Int) => .int .i64 b) g0) {a0 : Int} {a1 : Int} {a2 : Int} {a3 : List Int} {z0 : σ} {v2 : Int} {v3 : σ} {v7 : List Int} {v8 : Int} {m : Option Nat} {o : ((List Int) × Int) ⊕ ((List Int) × σ)} (h : S_slices_symMergeCmpFunc_int_33_3_b2 rec0 g0 m v2 v3 v7 v8 = some o) :
    LWp Try.prog f33b3_lay 3 f33b3_c4 (BodyQ 3 4 (f33b3_L2_env Hc fi0 ff0 fc0 v2 v3) (f33b3_L2_hp Hc fi0 ff0 fc0 v2 v3) (f33b3_L2_Q Hc fi0 ff0 fc0 a0 a1 a2 a3 z0) o) [(0, .msl (0, 0) 1 0 v7.length false), (10, .int .i64 v2), (13, .int .i64 v8)] ([((0, 0), .rows 1 (v7.map e_i64))] ++ up 3 (Hc v3)) 4 := by
  unfold S_slices_symMergeCmpFunc_int_33_3_b2 at h
  refine seqI ?_
  refine seqI ?_
  refine regI ?_
  refine condI (v := (decide (v8 < (W (v2 - 1))))) rfl TT (fun h41 => ?_) (fun h41 => ?_)
  · have h := ite_tt h41 h
    refine skipI ?_
    refine seqI ?_
    refine blockI ?_
    refine drawO rfl ?_
    obtain ⟨h42, h⟩ := ite_some h
    refine AI h42 ?_
    obtain ⟨h43, h⟩ := ite_some h
    refine EX (e_i64 (v7.getD (0 + (W (v8 + 1)).toNat) default)) (AI (getD_enc e_i64 _ _ h43) (AI (AI (lt_map e_i64 h43) (NB rfl)) ?_))
    obtain ⟨h44, h⟩ := ite_some h
    refine AI h44 ?_
    obtain ⟨h45, h⟩ := ite_some h
    refine EX (e_i64 (v7.getD (0 + v8.toNat) default)) (AI (getD_enc e_i64 _ _ h45) (AI (AI (lt_map e_i64 h45) (NB rfl)) ?_))
    obtain ⟨h46, h⟩ := ite_some h
    refine AI h46 ?_
    obtain ⟨h47, h⟩ := ite_some h
    refine EX ((v7.set (0 + v8.toNat) (v7.getD (0 + (W (v8 + 1)).toNat) default)).map e_i64) (AI (set_enc e_i64 _ _ _ _ _ h47 rfl) (AI (AI rfl (AI (lt_map e_i64 h47) (NB rfl))) ?_))
    obtain ⟨h48, h⟩ := ite_some h
    refine AI h48 ?_
    obtain ⟨h49, h⟩ := ite_some h
    refine EX (((v7.set (0 + v8.toNat) (v7.getD (0 + (W (v8 + 1)).toNat) default)).set (0 + (W (v8 + 1)).toNat) (v7.getD (0 + v8.toNat) default)).map e_i64) (AI (set_enc e_i64 _ _ _ _ _ h49 rfl) (AI (AI rfl (AI (lt_map e_i64 h49) (NB rfl))) ?_))
    refine LWp.sim (e := [(0, .msl (0, 0) 1 0 v7.length false), (10, .int .i64 v2), (13, .int .i64 v8)]) (L := ([((0, 0), .rows 1 (((v7.set (0 + v8.toNat) (v7.getD (0 + (W (v8 + 1)).toNat) default)).set (0 + (W (v8 + 1)).toNat) (v7.getD (0 + v8.toNat) default)).map e_i64))] ++ up 3 (Hc v3))) (n := 4) ?_ ?_
    · exact simT (M := []) (lit' := [((0, 0), .rows 1 (((v7.set (0 + v8.toNat) (v7.getD (0 + (W (v8 + 1)).toNat) default)).set (0 + (W (v8 + 1)).toNat) (v7.getD (0 + v8.toNat) default)).map e_i64))]) (hg0.tl _) rfl (AI (Vw.mslE rfl (by first | rfl | omega | (simp; done) | (simp at *; omega)) rfl) (AI (VS rfl) (AI (VS rfl) TT))) (AI (AI rfl (BVw.enc e_i64 (fun _ => rfl) _ ((v7.set (0 + v8.toNat) (v7.getD (0 + (W (v8 + 1)).toNat) default)).set (0 + (W (v8 + 1)).toNat) (v7.getD (0 + v8.toNat) default)))) TT)
    refine regI ?_
    cases h
    exact AI rfl (simT (M := []) (lit' := [((0, 0), .rows 1 (((v7.set (0 + v8.toNat) (v7.getD (0 + (W (v8 + 1)).toNat) default)).set (0 + (W (v8 + 1)).toNat) (v7.getD (0 + v8.toNat) default)).map e_i64))]) (hg0.tl _) rfl (AI (Vw.mslE rfl (by first | rfl | omega | (simp; done) | (simp at *; omega)) rfl) (AI (VS rfl) (AI (VS rfl) TT))) (AI (AI rfl (BVw.enc e_i64 (fun _ => rfl) _ ((v7.set (0 + v8.toNat) (v7.getD (0 + (W (v8 + 1)).toNat) default)).set (0 + (W (v8 + 1)).toNat) (v7.getD (0 + v8.toNat) default)))) TT))
  · have h := ite_ff h41 h
    refine exitI ?_
    obtain ⟨o, hq, rfl⟩ := Option.map_eq_some_iff.1 h
    replace h := hq; clear hq
    refine AI nofun ?_
    refine LWp.sim ?_ (f33b3_j2_ok hrec0 hg0 h)
    exact simT (M := []) (lit' := [((0, 0), .rows 1 (v7.map e_i64))]) (hg0.tl _) rfl TT (AI (AI rfl (BVw.enc e_i64 (fun _ => rfl) _ v7)) TT)

theorem f33b3_L2_ok {σ : Type} {Hc : σ → AHeap} {fi0 : Fn} {ff0 fc0 : List AVal} {g0 : σ → (Int × Int) → Option (Int × σ)} {rec0 : Int → Int → Int → (List Int) → σ → Option ((List Int) × σ)} (hrec0 : ∀ {a0 : Int} {a1 : Int} {a2 : Int} {a3 : List Int} {z0 : σ} {o : (List Int) × σ}, rec0 a0 a1 a2 a3 z0 = some o → ACalls Try.prog 33 [.msl (0, 0) 1 0 a3.length false, .int .i64 a0, .int .i64 a1, .int .i64 a2, .fn fi0 ff0 fc0] ([((0, 0), .rows 1 (a3.map e_i64))] ++ Hc z0) 3 (Gives 4 (.tup []) ([((0, 0), .rows 1 (o.1.map e_i64))] ++ up 3 (Hc o.2)))) (hg0 : Clo Try.prog fi0 ff0 fc0 Hc (fun (x : (Int × Int)) => [.int .i64 x.1, .int .i64 x.2]) (fun (b : Int) => .int .i64 b) g0) {a0 : Int} {a1 : Int} {a2 : Int} {a3 : List Int} {z0 : σ} {v2 : Int} {v3 : σ} {v7 : List Int} {v8 : Int} {m : Option Nat} {o : ((List Int) × σ)} (h : S_slices_symMergeCmpFunc_int_33_3_l2 rec0 g0 m v2 v3 v7 v8 = some o) :
    LWp Try.prog f33b3_lay 3 (.loop f33b3_c4) (QBlock 2 (QSeq Try.prog f33b3_lay 3 f33b3_c3 (QSeq Try.prog f33b3_lay 3 f33b3_c1 (f33b3_Q Hc fi0 ff0 fc0 a0 a1 a2 a3 z0 o)))) [(0, .msl (0, 0) 1 0 v7.length false), (10, .int .i64 v2), (13, .int .i64 v8)] ([((0, 0), .rows 1 (v7.map e_i64))] ++ up 3 (Hc v3)) 4 :=
  LWp_loopM (m := m) (s := ((v7, v8) : ((List Int) × Int))) (r := o) (fun (s : ((List Int) × Int)) => S_slices_symMergeCmpFunc_int_33_3_b2 rec0 g0 m v2 v3 s.1 s.2) (f33b3_L2_env Hc fi0 ff0 fc0 v2 v3) (f33b3_L2_hp Hc fi0 ff0 fc0 v2 v3) (f33b3_L2_Q Hc fi0 ff0 fc0 a0 a1 a2 a3 z0) (fun s o h => f33b3_L2_bok hrec0 hg0 h) h

theorem f33b3_j1_ok {σ : Type} {Hc : σ → AHeap} {fi0 : Fn} {ff0 fc0 : List AVal} {g0 : σ → (Int × Int) → Option (Int × σ)} {rec0 : Int → Int → Int → (List Int) → σ → Option ((List Int) × σ)} (hrec0 : ∀ {a0 : Int} {a1 : Int} {a2 : Int} {a3 : List Int} {z0 : σ} {o : (List Int) × σ}, rec0 a0 a1 a2 a3 z0 = some o → ACalls Try.prog 33 [.msl (0, 0) 1 0 a3.length false, .int .i64 a0, .int .i64 a1, .int .i64 a2, .fn fi0 ff0 fc0] ([((0, 0), .rows 1 (a3.map e_i64))] ++ Hc z0) 3 (Gives 4 (.tup []) ([((0, 0), .rows 1 (o.1.map e_i64))] ++ up 3 (Hc o.2)))) (hg0 : Clo Try.prog fi0 ff0 fc0 Hc (fun (x : (Int × Int)) => [.int .i64 x.1, .int .i64 x.2]) (fun (b : Int) => .int .i64 b) g0) {a1 : Int} {a2 : Int} {z0 : σ} {a0 : Int} {a3 : List Int} {v2 : Int} {v3 : σ} {m : Option Nat} {o : ((List Int) × σ)} (h : S_slices_symMergeCmpFunc_int_33_3_j1 rec0 g0 m a0 a3 v2 v3 = some o) :
    LWp Try.prog f33b3_lay 3 f33b3_c0 (QSeq Try.prog f33b3_lay 3 f33b3_c1 (f33b3_Q Hc fi0 ff0 fc0 a0 a1 a2 a3 z0 o)) [(0, .msl (0, 0) 1 0 a3.length false), (1, .int .i64 a0), (10, .int .i64 v2)] ([((0, 0), .rows 1 (a3.map e_i64))] ++ up 3 (Hc v3)) 4 := by
  unfold S_slices_symMergeCmpFunc_int_33_3_j1 at h
  refine seqI ?_
  refine seqI ?_
  refine regI ?_
  refine blockI ?_
  refine LWp.sim ?_ (f33b3_L2_ok hrec0 hg0 h)
  exact simT (M := []) (lit' := [((0, 0), .rows 1 (a3.map e_i64))]) (hg0.tl _) rfl (AI (Vw.mslE rfl (by first | rfl | omega | (simp; done) | (simp at *; omega)) rfl) (AI (VS rfl) (AI (VS rfl) TT))) (AI (AI rfl (BVw.enc e_i64 (fun _ => rfl) _ a3)) TT)

theorem f33b3_L1_bok {σ : Type} {Hc : σ → AHeap} {fi0 : Fn} {ff0 fc0 : List AVal} {g0 : σ → (Int × Int) → Option (Int × σ)} {rec0 : Int → Int → Int → (List Int) → σ → Option ((List Int) × σ)} (hrec0 : ∀ {a0 : Int} {a1 : Int} {a2 : Int} {a3 : List Int} {z0 : σ} {o : (List Int) × σ}, rec0 a0 a1 a2 a3 z0 = some o → ACalls Try.prog 33 [.msl (0, 0) 1 0 a3.length false, .int .i64 a0, .int .i64 a1, .int .i64 a2, .fn fi0 ff0 fc0] ([((0, 0), .rows 1 (a3.map e_i64))] ++ Hc z0) 3 (Gives 4 (.tup []) ([((0, 0), .rows 1 (o.1.map e_i64))] ++ up 3 (Hc o.2)))) (hg0 : Clo Try.prog fi0 ff0 fc0 Hc (fun (x : (Int × Int)) => [.int .i64 x.1, .int .i64 x.2]) (fun (b : Int) => .int .i64 b) g0) {a1 : Int} {a2 : Int} {z0 : σ} {a0 : Int} {a3 : List Int} {v2 : Int} {v3 : σ} {v4 : Int} {m : Option Nat} {o : (Int × σ × Int) ⊕ ((List Int) × σ)} (h : S_slices_symMergeCmpFunc_int_33_3_b1 rec0 g0 m a0 a3 v2 v3 v4 = some o) :
    LWp Try.prog f33b3_lay 3 f33b3_c2 (BodyQ 3 4 (f33b3_L1_env Hc fi0 ff0 fc0 a0 a3) (f33b3_L1_hp Hc fi0 ff0 fc0 a0 a3) (f33b3_L1_Q Hc fi0 ff0 fc0 a0 a1 a2 a3 z0) o) [(0, .msl (0, 0) 1 0 a3.length false), (1, .int .i64 a0), (4, .fn fi0 ff0 fc0), (10, .int .i64 v2), (11, .int .i64 v4)] ([((0, 0), .rows 1 (a3.map e_i64))] ++ up 3 (Hc v3)) 4 := by
  unfold S_slices_symMergeCmpFunc_int_33_3_b1 at h
  refine seqI ?_
  refine seqI ?_
  refine regI ?_
  refine condI (v := (decide (v2 < v4))) rfl TT (fun h16 => ?_) (fun h16 => ?_)
  · have h := ite_tt h16 h
    refine skipI ?_
    refine blockI ?_
    refine seqI ?_
    refine regI ?_
    refine AI (by decide) ?_
    refine LWp.sim (e := [(0, .msl (0, 0) 1 0 a3.length false), (1, .int .i64 a0), (4, .fn fi0 ff0 fc0), (10, .int .i64 v2), (11, .int .i64 v4), (12, .int .i64 (W ((IntKind.wrap .u64 (W (v2 + v4))).fdiv (2 ^ (min (1 : Int).toNat (IntKind.bits .u64))))))]) (L := ([((0, 0), .rows 1 (a3.map e_i64))] ++ up 3 (Hc v3))) (n := 4) ?_ ?_
    · exact simT (M := []) (lit' := [((0, 0), .rows 1 (a3.map e_i64))]) (hg0.tl _) rfl (AI (Vw.mslE rfl (by first | rfl | omega | (simp; done) | (simp at *; omega)) rfl) (AI (VS rfl) (AI (Vw.clo hg0.hf hg0.hc (by decide) (rhoT_1 (chkT_ok (n := 4) (q := 3) (lit' := [((0, 0), .rows 1 (a3.map e_i64))]) rfl))) (AI (VS rfl) (AI (VS rfl) (AI (VS rfl) TT)))))) (AI (AI rfl (BVw.enc e_i64 (fun _ => rfl) _ a3)) TT)
    refine seqI ?_
    refine drawO rfl ?_
    obtain ⟨h17, h⟩ := ite_some h
    refine AI h17 ?_
    obtain ⟨h18, h⟩ := ite_some h
    refine EX (e_i64 (a3.getD (0 + (W ((IntKind.wrap .u64 (W (v2 + v4))).fdiv (2 ^ (min (1 : Int).toNat (IntKind.bits .u64))))).toNat) default)) (AI (getD_enc e_i64 _ _ h18) (AI (AI (lt_map e_i64 h18) (NB rfl)) ?_))
    obtain ⟨h19, h⟩ := ite_some h
    refine AI h19 ?_
    obtain ⟨h20, h⟩ := ite_some h
    refine EX (e_i64 (a3.getD (0 + a0.toNat) default)) (AI (getD_enc e_i64 _ _ h20) (AI (AI (lt_map e_i64 h20) (NB rfl)) ?_))
    obtain ⟨v6, h21, h⟩ := bind_some h
    refine Clo.use (q := 3) (lit := [((0, 0), .rows 1 (a3.map e_i64))]) hg0 h21 rfl rfl (AI (VS rfl) (AI (VS rfl) TT)) ?_
    refine LWp.sim (e := [(0, .msl (0, 0) 1 0 a3.length false), (1, .int .i64 a0), (4, .fn fi0 ff0 fc0), (10, .int .i64 v2), (11, .int .i64 v4), (12, .int .i64 (W ((IntKind.wrap .u64 (W (v2 + v4))).fdiv (2 ^ (min (1 : Int).toNat (IntKind.bits .u64)))))), (50, .bool (decide (v6.1 < 0)))]) (L := ([((0, 0), .rows 1 (a3.map e_i64))] ++ up 3 (Hc v6.2))) (n := 4) ?_ ?_
    · exact simT (M := []) (lit' := [((0, 0), .rows 1 (a3.map e_i64))]) (hg0.tl _) rfl (AI (Vw.mslE rfl (by first | rfl | omega | (simp; done) | (simp at *; omega)) rfl) (AI (VS rfl) (AI (Vw.clo hg0.hf hg0.hc (by decide) (rhoT_1 (chkT_ok (n := 4) (q := 4) (lit' := [((0, 0), .rows 1 (a3.map e_i64))]) rfl))) (AI (VS rfl) (AI (VS rfl) (AI (VS rfl) (AI (VS rfl) TT))))))) (AI (AI rfl (BVw.enc e_i64 (fun _ => rfl) _ a3)) TT)
    refine condI (v := (decide (v6.1 < 0))) rfl TT (fun h22 => ?_) (fun h22 => ?_)
    · have h := ite_tt h22 h
      refine regI ?_
      cases h
      exact AI rfl (simT (M := []) (lit' := [((0, 0), .rows 1 (a3.map e_i64))]) (hg0.tl _) rfl (AI (Vw.mslE rfl (by first | rfl | omega | (simp; done) | (simp at *; omega)) rfl) (AI (VS rfl) (AI (Vw.clo hg0.hf hg0.hc (by decide) (rhoT_1 (chkT_ok (n := 4) (q := 3) (lit' := [((0, 0), .rows 1 (a3.map e_i64))]) rfl))) (AI (VS rfl) (AI (VS rfl) TT))))) (AI (AI rfl (BVw.enc e_i64 (fun _ => rfl) _ a3)) TT))
    · have h := ite_ff h22 h
      refine regI ?_
      cases h
      exact AI rfl (simT (M := []) (lit' := [((0, 0), .rows 1 (a3.map e_i64))]) (hg0.tl _) rfl (AI (Vw.mslE rfl (by first | rfl | omega | (simp; done) | (simp at *; omega)) rfl) (AI (VS rfl) (AI (Vw.clo hg0.hf hg0.hc (by decide) (rhoT_1 (chkT_ok (n := 4) (q := 3) (lit' := [((0, 0), .rows 1 (a3.map e_i64))]) rfl))) (AI (VS rfl) (AI (VS rfl) TT))))) (AI (AI rfl (BVw.enc e_i64 (fun _ => rfl) _ a3)) TT))
  · have h := ite_ff h16 h
    refine exitI ?_
    obtain ⟨o, hq, rfl⟩ := Option.map_eq_some_iff.1 h
    replace h := hq; clear hq
    refine AI nofun ?_
    refine LWp.sim ?_ (f33b3_j1_ok hrec0 hg0 h)
    exact simT (M := []) (lit' := [((0, 0), .rows 1 (a3.map e_i64))]) (hg0.tl _) rfl (AI (Vw.mslE rfl (by first | rfl | omega | (simp; done) | (simp at *; omega)) rfl) (AI (VS rfl) (AI (VS rfl) TT))) (AI (AI rfl (BVw.enc e_i64 (fun _ => rfl) _ a3)) TT)

theorem f33b3_L1_ok {σ : Type} {Hc : σ → AHeap} {fi0 : Fn} {ff0 fc0 : List AVal} {g0 : σ → (Int × Int) → Option (Int × σ)} {rec0 : Int → Int → Int → (List Int) → σ → Option ((List Int) × σ)} (hrec0 : ∀ {a0 : Int} {a1 : Int} {a2 : Int} {a3 : List Int} {z0 : σ} {o : (List Int) × σ}, rec0 a0 a1 a2 a3 z0 = some o → ACalls Try.prog 33 [.msl (0, 0) 1 0 a3.length false, .int .i64 a0, .int .i64 a1, .int .i64 a2, .fn fi0 ff0 fc0] ([((0, 0), .rows 1 (a3.map e_i64))] ++ Hc z0) 3 (Gives 4 (.tup []) ([((0, 0), .rows 1 (o.1.map e_i64))] ++ up 3 (Hc o.2)))) (hg0 : Clo Try.prog fi0 ff0 fc0 Hc (fun (x : (Int × Int)) => [.int .i64 x.1, .int .i64 x.2]) (fun (b : Int) => .int .i64 b) g0) {a1 : Int} {a2 : Int} {z0 : σ} {a0 : Int} {a3 : List Int} {v2 : Int} {v3 : σ} {v4 : Int} {m : Option Nat} {o : ((List Int) × σ)} (h : S_slices_symMergeCmpFunc_int_33_3_l1 rec0 g0 m a0 a3 v2 v3 v4 = some o) :
    LWp Try.prog f33b3_lay 3 (.loop f33b3_c2) (QBlock 0 (QSeq Try.prog f33b3_lay 3 f33b3_c0 (QSeq Try.prog f33b3_lay 3 f33b3_c1 (f33b3_Q Hc fi0 ff0 fc0 a0 a1 a2 a3 z0 o)))) [(0, .msl (0, 0) 1 0 a3.length false), (1, .int .i64 a0), (4, .fn fi0 ff0 fc0), (10, .int .i64 v2), (11, .int .i64 v4)] ([((0, 0), .rows 1 (a3.map e_i64))] ++ up 3 (Hc v3)) 4 :=
  LWp_loopM (m := m) (s := ((v2, v3, v4) : (Int × σ × Int))) (r := o) (fun (s : (Int × σ × Int)) => S_slices_symMergeCmpFunc_int_33_3_b1 rec0 g0 m a0 a3 s.1 s.2.1 s.2.2) (f33b3_L1_env Hc fi0 ff0 fc0 a0 a3) (f33b3_L1_hp Hc fi0 ff0 fc0 a0 a3) (f33b3_L1_Q Hc fi0 ff0 fc0 a0 a1 a2 a3 z0) (fun s o h => f33b3_L1_bok hrec0 hg0 h) h

def f33b3_L3_env {σ : Type} (Hc : σ → AHeap) (fi0 : Fn) (ff0 fc0 : List AVal) (a1 : Int) (a3 : List Int) (s : (Int × σ × Int)) : Env := [(0, .msl (0, 0) 1 0 a3.length false), (2, .int .i64 a1), (4, .fn fi0 ff0 fc0), (14, .int .i64 s.1), (15, .int .i64 s.2.2)]
def f33b3_L3_hp {σ : Type} (Hc : σ → AHeap) (fi0 : Fn) (ff0 fc0 : List AVal) (a1 : Int) (a3 : List Int) (s : (Int × σ × Int)) : AHeap := ([((0, 0), .rows 1 (a3.map e_i64))] ++ up 3 (Hc s.2.1))
def f33b3_L3_Q {σ : Type} (Hc : σ → AHeap) (fi0 : Fn) (ff0 fc0 : List AVal) (a0 : Int) (a1 : Int) (a2 : Int) (a3 : List Int) (z0 : σ) (o : ((List Int) × σ)) : Exit → Env → AHeap → Nat → Prop := (QBlock 4 (QSeq Try.prog f33b3_lay 3 f33b3_c5 (QSeq Try.prog f33b3_lay 3 f33b3_c6 (f33b3_Q Hc fi0 ff0 fc0 a0 a1 a2 a3 z0 o))))

noncomputable def S_slices_symMergeCmpFunc_int_33_3_j4 {σ : Type} (rec0 : Int → Int → Int → (List Int) → σ → Option ((List Int) × σ)) (g0 : σ → (Int × Int) → Option (Int × σ)) (m : Option Nat) (v11 : σ) (v15 : List Int) : Option ((List Int) × σ) :=
  some (v15, v11)

noncomputable def S_slices_symMergeCmpFunc_int_33_3_b4 {σ : Type} (rec0 : Int → Int → Int → (List Int) → σ → Option ((List Int) × σ)) (g0 : σ → (Int × Int) → Option (Int × σ)) (m : Option Nat) (v10 : Int) (v11 : σ) (v15 : List Int) (v16 : Int) : Option (((List Int) × Int) ⊕ ((List Int) × σ)) :=
  if (decide (v16 > v10)) = true then
    if (0 : Int) ≤ (W (v16 - 1)) ∧ (W (v16 - 1)) < ((v15.length : Nat) : Int) then
    if (0 + (W (v16 - 1)).toNat) < v15.length then
    if (0 : Int) ≤ v16 ∧ v16 < ((v15.length : Nat) : Int) then
    if (0 + v16.toNat) < v15.length then
    if (0 : Int) ≤ v16 ∧ v16 < ((v15.length : Nat) : Int) then
    if (0 + v16.toNat) < v15.length then
    if (0 : Int) ≤ (W (v16 - 1)) ∧ (W (v16 - 1)) < ((v15.length : Nat) : Int) then
    if (0 + (W (v16 - 1)).toNat) < (v15.set (0 + v16.toNat) (v15.getD (0 + (W (v16 - 1)).toNat) default)).length then
    some (.inl (((v15.set (0 + v16.toNat) (v15.getD (0 + (W (v16 - 1)).toNat) default)).set (0 + (W (v16 - 1)).toNat) (v15.getD (0 + v16.toNat) default)), (W (v16 - 1))))
    else none
    else none
    else none
    else none
    else none
    else none
    else none
    else none
  else
    Option.map Sum.inr (
      S_slices_symMergeCmpFunc_int_33_3_j4 rec0 g0 m v11 v15)

noncomputable def S_slices_symMergeCmpFunc_int_33_3_l4 {σ : Type} (rec0 : Int → Int → Int → (List Int) → σ → Option ((List Int) × σ)) (g0 : σ → (Int × Int) → Option (Int × σ)) (m : Option Nat) (v10 : Int) (v11 : σ) (v15 : List Int) (v16 : Int) : Option ((List Int) × σ) := loopM m (fun (s : ((List Int) × Int)) => S_slices_symMergeCmpFunc_int_33_3_b4 rec0 g0 m v10 v11 s.1 s.2) (v15, v16)

noncomputable def S_slices_symMergeCmpFunc_int_33_3_j3 {σ : Type} (rec0 : Int → Int → Int → (List Int) → σ → Option ((List Int) × σ)) (g0 : σ → (Int × Int) → Option (Int × σ)) (m : Option Nat) (a1 : Int) (a3 : List Int) (v10 : Int) (v11 : σ) : Option ((List Int) × σ) :=
  S_slices_symMergeCmpFunc_int_33_3_l4 rec0 g0 m v10 v11 a3 a1

noncomputable def S_slices_symMergeCmpFunc_int_33_3_b3 {σ : Type} (rec0 : Int → Int → Int → (List Int) → σ → Option ((List Int) × σ)) (g0 : σ → (Int × Int) → Option (Int × σ)) (m : Option Nat) (a1 : Int) (a3 : List Int) (v10 : Int) (v11 : σ) (v12 : Int) : Option ((Int × σ × Int) ⊕ ((List Int) × σ)) :=
  if (decide (v10 < v12)) = true then
    if (0 : Int) ≤ a1 ∧ a1 < ((a3.length : Nat) : Int) then
    if (0 + a1.toNat) < a3.length then
    if (0 : Int) ≤ (W ((IntKind.wrap .u64 (W (v10 + v12))).fdiv (2 ^ (min (1 : Int).toNat (IntKind.bits .u64))))) ∧ (W ((IntKind.wrap .u64 (W (v10 + v12))).fdiv (2 ^ (min (1 : Int).toNat (IntKind.bits .u64))))) < ((a3.length : Nat) : Int) then
    if (0 + (W ((IntKind.wrap .u64 (W (v10 + v12))).fdiv (2 ^ (min (1 : Int).toNat (IntKind.bits .u64))))).toNat) < a3.length then
    (g0 v11 ((a3.getD (0 + a1.toNat) default), (a3.getD (0 + (W ((IntKind.wrap .u64 (W (v10 + v12))).fdiv (2 ^ (min (1 : Int).toNat (IntKind.bits .u64))))).toNat) default))).bind fun v14 =>
    if (!(decide (v14.1 < 0))) = true then
      some (.inl ((W ((W ((IntKind.wrap .u64 (W (v10 + v12))).fdiv (2 ^ (min (1 : Int).toNat (IntKind.bits .u64))))) + 1)), v14.2, v12))
    else
      some (.inl (v10, v14.2, (W ((IntKind.wrap .u64 (W (v10 + v12))).fdiv (2 ^ (min (1 : Int).toNat (IntKind.bits .u64)))))))
    else none
    else none
    else none
    else none
  else
    Option.map Sum.inr (
      S_slices_symMergeCmpFunc_int_33_3_j3 rec0 g0 m a1 a3 v10 v11)

noncomputable def S_slices_symMergeCmpFunc_int_33_3_l3 {σ : Type} (rec0 : Int → Int → Int → (List Int) → σ → Option ((List Int) × σ)) (g0 : σ → (Int × Int) → Option (Int × σ)) (m : Option Nat) (a1 : Int) (a3 : List Int) (v10 : Int) (v11 : σ) (v12 : Int) : Option ((List Int) × σ) := loopM m (fun (s : (Int × σ × Int)) => S_slices_symMergeCmpFunc_int_33_3_b3 rec0 g0 m a1 a3 s.1 s.2.1 s.2.2) (v10, v11, v12)

def f33b3_L4_env {σ : Type} (Hc : σ → AHeap) (fi0 : Fn) (ff0 fc0 : List AVal) (v10 : Int) (v11 : σ) (s : ((List Int) × Int)) : Env := [(0, .msl (0, 0) 1 0 s.1.length false), (14, .int .i64 v10), (17, .int .i64 s.2)]
def f33b3_L4_hp {σ : Type} (Hc : σ → AHeap) (fi0 : Fn) (ff0 fc0 : List AVal) (v10 : Int) (v11 : σ) (s : ((List Int) × Int)) : AHeap := ([((0, 0), .rows 1 (s.1.map e_i64))] ++ up 3 (Hc v11))
def f33b3_L4_Q {σ : Type} (Hc : σ → AHeap) (fi0 : Fn) (ff0 fc0 : List AVal) (a0 : Int) (a1 : Int) (a2 : Int) (a3 : List Int) (z0 : σ) (o : ((List Int) × σ)) : Exit → Env → AHeap → Nat → Prop := (QBlock 6 (QSeq Try.prog f33b3_lay 3 f33b3_c8 (QSeq Try.prog f33b3_lay 3 f33b3_c6 (f33b3_Q Hc fi0 ff0 fc0 a0 a1 a2 a3 z0 o))))

theorem f33b3_j4_ok {σ : Type} {Hc : σ → AHeap} {fi0 : Fn} {ff0 fc0 : List AVal} {g0 : σ → (Int × Int) → Option (Int × σ)} {rec0 : Int → Int → Int → (List Int) → σ → Option ((List Int) × σ)} (hrec0 : ∀ {a0 : Int} {a1 : Int} {a2 : Int} {a3 : List Int} {z0 : σ} {o : (List Int) × σ}, rec0 a0 a1 a2 a3 z0 = some o → ACalls Try.prog 33 [.msl (0, 0) 1 0 a3.length false, .int .i64 a0, .int .i64 a1, .int .i64 a2, .fn fi0 ff0 fc0] ([((0, 0), .rows 1 (a3.map e_i64))] ++ Hc z0) 3 (Gives 4 (.tup []) ([((0, 0), .rows 1 (o.1.map e_i64))] ++ up 3 (Hc o.2)))) (hg0 : Clo Try.prog fi0 ff0 fc0 Hc (fun (x : (Int × Int)) => [.int .i64 x.1, .int .i64 x.2]) (fun (b : Int) => .int .i64 b) g0) {a0 : Int} {a1 : Int} {a2 : Int} {a3 : List Int} {z0 : σ} {v11 : σ} {v15 : List Int} {m : Option Nat} {o : ((List Int) × σ)} (h : S_slices_symMergeCmpFunc_int_33_3_j4 rec0 g0 m v11 v15 = some o) :
    LWp Try.prog f33b3_lay 3 f33b3_c8 (QSeq Try.prog f33b3_lay 3 f33b3_c6 (f33b3_Q Hc fi0 ff0 fc0 a0 a1 a2 a3 z0 o)) [] ([((0, 0), .rows 1 (v15.map e_i64))] ++ up 3 (Hc v11)) 4 := by
  unfold S_slices_symMergeCmpFunc_int_33_3_j4 at h
  refine retI ?_
  cases h
  exact finT (n' := 4) (q := 3) (lit' := [((0, 0), .rows 1 (v15.map e_i64))]) (hg0.tl _) [] [] rfl rfl (VS rfl) (AI (AI rfl (BVw.enc e_i64 (fun _ => rfl) _ v15)) TT)

theorem f33b3_L4_bok {σ : Type} {Hc : σ → AHeap} {fi0 : Fn} {ff0 fc0 : List AVal} {g0 : σ → (Int × Int) → Option (Int × σ)} {rec0 : Int → Int → Int → (List Int) → σ → Option ((List Int) × σ)} (hrec0 : ∀ {a0 : Int} {a1 : Int} {a2 : Int} {a3 : List Int} {z0 : σ} {o : (List Int) × σ}, rec0 a0 a1 a2 a3 z0 = some o → ACalls Try.prog 33 [.msl (0, 0) 1 0 a3.length false, .int .i64 a0, .int .i64 a1, .int .i64 a2, .fn fi0 ff0 fc0] ([((0, 0), .rows 1 (a3.map e_i64))] ++ Hc z0) 3 (Gives 4 (.tup []) ([((0, 0), .rows 1 (o.1.map e_i64))] ++ up 3 (Hc o.2)))) (hg0 : Clo Try.prog fi0 ff0 fc0 Hc (fun (x : (Int × Int)) => [.int .i64 x.1, .int .i64 x.2]) (fun (b : Int) => .int .i64 b) g0) {a0 : Int} {a1 : Int} {a2 : Int} {a3 : List Int} {z0 : σ} {v10 : Int} {v11 : σ} {v15 : List Int} {v16 : Int} {m : Option Nat} {o : ((List Int) × Int) ⊕ ((List Int) × σ)} (h : S_slices_symMergeCmpFunc_int_33_3_b4 rec0 g0 m v10 v11 v15 v16 = some o) :
    LWp Try.prog f33b3_lay 3 f33b3_c9 (BodyQ 3 4 (f33b3_L4_env Hc fi0 ff0 fc0 v10 v11) (f33b3_L4_hp Hc fi0 ff0 fc0 v10 v11) (f33b3_L4_Q Hc fi0 ff0 fc0 a0 a1 a2 a3 z0) o) [(0, .msl (0, 0) 1 0 v15.length false), (14, .int .i64 v10), (17, .int .i64 v16)] ([((0, 0), .rows 1 (v15.map e_i64))] ++ up 3 (Hc v11)) 4 := by
  unfold S_slices_symMergeCmpFunc_int_33_3_b4 at h
  refine seqI ?_
  refine seqI ?_
  refine regI ?_
  refine condI (v := (decide (v16 > v10))) rfl TT (fun h90 => ?_) (fun h90 => ?_)
  · have h := ite_tt h90 h
    refine skipI ?_
    refine seqI ?_
    refine blockI ?_
    refine drawO rfl ?_
    obtain ⟨h91, h⟩ := ite_some h
    refine AI h91 ?_
    obtain ⟨h92, h⟩ := ite_some h
    refine EX (e_i64 (v15.getD (0 + (W (v16 - 1)).toNat) default)) (AI (getD_enc e_i64 _ _ h92) (AI (AI (lt_map e_i64 h92) (NB rfl)) ?_))
    obtain ⟨h93, h⟩ := ite_some h
    refine AI h93 ?_
    obtain ⟨h94, h⟩ := ite_some h
    refine EX (e_i64 (v15.getD (0 + v16.toNat) default)) (AI (getD_enc e_i64 _ _ h94) (AI (AI (lt_map e_i64 h94) (NB rfl)) ?_))
    obtain ⟨h95, h⟩ := ite_some h
    refine AI h95 ?_
    obtain ⟨h96, h⟩ := ite_some h
    refine EX ((v15.set (0 + v16.toNat) (v15.getD (0 + (W (v16 - 1)).toNat) default)).map e_i64) (AI (set_enc e_i64 _ _ _ _ _ h96 rfl) (AI (AI rfl (AI (lt_map e_i64 h96) (NB rfl))) ?_))
    obtain ⟨h97, h⟩ := ite_some h
    refine AI h97 ?_
    obtain ⟨h98, h⟩ := ite_some h
    refine EX (((v15.set (0 + v16.toNat) (v15.getD (0 + (W (v16 - 1)).toNat) default)).set (0 + (W (v16 - 1)).toNat) (v15.getD (0 + v16.toNat) default)).map e_i64) (AI (set_enc e_i64 _ _ _ _ _ h98 rfl) (AI (AI rfl (AI (lt_map e_i64 h98) (NB rfl))) ?_))
    refine LWp.sim (e := [(0, .msl (0, 0) 1 0 v15.length false), (14, .int .i64 v10), (17, .int .i64 v16)]) (L := ([((0, 0), .rows 1 (((v15.set (0 + v16.toNat) (v15.getD (0 + (W (v16 - 1)).toNat) default)).set (0 + (W (v16 - 1)).toNat) (v15.getD (0 + v16.toNat) default)).map e_i64))] ++ up 3 (Hc v11))) (n := 4) ?_ ?_
    · exact simT (M := []) (lit' := [((0, 0), .rows 1 (((v15.set (0 + v16.toNat) (v15.getD (0 + (W (v16 - 1)).toNat) default)).set (0 + (W (v16 - 1)).toNat) (v15.getD (0 + v16.toNat) default)).map e_i64))]) (hg0.tl _) rfl (AI (Vw.mslE rfl (by first | rfl | omega | (simp; done) | (simp at *; omega)) rfl) (AI (VS rfl) (AI (VS rfl) TT))) (AI (AI rfl (BVw.enc e_i64 (fun _ => rfl) _ ((v15.set (0 + v16.toNat) (v15.getD (0 + (W (v16 - 1)).toNat) default)).set (0 + (W (v16 - 1)).toNat) (v15.getD (0 + v16.toNat) default)))) TT)
    refine regI ?_
    cases h
    exact AI rfl (simT (M := []) (lit' := [((0, 0), .rows 1 (((v15.set (0 + v16.toNat) (v15.getD (0 + (W (v16 - 1)).toNat) default)).set (0 + (W (v16 - 1)).toNat) (v15.getD (0 + v16.toNat) default)).map e_i64))]) (hg0.tl _) rfl (AI (Vw.mslE rfl (by first | rfl | omega | (simp; done) | (simp at *; omega)) rfl) (AI (VS rfl) (AI (VS rfl) TT))) (AI (AI rfl (BVw.enc e_i64 (fun _ => rfl) _ ((v15.set (0 + v16.toNat) (v15.getD (0 + (W (v16 - 1)).toNat) default)).set (0 + (W (v16 - 1)).toNat) (v15.getD (0 + v16.toNat) default)))) TT))
  · have h := ite_ff h90 h
    refine exitI ?_
    obtain ⟨o, hq, rfl⟩ := Option.map_eq_some_iff.1 h
    replace h := hq; clear hq
    refine AI nofun ?_
    refine LWp.sim ?_ (f33b3_j4_ok hrec0 hg0 h)
    exact simT (M := []) (lit' := [((0, 0), .rows 1 (v15.map e_i64))]) (hg0.tl _) rfl TT (AI (AI rfl (BVw.enc e_i64 (fun _ => rfl) _ v15)) TT)

theorem f33b3_L4_ok {σ : Type} {Hc : σ → AHeap} {fi0 : Fn} {ff0 fc0 : List AVal} {g0 : σ → (Int × Int) → Option (Int × σ)} {rec0 : Int → Int → Int → (List Int) → σ → Option ((List Int) × σ)} (hrec0 : ∀ {a0 : Int} {a1 : Int} {a2 : Int} {a3 : List Int} {z0 : σ} {o : (List Int) × σ}, rec0 a0 a1 a2 a3 z0 = some o → ACalls Try.prog 33 [.msl (0, 0) 1 0 a3.length false, .int .i64 a0, .int .i64 a1, .int .i64 a2, .fn fi0 ff0 fc0] ([((0, 0), .rows 1 (a3.map e_i64))] ++ Hc z0) 3 (Gives 4 (.tup []) ([((0, 0), .rows 1 (o.1.map e_i64))] ++ up 3 (Hc o.2)))) (hg0 : Clo Try.prog fi0 ff0 fc0 Hc (fun (x : (Int × Int)) => [.int .i64 x.1, .int .i64 x.2]) (fun (b : Int) => .int .i64 b) g0) {a0 : Int} {a1 : Int} {a2 : Int} {a3 : List Int} {z0 : σ} {v10 : Int} {v11 : σ} {v15 : List Int} {v16 : Int} {m : Option Nat} {o : ((List Int) × σ)} (h : S_slices_symMergeCmpFunc_int_33_3_l4 rec0 g0 m v10 v11 v15 v16 = some o) :
    LWp Try.prog f33b3_lay 3 (.loop f33b3_c9) (QBlock 6 (QSeq Try.prog f33b3_lay 3 f33b3_c8 (QSeq Try.prog f33b3_lay 3 f33b3_c6 (f33b3_Q Hc fi0 ff0 fc0 a0 a1 a2 a3 z0 o)))) [(0, .msl (0, 0) 1 0 v15.length false), (14, .int .i64 v10), (17, .int .i64 v16)] ([((0, 0), .rows 1 (v15.map e_i64))] ++ up 3 (Hc v11)) 4 :=
  LWp_loopM (m := m) (s := ((v15, v16) : ((List Int) × Int))) (r := o) (fun (s : ((List Int) × Int)) => S_slices_symMergeCmpFunc_int_33_3_b4 rec0 g0 m v10 v11 s.1 s.2) (f33b3_L4_env Hc fi0 ff0 fc0 v10 v11) (f33b3_L4_hp Hc fi0 ff0 fc0 v10 v11) (f33b3_L4_Q Hc fi0 ff0 fc0 a0 a1 a2 a3 z0) (fun s o h => f33b3_L4_bok hrec0 hg0 h) h

theorem f33b3_j3_ok {σ : Type} {Hc : σ → AHeap} {fi0 : Fn} {ff0 fc0 : List AVal} {g0 : σ → (Int × Int) → Option (Int × σ)} {rec0 : Int → Int → Int → (List Int) → σ → Option ((List Int) × σ)} (hrec0 : ∀ {a0 : Int} {a1 : Int} {a2 : Int} {a3 : List Int} {z0 : σ} {o : (List Int) × σ}, rec0 a0 a1 a2 a3 z0 = some o → ACalls Try.prog 33 [.msl (0, 0) 1 0 a3.length false, .int .i64 a0, .int .i64 a1, .int .i64 a2, .fn fi0 ff0 fc0] ([((0, 0), .rows 1 (a3.map e_i64))] ++ Hc z0) 3 (Gives 4 (.tup []) ([((0, 0), .rows 1 (o.1.map e_i64))] ++ up 3 (Hc o.2)))) (hg0 : Clo Try.prog fi0 ff0 fc0 Hc (fun (x : (Int × Int)) => [.int .i64 x.1, .int .i64 x.2]) (fun (b : Int) => .int .i64 b) g0) {a0 : Int} {a2 : Int} {z0 : σ} {a1 : Int} {a3 : List Int} {v10 : Int} {v11 : σ} {m : Option Nat} {o : ((List Int) × σ)} (h : S_slices_symMergeCmpFunc_int_33_3_j3 rec0 g0 m a1 a3 v10 v11 = some o) :
    LWp Try.prog f33b3_lay 3 f33b3_c5 (QSeq Try.prog f33b3_lay 3 f33b3_c6 (f33b3_Q Hc fi0 ff0 fc0 a0 a1 a2 a3 z0 o)) [(0, .msl (0, 0) 1 0 a3.length false), (2, .int .i64 a1), (14, .int .i64 v10)] ([((0, 0), .rows 1 (a3.map e_i64))] ++ up 3 (Hc v11)) 4 := by
  unfold S_slices_symMergeCmpFunc_int_33_3_j3 at h
  refine seqI ?_
  refine seqI ?_
  refine regI ?_
  refine blockI ?_
  refine LWp.sim ?_ (f33b3_L4_ok hrec0 hg0 h)
  exact simT (M := []) (lit' := [((0, 0), .rows 1 (a3.map e_i64))]) (hg0.tl _) rfl (AI (Vw.mslE rfl (by first | rfl | omega | (simp; done) | (simp at *; omega)) rfl) (AI (VS rfl) (AI (VS rfl) TT))) (AI (AI rfl (BVw.enc e_i64 (fun _ => rfl) _ a3)) TT)

theorem f33b3_L3_bok {σ : Type} {Hc : σ → AHeap} {fi0 : Fn} {ff0 fc0 : List AVal} {g0 : σ → (Int × Int) → Option (Int × σ)} {rec0 : Int → Int → Int → (List Int) → σ → Option ((List Int) × σ)} (hrec0 : ∀ {a0 : Int} {a1 : Int} {a2 : Int} {a3 : List Int} {z0 : σ} {o : (List Int) × σ}, rec0 a0 a1 a2 a3 z0 = some o → ACalls Try.prog 33 [.msl (0, 0) 1 0 a3.length false, .int .i64 a0, .int .i64 a1, .int .i64 a2, .fn fi0 ff0 fc0] ([((0, 0), .rows 1 (a3.map e_i64))] ++ Hc z0) 3 (Gives 4 (.tup []) ([((0, 0), .rows 1 (o.1.map e_i64))] ++ up 3 (Hc o.2)))) (hg0 : Clo Try.prog fi0 ff0 fc0 Hc (fun (x : (Int × Int)) => [.int .i64 x.1, .int .i64 x.2]) (fun (b : Int) => .int .i64 b) g0) {a0 : Int} {a2 : Int} {z0 : σ} {a1 : Int} {a3 : List Int} {v10 : Int} {v11 : σ} {v12 : Int} {m : Option Nat} {o : (Int × σ × Int) ⊕ ((List Int) × σ)} (h : S_slices_symMergeCmpFunc_int_33_3_b3 rec0 g0 m a1 a3 v10 v11 v12 = some o) :
    LWp Try.prog f33b3_lay 3 f33b3_c7 (BodyQ 3 4 (f33b3_L3_env Hc fi0 ff0 fc0 a1 a3) (f33b3_L3_hp Hc fi0 ff0 fc0 a1 a3) (f33b3_L3_Q Hc fi0 ff0 fc0 a0 a1 a2 a3 z0) o) [(0, .msl (0, 0) 1 0 a3.length false), (2, .int .i64 a1), (4, .fn fi0 ff0 fc0), (14, .int .i64 v10), (15, .int .i64 v12)] ([((0, 0), .rows 1 (a3.map e_i64))] ++ up 3 (Hc v11)) 4 := by
  unfold S_slices_symMergeCmpFunc_int_33_3_b3 at h
  refine seqI ?_
  refine seqI ?_
  refine regI ?_
  refine condI (v := (decide (v10 < v12))) rfl TT (fun h65 => ?_) (fun h65 => ?_)
  · have h := ite_tt h65 h
    refine skipI ?_
    refine blockI ?_
    refine seqI ?_
    refine regI ?_
    refine AI (by decide) ?_
    refine LWp.sim (e := [(0, .msl (0, 0) 1 0 a3.length false), (2, .int .i64 a1), (4, .fn fi0 ff0 fc0), (14, .int .i64 v10), (15, .int .i64 v12), (16, .int .i64 (W ((IntKind.wrap .u64 (W (v10 + v12))).fdiv (2 ^ (min (1 : Int).toNat (IntKind.bits .u64))))))]) (L := ([((0, 0), .rows 1 (a3.map e_i64))] ++ up 3 (Hc v11))) (n := 4) ?_ ?_
    · exact simT (M := []) (lit' := [((0, 0), .rows 1 (a3.map e_i64))]) (hg0.tl _) rfl (AI (Vw.mslE rfl (by first | rfl | omega | (simp; done) | (simp at *; omega)) rfl) (AI (VS rfl) (AI (Vw.clo hg0.hf hg0.hc (by decide) (rhoT_1 (chkT_ok (n := 4) (q := 3) (lit' := [((0, 0), .rows 1 (a3.map e_i64))]) rfl))) (AI (VS rfl) (AI (VS rfl) (AI (VS rfl) TT)))))) (AI (AI rfl (BVw.enc e_i64 (fun _ => rfl) _ a3)) TT)
    refine seqI ?_
    refine drawO rfl ?_
    obtain ⟨h66, h⟩ := ite_some h
    refine AI h66 ?_
    obtain ⟨h67, h⟩ := ite_some h
    refine EX (e_i64 (a3.getD (0 + a1.toNat) default)) (AI (getD_enc e_i64 _ _ h67) (AI (AI (lt_map e_i64 h67) (NB rfl)) ?_))
    obtain ⟨h68, h⟩ := ite_some h
    refine AI h68 ?_
    obtain ⟨h69, h⟩ := ite_some h
    refine EX (e_i64 (a3.getD (0 + (W ((IntKind.wrap .u64 (W (v10 + v12))).fdiv (2 ^ (min (1 : Int).toNat (IntKind.bits .u64))))).toNat) default)) (AI (getD_enc e_i64 _ _ h69) (AI (AI (lt_map e_i64 h69) (NB rfl)) ?_))
    obtain ⟨v14, h70, h⟩ := bind_some h
    refine Clo.use (q := 3) (lit := [((0, 0), .rows 1 (a3.map e_i64))]) hg0 h70 rfl rfl (AI (VS rfl) (AI (VS rfl) TT)) ?_
    refine LWp.sim (e := [(0, .msl (0, 0) 1 0 a3.length false), (2, .int .i64 a1), (4, .fn fi0 ff0 fc0), (14, .int .i64 v10), (15, .int .i64 v12), (16, .int .i64 (W ((IntKind.wrap .u64 (W (v10 + v12))).fdiv (2 ^ (min (1 : Int).toNat (IntKind.bits .u64)))))), (103, .bool (!(decide (v14.1 < 0))))]) (L := ([((0, 0), .rows 1 (a3.map e_i64))] ++ up 3 (Hc v14.2))) (n := 4) ?_ ?_
    · exact simT (M := []) (lit' := [((0, 0), .rows 1 (a3.map e_i64))]) (hg0.tl _) rfl (AI (Vw.mslE rfl (by first | rfl | omega | (simp; done) | (simp at *; omega)) rfl) (AI (VS rfl) (AI (Vw.clo hg0.hf hg0.hc (by decide) (rhoT_1 (chkT_ok (n := 4) (q := 4) (lit' := [((0, 0), .rows 1 (a3.map e_i64))]) rfl))) (AI (VS rfl) (AI (VS rfl) (AI (VS rfl) (AI (VS rfl) TT))))))) (AI (AI rfl (BVw.enc e_i64 (fun _ => rfl) _ a3)) TT)
    refine condI (v := (!(decide (v14.1 < 0)))) rfl TT (fun h71 => ?_) (fun h71 => ?_)
    · have h := ite_tt h71 h
      refine regI ?_
      cases h
      exact AI rfl (simT (M := []) (lit' := [((0, 0), .rows 1 (a3.map e_i64))]) (hg0.tl _) rfl (AI (Vw.mslE rfl (by first | rfl | omega | (simp; done) | (simp at *; omega)) rfl) (AI (VS rfl) (AI (Vw.clo hg0.hf hg0.hc (by decide) (rhoT_1 (chkT_ok (n := 4) (q := 3) (lit' := [((0, 0), .rows 1 (a3.map e_i64))]) rfl))) (AI (VS rfl) (AI (VS rfl) TT))))) (AI (AI rfl (BVw.enc e_i64 (fun _ => rfl) _ a3)) TT))
    · have h := ite_ff h71 h
      refine regI ?_
      cases h
      exact AI rfl (simT (M := []) (lit' := [((0, 0), .rows 1 (a3.map e_i64))]) (hg0.tl _) rfl (AI (Vw.mslE rfl (by first | rfl | omega | (simp; done) | (simp at *; omega)) rfl) (AI (VS rfl) (AI (Vw.clo hg0.hf hg0.hc (by decide) (rhoT_1 (chkT_ok (n := 4) (q := 3) (lit' := [((0, 0), .rows 1 (a3.map e_i64))]) rfl))) (AI (VS rfl) (AI (VS rfl) TT))))) (AI (AI rfl (BVw.enc e_i64 (fun _ => rfl) _ a3)) TT))
  · have h := ite_ff h65 h
    refine exitI ?_
    obtain ⟨o, hq, rfl⟩ := Option.map_eq_some_iff.1 h
    replace h := hq; clear hq
    refine AI nofun ?_
    refine LWp.sim ?_ (f33b3_j3_ok hrec0 hg0 h)
    exact simT (M := []) (lit' := [((0, 0), .rows 1 (a3.map e_i64))]) (hg0.tl _) rfl (AI (Vw.mslE rfl (by first | rfl | omega | (simp; done) | (simp at *; omega)) rfl) (AI (VS rfl) (AI (VS rfl) TT))) (AI (AI rfl (BVw.enc e_i64 (fun _ => rfl) _ a3)) TT)

theorem f33b3_L3_ok {σ : Type} {Hc : σ → AHeap} {fi0 : Fn} {ff0 fc0 : List AVal} {g0 : σ → (Int × Int) → Option (Int × σ)} {rec0 : Int → Int → Int → (List Int) → σ → Option ((List Int) × σ)} (hrec0 : ∀ {a0 : Int} {a1 : Int} {a2 : Int} {a3 : List Int} {z0 : σ} {o : (List Int) × σ}, rec0 a0 a1 a2 a3 z0 = some o → ACalls Try.prog 33 [.msl (0, 0) 1 0 a3.length false, .int .i64 a0, .int .i64 a1, .int .i64 a2, .fn fi0 ff0 fc0] ([((0, 0), .rows 1 (a3.map e_i64))] ++ Hc z0) 3 (Gives 4 (.tup []) ([((0, 0), .rows 1 (o.1.map e_i64))] ++ up 3 (Hc o.2)))) (hg0 : Clo Try.prog fi0 ff0 fc0 Hc (fun (x : (Int × Int)) => [.int .i64 x.1, .int .i64 x.2]) (fun (b : Int) => .int .i64 b) g0) {a0 : Int} {a2 : Int} {z0 : σ} {a1 : Int} {a3 : List Int} {v10 : Int} {v11 : σ} {v12 : Int} {m : Option Nat} {o : ((List Int) × σ)} (h : S_slices_symMergeCmpFunc_int_33_3_l3 rec0 g0 m a1 a3 v10 v11 v12 = some o) :
    LWp Try.prog f33b3_lay 3 (.loop f33b3_c7) (QBlock 4 (QSeq Try.prog f33b3_lay 3 f33b3_c5 (QSeq Try.prog f33b3_lay 3 f33b3_c6 (f33b3_Q Hc fi0 ff0 fc0 a0 a1 a2 a3 z0 o)))) [(0, .msl (0, 0) 1 0 a3.length false), (2, .int .i64 a1), (4, .fn fi0 ff0 fc0), (14, .int .i64 v10), (15, .int .i64 v12)] ([((0, 0), .rows 1 (a3.map e_i64))] ++ up 3 (Hc v11)) 4 :=
  LWp_loopM (m := m) (s := ((v10, v11, v12) : (Int × σ × Int))) (r := o) (fun (s : (Int × σ × Int)) => S_slices_symMergeCmpFunc_int_33_3_b3 rec0 g0 m a1 a3 s.1 s.2.1 s.2.2) (f33b3_L3_env Hc fi0 ff0 fc0 a1 a3) (f33b3_L3_hp Hc fi0 ff0 fc0 a1 a3) (f33b3_L3_Q Hc fi0 ff0 fc0 a0 a1 a2 a3 z0) (fun s o h => f33b3_L3_bok hrec0 hg0 h) h

def f33b3_L5_env {σ : Type} (Hc : σ → AHeap) (fi0 : Fn) (ff0 fc0 : List AVal) (a0 : Int) (a1 : Int) (a2 : Int) (a3 : List Int) (s : (Int × σ × Int)) : Env := [(0, .msl (0, 0) 1 0 a3.length false), (1, .int .i64 a0), (2, .int .i64 a1), (3, .int .i64 a2), (4, .fn fi0 ff0 fc0), (18, .int .i64 (W ((IntKind.wrap .u64 (W (a0 + a2))).fdiv (2 ^ (min (1 : Int).toNat (IntKind.bits .u64)))))), (19, .int .i64 (W ((W ((IntKind.wrap .u64 (W (a0 + a2))).fdiv (2 ^ (min (1 : Int).toNat (IntKind.bits .u64))))) + a1))), (20, .int .i64 s.1), (21, .int .i64 s.2.2), (22, .int .i64 (W ((W ((W ((IntKind.wrap .u64 (W (a0 + a2))).fdiv (2 ^ (min (1 : Int).toNat (IntKind.bits .u64))))) + a1)) - 1)))]
def f33b3_L5_hp {σ : Type} (Hc : σ → AHeap) (fi0 : Fn) (ff0 fc0 : List AVal) (a0 : Int) (a1 : Int) (a2 : Int) (a3 : List Int) (s : (Int × σ × Int)) : AHeap := ([((0, 0), .rows 1 (a3.map e_i64))] ++ up 3 (Hc s.2.1))
def f33b3_L5_Q {σ : Type} (Hc : σ → AHeap) (fi0 : Fn) (ff0 fc0 : List AVal) (a0 : Int) (a1 : Int) (a2 : Int) (a3 : List Int) (z0 : σ) (o : ((List Int) × σ)) : Exit → Env → AHeap → Nat → Prop := (QBlock 8 (QSeq Try.prog f33b3_lay 3 f33b3_c10 (f33b3_Q Hc fi0 ff0 fc0 a0 a1 a2 a3 z0 o)))

noncomputable def S_slices_symMergeCmpFunc_int_33_3_j8 {σ : Type} (rec0 : Int → Int → Int → (List Int) → σ → Option ((List Int) × σ)) (g0 : σ → (Int × Int) → Option (Int × σ)) (m : Option Nat) (a0 : Int) (a1 : Int) (a2 : Int) (v20 : Int) (v29 : List Int) (v30 : σ) : Option ((List Int) × σ) :=
  if ((decide ((W ((IntKind.wrap .u64 (W (a0 + a2))).fdiv (2 ^ (min (1 : Int).toNat (IntKind.bits .u64))))) < (W ((W ((W ((IntKind.wrap .u64 (W (a0 + a2))).fdiv (2 ^ (min (1 : Int).toNat (IntKind.bits .u64))))) + a1)) - v20)))) && (decide ((W ((W ((W ((IntKind.wrap .u64 (W (a0 + a2))).fdiv (2 ^ (min (1 : Int).toNat (IntKind.bits .u64))))) + a1)) - v20)) < a2))) = true then
    (rec0 (W ((IntKind.wrap .u64 (W (a0 + a2))).fdiv (2 ^ (min (1 : Int).toNat (IntKind.bits .u64))))) (W ((W ((W ((IntKind.wrap .u64 (W (a0 + a2))).fdiv (2 ^ (min (1 : Int).toNat (IntKind.bits .u64))))) + a1)) - v20)) a2 v29 v30).bind fun v31 =>
    if v31.1.length = v29.length then
    some (v31.1, v31.2)
    else none
  else
    some (v29, v30)

noncomputable def S_slices_symMergeCmpFunc_int_33_3_j7 {σ : Type} (rec0 : Int → Int → Int → (List Int) → σ → Option ((List Int) × σ)) (g0 : σ → (Int × Int) → Option (Int × σ)) (m : Option Nat) (a0 : Int) (a1 : Int) (a2 : Int) (v20 : Int) (v26 : List Int) (v27 : σ) : Option ((List Int) × σ) :=
  if ((decide (a0 < v20)) && (decide (v20 < (W ((IntKind.wrap .u64 (W (a0 + a2))).fdiv (2 ^ (min (1 : Int).toNat (IntKind.bits .u64)))))))) = true then
    (rec0 a0 v20 (W ((IntKind.wrap .u64 (W (a0 + a2))).fdiv (2 ^ (min (1 : Int).toNat (IntKind.bits .u64))))) v26 v27).bind fun v28 =>
    if v28.1.length = v26.length then
    S_slices_symMergeCmpFunc_int_33_3_j8 rec0 g0 m a0 a1 a2 v20 v28.1 v28.2
    else none
  else
    S_slices_symMergeCmpFunc_int_33_3_j8 rec0 g0 m a0 a1 a2 v20 v26 v27

noncomputable def S_slices_symMergeCmpFunc_int_33_3_j6 {σ : Type} (rec0 : Int → Int → Int → (List Int) → σ → Option ((List Int) × σ)) (g0 : σ → (Int × Int) → Option (Int × σ)) (m : Option Nat) (a0 : Int) (a1 : Int) (a2 : Int) (a3 : List Int) (v20 : Int) (v21 : σ) : Option ((List Int) × σ) :=
  if ((decide (v20 < a1)) && (decide (a1 < (W ((W ((W ((IntKind.wrap .u64 (W (a0 + a2))).fdiv (2 ^ (min (1 : Int).toNat (IntKind.bits .u64))))) + a1)) - v20))))) = true then
    (S_slices_rotateCmpFunc_int g0 m v20 a1 (W ((W ((W ((IntKind.wrap .u64 (W (a0 + a2))).fdiv (2 ^ (min (1 : Int).toNat (IntKind.bits .u64))))) + a1)) - v20)) a3 v21).bind fun v25 =>
    if v25.1.length = a3.length then
    S_slices_symMergeCmpFunc_int_33_3_j7 rec0 g0 m a0 a1 a2 v20 v25.1 v25.2
    else none
  else
    S_slices_symMergeCmpFunc_int_33_3_j7 rec0 g0 m a0 a1 a2 v20 a3 v21

noncomputable def S_slices_symMergeCmpFunc_int_33_3_b5 {σ : Type} (rec0 : Int → Int → Int → (List Int) → σ → Option ((List Int) × σ)) (g0 : σ → (Int × Int) → Option (Int × σ)) (m : Option Nat) (a0 : Int) (a1 : Int) (a2 : Int) (a3 : List Int) (v20 : Int) (v21 : σ) (v22 : Int) : Option ((Int × σ × Int) ⊕ ((List Int) × σ)) :=
  if (decide (v20 < v22)) = true then
    if (0 : Int) ≤ (W ((W ((W ((W ((IntKind.wrap .u64 (W (a0 + a2))).fdiv (2 ^ (min (1 : Int).toNat (IntKind.bits .u64))))) + a1)) - 1)) - (W ((IntKind.wrap .u64 (W (v20 + v22))).fdiv (2 ^ (min (1 : Int).toNat (IntKind.bits .u64))))))) ∧ (W ((W ((W ((W ((IntKind.wrap .u64 (W (a0 + a2))).fdiv (2 ^ (min (1 : Int).toNat (IntKind.bits .u64))))) + a1)) - 1)) - (W ((IntKind.wrap .u64 (W (v20 + v22))).fdiv (2 ^ (min (1 : Int).toNat (IntKind.bits .u64))))))) < ((a3.length : Nat) : Int) then
    if (0 + (W ((W ((W ((W ((IntKind.wrap .u64 (W (a0 + a2))).fdiv (2 ^ (min (1 : Int).toNat (IntKind.bits .u64))))) + a1)) - 1)) - (W ((IntKind.wrap .u64 (W (v20 + v22))).fdiv (2 ^ (min (1 : Int).toNat (IntKind.bits .u64))))))).toNat) < a3.length then
    if (0 : Int) ≤ (W ((IntKind.wrap .u64 (W (v20 + v22))).fdiv (2 ^ (min (1 : Int).toNat (IntKind.bits .u64))))) ∧ (W ((IntKind.wrap .u64 (W (v20 + v22))).fdiv (2 ^ (min (1 : Int).toNat (IntKind.bits .u64))))) < ((a3.length : Nat) : Int) then
    if (0 + (W ((IntKind.wrap .u64 (W (v20 + v22))).fdiv (2 ^ (min (1 : Int).toNat (IntKind.bits .u64))))).toNat) < a3.length then
    (g0 v21 ((a3.getD (0 + (W ((W ((W ((W ((IntKind.wrap .u64 (W (a0 + a2))).fdiv (2 ^ (min (1 : Int).toNat (IntKind.bits .u64))))) + a1)) - 1)) - (W ((IntKind.wrap .u64 (W (v20 + v22))).fdiv (2 ^ (min (1 : Int).toNat (IntKind.bits .u64))))))).toNat) default), (a3.getD (0 + (W ((IntKind.wrap .u64 (W (v20 + v22))).fdiv (2 ^ (min (1 : Int).toNat (IntKind.bits .u64))))).toNat) default))).bind fun v24 =>
    if (!(decide (v24.1 < 0))) = true then
      some (.inl ((W ((W ((IntKind.wrap .u64 (W (v20 + v22))).fdiv (2 ^ (min (1 : Int).toNat (IntKind.bits .u64))))) + 1)), v24.2, v22))
    else
      some (.inl (v20, v24.2, (W ((IntKind.wrap .u64 (W (v20 + v22))).fdiv (2 ^ (min (1 : Int).toNat (IntKind.bits .u64)))))))
    else none
    else none
    else none
    else none
  else
    Option.map Sum.inr (
      S_slices_symMergeCmpFunc_int_33_3_j6 rec0 g0 m a0 a1 a2 a3 v20 v21)

noncomputable def S_slices_symMergeCmpFunc_int_33_3_l5 {σ : Type} (rec0 : Int → Int → Int → (List Int) → σ → Option ((List Int) × σ)) (g0 : σ → (Int × Int) → Option (Int × σ)) (m : Option Nat) (a0 : Int) (a1 : Int) (a2 : Int) (a3 : List Int) (v20 : Int) (v21 : σ) (v22 : Int) : Option ((List Int) × σ) := loopM m (fun (s : (Int × σ × Int)) => S_slices_symMergeCmpFunc_int_33_3_b5 rec0 g0 m a0 a1 a2 a3 s.1 s.2.1 s.2.2) (v20, v21, v22)

theorem f33b3_j8_ok {σ : Type} {Hc : σ → AHeap} {fi0 : Fn} {ff0 fc0 : List AVal} {g0 : σ → (Int × Int) → Option (Int × σ)} {rec0 : Int → Int → Int → (List Int) → σ → Option ((List Int) × σ)} (hrec0 : ∀ {a0 : Int} {a1 : Int} {a2 : Int} {a3 : List Int} {z0 : σ} {o : (List Int) × σ}, rec0 a0 a1 a2 a3 z0 = some o → ACalls Try.prog 33 [.msl (0, 0) 1 0 a3.length false, .int .i64 a0, .int .i64 a1, .int .i64 a2, .fn fi0 ff0 fc0] ([((0, 0), .rows 1 (a3.map e_i64))] ++ Hc z0) 3 (Gives 4 (.tup []) ([((0, 0), .rows 1 (o.1.map e_i64))] ++ up 3 (Hc o.2)))) (hg0 : Clo Try.prog fi0 ff0 fc0 Hc (fun (x : (Int × Int)) => [.int .i64 x.1, .int .i64 x.2]) (fun (b : Int) => .int .i64 b) g0) {a3 : List Int} {z0 : σ} {a0 : Int} {a1 : Int} {a2 : Int} {v20 : Int} {v29 : List Int} {v30 : σ} {m : Option Nat} {o : ((List Int) × σ)} (h : S_slices_symMergeCmpFunc_int_33_3_j8 rec0 g0 m a0 a1 a2 v20 v29 v30 = some o) :
    LWp Try.prog f33b3_lay 3 f33b3_c12 (f33b3_Q Hc fi0 ff0 fc0 a0 a1 a2 a3 z0 o) [(0, .msl (0, 0) 1 0 v29.length false), (3, .int .i64 a2), (4, .fn fi0 ff0 fc0), (18, .int .i64 (W ((IntKind.wrap .u64 (W (a0 + a2))).fdiv (2 ^ (min (1 : Int).toNat (IntKind.bits .u64)))))), (24, .int .i64 (W ((W ((W ((IntKind.wrap .u64 (W (a0 + a2))).fdiv (2 ^ (min (1 : Int).toNat (IntKind.bits .u64))))) + a1)) - v20)))] ([((0, 0), .rows 1 (v29.map e_i64))] ++ up 3 (Hc v30)) 4 := by
  unfold S_slices_symMergeCmpFunc_int_33_3_j8 at h
  refine seqI ?_
  refine regI ?_
  refine AI (fun hp => (AI hp hp)) ?_
  refine AI (fun hc => (bqt hc)) ?_
  refine LWp.sim (e := [(0, .msl (0, 0) 1 0 v29.length false), (3, .int .i64 a2), (4, .fn fi0 ff0 fc0), (18, .int .i64 (W ((IntKind.wrap .u64 (W (a0 + a2))).fdiv (2 ^ (min (1 : Int).toNat (IntKind.bits .u64)))))), (24, .int .i64 (W ((W ((W ((IntKind.wrap .u64 (W (a0 + a2))).fdiv (2 ^ (min (1 : Int).toNat (IntKind.bits .u64))))) + a1)) - v20))), (213, .bool ((decide ((W ((IntKind.wrap .u64 (W (a0 + a2))).fdiv (2 ^ (min (1 : Int).toNat (IntKind.bits .u64))))) < (W ((W ((W ((IntKind.wrap .u64 (W (a0 + a2))).fdiv (2 ^ (min (1 : Int).toNat (IntKind.bits .u64))))) + a1)) - v20)))) && (decide ((W ((W ((W ((IntKind.wrap .u64 (W (a0 + a2))).fdiv (2 ^ (min (1 : Int).toNat (IntKind.bits .u64))))) + a1)) - v20)) < a2))))]) (L := ([((0, 0), .rows 1 (v29.map e_i64))] ++ up 3 (Hc v30))) (n := 4) ?_ ?_
  · exact simT (M := []) (lit' := [((0, 0), .rows 1 (v29.map e_i64))]) (hg0.tl _) rfl (AI (Vw.mslE rfl (by first | rfl | omega | (simp; done) | (simp at *; omega)) rfl) (AI (VS rfl) (AI (Vw.clo hg0.hf hg0.hc (by decide) (rhoT_1 (chkT_ok (n := 4) (q := 3) (lit' := [((0, 0), .rows 1 (v29.map e_i64))]) rfl))) (AI (VS rfl) (AI (VS rfl) (AI (VS rfl) TT)))))) (AI (AI rfl (BVw.enc e_i64 (fun _ => rfl) _ v29)) TT)
  refine condI (v := ((decide ((W ((IntKind.wrap .u64 (W (a0 + a2))).fdiv (2 ^ (min (1 : Int).toNat (IntKind.bits .u64))))) < (W ((W ((W ((IntKind.wrap .u64 (W (a0 + a2))).fdiv (2 ^ (min (1 : Int).toNat (IntKind.bits .u64))))) + a1)) - v20)))) && (decide ((W ((W ((W ((IntKind.wrap .u64 (W (a0 + a2))).fdiv (2 ^ (min (1 : Int).toNat (IntKind.bits .u64))))) + a1)) - v20)) < a2)))) rfl TT (fun h127 => ?_) (fun h127 => ?_)
  · have h := ite_tt h127 h
    refine regI ?_
    obtain ⟨v31, h128, h⟩ := bind_some h
    refine bcallT (m := 1) (q := 3) (lit0 := [((0, 0), .rows 1 (v29.map e_i64))]) (lit := [((0, 0), .rows 1 (v29.map e_i64))]) (L := [((0, 0), .rows 1 (v31.1.map e_i64))]) (L' := [((0, 0), .rows 1 (v31.1.map e_i64))]) (rest := []) (R' := .tup []) (hg0.tl _) (hg0.tl _) [((0, 0), (0, 0))] (hrec0 h128) rfl rfl rfl rfl rfl rfl (AI (Vw.mslE rfl (by first | rfl | omega | (simp; done) | (simp at *; omega)) rfl) (AI (VS rfl) (AI (VS rfl) (AI (VS rfl) (AI (Vw.clo hg0.hf hg0.hc (by decide) (lookT_1 _ _)) TT))))) (AI (h0I (0, 0) rfl rfl (BVw.enc e_i64 (fun _ => rfl) _ v29)) TT) (nid_ren _ rfl) (AI rfl (AI (rows_ren e_i64 (fun _ => rfl) _ _) TT)) rfl ?_
    obtain ⟨h129, h⟩ := ite_some h
    cases h
    exact finT (n' := 6) (q := 4) (lit' := [((0, 0), .rows 1 (v31.1.map e_i64))]) (hg0.tl _) [] [] rfl rfl (VS rfl) (AI (AI rfl (BVw.enc e_i64 (fun _ => rfl) _ v31.1)) TT)
  · have h := ite_ff h127 h
    refine skipI ?_
    cases h
    exact finT (n' := 4) (q := 3) (lit' := [((0, 0), .rows 1 (v29.map e_i64))]) (hg0.tl _) [] [] rfl rfl (VS rfl) (AI (AI rfl (BVw.enc e_i64 (fun _ => rfl) _ v29)) TT)

theorem f33b3_j7_ok {σ : Type} {Hc : σ → AHeap} {fi0 : Fn} {ff0 fc0 : List AVal} {g0 : σ → (Int × Int) → Option (Int × σ)} {rec0 : Int → Int → Int → (List Int) → σ → Option ((List Int) × σ)} (hrec0 : ∀ {a0 : Int} {a1 : Int} {a2 : Int} {a3 : List Int} {z0 : σ} {o : (List Int) × σ}, rec0 a0 a1 a2 a3 z0 = some o → ACalls Try.prog 33 [.msl (0, 0) 1 0 a3.length false, .int .i64 a0, .int .i64 a1, .int .i64 a2, .fn fi0 ff0 fc0] ([((0, 0), .rows 1 (a3.map e_i64))] ++ Hc z0) 3 (Gives 4 (.tup []) ([((0, 0), .rows 1 (o.1.map e_i64))] ++ up 3 (Hc o.2)))) (hg0 : Clo Try.prog fi0 ff0 fc0 Hc (fun (x : (Int × Int)) => [.int .i64 x.1, .int .i64 x.2]) (fun (b : Int) => .int .i64 b) g0) {a3 : List Int} {z0 : σ} {a0 : Int} {a1 : Int} {a2 : Int} {v20 : Int} {v26 : List Int} {v27 : σ} {m : Option Nat} {o : ((List Int) × σ)} (h : S_slices_symMergeCmpFunc_int_33_3_j7 rec0 g0 m a0 a1 a2 v20 v26 v27 = some o) :
    LWp Try.prog f33b3_lay 3 f33b3_c13 (f33b3_Q Hc fi0 ff0 fc0 a0 a1 a2 a3 z0 o) [(0, .msl (0, 0) 1 0 v26.length false), (1, .int .i64 a0), (3, .int .i64 a2), (4, .fn fi0 ff0 fc0), (18, .int .i64 (W ((IntKind.wrap .u64 (W (a0 + a2))).fdiv (2 ^ (min (1 : Int).toNat (IntKind.bits .u64)))))), (20, .int .i64 v20), (24, .int .i64 (W ((W ((W ((IntKind.wrap .u64 (W (a0 + a2))).fdiv (2 ^ (min (1 : Int).toNat (IntKind.bits .u64))))) + a1)) - v20)))] ([((0, 0), .rows 1 (v26.map e_i64))] ++ up 3 (Hc v27)) 4 := by
  unfold S_slices_symMergeCmpFunc_int_33_3_j7 at h
  refine seqI ?_
  refine seqI ?_
  refine regI ?_
  refine AI (fun hp => (AI hp hp)) ?_
  refine AI (fun hc => (bqt hc)) ?_
  refine LWp.sim (e := [(0, .msl (0, 0) 1 0 v26.length false), (1, .int .i64 a0), (3, .int .i64 a2), (4, .fn fi0 ff0 fc0), (18, .int .i64 (W ((IntKind.wrap .u64 (W (a0 + a2))).fdiv (2 ^ (min (1 : Int).toNat (IntKind.bits .u64)))))), (20, .int .i64 v20), (24, .int .i64 (W ((W ((W ((IntKind.wrap .u64 (W (a0 + a2))).fdiv (2 ^ (min (1 : Int).toNat (IntKind.bits .u64))))) + a1)) - v20))), (199, .bool ((decide (a0 < v20)) && (decide (v20 < (W ((IntKind.wrap .u64 (W (a0 + a2))).fdiv (2 ^ (min (1 : Int).toNat (IntKind.bits .u64)))))))))]) (L := ([((0, 0), .rows 1 (v26.map e_i64))] ++ up 3 (Hc v27))) (n := 4) ?_ ?_
  · exact simT (M := []) (lit' := [((0, 0), .rows 1 (v26.map e_i64))]) (hg0.tl _) rfl (AI (Vw.mslE rfl (by first | rfl | omega | (simp; done) | (simp at *; omega)) rfl) (AI (VS rfl) (AI (VS rfl) (AI (Vw.clo hg0.hf hg0.hc (by decide) (rhoT_1 (chkT_ok (n := 4) (q := 3) (lit' := [((0, 0), .rows 1 (v26.map e_i64))]) rfl))) (AI (VS rfl) (AI (VS rfl) (AI (VS rfl) (AI (VS rfl) TT)))))))) (AI (AI rfl (BVw.enc e_i64 (fun _ => rfl) _ v26)) TT)
  refine condI (v := ((decide (a0 < v20)) && (decide (v20 < (W ((IntKind.wrap .u64 (W (a0 + a2))).fdiv (2 ^ (min (1 : Int).toNat (IntKind.bits .u64))))))))) rfl TT (fun h124 => ?_) (fun h124 => ?_)
  · have h := ite_tt h124 h
    refine regI ?_
    obtain ⟨v28, h125, h⟩ := bind_some h
    refine bcallT (m := 1) (q := 3) (lit0 := [((0, 0), .rows 1 (v26.map e_i64))]) (lit := [((0, 0), .rows 1 (v26.map e_i64))]) (L := [((0, 0), .rows 1 (v28.1.map e_i64))]) (L' := [((0, 0), .rows 1 (v28.1.map e_i64))]) (rest := []) (R' := .tup []) (hg0.tl _) (hg0.tl _) [((0, 0), (0, 0))] (hrec0 h125) rfl rfl rfl rfl rfl rfl (AI (Vw.mslE rfl (by first | rfl | omega | (simp; done) | (simp at *; omega)) rfl) (AI (VS rfl) (AI (VS rfl) (AI (VS rfl) (AI (Vw.clo hg0.hf hg0.hc (by decide) (lookT_1 _ _)) TT))))) (AI (h0I (0, 0) rfl rfl (BVw.enc e_i64 (fun _ => rfl) _ v26)) TT) (nid_ren _ rfl) (AI rfl (AI (rows_ren e_i64 (fun _ => rfl) _ _) TT)) rfl ?_
    obtain ⟨h126, h⟩ := ite_some h
    refine LWp.sim ?_ (f33b3_j8_ok hrec0 hg0 h)
    exact simT (M := []) (lit' := [((0, 0), .rows 1 (v28.1.map e_i64))]) (hg0.tl _) rfl (AI (Vw.mslE rfl (by first | rfl | omega | (simp; done) | (simp at *; omega)) rfl) (AI (VS rfl) (AI (Vw.clo hg0.hf hg0.hc (by decide) (rhoT_1 (chkT_ok (n := 4) (q := 4) (lit' := [((0, 0), .rows 1 (v28.1.map e_i64))]) rfl))) (AI (VS rfl) (AI (VS rfl) TT))))) (AI (AI rfl (BVw.enc e_i64 (fun _ => rfl) _ v28.1)) TT)
  · have h := ite_ff h124 h
    refine skipI ?_
    refine LWp.sim ?_ (f33b3_j8_ok hrec0 hg0 h)
    exact simT (M := []) (lit' := [((0, 0), .rows 1 (v26.map e_i64))]) (hg0.tl _) rfl (AI (Vw.mslE rfl (by first | rfl | omega | (simp; done) | (simp at *; omega)) rfl) (AI (VS rfl) (AI (Vw.clo hg0.hf hg0.hc (by decide) (rhoT_1 (chkT_ok (n := 4) (q := 3) (lit' := [((0, 0), .rows 1 (v26.map e_i64))]) rfl))) (AI (VS rfl) (AI (VS rfl) TT))))) (AI (AI rfl (BVw.enc e_i64 (fun _ => rfl) _ v26)) TT)

theorem f33b3_j6_ok {σ : Type} {Hc : σ → AHeap} {fi0 : Fn} {ff0 fc0 : List AVal} {g0 : σ → (Int × Int) → Option (Int × σ)} {rec0 : Int → Int → Int → (List Int) → σ → Option ((List Int) × σ)} (hrec0 : ∀ {a0 : Int} {a1 : Int} {a2 : Int} {a3 : List Int} {z0 : σ} {o : (List Int) × σ}, rec0 a0 a1 a2 a3 z0 = some o → ACalls Try.prog 33 [.msl (0, 0) 1 0 a3.length false, .int .i64 a0, .int .i64 a1, .int .i64 a2, .fn fi0 ff0 fc0] ([((0, 0), .rows 1 (a3.map e_i64))] ++ Hc z0) 3 (Gives 4 (.tup []) ([((0, 0), .rows 1 (o.1.map e_i64))] ++ up 3 (Hc o.2)))) (hg0 : Clo Try.prog fi0 ff0 fc0 Hc (fun (x : (Int × Int)) => [.int .i64 x.1, .int .i64 x.2]) (fun (b : Int) => .int .i64 b) g0) {z0 : σ} {a0 : Int} {a1 : Int} {a2 : Int} {a3 : List Int} {v20 : Int} {v21 : σ} {m : Option Nat} {o : ((List Int) × σ)} (h : S_slices_symMergeCmpFunc_int_33_3_j6 rec0 g0 m a0 a1 a2 a3 v20 v21 = some o) :
    LWp Try.prog f33b3_lay 3 f33b3_c10 (f33b3_Q Hc fi0 ff0 fc0 a0 a1 a2 a3 z0 o) [(0, .msl (0, 0) 1 0 a3.length false), (1, .int .i64 a0), (2, .int .i64 a1), (3, .int .i64 a2), (4, .fn fi0 ff0 fc0), (18, .int .i64 (W ((IntKind.wrap .u64 (W (a0 + a2))).fdiv (2 ^ (min (1 : Int).toNat (IntKind.bits .u64)))))), (19, .int .i64 (W ((W ((IntKind.wrap .u64 (W (a0 + a2))).fdiv (2 ^ (min (1 : Int).toNat (IntKind.bits .u64))))) + a1))), (20, .int .i64 v20)] ([((0, 0), .rows 1 (a3.map e_i64))] ++ up 3 (Hc v21)) 4 := by
  unfold S_slices_symMergeCmpFunc_int_33_3_j6 at h
  refine seqI ?_
  refine regI ?_
  refine seqI ?_
  refine seqI ?_
  refine regI ?_
  refine AI (fun hp => (AI hp hp)) ?_
  refine AI (fun hc => (bqt hc)) ?_
  refine LWp.sim (e := [(0, .msl (0, 0) 1 0 a3.length false), (1, .int .i64 a0), (2, .int .i64 a1), (3, .int .i64 a2), (4, .fn fi0 ff0 fc0), (18, .int .i64 (W ((IntKind.wrap .u64 (W (a0 + a2))).fdiv (2 ^ (min (1 : Int).toNat (IntKind.bits .u64)))))), (20, .int .i64 v20), (24, .int .i64 (W ((W ((W ((IntKind.wrap .u64 (W (a0 + a2))).fdiv (2 ^ (min (1 : Int).toNat (IntKind.bits .u64))))) + a1)) - v20))), (185, .bool ((decide (v20 < a1)) && (decide (a1 < (W ((W ((W ((IntKind.wrap .u64 (W (a0 + a2))).fdiv (2 ^ (min (1 : Int).toNat (IntKind.bits .u64))))) + a1)) - v20))))))]) (L := ([((0, 0), .rows 1 (a3.map e_i64))] ++ up 3 (Hc v21))) (n := 4) ?_ ?_
  · exact simT (M := []) (lit' := [((0, 0), .rows 1 (a3.map e_i64))]) (hg0.tl _) rfl (AI (Vw.mslE rfl (by first | rfl | omega | (simp; done) | (simp at *; omega)) rfl) (AI (VS rfl) (AI (VS rfl) (AI (VS rfl) (AI (Vw.clo hg0.hf hg0.hc (by decide) (rhoT_1 (chkT_ok (n := 4) (q := 3) (lit' := [((0, 0), .rows 1 (a3.map e_i64))]) rfl))) (AI (VS rfl) (AI (VS rfl) (AI (VS rfl) (AI (VS rfl) TT))))))))) (AI (AI rfl (BVw.enc e_i64 (fun _ => rfl) _ a3)) TT)
  refine condI (v := ((decide (v20 < a1)) && (decide (a1 < (W ((W ((W ((IntKind.wrap .u64 (W (a0 + a2))).fdiv (2 ^ (min (1 : Int).toNat (IntKind.bits .u64))))) + a1)) - v20)))))) rfl TT (fun h121 => ?_) (fun h121 => ?_)
  · have h := ite_tt h121 h
    refine regI ?_
    obtain ⟨v25, h122, h⟩ := bind_some h
    refine bcallT (m := 1) (q := 3) (lit0 := [((0, 0), .rows 1 (a3.map e_i64))]) (lit := [((0, 0), .rows 1 (a3.map e_i64))]) (L := [((0, 0), .rows 1 (v25.1.map e_i64))]) (L' := [((0, 0), .rows 1 (v25.1.map e_i64))]) (rest := []) (R' := .tup []) (hg0.tl _) (hg0.tl _) [((0, 0), (0, 0))] (f37b0_ok hg0 h122) rfl rfl rfl rfl rfl rfl (AI (Vw.mslE rfl (by first | rfl | omega | (simp; done) | (simp at *; omega)) rfl) (AI (VS rfl) (AI (VS rfl) (AI (VS rfl) (AI (Vw.clo hg0.hf hg0.hc (by decide) (lookT_1 _ _)) TT))))) (AI (h0I (0, 0) rfl rfl (BVw.enc e_i64 (fun _ => rfl) _ a3)) TT) (nid_ren _ rfl) (AI rfl (AI (rows_ren e_i64 (fun _ => rfl) _ _) TT)) rfl ?_
    obtain ⟨h123, h⟩ := ite_some h
    refine LWp.sim ?_ (f33b3_j7_ok hrec0 hg0 h)
    exact simT (M := []) (lit' := [((0, 0), .rows 1 (v25.1.map e_i64))]) (hg0.tl _) rfl (AI (Vw.mslE rfl (by first | rfl | omega | (simp; done) | (simp at *; omega)) rfl) (AI (VS rfl) (AI (VS rfl) (AI (Vw.clo hg0.hf hg0.hc (by decide) (rhoT_1 (chkT_ok (n := 4) (q := 4) (lit' := [((0, 0), .rows 1 (v25.1.map e_i64))]) rfl))) (AI (VS rfl) (AI (VS rfl) (AI (VS rfl) TT))))))) (AI (AI rfl (BVw.enc e_i64 (fun _ => rfl) _ v25.1)) TT)
  · have h := ite_ff h121 h
    refine skipI ?_
    refine LWp.sim ?_ (f33b3_j7_ok hrec0 hg0 h)
    exact simT (M := []) (lit' := [((0, 0), .rows 1 (a3.map e_i64))]) (hg0.tl _) rfl (AI (Vw.mslE rfl (by first | rfl | omega | (simp; done) | (simp at *; omega)) rfl) (AI (VS rfl) (AI (VS rfl) (AI (Vw.clo hg0.hf hg0.hc (by decide) (rhoT_1 (chkT_ok (n := 4) (q := 3) (lit' := [((0, 0), .rows 1 (a3.map e_i64))]) rfl))) (AI (VS rfl) (AI (VS rfl) (AI (VS rfl) TT))))))) (AI (AI rfl (BVw.enc e_i64 (fun _ => rfl) _ a3)) TT)

theorem f33b3_L5_bok {σ : Type} {Hc : σ → AHeap} {fi0 : Fn} {ff0 fc0 : List AVal} {g0 : σ → (Int × Int) → Option (Int × σ)} {rec0 : Int → Int → Int → (List Int) → σ → Option ((List Int) × σ)} (hrec0 : ∀ {a0 : Int} {a1 : Int} {a2 : Int} {a3 : List Int} {z0 : σ} {o : (List Int) × σ}, rec0 a0 a1 a2 a3 z0 = some o → ACalls Try.prog 33 [.msl (0, 0) 1 0 a3.length false, .int .i64 a0, .int .i64 a1, .int .i64 a2, .fn fi0 ff0 fc0] ([((0, 0), .rows 1 (a3.map e_i64))] ++ Hc z0) 3 (Gives 4 (.tup []) ([((0, 0), .rows 1 (o.1.map e_i64))] ++ up 3 (Hc o.2)))) (hg0 : Clo Try.prog fi0 ff0 fc0 Hc (fun (x : (Int × Int)) => [.int .i64 x.1, .int .i64 x.2]) (fun (b : Int) => .int .i64 b) g0) {z0 : σ} {a0 : Int} {a1 : Int} {a2 : Int} {a3 : List Int} {v20 : Int} {v21 : σ} {v22 : Int} {m : Option Nat} {o : (Int × σ × Int) ⊕ ((List Int) × σ)} (h : S_slices_symMergeCmpFunc_int_33_3_b5 rec0 g0 m a0 a1 a2 a3 v20 v21 v22 = some o) :
    LWp Try.prog f33b3_lay 3 f33b3_c11 (BodyQ 3 4 (f33b3_L5_env Hc fi0 ff0 fc0 a0 a1 a2 a3) (f33b3_L5_hp Hc fi0 ff0 fc0 a0 a1 a2 a3) (f33b3_L5_Q Hc fi0 ff0 fc0 a0 a1 a2 a3 z0) o) [(0, .msl (0, 0) 1 0 a3.length false), (1, .int .i64 a0), (2, .int .i64 a1), (3, .int .i64 a2), (4, .fn fi0 ff0 fc0), (18, .int .i64 (W ((IntKind.wrap .u64 (W (a0 + a2))).fdiv (2 ^ (min (1 : Int).toNat (IntKind.bits .u64)))))), (19, .int .i64 (W ((W ((IntKind.wrap .u64 (W (a0 + a2))).fdiv (2 ^ (min (1 : Int).toNat (IntKind.bits .u64))))) + a1))), (20, .int .i64 v20), (21, .int .i64 v22), (22, .int .i64 (W ((W ((W ((IntKind.wrap .u64 (W (a0 + a2))).fdiv (2 ^ (min (1 : Int).toNat (IntKind.bits .u64))))) + a1)) - 1)))] ([((0, 0), .rows 1 (a3.map e_i64))] ++ up 3 (Hc v21)) 4 := by
  unfold S_slices_symMergeCmpFunc_int_33_3_b5 at h
  refine seqI ?_
  refine seqI ?_
  refine regI ?_
  refine condI (v := (decide (v20 < v22))) rfl TT (fun h114 => ?_) (fun h114 => ?_)
  · have h := ite_tt h114 h
    refine skipI ?_
    refine blockI ?_
    refine seqI ?_
    refine regI ?_
    refine AI (by decide) ?_
    refine LWp.sim (e := [(0, .msl (0, 0) 1 0 a3.length false), (1, .int .i64 a0), (2, .int .i64 a1), (3, .int .i64 a2), (4, .fn fi0 ff0 fc0), (18, .int .i64 (W ((IntKind.wrap .u64 (W (a0 + a2))).fdiv (2 ^ (min (1 : Int).toNat (IntKind.bits .u64)))))), (19, .int .i64 (W ((W ((IntKind.wrap .u64 (W (a0 + a2))).fdiv (2 ^ (min (1 : Int).toNat (IntKind.bits .u64))))) + a1))), (20, .int .i64 v20), (21, .int .i64 v22), (22, .int .i64 (W ((W ((W ((IntKind.wrap .u64 (W (a0 + a2))).fdiv (2 ^ (min (1 : Int).toNat (IntKind.bits .u64))))) + a1)) - 1))), (23, .int .i64 (W ((IntKind.wrap .u64 (W (v20 + v22))).fdiv (2 ^ (min (1 : Int).toNat (IntKind.bits .u64))))))]) (L := ([((0, 0), .rows 1 (a3.map e_i64))] ++ up 3 (Hc v21))) (n := 4) ?_ ?_
    · exact simT (M := []) (lit' := [((0, 0), .rows 1 (a3.map e_i64))]) (hg0.tl _) rfl (AI (Vw.mslE rfl (by first | rfl | omega | (simp; done) | (simp at *; omega)) rfl) (AI (VS rfl) (AI (VS rfl) (AI (VS rfl) (AI (Vw.clo hg0.hf hg0.hc (by decide) (rhoT_1 (chkT_ok (n := 4) (q := 3) (lit' := [((0, 0), .rows 1 (a3.map e_i64))]) rfl))) (AI (VS rfl) (AI (VS rfl) (AI (VS rfl) (AI (VS rfl) (AI (VS rfl) (AI (VS rfl) TT))))))))))) (AI (AI rfl (BVw.enc e_i64 (fun _ => rfl) _ a3)) TT)
    refine seqI ?_
    refine drawO rfl ?_
    obtain ⟨h115, h⟩ := ite_some h
    refine AI h115 ?_
    obtain ⟨h116, h⟩ := ite_some h
    refine EX (e_i64 (a3.getD (0 + (W ((W ((W ((W ((IntKind.wrap .u64 (W (a0 + a2))).fdiv (2 ^ (min (1 : Int).toNat (IntKind.bits .u64))))) + a1)) - 1)) - (W ((IntKind.wrap .u64 (W (v20 + v22))).fdiv (2 ^ (min (1 : Int).toNat (IntKind.bits .u64))))))).toNat) default)) (AI (getD_enc e_i64 _ _ h116) (AI (AI (lt_map e_i64 h116) (NB rfl)) ?_))
    obtain ⟨h117, h⟩ := ite_some h
    refine AI h117 ?_
    obtain ⟨h118, h⟩ := ite_some h
    refine EX (e_i64 (a3.getD (0 + (W ((IntKind.wrap .u64 (W (v20 + v22))).fdiv (2 ^ (min (1 : Int).toNat (IntKind.bits .u64))))).toNat) default)) (AI (getD_enc e_i64 _ _ h118) (AI (AI (lt_map e_i64 h118) (NB rfl)) ?_))
    obtain ⟨v24, h119, h⟩ := bind_some h
    refine Clo.use (q := 3) (lit := [((0, 0), .rows 1 (a3.map e_i64))]) hg0 h119 rfl rfl (AI (VS rfl) (AI (VS rfl) TT)) ?_
    refine LWp.sim (e := [(0, .msl (0, 0) 1 0 a3.length false), (1, .int .i64 a0), (2, .int .i64 a1), (3, .int .i64 a2), (4, .fn fi0 ff0 fc0), (18, .int .i64 (W ((IntKind.wrap .u64 (W (a0 + a2))).fdiv (2 ^ (min (1 : Int).toNat (IntKind.bits .u64)))))), (19, .int .i64 (W ((W ((IntKind.wrap .u64 (W (a0 + a2))).fdiv (2 ^ (min (1 : Int).toNat (IntKind.bits .u64))))) + a1))), (20, .int .i64 v20), (21, .int .i64 v22), (22, .int .i64 (W ((W ((W ((IntKind.wrap .u64 (W (a0 + a2))).fdiv (2 ^ (min (1 : Int).toNat (IntKind.bits .u64))))) + a1)) - 1))), (23, .int .i64 (W ((IntKind.wrap .u64 (W (v20 + v22))).fdiv (2 ^ (min (1 : Int).toNat (IntKind.bits .u64)))))), (171, .bool (!(decide (v24.1 < 0))))]) (L := ([((0, 0), .rows 1 (a3.map e_i64))] ++ up 3 (Hc v24.2))) (n := 4) ?_ ?_
    · exact simT (M := []) (lit' := [((0, 0), .rows 1 (a3.map e_i64))]) (hg0.tl _) rfl (AI (Vw.mslE rfl (by first | rfl | omega | (simp; done) | (simp at *; omega)) rfl) (AI (VS rfl) (AI (VS rfl) (AI (VS rfl) (AI (Vw.clo hg0.hf hg0.hc (by decide) (rhoT_1 (chkT_ok (n := 4) (q := 4) (lit' := [((0, 0), .rows 1 (a3.map e_i64))]) rfl))) (AI (VS rfl) (AI (VS rfl) (AI (VS rfl) (AI (VS rfl) (AI (VS rfl) (AI (VS rfl) (AI (VS rfl) TT)))))))))))) (AI (AI rfl (BVw.enc e_i64 (fun _ => rfl) _ a3)) TT)
    refine condI (v := (!(decide (v24.1 < 0)))) rfl TT (fun h120 => ?_) (fun h120 => ?_)
    · have h := ite_tt h120 h
      refine regI ?_
      cases h
      exact AI rfl (simT (M := []) (lit' := [((0, 0), .rows 1 (a3.map e_i64))]) (hg0.tl _) rfl (AI (Vw.mslE rfl (by first | rfl | omega | (simp; done) | (simp at *; omega)) rfl) (AI (VS rfl) (AI (VS rfl) (AI (VS rfl) (AI (Vw.clo hg0.hf hg0.hc (by decide) (rhoT_1 (chkT_ok (n := 4) (q := 3) (lit' := [((0, 0), .rows 1 (a3.map e_i64))]) rfl))) (AI (VS rfl) (AI (VS rfl) (AI (VS rfl) (AI (VS rfl) (AI (VS rfl) TT)))))))))) (AI (AI rfl (BVw.enc e_i64 (fun _ => rfl) _ a3)) TT))
    · have h := ite_ff h120 h
      refine regI ?_
      cases h
      exact AI rfl (simT (M := []) (lit' := [((0, 0), .rows 1 (a3.map e_i64))]) (hg0.tl _) rfl (AI (Vw.mslE rfl (by first | rfl | omega | (simp; done) | (simp at *; omega)) rfl) (AI (VS rfl) (AI (VS rfl) (AI (VS rfl) (AI (Vw.clo hg0.hf hg0.hc (by decide) (rhoT_1 (chkT_ok (n := 4) (q := 3) (lit' := [((0, 0), .rows 1 (a3.map e_i64))]) rfl))) (AI (VS rfl) (AI (VS rfl) (AI (VS rfl) (AI (VS rfl) (AI (VS rfl) TT)))))))))) (AI (AI rfl (BVw.enc e_i64 (fun _ => rfl) _ a3)) TT))
  · have h := ite_ff h114 h
    refine exitI ?_
    obtain ⟨o, hq, rfl⟩ := Option.map_eq_some_iff.1 h
    replace h := hq; clear hq
    refine AI nofun ?_
    refine LWp.sim ?_ (f33b3_j6_ok hrec0 hg0 h)
    exact simT (M := []) (lit' := [((0, 0), .rows 1 (a3.map e_i64))]) (hg0.tl _) rfl (AI (Vw.mslE rfl (by first | rfl | omega | (simp; done) | (simp at *; omega)) rfl) (AI (VS rfl) (AI (VS rfl) (AI (VS rfl) (AI (Vw.clo hg0.hf hg0.hc (by decide) (rhoT_1 (chkT_ok (n := 4) (q := 3) (lit' := [((0, 0), .rows 1 (a3.map e_i64))]) rfl))) (AI (VS rfl) (AI (VS rfl) (AI (VS rfl) TT)))))))) (AI (AI rfl (BVw.enc e_i64 (fun _ => rfl) _ a3)) TT)

theorem f33b3_L5_ok {σ : Type} {Hc : σ → AHeap} {fi0 : Fn} {ff0 fc0 : List AVal} {g0 : σ → (Int × Int) → Option (Int × σ)} {rec0 : Int → Int → Int → (List Int) → σ → Option ((List Int) × σ)} (hrec0 : ∀ {a0 : Int} {a1 : Int} {a2 : Int} {a3 : List Int} {z0 : σ} {o : (List Int) × σ}, rec0 a0 a1 a2 a3 z0 = some o → ACalls Try.prog 33 [.msl (0, 0) 1 0 a3.length false, .int .i64 a0, .int .i64 a1, .int .i64 a2, .fn fi0 ff0 fc0] ([((0, 0), .rows 1 (a3.map e_i64))] ++ Hc z0) 3 (Gives 4 (.tup []) ([((0, 0), .rows 1 (o.1.map e_i64))] ++ up 3 (Hc o.2)))) (hg0 : Clo Try.prog fi0 ff0 fc0 Hc (fun (x : (Int × Int)) => [.int .i64 x.1, .int .i64 x.2]) (fun (b : Int) => .int .i64 b) g0) {z0 : σ} {a0 : Int} {a1 : Int} {a2 : Int} {a3 : List Int} {v20 : Int} {v21 : σ} {v22 : Int} {m : Option Nat} {o : ((List Int) × σ)} (h : S_slices_symMergeCmpFunc_int_33_3_l5 rec0 g0 m a0 a1 a2 a3 v20 v21 v22 = some o) :
    LWp Try.prog f33b3_lay 3 (.loop f33b3_c11) (QBlock 8 (QSeq Try.prog f33b3_lay 3 f33b3_c10 (f33b3_Q Hc fi0 ff0 fc0 a0 a1 a2 a3 z0 o))) [(0, .msl (0, 0) 1 0 a3.length false), (1, .int .i64 a0), (2, .int .i64 a1), (3, .int .i64 a2), (4, .fn fi0 ff0 fc0), (18, .int .i64 (W ((IntKind.wrap .u64 (W (a0 + a2))).fdiv (2 ^ (min (1 : Int).toNat (IntKind.bits .u64)))))), (19, .int .i64 (W ((W ((IntKind.wrap .u64 (W (a0 + a2))).fdiv (2 ^ (min (1 : Int).toNat (IntKind.bits .u64))))) + a1))), (20, .int .i64 v20), (21, .int .i64 v22), (22, .int .i64 (W ((W ((W ((IntKind.wrap .u64 (W (a0 + a2))).fdiv (2 ^ (min (1 : Int).toNat (IntKind.bits .u64))))) + a1)) - 1)))] ([((0, 0), .rows 1 (a3.map e_i64))] ++ up 3 (Hc v21)) 4 :=
  LWp_loopM (m := m) (s := ((v20, v21, v22) : (Int × σ × Int))) (r := o) (fun (s : (Int × σ × Int)) => S_slices_symMergeCmpFunc_int_33_3_b5 rec0 g0 m a0 a1 a2 a3 s.1 s.2.1 s.2.2) (f33b3_L5_env Hc fi0 ff0 fc0 a0 a1 a2 a3) (f33b3_L5_hp Hc fi0 ff0 fc0 a0 a1 a2 a3) (f33b3_L5_Q Hc fi0 ff0 fc0 a0 a1 a2 a3 z0) (fun s o h => f33b3_L5_bok hrec0 hg0 h) h

noncomputable def S_slices_symMergeCmpFunc_int_33_3_j5 {σ : Type} (rec0 : Int → Int → Int → (List Int) → σ → Option ((List Int) × σ)) (g0 : σ → (Int × Int) → Option (Int × σ)) (m : Option Nat) (a0 : Int) (a1 : Int) (a2 : Int) (a3 : List Int) (v17 : Int) (v18 : Int) (z0 : σ) : Option ((List Int) × σ) :=
  S_slices_symMergeCmpFunc_int_33_3_l5 rec0 g0 m a0 a1 a2 a3 v17 z0 v18

theorem f33b3_j5_ok {σ : Type} {Hc : σ → AHeap} {fi0 : Fn} {ff0 fc0 : List AVal} {g0 : σ → (Int × Int) → Option (Int × σ)} {rec0 : Int → Int → Int → (List Int) → σ → Option ((List Int) × σ)} (hrec0 : ∀ {a0 : Int} {a1 : Int} {a2 : Int} {a3 : List Int} {z0 : σ} {o : (List Int) × σ}, rec0 a0 a1 a2 a3 z0 = some o → ACalls Try.prog 33 [.msl (0, 0) 1 0 a3.length false, .int .i64 a0, .int .i64 a1, .int .i64 a2, .fn fi0 ff0 fc0] ([((0, 0), .rows 1 (a3.map e_i64))] ++ Hc z0) 3 (Gives 4 (.tup []) ([((0, 0), .rows 1 (o.1.map e_i64))] ++ up 3 (Hc o.2)))) (hg0 : Clo Try.prog fi0 ff0 fc0 Hc (fun (x : (Int × Int)) => [.int .i64 x.1, .int .i64 x.2]) (fun (b : Int) => .int .i64 b) g0) {a0 : Int} {a1 : Int} {a2 : Int} {a3 : List Int} {v17 : Int} {v18 : Int} {z0 : σ} {m : Option Nat} {o : ((List Int) × σ)} (h : S_slices_symMergeCmpFunc_int_33_3_j5 rec0 g0 m a0 a1 a2 a3 v17 v18 z0 = some o) :
    LWp Try.prog f33b3_lay 3 f33b3_c14 (f33b3_Q Hc fi0 ff0 fc0 a0 a1 a2 a3 z0 o) [(0, .msl (0, 0) 1 0 a3.length false), (1, .int .i64 a0), (2, .int .i64 a1), (3, .int .i64 a2), (4, .fn fi0 ff0 fc0), (18, .int .i64 (W ((IntKind.wrap .u64 (W (a0 + a2))).fdiv (2 ^ (min (1 : Int).toNat (IntKind.bits .u64)))))), (19, .int .i64 (W ((W ((IntKind.wrap .u64 (W (a0 + a2))).fdiv (2 ^ (min (1 : Int).toNat (IntKind.bits .u64))))) + a1))), (20, .int .i64 v17), (21, .int .i64 v18)] ([((0, 0), .rows 1 (a3.map e_i64))] ++ up 3 (Hc z0)) 4 := by
  unfold S_slices_symMergeCmpFunc_int_33_3_j5 at h
  refine seqI ?_
  refine regI ?_
  refine seqI ?_
  refine blockI ?_
  refine LWp.sim ?_ (f33b3_L5_ok hrec0 hg0 h)
  exact simT (M := []) (lit' := [((0, 0), .rows 1 (a3.map e_i64))]) (hg0.tl _) rfl (AI (Vw.mslE rfl (by first | rfl | omega | (simp; done) | (simp at *; omega)) rfl) (AI (VS rfl) (AI (VS rfl) (AI (VS rfl) (AI (Vw.clo hg0.hf hg0.hc (by decide) (rhoT_1 (chkT_ok (n := 4) (q := 3) (lit' := [((0, 0), .rows 1 (a3.map e_i64))]) rfl))) (AI (VS rfl) (AI (VS rfl) (AI (VS rfl) (AI (VS rfl) (AI (VS rfl) TT)))))))))) (AI (AI rfl (BVw.enc e_i64 (fun _ => rfl) _ a3)) TT)

noncomputable def S_slices_symMergeCmpFunc_int_33_3 {σ : Type} (rec0 : Int → Int → Int → (List Int) → σ → Option ((List Int) × σ)) (g0 : σ → (Int × Int) → Option (Int × σ)) (m : Option Nat) (a0 : Int) (a1 : Int) (a2 : Int) (a3 : List Int) (z0 : σ) : Option ((List Int) × σ) :=
  if ((W (a1 - a0)) == 1) = true then
    S_slices_symMergeCmpFunc_int_33_3_l1 rec0 g0 m a0 a3 a1 z0 a2
  else
    if ((W (a2 - a1)) == 1) = true then
      S_slices_symMergeCmpFunc_int_33_3_l3 rec0 g0 m a1 a3 a0 z0 a1
    else
      if (decide (a1 > (W ((IntKind.wrap .u64 (W (a0 + a2))).fdiv (2 ^ (min (1 : Int).toNat (IntKind.bits .u64))))))) = true then
        S_slices_symMergeCmpFunc_int_33_3_j5 rec0 g0 m a0 a1 a2 a3 (W ((W ((W ((IntKind.wrap .u64 (W (a0 + a2))).fdiv (2 ^ (min (1 : Int).toNat (IntKind.bits .u64))))) + a1)) - a2)) (W ((IntKind.wrap .u64 (W (a0 + a2))).fdiv (2 ^ (min (1 : Int).toNat (IntKind.bits .u64))))) z0
      else
        S_slices_symMergeCmpFunc_int_33_3_j5 rec0 g0 m a0 a1 a2 a3 a0 a1 z0

theorem f33b3_start {σ : Type} {Hc : σ → AHeap} {fi0 : Fn} {ff0 fc0 : List AVal} {g0 : σ → (Int × Int) → Option (Int × σ)} {rec0 : Int → Int → Int → (List Int) → σ → Option ((List Int) × σ)} (hrec0 : ∀ {a0 : Int} {a1 : Int} {a2 : Int} {a3 : List Int} {z0 : σ} {o : (List Int) × σ}, rec0 a0 a1 a2 a3 z0 = some o → ACalls Try.prog 33 [.msl (0, 0) 1 0 a3.length false, .int .i64 a0, .int .i64 a1, .int .i64 a2, .fn fi0 ff0 fc0] ([((0, 0), .rows 1 (a3.map e_i64))] ++ Hc z0) 3 (Gives 4 (.tup []) ([((0, 0), .rows 1 (o.1.map e_i64))] ++ up 3 (Hc o.2)))) (hg0 : Clo Try.prog fi0 ff0 fc0 Hc (fun (x : (Int × Int)) => [.int .i64 x.1, .int .i64 x.2]) (fun (b : Int) => .int .i64 b) g0) {a0 : Int} {a1 : Int} {a2 : Int} {a3 : List Int} {z0 : σ} {m : Option Nat} {o : (List Int) × σ} (h : S_slices_symMergeCmpFunc_int_33_3 rec0 g0 m a0 a1 a2 a3 z0 = some o) : LWp Try.prog f33b3_lay 3 f33b3_c15 (f33b3_Q Hc fi0 ff0 fc0 a0 a1 a2 a3 z0 o) (initEnv 0 [.msl (0, 0) 1 0 a3.length false, .int .i64 a0, .int .i64 a1, .int .i64 a2, .fn fi0 ff0 fc0]) ([((0, 0), .rows 1 (a3.map e_i64))] ++ Hc z0) 3 := by
  unfold S_slices_symMergeCmpFunc_int_33_3 at h
  refine LWp.sim (e := [(0, .msl (0, 0) 1 0 a3.length false), (1, .int .i64 a0), (2, .int .i64 a1), (3, .int .i64 a2), (4, .fn fi0 ff0 fc0)]) (L := ([((0, 0), .rows 1 (a3.map e_i64))] ++ up 3 (Hc z0))) (n := 4) (entryT (T := Hc z0) (e' := initEnv 0 [.msl (0, 0) 1 0 a3.length false, .int .i64 a0, .int .i64 a1, .int .i64 a2, .fn fi0 ff0 fc0]) (e := [(0, .msl (0, 0) 1 0 a3.length false), (1, .int .i64 a0), (2, .int .i64 a1), (3, .int .i64 a2), (4, .fn fi0 ff0 fc0)]) (lit' := [((0, 0), .rows 1 (a3.map e_i64))]) (lit := [((0, 0), .rows 1 (a3.map e_i64))]) (hg0.tl z0) rfl rfl (AI (Vw.mslE rfl (by first | rfl | omega | (simp; done) | (simp at *; omega)) rfl) (AI (VS rfl) (AI (VS rfl) (AI (VS rfl) (AI (Vw.clo hg0.hf hg0.hc (by decide) (rhoE_1 _)) TT))))) (AI (AI rfl (BVw.enc e_i64 (fun _ => rfl) _ a3)) TT)) ?_
  refine seqI ?_
  refine seqI ?_
  refine regI ?_
  refine condI (v := ((W (a1 - a0)) == 1)) rfl TT (fun h1 => ?_) (fun h1 => ?_)
  · have h := ite_tt h1 h
    refine seqI ?_
    refine regI ?_
    refine seqI ?_
    refine regI ?_
    refine LWp.sim (e := [(0, .msl (0, 0) 1 0 a3.length false), (1, .int .i64 a0), (4, .fn fi0 ff0 fc0), (10, .int .i64 a1), (11, .int .i64 a2)]) (L := ([((0, 0), .rows 1 (a3.map e_i64))] ++ up 3 (Hc z0))) (n := 4) ?_ ?_
    · exact simT (M := []) (lit' := [((0, 0), .rows 1 (a3.map e_i64))]) (hg0.tl _) rfl (AI (Vw.mslE rfl (by first | rfl | omega | (simp; done) | (simp at *; omega)) rfl) (AI (VS rfl) (AI (Vw.clo hg0.hf hg0.hc (by decide) (rhoT_1 (chkT_ok (n := 4) (q := 3) (lit' := [((0, 0), .rows 1 (a3.map e_i64))]) rfl))) (AI (VS rfl) (AI (VS rfl) TT))))) (AI (AI rfl (BVw.enc e_i64 (fun _ => rfl) _ a3)) TT)
    refine seqI ?_
    refine blockI ?_
    refine LWp.sim ?_ (f33b3_L1_ok hrec0 hg0 h)
    exact simT (M := []) (lit' := [((0, 0), .rows 1 (a3.map e_i64))]) (hg0.tl _) rfl (AI (Vw.mslE rfl (by first | rfl | omega | (simp; done) | (simp at *; omega)) rfl) (AI (VS rfl) (AI (Vw.clo hg0.hf hg0.hc (by decide) (rhoT_1 (chkT_ok (n := 4) (q := 3) (lit' := [((0, 0), .rows 1 (a3.map e_i64))]) rfl))) (AI (VS rfl) (AI (VS rfl) TT))))) (AI (AI rfl (BVw.enc e_i64 (fun _ => rfl) _ a3)) TT)
  · have h := ite_ff h1 h
    refine skipI ?_
    refine seqI ?_
    refine seqI ?_
    refine regI ?_
    refine LWp.sim (e := [(0, .msl (0, 0) 1 0 a3.length false), (1, .int .i64 a0), (2, .int .i64 a1), (3, .int .i64 a2), (4, .fn fi0 ff0 fc0), (80, .bool ((W (a2 - a1)) == 1))]) (L := ([((0, 0), .rows 1 (a3.map e_i64))] ++ up 3 (Hc z0))) (n := 4) ?_ ?_
    · exact simT (M := []) (lit' := [((0, 0), .rows 1 (a3.map e_i64))]) (hg0.tl _) rfl (AI (Vw.mslE rfl (by first | rfl | omega | (simp; done) | (simp at *; omega)) rfl) (AI (VS rfl) (AI (VS rfl) (AI (VS rfl) (AI (Vw.clo hg0.hf hg0.hc (by decide) (rhoT_1 (chkT_ok (n := 4) (q := 3) (lit' := [((0, 0), .rows 1 (a3.map e_i64))]) rfl))) (AI (VS rfl) TT)))))) (AI (AI rfl (BVw.enc e_i64 (fun _ => rfl) _ a3)) TT)
    refine condI (v := ((W (a2 - a1)) == 1)) rfl TT (fun h50 => ?_) (fun h50 => ?_)
    · have h := ite_tt h50 h
      refine seqI ?_
      refine regI ?_
      refine seqI ?_
      refine regI ?_
      refine seqI ?_
      refine blockI ?_
      refine LWp.sim ?_ (f33b3_L3_ok hrec0 hg0 h)
      exact simT (M := []) (lit' := [((0, 0), .rows 1 (a3.map e_i64))]) (hg0.tl _) rfl (AI (Vw.mslE rfl (by first | rfl | omega | (simp; done) | (simp at *; omega)) rfl) (AI (VS rfl) (AI (Vw.clo hg0.hf hg0.hc (by decide) (rhoT_1 (chkT_ok (n := 4) (q := 3) (lit' := [((0, 0), .rows 1 (a3.map e_i64))]) rfl))) (AI (VS rfl) (AI (VS rfl) TT))))) (AI (AI rfl (BVw.enc e_i64 (fun _ => rfl) _ a3)) TT)
    · have h := ite_ff h50 h
      refine skipI ?_
      refine seqI ?_
      refine regI ?_
      refine AI (by decide) ?_
      refine seqI ?_
      refine regI ?_
      refine LWp.sim (e := [(0, .msl (0, 0) 1 0 a3.length false), (1, .int .i64 a0), (2, .int .i64 a1), (3, .int .i64 a2), (4, .fn fi0 ff0 fc0), (18, .int .i64 (W ((IntKind.wrap .u64 (W (a0 + a2))).fdiv (2 ^ (min (1 : Int).toNat (IntKind.bits .u64)))))), (19, .int .i64 (W ((W ((IntKind.wrap .u64 (W (a0 + a2))).fdiv (2 ^ (min (1 : Int).toNat (IntKind.bits .u64))))) + a1)))]) (L := ([((0, 0), .rows 1 (a3.map e_i64))] ++ up 3 (Hc z0))) (n := 4) ?_ ?_
      · exact simT (M := []) (lit' := [((0, 0), .rows 1 (a3.map e_i64))]) (hg0.tl _) rfl (AI (Vw.mslE rfl (by first | rfl | omega | (simp; done) | (simp at *; omega)) rfl) (AI (VS rfl) (AI (VS rfl) (AI (VS rfl) (AI (Vw.clo hg0.hf hg0.hc (by decide) (rhoT_1 (chkT_ok (n := 4) (q := 3) (lit' := [((0, 0), .rows 1 (a3.map e_i64))]) rfl))) (AI (VS rfl) (AI (VS rfl) TT))))))) (AI (AI rfl (BVw.enc e_i64 (fun _ => rfl) _ a3)) TT)
      refine seqI ?_
      refine regI ?_
      refine seqI ?_
      refine seqI ?_
      refine regI ?_
      refine condI (v := (decide (a1 > (W ((IntKind.wrap .u64 (W (a0 + a2))).fdiv (2 ^ (min (1 : Int).toNat (IntKind.bits .u64)))))))) rfl TT (fun h99 => ?_) (fun h99 => ?_)
      · have h := ite_tt h99 h
        refine seqI ?_
        refine regI ?_
        refine LWp.sim (e := [(0, .msl (0, 0) 1 0 a3.length false), (1, .int .i64 a0), (2, .int .i64 a1), (3, .int .i64 a2), (4, .fn fi0 ff0 fc0), (18, .int .i64 (W ((IntKind.wrap .u64 (W (a0 + a2))).fdiv (2 ^ (min (1 : Int).toNat (IntKind.bits .u64)))))), (19, .int .i64 (W ((W ((IntKind.wrap .u64 (W (a0 + a2))).fdiv (2 ^ (min (1 : Int).toNat (IntKind.bits .u64))))) + a1))), (20, .int .i64 (W ((W ((W ((IntKind.wrap .u64 (W (a0 + a2))).fdiv (2 ^ (min (1 : Int).toNat (IntKind.bits .u64))))) + a1)) - a2)))]) (L := ([((0, 0), .rows 1 (a3.map e_i64))] ++ up 3 (Hc z0))) (n := 4) ?_ ?_
        · exact simT (M := []) (lit' := [((0, 0), .rows 1 (a3.map e_i64))]) (hg0.tl _) rfl (AI (Vw.mslE rfl (by first | rfl | omega | (simp; done) | (simp at *; omega)) rfl) (AI (VS rfl) (AI (VS rfl) (AI (VS rfl) (AI (Vw.clo hg0.hf hg0.hc (by decide) (rhoT_1 (chkT_ok (n := 4) (q := 3) (lit' := [((0, 0), .rows 1 (a3.map e_i64))]) rfl))) (AI (VS rfl) (AI (VS rfl) (AI (VS rfl) TT)))))))) (AI (AI rfl (BVw.enc e_i64 (fun _ => rfl) _ a3)) TT)
        refine regI ?_
        refine LWp.sim ?_ (f33b3_j5_ok hrec0 hg0 h)
        exact simT (M := []) (lit' := [((0, 0), .rows 1 (a3.map e_i64))]) (hg0.tl _) rfl (AI (Vw.mslE rfl (by first | rfl | omega | (simp; done) | (simp at *; omega)) rfl) (AI (VS rfl) (AI (VS rfl) (AI (VS rfl) (AI (Vw.clo hg0.hf hg0.hc (by decide) (rhoT_1 (chkT_ok (n := 4) (q := 3) (lit' := [((0, 0), .rows 1 (a3.map e_i64))]) rfl))) (AI (VS rfl) (AI (VS rfl) (AI (VS rfl) (AI (VS rfl) TT))))))))) (AI (AI rfl (BVw.enc e_i64 (fun _ => rfl) _ a3)) TT)
      · have h := ite_ff h99 h
        refine seqI ?_
        refine regI ?_
        refine regI ?_
        refine LWp.sim ?_ (f33b3_j5_ok hrec0 hg0 h)
        exact simT (M := []) (lit' := [((0, 0), .rows 1 (a3.map e_i64))]) (hg0.tl _) rfl (AI (Vw.mslE rfl (by first | rfl | omega | (simp; done) | (simp at *; omega)) rfl) (AI (VS rfl) (AI (VS rfl) (AI (VS rfl) (AI (Vw.clo hg0.hf hg0.hc (by decide) (rhoT_1 (chkT_ok (n := 4) (q := 3) (lit' := [((0, 0), .rows 1 (a3.map e_i64))]) rfl))) (AI (VS rfl) (AI (VS rfl) (AI (VS rfl) (AI (VS rfl) TT))))))))) (AI (AI rfl (BVw.enc e_i64 (fun _ => rfl) _ a3)) TT)

theorem f33b3_ok {σ : Type} {Hc : σ → AHeap} {fi0 : Fn} {ff0 fc0 : List AVal} {g0 : σ → (Int × Int) → Option (Int × σ)} {rec0 : Int → Int → Int → (List Int) → σ → Option ((List Int) × σ)} (hrec0 : ∀ {a0 : Int} {a1 : Int} {a2 : Int} {a3 : List Int} {z0 : σ} {o : (List Int) × σ}, rec0 a0 a1 a2 a3 z0 = some o → ACalls Try.prog 33 [.msl (0, 0) 1 0 a3.length false, .int .i64 a0, .int .i64 a1, .int .i64 a2, .fn fi0 ff0 fc0] ([((0, 0), .rows 1 (a3.map e_i64))] ++ Hc z0) 3 (Gives 4 (.tup []) ([((0, 0), .rows 1 (o.1.map e_i64))] ++ up 3 (Hc o.2)))) (hg0 : Clo Try.prog fi0 ff0 fc0 Hc (fun (x : (Int × Int)) => [.int .i64 x.1, .int .i64 x.2]) (fun (b : Int) => .int .i64 b) g0) {a0 : Int} {a1 : Int} {a2 : Int} {a3 : List Int} {z0 : σ} {m : Option Nat} {o : (List Int) × σ} (h : S_slices_symMergeCmpFunc_int_33_3 rec0 g0 m a0 a1 a2 a3 z0 = some o) : ACalls Try.prog 33 [.msl (0, 0) 1 0 a3.length false, .int .i64 a0, .int .i64 a1, .int .i64 a2, .fn fi0 ff0 fc0] ([((0, 0), .rows 1 (a3.map e_i64))] ++ Hc z0) 3 (Gives 4 (.tup []) ([((0, 0), .rows 1 (o.1.map e_i64))] ++ up 3 (Hc o.2))) := bfn_of (L := f33b3_L) f33b3_low f33b3_fok (NB rfl) (f33b3_start hrec0 hg0 h)

noncomputable def S_slices_symMergeCmpFunc_int_33_3_I {σ : Type} (g0 : σ → (Int × Int) → Option (Int × σ)) (m : Option Nat) : Nat → Int → Int → Int → (List Int) → σ → Option ((List Int) × σ)
  | 0 => fun _ _ _ _ _ => none
  | k + 1 => S_slices_symMergeCmpFunc_int_33_3 (S_slices_symMergeCmpFunc_int_33_3_I g0 m k) g0 m
noncomputable def S_slices_symMergeCmpFunc_int_33_3_F {σ : Type} (g0 : σ → (Int × Int) → Option (Int × σ)) (m : Option Nat) (a0 : Int) (a1 : Int) (a2 : Int) (a3 : List Int) (z0 : σ) : Option ((List Int) × σ) := recN m (fun k => S_slices_symMergeCmpFunc_int_33_3_I g0 m k a0 a1 a2 a3 z0)
theorem f33b3_okI {σ : Type} {Hc : σ → AHeap} {fi0 : Fn} {ff0 fc0 : List AVal} {g0 : σ → (Int × Int) → Option (Int × σ)} (hg0 : Clo Try.prog fi0 ff0 fc0 Hc (fun (x : (Int × Int)) => [.int .i64 x.1, .int .i64 x.2]) (fun (b : Int) => .int .i64 b) g0) {m : Option Nat} : ∀ (k : Nat) {a0 : Int} {a1 : Int} {a2 : Int} {a3 : List Int} {z0 : σ} {o : (List Int) × σ}, S_slices_symMergeCmpFunc_int_33_3_I g0 m k a0 a1 a2 a3 z0 = some o → ACalls Try.prog 33 [.msl (0, 0) 1 0 a3.length false, .int .i64 a0, .int .i64 a1, .int .i64 a2, .fn fi0 ff0 fc0] ([((0, 0), .rows 1 (a3.map e_i64))] ++ Hc z0) 3 (Gives 4 (.tup []) ([((0, 0), .rows 1 (o.1.map e_i64))] ++ up 3 (Hc o.2)))
  | 0, _, _, _, _, _, _, h => nomatch h
  | k + 1, _, _, _, _, _, _, h => f33b3_ok (fun h => f33b3_okI hg0 k h) hg0 h
theorem f33b3_okF {σ : Type} {Hc : σ → AHeap} {fi0 : Fn} {ff0 fc0 : List AVal} {g0 : σ → (Int × Int) → Option (Int × σ)} (hg0 : Clo Try.prog fi0 ff0 fc0 Hc (fun (x : (Int × Int)) => [.int .i64 x.1, .int .i64 x.2]) (fun (b : Int) => .int .i64 b) g0) {a0 : Int} {a1 : Int} {a2 : Int} {a3 : List Int} {z0 : σ} {m : Option Nat} {o : (List Int) × σ} (h : S_slices_symMergeCmpFunc_int_33_3_F g0 m a0 a1 a2 a3 z0 = some o) : ACalls Try.prog 33 [.msl (0, 0) 1 0 a3.length false, .int .i64 a0, .int .i64 a1, .int .i64 a2, .fn fi0 ff0 fc0] ([((0, 0), .rows 1 (a3.map e_i64))] ++ Hc z0) 3 (Gives 4 (.tup []) ([((0, 0), .rows 1 (o.1.map e_i64))] ++ up 3 (Hc o.2))) := (recN_some h).elim fun k h => f33b3_okI hg0 k h

def f26b0_c1 : LCode := (.seq (.seq (.region [⟨some 11, .mv (.t 8), none⟩,
   ⟨some 12, .mv (.t 1), none⟩,
   ⟨some 13, .bin .leq (.t 11) (.t 12), none⟩])
 (.cond (.t 13)
  .skip
  (.exit 0)))
 (.block 1
  (.seq (.region [⟨some 14, .mv (.t 0), none⟩,
    ⟨some 15, .mv (.t 7), none⟩,
    ⟨some 16, .mv (.t 8), none⟩,
    ⟨some 17, .mv (.t 2), none⟩,
    ⟨some 18, .call 32 [(.t 14), (.t 15), (.t 16), (.t 17)], none⟩])
  (.seq (.region [⟨some 19, .mv (.t 8), none⟩,
    ⟨some 7, .mv (.t 19), none⟩])
  (.region [⟨some 20, .mv (.t 8), none⟩,
    ⟨some 21, .mv (.t 6), none⟩,
    ⟨some 22, .bin .add (.t 20) (.t 21), none⟩,
    ⟨some 8, .mv (.t 22), none⟩])))))
def f26b0_c3 : LCode := (.seq (.seq (.region [⟨some 33, .mv (.t 8), none⟩,
   ⟨some 34, .mv (.t 1), none⟩,
   ⟨some 35, .bin .leq (.t 33) (.t 34), none⟩])
 (.cond (.t 35)
  .skip
  (.exit 4)))
 (.block 5
  (.seq (.region [⟨some 36, .mv (.t 0), none⟩,
    ⟨some 37, .mv (.t 7), none⟩,
    ⟨some 38, .mv (.t 7), none⟩,
    ⟨some 39, .mv (.t 6), none⟩,
    ⟨some 40, .bin .add (.t 38) (.t 39), none⟩,
    ⟨some 41, .mv (.t 8), none⟩,
    ⟨some 42, .mv (.t 2), none⟩,
    ⟨some 43, .call 33 [(.t 36), (.t 37), (.t 40), (.t 41), (.t 42)], none⟩])
  (.seq (.region [⟨some 44, .mv (.t 8), none⟩,
    ⟨some 7, .mv (.t 44), none⟩])
  (.region [⟨some 45, .mv (.t 8), none⟩,
    ⟨some 46, .mv (.t 6), none⟩,
    ⟨some 47, .bin .mul (.c (.int .i64 2)) (.t 46), none⟩,
    ⟨some 48, .bin .add (.t 45) (.t 47), none⟩,
    ⟨some 8, .mv (.t 48), none⟩])))))
def f26b0_c4 : LCode := (.region [⟨some 61, .mv (.t 6), none⟩,
   ⟨some 62, .bin .mul (.t 61) (.c (.int .i64 2)), none⟩,
   ⟨some 6, .mv (.t 62), none⟩])
def f26b0_c2 : LCode := (.seq (.seq (.region [⟨some 49, .mv (.t 7), none⟩,
   ⟨some 50, .mv (.t 6), none⟩,
   ⟨some 51, .bin .add (.t 49) (.t 50), none⟩,
   ⟨some 9, .mv (.t 51), none⟩])
 (.seq (.region [⟨some 52, .mv (.t 9), none⟩,
   ⟨some 53, .mv (.t 1), none⟩,
   ⟨some 54, .bin .lss (.t 52) (.t 53), none⟩])
 (.cond (.t 54)
  (.region [⟨some 55, .mv (.t 0), none⟩,
    ⟨some 56, .mv (.t 7), none⟩,
    ⟨some 57, .mv (.t 9), none⟩,
    ⟨some 58, .mv (.t 1), none⟩,
    ⟨some 59, .mv (.t 2), none⟩,
    ⟨some 60, .call 33 [(.t 55), (.t 56), (.t 57), (.t 58), (.t 59)], none⟩])
  .skip)))
 f26b0_c4)
def f26b0_c5 : LCode := (.seq (.seq (.region [⟨some 28, .mv (.t 6), none⟩,
   ⟨some 29, .mv (.t 1), none⟩,
   ⟨some 30, .bin .lss (.t 28) (.t 29), none⟩])
 (.cond (.t 30)
  .skip
  (.exit 2)))
 (.block 3
  (.seq (.region [⟨some 31, .mv (.t 6), none⟩,
    ⟨some 32, .bin .mul (.c (.int .i64 2)) (.t 31), none⟩,
    ⟨some 7, .mv (.c (.int .i64 0)), none⟩,
    ⟨some 8, .mv (.t 32), none⟩])
  (.seq (.block 4
   (.loop
    f26b0_c3))
  f26b0_c2))))
def f26b0_c0 : LCode := (.seq (.region [⟨some 23, .mv (.t 0), none⟩,
   ⟨some 24, .mv (.t 7), none⟩,
   ⟨some 25, .mv (.t 1), none⟩,
   ⟨some 26, .mv (.t 2), none⟩,
   ⟨some 27, .call 32 [(.t 23), (.t 24), (.t 25), (.t 26)], none⟩])
 (.block 2
  (.loop
   f26b0_c5)))
def f26b0_c6 : LCode := (.seq (.region [⟨some 6, .mv (.c (.int .i64 20)), none⟩])
 (.seq (.region [⟨some 10, .mv (.t 6), none⟩,
   ⟨some 7, .mv (.c (.int .i64 0)), none⟩,
   ⟨some 8, .mv (.t 10), none⟩])
 (.seq (.block 0
  (.loop
   f26b0_c1))
 f26b0_c0)))
def f26b0_lay : Lay := ⟨63, [], false⟩
def f26b0_res : List LRes := []
def f26b0_L : LFn := ⟨3, f26b0_lay, f26b0_c6, f26b0_res⟩
theorem f26b0_low : lowFn Try.prog [] 26 = some f26b0_L := by kernel_rfl
theorem f26b0_fok : FnOk Try.prog 26 := ⟨_, Try.func26, rfl, rfl⟩
def f26b0_Q {σ : Type} (Hc : σ → AHeap) (fi0 : Fn) (ff0 fc0 : List AVal) (a0 : Int) (a1 : List Int) (z0 : σ) (o : (List Int) × σ) : Exit → Env → AHeap → Nat → Prop := FinK f26b0_res (FinTo 3 4 (.tup []) ([((0, 0), .rows 1 (o.1.map e_i64))] ++ up 3 (Hc o.2)))

def f26b0_L1_env {σ : Type} (Hc : σ → AHeap) (fi0 : Fn) (ff0 fc0 : List AVal) (a0 : Int) (s : ((List Int) × Int × Int × σ)) : Env := [(0, .msl (0, 0) 1 0 s.1.length false), (1, .int .i64 a0), (2, .fn fi0 ff0 fc0), (6, .int .i64 20), (7, .int .i64 s.2.1), (8, .int .i64 s.2.2.1)]
def f26b0_L1_hp {σ : Type} (Hc : σ → AHeap) (fi0 : Fn) (ff0 fc0 : List AVal) (a0 : Int) (s : ((List Int) × Int × Int × σ)) : AHeap := ([((0, 0), .rows 1 (s.1.map e_i64))] ++ up 3 (Hc s.2.2.2))
def f26b0_L1_Q {σ : Type} (Hc : σ → AHeap) (fi0 : Fn) (ff0 fc0 : List AVal) (a0 : Int) (a1 : List Int) (z0 : σ) (o : ((List Int) × σ)) : Exit → Env → AHeap → Nat → Prop := (QBlock 0 (QSeq Try.prog f26b0_lay 3 f26b0_c0 (f26b0_Q Hc fi0 ff0 fc0 a0 a1 z0 o)))

noncomputable def S_slices_stableCmpFunc_int_j7 {σ : Type} (g0 : σ → (Int × Int) → Option (Int × σ)) (m : Option Nat) (a0 : Int) (v20 : Int) (v40 : List Int) (v41 : σ) : Option (((List Int) × Int × σ) ⊕ ((List Int) × σ)) :=
  some (.inl (v40, (W (v20 * 2)), v41))

noncomputable def S_slices_stableCmpFunc_int_j6 {σ : Type} (g0 : σ → (Int × Int) → Option (Int × σ)) (m : Option Nat) (a0 : Int) (v20 : Int) (v33 : List Int) (v34 : Int) (v36 : σ) : Option (((List Int) × Int × σ) ⊕ ((List Int) × σ)) :=
  if (decide ((W (v34 + v20)) < a0)) = true then
    (S_slices_symMergeCmpFunc_int_33_3_F g0 m v34 (W (v34 + v20)) a0 v33 v36).bind fun v39 =>
    if v39.1.length = v33.length then
    S_slices_stableCmpFunc_int_j7 g0 m a0 v20 v39.1 v39.2
    else none
  else
    S_slices_stableCmpFunc_int_j7 g0 m a0 v20 v33 v36

noncomputable def S_slices_stableCmpFunc_int_b5 {σ : Type} (g0 : σ → (Int × Int) → Option (Int × σ)) (m : Option Nat) (a0 : Int) (v20 : Int) (v33 : List Int) (v34 : Int) (v35 : Int) (v36 : σ) : Option (((List Int) × Int × Int × σ) ⊕ (((List Int) × Int × σ) ⊕ ((List Int) × σ))) :=
  if (decide (v35 ≤ a0)) = true then
    (S_slices_symMergeCmpFunc_int_33_3_F g0 m v34 (W (v34 + v20)) v35 v33 v36).bind fun v38 =>
    if v38.1.length = v33.length then
    some (.inl (v38.1, v35, (W (v35 + (W ((2 : Int) * v20)))), v38.2))
    else none
  else
    Option.map Sum.inr (
      S_slices_stableCmpFunc_int_j6 g0 m a0 v20 v33 v34 v36)

noncomputable def S_slices_stableCmpFunc_int_l5 {σ : Type} (g0 : σ → (Int × Int) → Option (Int × σ)) (m : Option Nat) (a0 : Int) (v20 : Int) (v33 : List Int) (v34 : Int) (v35 : Int) (v36 : σ) : Option (((List Int) × Int × σ) ⊕ ((List Int) × σ)) := loopM m (fun (s : ((List Int) × Int × Int × σ)) => S_slices_stableCmpFunc_int_b5 g0 m a0 v20 s.1 s.2.1 s.2.2.1 s.2.2.2) (v33, v34, v35, v36)

noncomputable def S_slices_stableCmpFunc_int_b4 {σ : Type} (g0 : σ → (Int × Int) → Option (Int × σ)) (m : Option Nat) (a0 : Int) (v19 : List Int) (v20 : Int) (v21 : σ) : Option (((List Int) × Int × σ) ⊕ ((List Int) × σ)) :=
  if (decide (v20 < a0)) = true then
    S_slices_stableCmpFunc_int_l5 g0 m a0 v20 v19 0 (W ((2 : Int) * v20)) v21
  else
    Option.map Sum.inr (
      some (v19, v21))

noncomputable def S_slices_stableCmpFunc_int_l4 {σ : Type} (g0 : σ → (Int × Int) → Option (Int × σ)) (m : Option Nat) (a0 : Int) (v19 : List Int) (v20 : Int) (v21 : σ) : Option ((List Int) × σ) := loopM m (fun (s : ((List Int) × Int × σ)) => S_slices_stableCmpFunc_int_b4 g0 m a0 s.1 s.2.1 s.2.2) (v19, v20, v21)

noncomputable def S_slices_stableCmpFunc_int_j1 {σ : Type} (g0 : σ → (Int × Int) → Option (Int × σ)) (m : Option Nat) (a0 : Int) (v2 : List Int) (v3 : Int) (v5 : σ) : Option ((List Int) × σ) :=
  (S_slices_insertionSortCmpFunc_int g0 m v3 a0 v2 v5).bind fun v8 =>
  if v8.1.length = v2.length then
  S_slices_stableCmpFunc_int_l4 g0 m a0 v8.1 20 v8.2
  else none

noncomputable def S_slices_stableCmpFunc_int_b1 {σ : Type} (g0 : σ → (Int × Int) → Option (Int × σ)) (m : Option Nat) (a0 : Int) (v2 : List Int) (v3 : Int) (v4 : Int) (v5 : σ) : Option (((List Int) × Int × Int × σ) ⊕ ((List Int) × σ)) :=
  if (decide (v4 ≤ a0)) = true then
    (S_slices_insertionSortCmpFunc_int g0 m v3 v4 v2 v5).bind fun v7 =>
    if v7.1.length = v2.length then
    some (.inl (v7.1, v4, (W (v4 + 20)), v7.2))
    else none
  else
    Option.map Sum.inr (
      S_slices_stableCmpFunc_int_j1 g0 m a0 v2 v3 v5)

noncomputable def S_slices_stableCmpFunc_int_l1 {σ : Type} (g0 : σ → (Int × Int) → Option (Int × σ)) (m : Option Nat) (a0 : Int) (v2 : List Int) (v3 : Int) (v4 : Int) (v5 : σ) : Option ((List Int) × σ) := loopM m (fun (s : ((List Int) × Int × Int × σ)) => S_slices_stableCmpFunc_int_b1 g0 m a0 s.1 s.2.1 s.2.2.1 s.2.2.2) (v2, v3, v4, v5)

def f26b0_L4_env {σ : Type} (Hc : σ → AHeap) (fi0 : Fn) (ff0 fc0 : List AVal) (a0 : Int) (s : ((List Int) × Int × σ)) : Env := [(0, .msl (0, 0) 1 0 s.1.length false), (1, .int .i64 a0), (2, .fn fi0 ff0 fc0), (6, .int .i64 s.2.1)]
def f26b0_L4_hp {σ : Type} (Hc : σ → AHeap) (fi0 : Fn) (ff0 fc0 : List AVal) (a0 : Int) (s : ((List Int) × Int × σ)) : AHeap := ([((0, 0), .rows 1 (s.1.map e_i64))] ++ up 3 (Hc s.2.2))
def f26b0_L4_Q {σ : Type} (Hc : σ → AHeap) (fi0 : Fn) (ff0 fc0 : List AVal) (a0 : Int) (a1 : List Int) (z0 : σ) (o : ((List Int) × σ)) : Exit → Env → AHeap → Nat → Prop := (QBlock 2 (f26b0_Q Hc fi0 ff0 fc0 a0 a1 z0 o))

def f26b0_L5_env {σ : Type} (Hc : σ → AHeap) (fi0 : Fn) (ff0 fc0 : List AVal) (a0 : Int) (v20 : Int) (s : ((List Int) × Int × Int × σ)) : Env := [(0, .msl (0, 0) 1 0 s.1.length false), (1, .int .i64 a0), (2, .fn fi0 ff0 fc0), (6, .int .i64 v20), (7, .int .i64 s.2.1), (8, .int .i64 s.2.2.1)]
def f26b0_L5_hp {σ : Type} (Hc : σ → AHeap) (fi0 : Fn) (ff0 fc0 : List AVal) (a0 : Int) (v20 : Int) (s : ((List Int) × Int × Int × σ)) : AHeap := ([((0, 0), .rows 1 (s.1.map e_i64))] ++ up 3 (Hc s.2.2.2))
def f26b0_L5_Q {σ : Type} (Hc : σ → AHeap) (fi0 : Fn) (ff0 fc0 : List AVal) (a0 : Int) (a1 : List Int) (z0 : σ) (o : (((List Int) × Int × σ) ⊕ ((List Int) × σ))) : Exit → Env → AHeap → Nat → Prop := (QBlock 4 (QSeq Try.prog f26b0_lay 3 f26b0_c2 (QBlock 3 (BodyQ 3 4 (f26b0_L4_env Hc fi0 ff0 fc0 a0) (f26b0_L4_hp Hc fi0 ff0 fc0 a0) (f26b0_L4_Q Hc fi0 ff0 fc0 a0 a1 z0) o))))

theorem f26b0_j7_ok {σ : Type} {Hc : σ → AHeap} {fi0 : Fn} {ff0 fc0 : List AVal} {g0 : σ → (Int × Int) → Option (Int × σ)} (hg0 : Clo Try.prog fi0 ff0 fc0 Hc (fun (x : (Int × Int)) => [.int .i64 x.1, .int .i64 x.2]) (fun (b : Int) => .int .i64 b) g0) {a1 : List Int} {z0 : σ} {a0 : Int} {v20 : Int} {v40 : List Int} {v41 : σ} {m : Option Nat} {o : (((List Int) × Int × σ) ⊕ ((List Int) × σ))} (h : S_slices_stableCmpFunc_int_j7 g0 m a0 v20 v40 v41 = some o) :
    LWp Try.prog f26b0_lay 3 f26b0_c4 (QBlock 3 (BodyQ 3 4 (f26b0_L4_env Hc fi0 ff0 fc0 a0) (f26b0_L4_hp Hc fi0 ff0 fc0 a0) (f26b0_L4_Q Hc fi0 ff0 fc0 a0 a1 z0) o)) [(0, .msl (0, 0) 1 0 v40.length false), (1, .int .i64 a0), (2, .fn fi0 ff0 fc0), (6, .int .i64 v20)] ([((0, 0), .rows 1 (v40.map e_i64))] ++ up 3 (Hc v41)) 4 := by
  unfold S_slices_stableCmpFunc_int_j7 at h
  refine regI ?_
  cases h
  exact AI rfl (simT (M := []) (lit' := [((0, 0), .rows 1 (v40.map e_i64))]) (hg0.tl _) rfl (AI (Vw.mslE rfl (by first | rfl | omega | (simp; done) | (simp at *; omega)) rfl) (AI (VS rfl) (AI (Vw.clo hg0.hf hg0.hc (by decide) (rhoT_1 (chkT_ok (n := 4) (q := 3) (lit' := [((0, 0), .rows 1 (v40.map e_i64))]) rfl))) (AI (VS rfl) TT)))) (AI (AI rfl (BVw.enc e_i64 (fun _ => rfl) _ v40)) TT))

theorem f26b0_j6_ok {σ : Type} {Hc : σ → AHeap} {fi0 : Fn} {ff0 fc0 : List AVal} {g0 : σ → (Int × Int) → Option (Int × σ)} (hg0 : Clo Try.prog fi0 ff0 fc0 Hc (fun (x : (Int × Int)) => [.int .i64 x.1, .int .i64 x.2]) (fun (b : Int) => .int .i64 b) g0) {a1 : List Int} {z0 : σ} {a0 : Int} {v20 : Int} {v33 : List Int} {v34 : Int} {v36 : σ} {m : Option Nat} {o : (((List Int) × Int × σ) ⊕ ((List Int) × σ))} (h : S_slices_stableCmpFunc_int_j6 g0 m a0 v20 v33 v34 v36 = some o) :
    LWp Try.prog f26b0_lay 3 f26b0_c2 (QBlock 3 (BodyQ 3 4 (f26b0_L4_env Hc fi0 ff0 fc0 a0) (f26b0_L4_hp Hc fi0 ff0 fc0 a0) (f26b0_L4_Q Hc fi0 ff0 fc0 a0 a1 z0) o)) [(0, .msl (0, 0) 1 0 v33.length false), (1, .int .i64 a0), (2, .fn fi0 ff0 fc0), (6, .int .i64 v20), (7, .int .i64 v34)] ([((0, 0), .rows 1 (v33.map e_i64))] ++ up 3 (Hc v36)) 4 := by
  unfold S_slices_stableCmpFunc_int_j6 at h
  refine seqI ?_
  refine seqI ?_
  refine regI ?_
  refine seqI ?_
  refine regI ?_
  refine condI (v := (decide ((W (v34 + v20)) < a0))) rfl TT (fun h48 => ?_) (fun h48 => ?_)
  · have h := ite_tt h48 h
    refine regI ?_
    obtain ⟨v39, h49, h⟩ := bind_some h
    refine bcallT (m := 1) (q := 3) (lit0 := [((0, 0), .rows 1 (v33.map e_i64))]) (lit := [((0, 0), .rows 1 (v33.map e_i64))]) (L := [((0, 0), .rows 1 (v39.1.map e_i64))]) (L' := [((0, 0), .rows 1 (v39.1.map e_i64))]) (rest := []) (R' := .tup []) (hg0.tl _) (hg0.tl _) [((0, 0), (0, 0))] (f33b3_okF hg0 h49) rfl rfl rfl rfl rfl rfl (AI (Vw.mslE rfl (by first | rfl | omega | (simp; done) | (simp at *; omega)) rfl) (AI (VS rfl) (AI (VS rfl) (AI (VS rfl) (AI (Vw.clo hg0.hf hg0.hc (by decide) (lookT_1 _ _)) TT))))) (AI (h0I (0, 0) rfl rfl (BVw.enc e_i64 (fun _ => rfl) _ v33)) TT) (nid_ren _ rfl) (AI rfl (AI (rows_ren e_i64 (fun _ => rfl) _ _) TT)) rfl ?_
    obtain ⟨h50, h⟩ := ite_some h
    refine LWp.sim ?_ (f26b0_j7_ok hg0 h)
    exact simT (M := []) (lit' := [((0, 0), .rows 1 (v39.1.map e_i64))]) (hg0.tl _) rfl (AI (Vw.mslE rfl (by first | rfl | omega | (simp; done) | (simp at *; omega)) rfl) (AI (VS rfl) (AI (Vw.clo hg0.hf hg0.hc (by decide) (rhoT_1 (chkT_ok (n := 4) (q := 4) (lit' := [((0, 0), .rows 1 (v39.1.map e_i64))]) rfl))) (AI (VS rfl) TT)))) (AI (AI rfl (BVw.enc e_i64 (fun _ => rfl) _ v39.1)) TT)
  · have h := ite_ff h48 h
    refine skipI ?_
    refine LWp.sim ?_ (f26b0_j7_ok hg0 h)
    exact simT (M := []) (lit' := [((0, 0), .rows 1 (v33.map e_i64))]) (hg0.tl _) rfl (AI (Vw.mslE rfl (by first | rfl | omega | (simp; done) | (simp at *; omega)) rfl) (AI (VS rfl) (AI (Vw.clo hg0.hf hg0.hc (by decide) (rhoT_1 (chkT_ok (n := 4) (q := 3) (lit' := [((0, 0), .rows 1 (v33.map e_i64))]) rfl))) (AI (VS rfl) TT)))) (AI (AI rfl (BVw.enc e_i64 (fun _ => rfl) _ v33)) TT)

theorem f26b0_L5_bok {σ : Type} {Hc : σ → AHeap} {fi0 : Fn} {ff0 fc0 : List AVal} {g0 : σ → (Int × Int) → Option (Int × σ)} (hg0 : Clo Try.prog fi0 ff0 fc0 Hc (fun (x : (Int × Int)) => [.int .i64 x.1, .int .i64 x.2]) (fun (b : Int) => .int .i64 b) g0) {a1 : List Int} {z0 : σ} {a0 : Int} {v20 : Int} {v33 : List Int} {v34 : Int} {v35 : Int} {v36 : σ} {m : Option Nat} {o : ((List Int) × Int × Int × σ) ⊕ (((List Int) × Int × σ) ⊕ ((List Int) × σ))} (h : S_slices_stableCmpFunc_int_b5 g0 m a0 v20 v33 v34 v35 v36 = some o) :
    LWp Try.prog f26b0_lay 3 f26b0_c3 (BodyQ 3 4 (f26b0_L5_env Hc fi0 ff0 fc0 a0 v20) (f26b0_L5_hp Hc fi0 ff0 fc0 a0 v20) (f26b0_L5_Q Hc fi0 ff0 fc0 a0 a1 z0) o) [(0, .msl (0, 0) 1 0 v33.length false), (1, .int .i64 a0), (2, .fn fi0 ff0 fc0), (6, .int .i64 v20), (7, .int .i64 v34), (8, .int .i64 v35)] ([((0, 0), .rows 1 (v33.map e_i64))] ++ up 3 (Hc v36)) 4 := by
  unfold S_slices_stableCmpFunc_int_b5 at h
  refine seqI ?_
  refine seqI ?_
  refine regI ?_
  refine condI (v := (decide (v35 ≤ a0))) rfl TT (fun h45 => ?_) (fun h45 => ?_)
  · have h := ite_tt h45 h
    refine skipI ?_
    refine blockI ?_
    refine seqI ?_
    refine regI ?_
    obtain ⟨v38, h46, h⟩ := bind_some h
    refine bcallT (m := 1) (q := 3) (lit0 := [((0, 0), .rows 1 (v33.map e_i64))]) (lit := [((0, 0), .rows 1 (v33.map e_i64))]) (L := [((0, 0), .rows 1 (v38.1.map e_i64))]) (L' := [((0, 0), .rows 1 (v38.1.map e_i64))]) (rest := []) (R' := .tup []) (hg0.tl _) (hg0.tl _) [((0, 0), (0, 0))] (f33b3_okF hg0 h46) rfl rfl rfl rfl rfl rfl (AI (Vw.mslE rfl (by first | rfl | omega | (simp; done) | (simp at *; omega)) rfl) (AI (VS rfl) (AI (VS rfl) (AI (VS rfl) (AI (Vw.clo hg0.hf hg0.hc (by decide) (lookT_1 _ _)) TT))))) (AI (h0I (0, 0) rfl rfl (BVw.enc e_i64 (fun _ => rfl) _ v33)) TT) (nid_ren _ rfl) (AI rfl (AI (rows_ren e_i64 (fun _ => rfl) _ _) TT)) rfl ?_
    obtain ⟨h47, h⟩ := ite_some h
    refine LWp.sim (e := [(0, .msl (0, 0) 1 0 v33.length false), (1, .int .i64 a0), (2, .fn fi0 ff0 fc0), (6, .int .i64 v20), (8, .int .i64 v35)]) (L := ([((0, 0), .rows 1 (v38.1.map e_i64))] ++ up 3 (Hc v38.2))) (n := 4) ?_ ?_
    · exact simT (M := []) (lit' := [((0, 0), .rows 1 (v38.1.map e_i64))]) (hg0.tl _) rfl (AI (Vw.mslE rfl (by first | rfl | omega | (simp; done) | (simp at *; omega)) rfl) (AI (VS rfl) (AI (Vw.clo hg0.hf hg0.hc (by decide) (rhoT_1 (chkT_ok (n := 4) (q := 4) (lit' := [((0, 0), .rows 1 (v38.1.map e_i64))]) rfl))) (AI (VS rfl) (AI (VS rfl) TT))))) (AI (AI rfl (BVw.enc e_i64 (fun _ => rfl) _ v38.1)) TT)
    refine seqI ?_
    refine regI ?_
    refine regI ?_
    cases h
    exact AI rfl (simT (M := []) (lit' := [((0, 0), .rows 1 (v38.1.map e_i64))]) (hg0.tl _) rfl (AI (Vw.mslE rfl (by first | rfl | omega | (simp; done) | (simp at *; omega)) rfl) (AI (VS rfl) (AI (Vw.clo hg0.hf hg0.hc (by decide) (rhoT_1 (chkT_ok (n := 4) (q := 3) (lit' := [((0, 0), .rows 1 (v38.1.map e_i64))]) rfl))) (AI (VS rfl) (AI (VS rfl) (AI (VS rfl) TT)))))) (AI (AI rfl (BVw.enc e_i64 (fun _ => rfl) _ v38.1)) TT))
  · have h := ite_ff h45 h
    refine exitI ?_
    obtain ⟨o, hq, rfl⟩ := Option.map_eq_some_iff.1 h
    replace h := hq; clear hq
    refine AI nofun ?_
    refine LWp.sim ?_ (f26b0_j6_ok hg0 h)
    exact simT (M := []) (lit' := [((0, 0), .rows 1 (v33.map e_i64))]) (hg0.tl _) rfl (AI (Vw.mslE rfl (by first | rfl | omega | (simp; done) | (simp at *; omega)) rfl) (AI (VS rfl) (AI (Vw.clo hg0.hf hg0.hc (by decide) (rhoT_1 (chkT_ok (n := 4) (q := 3) (lit' := [((0, 0), .rows 1 (v33.map e_i64))]) rfl))) (AI (VS rfl) (AI (VS rfl) TT))))) (AI (AI rfl (BVw.enc e_i64 (fun _ => rfl) _ v33)) TT)

theorem f26b0_L5_ok {σ : Type} {Hc : σ → AHeap} {fi0 : Fn} {ff0 fc0 : List AVal} {g0 : σ → (Int × Int) → Option (Int × σ)} (hg0 : Clo Try.prog fi0 ff0 fc0 Hc (fun (x : (Int × Int)) => [.int .i64 x.1, .int .i64 x.2]) (fun (b : Int) => .int .i64 b) g0) {a1 : List Int} {z0 : σ} {a0 : Int} {v20 : Int} {v33 : List Int} {v34 : Int} {v35 : Int} {v36 : σ} {m : Option Nat} {o : (((List Int) × Int × σ) ⊕ ((List Int) × σ))} (h : S_slices_stableCmpFunc_int_l5 g0 m a0 v20 v33 v34 v35 v36 = some o) :
    LWp Try.prog f26b0_lay 3 (.loop f26b0_c3) (QBlock 4 (QSeq Try.prog f26b0_lay 3 f26b0_c2 (QBlock 3 (BodyQ 3 4 (f26b0_L4_env Hc fi0 ff0 fc0 a0) (f26b0_L4_hp Hc fi0 ff0 fc0 a0) (f26b0_L4_Q Hc fi0 ff0 fc0 a0 a1 z0) o)))) [(0, .msl (0, 0) 1 0 v33.length false), (1, .int .i64 a0), (2, .fn fi0 ff0 fc0), (6, .int .i64 v20), (7, .int .i64 v34), (8, .int .i64 v35)] ([((0, 0), .rows 1 (v33.map e_i64))] ++ up 3 (Hc v36)) 4 :=
  LWp_loopM (m := m) (s := ((v33, v34, v35, v36) : ((List Int) × Int × Int × σ))) (r := o) (fun (s : ((List Int) × Int × Int × σ)) => S_slices_stableCmpFunc_int_b5 g0 m a0 v20 s.1 s.2.1 s.2.2.1 s.2.2.2) (f26b0_L5_env Hc fi0 ff0 fc0 a0 v20) (f26b0_L5_hp Hc fi0 ff0 fc0 a0 v20) (f26b0_L5_Q Hc fi0 ff0 fc0 a0 a1 z0) (fun s o h => f26b0_L5_bok hg0 h) h

theorem f26b0_L4_bok {σ : Type} {Hc : σ → AHeap} {fi0 : Fn} {ff0 fc0 : List AVal} {g0 : σ → (Int × Int) → Option (Int × σ)} (hg0 : Clo Try.prog fi0 ff0 fc0 Hc (fun (x : (Int × Int)) => [.int .i64 x.1, .int .i64 x.2]) (fun (b : Int) => .int .i64 b) g0) {a1 : List Int} {z0 : σ} {a0 : Int} {v19 : List Int} {v20 : Int} {v21 : σ} {m : Option Nat} {o : ((List Int) × Int × σ) ⊕ ((List Int) × σ)} (h : S_slices_stableCmpFunc_int_b4 g0 m a0 v19 v20 v21 = some o) :
    LWp Try.prog f26b0_lay 3 f26b0_c5 (BodyQ 3 4 (f26b0_L4_env Hc fi0 ff0 fc0 a0) (f26b0_L4_hp Hc fi0 ff0 fc0 a0) (f26b0_L4_Q Hc fi0 ff0 fc0 a0 a1 z0) o) [(0, .msl (0, 0) 1 0 v19.length false), (1, .int .i64 a0), (2, .fn fi0 ff0 fc0), (6, .int .i64 v20)] ([((0, 0), .rows 1 (v19.map e_i64))] ++ up 3 (Hc v21)) 4 := by
  unfold S_slices_stableCmpFunc_int_b4 at h
  refine seqI ?_
  refine seqI ?_
  refine regI ?_
  refine condI (v := (decide (v20 < a0))) rfl TT (fun h38 => ?_) (fun h38 => ?_)
  · have h := ite_tt h38 h
    refine skipI ?_
    refine blockI ?_
    refine seqI ?_
    refine regI ?_
    refine seqI ?_
    refine blockI ?_
    refine LWp.sim ?_ (f26b0_L5_ok hg0 h)
    exact simT (M := []) (lit' := [((0, 0), .rows 1 (v19.map e_i64))]) (hg0.tl _) rfl (AI (Vw.mslE rfl (by first | rfl | omega | (simp; done) | (simp at *; omega)) rfl) (AI (VS rfl) (AI (Vw.clo hg0.hf hg0.hc (by decide) (rhoT_1 (chkT_ok (n := 4) (q := 3) (lit' := [((0, 0), .rows 1 (v19.map e_i64))]) rfl))) (AI (VS rfl) (AI (VS rfl) (AI (VS rfl) TT)))))) (AI (AI rfl (BVw.enc e_i64 (fun _ => rfl) _ v19)) TT)
  · have h := ite_ff h38 h
    refine exitI ?_
    obtain ⟨o, hq, rfl⟩ := Option.map_eq_some_iff.1 h
    replace h := hq; clear hq
    refine AI nofun ?_
    cases h
    exact finT (n' := 4) (q := 3) (lit' := [((0, 0), .rows 1 (v19.map e_i64))]) (hg0.tl _) [] [] rfl rfl (VS rfl) (AI (AI rfl (BVw.enc e_i64 (fun _ => rfl) _ v19)) TT)

theorem f26b0_L4_ok {σ : Type} {Hc : σ → AHeap} {fi0 : Fn} {ff0 fc0 : List AVal} {g0 : σ → (Int × Int) → Option (Int × σ)} (hg0 : Clo Try.prog fi0 ff0 fc0 Hc (fun (x : (Int × Int)) => [.int .i64 x.1, .int .i64 x.2]) (fun (b : Int) => .int .i64 b) g0) {a1 : List Int} {z0 : σ} {a0 : Int} {v19 : List Int} {v20 : Int} {v21 : σ} {m : Option Nat} {o : ((List Int) × σ)} (h : S_slices_stableCmpFunc_int_l4 g0 m a0 v19 v20 v21 = some o) :
    LWp Try.prog f26b0_lay 3 (.loop f26b0_c5) (QBlock 2 (f26b0_Q Hc fi0 ff0 fc0 a0 a1 z0 o)) [(0, .msl (0, 0) 1 0 v19.length false), (1, .int .i64 a0), (2, .fn fi0 ff0 fc0), (6, .int .i64 v20)] ([((0, 0), .rows 1 (v19.map e_i64))] ++ up 3 (Hc v21)) 4 :=
  LWp_loopM (m := m) (s := ((v19, v20, v21) : ((List Int) × Int × σ))) (r := o) (fun (s : ((List Int) × Int × σ)) => S_slices_stableCmpFunc_int_b4 g0 m a0 s.1 s.2.1 s.2.2) (f26b0_L4_env Hc fi0 ff0 fc0 a0) (f26b0_L4_hp Hc fi0 ff0 fc0 a0) (f26b0_L4_Q Hc fi0 ff0 fc0 a0 a1 z0) (fun s o h => f26b0_L4_bok hg0 h) h

theorem f26b0_j1_ok {σ : Type} {Hc : σ → AHeap} {fi0 : Fn} {ff0 fc0 : List AVal} {g0 : σ → (Int × Int) → Option (Int × σ)} (hg0 : Clo Try.prog fi0 ff0 fc0 Hc (fun (x : (Int × Int)) => [.int .i64 x.1, .int .i64 x.2]) (fun (b : Int) => .int .i64 b) g0) {a1 : List Int} {z0 : σ} {a0 : Int} {v2 : List Int} {v3 : Int} {v5 : σ} {m : Option Nat} {o : ((List Int) × σ)} (h : S_slices_stableCmpFunc_int_j1 g0 m a0 v2 v3 v5 = some o) :
    LWp Try.prog f26b0_lay 3 f26b0_c0 (f26b0_Q Hc fi0 ff0 fc0 a0 a1 z0 o) [(0, .msl (0, 0) 1 0 v2.length false), (1, .int .i64 a0), (2, .fn fi0 ff0 fc0), (6, .int .i64 20), (7, .int .i64 v3)] ([((0, 0), .rows 1 (v2.map e_i64))] ++ up 3 (Hc v5)) 4 := by
  unfold S_slices_stableCmpFunc_int_j1 at h
  refine seqI ?_
  refine regI ?_
  obtain ⟨v8, h10, h⟩ := bind_some h
  refine bcallT (m := 1) (q := 3) (lit0 := [((0, 0), .rows 1 (v2.map e_i64))]) (lit := [((0, 0), .rows 1 (v2.map e_i64))]) (L := [((0, 0), .rows 1 (v8.1.map e_i64))]) (L' := [((0, 0), .rows 1 (v8.1.map e_i64))]) (rest := []) (R' := .tup []) (hg0.tl _) (hg0.tl _) [((0, 0), (0, 0))] (f32b0_ok hg0 h10) rfl rfl rfl rfl rfl rfl (AI (Vw.mslE rfl (by first | rfl | omega | (simp; done) | (simp at *; omega)) rfl) (AI (VS rfl) (AI (VS rfl) (AI (Vw.clo hg0.hf hg0.hc (by decide) (lookT_1 _ _)) TT)))) (AI (h0I (0, 0) rfl rfl (BVw.enc e_i64 (fun _ => rfl) _ v2)) TT) (nid_ren _ rfl) (AI rfl (AI (rows_ren e_i64 (fun _ => rfl) _ _) TT)) rfl ?_
  obtain ⟨h11, h⟩ := ite_some h
  refine blockI ?_
  refine LWp.sim ?_ (f26b0_L4_ok hg0 h)
  exact simT (M := []) (lit' := [((0, 0), .rows 1 (v8.1.map e_i64))]) (hg0.tl _) rfl (AI (Vw.mslE rfl (by first | rfl | omega | (simp; done) | (simp at *; omega)) rfl) (AI (VS rfl) (AI (Vw.clo hg0.hf hg0.hc (by decide) (rhoT_1 (chkT_ok (n := 4) (q := 4) (lit' := [((0, 0), .rows 1 (v8.1.map e_i64))]) rfl))) (AI (VS rfl) TT)))) (AI (AI rfl (BVw.enc e_i64 (fun _ => rfl) _ v8.1)) TT)

theorem f26b0_L1_bok {σ : Type} {Hc : σ → AHeap} {fi0 : Fn} {ff0 fc0 : List AVal} {g0 : σ → (Int × Int) → Option (Int × σ)} (hg0 : Clo Try.prog fi0 ff0 fc0 Hc (fun (x : (Int × Int)) => [.int .i64 x.1, .int .i64 x.2]) (fun (b : Int) => .int .i64 b) g0) {a1 : List Int} {z0 : σ} {a0 : Int} {v2 : List Int} {v3 : Int} {v4 : Int} {v5 : σ} {m : Option Nat} {o : ((List Int) × Int × Int × σ) ⊕ ((List Int) × σ)} (h : S_slices_stableCmpFunc_int_b1 g0 m a0 v2 v3 v4 v5 = some o) :
    LWp Try.prog f26b0_lay 3 f26b0_c1 (BodyQ 3 4 (f26b0_L1_env Hc fi0 ff0 fc0 a0) (f26b0_L1_hp Hc fi0 ff0 fc0 a0) (f26b0_L1_Q Hc fi0 ff0 fc0 a0 a1 z0) o) [(0, .msl (0, 0) 1 0 v2.length false), (1, .int .i64 a0), (2, .fn fi0 ff0 fc0), (6, .int .i64 20), (7, .int .i64 v3), (8, .int .i64 v4)] ([((0, 0), .rows 1 (v2.map e_i64))] ++ up 3 (Hc v5)) 4 := by
  unfold S_slices_stableCmpFunc_int_b1 at h
  refine seqI ?_
  refine seqI ?_
  refine regI ?_
  refine condI (v := (decide (v4 ≤ a0))) rfl TT (fun h7 => ?_) (fun h7 => ?_)
  · have h := ite_tt h7 h
    refine skipI ?_
    refine blockI ?_
    refine seqI ?_
    refine regI ?_
    obtain ⟨v7, h8, h⟩ := bind_some h
    refine bcallT (m := 1) (q := 3) (lit0 := [((0, 0), .rows 1 (v2.map e_i64))]) (lit := [((0, 0), .rows 1 (v2.map e_i64))]) (L := [((0, 0), .rows 1 (v7.1.map e_i64))]) (L' := [((0, 0), .rows 1 (v7.1.map e_i64))]) (rest := []) (R' := .tup []) (hg0.tl _) (hg0.tl _) [((0, 0), (0, 0))] (f32b0_ok hg0 h8) rfl rfl rfl rfl rfl rfl (AI (Vw.mslE rfl (by first | rfl | omega | (simp; done) | (simp at *; omega)) rfl) (AI (VS rfl) (AI (VS rfl) (AI (Vw.clo hg0.hf hg0.hc (by decide) (lookT_1 _ _)) TT)))) (AI (h0I (0, 0) rfl rfl (BVw.enc e_i64 (fun _ => rfl) _ v2)) TT) (nid_ren _ rfl) (AI rfl (AI (rows_ren e_i64 (fun _ => rfl) _ _) TT)) rfl ?_
    obtain ⟨h9, h⟩ := ite_some h
    refine LWp.sim (e := [(0, .msl (0, 0) 1 0 v2.length false), (1, .int .i64 a0), (2, .fn fi0 ff0 fc0), (6, .int .i64 20), (8, .int .i64 v4)]) (L := ([((0, 0), .rows 1 (v7.1.map e_i64))] ++ up 3 (Hc v7.2))) (n := 4) ?_ ?_
    · exact simT (M := []) (lit' := [((0, 0), .rows 1 (v7.1.map e_i64))]) (hg0.tl _) rfl (AI (Vw.mslE rfl (by first | rfl | omega | (simp; done) | (simp at *; omega)) rfl) (AI (VS rfl) (AI (Vw.clo hg0.hf hg0.hc (by decide) (rhoT_1 (chkT_ok (n := 4) (q := 4) (lit' := [((0, 0), .rows 1 (v7.1.map e_i64))]) rfl))) (AI (VS rfl) (AI (VS rfl) TT))))) (AI (AI rfl (BVw.enc e_i64 (fun _ => rfl) _ v7.1)) TT)
    refine seqI ?_
    refine regI ?_
    refine regI ?_
    cases h
    exact AI rfl (simT (M := []) (lit' := [((0, 0), .rows 1 (v7.1.map e_i64))]) (hg0.tl _) rfl (AI (Vw.mslE rfl (by first | rfl | omega | (simp; done) | (simp at *; omega)) rfl) (AI (VS rfl) (AI (Vw.clo hg0.hf hg0.hc (by decide) (rhoT_1 (chkT_ok (n := 4) (q := 3) (lit' := [((0, 0), .rows 1 (v7.1.map e_i64))]) rfl))) (AI (VS rfl) (AI (VS rfl) (AI (VS rfl) TT)))))) (AI (AI rfl (BVw.enc e_i64 (fun _ => rfl) _ v7.1)) TT))
  · have h := ite_ff h7 h
    refine exitI ?_
    obtain ⟨o, hq, rfl⟩ := Option.map_eq_some_iff.1 h
    replace h := hq; clear hq
    refine AI nofun ?_
    refine LWp.sim ?_ (f26b0_j1_ok hg0 h)
    exact simT (M := []) (lit' := [((0, 0), .rows 1 (v2.map e_i64))]) (hg0.tl _) rfl (AI (Vw.mslE rfl (by first | rfl | omega | (simp; done) | (simp at *; omega)) rfl) (AI (VS rfl) (AI (Vw.clo hg0.hf hg0.hc (by decide) (rhoT_1 (chkT_ok (n := 4) (q := 3) (lit' := [((0, 0), .rows 1 (v2.map e_i64))]) rfl))) (AI (VS rfl) (AI (VS rfl) TT))))) (AI (AI rfl (BVw.enc e_i64 (fun _ => rfl) _ v2)) TT)

theorem f26b0_L1_ok {σ : Type} {Hc : σ → AHeap} {fi0 : Fn} {ff0 fc0 : List AVal} {g0 : σ → (Int × Int) → Option (Int × σ)} (hg0 : Clo Try.prog fi0 ff0 fc0 Hc (fun (x : (Int × Int)) => [.int .i64 x.1, .int .i64 x.2]) (fun (b : Int) => .int .i64 b) g0) {a1 : List Int} {z0 : σ} {a0 : Int} {v2 : List Int} {v3 : Int} {v4 : Int} {v5 : σ} {m : Option Nat} {o : ((List Int) × σ)} (h : S_slices_stableCmpFunc_int_l1 g0 m a0 v2 v3 v4 v5 = some o) :
    LWp Try.prog f26b0_lay 3 (.loop f26b0_c1) (QBlock 0 (QSeq Try.prog f26b0_lay 3 f26b0_c0 (f26b0_Q Hc fi0 ff0 fc0 a0 a1 z0 o))) [(0, .msl (0, 0) 1 0 v2.length false), (1, .int .i64 a0), (2, .fn fi0 ff0 fc0), (6, .int .i64 20), (7, .int .i64 v3), (8, .int .i64 v4)] ([((0, 0), .rows 1 (v2.map e_i64))] ++ up 3 (Hc v5)) 4 :=
  LWp_loopM (m := m) (s := ((v2, v3, v4, v5) : ((List Int) × Int × Int × σ))) (r := o) (fun (s : ((List Int) × Int × Int × σ)) => S_slices_stableCmpFunc_int_b1 g0 m a0 s.1 s.2.1 s.2.2.1 s.2.2.2) (f26b0_L1_env Hc fi0 ff0 fc0 a0) (f26b0_L1_hp Hc fi0 ff0 fc0 a0) (f26b0_L1_Q Hc fi0 ff0 fc0 a0 a1 z0) (fun s o h => f26b0_L1_bok hg0 h) h

noncomputable def S_slices_stableCmpFunc_int {σ : Type} (g0 : σ → (Int × Int) → Option (Int × σ)) (m : Option Nat) (a0 : Int) (a1 : List Int) (z0 : σ) : Option ((List Int) × σ) :=
  S_slices_stableCmpFunc_int_l1 g0 m a0 a1 0 20 z0

theorem f26b0_start {σ : Type} {Hc : σ → AHeap} {fi0 : Fn} {ff0 fc0 : List AVal} {g0 : σ → (Int × Int) → Option (Int × σ)} (hg0 : Clo Try.prog fi0 ff0 fc0 Hc (fun (x : (Int × Int)) => [.int .i64 x.1, .int .i64 x.2]) (fun (b : Int) => .int .i64 b) g0) {a0 : Int} {a1 : List Int} {z0 : σ} {m : Option Nat} {o : (List Int) × σ} (h : S_slices_stableCmpFunc_int g0 m a0 a1 z0 = some o) : LWp Try.prog f26b0_lay 3 f26b0_c6 (f26b0_Q Hc fi0 ff0 fc0 a0 a1 z0 o) (initEnv 0 [.msl (0, 0) 1 0 a1.length false, .int .i64 a0, .fn fi0 ff0 fc0]) ([((0, 0), .rows 1 (a1.map e_i64))] ++ Hc z0) 3 := by
  unfold S_slices_stableCmpFunc_int at h
  refine LWp.sim (e := [(0, .msl (0, 0) 1 0 a1.length false), (1, .int .i64 a0), (2, .fn fi0 ff0 fc0)]) (L := ([((0, 0), .rows 1 (a1.map e_i64))] ++ up 3 (Hc z0))) (n := 4) (entryT (T := Hc z0) (e' := initEnv 0 [.msl (0, 0) 1 0 a1.length false, .int .i64 a0, .fn fi0 ff0 fc0]) (e := [(0, .msl (0, 0) 1 0 a1.length false), (1, .int .i64 a0), (2, .fn fi0 ff0 fc0)]) (lit' := [((0, 0), .rows 1 (a1.map e_i64))]) (lit := [((0, 0), .rows 1 (a1.map e_i64))]) (hg0.tl z0) rfl rfl (AI (Vw.mslE rfl (by first | rfl | omega | (simp; done) | (simp at *; omega)) rfl) (AI (VS rfl) (AI (Vw.clo hg0.hf hg0.hc (by decide) (rhoE_1 _)) TT))) (AI (AI rfl (BVw.enc e_i64 (fun _ => rfl) _ a1)) TT)) ?_
  refine seqI ?_
  refine regI ?_
  refine seqI ?_
  refine regI ?_
  refine seqI ?_
  refine blockI ?_
  refine LWp.sim ?_ (f26b0_L1_ok hg0 h)
  exact simT (M := []) (lit' := [((0, 0), .rows 1 (a1.map e_i64))]) (hg0.tl _) rfl (AI (Vw.mslE rfl (by first | rfl | omega | (simp; done) | (simp at *; omega)) rfl) (AI (VS rfl) (AI (Vw.clo hg0.hf hg0.hc (by decide) (rhoT_1 (chkT_ok (n := 4) (q := 3) (lit' := [((0, 0), .rows 1 (a1.map e_i64))]) rfl))) (AI (VS rfl) (AI (VS rfl) (AI (VS rfl) TT)))))) (AI (AI rfl (BVw.enc e_i64 (fun _ => rfl) _ a1)) TT)

theorem f26b0_ok {σ : Type} {Hc : σ → AHeap} {fi0 : Fn} {ff0 fc0 : List AVal} {g0 : σ → (Int × Int) → Option (Int × σ)} (hg0 : Clo Try.prog fi0 ff0 fc0 Hc (fun (x : (Int × Int)) => [.int .i64 x.1, .int .i64 x.2]) (fun (b : Int) => .int .i64 b) g0) {a0 : Int} {a1 : List Int} {z0 : σ} {m : Option Nat} {o : (List Int) × σ} (h : S_slices_stableCmpFunc_int g0 m a0 a1 z0 = some o) : ACalls Try.prog 26 [.msl (0, 0) 1 0 a1.length false, .int .i64 a0, .fn fi0 ff0 fc0] ([((0, 0), .rows 1 (a1.map e_i64))] ++ Hc z0) 3 (Gives 4 (.tup []) ([((0, 0), .rows 1 (o.1.map e_i64))] ++ up 3 (Hc o.2))) := bfn_of (L := f26b0_L) f26b0_low f26b0_fok (NB rfl) (f26b0_start hg0 h)

def f16b0_c0 : LCode := (.region [⟨some 4, .mv (.t 0), none⟩,
   ⟨some 5, .mv (.t 0), none⟩,
   ⟨some 6, .len false (.t 5), none⟩,
   ⟨some 7, .mv (.t 1), none⟩,
   ⟨some 8, .call 26 [(.t 4), (.t 6), (.t 7)], none⟩])
def f16b0_lay : Lay := ⟨9, [], false⟩
def f16b0_res : List LRes := []
def f16b0_L : LFn := ⟨2, f16b0_lay, f16b0_c0, f16b0_res⟩
theorem f16b0_low : lowFn Try.prog [] 16 = some f16b0_L := by kernel_rfl
theorem f16b0_fok : FnOk Try.prog 16 := ⟨_, Try.func16, rfl, rfl⟩
noncomputable def S_slices_SortStableFunc_int {σ : Type} (g0 : σ → (Int × Int) → Option (Int × σ)) (m : Option Nat) (a0 : List Int) (z0 : σ) : Option ((List Int) × σ) :=
  (S_slices_stableCmpFunc_int g0 m ((a0.length : Nat) : Int) a0 z0).bind fun v1 =>
  if v1.1.length = a0.length then
  some (v1.1, v1.2)
  else none

def f16b0_Q {σ : Type} (Hc : σ → AHeap) (fi0 : Fn) (ff0 fc0 : List AVal) (a0 : List Int) (z0 : σ) (o : (List Int) × σ) : Exit → Env → AHeap → Nat → Prop := FinK f16b0_res (FinTo 3 4 (.tup []) ([((0, 0), .rows 1 (o.1.map e_i64))] ++ up 3 (Hc o.2)))

theorem f16b0_start {σ : Type} {Hc : σ → AHeap} {fi0 : Fn} {ff0 fc0 : List AVal} {g0 : σ → (Int × Int) → Option (Int × σ)} (hg0 : Clo Try.prog fi0 ff0 fc0 Hc (fun (x : (Int × Int)) => [.int .i64 x.1, .int .i64 x.2]) (fun (b : Int) => .int .i64 b) g0) {a0 : List Int} {z0 : σ} {m : Option Nat} {o : (List Int) × σ} (h : S_slices_SortStableFunc_int g0 m a0 z0 = some o) : LWp Try.prog f16b0_lay 3 f16b0_c0 (f16b0_Q Hc fi0 ff0 fc0 a0 z0 o) (initEnv 0 [.msl (0, 0) 1 0 a0.length false, .fn fi0 ff0 fc0]) ([((0, 0), .rows 1 (a0.map e_i64))] ++ Hc z0) 3 := by
  unfold S_slices_SortStableFunc_int at h
  refine LWp.sim (e := [(0, .msl (0, 0) 1 0 a0.length false), (1, .fn fi0 ff0 fc0)]) (L := ([((0, 0), .rows 1 (a0.map e_i64))] ++ up 3 (Hc z0))) (n := 4) (entryT (T := Hc z0) (e' := initEnv 0 [.msl (0, 0) 1 0 a0.length false, .fn fi0 ff0 fc0]) (e := [(0, .msl (0, 0) 1 0 a0.length false), (1, .fn fi0 ff0 fc0)]) (lit' := [((0, 0), .rows 1 (a0.map e_i64))]) (lit := [((0, 0), .rows 1 (a0.map e_i64))]) (hg0.tl z0) rfl rfl (AI (Vw.mslE rfl (by first | rfl | omega | (simp; done) | (simp at *; omega)) rfl) (AI (Vw.clo hg0.hf hg0.hc (by decide) (rhoE_1 _)) TT)) (AI (AI rfl (BVw.enc e_i64 (fun _ => rfl) _ a0)) TT)) ?_
  refine regI ?_
  obtain ⟨v1, h1, h⟩ := bind_some h
  refine bcallT (m := 1) (q := 3) (lit0 := [((0, 0), .rows 1 (a0.map e_i64))]) (lit := [((0, 0), .rows 1 (a0.map e_i64))]) (L := [((0, 0), .rows 1 (v1.1.map e_i64))]) (L' := [((0, 0), .rows 1 (v1.1.map e_i64))]) (rest := []) (R' := .tup []) (hg0.tl _) (hg0.tl _) [((0, 0), (0, 0))] (f26b0_ok hg0 h1) rfl rfl rfl rfl rfl rfl (AI (Vw.mslE rfl (by first | rfl | omega | (simp; done) | (simp at *; omega)) rfl) (AI (VS rfl) (AI (Vw.clo hg0.hf hg0.hc (by decide) (lookT_1 _ _)) TT))) (AI (h0I (0, 0) rfl rfl (BVw.enc e_i64 (fun _ => rfl) _ a0)) TT) (nid_ren _ rfl) (AI rfl (AI (rows_ren e_i64 (fun _ => rfl) _ _) TT)) rfl ?_
  obtain ⟨h2, h⟩ := ite_some h
  cases h
  exact finT (n' := 6) (q := 4) (lit' := [((0, 0), .rows 1 (v1.1.map e_i64))]) (hg0.tl _) [] [] rfl rfl (VS rfl) (AI (AI rfl (BVw.enc e_i64 (fun _ => rfl) _ v1.1)) TT)

theorem f16b0_ok {σ : Type} {Hc : σ → AHeap} {fi0 : Fn} {ff0 fc0 : List AVal} {g0 : σ → (Int × Int) → Option (Int × σ)} (hg0 : Clo Try.prog fi0 ff0 fc0 Hc (fun (x : (Int × Int)) => [.int .i64 x.1, .int .i64 x.2]) (fun (b : Int) => .int .i64 b) g0) {a0 : List Int} {z0 : σ} {m : Option Nat} {o : (List Int) × σ} (h : S_slices_SortStableFunc_int g0 m a0 z0 = some o) : ACalls Try.prog 16 [.msl (0, 0) 1 0 a0.length false, .fn fi0 ff0 fc0] ([((0, 0), .rows 1 (a0.map e_i64))] ++ Hc z0) 3 (Gives 4 (.tup []) ([((0, 0), .rows 1 (o.1.map e_i64))] ++ up 3 (Hc o.2))) := bfn_of (L := f16b0_L) f16b0_low f16b0_fok (NB rfl) (f16b0_start hg0 h)

def f10_c1 : LCode := (.region [⟨some 42, .bin .add (.t 21) (.c (.int .i64 1)), none⟩,
   ⟨some 21, .mv (.t 42), none⟩])
def f10_c2 : LCode := (.seq (.region [⟨some 22, .bin .lss (.t 21) (.t 20), none⟩])
 (.seq (.cond (.t 22)
  .skip
  (.exit 0))
 (.seq (.block 1
  (.seq (.region [⟨some 23, .mv (.t 21), none⟩,
    ⟨some 24, .iaddr 1 (.t 19) (.t 21), none⟩,
    ⟨some 25, .load false 1 (.t 24), none⟩,
    ⟨some 8, .mv (.t 23), none⟩,
    ⟨some 9, .mv (.t 25), none⟩])
  (.seq (.region [⟨some 27, .mv (.t 0), none⟩,
    ⟨some 28, .mv (.t 9), none⟩,
    ⟨some 29, .call 6 [(.t 27), (.t 28)], none⟩,
    ⟨some 26, .mv (.t 29), none⟩,
    ⟨some 30, .ext 0 (.t 26), none⟩,
    ⟨some 31, .ext 1 (.t 26), none⟩,
    ⟨some 32, .ext 2 (.t 26), none⟩,
    ⟨some 10, .mv (.t 30), none⟩,
    ⟨some 11, .mv (.t 31), none⟩,
    ⟨some 12, .mv (.t 32), none⟩])
  (.seq (.region [⟨some 33, .mv (.t 12), none⟩])
  (.cond (.t 33)
   (.draw [⟨⟨some 34, .load false 1 (.t 6), none⟩, []⟩,
     ⟨⟨some 35, .mv (.t 8), none⟩, []⟩,
     ⟨⟨some 36, .mv (.t 10), none⟩, []⟩,
     ⟨⟨some 37, .mv (.t 7), none⟩, []⟩,
     ⟨⟨some 38, .mv (.t 8), none⟩, []⟩,
     ⟨⟨some 39, .mkSl true 1 [(.int .i64 0)] 1 [(0, (.t 38))], none⟩, []⟩,
     ⟨⟨some 40, .app false 1 8 (.t 37) (.t 39), none⟩, [0]⟩,
     ⟨⟨some 41, .iaddr 1 (.t 34) (.t 35), none⟩, []⟩,
     ⟨⟨none, .store 1 (.t 41) (.t 36), none⟩, []⟩,
     ⟨⟨some 7, .mv (.t 40), none⟩, []⟩])
   .skip)))))
 f10_c1)))
def f10_c0 : LCode := (.seq (.region [⟨some 43, .mv (.t 7), none⟩,
   ⟨some 44, .mkfn (.func 17) [] [(.t 6), (.t 3)], none⟩,
   ⟨some 45, .call 16 [(.t 43), (.t 44)], none⟩])
 (.seq (.region [⟨some 46, .mv (.t 7), none⟩,
   ⟨some 4, .mv (.t 46), none⟩,
   ⟨some 5, .mv (.c (.int .i64 0)), none⟩])
 .ret))
def f10_c3 : LCode := (.seq (.region [⟨some 3, .box (.t 1), none⟩,
   ⟨some 4, .mv (.c (.val (.slice none 0 0))), none⟩,
   ⟨some 5, .mv (.c (.int .i64 0)), none⟩])
 (.seq (.seq (.region [⟨some 13, .load false 1 (.t 3), none⟩,
   ⟨some 14, .len false (.t 13), none⟩,
   ⟨some 15, .bin .gtr (.t 14) (.c (.int .i64 200)), none⟩])
 (.cond (.t 15)
  (.seq (.region [⟨some 4, .mv (.c (.val (.slice none 0 0))), none⟩,
    ⟨some 5, .mv (.c (.int .i64 2)), none⟩])
  .ret)
  .skip))
 (.seq (.region [⟨some 16, .load false 1 (.t 3), none⟩,
   ⟨some 17, .len false (.t 16), none⟩,
   ⟨some 18, .mkslice false 1 8 [(.int .i64 0)] (.t 17) (.t 17), none⟩,
   ⟨some 6, .alloc [(.isl 1 [] true)], none⟩,
   ⟨none, .store 1 (.t 6) (.t 18), none⟩])
 (.seq (.region [⟨some 7, .mv (.c (.val (.slice none 0 0))), none⟩])
 (.seq (.seq (.region [⟨some 19, .load false 1 (.t 3), none⟩,
   ⟨some 20, .len false (.t 19), none⟩,
   ⟨some 21, .mv (.c (.int .i64 0)), none⟩])
 (.block 0
  (.loop
   f10_c2)))
 f10_c0)))))
def f10_lay : Lay := ⟨47, [18, 40], false⟩
def f10_res : List LRes := [.t 4, .t 5]
def f10_L : LFn := ⟨2, f10_lay, f10_c3, f10_res⟩
theorem f10_low : lowFn Try.prog [18, 40] 10 = some f10_L := by kernel_rfl
theorem f10_fok : FnOk Try.prog 10 := ⟨_, Try.func10, rfl, rfl⟩
def f10_Q (a0 : List UInt8) (a1 : List (List UInt8)) (o : (List Int) × Int) : Exit → Env → AHeap → Nat → Prop := FinK f10_res (PureEnd (.tup [.isl 1 (o.1.map e_i64) false, .int .i64 o.2]))

def f10_L1_env (a0 : List UInt8) (a1 : List (List UInt8)) (s : (Int × (List Int) × (List Int))) : Env := [(0, .str a0), (3, .ptr (0, 0) 0 0), (6, .ptr (1, 0) 0 0), (7, .msl (2, 0) 1 0 s.2.1.length false), (19, .isl 1 (a1.map e_str) false), (20, .int .i64 ((a1.map e_str).length : Int)), (21, .int .i64 s.1)]
def f10_L1_hp (a0 : List UInt8) (a1 : List (List UInt8)) (s : (Int × (List Int) × (List Int))) : AHeap := [((0, 0), .one [.isl 1 (a1.map e_str) false]), ((1, 0), .one [.msl (3, 0) 1 0 s.2.2.length true]), ((2, 0), .rows 1 (s.2.1.map e_i64)), ((3, 0), .rows 1 (s.2.2.map e_i64))]
def f10_L1_Q (a0 : List UInt8) (a1 : List (List UInt8)) (o : ((List Int) × Int)) : Exit → Env → AHeap → Nat → Prop := (QBlock 0 (QSeq Try.prog f10_lay 0 f10_c0 (f10_Q a0 a1 o)))

noncomputable def S_fuzzy_Rank_j3 (m : Option Nat) (a0 : List UInt8) (a1 : List (List UInt8)) (v4 : Int) (v11 : List Int) (v12 : List Int) : Option ((Int × (List Int) × (List Int)) ⊕ ((List Int) × Int)) :=
  some (.inl ((W (v4 + 1)), v11, v12))

theorem f10_j3_ok {a0 : List UInt8} {a1 : List (List UInt8)} {v4 : Int} {v11 : List Int} {v12 : List Int} {m : Option Nat} {o : ((Int × (List Int) × (List Int)) ⊕ ((List Int) × Int))} (h : S_fuzzy_Rank_j3 m a0 a1 v4 v11 v12 = some o) :
    LWp Try.prog f10_lay 0 f10_c1 (BodyQ 0 4 (f10_L1_env a0 a1) (f10_L1_hp a0 a1) (f10_L1_Q a0 a1) o) [(0, .str a0), (3, .ptr (0, 0) 0 0), (6, .ptr (1, 0) 0 0), (7, .msl (2, 0) 1 0 v11.length false), (19, .isl 1 (a1.map e_str) false), (20, .int .i64 ((a1.map e_str).length : Int)), (21, .int .i64 v4)] [((0, 0), .one [.isl 1 (a1.map e_str) false]), ((1, 0), .one [.msl (3, 0) 1 0 v12.length true]), ((2, 0), .rows 1 (v11.map e_i64)), ((3, 0), .rows 1 (v12.map e_i64))] 4 := by
  unfold S_fuzzy_Rank_j3 at h
  refine regI ?_
  cases h
  exact AI rfl (simI (M := [((0, 0), (0, 0)), ((1, 0), (1, 0)), ((2, 0), (2, 0)), ((3, 0), (3, 0))]) rfl (AI (VS rfl) (AI (Vw.ptr _ _ _ _ rfl) (AI (Vw.ptr _ _ _ _ rfl) (AI (Vw.mslE rfl (by first | rfl | omega | (simp; done) | (simp at *; omega)) rfl) (AI (VS rfl) (AI (VS rfl) (AI (VS rfl) TT))))))) (AI (AI rfl (BVw.oneL (AI (VS rfl) TT))) (AI (AI rfl (BVw.oneL (AI (Vw.mslE rfl (by first | rfl | omega | (simp; done) | (simp at *; omega)) rfl) TT))) (AI (AI rfl (BVw.enc e_i64 (fun _ => rfl) _ v11)) (AI (AI rfl (BVw.enc e_i64 (fun _ => rfl) _ v12)) TT)))))

noncomputable def S_fuzzy_Rank_j4 (m : Option Nat) (a1 : List (List UInt8)) (v5 : List Int) (v6 : List Int) : Option ((List Int) × Int) :=
  (S_slices_SortStableFunc_int (fun (s : Unit) (x : (Int × Int)) => (S_fuzzy_Rank_1c m a1 v6 x.1 x.2).map fun o => (o, ())) m v5 ()).bind fun v13 =>
  if v13.1.length = v5.length then
  some (v13.1, 0)
  else none

noncomputable def S_fuzzy_Rank_b1 (m : Option Nat) (a0 : List UInt8) (a1 : List (List UInt8)) (v4 : Int) (v5 : List Int) (v6 : List Int) : Option ((Int × (List Int) × (List Int)) ⊕ ((List Int) × Int)) :=
  if (decide (v4 < ((a1.map e_str).length : Int))) = true then
    if (0 : Int) ≤ v4 ∧ v4 < ((a1.map e_str).length : Int) then
    (S_fuzzy_Score m a0 (a1.getD v4.toNat default)).bind fun v10 =>
    if v10.2.2 = true then
      if ((v5 ++ ([v4] : List Int)).map e_i64).length * 8 ≤ 140737488355328 then
      if (0 : Int) ≤ v4 ∧ v4 < ((v6.length : Nat) : Int) then
      if (0 + v4.toNat) < v6.length then
      S_fuzzy_Rank_j3 m a0 a1 v4 (v5 ++ ([v4] : List Int)) (v6.set (0 + v4.toNat) v10.1)
      else none
      else none
      else none
    else
      S_fuzzy_Rank_j3 m a0 a1 v4 v5 v6
    else none
  else
    Option.map Sum.inr (
      S_fuzzy_Rank_j4 m a1 v5 v6)

noncomputable def S_fuzzy_Rank_l1 (m : Option Nat) (a0 : List UInt8) (a1 : List (List UInt8)) (v4 : Int) (v5 : List Int) (v6 : List Int) : Option ((List Int) × Int) := loopM m (fun (s : (Int × (List Int) × (List Int))) => S_fuzzy_Rank_b1 m a0 a1 s.1 s.2.1 s.2.2) (v4, v5, v6)

theorem f10_j4_ok {a0 : List UInt8} {a1 : List (List UInt8)} {v5 : List Int} {v6 : List Int} {m : Option Nat} {o : ((List Int) × Int)} (h : S_fuzzy_Rank_j4 m a1 v5 v6 = some o) :
    LWp Try.prog f10_lay 0 f10_c0 (f10_Q a0 a1 o) [(3, .ptr (0, 0) 0 0), (6, .ptr (1, 0) 0 0), (7, .msl (2, 0) 1 0 v5.length false)] [((0, 0), .one [.isl 1 (a1.map e_str) false]), ((1, 0), .one [.msl (3, 0) 1 0 v6.length true]), ((2, 0), .rows 1 (v5.map e_i64)), ((3, 0), .rows 1 (v6.map e_i64))] 4 := by
  unfold S_fuzzy_Rank_j4 at h
  refine seqI ?_
  refine regI ?_
  obtain ⟨v13, h24, h⟩ := bind_some h
  refine bcall (k := 3) (m := 1) (L' := [((2, 0), .rows 1 (v13.1.map e_i64)), ((1, 0), .one [.msl (4, 0) 1 0 v6.length true]), ((0, 0), .one [.isl 1 (a1.map e_str) false]), ((4, 0), .rows 1 (v6.map e_i64))]) (rest := []) (R' := .tup []) [((0, 0), (2, 0)), ((1, 0), (1, 0)), ((1, 1), (0, 0)), ((2, 0), (3, 0))] (f16b0_ok (show Clo Try.prog (.func 17) [] [.ptr (1, 0) 0 0, .ptr (1, 1) 0 0] (fun (s : Unit) => [((1, 0), .one [.msl (2, 0) 1 0 v6.length true]), ((1, 1), .one [.isl 1 (a1.map e_str) false]), ((2, 0), .rows 1 (v6.map e_i64))]) (fun (x : (Int × Int)) => [.int .i64 x.1, .int .i64 x.2]) (fun (b : Int) => .int .i64 b) (fun (s : Unit) (x : (Int × Int)) => (S_fuzzy_Rank_1c m a1 v6 x.1 x.2).map fun o => (o, ())) from Clo.mk' (fun s => Tl.lit rfl (AI (rfl) (AI (rfl) (AI (rows_inP e_i64 (fun _ => rfl) _ _) TT))) rfl) rfl rfl (fun _ => rfl) (fun s x o h => by obtain ⟨o1, h1, rfl⟩ := Option.map_eq_some_iff.1 h; exact EX _ (AI (f17c0_ok h1) (AI rfl (AI rfl (AI rfl (AI rfl (AI rfl (AI (rows_ren e_i64 (fun _ => rfl) _ _) TT))))))))) h24) rfl rfl rfl (AI (Vw.mslE rfl (by first | rfl | omega | (simp; done) | (simp at *; omega)) rfl) (AI (Vw.fnL TT (AI (Vw.ptr _ _ _ _ rfl) (AI (Vw.ptr _ _ _ _ rfl) TT))) TT)) (AI (h0I (2, 0) rfl rfl (BVw.enc e_i64 (fun _ => rfl) _ v5)) (AI (h0I (1, 0) rfl rfl (BVw.oneL (AI (Vw.mslE rfl (by first | rfl | omega | (simp; done) | (simp at *; omega)) rfl) TT))) (AI (h0I (0, 0) rfl rfl (BVw.oneL (AI (VS rfl) TT))) (AI (h0I (3, 0) rfl rfl (BVw.enc e_i64 (fun _ => rfl) _ v6)) TT)))) (nid_ren _ rfl) (AI rfl (AI (rows_ren e_i64 (fun _ => rfl) _ _) (AI rfl (AI rfl (AI rfl (AI rfl (AI rfl (AI ((congrArg (ABlock.ren _) (rows_ren e_i64 (fun _ => rfl) _ _)).trans (rows_ren e_i64 (fun _ => rfl) _ _)) TT)))))))) rfl ?_
  obtain ⟨h25, h⟩ := ite_some h
  refine seqI ?_
  refine regI ?_
  refine retI ?_
  cases h
  exact AI TT (AI TT (AI rfl (Vw.tupL (AI (Vw.frzB e_i64 e_i64_ok (fun h => h) rfl rfl (by first | rfl | omega | (simp; done) | (simp at *; omega))) (AI (VS rfl) TT)))))

theorem f10_L1_bok {a0 : List UInt8} {a1 : List (List UInt8)} {v4 : Int} {v5 : List Int} {v6 : List Int} {m : Option Nat} {o : (Int × (List Int) × (List Int)) ⊕ ((List Int) × Int)} (h : S_fuzzy_Rank_b1 m a0 a1 v4 v5 v6 = some o) :
    LWp Try.prog f10_lay 0 f10_c2 (BodyQ 0 4 (f10_L1_env a0 a1) (f10_L1_hp a0 a1) (f10_L1_Q a0 a1) o) [(0, .str a0), (3, .ptr (0, 0) 0 0), (6, .ptr (1, 0) 0 0), (7, .msl (2, 0) 1 0 v5.length false), (19, .isl 1 (a1.map e_str) false), (20, .int .i64 ((a1.map e_str).length : Int)), (21, .int .i64 v4)] [((0, 0), .one [.isl 1 (a1.map e_str) false]), ((1, 0), .one [.msl (3, 0) 1 0 v6.length true]), ((2, 0), .rows 1 (v5.map e_i64)), ((3, 0), .rows 1 (v6.map e_i64))] 4 := by
  unfold S_fuzzy_Rank_b1 at h
  refine seqI ?_
  refine regI ?_
  refine seqI ?_
  refine condI (v := (decide (v4 < ((a1.map e_str).length : Int)))) rfl TT (fun h17 => ?_) (fun h17 => ?_)
  · have h := ite_tt h17 h
    refine skipI ?_
    refine seqI ?_
    refine blockI ?_
    refine seqI ?_
    refine regI ?_
    obtain ⟨h18, h⟩ := ite_some h
    refine AI h18 ?_
    refine EX (e_str (a1.getD v4.toNat default)) (AI (getD_enc e_str _ _ (idx_ltL e_str h18)) (AI (AI (idx_lt h18) (NB rfl)) ?_))
    refine seqI ?_
    refine regI ?_
    obtain ⟨v10, h19, h⟩ := bind_some h
    refine PFn.call (f6_ok h19) (AI (VS rfl) (AI (VS rfl) TT)) ?_
    refine LWp.sim (e := [(0, .str a0), (3, .ptr (0, 0) 0 0), (6, .ptr (1, 0) 0 0), (7, .msl (2, 0) 1 0 v5.length false), (8, .int .i64 v4), (10, .int .i64 v10.1), (12, .bool v10.2.2), (19, .isl 1 (a1.map e_str) false), (20, .int .i64 ((a1.map e_str).length : Int)), (21, .int .i64 v4)]) (L := [((0, 0), .one [.isl 1 (a1.map e_str) false]), ((1, 0), .one [.msl (3, 0) 1 0 v6.length true]), ((2, 0), .rows 1 (v5.map e_i64)), ((3, 0), .rows 1 (v6.map e_i64))]) (n := 4) ?_ ?_
    · exact simI (M := [((0, 0), (0, 0)), ((1, 0), (1, 0)), ((2, 0), (2, 0)), ((3, 0), (3, 0))]) rfl (AI (VS rfl) (AI (Vw.ptr _ _ _ _ rfl) (AI (Vw.ptr _ _ _ _ rfl) (AI (Vw.mslE rfl (by first | rfl | omega | (simp; done) | (simp at *; omega)) rfl) (AI (VS rfl) (AI (VS rfl) (AI (VS rfl) (AI (VS rfl) (AI (VS rfl) (AI (VS rfl) TT)))))))))) (AI (AI rfl (BVw.oneL (AI (VS rfl) TT))) (AI (AI rfl (BVw.oneL (AI (Vw.mslE rfl (by first | rfl | omega | (simp; done) | (simp at *; omega)) rfl) TT))) (AI (AI rfl (BVw.enc e_i64 (fun _ => rfl) _ v5)) (AI (AI rfl (BVw.enc e_i64 (fun _ => rfl) _ v6)) TT))))
    refine seqI ?_
    refine regI ?_
    refine condI (v := v10.2.2) rfl TT (fun h20 => ?_) (fun h20 => ?_)
    · have h := ite_tt h20 h
      refine drawI ?_
      obtain ⟨h21, h⟩ := ite_some h
      refine AI (fun h => Bool.noConfusion h) (AI (lenW e_i64 (by first | rfl | omega | (simp; done) | (simp at *; omega))) (EX ((v5 ++ ([v4] : List Int)).map e_i64) (AI (appW e_i64 v5 ([v4] : List Int) (by first | rfl | omega | (simp; done) | (simp at *; omega))) (AI h21 ?_))))
      refine AI rfl ?_
      obtain ⟨h22, h⟩ := ite_some h
      refine AI h22 ?_
      obtain ⟨h23, h⟩ := ite_some h
      refine EX ((v6.set (0 + v4.toNat) v10.1).map e_i64) (AI (set_enc e_i64 _ _ _ _ _ h23 rfl) (AI (AI rfl (AI (lt_map e_i64 h23) (NB rfl))) ?_))
      refine LWp.sim ?_ (f10_j3_ok h)
      exact simI (M := [((0, 0), (0, 0)), ((1, 0), (1, 0)), ((2, 0), (4, 0)), ((3, 0), (3, 0))]) rfl (AI (VS rfl) (AI (Vw.ptr _ _ _ _ rfl) (AI (Vw.ptr _ _ _ _ rfl) (AI (Vw.mslE rfl (by first | rfl | omega | (simp; done) | (simp at *; omega)) rfl) (AI (VS rfl) (AI (VS rfl) (AI (VS rfl) TT))))))) (AI (AI rfl (BVw.oneL (AI (VS rfl) TT))) (AI (AI rfl (BVw.oneL (AI (Vw.mslE rfl (by first | rfl | omega | (simp; done) | (simp at *; omega)) rfl) TT))) (AI (AI rfl (BVw.enc e_i64 (fun _ => rfl) _ (v5 ++ ([v4] : List Int)))) (AI (AI rfl (BVw.enc e_i64 (fun _ => rfl) _ (v6.set (0 + v4.toNat) v10.1))) TT))))
    · have h := ite_ff h20 h
      refine skipI ?_
      refine LWp.sim ?_ (f10_j3_ok h)
      exact simI (M := [((0, 0), (0, 0)), ((1, 0), (1, 0)), ((2, 0), (2, 0)), ((3, 0), (3, 0))]) rfl (AI (VS rfl) (AI (Vw.ptr _ _ _ _ rfl) (AI (Vw.ptr _ _ _ _ rfl) (AI (Vw.mslE rfl (by first | rfl | omega | (simp; done) | (simp at *; omega)) rfl) (AI (VS rfl) (AI (VS rfl) (AI (VS rfl) TT))))))) (AI (AI rfl (BVw.oneL (AI (VS rfl) TT))) (AI (AI rfl (BVw.oneL (AI (Vw.mslE rfl (by first | rfl | omega | (simp; done) | (simp at *; omega)) rfl) TT))) (AI (AI rfl (BVw.enc e_i64 (fun _ => rfl) _ v5)) (AI (AI rfl (BVw.enc e_i64 (fun _ => rfl) _ v6)) TT))))
  · have h := ite_ff h17 h
    refine exitI ?_
    obtain ⟨o, hq, rfl⟩ := Option.map_eq_some_iff.1 h
    replace h := hq; clear hq
    refine AI nofun ?_
    refine LWp.sim ?_ (f10_j4_ok h)
    exact simI (M := [((0, 0), (0, 0)), ((1, 0), (1, 0)), ((2, 0), (2, 0)), ((3, 0), (3, 0))]) rfl (AI (Vw.ptr _ _ _ _ rfl) (AI (Vw.ptr _ _ _ _ rfl) (AI (Vw.mslE rfl (by first | rfl | omega | (simp; done) | (simp at *; omega)) rfl) TT))) (AI (AI rfl (BVw.oneL (AI (VS rfl) TT))) (AI (AI rfl (BVw.oneL (AI (Vw.mslE rfl (by first | rfl | omega | (simp; done) | (simp at *; omega)) rfl) TT))) (AI (AI rfl (BVw.enc e_i64 (fun _ => rfl) _ v5)) (AI (AI rfl (BVw.enc e_i64 (fun _ => rfl) _ v6)) TT))))

theorem f10_L1_ok {a0 : List UInt8} {a1 : List (List UInt8)} {v4 : Int} {v5 : List Int} {v6 : List Int} {m : Option Nat} {o : ((List Int) × Int)} (h : S_fuzzy_Rank_l1 m a0 a1 v4 v5 v6 = some o) :
    LWp Try.prog f10_lay 0 (.loop f10_c2) (QBlock 0 (QSeq Try.prog f10_lay 0 f10_c0 (f10_Q a0 a1 o))) [(0, .str a0), (3, .ptr (0, 0) 0 0), (6, .ptr (1, 0) 0 0), (7, .msl (2, 0) 1 0 v5.length false), (19, .isl 1 (a1.map e_str) false), (20, .int .i64 ((a1.map e_str).length : Int)), (21, .int .i64 v4)] [((0, 0), .one [.isl 1 (a1.map e_str) false]), ((1, 0), .one [.msl (3, 0) 1 0 v6.length true]), ((2, 0), .rows 1 (v5.map e_i64)), ((3, 0), .rows 1 (v6.map e_i64))] 4 :=
  LWp_loopM (m := m) (s := ((v4, v5, v6) : (Int × (List Int) × (List Int)))) (r := o) (fun (s : (Int × (List Int) × (List Int))) => S_fuzzy_Rank_b1 m a0 a1 s.1 s.2.1 s.2.2) (f10_L1_env a0 a1) (f10_L1_hp a0 a1) (f10_L1_Q a0 a1) (fun s o h => f10_L1_bok h) h

noncomputable def S_fuzzy_Rank (m : Option Nat) (a0 : List UInt8) (a1 : List (List UInt8)) : Option ((List Int) × Int) :=
  if (decide (((a1.map e_str).length : Int) > 200)) = true then
    some (([] : List Int), 2)
  else
    if (0 : Int) ≤ ((a1.map e_str).length : Int) ∧ ((a1.map e_str).length : Int) ≤ ((a1.map e_str).length : Int) ∧ ((a1.map e_str).length : Int) * 8 ≤ 140737488355328 then
    S_fuzzy_Rank_l1 m a0 a1 0 ([] : List Int) (List.replicate ((a1.map e_str).length : Int).toNat 0)
    else none

theorem f10_start {a0 : List UInt8} {a1 : List (List UInt8)} {m : Option Nat} {o : (List Int) × Int} (h : S_fuzzy_Rank m a0 a1 = some o) : LWp Try.prog f10_lay 0 f10_c3 (f10_Q a0 a1 o) (initEnv 0 [.str a0, .isl 1 (a1.map e_str) false]) [] 0 := by
  unfold S_fuzzy_Rank at h
  refine seqI ?_
  refine LWp.ghost 1 ?_
  refine regI ?_
  refine LWp.sim (e := [(0, .str a0), (3, .ptr (0, 0) 0 0)]) (L := [((0, 0), .one [.isl 1 (a1.map e_str) false])]) (n := 1) ?_ ?_
  · exact simI (M := [((0, 0), (1, 0))]) rfl (AI (VS rfl) (AI (Vw.ptr _ _ _ _ rfl) TT)) (AI (AI rfl (BVw.oneL (AI (VS rfl) TT))) TT)
  refine seqI ?_
  refine seqI ?_
  refine regI ?_
  refine condI (v := (decide (((a1.map e_str).length : Int) > 200))) rfl TT (fun h1 => ?_) (fun h1 => ?_)
  · have h := ite_tt h1 h
    refine seqI ?_
    refine LWp.ghost 1 ?_
    refine regI ?_
    refine LWp.sim (e := [(4, .msl (0, 0) 1 0 (([] : List Int).length) false), (5, .int .i64 2)]) (L := [((0, 0), .rows 1 (([] : List Int).map e_i64))]) (n := 1) ?_ ?_
    · exact simI (M := [((0, 0), (1, 0))]) rfl (AI (Vw.nilM _ _ _ _ _ _ rfl rfl) (AI (VS rfl) TT)) (AI (AI rfl (BVw.enc e_i64 (fun _ => rfl) _ ([] : List Int))) TT)
    refine retI ?_
    cases h
    exact AI TT (AI TT (AI rfl (Vw.tupL (AI (Vw.frzB e_i64 e_i64_ok (fun h => h) rfl rfl (by first | rfl | omega | (simp; done) | (simp at *; omega))) (AI (VS rfl) TT)))))
  · have h := ite_ff h1 h
    refine skipI ?_
    refine seqI ?_
    refine regI ?_
    obtain ⟨h2, h⟩ := ite_some h
    refine EX ((List.replicate ((a1.map e_str).length : Int).toNat 0).map e_i64) (EX true (AI (Or.inl (repl_enc e_i64 ((a1.map e_str).length : Int).toNat 0)) (AI (by simp) (AI h2 ?_))))
    refine LWp.sim (e := [(0, .str a0), (3, .ptr (0, 0) 0 0), (6, .ptr (1, 0) 0 0)]) (L := [((0, 0), .one [.isl 1 (a1.map e_str) false]), ((1, 0), .one [.msl (2, 0) 1 0 (((List.replicate ((a1.map e_str).length : Int).toNat 0).map e_i64).length) true]), ((2, 0), .rows 1 ((List.replicate ((a1.map e_str).length : Int).toNat 0).map e_i64))]) (n := 3) ?_ ?_
    · exact simI (M := [((0, 0), (0, 0)), ((1, 0), (2, 0)), ((2, 0), (1, 0))]) rfl (AI (VS rfl) (AI (Vw.ptr _ _ _ _ rfl) (AI (Vw.ptr _ _ _ _ rfl) TT))) (AI (AI rfl (BVw.oneL (AI (VS rfl) TT))) (AI (AI rfl (BVw.oneL (AI (Vw.mslE rfl (by first | rfl | omega | (simp; done) | (simp at *; omega)) rfl) TT))) (AI (AI rfl (BVw.enc e_i64 (fun _ => rfl) _ (List.replicate ((a1.map e_str).length : Int).toNat 0))) TT)))
    refine seqI ?_
    refine LWp.ghost 1 ?_
    refine regI ?_
    refine LWp.sim (e := [(0, .str a0), (3, .ptr (0, 0) 0 0), (6, .ptr (1, 0) 0 0), (7, .msl (2, 0) 1 0 (([] : List Int).length) false)]) (L := [((0, 0), .one [.isl 1 (a1.map e_str) false]), ((1, 0), .one [.msl (3, 0) 1 0 (((List.replicate ((a1.map e_str).length : Int).toNat 0).map e_i64).length) true]), ((2, 0), .rows 1 (([] : List Int).map e_i64)), ((3, 0), .rows 1 ((List.replicate ((a1.map e_str).length : Int).toNat 0).map e_i64))]) (n := 4) ?_ ?_
    · exact simI (M := [((0, 0), (0, 0)), ((1, 0), (1, 0)), ((2, 0), (3, 0)), ((3, 0), (2, 0))]) rfl (AI (VS rfl) (AI (Vw.ptr _ _ _ _ rfl) (AI (Vw.ptr _ _ _ _ rfl) (AI (Vw.nilM _ _ _ _ _ _ rfl rfl) TT)))) (AI (AI rfl (BVw.oneL (AI (VS rfl) TT))) (AI (AI rfl (BVw.oneL (AI (Vw.mslE rfl (by first | rfl | omega | (simp; done) | (simp at *; omega)) rfl) TT))) (AI (AI rfl (BVw.enc e_i64 (fun _ => rfl) _ ([] : List Int))) (AI (AI rfl (BVw.enc e_i64 (fun _ => rfl) _ (List.replicate ((a1.map e_str).length : Int).toNat 0))) TT))))
    refine seqI ?_
    refine seqI ?_
    refine regI ?_
    refine blockI ?_
    refine LWp.sim ?_ (f10_L1_ok h)
    exact simI (M := [((0, 0), (0, 0)), ((1, 0), (1, 0)), ((2, 0), (2, 0)), ((3, 0), (3, 0))]) rfl (AI (VS rfl) (AI (Vw.ptr _ _ _ _ rfl) (AI (Vw.ptr _ _ _ _ rfl) (AI (Vw.mslE rfl (by first | rfl | omega | (simp; done) | (simp at *; omega)) rfl) (AI (VS rfl) (AI (VS rfl) (AI (VS rfl) TT))))))) (AI (AI rfl (BVw.oneL (AI (VS rfl) TT))) (AI (AI rfl (BVw.oneL (AI (Vw.mslE rfl (by first | rfl | omega | (simp; done) | (simp at *; omega)) rfl) TT))) (AI (AI rfl (BVw.enc e_i64 (fun _ => rfl) _ ([] : List Int))) (AI (AI rfl (BVw.enc e_i64 (fun _ => rfl) _ (List.replicate ((a1.map e_str).length : Int).toNat 0))) TT))))

theorem f10_ok {a0 : List UInt8} {a1 : List (List UInt8)} {m : Option Nat} {o : (List Int) × Int} (h : S_fuzzy_Rank m a0 a1 = some o) : PFn Try.prog 10 [.str a0, .isl 1 (a1.map e_str) false] (.tup [.isl 1 (o.1.map e_i64) false, .int .i64 o.2]) := PFn.ofFnW (L := f10_L) f10_low f10_fok (NB rfl) rfl (f10_start h)

def f8_c1 : LCode := (.seq (.seq (.region [⟨some 11, .mv (.t 5), none⟩,
   ⟨some 12, .mv (.t 0), none⟩,
   ⟨some 13, .len false (.t 12), none⟩,
   ⟨some 14, .bin .lss (.t 11) (.t 13), none⟩])
 (.cond (.t 14)
  .skip
  (.exit 0)))
 (.seq (.block 1
  (.seq (.quiet [⟨some 17, .mv (.t 0), none⟩,
    ⟨some 18, .mv (.t 5), none⟩,
    ⟨some 19, .iaddr 1 (.t 17) (.t 18), none⟩,
    ⟨some 20, .load false 1 (.t 19), none⟩,
    ⟨some 21, .mv (.t 1), none⟩,
    ⟨some 22, .mv (.t 5), none⟩,
    ⟨some 23, .iaddr 1 (.t 21) (.t 22), none⟩,
    ⟨some 24, .load false 1 (.t 23), none⟩,
    ⟨some 25, .bin .neq (.t 20) (.t 24), none⟩])
  (.cond (.t 25)
   (.seq (.region [⟨some 4, .mv (.c (.bool false)), none⟩])
   .ret)
   .skip)))
 (.region [⟨some 15, .mv (.t 5), none⟩,
   ⟨some 16, .bin .add (.t 15) (.c (.int .i64 1)), none⟩,
   ⟨some 5, .mv (.t 16), none⟩])))
def f8_c0 : LCode := (.seq (.region [⟨some 4, .mv (.c (.bool true)), none⟩])
 .ret)
def f8_c2 : LCode := (.seq (.region [⟨some 4, .mv (.c (.bool false)), none⟩])
 (.seq (.seq (.region [⟨some 6, .mv (.t 0), none⟩,
   ⟨some 7, .len false (.t 6), none⟩,
   ⟨some 8, .mv (.t 1), none⟩,
   ⟨some 9, .len false (.t 8), none⟩,
   ⟨some 10, .bin .neq (.t 7) (.t 9), none⟩])
 (.cond (.t 10)
  (.seq (.region [⟨some 4, .mv (.c (.bool false)), none⟩])
  .ret)
  .skip))
 (.seq (.seq (.region [⟨some 5, .mv (.c (.int .i64 0)), none⟩])
 (.block 0
  (.loop
   f8_c1)))
 f8_c0)))
def f8_lay : Lay := ⟨26, [], false⟩
def f8_res : List LRes := [.t 4]
def f8_L : LFn := ⟨2, f8_lay, f8_c2, f8_res⟩
theorem f8_low : lowFn Try.prog [] 8 = some f8_L := by kernel_rfl
theorem f8_fok : FnOk Try.prog 8 := ⟨_, Try.func8, rfl, rfl⟩
def f8_Q (a0 : List Int) (a1 : List Int) (o : Bool) : Exit → Env → AHeap → Nat → Prop := FinK f8_res (PureEnd (.bool o))

def f8_L1_env (a0 : List Int) (a1 : List Int) (s : Int) : Env := [(0, .isl 1 (a0.map e_i64) false), (1, .isl 1 (a1.map e_i64) false), (5, .int .i64 s)]
def f8_L1_hp (a0 : List Int) (a1 : List Int) (s : Int) : AHeap := []
def f8_L1_Q (a0 : List Int) (a1 : List Int) (o : Bool) : Exit → Env → AHeap → Nat → Prop := (QBlock 0 (QSeq Try.prog f8_lay 0 f8_c0 (f8_Q a0 a1 o)))

noncomputable def S_glossatorref4_EqualInts_j1 (m : Option Nat) : Option Bool :=
  some true

noncomputable def S_glossatorref4_EqualInts_b1 (m : Option Nat) (a0 : List Int) (a1 : List Int) (v1 : Int) : Option (Int ⊕ Bool) :=
  if (decide (v1 < ((a0.map e_i64).length : Int))) = true then
    if (0 : Int) ≤ v1 ∧ v1 < ((a0.map e_i64).length : Int) then
    if (0 : Int) ≤ v1 ∧ v1 < ((a1.map e_i64).length : Int) then
    if ((a0.getD v1.toNat default) != (a1.getD v1.toNat default)) = true then
      Option.map Sum.inr (
        some false)
    else
      some (.inl (W (v1 + 1)))
    else none
    else none
  else
    Option.map Sum.inr (
      S_glossatorref4_EqualInts_j1 m)

noncomputable def S_glossatorref4_EqualInts_l1 (m : Option Nat) (a0 : List Int) (a1 : List Int) (v1 : Int) : Option Bool := loopM m (fun (s : Int) => S_glossatorref4_EqualInts_b1 m a0 a1 s) v1

theorem f8_j1_ok {a0 : List Int} {a1 : List Int} {m : Option Nat} {o : Bool} (h : S_glossatorref4_EqualInts_j1 m = some o) :
    LWp Try.prog f8_lay 0 f8_c0 (f8_Q a0 a1 o) [] [] 0 := by
  unfold S_glossatorref4_EqualInts_j1 at h
  refine seqI ?_
  refine regI ?_
  refine retI ?_
  cases h
  exact AI TT (AI rfl (VS rfl))

theorem f8_L1_bok {a0 : List Int} {a1 : List Int} {v1 : Int} {m : Option Nat} {o : Int ⊕ Bool} (h : S_glossatorref4_EqualInts_b1 m a0 a1 v1 = some o) :
    LWp Try.prog f8_lay 0 f8_c1 (BodyQ 0 0 (f8_L1_env a0 a1) (f8_L1_hp a0 a1) (f8_L1_Q a0 a1) o) [(0, .isl 1 (a0.map e_i64) false), (1, .isl 1 (a1.map e_i64) false), (5, .int .i64 v1)] [] 0 := by
  unfold S_glossatorref4_EqualInts_b1 at h
  refine seqI ?_
  refine seqI ?_
  refine regI ?_
  refine condI (v := (decide (v1 < ((a0.map e_i64).length : Int)))) rfl TT (fun h10 => ?_) (fun h10 => ?_)
  · have h := ite_tt h10 h
    refine skipI ?_
    refine seqI ?_
    refine blockI ?_
    refine seqI ?_
    refine quietI ?_
    obtain ⟨h11, h⟩ := ite_some h
    refine AI h11 ?_
    refine EX (e_i64 (a0.getD v1.toNat default)) (AI (getD_enc e_i64 _ _ (idx_ltL e_i64 h11)) (AI (AI (idx_lt h11) (NB rfl)) ?_))
    obtain ⟨h12, h⟩ := ite_some h
    refine AI h12 ?_
    refine EX (e_i64 (a1.getD v1.toNat default)) (AI (getD_enc e_i64 _ _ (idx_ltL e_i64 h12)) (AI (AI (idx_lt h12) (NB rfl)) ?_))
    refine LWp.sim (e := [(0, .isl 1 (a0.map e_i64) false), (1, .isl 1 (a1.map e_i64) false), (5, .int .i64 v1), (25, .bool ((a0.getD v1.toNat default) != (a1.getD v1.toNat default)))]) (L := []) (n := 0) ?_ ?_
    · exact simI (M := []) rfl (AI (VS rfl) (AI (VS rfl) (AI (VS rfl) (AI (VS rfl) TT)))) TT
    refine condI (v := ((a0.getD v1.toNat default) != (a1.getD v1.toNat default))) rfl TT (fun h13 => ?_) (fun h13 => ?_)
    · have h := ite_tt h13 h
      refine seqI ?_
      refine regI ?_
      refine retI ?_
      obtain ⟨o, hq, rfl⟩ := Option.map_eq_some_iff.1 h
      replace h := hq; clear hq
      refine AI nofun ?_
      cases h
      exact AI TT (AI rfl (VS rfl))
    · have h := ite_ff h13 h
      refine skipI ?_
      refine regI ?_
      cases h
      exact AI rfl (simI (M := []) rfl (AI (VS rfl) (AI (VS rfl) (AI (VS rfl) TT))) TT)
  · have h := ite_ff h10 h
    refine exitI ?_
    obtain ⟨o, hq, rfl⟩ := Option.map_eq_some_iff.1 h
    replace h := hq; clear hq
    refine AI nofun ?_
    refine LWp.sim ?_ (f8_j1_ok h)
    exact simI (M := []) rfl TT TT

theorem f8_L1_ok {a0 : List Int} {a1 : List Int} {v1 : Int} {m : Option Nat} {o : Bool} (h : S_glossatorref4_EqualInts_l1 m a0 a1 v1 = some o) :
    LWp Try.prog f8_lay 0 (.loop f8_c1) (QBlock 0 (QSeq Try.prog f8_lay 0 f8_c0 (f8_Q a0 a1 o))) [(0, .isl 1 (a0.map e_i64) false), (1, .isl 1 (a1.map e_i64) false), (5, .int .i64 v1)] [] 0 :=
  LWp_loopM (m := m) (s := (v1 : Int)) (r := o) (fun (s : Int) => S_glossatorref4_EqualInts_b1 m a0 a1 s) (f8_L1_env a0 a1) (f8_L1_hp a0 a1) (f8_L1_Q a0 a1) (fun s o h => f8_L1_bok h) h

noncomputable def S_glossatorref4_EqualInts (m : Option Nat) (a0 : List Int) (a1 : List Int) : Option Bool :=
  if (((a0.map e_i64).length : Int) != ((a1.map e_i64).length : Int)) = true then
    some false
  else
    S_glossatorref4_EqualInts_l1 m a0 a1 0

theorem f8_start {a0 : List Int} {a1 : List Int} {m : Option Nat} {o : Bool} (h : S_glossatorref4_EqualInts m a0 a1 = some o) : LWp Try.prog f8_lay 0 f8_c2 (f8_Q a0 a1 o) (initEnv 0 [.isl 1 (a0.map e_i64) false, .isl 1 (a1.map e_i64) false]) [] 0 := by
  unfold S_glossatorref4_EqualInts at h
  refine seqI ?_
  refine regI ?_
  refine seqI ?_
  refine seqI ?_
  refine regI ?_
  refine condI (v := (((a0.map e_i64).length : Int) != ((a1.map e_i64).length : Int))) rfl TT (fun h1 => ?_) (fun h1 => ?_)
  · have h := ite_tt h1 h
    refine seqI ?_
    refine regI ?_
    refine retI ?_
    cases h
    exact AI TT (AI rfl (VS rfl))
  · have h := ite_ff h1 h
    refine skipI ?_
    refine seqI ?_
    refine seqI ?_
    refine regI ?_
    refine blockI ?_
    refine LWp.sim ?_ (f8_L1_ok h)
    exact simI (M := []) rfl (AI (VS rfl) (AI (VS rfl) (AI (VS rfl) TT))) TT

theorem f8_ok {a0 : List Int} {a1 : List Int} {m : Option Nat} {o : Bool} (h : S_glossatorref4_EqualInts m a0 a1 = some o) : PFn Try.prog 8 [.isl 1 (a0.map e_i64) false, .isl 1 (a1.map e_i64) false] (.bool o) := PFn.ofFnW (L := f8_L) f8_low f8_fok (NB rfl) rfl (f8_start h)

def f5_c0 : LCode := (.seq (.region [⟨some 0, .mv (.c (.bool false)), none⟩])
 (.seq (.region [⟨some 10, .call 6 [(.c (.str [103, 98])), (.c (.str [103, 101, 116, 66, 105, 103]))], none⟩,
   ⟨some 9, .mv (.t 10), none⟩,
   ⟨some 11, .ext 0 (.t 9), none⟩,
   ⟨some 12, .ext 1 (.t 9), none⟩,
   ⟨some 13, .ext 2 (.t 9), none⟩,
   ⟨some 1, .mv (.t 11), none⟩,
   ⟨some 2, .mv (.t 12), none⟩,
   ⟨some 3, .mv (.t 13), none⟩])
 (.seq (.region [⟨some 15, .call 6 [(.c (.str [98, 97])), (.c (.str [97, 98]))], none⟩,
   ⟨some 14, .mv (.t 15), none⟩,
   ⟨some 16, .ext 0 (.t 14), none⟩,
   ⟨some 17, .ext 1 (.t 14), none⟩,
   ⟨some 18, .ext 2 (.t 14), none⟩,
   ⟨some 4, .mv (.t 16), none⟩,
   ⟨some 5, .mv (.t 17), none⟩,
   ⟨some 6, .mv (.t 18), none⟩])
 (.seq (.region [⟨some 20, .mkSl true 1 [(.str [])] 5 [(0, (.c (.str [98, 97]))), (1, (.c (.str [97]))), (2, (.c (.str [98, 65]))), (3, (.c (.str [65]))), (4, (.c (.str [120])))], none⟩,
   ⟨some 21, .call 10 [(.c (.str [97])), (.t 20)], none⟩,
   ⟨some 19, .mv (.t 21), none⟩,
   ⟨some 22, .ext 0 (.t 19), none⟩,
   ⟨some 23, .ext 1 (.t 19), none⟩,
   ⟨some 7, .mv (.t 22), none⟩,
   ⟨some 8, .mv (.t 23), none⟩])
 (.seq (.region [⟨some 24, .mv (.t 1), none⟩,
   ⟨some 25, .bin .eql (.t 24) (.c (.int .i64 11)), none⟩,
   ⟨some 26, .mv (.t 25), none⟩,
   ⟨some 27, .mv (.t 2), some (26, true)⟩,
   ⟨some 28, .mkSl true 1 [(.int .i64 0)] 2 [(0, (.c (.int .i64 0))), (1, (.c (.int .i64 3)))], some (26, true)⟩,
   ⟨some 29, .call 8 [(.t 27), (.t 28)], some (26, true)⟩,
   ⟨some 30, .pick (.t 26) (.t 29) (.c (.bool false)), none⟩,
   ⟨some 31, .mv (.t 30), none⟩,
   ⟨some 32, .mv (.t 3), some (31, true)⟩,
   ⟨some 33, .pick (.t 31) (.t 32) (.c (.bool false)), none⟩,
   ⟨some 34, .mv (.t 33), none⟩,
   ⟨some 35, .mv (.t 6), some (34, true)⟩,
   ⟨some 36, .un .not (.t 35), some (34, true)⟩,
   ⟨some 37, .pick (.t 34) (.t 36) (.c (.bool false)), none⟩,
   ⟨some 38, .mv (.t 37), none⟩,
   ⟨some 39, .mv (.t 8), some (38, true)⟩,
   ⟨some 40, .bin .eql (.t 39) (.c (.int .i64 0)), some (38, true)⟩,
   ⟨some 41, .pick (.t 38) (.t 40) (.c (.bool false)), none⟩,
   ⟨some 42, .mv (.t 41), none⟩,
   ⟨some 43, .mv (.t 7), some (42, true)⟩,
   ⟨some 44, .mkSl true 1 [(.int .i64 0)] 4 [(0, (.c (.int .i64 1))), (1, (.c (.int .i64 3))), (2, (.c (.int .i64 2))), (3, (.c (.int .i64 0)))], some (42, true)⟩,
   ⟨some 45, .call 8 [(.t 43), (.t 44)], some (42, true)⟩,
   ⟨some 46, .pick (.t 42) (.t 45) (.c (.bool false)), none⟩,
   ⟨some 47, .mv (.t 46), none⟩,
   ⟨some 48, .call 9 [(.c (.int .u8 97)), (.c (.int .u8 65))], some (47, true)⟩,
   ⟨some 49, .pick (.t 47) (.t 48) (.c (.bool false)), none⟩,
   ⟨some 50, .mv (.t 49), none⟩,
   ⟨some 51, .call 9 [(.c (.int .u8 91)), (.c (.int .u8 123))], some (50, true)⟩,
   ⟨some 52, .un .not (.t 51), some (50, true)⟩,
   ⟨some 53, .pick (.t 50) (.t 52) (.c (.bool false)), none⟩,
   ⟨some 0, .mv (.t 53), none⟩])
 .ret)))))
def f5_lay : Lay := ⟨54, [], false⟩
def f5_res : List LRes := [.t 0]
def f5_L : LFn := ⟨0, f5_lay, f5_c0, f5_res⟩
theorem f5_low : lowFn Try.prog [] 5 = some f5_L := by kernel_rfl
theorem f5_fok : FnOk Try.prog 5 := ⟨_, Try.func5, rfl, rfl⟩
noncomputable def S_glossatorlaw4_fuzzyExamples (m : Option Nat) : Option Bool :=
  (S_fuzzy_Score m ([103, 98] : List UInt8) ([103, 101, 116, 66, 105, 103] : List UInt8)).bind fun v1 =>
  (S_fuzzy_Score m ([98, 97] : List UInt8) ([97, 98] : List UInt8)).bind fun v2 =>
  (S_fuzzy_Rank m ([97] : List UInt8) ([([98, 97] : List UInt8), ([97] : List UInt8), ([98, 65] : List UInt8), ([65] : List UInt8), ([120] : List UInt8)] : List (List UInt8))).bind fun v3 =>
  (if ((v1.1 == 11) == true) = true then S_glossatorref4_EqualInts m v1.2.1 ([0, 3] : List Int) else some default).bind fun v4 =>
  (if ((((((v1.1 == 11) && v4) && v1.2.2) && (!v2.2.2)) && (v3.2 == 0)) == true) = true then S_glossatorref4_EqualInts m v3.1 ([1, 3, 2, 0] : List Int) else some default).bind fun v5 =>
  (if (((((((v1.1 == 11) && v4) && v1.2.2) && (!v2.2.2)) && (v3.2 == 0)) && v5) == true) = true then S_fuzzy_EqualFold m 97 65 else some default).bind fun v6 =>
  (if ((((((((v1.1 == 11) && v4) && v1.2.2) && (!v2.2.2)) && (v3.2 == 0)) && v5) && v6) == true) = true then S_fuzzy_EqualFold m 91 123 else some default).bind fun v7 =>
  some ((((((((v1.1 == 11) && v4) && v1.2.2) && (!v2.2.2)) && (v3.2 == 0)) && v5) && v6) && (!v7))

def f5_Q (o : Bool) : Exit → Env → AHeap → Nat → Prop := FinK f5_res (PureEnd (.bool o))

theorem f5_start {m : Option Nat} {o : Bool} (h : S_glossatorlaw4_fuzzyExamples m = some o) : LWp Try.prog f5_lay 0 f5_c0 (f5_Q o) (initEnv 0 []) [] 0 := by
  unfold S_glossatorlaw4_fuzzyExamples at h
  refine seqI ?_
  refine regI ?_
  refine seqI ?_
  refine regI ?_
  obtain ⟨v1, h1, h⟩ := bind_some h
  refine PFn.call (f6_ok h1) (AI (VS rfl) (AI (VS rfl) TT)) ?_
  refine LWp.sim (e := [(1, .int .i64 v1.1), (2, .isl 1 (v1.2.1.map e_i64) false), (3, .bool v1.2.2)]) (L := []) (n := 0) ?_ ?_
  · exact simI (M := []) rfl (AI (VS rfl) (AI (VS rfl) (AI (VS rfl) TT))) TT
  refine seqI ?_
  refine regI ?_
  obtain ⟨v2, h2, h⟩ := bind_some h
  refine PFn.call (f6_ok h2) (AI (VS rfl) (AI (VS rfl) TT)) ?_
  refine LWp.sim (e := [(1, .int .i64 v1.1), (2, .isl 1 (v1.2.1.map e_i64) false), (3, .bool v1.2.2), (6, .bool v2.2.2)]) (L := []) (n := 0) ?_ ?_
  · exact simI (M := []) rfl (AI (VS rfl) (AI (VS rfl) (AI (VS rfl) (AI (VS rfl) TT)))) TT
  refine seqI ?_
  refine regI ?_
  obtain ⟨v3, h3, h⟩ := bind_some h
  refine PFn.call (f10_ok h3) (AI (VS rfl) (AI (Vw.islF _ _ _) TT)) ?_
  refine seqI ?_
  refine regI ?_
  refine Or.inl (EX (.isl 1 (([0, 3] : List Int).map e_i64) true) (AI (fun hp => AI rfl (AI rfl rfl)) ?_))
  obtain ⟨v4, h4, h⟩ := bind_some h
  refine Or.inl (EX (.bool v4) (AI (fun hp => AI (AI hp hp) (PFn.call (f8_ok (ite_tt hp h4)) (AI (VS rfl) (AI (Vw.islF _ _ _) TT)) (AI rfl (AI rfl rfl)))) ?_))
  refine AI (fun hc => (bqt hc)) ?_
  refine AI (fun hc => (bqt hc)) ?_
  refine AI (fun hp => hp) ?_
  refine AI (fun hc => (bqt hc)) ?_
  refine AI (fun hp => hp) ?_
  refine AI (fun hc => (bqt hc)) ?_
  refine Or.inl (EX (.isl 1 (([1, 3, 2, 0] : List Int).map e_i64) true) (AI (fun hp => AI rfl (AI rfl rfl)) ?_))
  obtain ⟨v5, h5, h⟩ := bind_some h
  refine Or.inl (EX (.bool v5) (AI (fun hp => AI (AI hp hp) (PFn.call (f8_ok (ite_tt hp h5)) (AI (VS rfl) (AI (Vw.islF _ _ _) TT)) (AI rfl (AI rfl rfl)))) ?_))
  refine AI (fun hc => (bqt hc)) ?_
  obtain ⟨v6, h6, h⟩ := bind_some h
  refine Or.inl (EX (.bool v6) (AI (fun hp => PFn.call (f9_ok (ite_tt hp h6)) (AI (VS rfl) (AI (VS rfl) TT)) (AI rfl (AI rfl rfl))) ?_))
  refine AI (fun hc => (bqt hc)) ?_
  obtain ⟨v7, h7, h⟩ := bind_some h
  refine Or.inl (EX (.bool v7) (AI (fun hp => PFn.call (f9_ok (ite_tt hp h7)) (AI (VS rfl) (AI (VS rfl) TT)) (AI rfl (AI rfl rfl))) ?_))
  refine AI (fun hp => hp) ?_
  refine AI (fun hc => (bqt hc)) ?_
  refine LWp.sim (e := [(0, .bool ((((((((v1.1 == 11) && v4) && v1.2.2) && (!v2.2.2)) && (v3.2 == 0)) && v5) && v6) && (!v7)))]) (L := []) (n := 0) ?_ ?_
  · exact simI (M := []) rfl (AI (VS rfl) TT) TT
  refine retI ?_
  cases h
  exact AI TT (AI rfl (VS rfl))

theorem f5_ok {m : Option Nat} {o : Bool} (h : S_glossatorlaw4_fuzzyExamples m = some o) : PFn Try.prog 5 [] (.bool o) := PFn.ofFnW (L := f5_L) f5_low f5_fok (NB rfl) rfl (f5_start h)

def f4_c1 : LCode := (.region [⟨some 44, .mv (.t 8), none⟩,
   ⟨some 45, .bin .add (.t 44) (.c (.int .i64 1)), none⟩,
   ⟨some 8, .mv (.t 45), none⟩])
def f4_c2 : LCode := (.seq (.seq (.region [⟨some 40, .mv (.t 8), none⟩,
   ⟨some 41, .mv (.t 1), none⟩,
   ⟨some 42, .len false (.t 41), none⟩,
   ⟨some 43, .bin .lss (.t 40) (.t 42), none⟩])
 (.cond (.t 43)
  .skip
  (.exit 0)))
 (.seq (.block 1
  (.seq (.region [⟨some 47, .mv (.t 0), none⟩,
    ⟨some 48, .mv (.t 1), none⟩,
    ⟨some 49, .mv (.t 8), none⟩,
    ⟨some 50, .iaddr 1 (.t 48) (.t 49), none⟩,
    ⟨some 51, .load false 1 (.t 50), none⟩,
    ⟨some 52, .call 6 [(.t 47), (.t 51)], none⟩,
    ⟨some 46, .mv (.t 52), none⟩,
    ⟨some 53, .ext 0 (.t 46), none⟩,
    ⟨some 54, .ext 1 (.t 46), none⟩,
    ⟨some 55, .ext 2 (.t 46), none⟩,
    ⟨some 9, .mv (.t 53), none⟩,
    ⟨some 10, .mv (.t 54), none⟩,
    ⟨some 11, .mv (.t 55), none⟩])
  (.seq (.region [⟨some 56, .mv (.t 11), none⟩])
  (.cond (.t 56)
   (.region [⟨some 57, .mv (.t 7), none⟩,
     ⟨some 58, .bin .add (.t 57) (.c (.int .i64 1)), none⟩,
     ⟨some 7, .mv (.t 58), none⟩])
   .skip))))
 f4_c1))
def f4_c4 : LCode := (.region [⟨some 71, .mv (.t 12), none⟩,
   ⟨some 72, .bin .add (.t 71) (.c (.int .i64 1)), none⟩,
   ⟨some 12, .mv (.t 72), none⟩])
def f4_c5 : LCode := (.seq (.seq (.region [⟨some 67, .mv (.t 12), none⟩,
   ⟨some 68, .mv (.t 5), none⟩,
   ⟨some 69, .len false (.t 68), none⟩,
   ⟨some 70, .bin .lss (.t 67) (.t 69), none⟩])
 (.cond (.t 70)
  .skip
  (.exit 2)))
 (.seq (.block 3
  (.seq (.seq (.region [⟨some 73, .mv (.t 5), none⟩,
    ⟨some 74, .mv (.t 12), none⟩,
    ⟨some 75, .iaddr 1 (.t 73) (.t 74), none⟩,
    ⟨some 76, .load false 1 (.t 75), none⟩,
    ⟨some 77, .bin .lss (.t 76) (.c (.int .i64 0)), none⟩,
    ⟨some 78, .mv (.t 77), none⟩,
    ⟨some 79, .mv (.t 5), some (78, false)⟩,
    ⟨some 80, .mv (.t 12), some (78, false)⟩,
    ⟨some 81, .iaddr 1 (.t 79) (.t 80), some (78, false)⟩,
    ⟨some 82, .load false 1 (.t 81), some (78, false)⟩,
    ⟨some 83, .mv (.t 1), some (78, false)⟩,
    ⟨some 84, .len false (.t 83), some (78, false)⟩,
    ⟨some 85, .bin .geq (.t 82) (.t 84), some (78, false)⟩,
    ⟨some 86, .pick (.t 78) (.c (.bool true)) (.t 85), none⟩])
  (.cond (.t 86)
   (.seq (.region [⟨some 4, .mv (.c (.bool false)), none⟩])
   .ret)
   .skip))
  (.seq (.region [⟨some 88, .mv (.t 0), none⟩,
    ⟨some 89, .mv (.t 1), none⟩,
    ⟨some 90, .mv (.t 5), none⟩,
    ⟨some 91, .mv (.t 12), none⟩,
    ⟨some 92, .iaddr 1 (.t 90) (.t 91), none⟩,
    ⟨some 93, .load false 1 (.t 92), none⟩,
    ⟨some 94, .iaddr 1 (.t 89) (.t 93), none⟩,
    ⟨some 95, .load false 1 (.t 94), none⟩,
    ⟨some 96, .call 6 [(.t 88), (.t 95)], none⟩,
    ⟨some 87, .mv (.t 96), none⟩,
    ⟨some 97, .ext 0 (.t 87), none⟩,
    ⟨some 98, .ext 1 (.t 87), none⟩,
    ⟨some 99, .ext 2 (.t 87), none⟩,
    ⟨some 13, .mv (.t 97), none⟩,
    ⟨some 14, .mv (.t 98), none⟩,
    ⟨some 15, .mv (.t 99), none⟩])
  (.seq (.seq (.region [⟨some 100, .mv (.t 15), none⟩,
    ⟨some 101, .un .not (.t 100), none⟩])
  (.cond (.t 101)
   (.seq (.region [⟨some 4, .mv (.c (.bool false)), none⟩])
   .ret)
   .skip))
  (.seq (.seq (.region [⟨some 102, .mv (.t 12), none⟩,
    ⟨some 103, .bin .eql (.t 102) (.c (.int .i64 0)), none⟩])
  (.cond (.t 103)
   (.exit 3)
   .skip))
  (.seq (.quiet [⟨some 104, .mv (.t 1), none⟩,
    ⟨some 105, .mv (.t 5), none⟩,
    ⟨some 106, .mv (.t 12), none⟩,
    ⟨some 107, .bin .sub (.t 106) (.c (.int .i64 1)), none⟩,
    ⟨some 108, .iaddr 1 (.t 105) (.t 107), none⟩,
    ⟨some 109, .load false 1 (.t 108), none⟩,
    ⟨some 110, .iaddr 1 (.t 104) (.t 109), none⟩,
    ⟨some 111, .load false 1 (.t 110), none⟩,
    ⟨some 112, .mv (.t 1), none⟩,
    ⟨some 113, .mv (.t 5), none⟩,
    ⟨some 114, .mv (.t 12), none⟩,
    ⟨some 115, .iaddr 1 (.t 113) (.t 114), none⟩,
    ⟨some 116, .load false 1 (.t 115), none⟩,
    ⟨some 117, .iaddr 1 (.t 112) (.t 116), none⟩,
    ⟨some 118, .load false 1 (.t 117), none⟩,
    ⟨some 16, .mv (.t 111), none⟩,
    ⟨some 17, .mv (.t 118), none⟩])
  (.seq (.region [⟨some 120, .mv (.t 0), none⟩,
    ⟨some 121, .mv (.t 16), none⟩,
    ⟨some 122, .call 6 [(.t 120), (.t 121)], none⟩,
    ⟨some 119, .mv (.t 122), none⟩,
    ⟨some 123, .ext 0 (.t 119), none⟩,
    ⟨some 124, .ext 1 (.t 119), none⟩,
    ⟨some 125, .ext 2 (.t 119), none⟩,
    ⟨some 18, .mv (.t 123), none⟩,
    ⟨some 19, .mv (.t 124), none⟩,
    ⟨some 20, .mv (.t 125), none⟩])
  (.seq (.quiet [⟨some 126, .mv (.t 18), none⟩,
    ⟨some 127, .mv (.t 13), none⟩,
    ⟨some 128, .bin .gtr (.t 126) (.t 127), none⟩,
    ⟨some 129, .mv (.t 128), none⟩,
    ⟨some 130, .mv (.t 18), some (129, false)⟩,
    ⟨some 131, .mv (.t 13), some (129, false)⟩,
    ⟨some 132, .bin .eql (.t 130) (.t 131), some (129, false)⟩,
    ⟨some 133, .mv (.t 132), some (129, false)⟩,
    ⟨some 134, .mv (.t 16), some (133, true)⟩,
    ⟨some 135, .len true (.t 134), some (133, true)⟩,
    ⟨some 136, .mv (.t 17), some (133, true)⟩,
    ⟨some 137, .len true (.t 136), some (133, true)⟩,
    ⟨some 138, .bin .lss (.t 135) (.t 137), some (133, true)⟩,
    ⟨some 139, .mv (.t 138), some (133, true)⟩,
    ⟨some 140, .mv (.t 16), some (139, false)⟩,
    ⟨some 141, .len true (.t 140), some (139, false)⟩,
    ⟨some 142, .mv (.t 17), some (139, false)⟩,
    ⟨some 143, .len true (.t 142), some (139, false)⟩,
    ⟨some 144, .bin .eql (.t 141) (.t 143), some (139, false)⟩,
    ⟨some 145, .mv (.t 144), some (139, false)⟩,
    ⟨some 146, .mv (.t 16), some (145, true)⟩,
    ⟨some 147, .mv (.t 17), some (145, true)⟩,
    ⟨some 148, .bin .lss (.t 146) (.t 147), some (145, true)⟩,
    ⟨some 149, .mv (.t 148), some (145, true)⟩,
    ⟨some 150, .mv (.t 16), some (149, false)⟩,
    ⟨some 151, .mv (.t 17), some (149, false)⟩,
    ⟨some 152, .bin .eql (.t 150) (.t 151), some (149, false)⟩,
    ⟨some 153, .mv (.t 152), some (149, false)⟩,
    ⟨some 154, .mv (.t 5), some (153, true)⟩,
    ⟨some 155, .mv (.t 12), some (153, true)⟩,
    ⟨some 156, .bin .sub (.t 155) (.c (.int .i64 1)), some (153, true)⟩,
    ⟨some 157, .iaddr 1 (.t 154) (.t 156), some (153, true)⟩,
    ⟨some 158, .load false 1 (.t 157), some (153, true)⟩,
    ⟨some 159, .mv (.t 5), some (153, true)⟩,
    ⟨some 160, .mv (.t 12), some (153, true)⟩,
    ⟨some 161, .iaddr 1 (.t 159) (.t 160), some (153, true)⟩,
    ⟨some 162, .load false 1 (.t 161), some (153, true)⟩,
    ⟨some 163, .bin .lss (.t 158) (.t 162), some (153, true)⟩,
    ⟨some 164, .pick (.t 153) (.t 163) (.c (.bool false)), some (149, false)⟩,
    ⟨some 165, .pick (.t 149) (.c (.bool true)) (.t 164), some (145, true)⟩,
    ⟨some 166, .pick (.t 145) (.t 165) (.c (.bool false)), some (139, false)⟩,
    ⟨some 167, .pick (.t 139) (.c (.bool true)) (.t 166), some (133, true)⟩,
    ⟨some 168, .pick (.t 133) (.t 167) (.c (.bool false)), some (129, false)⟩,
    ⟨some 169, .pick (.t 129) (.c (.bool true)) (.t 168), none⟩,
    ⟨some 21, .mv (.t 169), none⟩])
  (.seq (.region [⟨some 170, .mv (.t 21), none⟩,
    ⟨some 171, .un .not (.t 170), none⟩])
  (.cond (.t 171)
   (.seq (.region [⟨some 4, .mv (.c (.bool false)), none⟩])
   .ret)
   .skip))))))))))
 f4_c4))
def f4_c3 : LCode := (.seq (.region [⟨some 4, .mv (.c (.bool true)), none⟩])
 .ret)
def f4_c0 : LCode := (.seq (.seq (.region [⟨some 59, .mv (.t 6), none⟩,
   ⟨some 60, .bin .neq (.t 59) (.c (.int .i64 0)), none⟩,
   ⟨some 61, .mv (.t 60), none⟩,
   ⟨some 62, .mv (.t 5), some (61, false)⟩,
   ⟨some 63, .len false (.t 62), some (61, false)⟩,
   ⟨some 64, .mv (.t 7), some (61, false)⟩,
   ⟨some 65, .bin .neq (.t 63) (.t 64), some (61, false)⟩,
   ⟨some 66, .pick (.t 61) (.c (.bool true)) (.t 65), none⟩])
 (.cond (.t 66)
  (.seq (.region [⟨some 4, .mv (.c (.bool false)), none⟩])
  .ret)
  .skip))
 (.seq (.seq (.region [⟨some 12, .mv (.c (.int .i64 0)), none⟩])
 (.block 2
  (.loop
   f4_c5)))
 f4_c3))
def f4_c6 : LCode := (.seq (.region [⟨some 4, .mv (.c (.bool false)), none⟩])
 (.seq (.seq (.region [⟨some 22, .call 5 [], none⟩,
   ⟨some 23, .un .not (.t 22), none⟩])
 (.cond (.t 23)
  (.seq (.region [⟨some 4, .mv (.c (.bool false)), none⟩])
  .ret)
  .skip))
 (.seq (.region [⟨some 25, .mv (.t 0), none⟩,
   ⟨some 26, .mv (.t 1), none⟩,
   ⟨some 27, .call 10 [(.t 25), (.t 26)], none⟩,
   ⟨some 24, .mv (.t 27), none⟩,
   ⟨some 28, .ext 0 (.t 24), none⟩,
   ⟨some 29, .ext 1 (.t 24), none⟩,
   ⟨some 5, .mv (.t 28), none⟩,
   ⟨some 6, .mv (.t 29), none⟩])
 (.seq (.seq (.region [⟨some 30, .mv (.t 1), none⟩,
   ⟨some 31, .len false (.t 30), none⟩,
   ⟨some 32, .bin .gtr (.t 31) (.c (.int .i64 200)), none⟩])
 (.cond (.t 32)
  (.seq (.region [⟨some 33, .mv (.t 5), none⟩,
    ⟨some 34, .len false (.t 33), none⟩,
    ⟨some 35, .bin .eql (.t 34) (.c (.int .i64 0)), none⟩,
    ⟨some 36, .mv (.t 35), none⟩,
    ⟨some 37, .mv (.t 6), some (36, true)⟩,
    ⟨some 38, .bin .eql (.t 37) (.c (.int .i64 2)), some (36, true)⟩,
    ⟨some 39, .pick (.t 36) (.t 38) (.c (.bool false)), none⟩,
    ⟨some 4, .mv (.t 39), none⟩])
  .ret)
  .skip))
 (.seq (.region [⟨some 7, .mv (.c (.int .i64 0)), none⟩])
 (.seq (.seq (.region [⟨some 8, .mv (.c (.int .i64 0)), none⟩])
 (.block 0
  (.loop
   f4_c2)))
 f4_c0))))))
def f4_lay : Lay := ⟨172, [], false⟩
def f4_res : List LRes := [.t 4]
def f4_L : LFn := ⟨2, f4_lay, f4_c6, f4_res⟩
theorem f4_low : lowFn Try.prog [] 4 = some f4_L := by kernel_rfl
theorem f4_fok : FnOk Try.prog 4 := ⟨_, Try.func4, rfl, rfl⟩
def f4_Q (a0 : List UInt8) (a1 : List (List UInt8)) (o : Bool) : Exit → Env → AHeap → Nat → Prop := FinK f4_res (PureEnd (.bool o))

def f4_L1_env (a0 : List UInt8) (a1 : List (List UInt8)) (v2 : (List Int) × Int) (s : (Int × Int)) : Env := [(0, .str a0), (1, .isl 1 (a1.map e_str) false), (5, .isl 1 (v2.1.map e_i64) false), (6, .int .i64 v2.2), (7, .int .i64 s.1), (8, .int .i64 s.2)]
def f4_L1_hp (a0 : List UInt8) (a1 : List (List UInt8)) (v2 : (List Int) × Int) (s : (Int × Int)) : AHeap := []
def f4_L1_Q (a0 : List UInt8) (a1 : List (List UInt8)) (o : Bool) : Exit → Env → AHeap → Nat → Prop := (QBlock 0 (QSeq Try.prog f4_lay 0 f4_c0 (f4_Q a0 a1 o)))

noncomputable def S_glossatorlaw4_FuzzyRankSorted_j3 (m : Option Nat) (a0 : List UInt8) (a1 : List (List UInt8)) (v2 : (List Int) × Int) (v6 : Int) (v10 : Int) : Option ((Int × Int) ⊕ Bool) :=
  some (.inl (v10, (W (v6 + 1))))

theorem f4_j3_ok {a0 : List UInt8} {a1 : List (List UInt8)} {v2 : (List Int) × Int} {v6 : Int} {v10 : Int} {m : Option Nat} {o : ((Int × Int) ⊕ Bool)} (h : S_glossatorlaw4_FuzzyRankSorted_j3 m a0 a1 v2 v6 v10 = some o) :
    LWp Try.prog f4_lay 0 f4_c1 (BodyQ 0 0 (f4_L1_env a0 a1 v2) (f4_L1_hp a0 a1 v2) (f4_L1_Q a0 a1) o) [(0, .str a0), (1, .isl 1 (a1.map e_str) false), (5, .isl 1 (v2.1.map e_i64) false), (6, .int .i64 v2.2), (7, .int .i64 v10), (8, .int .i64 v6)] [] 0 := by
  unfold S_glossatorlaw4_FuzzyRankSorted_j3 at h
  refine regI ?_
  cases h
  exact AI rfl (simI (M := []) rfl (AI (VS rfl) (AI (VS rfl) (AI (VS rfl) (AI (VS rfl) (AI (VS rfl) (AI (VS rfl) TT)))))) TT)

noncomputable def S_glossatorlaw4_FuzzyRankSorted_j7 (m : Option Nat) (a0 : List UInt8) (a1 : List (List UInt8)) (v2 : (List Int) × Int) (v13 : Int) : Option (Int ⊕ Bool) :=
  some (.inl (W (v13 + 1)))

noncomputable def S_glossatorlaw4_FuzzyRankSorted_j8 (m : Option Nat) : Option Bool :=
  some true

noncomputable def S_glossatorlaw4_FuzzyRankSorted_b2 (m : Option Nat) (a0 : List UInt8) (a1 : List (List UInt8)) (v2 : (List Int) × Int) (v13 : Int) : Option (Int ⊕ Bool) :=
  if (decide (v13 < ((v2.1.map e_i64).length : Int))) = true then
    if (0 : Int) ≤ v13 ∧ v13 < ((v2.1.map e_i64).length : Int) then
    if (((decide ((v2.1.getD v13.toNat default) < 0)) == false) = true → (0 : Int) ≤ v13 ∧ v13 < ((v2.1.map e_i64).length : Int)) then
    if ((decide ((v2.1.getD v13.toNat default) < 0)) || (decide ((v2.1.getD v13.toNat default) ≥ ((a1.map e_str).length : Int)))) = true then
      Option.map Sum.inr (
        some false)
    else
      if (0 : Int) ≤ v13 ∧ v13 < ((v2.1.map e_i64).length : Int) then
      if (0 : Int) ≤ (v2.1.getD v13.toNat default) ∧ (v2.1.getD v13.toNat default) < ((a1.map e_str).length : Int) then
      (S_fuzzy_Score m a0 (a1.getD ((v2.1.getD v13.toNat default).toNat) default)).bind fun v16 =>
      if (!v16.2.2) = true then
        Option.map Sum.inr (
          some false)
      else
        if (v13 == 0) = true then
          S_glossatorlaw4_FuzzyRankSorted_j7 m a0 a1 v2 v13
        else
          if (0 : Int) ≤ (W (v13 - 1)) ∧ (W (v13 - 1)) < ((v2.1.map e_i64).length : Int) then
          if (0 : Int) ≤ (v2.1.getD ((W (v13 - 1)).toNat) default) ∧ (v2.1.getD ((W (v13 - 1)).toNat) default) < ((a1.map e_str).length : Int) then
          if (0 : Int) ≤ v13 ∧ v13 < ((v2.1.map e_i64).length : Int) then
          if (0 : Int) ≤ (v2.1.getD v13.toNat default) ∧ (v2.1.getD v13.toNat default) < ((a1.map e_str).length : Int) then
          (S_fuzzy_Score m a0 (a1.getD ((v2.1.getD ((W (v13 - 1)).toNat) default).toNat) default)).bind fun v17 =>
          if ((((((((decide (v17.1 > v16.1)) == false) && ((v17.1 == v16.1) == true)) && ((decide (((a1.getD ((v2.1.getD ((W (v13 - 1)).toNat) default).toNat) default).length : Int) < ((a1.getD ((v2.1.getD v13.toNat default).toNat) default).length : Int))) == false)) && ((((a1.getD ((v2.1.getD ((W (v13 - 1)).toNat) default).toNat) default).length : Int) == ((a1.getD ((v2.1.getD v13.toNat default).toNat) default).length : Int)) == true)) && ((Op.bytesLess (a1.getD ((v2.1.getD ((W (v13 - 1)).toNat) default).toNat) default) (a1.getD ((v2.1.getD v13.toNat default).toNat) default)) == false)) && (((a1.getD ((v2.1.getD ((W (v13 - 1)).toNat) default).toNat) default) == (a1.getD ((v2.1.getD v13.toNat default).toNat) default)) == true)) = true → (0 : Int) ≤ (W (v13 - 1)) ∧ (W (v13 - 1)) < ((v2.1.map e_i64).length : Int)) then
          if ((((((((decide (v17.1 > v16.1)) == false) && ((v17.1 == v16.1) == true)) && ((decide (((a1.getD ((v2.1.getD ((W (v13 - 1)).toNat) default).toNat) default).length : Int) < ((a1.getD ((v2.1.getD v13.toNat default).toNat) default).length : Int))) == false)) && ((((a1.getD ((v2.1.getD ((W (v13 - 1)).toNat) default).toNat) default).length : Int) == ((a1.getD ((v2.1.getD v13.toNat default).toNat) default).length : Int)) == true)) && ((Op.bytesLess (a1.getD ((v2.1.getD ((W (v13 - 1)).toNat) default).toNat) default) (a1.getD ((v2.1.getD v13.toNat default).toNat) default)) == false)) && (((a1.getD ((v2.1.getD ((W (v13 - 1)).toNat) default).toNat) default) == (a1.getD ((v2.1.getD v13.toNat default).toNat) default)) == true)) = true → (0 : Int) ≤ v13 ∧ v13 < ((v2.1.map e_i64).length : Int)) then
          if (!((decide (v17.1 > v16.1)) || ((v17.1 == v16.1) && ((decide (((a1.getD ((v2.1.getD ((W (v13 - 1)).toNat) default).toNat) default).length : Int) < ((a1.getD ((v2.1.getD v13.toNat default).toNat) default).length : Int))) || ((((a1.getD ((v2.1.getD ((W (v13 - 1)).toNat) default).toNat) default).length : Int) == ((a1.getD ((v2.1.getD v13.toNat default).toNat) default).length : Int)) && ((Op.bytesLess (a1.getD ((v2.1.getD ((W (v13 - 1)).toNat) default).toNat) default) (a1.getD ((v2.1.getD v13.toNat default).toNat) default)) || (((a1.getD ((v2.1.getD ((W (v13 - 1)).toNat) default).toNat) default) == (a1.getD ((v2.1.getD v13.toNat default).toNat) default)) && (decide ((v2.1.getD ((W (v13 - 1)).toNat) default) < (v2.1.getD v13.toNat default)))))))))) = true then
            Option.map Sum.inr (
              some false)
          else
            S_glossatorlaw4_FuzzyRankSorted_j7 m a0 a1 v2 v13
          else none
          else none
          else none
          else none
          else none
          else none
      else none
      else none
    else none
    else none
  else
    Option.map Sum.inr (
      S_glossatorlaw4_FuzzyRankSorted_j8 m)

noncomputable def S_glossatorlaw4_FuzzyRankSorted_l2 (m : Option Nat) (a0 : List UInt8) (a1 : List (List UInt8)) (v2 : (List Int) × Int) (v13 : Int) : Option Bool := loopM m (fun (s : Int) => S_glossatorlaw4_FuzzyRankSorted_b2 m a0 a1 v2 s) v13

noncomputable def S_glossatorlaw4_FuzzyRankSorted_j4 (m : Option Nat) (a0 : List UInt8) (a1 : List (List UInt8)) (v2 : (List Int) × Int) (v5 : Int) : Option Bool :=
  if ((v2.2 != 0) || (((v2.1.map e_i64).length : Int) != v5)) = true then
    some false
  else
    S_glossatorlaw4_FuzzyRankSorted_l2 m a0 a1 v2 0

noncomputable def S_glossatorlaw4_FuzzyRankSorted_b1 (m : Option Nat) (a0 : List UInt8) (a1 : List (List UInt8)) (v2 : (List Int) × Int) (v5 : Int) (v6 : Int) : Option ((Int × Int) ⊕ Bool) :=
  if (decide (v6 < ((a1.map e_str).length : Int))) = true then
    if (0 : Int) ≤ v6 ∧ v6 < ((a1.map e_str).length : Int) then
    (S_fuzzy_Score m a0 (a1.getD v6.toNat default)).bind fun v9 =>
    if v9.2.2 = true then
      S_glossatorlaw4_FuzzyRankSorted_j3 m a0 a1 v2 v6 (W (v5 + 1))
    else
      S_glossatorlaw4_FuzzyRankSorted_j3 m a0 a1 v2 v6 v5
    else none
  else
    Option.map Sum.inr (
      S_glossatorlaw4_FuzzyRankSorted_j4 m a0 a1 v2 v5)

noncomputable def S_glossatorlaw4_FuzzyRankSorted_l1 (m : Option Nat) (a0 : List UInt8) (a1 : List (List UInt8)) (v2 : (List Int) × Int) (v5 : Int) (v6 : Int) : Option Bool := loopM m (fun (s : (Int × Int)) => S_glossatorlaw4_FuzzyRankSorted_b1 m a0 a1 v2 s.1 s.2) (v5, v6)

def f4_L2_env (a0 : List UInt8) (a1 : List (List UInt8)) (v2 : (List Int) × Int) (s : Int) : Env := [(0, .str a0), (1, .isl 1 (a1.map e_str) false), (5, .isl 1 (v2.1.map e_i64) false), (12, .int .i64 s)]
def f4_L2_hp (a0 : List UInt8) (a1 : List (List UInt8)) (v2 : (List Int) × Int) (s : Int) : AHeap := []
def f4_L2_Q (a0 : List UInt8) (a1 : List (List UInt8)) (o : Bool) : Exit → Env → AHeap → Nat → Prop := (QBlock 2 (QSeq Try.prog f4_lay 0 f4_c3 (f4_Q a0 a1 o)))

theorem f4_j7_ok {a0 : List UInt8} {a1 : List (List UInt8)} {v2 : (List Int) × Int} {v13 : Int} {m : Option Nat} {o : (Int ⊕ Bool)} (h : S_glossatorlaw4_FuzzyRankSorted_j7 m a0 a1 v2 v13 = some o) :
    LWp Try.prog f4_lay 0 f4_c4 (BodyQ 0 0 (f4_L2_env a0 a1 v2) (f4_L2_hp a0 a1 v2) (f4_L2_Q a0 a1) o) [(0, .str a0), (1, .isl 1 (a1.map e_str) false), (5, .isl 1 (v2.1.map e_i64) false), (12, .int .i64 v13)] [] 0 := by
  unfold S_glossatorlaw4_FuzzyRankSorted_j7 at h
  refine regI ?_
  cases h
  exact AI rfl (simI (M := []) rfl (AI (VS rfl) (AI (VS rfl) (AI (VS rfl) (AI (VS rfl) TT)))) TT)

theorem f4_j8_ok {a0 : List UInt8} {a1 : List (List UInt8)} {m : Option Nat} {o : Bool} (h : S_glossatorlaw4_FuzzyRankSorted_j8 m = some o) :
    LWp Try.prog f4_lay 0 f4_c3 (f4_Q a0 a1 o) [] [] 0 := by
  unfold S_glossatorlaw4_FuzzyRankSorted_j8 at h
  refine seqI ?_
  refine regI ?_
  refine retI ?_
  cases h
  exact AI TT (AI rfl (VS rfl))

set_option maxHeartbeats 4000000 in
theorem f4_L2_bok {a0 : List UInt8} {a1 : List (List UInt8)} {v2 : (List Int) × Int} {v13 : Int} {m : Option Nat} {o : Int ⊕ Bool} (h : S_glossatorlaw4_FuzzyRankSorted_b2 m a0 a1 v2 v13 = some o) :
    LWp Try.prog f4_lay 0 f4_c5 (BodyQ 0 0 (f4_L2_env a0 a1 v2) (f4_L2_hp a0 a1 v2) (f4_L2_Q a0 a1) o) [(0, .str a0), (1, .isl 1 (a1.map e_str) false), (5, .isl 1 (v2.1.map e_i64) false), (12, .int .i64 v13)] [] 0 := by
  unfold S_glossatorlaw4_FuzzyRankSorted_b2 at h
  refine seqI ?_
  refine seqI ?_
  refine regI ?_
  refine condI (v := (decide (v13 < ((v2.1.map e_i64).length : Int)))) rfl TT (fun h52 => ?_) (fun h52 => ?_)
  · have h := ite_tt h52 h
    refine skipI ?_
    refine seqI ?_
    refine blockI ?_
    refine seqI ?_
    refine seqI ?_
    refine regI ?_
    obtain ⟨h53, h⟩ := ite_some h
    refine AI h53 ?_
    refine EX (e_i64 (v2.1.getD v13.toNat default)) (AI (getD_enc e_i64 _ _ (idx_ltL e_i64 h53)) (AI (AI (idx_lt h53) (NB rfl)) ?_))
    obtain ⟨h54, h⟩ := ite_some h
    refine AI (fun hp => (AI (AI hp hp) (h54 hp))) ?_
    refine EX (e_i64 (v2.1.getD v13.toNat default)) (AI (fun hp => AI (getD_enc e_i64 _ _ (idx_ltL e_i64 (h54 hp))) (AI hp (AI (idx_lt (h54 hp)) (NB rfl)))) ?_)
    refine AI (fun hp => hp) ?_
    refine AI (fun hp => (AI hp hp)) ?_
    refine AI (fun hc => (bqf hc)) ?_
    refine LWp.sim (e := [(0, .str a0), (1, .isl 1 (a1.map e_str) false), (5, .isl 1 (v2.1.map e_i64) false), (12, .int .i64 v13), (86, .bool ((decide ((v2.1.getD v13.toNat default) < 0)) || (decide ((v2.1.getD v13.toNat default) ≥ ((a1.map e_str).length : Int)))))]) (L := []) (n := 0) ?_ ?_
    · exact simI (M := []) rfl (AI (VS rfl) (AI (VS rfl) (AI (VS rfl) (AI (VS rfl) (AI (VS rfl) TT))))) TT
    refine condI (v := ((decide ((v2.1.getD v13.toNat default) < 0)) || (decide ((v2.1.getD v13.toNat default) ≥ ((a1.map e_str).length : Int))))) rfl TT (fun h55 => ?_) (fun h55 => ?_)
    · have h := ite_tt h55 h
      refine seqI ?_
      refine regI ?_
      refine retI ?_
      obtain ⟨o, hq, rfl⟩ := Option.map_eq_some_iff.1 h
      replace h := hq; clear hq
      refine AI nofun ?_
      cases h
      exact AI TT (AI rfl (VS rfl))
    · have h := ite_ff h55 h
      refine skipI ?_
      refine seqI ?_
      refine regI ?_
      obtain ⟨h56, h⟩ := ite_some h
      refine AI h56 ?_
      refine EX (e_i64 (v2.1.getD v13.toNat default)) (AI (getD_enc e_i64 _ _ (idx_ltL e_i64 h56)) (AI (AI (idx_lt h56) (NB rfl)) ?_))
      obtain ⟨h57, h⟩ := ite_some h
      refine AI h57 ?_
      refine EX (e_str (a1.getD ((v2.1.getD v13.toNat default).toNat) default)) (AI (getD_enc e_str _ _ (idx_ltL e_str h57)) (AI (AI (idx_lt h57) (NB rfl)) ?_))
      obtain ⟨v16, h58, h⟩ := bind_some h
      refine PFn.call (f6_ok h58) (AI (VS rfl) (AI (VS rfl) TT)) ?_
      refine LWp.sim (e := [(0, .str a0), (1, .isl 1 (a1.map e_str) false), (5, .isl 1 (v2.1.map e_i64) false), (12, .int .i64 v13), (13, .int .i64 v16.1), (15, .bool v16.2.2)]) (L := []) (n := 0) ?_ ?_
      · exact simI (M := []) rfl (AI (VS rfl) (AI (VS rfl) (AI (VS rfl) (AI (VS rfl) (AI (VS rfl) (AI (VS rfl) TT)))))) TT
      refine seqI ?_
      refine seqI ?_
      refine regI ?_
      refine condI (v := (!v16.2.2)) rfl TT (fun h59 => ?_) (fun h59 => ?_)
      · have h := ite_tt h59 h
        refine seqI ?_
        refine regI ?_
        refine retI ?_
        obtain ⟨o, hq, rfl⟩ := Option.map_eq_some_iff.1 h
        replace h := hq; clear hq
        refine AI nofun ?_
        cases h
        exact AI TT (AI rfl (VS rfl))
      · have h := ite_ff h59 h
        refine skipI ?_
        refine seqI ?_
        refine seqI ?_
        refine regI ?_
        refine condI (v := (v13 == 0)) rfl TT (fun h60 => ?_) (fun h60 => ?_)
        · have h := ite_tt h60 h
          refine exitI ?_
          refine LWp.sim ?_ (f4_j7_ok h)
          exact simI (M := []) rfl (AI (VS rfl) (AI (VS rfl) (AI (VS rfl) (AI (VS rfl) TT)))) TT
        · have h := ite_ff h60 h
          refine skipI ?_
          refine seqI ?_
          refine quietI ?_
          obtain ⟨h61, h⟩ := ite_some h
          refine AI h61 ?_
          refine EX (e_i64 (v2.1.getD ((W (v13 - 1)).toNat) default)) (AI (getD_enc e_i64 _ _ (idx_ltL e_i64 h61)) (AI (AI (idx_lt h61) (NB rfl)) ?_))
          obtain ⟨h62, h⟩ := ite_some h
          refine AI h62 ?_
          refine EX (e_str (a1.getD ((v2.1.getD ((W (v13 - 1)).toNat) default).toNat) default)) (AI (getD_enc e_str _ _ (idx_ltL e_str h62)) (AI (AI (idx_lt h62) (NB rfl)) ?_))
          obtain ⟨h63, h⟩ := ite_some h
          refine AI h63 ?_
          refine EX (e_i64 (v2.1.getD v13.toNat default)) (AI (getD_enc e_i64 _ _ (idx_ltL e_i64 h63)) (AI (AI (idx_lt h63) (NB rfl)) ?_))
          obtain ⟨h64, h⟩ := ite_some h
          refine AI h64 ?_
          refine EX (e_str (a1.getD ((v2.1.getD v13.toNat default).toNat) default)) (AI (getD_enc e_str _ _ (idx_ltL e_str h64)) (AI (AI (idx_lt h64) (NB rfl)) ?_))
          refine LWp.sim (e := [(0, .str a0), (1, .isl 1 (a1.map e_str) false), (5, .isl 1 (v2.1.map e_i64) false), (12, .int .i64 v13), (13, .int .i64 v16.1), (16, .str (a1.getD ((v2.1.getD ((W (v13 - 1)).toNat) default).toNat) default)), (17, .str (a1.getD ((v2.1.getD v13.toNat default).toNat) default))]) (L := []) (n := 0) ?_ ?_
          · exact simI (M := []) rfl (AI (VS rfl) (AI (VS rfl) (AI (VS rfl) (AI (VS rfl) (AI (VS rfl) (AI (VS rfl) (AI (VS rfl) TT))))))) TT
          refine seqI ?_
          refine regI ?_
          obtain ⟨v17, h65, h⟩ := bind_some h
          refine PFn.call (f6_ok h65) (AI (VS rfl) (AI (VS rfl) TT)) ?_
          refine LWp.sim (e := [(0, .str a0), (1, .isl 1 (a1.map e_str) false), (5, .isl 1 (v2.1.map e_i64) false), (12, .int .i64 v13), (13, .int .i64 v16.1), (16, .str (a1.getD ((v2.1.getD ((W (v13 - 1)).toNat) default).toNat) default)), (17, .str (a1.getD ((v2.1.getD v13.toNat default).toNat) default)), (18, .int .i64 v17.1)]) (L := []) (n := 0) ?_ ?_
          · exact simI (M := []) rfl (AI (VS rfl) (AI (VS rfl) (AI (VS rfl) (AI (VS rfl) (AI (VS rfl) (AI (VS rfl) (AI (VS rfl) (AI (VS rfl) TT)))))))) TT
          refine seqI ?_
          refine quietI ?_
          refine AI (fun hp => (AI hp hp)) ?_
          refine AI (fun hp => hp) ?_
          refine AI (fun hp => hp) ?_
          refine AI (fun hp => hp) ?_
          refine AI (fun hp => (AI hp hp)) ?_
          refine AI (fun hp => hp) ?_
          refine AI (fun hp => hp) ?_
          refine AI (fun hp => hp) ?_
          refine AI (fun hp => (AI hp hp)) ?_
          refine AI (fun hp => hp) ?_
          refine AI (fun hp => (AI hp hp)) ?_
          refine AI (fun hp => hp) ?_
          refine AI (fun hp => (AI hp hp)) ?_
          refine AI (fun hp => hp) ?_
          refine AI (fun hp => hp) ?_
          obtain ⟨h66, h⟩ := ite_some h
          refine AI (fun hp => (AI (AI hp hp) (h66 hp))) ?_
          refine EX (e_i64 (v2.1.getD ((W (v13 - 1)).toNat) default)) (AI (fun hp => AI (getD_enc e_i64 _ _ (idx_ltL e_i64 (h66 hp))) (AI hp (AI (idx_lt (h66 hp)) (NB rfl)))) ?_)
          obtain ⟨h67, h⟩ := ite_some h
          refine AI (fun hp => (AI (AI hp hp) (h67 hp))) ?_
          refine EX (e_i64 (v2.1.getD v13.toNat default)) (AI (fun hp => AI (getD_enc e_i64 _ _ (idx_ltL e_i64 (h67 hp))) (AI hp (AI (idx_lt (h67 hp)) (NB rfl)))) ?_)
          refine AI (fun hp => (AI hp hp)) ?_
          refine AI (fun hp => (AI hp (fun hc => (and_i hp (bqt hc))))) ?_
          refine AI (fun hp => (AI hp (fun hc => (and_i hp (bqf hc))))) ?_
          refine AI (fun hp => (AI hp (fun hc => (and_i hp (bqt hc))))) ?_
          refine AI (fun hp => (AI hp (fun hc => (and_i hp (bqf hc))))) ?_
          refine AI (fun hp => (AI hp (fun hc => (and_i hp (bqt hc))))) ?_
          refine AI (fun hc => (bqf hc)) ?_
          refine LWp.sim (e := [(0, .str a0), (1, .isl 1 (a1.map e_str) false), (5, .isl 1 (v2.1.map e_i64) false), (12, .int .i64 v13), (21, .bool ((decide (v17.1 > v16.1)) || ((v17.1 == v16.1) && ((decide (((a1.getD ((v2.1.getD ((W (v13 - 1)).toNat) default).toNat) default).length : Int) < ((a1.getD ((v2.1.getD v13.toNat default).toNat) default).length : Int))) || ((((a1.getD ((v2.1.getD ((W (v13 - 1)).toNat) default).toNat) default).length : Int) == ((a1.getD ((v2.1.getD v13.toNat default).toNat) default).length : Int)) && ((Op.bytesLess (a1.getD ((v2.1.getD ((W (v13 - 1)).toNat) default).toNat) default) (a1.getD ((v2.1.getD v13.toNat default).toNat) default)) || (((a1.getD ((v2.1.getD ((W (v13 - 1)).toNat) default).toNat) default) == (a1.getD ((v2.1.getD v13.toNat default).toNat) default)) && (decide ((v2.1.getD ((W (v13 - 1)).toNat) default) < (v2.1.getD v13.toNat default))))))))))]) (L := []) (n := 0) ?_ ?_
          · exact simI (M := []) rfl (AI (VS rfl) (AI (VS rfl) (AI (VS rfl) (AI (VS rfl) (AI (VS rfl) TT))))) TT
          refine seqI ?_
          refine regI ?_
          refine condI (v := (!((decide (v17.1 > v16.1)) || ((v17.1 == v16.1) && ((decide (((a1.getD ((v2.1.getD ((W (v13 - 1)).toNat) default).toNat) default).length : Int) < ((a1.getD ((v2.1.getD v13.toNat default).toNat) default).length : Int))) || ((((a1.getD ((v2.1.getD ((W (v13 - 1)).toNat) default).toNat) default).length : Int) == ((a1.getD ((v2.1.getD v13.toNat default).toNat) default).length : Int)) && ((Op.bytesLess (a1.getD ((v2.1.getD ((W (v13 - 1)).toNat) default).toNat) default) (a1.getD ((v2.1.getD v13.toNat default).toNat) default)) || (((a1.getD ((v2.1.getD ((W (v13 - 1)).toNat) default).toNat) default) == (a1.getD ((v2.1.getD v13.toNat default).toNat) default)) && (decide ((v2.1.getD ((W (v13 - 1)).toNat) default) < (v2.1.getD v13.toNat default))))))))))) rfl TT (fun h68 => ?_) (fun h68 => ?_)
          · have h := ite_tt h68 h
            refine seqI ?_
            refine regI ?_
            refine retI ?_
            obtain ⟨o, hq, rfl⟩ := Option.map_eq_some_iff.1 h
            replace h := hq; clear hq
            refine AI nofun ?_
            cases h
            exact AI TT (AI rfl (VS rfl))
          · have h := ite_ff h68 h
            refine skipI ?_
            refine LWp.sim ?_ (f4_j7_ok h)
            exact simI (M := []) rfl (AI (VS rfl) (AI (VS rfl) (AI (VS rfl) (AI (VS rfl) TT)))) TT
  · have h := ite_ff h52 h
    refine exitI ?_
    obtain ⟨o, hq, rfl⟩ := Option.map_eq_some_iff.1 h
    replace h := hq; clear hq
    refine AI nofun ?_
    refine LWp.sim ?_ (f4_j8_ok h)
    exact simI (M := []) rfl TT TT

theorem f4_L2_ok {a0 : List UInt8} {a1 : List (List UInt8)} {v2 : (List Int) × Int} {v13 : Int} {m : Option Nat} {o : Bool} (h : S_glossatorlaw4_FuzzyRankSorted_l2 m a0 a1 v2 v13 = some o) :
    LWp Try.prog f4_lay 0 (.loop f4_c5) (QBlock 2 (QSeq Try.prog f4_lay 0 f4_c3 (f4_Q a0 a1 o))) [(0, .str a0), (1, .isl 1 (a1.map e_str) false), (5, .isl 1 (v2.1.map e_i64) false), (12, .int .i64 v13)] [] 0 :=
  LWp_loopM (m := m) (s := (v13 : Int)) (r := o) (fun (s : Int) => S_glossatorlaw4_FuzzyRankSorted_b2 m a0 a1 v2 s) (f4_L2_env a0 a1 v2) (f4_L2_hp a0 a1 v2) (f4_L2_Q a0 a1) (fun s o h => f4_L2_bok h) h

theorem f4_j4_ok {a0 : List UInt8} {a1 : List (List UInt8)} {v2 : (List Int) × Int} {v5 : Int} {m : Option Nat} {o : Bool} (h : S_glossatorlaw4_FuzzyRankSorted_j4 m a0 a1 v2 v5 = some o) :
    LWp Try.prog f4_lay 0 f4_c0 (f4_Q a0 a1 o) [(0, .str a0), (1, .isl 1 (a1.map e_str) false), (5, .isl 1 (v2.1.map e_i64) false), (6, .int .i64 v2.2), (7, .int .i64 v5)] [] 0 := by
  unfold S_glossatorlaw4_FuzzyRankSorted_j4 at h
  refine seqI ?_
  refine seqI ?_
  refine regI ?_
  refine AI (fun hp => hp) ?_
  refine AI (fun hp => (AI hp hp)) ?_
  refine AI (fun hc => (bqf hc)) ?_
  refine LWp.sim (e := [(0, .str a0), (1, .isl 1 (a1.map e_str) false), (5, .isl 1 (v2.1.map e_i64) false), (66, .bool ((v2.2 != 0) || (((v2.1.map e_i64).length : Int) != v5)))]) (L := []) (n := 0) ?_ ?_
  · exact simI (M := []) rfl (AI (VS rfl) (AI (VS rfl) (AI (VS rfl) (AI (VS rfl) TT)))) TT
  refine condI (v := ((v2.2 != 0) || (((v2.1.map e_i64).length : Int) != v5))) rfl TT (fun h17 => ?_) (fun h17 => ?_)
  · have h := ite_tt h17 h
    refine seqI ?_
    refine regI ?_
    refine retI ?_
    cases h
    exact AI TT (AI rfl (VS rfl))
  · have h := ite_ff h17 h
    refine skipI ?_
    refine seqI ?_
    refine seqI ?_
    refine regI ?_
    refine blockI ?_
    refine LWp.sim ?_ (f4_L2_ok h)
    exact simI (M := []) rfl (AI (VS rfl) (AI (VS rfl) (AI (VS rfl) (AI (VS rfl) TT)))) TT

theorem f4_L1_bok {a0 : List UInt8} {a1 : List (List UInt8)} {v2 : (List Int) × Int} {v5 : Int} {v6 : Int} {m : Option Nat} {o : (Int × Int) ⊕ Bool} (h : S_glossatorlaw4_FuzzyRankSorted_b1 m a0 a1 v2 v5 v6 = some o) :
    LWp Try.prog f4_lay 0 f4_c2 (BodyQ 0 0 (f4_L1_env a0 a1 v2) (f4_L1_hp a0 a1 v2) (f4_L1_Q a0 a1) o) [(0, .str a0), (1, .isl 1 (a1.map e_str) false), (5, .isl 1 (v2.1.map e_i64) false), (6, .int .i64 v2.2), (7, .int .i64 v5), (8, .int .i64 v6)] [] 0 := by
  unfold S_glossatorlaw4_FuzzyRankSorted_b1 at h
  refine seqI ?_
  refine seqI ?_
  refine regI ?_
  refine condI (v := (decide (v6 < ((a1.map e_str).length : Int)))) rfl TT (fun h13 => ?_) (fun h13 => ?_)
  · have h := ite_tt h13 h
    refine skipI ?_
    refine seqI ?_
    refine blockI ?_
    refine seqI ?_
    refine regI ?_
    obtain ⟨h14, h⟩ := ite_some h
    refine AI h14 ?_
    refine EX (e_str (a1.getD v6.toNat default)) (AI (getD_enc e_str _ _ (idx_ltL e_str h14)) (AI (AI (idx_lt h14) (NB rfl)) ?_))
    obtain ⟨v9, h15, h⟩ := bind_some h
    refine PFn.call (f6_ok h15) (AI (VS rfl) (AI (VS rfl) TT)) ?_
    refine LWp.sim (e := [(0, .str a0), (1, .isl 1 (a1.map e_str) false), (5, .isl 1 (v2.1.map e_i64) false), (6, .int .i64 v2.2), (7, .int .i64 v5), (8, .int .i64 v6), (11, .bool v9.2.2)]) (L := []) (n := 0) ?_ ?_
    · exact simI (M := []) rfl (AI (VS rfl) (AI (VS rfl) (AI (VS rfl) (AI (VS rfl) (AI (VS rfl) (AI (VS rfl) (AI (VS rfl) TT))))))) TT
    refine seqI ?_
    refine regI ?_
    refine condI (v := v9.2.2) rfl TT (fun h16 => ?_) (fun h16 => ?_)
    · have h := ite_tt h16 h
      refine regI ?_
      refine LWp.sim ?_ (f4_j3_ok h)
      exact simI (M := []) rfl (AI (VS rfl) (AI (VS rfl) (AI (VS rfl) (AI (VS rfl) (AI (VS rfl) (AI (VS rfl) TT)))))) TT
    · have h := ite_ff h16 h
      refine skipI ?_
      refine LWp.sim ?_ (f4_j3_ok h)
      exact simI (M := []) rfl (AI (VS rfl) (AI (VS rfl) (AI (VS rfl) (AI (VS rfl) (AI (VS rfl) (AI (VS rfl) TT)))))) TT
  · have h := ite_ff h13 h
    refine exitI ?_
    obtain ⟨o, hq, rfl⟩ := Option.map_eq_some_iff.1 h
    replace h := hq; clear hq
    refine AI nofun ?_
    refine LWp.sim ?_ (f4_j4_ok h)
    exact simI (M := []) rfl (AI (VS rfl) (AI (VS rfl) (AI (VS rfl) (AI (VS rfl) (AI (VS rfl) TT))))) TT

theorem f4_L1_ok {a0 : List UInt8} {a1 : List (List UInt8)} {v2 : (List Int) × Int} {v5 : Int} {v6 : Int} {m : Option Nat} {o : Bool} (h : S_glossatorlaw4_FuzzyRankSorted_l1 m a0 a1 v2 v5 v6 = some o) :
    LWp Try.prog f4_lay 0 (.loop f4_c2) (QBlock 0 (QSeq Try.prog f4_lay 0 f4_c0 (f4_Q a0 a1 o))) [(0, .str a0), (1, .isl 1 (a1.map e_str) false), (5, .isl 1 (v2.1.map e_i64) false), (6, .int .i64 v2.2), (7, .int .i64 v5), (8, .int .i64 v6)] [] 0 :=
  LWp_loopM (m := m) (s := ((v5, v6) : (Int × Int))) (r := o) (fun (s : (Int × Int)) => S_glossatorlaw4_FuzzyRankSorted_b1 m a0 a1 v2 s.1 s.2) (f4_L1_env a0 a1 v2) (f4_L1_hp a0 a1 v2) (f4_L1_Q a0 a1) (fun s o h => f4_L1_bok h) h

noncomputable def S_glossatorlaw4_FuzzyRankSorted (m : Option Nat) (a0 : List UInt8) (a1 : List (List UInt8)) : Option Bool :=
  (S_glossatorlaw4_fuzzyExamples (some 4096)).bind fun v1 =>
  if (!v1) = true then
    some false
  else
    (S_fuzzy_Rank m a0 a1).bind fun v2 =>
    if (decide (((a1.map e_str).length : Int) > 200)) = true then
      some ((((v2.1.map e_i64).length : Int) == 0) && (v2.2 == 2))
    else
      S_glossatorlaw4_FuzzyRankSorted_l1 m a0 a1 v2 0 0

theorem f4_start {a0 : List UInt8} {a1 : List (List UInt8)} {m : Option Nat} {o : Bool} (h : S_glossatorlaw4_FuzzyRankSorted m a0 a1 = some o) : LWp Try.prog f4_lay 0 f4_c6 (f4_Q a0 a1 o) (initEnv 0 [.str a0, .isl 1 (a1.map e_str) false]) [] 0 := by
  unfold S_glossatorlaw4_FuzzyRankSorted at h
  refine seqI ?_
  refine regI ?_
  refine seqI ?_
  refine seqI ?_
  refine regI ?_
  obtain ⟨v1, h1, h⟩ := bind_some h
  refine PFn.call (f5_ok h1) TT ?_
  refine condI (v := (!v1)) rfl TT (fun h2 => ?_) (fun h2 => ?_)
  · have h := ite_tt h2 h
    refine seqI ?_
    refine regI ?_
    refine retI ?_
    cases h
    exact AI TT (AI rfl (VS rfl))
  · have h := ite_ff h2 h
    refine skipI ?_
    refine seqI ?_
    refine regI ?_
    obtain ⟨v2, h3, h⟩ := bind_some h
    refine PFn.call (f10_ok h3) (AI (VS rfl) (AI (VS rfl) TT)) ?_
    refine LWp.sim (e := [(0, .str a0), (1, .isl 1 (a1.map e_str) false), (5, .isl 1 (v2.1.map e_i64) false), (6, .int .i64 v2.2)]) (L := []) (n := 0) ?_ ?_
    · exact simI (M := []) rfl (AI (VS rfl) (AI (VS rfl) (AI (VS rfl) (AI (VS rfl) TT)))) TT
    refine seqI ?_
    refine seqI ?_
    refine regI ?_
    refine condI (v := (decide (((a1.map e_str).length : Int) > 200))) rfl TT (fun h4 => ?_) (fun h4 => ?_)
    · have h := ite_tt h4 h
      refine seqI ?_
      refine regI ?_
      refine AI (fun hp => hp) ?_
      refine AI (fun hc => (bqt hc)) ?_
      refine LWp.sim (e := [(4, .bool ((((v2.1.map e_i64).length : Int) == 0) && (v2.2 == 2)))]) (L := []) (n := 0) ?_ ?_
      · exact simI (M := []) rfl (AI (VS rfl) TT) TT
      refine retI ?_
      cases h
      exact AI TT (AI rfl (VS rfl))
    · have h := ite_ff h4 h
      refine skipI ?_
      refine seqI ?_
      refine regI ?_
      refine seqI ?_
      refine seqI ?_
      refine regI ?_
      refine blockI ?_
      refine LWp.sim ?_ (f4_L1_ok h)
      exact simI (M := []) rfl (AI (VS rfl) (AI (VS rfl) (AI (VS rfl) (AI (VS rfl) (AI (VS rfl) (AI (VS rfl) TT)))))) TT

theorem f4_ok {a0 : List UInt8} {a1 : List (List UInt8)} {m : Option Nat} {o : Bool} (h : S_glossatorlaw4_FuzzyRankSorted m a0 a1 = some o) : PFn Try.prog 4 [.str a0, .isl 1 (a1.map e_str) false] (.bool o) := PFn.ofFnW (L := f4_L) f4_low f4_fok (NB rfl) rfl (f4_start h)
end Go.Proofs.Ytobkgelkaljjeaa
