/-
  Own text GenB of this claim: what functions of the given program compute, in plain Lean, and the proof; no condition.
-/
import Derived.Test.YtmbihhbfdoabbaaGenA
namespace Go.Proofs.Ytmbihhbfdoabbaa
open Go.Fx
set_option linter.unusedVariables false
def f11_c0 : LCode := (.block 1
  (.seq (.region [⟨some 12, .mv (.t 0), none⟩,
    ⟨some 13, .mv (.t 6), none⟩,
    ⟨some 14, .slStr (.t 12) (some (.t 13)) none, none⟩,
    ⟨some 7, .mv (.t 14), none⟩])
  (.seq (.seq (.region [⟨some 15, .mv (.t 7), none⟩,
    ⟨some 16, .len true (.t 15), none⟩,
    ⟨some 17, .bin .lss (.t 16) (.c (.int .i64 6)), none⟩])
  (.cond (.t 17)
   (.seq (.region [⟨some 18, .mv (.t 5), none⟩,
     ⟨some 19, .mv (.t 6), none⟩,
     ⟨some 2, .mv (.t 18), none⟩,
     ⟨some 3, .mv (.t 19), none⟩,
     ⟨some 4, .mv (.c (.int .i64 0)), none⟩])
   .ret)
   .skip))
  (.seq (.quiet [⟨some 20, .mv (.t 7), none⟩,
    ⟨some 21, .idxS (.t 20) (.c (.int .i64 0)), none⟩,
    ⟨some 22, .conv (.int .i64) (.t 21), none⟩,
    ⟨some 23, .bin .mul (.t 22) (.c (.int .i64 256)), none⟩,
    ⟨some 24, .mv (.t 7), none⟩,
    ⟨some 25, .idxS (.t 24) (.c (.int .i64 1)), none⟩,
    ⟨some 26, .conv (.int .i64) (.t 25), none⟩,
    ⟨some 27, .bin .add (.t 23) (.t 26), none⟩,
    ⟨some 8, .mv (.t 27), none⟩])
  (.seq (.seq (.region [⟨some 28, .mv (.t 7), none⟩,
    ⟨some 29, .len true (.t 28), none⟩,
    ⟨some 30, .mv (.t 8), none⟩,
    ⟨some 31, .bin .add (.c (.int .i64 6)) (.t 30), none⟩,
    ⟨some 32, .bin .lss (.t 29) (.t 31), none⟩])
  (.cond (.t 32)
   (.seq (.region [⟨some 33, .mv (.t 5), none⟩,
     ⟨some 34, .mv (.t 6), none⟩,
     ⟨some 2, .mv (.t 33), none⟩,
     ⟨some 3, .mv (.t 34), none⟩,
     ⟨some 4, .mv (.c (.int .i64 0)), none⟩])
   .ret)
   .skip))
  (.seq (.region [⟨some 35, .mv (.t 7), none⟩,
    ⟨some 36, .mv (.t 8), none⟩,
    ⟨some 37, .bin .add (.c (.int .i64 6)) (.t 36), none⟩,
    ⟨some 38, .slStr (.t 35) (some (.c (.int .i64 6))) (some (.t 37)), none⟩,
    ⟨some 9, .mv (.t 38), none⟩])
  (.seq (.seq (.draw [⟨⟨some 39, .mv (.t 7), none⟩, []⟩,
    ⟨⟨some 40, .slStr (.t 39) none (some (.c (.int .i64 2))), none⟩, []⟩,
    ⟨⟨some 41, .mv (.t 9), none⟩, []⟩,
    ⟨⟨some 42, .bin .add (.t 40) (.t 41), none⟩, []⟩,
    ⟨⟨some 45, .mv (.t 7), none⟩, []⟩,
    ⟨⟨some 46, .slStr (.t 45) (some (.c (.int .i64 2))) (some (.c (.int .i64 6))), none⟩, []⟩,
    ⟨⟨some 43, .call 24 [(.t 42)], none⟩, []⟩,
    ⟨⟨some 44, .call 23 [(.t 43)], none⟩, []⟩,
    ⟨⟨some 47, .bin .neq (.t 44) (.t 46), none⟩, []⟩])
  (.cond (.t 47)
   (.seq (.region [⟨some 48, .mv (.t 5), none⟩,
     ⟨some 49, .mv (.t 6), none⟩,
     ⟨some 2, .mv (.t 48), none⟩,
     ⟨some 3, .mv (.t 49), none⟩,
     ⟨some 4, .mv (.c (.int .i64 13)), none⟩])
   .ret)
   .skip))
  (.seq (.seq (.region [⟨some 50, .mv (.t 8), none⟩,
    ⟨some 51, .bin .lss (.t 50) (.c (.int .i64 2)), none⟩,
    ⟨some 52, .mv (.t 51), none⟩,
    ⟨some 53, .mv (.t 8), some (52, false)⟩,
    ⟨some 54, .mv (.t 9), some (52, false)⟩,
    ⟨some 55, .idxS (.t 54) (.c (.int .i64 1)), some (52, false)⟩,
    ⟨some 56, .conv (.int .i64) (.t 55), some (52, false)⟩,
    ⟨some 57, .bin .add (.c (.int .i64 2)) (.t 56), some (52, false)⟩,
    ⟨some 58, .bin .lss (.t 53) (.t 57), some (52, false)⟩,
    ⟨some 59, .pick (.t 52) (.c (.bool true)) (.t 58), none⟩,
    ⟨some 60, .mv (.t 59), none⟩,
    ⟨some 61, .mv (.t 9), some (60, false)⟩,
    ⟨some 62, .idxS (.t 61) (.c (.int .i64 0)), some (60, false)⟩,
    ⟨some 63, .bin .gtr (.t 62) (.c (.int .u8 1)), some (60, false)⟩,
    ⟨some 64, .pick (.t 60) (.c (.bool true)) (.t 63), none⟩])
  (.cond (.t 64)
   (.seq (.region [⟨some 65, .mv (.t 5), none⟩,
     ⟨some 66, .mv (.t 6), none⟩,
     ⟨some 2, .mv (.t 65), none⟩,
     ⟨some 3, .mv (.t 66), none⟩,
     ⟨some 4, .mv (.c (.int .i64 3)), none⟩])
   .ret)
   .skip))
  (.seq (.region [⟨some 67, .mv (.t 9), none⟩,
    ⟨some 68, .idxS (.t 67) (.c (.int .i64 1)), none⟩,
    ⟨some 69, .conv (.int .i64) (.t 68), none⟩,
    ⟨some 70, .bin .add (.c (.int .i64 2)) (.t 69), none⟩,
    ⟨some 10, .mv (.t 70), none⟩])
  (.seq (.draw [⟨⟨some 71, .mv (.t 9), none⟩, []⟩,
    ⟨⟨some 72, .mv (.t 10), none⟩, []⟩,
    ⟨⟨some 73, .slStr (.t 71) (some (.c (.int .i64 2))) (some (.t 72)), none⟩, []⟩,
    ⟨⟨some 74, .mv (.t 9), none⟩, []⟩,
    ⟨⟨some 75, .mv (.t 10), none⟩, []⟩,
    ⟨⟨some 76, .slStr (.t 74) (some (.t 75)) none, none⟩, []⟩,
    ⟨⟨some 77, .mv (.t 9), none⟩, []⟩,
    ⟨⟨some 78, .idxS (.t 77) (.c (.int .i64 0)), none⟩, []⟩,
    ⟨⟨some 79, .bin .eql (.t 78) (.c (.int .u8 1)), none⟩, []⟩,
    ⟨⟨some 80, .build [(.str []), (.str []), (.bool false)] [(0, 1, (.t 73)), (1, 1, (.t 76)), (2, 1, (.t 79))], none⟩, []⟩,
    ⟨⟨some 11, .alloc [(.str []), (.str []), (.bool false)], none⟩, []⟩,
    ⟨⟨none, .store 3 (.t 11) (.t 80), none⟩, []⟩])
  (.seq (.seq (.region [⟨some 81, .load true 3 (.t 11), none⟩,
    ⟨some 82, .call 25 [(.t 81)], none⟩,
    ⟨some 83, .bin .neq (.t 82) (.c (.int .i64 0)), none⟩])
  (.cond (.t 83)
   (.seq (.region [⟨some 84, .mv (.t 5), none⟩,
     ⟨some 85, .mv (.t 6), none⟩,
     ⟨some 2, .mv (.t 84), none⟩,
     ⟨some 3, .mv (.t 85), none⟩,
     ⟨some 4, .mv (.c (.int .i64 3)), none⟩])
   .ret)
   .skip))
  (.seq (.region [⟨some 86, .mv (.t 5), none⟩,
    ⟨some 87, .load true 3 (.t 11), none⟩,
    ⟨some 88, .mkSl true 3 [(.str []), (.str []), (.bool false)] 1 [(0, (.t 87))], none⟩,
    ⟨some 89, .app true 3 40 (.t 86) (.t 88), none⟩,
    ⟨some 5, .mv (.t 89), none⟩])
  (.region [⟨some 90, .mv (.t 6), none⟩,
    ⟨some 91, .mv (.t 8), none⟩,
    ⟨some 92, .bin .add (.c (.int .i64 6)) (.t 91), none⟩,
    ⟨some 93, .bin .add (.t 90) (.t 92), none⟩,
    ⟨some 6, .mv (.t 93), none⟩])))))))))))))
def f11_c1 : LCode := (.seq (.region [⟨some 2, .mv (.c (.val (.slice none 0 0))), none⟩,
   ⟨some 3, .mv (.c (.int .i64 0)), none⟩,
   ⟨some 4, .mv (.c (.int .i64 0)), none⟩])
 (.seq (.region [⟨some 5, .mv (.c (.val (.slice none 0 0))), none⟩])
 (.seq (.region [⟨some 6, .mv (.c (.int .i64 0)), none⟩])
 (.block 0
  (.loop
   f11_c0)))))
def f11_lay : Lay := ⟨94, [], false⟩
def f11_res : List LRes := [.t 2, .t 3, .t 4]
def f11_L : LFn := ⟨1, f11_lay, f11_c1, f11_res⟩
theorem f11_low : lowFn Try.prog [] 11 = some f11_L := by kernel_rfl
theorem f11_fok : FnOk Try.prog 11 := ⟨_, Try.func11, rfl, rfl⟩
def f11_Q (a0 : List UInt8) (o : (List G_QRecord) × Int × Int) : Exit → Env → AHeap → Nat → Prop := FinK f11_res (PureEnd (.tup [.isl 3 (o.1.map e_QRecord) false, .int .i64 o.2.1, .int .i64 o.2.2]))

def f11_L1_env (a0 : List UInt8) (s : ((List G_QRecord) × Int)) : Env := [(0, .str a0), (5, .osl (0, 0) 3 (s.1.map e_QRecord)), (6, .int .i64 s.2)]
def f11_L1_hp (a0 : List UInt8) (s : ((List G_QRecord) × Int)) : AHeap := [((0, 0), .tok)]
def f11_L1_Q (a0 : List UInt8) (o : ((List G_QRecord) × Int × Int)) : Exit → Env → AHeap → Nat → Prop := (QBlock 0 (f11_Q a0 o))

noncomputable def S_glossatorref3_ReadJournal_b1 (m : Option Nat) (a0 : List UInt8) (v4 : List G_QRecord) (v5 : Int) : Option (((List G_QRecord) × Int) ⊕ ((List G_QRecord) × Int × Int)) :=
  if (0 : Int) ≤ v5 ∧ v5 ≤ (a0.length : Int) then
  if (decide ((((a0.take a0.length).drop v5.toNat).length : Int) < 6)) = true then
    Option.map Sum.inr (
      some (v4, v5, 0))
  else
    if (0 : Int) ≤ 0 ∧ 0 < (((a0.take a0.length).drop v5.toNat).length : Int) then
    if (0 : Int) ≤ 1 ∧ 1 < (((a0.take a0.length).drop v5.toNat).length : Int) then
    if (decide ((((a0.take a0.length).drop v5.toNat).length : Int) < (W ((6 : Int) + (W ((W ((W (((((a0.take a0.length).drop v5.toNat).getD (0 : Int).toNat 0).toNat : Nat) : Int)) * 256)) + (W (((((a0.take a0.length).drop v5.toNat).getD (1 : Int).toNat 0).toNat : Nat) : Int)))))))) = true then
      Option.map Sum.inr (
        some (v4, v5, 0))
    else
      if (0 : Int) ≤ 6 ∧ (6 : Int) ≤ (W ((6 : Int) + (W ((W ((W (((((a0.take a0.length).drop v5.toNat).getD (0 : Int).toNat 0).toNat : Nat) : Int)) * 256)) + (W (((((a0.take a0.length).drop v5.toNat).getD (1 : Int).toNat 0).toNat : Nat) : Int)))))) ∧ (W ((6 : Int) + (W ((W ((W (((((a0.take a0.length).drop v5.toNat).getD (0 : Int).toNat 0).toNat : Nat) : Int)) * 256)) + (W (((((a0.take a0.length).drop v5.toNat).getD (1 : Int).toNat 0).toNat : Nat) : Int)))))) ≤ (((a0.take a0.length).drop v5.toNat).length : Int) then
      if (0 : Int) ≤ 2 ∧ 2 ≤ (((a0.take a0.length).drop v5.toNat).length : Int) then
      if (((((((a0.take a0.length).drop v5.toNat).take (2 : Int).toNat).drop 0).length + ((((a0.take a0.length).drop v5.toNat).take (W ((6 : Int) + (W ((W ((W (((((a0.take a0.length).drop v5.toNat).getD (0 : Int).toNat 0).toNat : Nat) : Int)) * 256)) + (W (((((a0.take a0.length).drop v5.toNat).getD (1 : Int).toNat 0).toNat : Nat) : Int)))))).toNat).drop (6 : Int).toNat).length : Nat) : Int) ≤ 9223372036854775807) then
      if (0 : Int) ≤ 2 ∧ (2 : Int) ≤ 6 ∧ (6 : Int) ≤ (((a0.take a0.length).drop v5.toNat).length : Int) then
      (S_glossatorref3_Checksum m (((((a0.take a0.length).drop v5.toNat).take (2 : Int).toNat).drop 0) ++ ((((a0.take a0.length).drop v5.toNat).take (W ((6 : Int) + (W ((W ((W (((((a0.take a0.length).drop v5.toNat).getD (0 : Int).toNat 0).toNat : Nat) : Int)) * 256)) + (W (((((a0.take a0.length).drop v5.toNat).getD (1 : Int).toNat 0).toNat : Nat) : Int)))))).toNat).drop (6 : Int).toNat))).bind fun v9 =>
      (S_glossatorref3_number32 m v9).bind fun v10 =>
      if (!(v10 == ((((a0.take a0.length).drop v5.toNat).take (6 : Int).toNat).drop (2 : Int).toNat))) = true then
        Option.map Sum.inr (
          some (v4, v5, 13))
      else
        if (((decide ((W ((W ((W (((((a0.take a0.length).drop v5.toNat).getD (0 : Int).toNat 0).toNat : Nat) : Int)) * 256)) + (W (((((a0.take a0.length).drop v5.toNat).getD (1 : Int).toNat 0).toNat : Nat) : Int)))) < 2)) == false) = true → (0 : Int) ≤ 1 ∧ 1 < (((((a0.take a0.length).drop v5.toNat).take (W ((6 : Int) + (W ((W ((W (((((a0.take a0.length).drop v5.toNat).getD (0 : Int).toNat 0).toNat : Nat) : Int)) * 256)) + (W (((((a0.take a0.length).drop v5.toNat).getD (1 : Int).toNat 0).toNat : Nat) : Int)))))).toNat).drop (6 : Int).toNat).length : Int)) then
        if ((((decide ((W ((W ((W (((((a0.take a0.length).drop v5.toNat).getD (0 : Int).toNat 0).toNat : Nat) : Int)) * 256)) + (W (((((a0.take a0.length).drop v5.toNat).getD (1 : Int).toNat 0).toNat : Nat) : Int)))) < 2)) || (decide ((W ((W ((W (((((a0.take a0.length).drop v5.toNat).getD (0 : Int).toNat 0).toNat : Nat) : Int)) * 256)) + (W (((((a0.take a0.length).drop v5.toNat).getD (1 : Int).toNat 0).toNat : Nat) : Int)))) < (W ((2 : Int) + (W (((((((a0.take a0.length).drop v5.toNat).take (W ((6 : Int) + (W ((W ((W (((((a0.take a0.length).drop v5.toNat).getD (0 : Int).toNat 0).toNat : Nat) : Int)) * 256)) + (W (((((a0.take a0.length).drop v5.toNat).getD (1 : Int).toNat 0).toNat : Nat) : Int)))))).toNat).drop (6 : Int).toNat).getD (1 : Int).toNat 0).toNat : Nat) : Int))))))) == false) = true → (0 : Int) ≤ 0 ∧ 0 < (((((a0.take a0.length).drop v5.toNat).take (W ((6 : Int) + (W ((W ((W (((((a0.take a0.length).drop v5.toNat).getD (0 : Int).toNat 0).toNat : Nat) : Int)) * 256)) + (W (((((a0.take a0.length).drop v5.toNat).getD (1 : Int).toNat 0).toNat : Nat) : Int)))))).toNat).drop (6 : Int).toNat).length : Int)) then
        if (((decide ((W ((W ((W (((((a0.take a0.length).drop v5.toNat).getD (0 : Int).toNat 0).toNat : Nat) : Int)) * 256)) + (W (((((a0.take a0.length).drop v5.toNat).getD (1 : Int).toNat 0).toNat : Nat) : Int)))) < 2)) || (decide ((W ((W ((W (((((a0.take a0.length).drop v5.toNat).getD (0 : Int).toNat 0).toNat : Nat) : Int)) * 256)) + (W (((((a0.take a0.length).drop v5.toNat).getD (1 : Int).toNat 0).toNat : Nat) : Int)))) < (W ((2 : Int) + (W (((((((a0.take a0.length).drop v5.toNat).take (W ((6 : Int) + (W ((W ((W (((((a0.take a0.length).drop v5.toNat).getD (0 : Int).toNat 0).toNat : Nat) : Int)) * 256)) + (W (((((a0.take a0.length).drop v5.toNat).getD (1 : Int).toNat 0).toNat : Nat) : Int)))))).toNat).drop (6 : Int).toNat).getD (1 : Int).toNat 0).toNat : Nat) : Int))))))) || (decide ((((((((a0.take a0.length).drop v5.toNat).take (W ((6 : Int) + (W ((W ((W (((((a0.take a0.length).drop v5.toNat).getD (0 : Int).toNat 0).toNat : Nat) : Int)) * 256)) + (W (((((a0.take a0.length).drop v5.toNat).getD (1 : Int).toNat 0).toNat : Nat) : Int)))))).toNat).drop (6 : Int).toNat).getD (0 : Int).toNat 0).toNat : Nat) : Int) > 1))) = true then
          Option.map Sum.inr (
            some (v4, v5, 3))
        else
          if (0 : Int) ≤ 1 ∧ 1 < (((((a0.take a0.length).drop v5.toNat).take (W ((6 : Int) + (W ((W ((W (((((a0.take a0.length).drop v5.toNat).getD (0 : Int).toNat 0).toNat : Nat) : Int)) * 256)) + (W (((((a0.take a0.length).drop v5.toNat).getD (1 : Int).toNat 0).toNat : Nat) : Int)))))).toNat).drop (6 : Int).toNat).length : Int) then
          if (0 : Int) ≤ 2 ∧ (2 : Int) ≤ (W ((2 : Int) + (W (((((((a0.take a0.length).drop v5.toNat).take (W ((6 : Int) + (W ((W ((W (((((a0.take a0.length).drop v5.toNat).getD (0 : Int).toNat 0).toNat : Nat) : Int)) * 256)) + (W (((((a0.take a0.length).drop v5.toNat).getD (1 : Int).toNat 0).toNat : Nat) : Int)))))).toNat).drop (6 : Int).toNat).getD (1 : Int).toNat 0).toNat : Nat) : Int)))) ∧ (W ((2 : Int) + (W (((((((a0.take a0.length).drop v5.toNat).take (W ((6 : Int) + (W ((W ((W (((((a0.take a0.length).drop v5.toNat).getD (0 : Int).toNat 0).toNat : Nat) : Int)) * 256)) + (W (((((a0.take a0.length).drop v5.toNat).getD (1 : Int).toNat 0).toNat : Nat) : Int)))))).toNat).drop (6 : Int).toNat).getD (1 : Int).toNat 0).toNat : Nat) : Int)))) ≤ (((((a0.take a0.length).drop v5.toNat).take (W ((6 : Int) + (W ((W ((W (((((a0.take a0.length).drop v5.toNat).getD (0 : Int).toNat 0).toNat : Nat) : Int)) * 256)) + (W (((((a0.take a0.length).drop v5.toNat).getD (1 : Int).toNat 0).toNat : Nat) : Int)))))).toNat).drop (6 : Int).toNat).length : Int) then
          if (0 : Int) ≤ (W ((2 : Int) + (W (((((((a0.take a0.length).drop v5.toNat).take (W ((6 : Int) + (W ((W ((W (((((a0.take a0.length).drop v5.toNat).getD (0 : Int).toNat 0).toNat : Nat) : Int)) * 256)) + (W (((((a0.take a0.length).drop v5.toNat).getD (1 : Int).toNat 0).toNat : Nat) : Int)))))).toNat).drop (6 : Int).toNat).getD (1 : Int).toNat 0).toNat : Nat) : Int)))) ∧ (W ((2 : Int) + (W (((((((a0.take a0.length).drop v5.toNat).take (W ((6 : Int) + (W ((W ((W (((((a0.take a0.length).drop v5.toNat).getD (0 : Int).toNat 0).toNat : Nat) : Int)) * 256)) + (W (((((a0.take a0.length).drop v5.toNat).getD (1 : Int).toNat 0).toNat : Nat) : Int)))))).toNat).drop (6 : Int).toNat).getD (1 : Int).toNat 0).toNat : Nat) : Int)))) ≤ (((((a0.take a0.length).drop v5.toNat).take (W ((6 : Int) + (W ((W ((W (((((a0.take a0.length).drop v5.toNat).getD (0 : Int).toNat 0).toNat : Nat) : Int)) * 256)) + (W (((((a0.take a0.length).drop v5.toNat).getD (1 : Int).toNat 0).toNat : Nat) : Int)))))).toNat).drop (6 : Int).toNat).length : Int) then
          if (0 : Int) ≤ 0 ∧ 0 < (((((a0.take a0.length).drop v5.toNat).take (W ((6 : Int) + (W ((W ((W (((((a0.take a0.length).drop v5.toNat).getD (0 : Int).toNat 0).toNat : Nat) : Int)) * 256)) + (W (((((a0.take a0.length).drop v5.toNat).getD (1 : Int).toNat 0).toNat : Nat) : Int)))))).toNat).drop (6 : Int).toNat).length : Int) then
          (S_glossatorref3_CheckRecord m (G_QRecord.mk ((((((a0.take a0.length).drop v5.toNat).take (W ((6 : Int) + (W ((W ((W (((((a0.take a0.length).drop v5.toNat).getD (0 : Int).toNat 0).toNat : Nat) : Int)) * 256)) + (W (((((a0.take a0.length).drop v5.toNat).getD (1 : Int).toNat 0).toNat : Nat) : Int)))))).toNat).drop (6 : Int).toNat).take (W ((2 : Int) + (W (((((((a0.take a0.length).drop v5.toNat).take (W ((6 : Int) + (W ((W ((W (((((a0.take a0.length).drop v5.toNat).getD (0 : Int).toNat 0).toNat : Nat) : Int)) * 256)) + (W (((((a0.take a0.length).drop v5.toNat).getD (1 : Int).toNat 0).toNat : Nat) : Int)))))).toNat).drop (6 : Int).toNat).getD (1 : Int).toNat 0).toNat : Nat) : Int)))).toNat).drop (2 : Int).toNat) ((((((a0.take a0.length).drop v5.toNat).take (W ((6 : Int) + (W ((W ((W (((((a0.take a0.length).drop v5.toNat).getD (0 : Int).toNat 0).toNat : Nat) : Int)) * 256)) + (W (((((a0.take a0.length).drop v5.toNat).getD (1 : Int).toNat 0).toNat : Nat) : Int)))))).toNat).drop (6 : Int).toNat).take ((((a0.take a0.length).drop v5.toNat).take (W ((6 : Int) + (W ((W ((W (((((a0.take a0.length).drop v5.toNat).getD (0 : Int).toNat 0).toNat : Nat) : Int)) * 256)) + (W (((((a0.take a0.length).drop v5.toNat).getD (1 : Int).toNat 0).toNat : Nat) : Int)))))).toNat).drop (6 : Int).toNat).length).drop (W ((2 : Int) + (W (((((((a0.take a0.length).drop v5.toNat).take (W ((6 : Int) + (W ((W ((W (((((a0.take a0.length).drop v5.toNat).getD (0 : Int).toNat 0).toNat : Nat) : Int)) * 256)) + (W (((((a0.take a0.length).drop v5.toNat).getD (1 : Int).toNat 0).toNat : Nat) : Int)))))).toNat).drop (6 : Int).toNat).getD (1 : Int).toNat 0).toNat : Nat) : Int)))).toNat) ((((((((a0.take a0.length).drop v5.toNat).take (W ((6 : Int) + (W ((W ((W (((((a0.take a0.length).drop v5.toNat).getD (0 : Int).toNat 0).toNat : Nat) : Int)) * 256)) + (W (((((a0.take a0.length).drop v5.toNat).getD (1 : Int).toNat 0).toNat : Nat) : Int)))))).toNat).drop (6 : Int).toNat).getD (0 : Int).toNat 0).toNat : Nat) : Int) == 1))).bind fun v11 =>
          if (v11 != 0) = true then
            Option.map Sum.inr (
              some (v4, v5, 3))
          else
            if ((v4 ++ ([(G_QRecord.mk ((((((a0.take a0.length).drop v5.toNat).take (W ((6 : Int) + (W ((W ((W (((((a0.take a0.length).drop v5.toNat).getD (0 : Int).toNat 0).toNat : Nat) : Int)) * 256)) + (W (((((a0.take a0.length).drop v5.toNat).getD (1 : Int).toNat 0).toNat : Nat) : Int)))))).toNat).drop (6 : Int).toNat).take (W ((2 : Int) + (W (((((((a0.take a0.length).drop v5.toNat).take (W ((6 : Int) + (W ((W ((W (((((a0.take a0.length).drop v5.toNat).getD (0 : Int).toNat 0).toNat : Nat) : Int)) * 256)) + (W (((((a0.take a0.length).drop v5.toNat).getD (1 : Int).toNat 0).toNat : Nat) : Int)))))).toNat).drop (6 : Int).toNat).getD (1 : Int).toNat 0).toNat : Nat) : Int)))).toNat).drop (2 : Int).toNat) ((((((a0.take a0.length).drop v5.toNat).take (W ((6 : Int) + (W ((W ((W (((((a0.take a0.length).drop v5.toNat).getD (0 : Int).toNat 0).toNat : Nat) : Int)) * 256)) + (W (((((a0.take a0.length).drop v5.toNat).getD (1 : Int).toNat 0).toNat : Nat) : Int)))))).toNat).drop (6 : Int).toNat).take ((((a0.take a0.length).drop v5.toNat).take (W ((6 : Int) + (W ((W ((W (((((a0.take a0.length).drop v5.toNat).getD (0 : Int).toNat 0).toNat : Nat) : Int)) * 256)) + (W (((((a0.take a0.length).drop v5.toNat).getD (1 : Int).toNat 0).toNat : Nat) : Int)))))).toNat).drop (6 : Int).toNat).length).drop (W ((2 : Int) + (W (((((((a0.take a0.length).drop v5.toNat).take (W ((6 : Int) + (W ((W ((W (((((a0.take a0.length).drop v5.toNat).getD (0 : Int).toNat 0).toNat : Nat) : Int)) * 256)) + (W (((((a0.take a0.length).drop v5.toNat).getD (1 : Int).toNat 0).toNat : Nat) : Int)))))).toNat).drop (6 : Int).toNat).getD (1 : Int).toNat 0).toNat : Nat) : Int)))).toNat) ((((((((a0.take a0.length).drop v5.toNat).take (W ((6 : Int) + (W ((W ((W (((((a0.take a0.length).drop v5.toNat).getD (0 : Int).toNat 0).toNat : Nat) : Int)) * 256)) + (W (((((a0.take a0.length).drop v5.toNat).getD (1 : Int).toNat 0).toNat : Nat) : Int)))))).toNat).drop (6 : Int).toNat).getD (0 : Int).toNat 0).toNat : Nat) : Int) == 1))] : List G_QRecord)).map e_QRecord).length * 40 ≤ 140737488355328 then
            some (.inl ((v4 ++ ([(G_QRecord.mk ((((((a0.take a0.length).drop v5.toNat).take (W ((6 : Int) + (W ((W ((W (((((a0.take a0.length).drop v5.toNat).getD (0 : Int).toNat 0).toNat : Nat) : Int)) * 256)) + (W (((((a0.take a0.length).drop v5.toNat).getD (1 : Int).toNat 0).toNat : Nat) : Int)))))).toNat).drop (6 : Int).toNat).take (W ((2 : Int) + (W (((((((a0.take a0.length).drop v5.toNat).take (W ((6 : Int) + (W ((W ((W (((((a0.take a0.length).drop v5.toNat).getD (0 : Int).toNat 0).toNat : Nat) : Int)) * 256)) + (W (((((a0.take a0.length).drop v5.toNat).getD (1 : Int).toNat 0).toNat : Nat) : Int)))))).toNat).drop (6 : Int).toNat).getD (1 : Int).toNat 0).toNat : Nat) : Int)))).toNat).drop (2 : Int).toNat) ((((((a0.take a0.length).drop v5.toNat).take (W ((6 : Int) + (W ((W ((W (((((a0.take a0.length).drop v5.toNat).getD (0 : Int).toNat 0).toNat : Nat) : Int)) * 256)) + (W (((((a0.take a0.length).drop v5.toNat).getD (1 : Int).toNat 0).toNat : Nat) : Int)))))).toNat).drop (6 : Int).toNat).take ((((a0.take a0.length).drop v5.toNat).take (W ((6 : Int) + (W ((W ((W (((((a0.take a0.length).drop v5.toNat).getD (0 : Int).toNat 0).toNat : Nat) : Int)) * 256)) + (W (((((a0.take a0.length).drop v5.toNat).getD (1 : Int).toNat 0).toNat : Nat) : Int)))))).toNat).drop (6 : Int).toNat).length).drop (W ((2 : Int) + (W (((((((a0.take a0.length).drop v5.toNat).take (W ((6 : Int) + (W ((W ((W (((((a0.take a0.length).drop v5.toNat).getD (0 : Int).toNat 0).toNat : Nat) : Int)) * 256)) + (W (((((a0.take a0.length).drop v5.toNat).getD (1 : Int).toNat 0).toNat : Nat) : Int)))))).toNat).drop (6 : Int).toNat).getD (1 : Int).toNat 0).toNat : Nat) : Int)))).toNat) ((((((((a0.take a0.length).drop v5.toNat).take (W ((6 : Int) + (W ((W ((W (((((a0.take a0.length).drop v5.toNat).getD (0 : Int).toNat 0).toNat : Nat) : Int)) * 256)) + (W (((((a0.take a0.length).drop v5.toNat).getD (1 : Int).toNat 0).toNat : Nat) : Int)))))).toNat).drop (6 : Int).toNat).getD (0 : Int).toNat 0).toNat : Nat) : Int) == 1))] : List G_QRecord)), (W (v5 + (W ((6 : Int) + (W ((W ((W (((((a0.take a0.length).drop v5.toNat).getD (0 : Int).toNat 0).toNat : Nat) : Int)) * 256)) + (W (((((a0.take a0.length).drop v5.toNat).getD (1 : Int).toNat 0).toNat : Nat) : Int))))))))))
            else none
          else none
          else none
          else none
          else none
        else none
        else none
      else none
      else none
      else none
      else none
    else none
    else none
  else none

noncomputable def S_glossatorref3_ReadJournal_l1 (m : Option Nat) (a0 : List UInt8) (v4 : List G_QRecord) (v5 : Int) : Option ((List G_QRecord) × Int × Int) := loopM m (fun (s : ((List G_QRecord) × Int)) => S_glossatorref3_ReadJournal_b1 m a0 s.1 s.2) (v4, v5)

theorem f11_L1_bok {a0 : List UInt8} {v4 : List G_QRecord} {v5 : Int} {m : Option Nat} {o : ((List G_QRecord) × Int) ⊕ ((List G_QRecord) × Int × Int)} (h : S_glossatorref3_ReadJournal_b1 m a0 v4 v5 = some o) :
    LWp Try.prog f11_lay 0 f11_c0 (BodyQ 0 1 (f11_L1_env a0) (f11_L1_hp a0) (f11_L1_Q a0) o) [(0, .str a0), (5, .osl (0, 0) 3 (v4.map e_QRecord)), (6, .int .i64 v5)] [((0, 0), .tok)] 1 := by
  unfold S_glossatorref3_ReadJournal_b1 at h
  refine blockI ?_
  refine seqI ?_
  refine regI ?_
  obtain ⟨h44, h⟩ := ite_some h
  refine And.intro (And.intro (And.left h44) (And.intro (And.right h44) (Int.le_refl _))) ?_
  refine seqI ?_
  refine seqI ?_
  refine regI ?_
  refine condI (v := (decide ((((a0.take a0.length).drop v5.toNat).length : Int) < 6))) rfl trivial (fun h45 => ?_) (fun h45 => ?_)
  · have h := ite_tt h45 h
    refine seqI ?_
    refine regI ?_
    refine LWp.sim (e := [(2, .osl (0, 0) 3 (v4.map e_QRecord)), (3, .int .i64 v5), (4, .int .i64 0)]) (L := [((0, 0), .tok)]) (n := 1) ?_ ?_
    · exact simI (M := [((0, 0), (0, 0))]) rfl (And.intro (Vw.osl _ _ _ _ rfl) (And.intro (Vw.same _ rfl) (And.intro (Vw.same _ rfl) trivial))) (And.intro (And.intro rfl BVw.tok) trivial)
    refine retI ?_
    obtain ⟨o, hq, rfl⟩ := Option.map_eq_some_iff.1 h
    replace h := hq; clear hq
    refine And.intro nofun ?_
    cases h
    exact And.intro trivial (And.intro trivial (And.intro trivial (And.intro rfl (Vw.tupL (And.intro (Vw.oslI _ _ _) (And.intro (Vw.same _ rfl) (And.intro (Vw.same _ rfl) trivial)))))))
  · have h := ite_ff h45 h
    refine skipI ?_
    refine seqI ?_
    refine quietI ?_
    obtain ⟨h46, h⟩ := ite_some h
    refine And.intro h46 ?_
    show yqs _ _ [(21, .int .u8 (((((a0.take a0.length).drop v5.toNat).getD (0 : Int).toNat 0).toNat : Nat) : Int)), (20, .str ((a0.take a0.length).drop v5.toNat)), (17, .bool (decide ((((a0.take a0.length).drop v5.toNat).length : Int) < 6))), (16, .int .i64 (((a0.take a0.length).drop v5.toNat).length : Int)), (15, .str ((a0.take a0.length).drop v5.toNat)), (7, .str ((a0.take a0.length).drop v5.toNat)), (14, .str ((a0.take a0.length).drop v5.toNat)), (13, .int .i64 v5), (12, .str a0), (0, .str a0), (5, .osl (0, 0) 3 (v4.map e_QRecord)), (6, .int .i64 v5)] _ _
    obtain ⟨h47, h⟩ := ite_some h
    refine And.intro h47 ?_
    refine LWp.sim (e := [(0, .str a0), (5, .osl (0, 0) 3 (v4.map e_QRecord)), (6, .int .i64 v5), (7, .str ((a0.take a0.length).drop v5.toNat)), (8, .int .i64 (W ((W ((W (((((a0.take a0.length).drop v5.toNat).getD (0 : Int).toNat 0).toNat : Nat) : Int)) * 256)) + (W (((((a0.take a0.length).drop v5.toNat).getD (1 : Int).toNat 0).toNat : Nat) : Int)))))]) (L := [((0, 0), .tok)]) (n := 1) ?_ ?_
    · exact simI (M := [((0, 0), (0, 0))]) rfl (And.intro (Vw.same _ rfl) (And.intro (Vw.osl _ _ _ _ rfl) (And.intro (Vw.same _ rfl) (And.intro (Vw.same _ rfl) (And.intro (Vw.same _ rfl) trivial))))) (And.intro (And.intro rfl BVw.tok) trivial)
    refine seqI ?_
    refine seqI ?_
    refine regI ?_
    refine condI (v := (decide ((((a0.take a0.length).drop v5.toNat).length : Int) < (W ((6 : Int) + (W ((W ((W (((((a0.take a0.length).drop v5.toNat).getD (0 : Int).toNat 0).toNat : Nat) : Int)) * 256)) + (W (((((a0.take a0.length).drop v5.toNat).getD (1 : Int).toNat 0).toNat : Nat) : Int))))))))) rfl trivial (fun h48 => ?_) (fun h48 => ?_)
    · have h := ite_tt h48 h
      refine seqI ?_
      refine regI ?_
      refine LWp.sim (e := [(2, .osl (0, 0) 3 (v4.map e_QRecord)), (3, .int .i64 v5), (4, .int .i64 0)]) (L := [((0, 0), .tok)]) (n := 1) ?_ ?_
      · exact simI (M := [((0, 0), (0, 0))]) rfl (And.intro (Vw.osl _ _ _ _ rfl) (And.intro (Vw.same _ rfl) (And.intro (Vw.same _ rfl) trivial))) (And.intro (And.intro rfl BVw.tok) trivial)
      refine retI ?_
      obtain ⟨o, hq, rfl⟩ := Option.map_eq_some_iff.1 h
      replace h := hq; clear hq
      refine And.intro nofun ?_
      cases h
      exact And.intro trivial (And.intro trivial (And.intro trivial (And.intro rfl (Vw.tupL (And.intro (Vw.oslI _ _ _) (And.intro (Vw.same _ rfl) (And.intro (Vw.same _ rfl) trivial)))))))
    · have h := ite_ff h48 h
      refine skipI ?_
      refine seqI ?_
      refine regI ?_
      obtain ⟨h49, h⟩ := ite_some h
      refine And.intro h49 ?_
      show yops _ _ _ [(38, .str ((((a0.take a0.length).drop v5.toNat).take (W ((6 : Int) + (W ((W ((W (((((a0.take a0.length).drop v5.toNat).getD (0 : Int).toNat 0).toNat : Nat) : Int)) * 256)) + (W (((((a0.take a0.length).drop v5.toNat).getD (1 : Int).toNat 0).toNat : Nat) : Int)))))).toNat).drop (6 : Int).toNat)), (37, .int .i64 (W ((6 : Int) + (W ((W ((W (((((a0.take a0.length).drop v5.toNat).getD (0 : Int).toNat 0).toNat : Nat) : Int)) * 256)) + (W (((((a0.take a0.length).drop v5.toNat).getD (1 : Int).toNat 0).toNat : Nat) : Int))))))), (36, .int .i64 (W ((W ((W (((((a0.take a0.length).drop v5.toNat).getD (0 : Int).toNat 0).toNat : Nat) : Int)) * 256)) + (W (((((a0.take a0.length).drop v5.toNat).getD (1 : Int).toNat 0).toNat : Nat) : Int))))), (35, .str ((a0.take a0.length).drop v5.toNat)), (32, .bool (decide ((((a0.take a0.length).drop v5.toNat).length : Int) < (W ((6 : Int) + (W ((W ((W (((((a0.take a0.length).drop v5.toNat).getD (0 : Int).toNat 0).toNat : Nat) : Int)) * 256)) + (W (((((a0.take a0.length).drop v5.toNat).getD (1 : Int).toNat 0).toNat : Nat) : Int))))))))), (31, .int .i64 (W ((6 : Int) + (W ((W ((W (((((a0.take a0.length).drop v5.toNat).getD (0 : Int).toNat 0).toNat : Nat) : Int)) * 256)) + (W (((((a0.take a0.length).drop v5.toNat).getD (1 : Int).toNat 0).toNat : Nat) : Int))))))), (30, .int .i64 (W ((W ((W (((((a0.take a0.length).drop v5.toNat).getD (0 : Int).toNat 0).toNat : Nat) : Int)) * 256)) + (W (((((a0.take a0.length).drop v5.toNat).getD (1 : Int).toNat 0).toNat : Nat) : Int))))), (29, .int .i64 (((a0.take a0.length).drop v5.toNat).length : Int)), (28, .str ((a0.take a0.length).drop v5.toNat)), (0, .str a0), (5, .osl (0, 0) 3 (v4.map e_QRecord)), (6, .int .i64 v5), (7, .str ((a0.take a0.length).drop v5.toNat)), (8, .int .i64 (W ((W ((W (((((a0.take a0.length).drop v5.toNat).getD (0 : Int).toNat 0).toNat : Nat) : Int)) * 256)) + (W (((((a0.take a0.length).drop v5.toNat).getD (1 : Int).toNat 0).toNat : Nat) : Int)))))] _ _
      refine LWp.sim (e := [(0, .str a0), (5, .osl (0, 0) 3 (v4.map e_QRecord)), (6, .int .i64 v5), (7, .str ((a0.take a0.length).drop v5.toNat)), (8, .int .i64 (W ((W ((W (((((a0.take a0.length).drop v5.toNat).getD (0 : Int).toNat 0).toNat : Nat) : Int)) * 256)) + (W (((((a0.take a0.length).drop v5.toNat).getD (1 : Int).toNat 0).toNat : Nat) : Int))))), (9, .str ((((a0.take a0.length).drop v5.toNat).take (W ((6 : Int) + (W ((W ((W (((((a0.take a0.length).drop v5.toNat).getD (0 : Int).toNat 0).toNat : Nat) : Int)) * 256)) + (W (((((a0.take a0.length).drop v5.toNat).getD (1 : Int).toNat 0).toNat : Nat) : Int)))))).toNat).drop (6 : Int).toNat))]) (L := [((0, 0), .tok)]) (n := 1) ?_ ?_
      · exact simI (M := [((0, 0), (0, 0))]) rfl (And.intro (Vw.same _ rfl) (And.intro (Vw.osl _ _ _ _ rfl) (And.intro (Vw.same _ rfl) (And.intro (Vw.same _ rfl) (And.intro (Vw.same _ rfl) (And.intro (Vw.same _ rfl) trivial)))))) (And.intro (And.intro rfl BVw.tok) trivial)
      refine seqI ?_
      refine seqI ?_
      refine drawO rfl ?_
      obtain ⟨h50, h⟩ := ite_some h
      refine And.intro (And.intro (Int.le_refl _) h50) ?_
      obtain ⟨h51, h⟩ := ite_some h
      refine And.intro h51 ?_
      obtain ⟨h52, h⟩ := ite_some h
      refine And.intro h52 ?_
      show yops _ _ _ [(46, .str ((((a0.take a0.length).drop v5.toNat).take (6 : Int).toNat).drop (2 : Int).toNat)), (45, .str ((a0.take a0.length).drop v5.toNat)), (42, .str (((((a0.take a0.length).drop v5.toNat).take (2 : Int).toNat).drop 0) ++ ((((a0.take a0.length).drop v5.toNat).take (W ((6 : Int) + (W ((W ((W (((((a0.take a0.length).drop v5.toNat).getD (0 : Int).toNat 0).toNat : Nat) : Int)) * 256)) + (W (((((a0.take a0.length).drop v5.toNat).getD (1 : Int).toNat 0).toNat : Nat) : Int)))))).toNat).drop (6 : Int).toNat))), (41, .str ((((a0.take a0.length).drop v5.toNat).take (W ((6 : Int) + (W ((W ((W (((((a0.take a0.length).drop v5.toNat).getD (0 : Int).toNat 0).toNat : Nat) : Int)) * 256)) + (W (((((a0.take a0.length).drop v5.toNat).getD (1 : Int).toNat 0).toNat : Nat) : Int)))))).toNat).drop (6 : Int).toNat)), (40, .str ((((a0.take a0.length).drop v5.toNat).take (2 : Int).toNat).drop 0)), (39, .str ((a0.take a0.length).drop v5.toNat)), (0, .str a0), (5, .osl (0, 0) 3 (v4.map e_QRecord)), (6, .int .i64 v5), (7, .str ((a0.take a0.length).drop v5.toNat)), (8, .int .i64 (W ((W ((W (((((a0.take a0.length).drop v5.toNat).getD (0 : Int).toNat 0).toNat : Nat) : Int)) * 256)) + (W (((((a0.take a0.length).drop v5.toNat).getD (1 : Int).toNat 0).toNat : Nat) : Int))))), (9, .str ((((a0.take a0.length).drop v5.toNat).take (W ((6 : Int) + (W ((W ((W (((((a0.take a0.length).drop v5.toNat).getD (0 : Int).toNat 0).toNat : Nat) : Int)) * 256)) + (W (((((a0.take a0.length).drop v5.toNat).getD (1 : Int).toNat 0).toNat : Nat) : Int)))))).toNat).drop (6 : Int).toNat))] _ _
      obtain ⟨v9, h53, h⟩ := bind_some h
      refine PFn.call (f24_ok h53) (And.intro (Vw.same _ rfl) trivial) ?_
      obtain ⟨v10, h54, h⟩ := bind_some h
      refine PFn.call (f23_ok h54) (And.intro (Vw.same _ rfl) trivial) ?_
      refine LWp.sim (e := [(0, .str a0), (5, .osl (0, 0) 3 (v4.map e_QRecord)), (6, .int .i64 v5), (8, .int .i64 (W ((W ((W (((((a0.take a0.length).drop v5.toNat).getD (0 : Int).toNat 0).toNat : Nat) : Int)) * 256)) + (W (((((a0.take a0.length).drop v5.toNat).getD (1 : Int).toNat 0).toNat : Nat) : Int))))), (9, .str ((((a0.take a0.length).drop v5.toNat).take (W ((6 : Int) + (W ((W ((W (((((a0.take a0.length).drop v5.toNat).getD (0 : Int).toNat 0).toNat : Nat) : Int)) * 256)) + (W (((((a0.take a0.length).drop v5.toNat).getD (1 : Int).toNat 0).toNat : Nat) : Int)))))).toNat).drop (6 : Int).toNat)), (47, .bool (!(v10 == ((((a0.take a0.length).drop v5.toNat).take (6 : Int).toNat).drop (2 : Int).toNat))))]) (L := [((0, 0), .tok)]) (n := 1) ?_ ?_
      · exact simI (M := [((0, 0), (0, 0))]) rfl (And.intro (Vw.same _ rfl) (And.intro (Vw.osl _ _ _ _ rfl) (And.intro (Vw.same _ rfl) (And.intro (Vw.same _ rfl) (And.intro (Vw.same _ rfl) (And.intro (Vw.same _ rfl) trivial)))))) (And.intro (And.intro rfl BVw.tok) trivial)
      refine condI (v := (!(v10 == ((((a0.take a0.length).drop v5.toNat).take (6 : Int).toNat).drop (2 : Int).toNat)))) rfl trivial (fun h55 => ?_) (fun h55 => ?_)
      · have h := ite_tt h55 h
        refine seqI ?_
        refine regI ?_
        refine retI ?_
        obtain ⟨o, hq, rfl⟩ := Option.map_eq_some_iff.1 h
        replace h := hq; clear hq
        refine And.intro nofun ?_
        cases h
        exact And.intro trivial (And.intro trivial (And.intro trivial (And.intro rfl (Vw.tupL (And.intro (Vw.oslI _ _ _) (And.intro (Vw.same _ rfl) (And.intro (Vw.same _ rfl) trivial)))))))
      · have h := ite_ff h55 h
        refine skipI ?_
        refine seqI ?_
        refine seqI ?_
        refine regI ?_
        obtain ⟨h56, h⟩ := ite_some h
        refine And.intro (fun hp => (And.intro hp (h56 hp))) ?_
        show yops _ _ _ [(55, .cnd ((decide ((W ((W ((W (((((a0.take a0.length).drop v5.toNat).getD (0 : Int).toNat 0).toNat : Nat) : Int)) * 256)) + (W (((((a0.take a0.length).drop v5.toNat).getD (1 : Int).toNat 0).toNat : Nat) : Int)))) < 2)) == false) (.int .u8 (((((((a0.take a0.length).drop v5.toNat).take (W ((6 : Int) + (W ((W ((W (((((a0.take a0.length).drop v5.toNat).getD (0 : Int).toNat 0).toNat : Nat) : Int)) * 256)) + (W (((((a0.take a0.length).drop v5.toNat).getD (1 : Int).toNat 0).toNat : Nat) : Int)))))).toNat).drop (6 : Int).toNat).getD (1 : Int).toNat 0).toNat : Nat) : Int))), (54, .cnd ((decide ((W ((W ((W (((((a0.take a0.length).drop v5.toNat).getD (0 : Int).toNat 0).toNat : Nat) : Int)) * 256)) + (W (((((a0.take a0.length).drop v5.toNat).getD (1 : Int).toNat 0).toNat : Nat) : Int)))) < 2)) == false) (.str ((((a0.take a0.length).drop v5.toNat).take (W ((6 : Int) + (W ((W ((W (((((a0.take a0.length).drop v5.toNat).getD (0 : Int).toNat 0).toNat : Nat) : Int)) * 256)) + (W (((((a0.take a0.length).drop v5.toNat).getD (1 : Int).toNat 0).toNat : Nat) : Int)))))).toNat).drop (6 : Int).toNat))), (53, .cnd ((decide ((W ((W ((W (((((a0.take a0.length).drop v5.toNat).getD (0 : Int).toNat 0).toNat : Nat) : Int)) * 256)) + (W (((((a0.take a0.length).drop v5.toNat).getD (1 : Int).toNat 0).toNat : Nat) : Int)))) < 2)) == false) (.int .i64 (W ((W ((W (((((a0.take a0.length).drop v5.toNat).getD (0 : Int).toNat 0).toNat : Nat) : Int)) * 256)) + (W (((((a0.take a0.length).drop v5.toNat).getD (1 : Int).toNat 0).toNat : Nat) : Int)))))), (52, .bool (decide ((W ((W ((W (((((a0.take a0.length).drop v5.toNat).getD (0 : Int).toNat 0).toNat : Nat) : Int)) * 256)) + (W (((((a0.take a0.length).drop v5.toNat).getD (1 : Int).toNat 0).toNat : Nat) : Int)))) < 2))), (51, .bool (decide ((W ((W ((W (((((a0.take a0.length).drop v5.toNat).getD (0 : Int).toNat 0).toNat : Nat) : Int)) * 256)) + (W (((((a0.take a0.length).drop v5.toNat).getD (1 : Int).toNat 0).toNat : Nat) : Int)))) < 2))), (50, .int .i64 (W ((W ((W (((((a0.take a0.length).drop v5.toNat).getD (0 : Int).toNat 0).toNat : Nat) : Int)) * 256)) + (W (((((a0.take a0.length).drop v5.toNat).getD (1 : Int).toNat 0).toNat : Nat) : Int))))), (0, .str a0), (5, .osl (0, 0) 3 (v4.map e_QRecord)), (6, .int .i64 v5), (8, .int .i64 (W ((W ((W (((((a0.take a0.length).drop v5.toNat).getD (0 : Int).toNat 0).toNat : Nat) : Int)) * 256)) + (W (((((a0.take a0.length).drop v5.toNat).getD (1 : Int).toNat 0).toNat : Nat) : Int))))), (9, .str ((((a0.take a0.length).drop v5.toNat).take (W ((6 : Int) + (W ((W ((W (((((a0.take a0.length).drop v5.toNat).getD (0 : Int).toNat 0).toNat : Nat) : Int)) * 256)) + (W (((((a0.take a0.length).drop v5.toNat).getD (1 : Int).toNat 0).toNat : Nat) : Int)))))).toNat).drop (6 : Int).toNat)), (47, .bool (!(v10 == ((((a0.take a0.length).drop v5.toNat).take (6 : Int).toNat).drop (2 : Int).toNat))))] _ _
        refine And.intro (fun hp => hp) ?_
        refine And.intro (fun hp => hp) ?_
        refine And.intro (fun hp => (And.intro hp hp)) ?_
        refine And.intro (fun hc => (bqf hc)) ?_
        obtain ⟨h57, h⟩ := ite_some h
        refine And.intro (fun hp => (And.intro hp (h57 hp))) ?_
        show yops _ _ _ [(62, .cnd (((decide ((W ((W ((W (((((a0.take a0.length).drop v5.toNat).getD (0 : Int).toNat 0).toNat : Nat) : Int)) * 256)) + (W (((((a0.take a0.length).drop v5.toNat).getD (1 : Int).toNat 0).toNat : Nat) : Int)))) < 2)) || (decide ((W ((W ((W (((((a0.take a0.length).drop v5.toNat).getD (0 : Int).toNat 0).toNat : Nat) : Int)) * 256)) + (W (((((a0.take a0.length).drop v5.toNat).getD (1 : Int).toNat 0).toNat : Nat) : Int)))) < (W ((2 : Int) + (W (((((((a0.take a0.length).drop v5.toNat).take (W ((6 : Int) + (W ((W ((W (((((a0.take a0.length).drop v5.toNat).getD (0 : Int).toNat 0).toNat : Nat) : Int)) * 256)) + (W (((((a0.take a0.length).drop v5.toNat).getD (1 : Int).toNat 0).toNat : Nat) : Int)))))).toNat).drop (6 : Int).toNat).getD (1 : Int).toNat 0).toNat : Nat) : Int))))))) == false) (.int .u8 (((((((a0.take a0.length).drop v5.toNat).take (W ((6 : Int) + (W ((W ((W (((((a0.take a0.length).drop v5.toNat).getD (0 : Int).toNat 0).toNat : Nat) : Int)) * 256)) + (W (((((a0.take a0.length).drop v5.toNat).getD (1 : Int).toNat 0).toNat : Nat) : Int)))))).toNat).drop (6 : Int).toNat).getD (0 : Int).toNat 0).toNat : Nat) : Int))), (61, .cnd (((decide ((W ((W ((W (((((a0.take a0.length).drop v5.toNat).getD (0 : Int).toNat 0).toNat : Nat) : Int)) * 256)) + (W (((((a0.take a0.length).drop v5.toNat).getD (1 : Int).toNat 0).toNat : Nat) : Int)))) < 2)) || (decide ((W ((W ((W (((((a0.take a0.length).drop v5.toNat).getD (0 : Int).toNat 0).toNat : Nat) : Int)) * 256)) + (W (((((a0.take a0.length).drop v5.toNat).getD (1 : Int).toNat 0).toNat : Nat) : Int)))) < (W ((2 : Int) + (W (((((((a0.take a0.length).drop v5.toNat).take (W ((6 : Int) + (W ((W ((W (((((a0.take a0.length).drop v5.toNat).getD (0 : Int).toNat 0).toNat : Nat) : Int)) * 256)) + (W (((((a0.take a0.length).drop v5.toNat).getD (1 : Int).toNat 0).toNat : Nat) : Int)))))).toNat).drop (6 : Int).toNat).getD (1 : Int).toNat 0).toNat : Nat) : Int))))))) == false) (.str ((((a0.take a0.length).drop v5.toNat).take (W ((6 : Int) + (W ((W ((W (((((a0.take a0.length).drop v5.toNat).getD (0 : Int).toNat 0).toNat : Nat) : Int)) * 256)) + (W (((((a0.take a0.length).drop v5.toNat).getD (1 : Int).toNat 0).toNat : Nat) : Int)))))).toNat).drop (6 : Int).toNat))), (60, .bool ((decide ((W ((W ((W (((((a0.take a0.length).drop v5.toNat).getD (0 : Int).toNat 0).toNat : Nat) : Int)) * 256)) + (W (((((a0.take a0.length).drop v5.toNat).getD (1 : Int).toNat 0).toNat : Nat) : Int)))) < 2)) || (decide ((W ((W ((W (((((a0.take a0.length).drop v5.toNat).getD (0 : Int).toNat 0).toNat : Nat) : Int)) * 256)) + (W (((((a0.take a0.length).drop v5.toNat).getD (1 : Int).toNat 0).toNat : Nat) : Int)))) < (W ((2 : Int) + (W (((((((a0.take a0.length).drop v5.toNat).take (W ((6 : Int) + (W ((W ((W (((((a0.take a0.length).drop v5.toNat).getD (0 : Int).toNat 0).toNat : Nat) : Int)) * 256)) + (W (((((a0.take a0.length).drop v5.toNat).getD (1 : Int).toNat 0).toNat : Nat) : Int)))))).toNat).drop (6 : Int).toNat).getD (1 : Int).toNat 0).toNat : Nat) : Int)))))))), (59, .bool ((decide ((W ((W ((W (((((a0.take a0.length).drop v5.toNat).getD (0 : Int).toNat 0).toNat : Nat) : Int)) * 256)) + (W (((((a0.take a0.length).drop v5.toNat).getD (1 : Int).toNat 0).toNat : Nat) : Int)))) < 2)) || (decide ((W ((W ((W (((((a0.take a0.length).drop v5.toNat).getD (0 : Int).toNat 0).toNat : Nat) : Int)) * 256)) + (W (((((a0.take a0.length).drop v5.toNat).getD (1 : Int).toNat 0).toNat : Nat) : Int)))) < (W ((2 : Int) + (W (((((((a0.take a0.length).drop v5.toNat).take (W ((6 : Int) + (W ((W ((W (((((a0.take a0.length).drop v5.toNat).getD (0 : Int).toNat 0).toNat : Nat) : Int)) * 256)) + (W (((((a0.take a0.length).drop v5.toNat).getD (1 : Int).toNat 0).toNat : Nat) : Int)))))).toNat).drop (6 : Int).toNat).getD (1 : Int).toNat 0).toNat : Nat) : Int)))))))), (58, .cnd ((decide ((W ((W ((W (((((a0.take a0.length).drop v5.toNat).getD (0 : Int).toNat 0).toNat : Nat) : Int)) * 256)) + (W (((((a0.take a0.length).drop v5.toNat).getD (1 : Int).toNat 0).toNat : Nat) : Int)))) < 2)) == false) (.bool (decide ((W ((W ((W (((((a0.take a0.length).drop v5.toNat).getD (0 : Int).toNat 0).toNat : Nat) : Int)) * 256)) + (W (((((a0.take a0.length).drop v5.toNat).getD (1 : Int).toNat 0).toNat : Nat) : Int)))) < (W ((2 : Int) + (W (((((((a0.take a0.length).drop v5.toNat).take (W ((6 : Int) + (W ((W ((W (((((a0.take a0.length).drop v5.toNat).getD (0 : Int).toNat 0).toNat : Nat) : Int)) * 256)) + (W (((((a0.take a0.length).drop v5.toNat).getD (1 : Int).toNat 0).toNat : Nat) : Int)))))).toNat).drop (6 : Int).toNat).getD (1 : Int).toNat 0).toNat : Nat) : Int)))))))), (57, .cnd ((decide ((W ((W ((W (((((a0.take a0.length).drop v5.toNat).getD (0 : Int).toNat 0).toNat : Nat) : Int)) * 256)) + (W (((((a0.take a0.length).drop v5.toNat).getD (1 : Int).toNat 0).toNat : Nat) : Int)))) < 2)) == false) (.int .i64 (W ((2 : Int) + (W (((((((a0.take a0.length).drop v5.toNat).take (W ((6 : Int) + (W ((W ((W (((((a0.take a0.length).drop v5.toNat).getD (0 : Int).toNat 0).toNat : Nat) : Int)) * 256)) + (W (((((a0.take a0.length).drop v5.toNat).getD (1 : Int).toNat 0).toNat : Nat) : Int)))))).toNat).drop (6 : Int).toNat).getD (1 : Int).toNat 0).toNat : Nat) : Int)))))), (56, .cnd ((decide ((W ((W ((W (((((a0.take a0.length).drop v5.toNat).getD (0 : Int).toNat 0).toNat : Nat) : Int)) * 256)) + (W (((((a0.take a0.length).drop v5.toNat).getD (1 : Int).toNat 0).toNat : Nat) : Int)))) < 2)) == false) (.int .i64 (W (((((((a0.take a0.length).drop v5.toNat).take (W ((6 : Int) + (W ((W ((W (((((a0.take a0.length).drop v5.toNat).getD (0 : Int).toNat 0).toNat : Nat) : Int)) * 256)) + (W (((((a0.take a0.length).drop v5.toNat).getD (1 : Int).toNat 0).toNat : Nat) : Int)))))).toNat).drop (6 : Int).toNat).getD (1 : Int).toNat 0).toNat : Nat) : Int)))), (55, .cnd ((decide ((W ((W ((W (((((a0.take a0.length).drop v5.toNat).getD (0 : Int).toNat 0).toNat : Nat) : Int)) * 256)) + (W (((((a0.take a0.length).drop v5.toNat).getD (1 : Int).toNat 0).toNat : Nat) : Int)))) < 2)) == false) (.int .u8 (((((((a0.take a0.length).drop v5.toNat).take (W ((6 : Int) + (W ((W ((W (((((a0.take a0.length).drop v5.toNat).getD (0 : Int).toNat 0).toNat : Nat) : Int)) * 256)) + (W (((((a0.take a0.length).drop v5.toNat).getD (1 : Int).toNat 0).toNat : Nat) : Int)))))).toNat).drop (6 : Int).toNat).getD (1 : Int).toNat 0).toNat : Nat) : Int))), (54, .cnd ((decide ((W ((W ((W (((((a0.take a0.length).drop v5.toNat).getD (0 : Int).toNat 0).toNat : Nat) : Int)) * 256)) + (W (((((a0.take a0.length).drop v5.toNat).getD (1 : Int).toNat 0).toNat : Nat) : Int)))) < 2)) == false) (.str ((((a0.take a0.length).drop v5.toNat).take (W ((6 : Int) + (W ((W ((W (((((a0.take a0.length).drop v5.toNat).getD (0 : Int).toNat 0).toNat : Nat) : Int)) * 256)) + (W (((((a0.take a0.length).drop v5.toNat).getD (1 : Int).toNat 0).toNat : Nat) : Int)))))).toNat).drop (6 : Int).toNat))), (53, .cnd ((decide ((W ((W ((W (((((a0.take a0.length).drop v5.toNat).getD (0 : Int).toNat 0).toNat : Nat) : Int)) * 256)) + (W (((((a0.take a0.length).drop v5.toNat).getD (1 : Int).toNat 0).toNat : Nat) : Int)))) < 2)) == false) (.int .i64 (W ((W ((W (((((a0.take a0.length).drop v5.toNat).getD (0 : Int).toNat 0).toNat : Nat) : Int)) * 256)) + (W (((((a0.take a0.length).drop v5.toNat).getD (1 : Int).toNat 0).toNat : Nat) : Int)))))), (52, .bool (decide ((W ((W ((W (((((a0.take a0.length).drop v5.toNat).getD (0 : Int).toNat 0).toNat : Nat) : Int)) * 256)) + (W (((((a0.take a0.length).drop v5.toNat).getD (1 : Int).toNat 0).toNat : Nat) : Int)))) < 2))), (51, .bool (decide ((W ((W ((W (((((a0.take a0.length).drop v5.toNat).getD (0 : Int).toNat 0).toNat : Nat) : Int)) * 256)) + (W (((((a0.take a0.length).drop v5.toNat).getD (1 : Int).toNat 0).toNat : Nat) : Int)))) < 2))), (50, .int .i64 (W ((W ((W (((((a0.take a0.length).drop v5.toNat).getD (0 : Int).toNat 0).toNat : Nat) : Int)) * 256)) + (W (((((a0.take a0.length).drop v5.toNat).getD (1 : Int).toNat 0).toNat : Nat) : Int))))), (0, .str a0), (5, .osl (0, 0) 3 (v4.map e_QRecord)), (6, .int .i64 v5), (8, .int .i64 (W ((W ((W (((((a0.take a0.length).drop v5.toNat).getD (0 : Int).toNat 0).toNat : Nat) : Int)) * 256)) + (W (((((a0.take a0.length).drop v5.toNat).getD (1 : Int).toNat 0).toNat : Nat) : Int))))), (9, .str ((((a0.take a0.length).drop v5.toNat).take (W ((6 : Int) + (W ((W ((W (((((a0.take a0.length).drop v5.toNat).getD (0 : Int).toNat 0).toNat : Nat) : Int)) * 256)) + (W (((((a0.take a0.length).drop v5.toNat).getD (1 : Int).toNat 0).toNat : Nat) : Int)))))).toNat).drop (6 : Int).toNat)), (47, .bool (!(v10 == ((((a0.take a0.length).drop v5.toNat).take (6 : Int).toNat).drop (2 : Int).toNat))))] _ _
        refine And.intro (fun hp => hp) ?_
        refine And.intro (fun hc => (bqf hc)) ?_
        refine LWp.sim (e := [(0, .str a0), (5, .osl (0, 0) 3 (v4.map e_QRecord)), (6, .int .i64 v5), (8, .int .i64 (W ((W ((W (((((a0.take a0.length).drop v5.toNat).getD (0 : Int).toNat 0).toNat : Nat) : Int)) * 256)) + (W (((((a0.take a0.length).drop v5.toNat).getD (1 : Int).toNat 0).toNat : Nat) : Int))))), (9, .str ((((a0.take a0.length).drop v5.toNat).take (W ((6 : Int) + (W ((W ((W (((((a0.take a0.length).drop v5.toNat).getD (0 : Int).toNat 0).toNat : Nat) : Int)) * 256)) + (W (((((a0.take a0.length).drop v5.toNat).getD (1 : Int).toNat 0).toNat : Nat) : Int)))))).toNat).drop (6 : Int).toNat)), (64, .bool (((decide ((W ((W ((W (((((a0.take a0.length).drop v5.toNat).getD (0 : Int).toNat 0).toNat : Nat) : Int)) * 256)) + (W (((((a0.take a0.length).drop v5.toNat).getD (1 : Int).toNat 0).toNat : Nat) : Int)))) < 2)) || (decide ((W ((W ((W (((((a0.take a0.length).drop v5.toNat).getD (0 : Int).toNat 0).toNat : Nat) : Int)) * 256)) + (W (((((a0.take a0.length).drop v5.toNat).getD (1 : Int).toNat 0).toNat : Nat) : Int)))) < (W ((2 : Int) + (W (((((((a0.take a0.length).drop v5.toNat).take (W ((6 : Int) + (W ((W ((W (((((a0.take a0.length).drop v5.toNat).getD (0 : Int).toNat 0).toNat : Nat) : Int)) * 256)) + (W (((((a0.take a0.length).drop v5.toNat).getD (1 : Int).toNat 0).toNat : Nat) : Int)))))).toNat).drop (6 : Int).toNat).getD (1 : Int).toNat 0).toNat : Nat) : Int))))))) || (decide ((((((((a0.take a0.length).drop v5.toNat).take (W ((6 : Int) + (W ((W ((W (((((a0.take a0.length).drop v5.toNat).getD (0 : Int).toNat 0).toNat : Nat) : Int)) * 256)) + (W (((((a0.take a0.length).drop v5.toNat).getD (1 : Int).toNat 0).toNat : Nat) : Int)))))).toNat).drop (6 : Int).toNat).getD (0 : Int).toNat 0).toNat : Nat) : Int) > 1))))]) (L := [((0, 0), .tok)]) (n := 1) ?_ ?_
        · exact simI (M := [((0, 0), (0, 0))]) rfl (And.intro (Vw.same _ rfl) (And.intro (Vw.osl _ _ _ _ rfl) (And.intro (Vw.same _ rfl) (And.intro (Vw.same _ rfl) (And.intro (Vw.same _ rfl) (And.intro (Vw.same _ rfl) trivial)))))) (And.intro (And.intro rfl BVw.tok) trivial)
        refine condI (v := (((decide ((W ((W ((W (((((a0.take a0.length).drop v5.toNat).getD (0 : Int).toNat 0).toNat : Nat) : Int)) * 256)) + (W (((((a0.take a0.length).drop v5.toNat).getD (1 : Int).toNat 0).toNat : Nat) : Int)))) < 2)) || (decide ((W ((W ((W (((((a0.take a0.length).drop v5.toNat).getD (0 : Int).toNat 0).toNat : Nat) : Int)) * 256)) + (W (((((a0.take a0.length).drop v5.toNat).getD (1 : Int).toNat 0).toNat : Nat) : Int)))) < (W ((2 : Int) + (W (((((((a0.take a0.length).drop v5.toNat).take (W ((6 : Int) + (W ((W ((W (((((a0.take a0.length).drop v5.toNat).getD (0 : Int).toNat 0).toNat : Nat) : Int)) * 256)) + (W (((((a0.take a0.length).drop v5.toNat).getD (1 : Int).toNat 0).toNat : Nat) : Int)))))).toNat).drop (6 : Int).toNat).getD (1 : Int).toNat 0).toNat : Nat) : Int))))))) || (decide ((((((((a0.take a0.length).drop v5.toNat).take (W ((6 : Int) + (W ((W ((W (((((a0.take a0.length).drop v5.toNat).getD (0 : Int).toNat 0).toNat : Nat) : Int)) * 256)) + (W (((((a0.take a0.length).drop v5.toNat).getD (1 : Int).toNat 0).toNat : Nat) : Int)))))).toNat).drop (6 : Int).toNat).getD (0 : Int).toNat 0).toNat : Nat) : Int) > 1)))) rfl trivial (fun h58 => ?_) (fun h58 => ?_)
        · have h := ite_tt h58 h
          refine seqI ?_
          refine regI ?_
          refine retI ?_
          obtain ⟨o, hq, rfl⟩ := Option.map_eq_some_iff.1 h
          replace h := hq; clear hq
          refine And.intro nofun ?_
          cases h
          exact And.intro trivial (And.intro trivial (And.intro trivial (And.intro rfl (Vw.tupL (And.intro (Vw.oslI _ _ _) (And.intro (Vw.same _ rfl) (And.intro (Vw.same _ rfl) trivial)))))))
        · have h := ite_ff h58 h
          refine skipI ?_
          refine seqI ?_
          refine regI ?_
          obtain ⟨h59, h⟩ := ite_some h
          refine And.intro h59 ?_
          refine seqI ?_
          refine drawO rfl ?_
          obtain ⟨h60, h⟩ := ite_some h
          refine And.intro h60 ?_
          show yops _ _ _ [(73, .str ((((((a0.take a0.length).drop v5.toNat).take (W ((6 : Int) + (W ((W ((W (((((a0.take a0.length).drop v5.toNat).getD (0 : Int).toNat 0).toNat : Nat) : Int)) * 256)) + (W (((((a0.take a0.length).drop v5.toNat).getD (1 : Int).toNat 0).toNat : Nat) : Int)))))).toNat).drop (6 : Int).toNat).take (W ((2 : Int) + (W (((((((a0.take a0.length).drop v5.toNat).take (W ((6 : Int) + (W ((W ((W (((((a0.take a0.length).drop v5.toNat).getD (0 : Int).toNat 0).toNat : Nat) : Int)) * 256)) + (W (((((a0.take a0.length).drop v5.toNat).getD (1 : Int).toNat 0).toNat : Nat) : Int)))))).toNat).drop (6 : Int).toNat).getD (1 : Int).toNat 0).toNat : Nat) : Int)))).toNat).drop (2 : Int).toNat)), (72, .int .i64 (W ((2 : Int) + (W (((((((a0.take a0.length).drop v5.toNat).take (W ((6 : Int) + (W ((W ((W (((((a0.take a0.length).drop v5.toNat).getD (0 : Int).toNat 0).toNat : Nat) : Int)) * 256)) + (W (((((a0.take a0.length).drop v5.toNat).getD (1 : Int).toNat 0).toNat : Nat) : Int)))))).toNat).drop (6 : Int).toNat).getD (1 : Int).toNat 0).toNat : Nat) : Int))))), (71, .str ((((a0.take a0.length).drop v5.toNat).take (W ((6 : Int) + (W ((W ((W (((((a0.take a0.length).drop v5.toNat).getD (0 : Int).toNat 0).toNat : Nat) : Int)) * 256)) + (W (((((a0.take a0.length).drop v5.toNat).getD (1 : Int).toNat 0).toNat : Nat) : Int)))))).toNat).drop (6 : Int).toNat)), (10, .int .i64 (W ((2 : Int) + (W (((((((a0.take a0.length).drop v5.toNat).take (W ((6 : Int) + (W ((W ((W (((((a0.take a0.length).drop v5.toNat).getD (0 : Int).toNat 0).toNat : Nat) : Int)) * 256)) + (W (((((a0.take a0.length).drop v5.toNat).getD (1 : Int).toNat 0).toNat : Nat) : Int)))))).toNat).drop (6 : Int).toNat).getD (1 : Int).toNat 0).toNat : Nat) : Int))))), (70, .int .i64 (W ((2 : Int) + (W (((((((a0.take a0.length).drop v5.toNat).take (W ((6 : Int) + (W ((W ((W (((((a0.take a0.length).drop v5.toNat).getD (0 : Int).toNat 0).toNat : Nat) : Int)) * 256)) + (W (((((a0.take a0.length).drop v5.toNat).getD (1 : Int).toNat 0).toNat : Nat) : Int)))))).toNat).drop (6 : Int).toNat).getD (1 : Int).toNat 0).toNat : Nat) : Int))))), (69, .int .i64 (W (((((((a0.take a0.length).drop v5.toNat).take (W ((6 : Int) + (W ((W ((W (((((a0.take a0.length).drop v5.toNat).getD (0 : Int).toNat 0).toNat : Nat) : Int)) * 256)) + (W (((((a0.take a0.length).drop v5.toNat).getD (1 : Int).toNat 0).toNat : Nat) : Int)))))).toNat).drop (6 : Int).toNat).getD (1 : Int).toNat 0).toNat : Nat) : Int))), (68, .int .u8 (((((((a0.take a0.length).drop v5.toNat).take (W ((6 : Int) + (W ((W ((W (((((a0.take a0.length).drop v5.toNat).getD (0 : Int).toNat 0).toNat : Nat) : Int)) * 256)) + (W (((((a0.take a0.length).drop v5.toNat).getD (1 : Int).toNat 0).toNat : Nat) : Int)))))).toNat).drop (6 : Int).toNat).getD (1 : Int).toNat 0).toNat : Nat) : Int)), (67, .str ((((a0.take a0.length).drop v5.toNat).take (W ((6 : Int) + (W ((W ((W (((((a0.take a0.length).drop v5.toNat).getD (0 : Int).toNat 0).toNat : Nat) : Int)) * 256)) + (W (((((a0.take a0.length).drop v5.toNat).getD (1 : Int).toNat 0).toNat : Nat) : Int)))))).toNat).drop (6 : Int).toNat)), (0, .str a0), (5, .osl (0, 0) 3 (v4.map e_QRecord)), (6, .int .i64 v5), (8, .int .i64 (W ((W ((W (((((a0.take a0.length).drop v5.toNat).getD (0 : Int).toNat 0).toNat : Nat) : Int)) * 256)) + (W (((((a0.take a0.length).drop v5.toNat).getD (1 : Int).toNat 0).toNat : Nat) : Int))))), (9, .str ((((a0.take a0.length).drop v5.toNat).take (W ((6 : Int) + (W ((W ((W (((((a0.take a0.length).drop v5.toNat).getD (0 : Int).toNat 0).toNat : Nat) : Int)) * 256)) + (W (((((a0.take a0.length).drop v5.toNat).getD (1 : Int).toNat 0).toNat : Nat) : Int)))))).toNat).drop (6 : Int).toNat)), (64, .bool (((decide ((W ((W ((W (((((a0.take a0.length).drop v5.toNat).getD (0 : Int).toNat 0).toNat : Nat) : Int)) * 256)) + (W (((((a0.take a0.length).drop v5.toNat).getD (1 : Int).toNat 0).toNat : Nat) : Int)))) < 2)) || (decide ((W ((W ((W (((((a0.take a0.length).drop v5.toNat).getD (0 : Int).toNat 0).toNat : Nat) : Int)) * 256)) + (W (((((a0.take a0.length).drop v5.toNat).getD (1 : Int).toNat 0).toNat : Nat) : Int)))) < (W ((2 : Int) + (W (((((((a0.take a0.length).drop v5.toNat).take (W ((6 : Int) + (W ((W ((W (((((a0.take a0.length).drop v5.toNat).getD (0 : Int).toNat 0).toNat : Nat) : Int)) * 256)) + (W (((((a0.take a0.length).drop v5.toNat).getD (1 : Int).toNat 0).toNat : Nat) : Int)))))).toNat).drop (6 : Int).toNat).getD (1 : Int).toNat 0).toNat : Nat) : Int))))))) || (decide ((((((((a0.take a0.length).drop v5.toNat).take (W ((6 : Int) + (W ((W ((W (((((a0.take a0.length).drop v5.toNat).getD (0 : Int).toNat 0).toNat : Nat) : Int)) * 256)) + (W (((((a0.take a0.length).drop v5.toNat).getD (1 : Int).toNat 0).toNat : Nat) : Int)))))).toNat).drop (6 : Int).toNat).getD (0 : Int).toNat 0).toNat : Nat) : Int) > 1))))] _ _
          obtain ⟨h61, h⟩ := ite_some h
          refine And.intro (And.intro (And.left h61) (And.intro (And.right h61) (Int.le_refl _))) ?_
          obtain ⟨h62, h⟩ := ite_some h
          refine And.intro h62 ?_
          show yops _ _ _ [(78, .int .u8 (((((((a0.take a0.length).drop v5.toNat).take (W ((6 : Int) + (W ((W ((W (((((a0.take a0.length).drop v5.toNat).getD (0 : Int).toNat 0).toNat : Nat) : Int)) * 256)) + (W (((((a0.take a0.length).drop v5.toNat).getD (1 : Int).toNat 0).toNat : Nat) : Int)))))).toNat).drop (6 : Int).toNat).getD (0 : Int).toNat 0).toNat : Nat) : Int)), (77, .str ((((a0.take a0.length).drop v5.toNat).take (W ((6 : Int) + (W ((W ((W (((((a0.take a0.length).drop v5.toNat).getD (0 : Int).toNat 0).toNat : Nat) : Int)) * 256)) + (W (((((a0.take a0.length).drop v5.toNat).getD (1 : Int).toNat 0).toNat : Nat) : Int)))))).toNat).drop (6 : Int).toNat)), (76, .str ((((((a0.take a0.length).drop v5.toNat).take (W ((6 : Int) + (W ((W ((W (((((a0.take a0.length).drop v5.toNat).getD (0 : Int).toNat 0).toNat : Nat) : Int)) * 256)) + (W (((((a0.take a0.length).drop v5.toNat).getD (1 : Int).toNat 0).toNat : Nat) : Int)))))).toNat).drop (6 : Int).toNat).take ((((a0.take a0.length).drop v5.toNat).take (W ((6 : Int) + (W ((W ((W (((((a0.take a0.length).drop v5.toNat).getD (0 : Int).toNat 0).toNat : Nat) : Int)) * 256)) + (W (((((a0.take a0.length).drop v5.toNat).getD (1 : Int).toNat 0).toNat : Nat) : Int)))))).toNat).drop (6 : Int).toNat).length).drop (W ((2 : Int) + (W (((((((a0.take a0.length).drop v5.toNat).take (W ((6 : Int) + (W ((W ((W (((((a0.take a0.length).drop v5.toNat).getD (0 : Int).toNat 0).toNat : Nat) : Int)) * 256)) + (W (((((a0.take a0.length).drop v5.toNat).getD (1 : Int).toNat 0).toNat : Nat) : Int)))))).toNat).drop (6 : Int).toNat).getD (1 : Int).toNat 0).toNat : Nat) : Int)))).toNat)), (75, .int .i64 (W ((2 : Int) + (W (((((((a0.take a0.length).drop v5.toNat).take (W ((6 : Int) + (W ((W ((W (((((a0.take a0.length).drop v5.toNat).getD (0 : Int).toNat 0).toNat : Nat) : Int)) * 256)) + (W (((((a0.take a0.length).drop v5.toNat).getD (1 : Int).toNat 0).toNat : Nat) : Int)))))).toNat).drop (6 : Int).toNat).getD (1 : Int).toNat 0).toNat : Nat) : Int))))), (74, .str ((((a0.take a0.length).drop v5.toNat).take (W ((6 : Int) + (W ((W ((W (((((a0.take a0.length).drop v5.toNat).getD (0 : Int).toNat 0).toNat : Nat) : Int)) * 256)) + (W (((((a0.take a0.length).drop v5.toNat).getD (1 : Int).toNat 0).toNat : Nat) : Int)))))).toNat).drop (6 : Int).toNat)), (73, .str ((((((a0.take a0.length).drop v5.toNat).take (W ((6 : Int) + (W ((W ((W (((((a0.take a0.length).drop v5.toNat).getD (0 : Int).toNat 0).toNat : Nat) : Int)) * 256)) + (W (((((a0.take a0.length).drop v5.toNat).getD (1 : Int).toNat 0).toNat : Nat) : Int)))))).toNat).drop (6 : Int).toNat).take (W ((2 : Int) + (W (((((((a0.take a0.length).drop v5.toNat).take (W ((6 : Int) + (W ((W ((W (((((a0.take a0.length).drop v5.toNat).getD (0 : Int).toNat 0).toNat : Nat) : Int)) * 256)) + (W (((((a0.take a0.length).drop v5.toNat).getD (1 : Int).toNat 0).toNat : Nat) : Int)))))).toNat).drop (6 : Int).toNat).getD (1 : Int).toNat 0).toNat : Nat) : Int)))).toNat).drop (2 : Int).toNat)), (72, .int .i64 (W ((2 : Int) + (W (((((((a0.take a0.length).drop v5.toNat).take (W ((6 : Int) + (W ((W ((W (((((a0.take a0.length).drop v5.toNat).getD (0 : Int).toNat 0).toNat : Nat) : Int)) * 256)) + (W (((((a0.take a0.length).drop v5.toNat).getD (1 : Int).toNat 0).toNat : Nat) : Int)))))).toNat).drop (6 : Int).toNat).getD (1 : Int).toNat 0).toNat : Nat) : Int))))), (71, .str ((((a0.take a0.length).drop v5.toNat).take (W ((6 : Int) + (W ((W ((W (((((a0.take a0.length).drop v5.toNat).getD (0 : Int).toNat 0).toNat : Nat) : Int)) * 256)) + (W (((((a0.take a0.length).drop v5.toNat).getD (1 : Int).toNat 0).toNat : Nat) : Int)))))).toNat).drop (6 : Int).toNat)), (10, .int .i64 (W ((2 : Int) + (W (((((((a0.take a0.length).drop v5.toNat).take (W ((6 : Int) + (W ((W ((W (((((a0.take a0.length).drop v5.toNat).getD (0 : Int).toNat 0).toNat : Nat) : Int)) * 256)) + (W (((((a0.take a0.length).drop v5.toNat).getD (1 : Int).toNat 0).toNat : Nat) : Int)))))).toNat).drop (6 : Int).toNat).getD (1 : Int).toNat 0).toNat : Nat) : Int))))), (70, .int .i64 (W ((2 : Int) + (W (((((((a0.take a0.length).drop v5.toNat).take (W ((6 : Int) + (W ((W ((W (((((a0.take a0.length).drop v5.toNat).getD (0 : Int).toNat 0).toNat : Nat) : Int)) * 256)) + (W (((((a0.take a0.length).drop v5.toNat).getD (1 : Int).toNat 0).toNat : Nat) : Int)))))).toNat).drop (6 : Int).toNat).getD (1 : Int).toNat 0).toNat : Nat) : Int))))), (69, .int .i64 (W (((((((a0.take a0.length).drop v5.toNat).take (W ((6 : Int) + (W ((W ((W (((((a0.take a0.length).drop v5.toNat).getD (0 : Int).toNat 0).toNat : Nat) : Int)) * 256)) + (W (((((a0.take a0.length).drop v5.toNat).getD (1 : Int).toNat 0).toNat : Nat) : Int)))))).toNat).drop (6 : Int).toNat).getD (1 : Int).toNat 0).toNat : Nat) : Int))), (68, .int .u8 (((((((a0.take a0.length).drop v5.toNat).take (W ((6 : Int) + (W ((W ((W (((((a0.take a0.length).drop v5.toNat).getD (0 : Int).toNat 0).toNat : Nat) : Int)) * 256)) + (W (((((a0.take a0.length).drop v5.toNat).getD (1 : Int).toNat 0).toNat : Nat) : Int)))))).toNat).drop (6 : Int).toNat).getD (1 : Int).toNat 0).toNat : Nat) : Int)), (67, .str ((((a0.take a0.length).drop v5.toNat).take (W ((6 : Int) + (W ((W ((W (((((a0.take a0.length).drop v5.toNat).getD (0 : Int).toNat 0).toNat : Nat) : Int)) * 256)) + (W (((((a0.take a0.length).drop v5.toNat).getD (1 : Int).toNat 0).toNat : Nat) : Int)))))).toNat).drop (6 : Int).toNat)), (0, .str a0), (5, .osl (0, 0) 3 (v4.map e_QRecord)), (6, .int .i64 v5), (8, .int .i64 (W ((W ((W (((((a0.take a0.length).drop v5.toNat).getD (0 : Int).toNat 0).toNat : Nat) : Int)) * 256)) + (W (((((a0.take a0.length).drop v5.toNat).getD (1 : Int).toNat 0).toNat : Nat) : Int))))), (9, .str ((((a0.take a0.length).drop v5.toNat).take (W ((6 : Int) + (W ((W ((W (((((a0.take a0.length).drop v5.toNat).getD (0 : Int).toNat 0).toNat : Nat) : Int)) * 256)) + (W (((((a0.take a0.length).drop v5.toNat).getD (1 : Int).toNat 0).toNat : Nat) : Int)))))).toNat).drop (6 : Int).toNat)), (64, .bool (((decide ((W ((W ((W (((((a0.take a0.length).drop v5.toNat).getD (0 : Int).toNat 0).toNat : Nat) : Int)) * 256)) + (W (((((a0.take a0.length).drop v5.toNat).getD (1 : Int).toNat 0).toNat : Nat) : Int)))) < 2)) || (decide ((W ((W ((W (((((a0.take a0.length).drop v5.toNat).getD (0 : Int).toNat 0).toNat : Nat) : Int)) * 256)) + (W (((((a0.take a0.length).drop v5.toNat).getD (1 : Int).toNat 0).toNat : Nat) : Int)))) < (W ((2 : Int) + (W (((((((a0.take a0.length).drop v5.toNat).take (W ((6 : Int) + (W ((W ((W (((((a0.take a0.length).drop v5.toNat).getD (0 : Int).toNat 0).toNat : Nat) : Int)) * 256)) + (W (((((a0.take a0.length).drop v5.toNat).getD (1 : Int).toNat 0).toNat : Nat) : Int)))))).toNat).drop (6 : Int).toNat).getD (1 : Int).toNat 0).toNat : Nat) : Int))))))) || (decide ((((((((a0.take a0.length).drop v5.toNat).take (W ((6 : Int) + (W ((W ((W (((((a0.take a0.length).drop v5.toNat).getD (0 : Int).toNat 0).toNat : Nat) : Int)) * 256)) + (W (((((a0.take a0.length).drop v5.toNat).getD (1 : Int).toNat 0).toNat : Nat) : Int)))))).toNat).drop (6 : Int).toNat).getD (0 : Int).toNat 0).toNat : Nat) : Int) > 1))))] _ _
          refine LWp.sim (e := [(0, .str a0), (5, .osl (0, 0) 3 (v4.map e_QRecord)), (6, .int .i64 v5), (8, .int .i64 (W ((W ((W (((((a0.take a0.length).drop v5.toNat).getD (0 : Int).toNat 0).toNat : Nat) : Int)) * 256)) + (W (((((a0.take a0.length).drop v5.toNat).getD (1 : Int).toNat 0).toNat : Nat) : Int))))), (11, .ptr (1, 0) 0 0)]) (L := [((0, 0), .tok), ((1, 0), .one [.str ((((((a0.take a0.length).drop v5.toNat).take (W ((6 : Int) + (W ((W ((W (((((a0.take a0.length).drop v5.toNat).getD (0 : Int).toNat 0).toNat : Nat) : Int)) * 256)) + (W (((((a0.take a0.length).drop v5.toNat).getD (1 : Int).toNat 0).toNat : Nat) : Int)))))).toNat).drop (6 : Int).toNat).take (W ((2 : Int) + (W (((((((a0.take a0.length).drop v5.toNat).take (W ((6 : Int) + (W ((W ((W (((((a0.take a0.length).drop v5.toNat).getD (0 : Int).toNat 0).toNat : Nat) : Int)) * 256)) + (W (((((a0.take a0.length).drop v5.toNat).getD (1 : Int).toNat 0).toNat : Nat) : Int)))))).toNat).drop (6 : Int).toNat).getD (1 : Int).toNat 0).toNat : Nat) : Int)))).toNat).drop (2 : Int).toNat), .str ((((((a0.take a0.length).drop v5.toNat).take (W ((6 : Int) + (W ((W ((W (((((a0.take a0.length).drop v5.toNat).getD (0 : Int).toNat 0).toNat : Nat) : Int)) * 256)) + (W (((((a0.take a0.length).drop v5.toNat).getD (1 : Int).toNat 0).toNat : Nat) : Int)))))).toNat).drop (6 : Int).toNat).take ((((a0.take a0.length).drop v5.toNat).take (W ((6 : Int) + (W ((W ((W (((((a0.take a0.length).drop v5.toNat).getD (0 : Int).toNat 0).toNat : Nat) : Int)) * 256)) + (W (((((a0.take a0.length).drop v5.toNat).getD (1 : Int).toNat 0).toNat : Nat) : Int)))))).toNat).drop (6 : Int).toNat).length).drop (W ((2 : Int) + (W (((((((a0.take a0.length).drop v5.toNat).take (W ((6 : Int) + (W ((W ((W (((((a0.take a0.length).drop v5.toNat).getD (0 : Int).toNat 0).toNat : Nat) : Int)) * 256)) + (W (((((a0.take a0.length).drop v5.toNat).getD (1 : Int).toNat 0).toNat : Nat) : Int)))))).toNat).drop (6 : Int).toNat).getD (1 : Int).toNat 0).toNat : Nat) : Int)))).toNat), .bool ((((((((a0.take a0.length).drop v5.toNat).take (W ((6 : Int) + (W ((W ((W (((((a0.take a0.length).drop v5.toNat).getD (0 : Int).toNat 0).toNat : Nat) : Int)) * 256)) + (W (((((a0.take a0.length).drop v5.toNat).getD (1 : Int).toNat 0).toNat : Nat) : Int)))))).toNat).drop (6 : Int).toNat).getD (0 : Int).toNat 0).toNat : Nat) : Int) == 1)])]) (n := 2) ?_ ?_
          · exact simI (M := [((0, 0), (0, 0)), ((1, 0), (1, 0))]) rfl (And.intro (Vw.same _ rfl) (And.intro (Vw.osl _ _ _ _ rfl) (And.intro (Vw.same _ rfl) (And.intro (Vw.same _ rfl) (And.intro (Vw.ptr _ _ _ _ rfl) trivial))))) (And.intro (And.intro rfl BVw.tok) (And.intro (And.intro rfl (BVw.oneL (And.intro (Vw.same _ rfl) (And.intro (Vw.same _ rfl) (And.intro (Vw.same _ rfl) trivial))))) trivial))
          refine seqI ?_
          refine seqI ?_
          refine regI ?_
          obtain ⟨v11, h63, h⟩ := bind_some h
          refine PFn.call (f25_ok h63) (And.intro (Vw.same _ rfl) trivial) ?_
          refine condI (v := (v11 != 0)) rfl trivial (fun h64 => ?_) (fun h64 => ?_)
          · have h := ite_tt h64 h
            refine seqI ?_
            refine regI ?_
            refine LWp.sim (e := [(2, .osl (0, 0) 3 (v4.map e_QRecord)), (3, .int .i64 v5), (4, .int .i64 3)]) (L := [((0, 0), .tok)]) (n := 1) ?_ ?_
            · exact simI (M := [((0, 0), (0, 0))]) rfl (And.intro (Vw.osl _ _ _ _ rfl) (And.intro (Vw.same _ rfl) (And.intro (Vw.same _ rfl) trivial))) (And.intro (And.intro rfl BVw.tok) trivial)
            refine retI ?_
            obtain ⟨o, hq, rfl⟩ := Option.map_eq_some_iff.1 h
            replace h := hq; clear hq
            refine And.intro nofun ?_
            cases h
            exact And.intro trivial (And.intro trivial (And.intro trivial (And.intro rfl (Vw.tupL (And.intro (Vw.oslI _ _ _) (And.intro (Vw.same _ rfl) (And.intro (Vw.same _ rfl) trivial)))))))
          · have h := ite_ff h64 h
            refine skipI ?_
            refine seqI ?_
            refine regI ?_
            obtain ⟨h65, h⟩ := ite_some h
            refine Exists.intro ((v4 ++ ([(G_QRecord.mk ((((((a0.take a0.length).drop v5.toNat).take (W ((6 : Int) + (W ((W ((W (((((a0.take a0.length).drop v5.toNat).getD (0 : Int).toNat 0).toNat : Nat) : Int)) * 256)) + (W (((((a0.take a0.length).drop v5.toNat).getD (1 : Int).toNat 0).toNat : Nat) : Int)))))).toNat).drop (6 : Int).toNat).take (W ((2 : Int) + (W (((((((a0.take a0.length).drop v5.toNat).take (W ((6 : Int) + (W ((W ((W (((((a0.take a0.length).drop v5.toNat).getD (0 : Int).toNat 0).toNat : Nat) : Int)) * 256)) + (W (((((a0.take a0.length).drop v5.toNat).getD (1 : Int).toNat 0).toNat : Nat) : Int)))))).toNat).drop (6 : Int).toNat).getD (1 : Int).toNat 0).toNat : Nat) : Int)))).toNat).drop (2 : Int).toNat) ((((((a0.take a0.length).drop v5.toNat).take (W ((6 : Int) + (W ((W ((W (((((a0.take a0.length).drop v5.toNat).getD (0 : Int).toNat 0).toNat : Nat) : Int)) * 256)) + (W (((((a0.take a0.length).drop v5.toNat).getD (1 : Int).toNat 0).toNat : Nat) : Int)))))).toNat).drop (6 : Int).toNat).take ((((a0.take a0.length).drop v5.toNat).take (W ((6 : Int) + (W ((W ((W (((((a0.take a0.length).drop v5.toNat).getD (0 : Int).toNat 0).toNat : Nat) : Int)) * 256)) + (W (((((a0.take a0.length).drop v5.toNat).getD (1 : Int).toNat 0).toNat : Nat) : Int)))))).toNat).drop (6 : Int).toNat).length).drop (W ((2 : Int) + (W (((((((a0.take a0.length).drop v5.toNat).take (W ((6 : Int) + (W ((W ((W (((((a0.take a0.length).drop v5.toNat).getD (0 : Int).toNat 0).toNat : Nat) : Int)) * 256)) + (W (((((a0.take a0.length).drop v5.toNat).getD (1 : Int).toNat 0).toNat : Nat) : Int)))))).toNat).drop (6 : Int).toNat).getD (1 : Int).toNat 0).toNat : Nat) : Int)))).toNat) ((((((((a0.take a0.length).drop v5.toNat).take (W ((6 : Int) + (W ((W ((W (((((a0.take a0.length).drop v5.toNat).getD (0 : Int).toNat 0).toNat : Nat) : Int)) * 256)) + (W (((((a0.take a0.length).drop v5.toNat).getD (1 : Int).toNat 0).toNat : Nat) : Int)))))).toNat).drop (6 : Int).toNat).getD (0 : Int).toNat 0).toNat : Nat) : Int) == 1))] : List G_QRecord)).map e_QRecord) (And.intro (app_enc e_QRecord v4 ([(G_QRecord.mk ((((((a0.take a0.length).drop v5.toNat).take (W ((6 : Int) + (W ((W ((W (((((a0.take a0.length).drop v5.toNat).getD (0 : Int).toNat 0).toNat : Nat) : Int)) * 256)) + (W (((((a0.take a0.length).drop v5.toNat).getD (1 : Int).toNat 0).toNat : Nat) : Int)))))).toNat).drop (6 : Int).toNat).take (W ((2 : Int) + (W (((((((a0.take a0.length).drop v5.toNat).take (W ((6 : Int) + (W ((W ((W (((((a0.take a0.length).drop v5.toNat).getD (0 : Int).toNat 0).toNat : Nat) : Int)) * 256)) + (W (((((a0.take a0.length).drop v5.toNat).getD (1 : Int).toNat 0).toNat : Nat) : Int)))))).toNat).drop (6 : Int).toNat).getD (1 : Int).toNat 0).toNat : Nat) : Int)))).toNat).drop (2 : Int).toNat) ((((((a0.take a0.length).drop v5.toNat).take (W ((6 : Int) + (W ((W ((W (((((a0.take a0.length).drop v5.toNat).getD (0 : Int).toNat 0).toNat : Nat) : Int)) * 256)) + (W (((((a0.take a0.length).drop v5.toNat).getD (1 : Int).toNat 0).toNat : Nat) : Int)))))).toNat).drop (6 : Int).toNat).take ((((a0.take a0.length).drop v5.toNat).take (W ((6 : Int) + (W ((W ((W (((((a0.take a0.length).drop v5.toNat).getD (0 : Int).toNat 0).toNat : Nat) : Int)) * 256)) + (W (((((a0.take a0.length).drop v5.toNat).getD (1 : Int).toNat 0).toNat : Nat) : Int)))))).toNat).drop (6 : Int).toNat).length).drop (W ((2 : Int) + (W (((((((a0.take a0.length).drop v5.toNat).take (W ((6 : Int) + (W ((W ((W (((((a0.take a0.length).drop v5.toNat).getD (0 : Int).toNat 0).toNat : Nat) : Int)) * 256)) + (W (((((a0.take a0.length).drop v5.toNat).getD (1 : Int).toNat 0).toNat : Nat) : Int)))))).toNat).drop (6 : Int).toNat).getD (1 : Int).toNat 0).toNat : Nat) : Int)))).toNat) ((((((((a0.take a0.length).drop v5.toNat).take (W ((6 : Int) + (W ((W ((W (((((a0.take a0.length).drop v5.toNat).getD (0 : Int).toNat 0).toNat : Nat) : Int)) * 256)) + (W (((((a0.take a0.length).drop v5.toNat).getD (1 : Int).toNat 0).toNat : Nat) : Int)))))).toNat).drop (6 : Int).toNat).getD (0 : Int).toNat 0).toNat : Nat) : Int) == 1))] : List G_QRecord)) (And.intro h65 ?_))
            refine LWp.sim (e := [(0, .str a0), (5, .osl (0, 0) 3 ((v4 ++ ([(G_QRecord.mk ((((((a0.take a0.length).drop v5.toNat).take (W ((6 : Int) + (W ((W ((W (((((a0.take a0.length).drop v5.toNat).getD (0 : Int).toNat 0).toNat : Nat) : Int)) * 256)) + (W (((((a0.take a0.length).drop v5.toNat).getD (1 : Int).toNat 0).toNat : Nat) : Int)))))).toNat).drop (6 : Int).toNat).take (W ((2 : Int) + (W (((((((a0.take a0.length).drop v5.toNat).take (W ((6 : Int) + (W ((W ((W (((((a0.take a0.length).drop v5.toNat).getD (0 : Int).toNat 0).toNat : Nat) : Int)) * 256)) + (W (((((a0.take a0.length).drop v5.toNat).getD (1 : Int).toNat 0).toNat : Nat) : Int)))))).toNat).drop (6 : Int).toNat).getD (1 : Int).toNat 0).toNat : Nat) : Int)))).toNat).drop (2 : Int).toNat) ((((((a0.take a0.length).drop v5.toNat).take (W ((6 : Int) + (W ((W ((W (((((a0.take a0.length).drop v5.toNat).getD (0 : Int).toNat 0).toNat : Nat) : Int)) * 256)) + (W (((((a0.take a0.length).drop v5.toNat).getD (1 : Int).toNat 0).toNat : Nat) : Int)))))).toNat).drop (6 : Int).toNat).take ((((a0.take a0.length).drop v5.toNat).take (W ((6 : Int) + (W ((W ((W (((((a0.take a0.length).drop v5.toNat).getD (0 : Int).toNat 0).toNat : Nat) : Int)) * 256)) + (W (((((a0.take a0.length).drop v5.toNat).getD (1 : Int).toNat 0).toNat : Nat) : Int)))))).toNat).drop (6 : Int).toNat).length).drop (W ((2 : Int) + (W (((((((a0.take a0.length).drop v5.toNat).take (W ((6 : Int) + (W ((W ((W (((((a0.take a0.length).drop v5.toNat).getD (0 : Int).toNat 0).toNat : Nat) : Int)) * 256)) + (W (((((a0.take a0.length).drop v5.toNat).getD (1 : Int).toNat 0).toNat : Nat) : Int)))))).toNat).drop (6 : Int).toNat).getD (1 : Int).toNat 0).toNat : Nat) : Int)))).toNat) ((((((((a0.take a0.length).drop v5.toNat).take (W ((6 : Int) + (W ((W ((W (((((a0.take a0.length).drop v5.toNat).getD (0 : Int).toNat 0).toNat : Nat) : Int)) * 256)) + (W (((((a0.take a0.length).drop v5.toNat).getD (1 : Int).toNat 0).toNat : Nat) : Int)))))).toNat).drop (6 : Int).toNat).getD (0 : Int).toNat 0).toNat : Nat) : Int) == 1))] : List G_QRecord)).map e_QRecord)), (6, .int .i64 v5), (8, .int .i64 (W ((W ((W (((((a0.take a0.length).drop v5.toNat).getD (0 : Int).toNat 0).toNat : Nat) : Int)) * 256)) + (W (((((a0.take a0.length).drop v5.toNat).getD (1 : Int).toNat 0).toNat : Nat) : Int)))))]) (L := [((0, 0), .tok)]) (n := 1) ?_ ?_
            · exact simI (M := [((0, 0), (2, 0))]) rfl (And.intro (Vw.same _ rfl) (And.intro (Vw.osl _ _ _ _ rfl) (And.intro (Vw.same _ rfl) (And.intro (Vw.same _ rfl) trivial)))) (And.intro (And.intro rfl BVw.tok) trivial)
            refine regI ?_
            cases h
            exact And.intro rfl (simI (M := [((0, 0), (0, 0))]) rfl (And.intro (Vw.same _ rfl) (And.intro (Vw.osl _ _ _ _ rfl) (And.intro (Vw.same _ rfl) trivial))) (And.intro (And.intro rfl BVw.tok) trivial))

theorem f11_L1_ok {a0 : List UInt8} {v4 : List G_QRecord} {v5 : Int} {m : Option Nat} {o : ((List G_QRecord) × Int × Int)} (h : S_glossatorref3_ReadJournal_l1 m a0 v4 v5 = some o) :
    LWp Try.prog f11_lay 0 (.loop f11_c0) (QBlock 0 (f11_Q a0 o)) [(0, .str a0), (5, .osl (0, 0) 3 (v4.map e_QRecord)), (6, .int .i64 v5)] [((0, 0), .tok)] 1 :=
  LWp_loopM (m := m) (s := ((v4, v5) : ((List G_QRecord) × Int))) (r := o) (fun (s : ((List G_QRecord) × Int)) => S_glossatorref3_ReadJournal_b1 m a0 s.1 s.2) (f11_L1_env a0) (f11_L1_hp a0) (f11_L1_Q a0) (fun s o h => f11_L1_bok h) h

noncomputable def S_glossatorref3_ReadJournal (m : Option Nat) (a0 : List UInt8) : Option ((List G_QRecord) × Int × Int) :=
  S_glossatorref3_ReadJournal_l1 m a0 [] 0

theorem f11_start {a0 : List UInt8} {m : Option Nat} {o : (List G_QRecord) × Int × Int} (h : S_glossatorref3_ReadJournal m a0 = some o) : LWp Try.prog f11_lay 0 f11_c1 (f11_Q a0 o) (initEnv 0 [.str a0]) [] 0 := by
  unfold S_glossatorref3_ReadJournal at h
  refine seqI ?_
  refine regI ?_
  refine seqI ?_
  refine regI ?_
  refine seqI ?_
  refine regI ?_
  refine blockI ?_
  refine LWp.sim ?_ (f11_L1_ok h)
  exact simI (M := []) rfl (And.intro (Vw.same _ rfl) (And.intro (Vw.nilO _ _ (by decide)) (And.intro (Vw.same _ rfl) trivial))) (And.intro (And.intro rfl (And.intro (by decide) (by decide))) trivial)

theorem f11_ok {a0 : List UInt8} {m : Option Nat} {o : (List G_QRecord) × Int × Int} (h : S_glossatorref3_ReadJournal m a0 = some o) : PFn Try.prog 11 [.str a0] (.tup [.isl 3 (o.1.map e_QRecord) false, .int .i64 o.2.1, .int .i64 o.2.2]) := PFn.ofFnW (L := f11_L) f11_low f11_fok (Nat.le_of_ble_eq_true rfl) rfl (f11_start h)

def f12_c0 : LCode := (.seq (.region [⟨some 2, .mv (.c (.str [])), none⟩,
   ⟨some 3, .mv (.c (.val (.slice none 0 0))), none⟩])
 (.seq (.region [⟨some 7, .mv (.t 0), none⟩,
   ⟨some 8, .mv (.t 0), none⟩,
   ⟨some 9, .len true (.t 8), none⟩,
   ⟨some 10, .mnx false [(.t 9), (.c (.int .i64 40000))], none⟩,
   ⟨some 11, .slStr (.t 7) none (some (.t 10)), none⟩,
   ⟨some 0, .mv (.t 11), none⟩])
 (.seq (.region [⟨some 13, .mv (.t 0), none⟩,
   ⟨some 14, .call 20 [(.t 13)], none⟩,
   ⟨some 12, .mv (.t 14), none⟩,
   ⟨some 15, .ext 0 (.t 12), none⟩,
   ⟨some 16, .ext 1 (.t 12), none⟩,
   ⟨some 17, .ext 2 (.t 12), none⟩,
   ⟨some 4, .mv (.t 15), none⟩,
   ⟨some 5, .mv (.t 16), none⟩,
   ⟨some 6, .mv (.t 17), none⟩])
 (.seq (.region [⟨some 18, .mv (.t 0), none⟩,
   ⟨some 19, .mv (.t 5), none⟩,
   ⟨some 20, .slStr (.t 18) none (some (.t 19)), none⟩,
   ⟨some 21, .mv (.t 4), none⟩,
   ⟨some 2, .mv (.t 20), none⟩,
   ⟨some 3, .mv (.t 21), none⟩])
 .ret))))
def f12_lay : Lay := ⟨22, [], false⟩
def f12_res : List LRes := [.t 2, .t 3]
def f12_L : LFn := ⟨1, f12_lay, f12_c0, f12_res⟩
theorem f12_low : lowFn Try.prog [] 12 = some f12_L := by kernel_rfl
theorem f12_fok : FnOk Try.prog 12 := ⟨_, Try.func12, rfl, rfl⟩
noncomputable def S_journal_Recover (m : Option Nat) (a0 : List UInt8) : Option ((List UInt8) × (List G_QRecord)) :=
  if (0 : Int) ≤ (if 40000 < (a0.length : Int) then 40000 else (a0.length : Int)) ∧ (if 40000 < (a0.length : Int) then 40000 else (a0.length : Int)) ≤ (a0.length : Int) then
  (S_journal_scan m ((a0.take (if 40000 < (a0.length : Int) then 40000 else (a0.length : Int)).toNat).drop 0)).bind fun v1 =>
  if (0 : Int) ≤ v1.2.1 ∧ v1.2.1 ≤ (((a0.take (if 40000 < (a0.length : Int) then 40000 else (a0.length : Int)).toNat).drop 0).length : Int) then
  some (((((a0.take (if 40000 < (a0.length : Int) then 40000 else (a0.length : Int)).toNat).drop 0).take v1.2.1.toNat).drop 0), v1.1)
  else none
  else none

def f12_Q (a0 : List UInt8) (o : (List UInt8) × (List G_QRecord)) : Exit → Env → AHeap → Nat → Prop := FinK f12_res (PureEnd (.tup [.str o.1, .isl 3 (o.2.map e_QRecord) false]))

theorem f12_start {a0 : List UInt8} {m : Option Nat} {o : (List UInt8) × (List G_QRecord)} (h : S_journal_Recover m a0 = some o) : LWp Try.prog f12_lay 0 f12_c0 (f12_Q a0 o) (initEnv 0 [.str a0]) [] 0 := by
  unfold S_journal_Recover at h
  refine seqI ?_
  refine regI ?_
  refine seqI ?_
  refine regI ?_
  obtain ⟨h1, h⟩ := ite_some h
  refine And.intro (And.intro (Int.le_refl _) h1) ?_
  show yops _ _ _ [(11, .str ((a0.take (if 40000 < (a0.length : Int) then 40000 else (a0.length : Int)).toNat).drop 0)), (10, .int .i64 (if 40000 < (a0.length : Int) then 40000 else (a0.length : Int))), (9, .int .i64 (a0.length : Int)), (8, .str a0), (7, .str a0), (3, .val (.slice none 0 0)), (2, .str ([] : List UInt8)), (0, .str a0)] _ _
  refine LWp.sim (e := [(0, .str ((a0.take (if 40000 < (a0.length : Int) then 40000 else (a0.length : Int)).toNat).drop 0))]) (L := []) (n := 0) ?_ ?_
  · exact simI (M := []) rfl (And.intro (Vw.same _ rfl) trivial) trivial
  refine seqI ?_
  refine regI ?_
  obtain ⟨v1, h2, h⟩ := bind_some h
  refine PFn.call (f20_ok h2) (And.intro (Vw.same _ rfl) trivial) ?_
  refine LWp.sim (e := [(0, .str ((a0.take (if 40000 < (a0.length : Int) then 40000 else (a0.length : Int)).toNat).drop 0)), (4, .isl 3 (v1.1.map e_QRecord) false), (5, .int .i64 v1.2.1)]) (L := []) (n := 0) ?_ ?_
  · exact simI (M := []) rfl (And.intro (Vw.same _ rfl) (And.intro (Vw.same _ rfl) (And.intro (Vw.same _ rfl) trivial))) trivial
  refine seqI ?_
  refine regI ?_
  obtain ⟨h3, h⟩ := ite_some h
  refine And.intro (And.intro (Int.le_refl _) h3) ?_
  refine retI ?_
  cases h
  exact And.intro trivial (And.intro trivial (And.intro rfl (Vw.same _ rfl)))

theorem f12_ok {a0 : List UInt8} {m : Option Nat} {o : (List UInt8) × (List G_QRecord)} (h : S_journal_Recover m a0 = some o) : PFn Try.prog 12 [.str a0] (.tup [.str o.1, .isl 3 (o.2.map e_QRecord) false]) := PFn.ofFnW (L := f12_L) f12_low f12_fok (Nat.le_of_ble_eq_true rfl) rfl (f12_start h)

def f13_c0 : LCode := (.seq (.region [⟨some 8, .mv (.t 3), none⟩,
   ⟨some 9, .faddr 0 (.t 1), none⟩,
   ⟨some 10, .load false 1 (.t 9), none⟩,
   ⟨some 11, .len true (.t 10), none⟩,
   ⟨some 12, .conv (.int .u8) (.t 11), none⟩,
   ⟨some 13, .mkSl true 1 [(.int .u8 0)] 2 [(0, (.t 8)), (1, (.t 12))], none⟩,
   ⟨some 14, .conv .b2s (.t 13), none⟩,
   ⟨some 15, .faddr 0 (.t 1), none⟩,
   ⟨some 16, .load false 1 (.t 15), none⟩,
   ⟨some 17, .bin .add (.t 14) (.t 16), none⟩,
   ⟨some 18, .faddr 1 (.t 1), none⟩,
   ⟨some 19, .load false 1 (.t 18), none⟩,
   ⟨some 20, .bin .add (.t 17) (.t 19), none⟩,
   ⟨some 4, .mv (.t 20), none⟩])
 (.seq (.region [⟨some 21, .mv (.t 4), none⟩,
   ⟨some 22, .len true (.t 21), none⟩,
   ⟨some 23, .bin .quo (.t 22) (.c (.int .i64 256)), none⟩,
   ⟨some 24, .conv (.int .u8) (.t 23), none⟩,
   ⟨some 25, .mv (.t 4), none⟩,
   ⟨some 26, .len true (.t 25), none⟩,
   ⟨some 27, .bin .rem (.t 26) (.c (.int .i64 256)), none⟩,
   ⟨some 28, .conv (.int .u8) (.t 27), none⟩,
   ⟨some 29, .mkSl true 1 [(.int .u8 0)] 2 [(0, (.t 24)), (1, (.t 28))], none⟩,
   ⟨some 30, .conv .b2s (.t 29), none⟩,
   ⟨some 5, .mv (.t 30), none⟩])
 (.seq (.region [⟨some 31, .mv (.t 5), none⟩,
   ⟨some 32, .mv (.t 5), none⟩,
   ⟨some 33, .mv (.t 4), none⟩,
   ⟨some 34, .bin .add (.t 32) (.t 33), none⟩,
   ⟨some 35, .call 24 [(.t 34)], none⟩,
   ⟨some 36, .call 23 [(.t 35)], none⟩,
   ⟨some 37, .bin .add (.t 31) (.t 36), none⟩,
   ⟨some 38, .mv (.t 4), none⟩,
   ⟨some 39, .bin .add (.t 37) (.t 38), none⟩,
   ⟨some 2, .mv (.t 39), none⟩])
 .ret)))
def f13_c1 : LCode := (.seq (.region [⟨some 1, .box (.t 0), none⟩,
   ⟨some 2, .mv (.c (.str [])), none⟩])
 (.seq (.region [⟨some 3, .mv (.c (.int .u8 0)), none⟩])
 (.seq (.seq (.region [⟨some 6, .faddr 2 (.t 1), none⟩,
   ⟨some 7, .load false 1 (.t 6), none⟩])
 (.cond (.t 7)
  (.region [⟨some 3, .mv (.c (.int .u8 1)), none⟩])
  .skip))
 f13_c0)))
def f13_lay : Lay := ⟨40, [], false⟩
def f13_res : List LRes := [.t 2]
def f13_L : LFn := ⟨1, f13_lay, f13_c1, f13_res⟩
theorem f13_low : lowFn Try.prog [] 13 = some f13_L := by kernel_rfl
theorem f13_fok : FnOk Try.prog 13 := ⟨_, Try.func13, rfl, rfl⟩
noncomputable def S_glossatorref3_Frame_j1 (m : Option Nat) (a0 : G_QRecord) (v1 : Int) : Option (List UInt8) :=
  if ((((([v1, (IntKind.wrap .u8 (a0.f_Key.length : Int))] : List Int).map toU8).length + a0.f_Key.length : Nat) : Int) ≤ 9223372036854775807) then
  if (((((([v1, (IntKind.wrap .u8 (a0.f_Key.length : Int))] : List Int).map toU8) ++ a0.f_Key).length + a0.f_Value.length : Nat) : Int) ≤ 9223372036854775807) then
  if ((((([(IntKind.wrap .u8 (W (((((([v1, (IntKind.wrap .u8 (a0.f_Key.length : Int))] : List Int).map toU8) ++ a0.f_Key) ++ a0.f_Value).length : Int).tdiv 256))), (IntKind.wrap .u8 (((((([v1, (IntKind.wrap .u8 (a0.f_Key.length : Int))] : List Int).map toU8) ++ a0.f_Key) ++ a0.f_Value).length : Int).tmod 256))] : List Int).map toU8).length + (((([v1, (IntKind.wrap .u8 (a0.f_Key.length : Int))] : List Int).map toU8) ++ a0.f_Key) ++ a0.f_Value).length : Nat) : Int) ≤ 9223372036854775807) then
  (S_glossatorref3_Checksum m ((([(IntKind.wrap .u8 (W (((((([v1, (IntKind.wrap .u8 (a0.f_Key.length : Int))] : List Int).map toU8) ++ a0.f_Key) ++ a0.f_Value).length : Int).tdiv 256))), (IntKind.wrap .u8 (((((([v1, (IntKind.wrap .u8 (a0.f_Key.length : Int))] : List Int).map toU8) ++ a0.f_Key) ++ a0.f_Value).length : Int).tmod 256))] : List Int).map toU8) ++ (((([v1, (IntKind.wrap .u8 (a0.f_Key.length : Int))] : List Int).map toU8) ++ a0.f_Key) ++ a0.f_Value))).bind fun v2 =>
  (S_glossatorref3_number32 m v2).bind fun v3 =>
  if ((((([(IntKind.wrap .u8 (W (((((([v1, (IntKind.wrap .u8 (a0.f_Key.length : Int))] : List Int).map toU8) ++ a0.f_Key) ++ a0.f_Value).length : Int).tdiv 256))), (IntKind.wrap .u8 (((((([v1, (IntKind.wrap .u8 (a0.f_Key.length : Int))] : List Int).map toU8) ++ a0.f_Key) ++ a0.f_Value).length : Int).tmod 256))] : List Int).map toU8).length + v3.length : Nat) : Int) ≤ 9223372036854775807) then
  if (((((([(IntKind.wrap .u8 (W (((((([v1, (IntKind.wrap .u8 (a0.f_Key.length : Int))] : List Int).map toU8) ++ a0.f_Key) ++ a0.f_Value).length : Int).tdiv 256))), (IntKind.wrap .u8 (((((([v1, (IntKind.wrap .u8 (a0.f_Key.length : Int))] : List Int).map toU8) ++ a0.f_Key) ++ a0.f_Value).length : Int).tmod 256))] : List Int).map toU8) ++ v3).length + (((([v1, (IntKind.wrap .u8 (a0.f_Key.length : Int))] : List Int).map toU8) ++ a0.f_Key) ++ a0.f_Value).length : Nat) : Int) ≤ 9223372036854775807) then
  some (((([(IntKind.wrap .u8 (W (((((([v1, (IntKind.wrap .u8 (a0.f_Key.length : Int))] : List Int).map toU8) ++ a0.f_Key) ++ a0.f_Value).length : Int).tdiv 256))), (IntKind.wrap .u8 (((((([v1, (IntKind.wrap .u8 (a0.f_Key.length : Int))] : List Int).map toU8) ++ a0.f_Key) ++ a0.f_Value).length : Int).tmod 256))] : List Int).map toU8) ++ v3) ++ (((([v1, (IntKind.wrap .u8 (a0.f_Key.length : Int))] : List Int).map toU8) ++ a0.f_Key) ++ a0.f_Value))
  else none
  else none
  else none
  else none
  else none

def f13_Q (a0 : G_QRecord) (o : (List UInt8)) : Exit → Env → AHeap → Nat → Prop := FinK f13_res (PureEnd (.str o))

theorem f13_j1_ok {a0 : G_QRecord} {v1 : Int} {m : Option Nat} {o : (List UInt8)} (h : S_glossatorref3_Frame_j1 m a0 v1 = some o) :
    LWp Try.prog f13_lay 0 f13_c0 (f13_Q a0 o) [(1, .ptr (0, 0) 0 0), (3, .int .u8 v1)] [((0, 0), .one [.str a0.f_Key, .str a0.f_Value, .bool a0.f_Deleted])] 1 := by
  unfold S_glossatorref3_Frame_j1 at h
  refine seqI ?_
  refine regI ?_
  refine Exists.intro (([v1, (IntKind.wrap .u8 (a0.f_Key.length : Int))] : List Int).map toU8) (And.intro (b2s_enc ([v1, (IntKind.wrap .u8 (a0.f_Key.length : Int))] : List Int)) (And.intro (b2s_all ([v1, (IntKind.wrap .u8 (a0.f_Key.length : Int))] : List Int)) ?_))
  obtain ⟨h2, h⟩ := ite_some h
  refine And.intro h2 ?_
  show yops _ _ _ [(17, .str ((([v1, (IntKind.wrap .u8 (a0.f_Key.length : Int))] : List Int).map toU8) ++ a0.f_Key)), (16, .str a0.f_Key), (15, .ptr (0, 0) 0 0), (14, .str (([v1, (IntKind.wrap .u8 (a0.f_Key.length : Int))] : List Int).map toU8)), (13, .isl 1 (([v1, (IntKind.wrap .u8 (a0.f_Key.length : Int))] : List Int).map e_u8) true), (12, .int .u8 (IntKind.wrap .u8 (a0.f_Key.length : Int))), (11, .int .i64 (a0.f_Key.length : Int)), (10, .str a0.f_Key), (9, .ptr (0, 0) 0 0), (8, .int .u8 v1), (1, .ptr (0, 0) 0 0), (3, .int .u8 v1)] _ _
  obtain ⟨h3, h⟩ := ite_some h
  refine And.intro h3 ?_
  refine LWp.sim (e := [(4, .str (((([v1, (IntKind.wrap .u8 (a0.f_Key.length : Int))] : List Int).map toU8) ++ a0.f_Key) ++ a0.f_Value))]) (L := []) (n := 0) ?_ ?_
  · exact simI (M := []) rfl (And.intro (Vw.same _ rfl) trivial) trivial
  refine seqI ?_
  refine regI ?_
  refine And.intro (by decide) ?_
  refine And.intro (by decide) ?_
  show yops _ _ _ [(27, .int .i64 (((((([v1, (IntKind.wrap .u8 (a0.f_Key.length : Int))] : List Int).map toU8) ++ a0.f_Key) ++ a0.f_Value).length : Int).tmod 256)), (26, .int .i64 ((((([v1, (IntKind.wrap .u8 (a0.f_Key.length : Int))] : List Int).map toU8) ++ a0.f_Key) ++ a0.f_Value).length : Int)), (25, .str (((([v1, (IntKind.wrap .u8 (a0.f_Key.length : Int))] : List Int).map toU8) ++ a0.f_Key) ++ a0.f_Value)), (24, .int .u8 (IntKind.wrap .u8 (W (((((([v1, (IntKind.wrap .u8 (a0.f_Key.length : Int))] : List Int).map toU8) ++ a0.f_Key) ++ a0.f_Value).length : Int).tdiv 256)))), (23, .int .i64 (W (((((([v1, (IntKind.wrap .u8 (a0.f_Key.length : Int))] : List Int).map toU8) ++ a0.f_Key) ++ a0.f_Value).length : Int).tdiv 256))), (22, .int .i64 ((((([v1, (IntKind.wrap .u8 (a0.f_Key.length : Int))] : List Int).map toU8) ++ a0.f_Key) ++ a0.f_Value).length : Int)), (21, .str (((([v1, (IntKind.wrap .u8 (a0.f_Key.length : Int))] : List Int).map toU8) ++ a0.f_Key) ++ a0.f_Value)), (4, .str (((([v1, (IntKind.wrap .u8 (a0.f_Key.length : Int))] : List Int).map toU8) ++ a0.f_Key) ++ a0.f_Value))] _ _
  refine Exists.intro (([(IntKind.wrap .u8 (W (((((([v1, (IntKind.wrap .u8 (a0.f_Key.length : Int))] : List Int).map toU8) ++ a0.f_Key) ++ a0.f_Value).length : Int).tdiv 256))), (IntKind.wrap .u8 (((((([v1, (IntKind.wrap .u8 (a0.f_Key.length : Int))] : List Int).map toU8) ++ a0.f_Key) ++ a0.f_Value).length : Int).tmod 256))] : List Int).map toU8) (And.intro (b2s_enc ([(IntKind.wrap .u8 (W (((((([v1, (IntKind.wrap .u8 (a0.f_Key.length : Int))] : List Int).map toU8) ++ a0.f_Key) ++ a0.f_Value).length : Int).tdiv 256))), (IntKind.wrap .u8 (((((([v1, (IntKind.wrap .u8 (a0.f_Key.length : Int))] : List Int).map toU8) ++ a0.f_Key) ++ a0.f_Value).length : Int).tmod 256))] : List Int)) (And.intro (b2s_all ([(IntKind.wrap .u8 (W (((((([v1, (IntKind.wrap .u8 (a0.f_Key.length : Int))] : List Int).map toU8) ++ a0.f_Key) ++ a0.f_Value).length : Int).tdiv 256))), (IntKind.wrap .u8 (((((([v1, (IntKind.wrap .u8 (a0.f_Key.length : Int))] : List Int).map toU8) ++ a0.f_Key) ++ a0.f_Value).length : Int).tmod 256))] : List Int)) ?_))
  refine LWp.sim (e := [(4, .str (((([v1, (IntKind.wrap .u8 (a0.f_Key.length : Int))] : List Int).map toU8) ++ a0.f_Key) ++ a0.f_Value)), (5, .str (([(IntKind.wrap .u8 (W (((((([v1, (IntKind.wrap .u8 (a0.f_Key.length : Int))] : List Int).map toU8) ++ a0.f_Key) ++ a0.f_Value).length : Int).tdiv 256))), (IntKind.wrap .u8 (((((([v1, (IntKind.wrap .u8 (a0.f_Key.length : Int))] : List Int).map toU8) ++ a0.f_Key) ++ a0.f_Value).length : Int).tmod 256))] : List Int).map toU8))]) (L := []) (n := 0) ?_ ?_
  · exact simI (M := []) rfl (And.intro (Vw.same _ rfl) (And.intro (Vw.same _ rfl) trivial)) trivial
  refine seqI ?_
  refine regI ?_
  obtain ⟨h4, h⟩ := ite_some h
  refine And.intro h4 ?_
  obtain ⟨v2, h5, h⟩ := bind_some h
  refine PFn.call (f24_ok h5) (And.intro (Vw.same _ rfl) trivial) ?_
  show yops _ _ _ [(35, .int .u32 v2), (34, .str ((([(IntKind.wrap .u8 (W (((((([v1, (IntKind.wrap .u8 (a0.f_Key.length : Int))] : List Int).map toU8) ++ a0.f_Key) ++ a0.f_Value).length : Int).tdiv 256))), (IntKind.wrap .u8 (((((([v1, (IntKind.wrap .u8 (a0.f_Key.length : Int))] : List Int).map toU8) ++ a0.f_Key) ++ a0.f_Value).length : Int).tmod 256))] : List Int).map toU8) ++ (((([v1, (IntKind.wrap .u8 (a0.f_Key.length : Int))] : List Int).map toU8) ++ a0.f_Key) ++ a0.f_Value))), (33, .str (((([v1, (IntKind.wrap .u8 (a0.f_Key.length : Int))] : List Int).map toU8) ++ a0.f_Key) ++ a0.f_Value)), (32, .str (([(IntKind.wrap .u8 (W (((((([v1, (IntKind.wrap .u8 (a0.f_Key.length : Int))] : List Int).map toU8) ++ a0.f_Key) ++ a0.f_Value).length : Int).tdiv 256))), (IntKind.wrap .u8 (((((([v1, (IntKind.wrap .u8 (a0.f_Key.length : Int))] : List Int).map toU8) ++ a0.f_Key) ++ a0.f_Value).length : Int).tmod 256))] : List Int).map toU8)), (31, .str (([(IntKind.wrap .u8 (W (((((([v1, (IntKind.wrap .u8 (a0.f_Key.length : Int))] : List Int).map toU8) ++ a0.f_Key) ++ a0.f_Value).length : Int).tdiv 256))), (IntKind.wrap .u8 (((((([v1, (IntKind.wrap .u8 (a0.f_Key.length : Int))] : List Int).map toU8) ++ a0.f_Key) ++ a0.f_Value).length : Int).tmod 256))] : List Int).map toU8)), (4, .str (((([v1, (IntKind.wrap .u8 (a0.f_Key.length : Int))] : List Int).map toU8) ++ a0.f_Key) ++ a0.f_Value)), (5, .str (([(IntKind.wrap .u8 (W (((((([v1, (IntKind.wrap .u8 (a0.f_Key.length : Int))] : List Int).map toU8) ++ a0.f_Key) ++ a0.f_Value).length : Int).tdiv 256))), (IntKind.wrap .u8 (((((([v1, (IntKind.wrap .u8 (a0.f_Key.length : Int))] : List Int).map toU8) ++ a0.f_Key) ++ a0.f_Value).length : Int).tmod 256))] : List Int).map toU8))] _ _
  obtain ⟨v3, h6, h⟩ := bind_some h
  refine PFn.call (f23_ok h6) (And.intro (Vw.same _ rfl) trivial) ?_
  obtain ⟨h7, h⟩ := ite_some h
  refine And.intro h7 ?_
  obtain ⟨h8, h⟩ := ite_some h
  refine And.intro h8 ?_
  refine LWp.sim (e := [(2, .str (((([(IntKind.wrap .u8 (W (((((([v1, (IntKind.wrap .u8 (a0.f_Key.length : Int))] : List Int).map toU8) ++ a0.f_Key) ++ a0.f_Value).length : Int).tdiv 256))), (IntKind.wrap .u8 (((((([v1, (IntKind.wrap .u8 (a0.f_Key.length : Int))] : List Int).map toU8) ++ a0.f_Key) ++ a0.f_Value).length : Int).tmod 256))] : List Int).map toU8) ++ v3) ++ (((([v1, (IntKind.wrap .u8 (a0.f_Key.length : Int))] : List Int).map toU8) ++ a0.f_Key) ++ a0.f_Value)))]) (L := []) (n := 0) ?_ ?_
  · exact simI (M := []) rfl (And.intro (Vw.same _ rfl) trivial) trivial
  refine retI ?_
  cases h
  exact And.intro trivial (And.intro rfl (Vw.same _ rfl))

noncomputable def S_glossatorref3_Frame (m : Option Nat) (a0 : G_QRecord) : Option (List UInt8) :=
  if a0.f_Deleted = true then
    S_glossatorref3_Frame_j1 m a0 1
  else
    S_glossatorref3_Frame_j1 m a0 0

theorem f13_start {a0 : G_QRecord} {m : Option Nat} {o : (List UInt8)} (h : S_glossatorref3_Frame m a0 = some o) : LWp Try.prog f13_lay 0 f13_c1 (f13_Q a0 o) (initEnv 0 [.agg [.str a0.f_Key, .str a0.f_Value, .bool a0.f_Deleted]]) [] 0 := by
  unfold S_glossatorref3_Frame at h
  refine seqI ?_
  refine regI ?_
  refine seqI ?_
  refine regI ?_
  refine seqI ?_
  refine seqI ?_
  refine regI ?_
  refine condI (v := a0.f_Deleted) rfl trivial (fun h1 => ?_) (fun h1 => ?_)
  · have h := ite_tt h1 h
    refine regI ?_
    refine LWp.sim ?_ (f13_j1_ok h)
    exact simI (M := [((0, 0), (0, 0))]) rfl (And.intro (Vw.ptr _ _ _ _ rfl) (And.intro (Vw.same _ rfl) trivial)) (And.intro (And.intro rfl (BVw.oneL (And.intro (Vw.same _ rfl) (And.intro (Vw.same _ rfl) (And.intro (Vw.same _ rfl) trivial))))) trivial)
  · have h := ite_ff h1 h
    refine skipI ?_
    refine LWp.sim ?_ (f13_j1_ok h)
    exact simI (M := [((0, 0), (0, 0))]) rfl (And.intro (Vw.ptr _ _ _ _ rfl) (And.intro (Vw.same _ rfl) trivial)) (And.intro (And.intro rfl (BVw.oneL (And.intro (Vw.same _ rfl) (And.intro (Vw.same _ rfl) (And.intro (Vw.same _ rfl) trivial))))) trivial)

theorem f13_ok {a0 : G_QRecord} {m : Option Nat} {o : (List UInt8)} (h : S_glossatorref3_Frame m a0 = some o) : PFn Try.prog 13 [.agg [.str a0.f_Key, .str a0.f_Value, .bool a0.f_Deleted]] (.str o) := PFn.ofFnW (L := f13_L) f13_low f13_fok (Nat.le_of_ble_eq_true rfl) rfl (f13_start h)

def f4_c1 : LCode := (.seq (.region [⟨some 114, .bin .lss (.t 113) (.t 112), none⟩])
 (.seq (.cond (.t 114)
  .skip
  (.exit 0))
 (.seq (.block 1
  (.seq (.region [⟨some 115, .iaddr 3 (.t 111) (.t 113), none⟩,
    ⟨some 116, .load true 3 (.t 115), none⟩,
    ⟨some 20, .alloc [(.str []), (.str []), (.bool false)], none⟩,
    ⟨none, .store 3 (.t 20) (.t 116), none⟩])
  (.region [⟨some 117, .mv (.t 18), none⟩,
    ⟨some 118, .load true 3 (.t 20), none⟩,
    ⟨some 119, .call 13 [(.t 118)], none⟩,
    ⟨some 120, .bin .add (.t 117) (.t 119), none⟩,
    ⟨some 18, .mv (.t 120), none⟩])))
 (.region [⟨some 121, .bin .add (.t 113) (.c (.int .i64 1)), none⟩,
   ⟨some 113, .mv (.t 121), none⟩]))))
def f4_c0 : LCode := (.seq (.region [⟨some 122, .call 5 [], none⟩,
   ⟨some 123, .mv (.t 122), none⟩,
   ⟨some 124, .mv (.t 8), some (123, true)⟩,
   ⟨some 125, .mv (.t 11), some (123, true)⟩,
   ⟨some 126, .call 6 [(.t 124), (.t 125)], some (123, true)⟩,
   ⟨some 127, .pick (.t 123) (.t 126) (.c (.bool false)), none⟩,
   ⟨some 128, .mv (.t 127), none⟩,
   ⟨some 129, .mv (.t 9), some (128, true)⟩,
   ⟨some 130, .mv (.t 12), some (128, true)⟩,
   ⟨some 131, .bin .eql (.t 129) (.t 130), some (128, true)⟩,
   ⟨some 132, .pick (.t 128) (.t 131) (.c (.bool false)), none⟩,
   ⟨some 133, .mv (.t 132), none⟩,
   ⟨some 134, .mv (.t 17), some (133, true)⟩,
   ⟨some 135, .bin .eql (.t 134) (.c (.int .i64 0)), some (133, true)⟩,
   ⟨some 136, .pick (.t 133) (.t 135) (.c (.bool false)), none⟩,
   ⟨some 137, .mv (.t 136), none⟩,
   ⟨some 138, .mv (.t 16), some (137, true)⟩,
   ⟨some 139, .mv (.t 18), some (137, true)⟩,
   ⟨some 140, .bin .eql (.t 138) (.t 139), some (137, true)⟩,
   ⟨some 141, .pick (.t 137) (.t 140) (.c (.bool false)), none⟩,
   ⟨some 2, .mv (.t 141), none⟩])
 .ret)
def f4_c2 : LCode := (.seq (.region [⟨some 2, .mv (.c (.bool false)), none⟩])
 (.seq (.seq (.region [⟨some 21, .call 5 [], none⟩,
   ⟨some 22, .un .not (.t 21), none⟩])
 (.cond (.t 22)
  (.seq (.region [⟨some 2, .mv (.c (.bool false)), none⟩])
  .ret)
  .skip))
 (.seq (.seq (.region [⟨some 23, .mv (.t 0), none⟩,
   ⟨some 24, .len true (.t 23), none⟩,
   ⟨some 25, .bin .gtr (.t 24) (.c (.int .i64 40000)), none⟩])
 (.cond (.t 25)
  (.seq (.region [⟨some 27, .mv (.t 0), none⟩,
    ⟨some 28, .call 9 [(.t 27)], none⟩,
    ⟨some 26, .mv (.t 28), none⟩,
    ⟨some 29, .ext 0 (.t 26), none⟩,
    ⟨some 30, .ext 1 (.t 26), none⟩,
    ⟨some 31, .ext 2 (.t 26), none⟩,
    ⟨some 3, .mv (.t 29), none⟩,
    ⟨some 4, .mv (.t 30), none⟩,
    ⟨some 5, .mv (.t 31), none⟩])
  (.seq (.region [⟨some 33, .mv (.t 0), none⟩,
    ⟨some 34, .call 10 [(.t 33)], none⟩,
    ⟨some 32, .mv (.t 34), none⟩,
    ⟨some 35, .ext 0 (.t 32), none⟩,
    ⟨some 36, .ext 1 (.t 32), none⟩,
    ⟨some 6, .mv (.t 35), none⟩,
    ⟨some 7, .mv (.t 36), none⟩])
  (.seq (.region [⟨some 37, .call 5 [], none⟩,
    ⟨some 38, .mv (.t 37), none⟩,
    ⟨some 39, .mv (.t 5), some (38, true)⟩,
    ⟨some 40, .bin .eql (.t 39) (.c (.int .i64 2)), some (38, true)⟩,
    ⟨some 41, .pick (.t 38) (.t 40) (.c (.bool false)), none⟩,
    ⟨some 42, .mv (.t 41), none⟩,
    ⟨some 43, .mv (.t 7), some (42, true)⟩,
    ⟨some 44, .bin .eql (.t 43) (.c (.int .i64 2)), some (42, true)⟩,
    ⟨some 45, .pick (.t 42) (.t 44) (.c (.bool false)), none⟩,
    ⟨some 2, .mv (.t 45), none⟩])
  .ret)))
  .skip))
 (.seq (.region [⟨some 46, .mv (.t 0), none⟩,
   ⟨some 47, .mv (.t 0), none⟩,
   ⟨some 48, .len true (.t 47), none⟩,
   ⟨some 49, .mnx false [(.t 48), (.c (.int .i64 3000))], none⟩,
   ⟨some 50, .slStr (.t 46) none (some (.t 49)), none⟩,
   ⟨some 0, .mv (.t 50), none⟩])
 (.seq (.region [⟨some 52, .mv (.t 0), none⟩,
   ⟨some 53, .call 9 [(.t 52)], none⟩,
   ⟨some 51, .mv (.t 53), none⟩,
   ⟨some 54, .ext 0 (.t 51), none⟩,
   ⟨some 55, .ext 1 (.t 51), none⟩,
   ⟨some 56, .ext 2 (.t 51), none⟩,
   ⟨some 8, .mv (.t 54), none⟩,
   ⟨some 9, .mv (.t 55), none⟩,
   ⟨some 10, .mv (.t 56), none⟩])
 (.seq (.region [⟨some 58, .mv (.t 0), none⟩,
   ⟨some 59, .call 11 [(.t 58)], none⟩,
   ⟨some 57, .mv (.t 59), none⟩,
   ⟨some 60, .ext 0 (.t 57), none⟩,
   ⟨some 61, .ext 1 (.t 57), none⟩,
   ⟨some 62, .ext 2 (.t 57), none⟩,
   ⟨some 11, .mv (.t 60), none⟩,
   ⟨some 12, .mv (.t 61), none⟩,
   ⟨some 13, .mv (.t 62), none⟩])
 (.seq (.region [⟨some 64, .mv (.t 0), none⟩,
   ⟨some 65, .call 12 [(.t 64)], none⟩,
   ⟨some 63, .mv (.t 65), none⟩,
   ⟨some 66, .ext 0 (.t 63), none⟩,
   ⟨some 67, .ext 1 (.t 63), none⟩,
   ⟨some 14, .mv (.t 66), none⟩,
   ⟨some 15, .mv (.t 67), none⟩])
 (.seq (.seq (.region [⟨some 68, .mv (.t 14), none⟩,
   ⟨some 69, .mv (.t 0), none⟩,
   ⟨some 70, .mv (.t 12), none⟩,
   ⟨some 71, .slStr (.t 69) none (some (.t 70)), none⟩,
   ⟨some 72, .bin .neq (.t 68) (.t 71), none⟩,
   ⟨some 73, .mv (.t 72), none⟩,
   ⟨some 74, .mv (.t 15), some (73, false)⟩,
   ⟨some 75, .mv (.t 11), some (73, false)⟩,
   ⟨some 76, .call 6 [(.t 74), (.t 75)], some (73, false)⟩,
   ⟨some 77, .un .not (.t 76), some (73, false)⟩,
   ⟨some 78, .pick (.t 73) (.c (.bool true)) (.t 77), none⟩,
   ⟨some 79, .mv (.t 78), none⟩,
   ⟨some 80, .mv (.t 10), some (79, false)⟩,
   ⟨some 81, .mv (.t 13), some (79, false)⟩,
   ⟨some 82, .bin .neq (.t 80) (.t 81), some (79, false)⟩,
   ⟨some 83, .pick (.t 79) (.c (.bool true)) (.t 82), none⟩])
 (.cond (.t 83)
  (.seq (.region [⟨some 2, .mv (.c (.bool false)), none⟩])
  .ret)
  .skip))
 (.seq (.region [⟨some 85, .mv (.t 0), none⟩,
   ⟨some 86, .call 10 [(.t 85)], none⟩,
   ⟨some 84, .mv (.t 86), none⟩,
   ⟨some 87, .ext 0 (.t 84), none⟩,
   ⟨some 88, .ext 1 (.t 84), none⟩,
   ⟨some 16, .mv (.t 87), none⟩,
   ⟨some 17, .mv (.t 88), none⟩])
 (.seq (.seq (.region [⟨some 89, .mv (.t 13), none⟩,
   ⟨some 90, .bin .neq (.t 89) (.c (.int .i64 0)), none⟩])
 (.cond (.t 90)
  (.seq (.region [⟨some 91, .call 5 [], none⟩,
    ⟨some 92, .mv (.t 91), none⟩,
    ⟨some 93, .mv (.t 8), some (92, true)⟩,
    ⟨some 94, .len false (.t 93), some (92, true)⟩,
    ⟨some 95, .bin .eql (.t 94) (.c (.int .i64 0)), some (92, true)⟩,
    ⟨some 96, .pick (.t 92) (.t 95) (.c (.bool false)), none⟩,
    ⟨some 97, .mv (.t 96), none⟩,
    ⟨some 98, .mv (.t 9), some (97, true)⟩,
    ⟨some 99, .bin .eql (.t 98) (.c (.int .i64 0)), some (97, true)⟩,
    ⟨some 100, .pick (.t 97) (.t 99) (.c (.bool false)), none⟩,
    ⟨some 101, .mv (.t 100), none⟩,
    ⟨some 102, .mv (.t 17), some (101, true)⟩,
    ⟨some 103, .mv (.t 13), some (101, true)⟩,
    ⟨some 104, .bin .eql (.t 102) (.t 103), some (101, true)⟩,
    ⟨some 105, .pick (.t 101) (.t 104) (.c (.bool false)), none⟩,
    ⟨some 106, .mv (.t 105), none⟩,
    ⟨some 107, .mv (.t 16), some (106, true)⟩,
    ⟨some 108, .bin .eql (.t 107) (.c (.str [])), some (106, true)⟩,
    ⟨some 109, .pick (.t 106) (.t 108) (.c (.bool false)), none⟩,
    ⟨some 2, .mv (.t 109), none⟩])
  .ret)
  .skip))
 (.seq (.region [⟨some 18, .mv (.c (.str [])), none⟩])
 (.seq (.seq (.region [⟨some 110, .mv (.t 11), none⟩,
   ⟨some 111, .call 8 [(.t 110)], none⟩,
   ⟨some 112, .len false (.t 111), none⟩,
   ⟨some 113, .mv (.c (.int .i64 0)), none⟩])
 (.block 0
  (.loop
   f4_c1)))
 f4_c0))))))))))))
def f4_lay : Lay := ⟨142, [], false⟩
def f4_res : List LRes := [.t 2]
def f4_L : LFn := ⟨1, f4_lay, f4_c2, f4_res⟩
theorem f4_low : lowFn Try.prog [] 4 = some f4_L := by kernel_rfl
theorem f4_fok : FnOk Try.prog 4 := ⟨_, Try.func4, rfl, rfl⟩
def f4_Q (a0 : List UInt8) (o : Bool) : Exit → Env → AHeap → Nat → Prop := FinK f4_res (PureEnd (.bool o))

def f4_L1_env (v5 : (List G_QRecord) × Int × Int) (v6 : (List G_QRecord) × Int × Int) (v9 : (List UInt8) × Int) (v11 : (List G_QRecord)) (s : ((List UInt8) × Int)) : Env := [(8, .isl 3 (v5.1.map e_QRecord) false), (9, .int .i64 v5.2.1), (11, .isl 3 (v6.1.map e_QRecord) false), (12, .int .i64 v6.2.1), (16, .str v9.1), (17, .int .i64 v9.2), (18, .str s.1), (111, .isl 3 (v11.map e_QRecord) false), (112, .int .i64 ((v11.map e_QRecord).length : Int)), (113, .int .i64 s.2)]
def f4_L1_hp (v5 : (List G_QRecord) × Int × Int) (v6 : (List G_QRecord) × Int × Int) (v9 : (List UInt8) × Int) (v11 : (List G_QRecord)) (s : ((List UInt8) × Int)) : AHeap := []
def f4_L1_Q (a0 : List UInt8) (o : Bool) : Exit → Env → AHeap → Nat → Prop := (QBlock 0 (QSeq Try.prog f4_lay 0 f4_c0 (f4_Q a0 o)))

noncomputable def S_glossatorlaw3_JournalRead_j1 (m : Option Nat) (v5 : (List G_QRecord) × Int × Int) (v6 : (List G_QRecord) × Int × Int) (v9 : (List UInt8) × Int) (v13 : List UInt8) : Option Bool :=
  (S_glossatorlaw3_journalExample (some 4096)).bind fun v17 =>
  (if (v17 == true) = true then S_glossatorref3_Equal_api_QRecord m v5.1 v6.1 else some default).bind fun v18 =>
  some ((((v17 && v18) && (v5.2.1 == v6.2.1)) && (v9.2 == 0)) && (v9.1 == v13))

noncomputable def S_glossatorlaw3_JournalRead_b1 (m : Option Nat) (v5 : (List G_QRecord) × Int × Int) (v6 : (List G_QRecord) × Int × Int) (v9 : (List UInt8) × Int) (v11 : (List G_QRecord)) (v13 : List UInt8) (v14 : Int) : Option (((List UInt8) × Int) ⊕ Bool) :=
  if (decide (v14 < ((v11.map e_QRecord).length : Int))) = true then
    if (0 : Int) ≤ v14 ∧ v14 < ((v11.map e_QRecord).length : Int) then
    (S_glossatorref3_Frame m (G_QRecord.mk ((v11.getD v14.toNat default).f_Key) ((v11.getD v14.toNat default).f_Value) ((v11.getD v14.toNat default).f_Deleted))).bind fun v16 =>
    if (((v13.length + v16.length : Nat) : Int) ≤ 9223372036854775807) then
    some (.inl ((v13 ++ v16), (W (v14 + 1))))
    else none
    else none
  else
    Option.map Sum.inr (
      S_glossatorlaw3_JournalRead_j1 m v5 v6 v9 v13)

noncomputable def S_glossatorlaw3_JournalRead_l1 (m : Option Nat) (v5 : (List G_QRecord) × Int × Int) (v6 : (List G_QRecord) × Int × Int) (v9 : (List UInt8) × Int) (v11 : (List G_QRecord)) (v13 : List UInt8) (v14 : Int) : Option Bool := loopM m (fun (s : ((List UInt8) × Int)) => S_glossatorlaw3_JournalRead_b1 m v5 v6 v9 v11 s.1 s.2) (v13, v14)

theorem f4_j1_ok {a0 : List UInt8} {v5 : (List G_QRecord) × Int × Int} {v6 : (List G_QRecord) × Int × Int} {v9 : (List UInt8) × Int} {v13 : List UInt8} {m : Option Nat} {o : Bool} (h : S_glossatorlaw3_JournalRead_j1 m v5 v6 v9 v13 = some o) :
    LWp Try.prog f4_lay 0 f4_c0 (f4_Q a0 o) [(8, .isl 3 (v5.1.map e_QRecord) false), (9, .int .i64 v5.2.1), (11, .isl 3 (v6.1.map e_QRecord) false), (12, .int .i64 v6.2.1), (16, .str v9.1), (17, .int .i64 v9.2), (18, .str v13)] [] 0 := by
  unfold S_glossatorlaw3_JournalRead_j1 at h
  refine seqI ?_
  refine regI ?_
  obtain ⟨v17, h30, h⟩ := bind_some h
  refine PFn.call (f5_ok h30) trivial ?_
  obtain ⟨v18, h31, h⟩ := bind_some h
  refine Or.inl (Exists.intro (.bool v18) (And.intro (fun hp => And.intro (And.intro hp hp) (PFn.call (f6_ok (ite_tt hp h31)) (And.intro (Vw.same _ rfl) (And.intro (Vw.same _ rfl) trivial)) (And.intro rfl (And.intro rfl rfl)))) ?_))
  refine And.intro (fun hc => (bqt hc)) ?_
  show yops _ _ _ [(127, .bool (v17 && v18)), (126, .cnd (v17 == true) (.bool v18)), (125, .cnd (v17 == true) (.isl 3 (v6.1.map e_QRecord) false)), (124, .cnd (v17 == true) (.isl 3 (v5.1.map e_QRecord) false)), (123, .bool v17), (122, .bool v17), (8, .isl 3 (v5.1.map e_QRecord) false), (9, .int .i64 v5.2.1), (11, .isl 3 (v6.1.map e_QRecord) false), (12, .int .i64 v6.2.1), (16, .str v9.1), (17, .int .i64 v9.2), (18, .str v13)] _ _
  refine And.intro (fun hp => (And.intro hp hp)) ?_
  refine And.intro (fun hc => (bqt hc)) ?_
  show yops _ _ _ [(132, .bool ((v17 && v18) && (v5.2.1 == v6.2.1))), (131, .cnd ((v17 && v18) == true) (.bool (v5.2.1 == v6.2.1))), (130, .cnd ((v17 && v18) == true) (.int .i64 v6.2.1)), (129, .cnd ((v17 && v18) == true) (.int .i64 v5.2.1)), (128, .bool (v17 && v18)), (127, .bool (v17 && v18)), (126, .cnd (v17 == true) (.bool v18)), (125, .cnd (v17 == true) (.isl 3 (v6.1.map e_QRecord) false)), (124, .cnd (v17 == true) (.isl 3 (v5.1.map e_QRecord) false)), (123, .bool v17), (122, .bool v17), (8, .isl 3 (v5.1.map e_QRecord) false), (9, .int .i64 v5.2.1), (11, .isl 3 (v6.1.map e_QRecord) false), (12, .int .i64 v6.2.1), (16, .str v9.1), (17, .int .i64 v9.2), (18, .str v13)] _ _
  refine And.intro (fun hp => hp) ?_
  refine And.intro (fun hc => (bqt hc)) ?_
  refine And.intro (fun hp => (And.intro hp hp)) ?_
  show yops _ _ _ [(140, .cnd ((((v17 && v18) && (v5.2.1 == v6.2.1)) && (v9.2 == 0)) == true) (.bool (v9.1 == v13))), (139, .cnd ((((v17 && v18) && (v5.2.1 == v6.2.1)) && (v9.2 == 0)) == true) (.str v13)), (138, .cnd ((((v17 && v18) && (v5.2.1 == v6.2.1)) && (v9.2 == 0)) == true) (.str v9.1)), (137, .bool (((v17 && v18) && (v5.2.1 == v6.2.1)) && (v9.2 == 0))), (136, .bool (((v17 && v18) && (v5.2.1 == v6.2.1)) && (v9.2 == 0))), (135, .cnd (((v17 && v18) && (v5.2.1 == v6.2.1)) == true) (.bool (v9.2 == 0))), (134, .cnd (((v17 && v18) && (v5.2.1 == v6.2.1)) == true) (.int .i64 v9.2)), (133, .bool ((v17 && v18) && (v5.2.1 == v6.2.1))), (132, .bool ((v17 && v18) && (v5.2.1 == v6.2.1))), (131, .cnd ((v17 && v18) == true) (.bool (v5.2.1 == v6.2.1))), (130, .cnd ((v17 && v18) == true) (.int .i64 v6.2.1)), (129, .cnd ((v17 && v18) == true) (.int .i64 v5.2.1)), (128, .bool (v17 && v18)), (127, .bool (v17 && v18)), (126, .cnd (v17 == true) (.bool v18)), (125, .cnd (v17 == true) (.isl 3 (v6.1.map e_QRecord) false)), (124, .cnd (v17 == true) (.isl 3 (v5.1.map e_QRecord) false)), (123, .bool v17), (122, .bool v17), (8, .isl 3 (v5.1.map e_QRecord) false), (9, .int .i64 v5.2.1), (11, .isl 3 (v6.1.map e_QRecord) false), (12, .int .i64 v6.2.1), (16, .str v9.1), (17, .int .i64 v9.2), (18, .str v13)] _ _
  refine And.intro (fun hc => (bqt hc)) ?_
  refine LWp.sim (e := [(2, .bool ((((v17 && v18) && (v5.2.1 == v6.2.1)) && (v9.2 == 0)) && (v9.1 == v13)))]) (L := []) (n := 0) ?_ ?_
  · exact simI (M := []) rfl (And.intro (Vw.same _ rfl) trivial) trivial
  refine retI ?_
  cases h
  exact And.intro trivial (And.intro rfl (Vw.same _ rfl))

theorem f4_L1_bok {a0 : List UInt8} {v5 : (List G_QRecord) × Int × Int} {v6 : (List G_QRecord) × Int × Int} {v9 : (List UInt8) × Int} {v11 : (List G_QRecord)} {v13 : List UInt8} {v14 : Int} {m : Option Nat} {o : ((List UInt8) × Int) ⊕ Bool} (h : S_glossatorlaw3_JournalRead_b1 m v5 v6 v9 v11 v13 v14 = some o) :
    LWp Try.prog f4_lay 0 f4_c1 (BodyQ 0 0 (f4_L1_env v5 v6 v9 v11) (f4_L1_hp v5 v6 v9 v11) (f4_L1_Q a0) o) [(8, .isl 3 (v5.1.map e_QRecord) false), (9, .int .i64 v5.2.1), (11, .isl 3 (v6.1.map e_QRecord) false), (12, .int .i64 v6.2.1), (16, .str v9.1), (17, .int .i64 v9.2), (18, .str v13), (111, .isl 3 (v11.map e_QRecord) false), (112, .int .i64 ((v11.map e_QRecord).length : Int)), (113, .int .i64 v14)] [] 0 := by
  unfold S_glossatorlaw3_JournalRead_b1 at h
  refine seqI ?_
  refine regI ?_
  refine seqI ?_
  refine condI (v := (decide (v14 < ((v11.map e_QRecord).length : Int)))) rfl trivial (fun h26 => ?_) (fun h26 => ?_)
  · have h := ite_tt h26 h
    refine skipI ?_
    refine seqI ?_
    refine blockI ?_
    refine seqI ?_
    refine regI ?_
    obtain ⟨h27, h⟩ := ite_some h
    refine And.intro h27 ?_
    refine Exists.intro (e_QRecord (v11.getD v14.toNat default)) (And.intro (getD_enc e_QRecord _ _ (idx_ltL e_QRecord h27)) (And.intro (And.intro (idx_lt h27) (Nat.le_of_ble_eq_true rfl)) ?_))
    refine regI ?_
    obtain ⟨v16, h28, h⟩ := bind_some h
    refine PFn.call (f13_ok h28) (And.intro (Vw.same _ rfl) trivial) ?_
    show yops _ _ _ [(119, .str v16), (118, .agg [.str ((v11.getD v14.toNat default).f_Key), .str ((v11.getD v14.toNat default).f_Value), .bool ((v11.getD v14.toNat default).f_Deleted)]), (117, .str v13), (20, .ptr (0, 0) 0 0), (116, .agg [.str ((v11.getD v14.toNat default).f_Key), .str ((v11.getD v14.toNat default).f_Value), .bool ((v11.getD v14.toNat default).f_Deleted)]), (115, .iptr 3 (v11.map e_QRecord) v14.toNat 0), (114, .bool (decide (v14 < ((v11.map e_QRecord).length : Int)))), (8, .isl 3 (v5.1.map e_QRecord) false), (9, .int .i64 v5.2.1), (11, .isl 3 (v6.1.map e_QRecord) false), (12, .int .i64 v6.2.1), (16, .str v9.1), (17, .int .i64 v9.2), (18, .str v13), (111, .isl 3 (v11.map e_QRecord) false), (112, .int .i64 ((v11.map e_QRecord).length : Int)), (113, .int .i64 v14)] _ _
    obtain ⟨h29, h⟩ := ite_some h
    refine And.intro h29 ?_
    refine LWp.sim (e := [(8, .isl 3 (v5.1.map e_QRecord) false), (9, .int .i64 v5.2.1), (11, .isl 3 (v6.1.map e_QRecord) false), (12, .int .i64 v6.2.1), (16, .str v9.1), (17, .int .i64 v9.2), (18, .str (v13 ++ v16)), (111, .isl 3 (v11.map e_QRecord) false), (112, .int .i64 ((v11.map e_QRecord).length : Int)), (113, .int .i64 v14)]) (L := []) (n := 0) ?_ ?_
    · exact simI (M := []) rfl (And.intro (Vw.same _ rfl) (And.intro (Vw.same _ rfl) (And.intro (Vw.same _ rfl) (And.intro (Vw.same _ rfl) (And.intro (Vw.same _ rfl) (And.intro (Vw.same _ rfl) (And.intro (Vw.same _ rfl) (And.intro (Vw.same _ rfl) (And.intro (Vw.same _ rfl) (And.intro (Vw.same _ rfl) trivial)))))))))) trivial
    refine regI ?_
    cases h
    exact And.intro rfl (simI (M := []) rfl (And.intro (Vw.same _ rfl) (And.intro (Vw.same _ rfl) (And.intro (Vw.same _ rfl) (And.intro (Vw.same _ rfl) (And.intro (Vw.same _ rfl) (And.intro (Vw.same _ rfl) (And.intro (Vw.same _ rfl) (And.intro (Vw.same _ rfl) (And.intro (Vw.same _ rfl) (And.intro (Vw.same _ rfl) trivial)))))))))) trivial)
  · have h := ite_ff h26 h
    refine exitI ?_
    obtain ⟨o, hq, rfl⟩ := Option.map_eq_some_iff.1 h
    replace h := hq; clear hq
    refine And.intro nofun ?_
    refine LWp.sim ?_ (f4_j1_ok h)
    exact simI (M := []) rfl (And.intro (Vw.same _ rfl) (And.intro (Vw.same _ rfl) (And.intro (Vw.same _ rfl) (And.intro (Vw.same _ rfl) (And.intro (Vw.same _ rfl) (And.intro (Vw.same _ rfl) (And.intro (Vw.same _ rfl) trivial))))))) trivial

theorem f4_L1_ok {a0 : List UInt8} {v5 : (List G_QRecord) × Int × Int} {v6 : (List G_QRecord) × Int × Int} {v9 : (List UInt8) × Int} {v11 : (List G_QRecord)} {v13 : List UInt8} {v14 : Int} {m : Option Nat} {o : Bool} (h : S_glossatorlaw3_JournalRead_l1 m v5 v6 v9 v11 v13 v14 = some o) :
    LWp Try.prog f4_lay 0 (.loop f4_c1) (QBlock 0 (QSeq Try.prog f4_lay 0 f4_c0 (f4_Q a0 o))) [(8, .isl 3 (v5.1.map e_QRecord) false), (9, .int .i64 v5.2.1), (11, .isl 3 (v6.1.map e_QRecord) false), (12, .int .i64 v6.2.1), (16, .str v9.1), (17, .int .i64 v9.2), (18, .str v13), (111, .isl 3 (v11.map e_QRecord) false), (112, .int .i64 ((v11.map e_QRecord).length : Int)), (113, .int .i64 v14)] [] 0 :=
  LWp_loopM (m := m) (s := ((v13, v14) : ((List UInt8) × Int))) (r := o) (fun (s : ((List UInt8) × Int)) => S_glossatorlaw3_JournalRead_b1 m v5 v6 v9 v11 s.1 s.2) (f4_L1_env v5 v6 v9 v11) (f4_L1_hp v5 v6 v9 v11) (f4_L1_Q a0) (fun s o h => f4_L1_bok h) h

noncomputable def S_glossatorlaw3_JournalRead (m : Option Nat) (a0 : List UInt8) : Option Bool :=
  (S_glossatorlaw3_journalExample (some 4096)).bind fun v1 =>
  if (!v1) = true then
    some false
  else
    if (decide ((a0.length : Int) > 40000)) = true then
      (S_journal_Read m a0).bind fun v2 =>
      (S_journal_Compact m a0).bind fun v3 =>
      (S_glossatorlaw3_journalExample (some 4096)).bind fun v4 =>
      some ((v4 && (v2.2.2 == 2)) && (v3.2 == 2))
    else
      if (0 : Int) ≤ (if 3000 < (a0.length : Int) then 3000 else (a0.length : Int)) ∧ (if 3000 < (a0.length : Int) then 3000 else (a0.length : Int)) ≤ (a0.length : Int) then
      (S_journal_Read m ((a0.take (if 3000 < (a0.length : Int) then 3000 else (a0.length : Int)).toNat).drop 0)).bind fun v5 =>
      (S_glossatorref3_ReadJournal m ((a0.take (if 3000 < (a0.length : Int) then 3000 else (a0.length : Int)).toNat).drop 0)).bind fun v6 =>
      (S_journal_Recover m ((a0.take (if 3000 < (a0.length : Int) then 3000 else (a0.length : Int)).toNat).drop 0)).bind fun v7 =>
      if (0 : Int) ≤ v6.2.1 ∧ v6.2.1 ≤ (((a0.take (if 3000 < (a0.length : Int) then 3000 else (a0.length : Int)).toNat).drop 0).length : Int) then
      (if ((!(v7.1 == ((((a0.take (if 3000 < (a0.length : Int) then 3000 else (a0.length : Int)).toNat).drop 0).take v6.2.1.toNat).drop 0))) == false) = true then S_glossatorref3_Equal_api_QRecord m v7.2 v6.1 else some default).bind fun v8 =>
      if (((!(v7.1 == ((((a0.take (if 3000 < (a0.length : Int) then 3000 else (a0.length : Int)).toNat).drop 0).take v6.2.1.toNat).drop 0))) || (!v8)) || (v5.2.2 != v6.2.2)) = true then
        some false
      else
        (S_journal_Compact m ((a0.take (if 3000 < (a0.length : Int) then 3000 else (a0.length : Int)).toNat).drop 0)).bind fun v9 =>
        if (v6.2.2 != 0) = true then
          (S_glossatorlaw3_journalExample (some 4096)).bind fun v10 =>
          some ((((v10 && (((v5.1.map e_QRecord).length : Int) == 0)) && (v5.2.1 == 0)) && (v9.2 == v6.2.2)) && (v9.1 == ([] : List UInt8)))
        else
          (S_glossatorref3_State m v6.1).bind fun v11 =>
          S_glossatorlaw3_JournalRead_l1 m v5 v6 v9 v11 ([] : List UInt8) 0
      else none
      else none

theorem f4_start {a0 : List UInt8} {m : Option Nat} {o : Bool} (h : S_glossatorlaw3_JournalRead m a0 = some o) : LWp Try.prog f4_lay 0 f4_c2 (f4_Q a0 o) (initEnv 0 [.str a0]) [] 0 := by
  unfold S_glossatorlaw3_JournalRead at h
  refine seqI ?_
  refine regI ?_
  refine seqI ?_
  refine seqI ?_
  refine regI ?_
  obtain ⟨v1, h1, h⟩ := bind_some h
  refine PFn.call (f5_ok h1) trivial ?_
  refine condI (v := (!v1)) rfl trivial (fun h2 => ?_) (fun h2 => ?_)
  · have h := ite_tt h2 h
    refine seqI ?_
    refine regI ?_
    refine retI ?_
    cases h
    exact And.intro trivial (And.intro rfl (Vw.same _ rfl))
  · have h := ite_ff h2 h
    refine skipI ?_
    refine seqI ?_
    refine seqI ?_
    refine regI ?_
    refine condI (v := (decide ((a0.length : Int) > 40000))) rfl trivial (fun h3 => ?_) (fun h3 => ?_)
    · have h := ite_tt h3 h
      refine seqI ?_
      refine regI ?_
      obtain ⟨v2, h4, h⟩ := bind_some h
      refine PFn.call (f9_ok h4) (And.intro (Vw.same _ rfl) trivial) ?_
      show yops _ _ _ [(28, .tup [.isl 3 (v2.1.map e_QRecord) false, .int .i64 v2.2.1, .int .i64 v2.2.2]), (27, .str a0), (25, .bool (decide ((a0.length : Int) > 40000))), (24, .int .i64 (a0.length : Int)), (23, .str a0), (22, .bool (!v1)), (21, .bool v1), (2, .bool false), (0, .str a0)] _ _
      refine LWp.sim (e := [(0, .str a0), (5, .int .i64 v2.2.2)]) (L := []) (n := 0) ?_ ?_
      · exact simI (M := []) rfl (And.intro (Vw.same _ rfl) (And.intro (Vw.same _ rfl) trivial)) trivial
      refine seqI ?_
      refine regI ?_
      obtain ⟨v3, h5, h⟩ := bind_some h
      refine PFn.call (f10_ok h5) (And.intro (Vw.same _ rfl) trivial) ?_
      refine seqI ?_
      refine regI ?_
      obtain ⟨v4, h6, h⟩ := bind_some h
      refine PFn.call (f5_ok h6) trivial ?_
      show yops _ _ _ [(37, .bool v4), (7, .int .i64 v3.2), (6, .str v3.1), (36, .int .i64 v3.2), (35, .str v3.1), (32, .tup [.str v3.1, .int .i64 v3.2]), (34, .tup [.str v3.1, .int .i64 v3.2]), (33, .str a0), (0, .str a0), (5, .int .i64 v2.2.2)] _ _
      refine And.intro (fun hp => hp) ?_
      refine And.intro (fun hc => (bqt hc)) ?_
      refine And.intro (fun hp => hp) ?_
      show yops _ _ _ [(44, .cnd ((v4 && (v2.2.2 == 2)) == true) (.bool (v3.2 == 2))), (43, .cnd ((v4 && (v2.2.2 == 2)) == true) (.int .i64 v3.2)), (42, .bool (v4 && (v2.2.2 == 2))), (41, .bool (v4 && (v2.2.2 == 2))), (40, .cnd (v4 == true) (.bool (v2.2.2 == 2))), (39, .cnd (v4 == true) (.int .i64 v2.2.2)), (38, .bool v4), (37, .bool v4), (7, .int .i64 v3.2), (6, .str v3.1), (36, .int .i64 v3.2), (35, .str v3.1), (32, .tup [.str v3.1, .int .i64 v3.2]), (34, .tup [.str v3.1, .int .i64 v3.2]), (33, .str a0), (0, .str a0), (5, .int .i64 v2.2.2)] _ _
      refine And.intro (fun hc => (bqt hc)) ?_
      refine LWp.sim (e := [(2, .bool ((v4 && (v2.2.2 == 2)) && (v3.2 == 2)))]) (L := []) (n := 0) ?_ ?_
      · exact simI (M := []) rfl (And.intro (Vw.same _ rfl) trivial) trivial
      refine retI ?_
      cases h
      exact And.intro trivial (And.intro rfl (Vw.same _ rfl))
    · have h := ite_ff h3 h
      refine skipI ?_
      refine seqI ?_
      refine regI ?_
      obtain ⟨h7, h⟩ := ite_some h
      refine And.intro (And.intro (Int.le_refl _) h7) ?_
      show yops _ _ _ [(50, .str ((a0.take (if 3000 < (a0.length : Int) then 3000 else (a0.length : Int)).toNat).drop 0)), (49, .int .i64 (if 3000 < (a0.length : Int) then 3000 else (a0.length : Int))), (48, .int .i64 (a0.length : Int)), (47, .str a0), (46, .str a0), (25, .bool (decide ((a0.length : Int) > 40000))), (24, .int .i64 (a0.length : Int)), (23, .str a0), (22, .bool (!v1)), (21, .bool v1), (2, .bool false), (0, .str a0)] _ _
      refine LWp.sim (e := [(0, .str ((a0.take (if 3000 < (a0.length : Int) then 3000 else (a0.length : Int)).toNat).drop 0))]) (L := []) (n := 0) ?_ ?_
      · exact simI (M := []) rfl (And.intro (Vw.same _ rfl) trivial) trivial
      refine seqI ?_
      refine regI ?_
      obtain ⟨v5, h8, h⟩ := bind_some h
      refine PFn.call (f9_ok h8) (And.intro (Vw.same _ rfl) trivial) ?_
      refine LWp.sim (e := [(0, .str ((a0.take (if 3000 < (a0.length : Int) then 3000 else (a0.length : Int)).toNat).drop 0)), (8, .isl 3 (v5.1.map e_QRecord) false), (9, .int .i64 v5.2.1), (10, .int .i64 v5.2.2)]) (L := []) (n := 0) ?_ ?_
      · exact simI (M := []) rfl (And.intro (Vw.same _ rfl) (And.intro (Vw.same _ rfl) (And.intro (Vw.same _ rfl) (And.intro (Vw.same _ rfl) trivial)))) trivial
      refine seqI ?_
      refine regI ?_
      obtain ⟨v6, h9, h⟩ := bind_some h
      refine PFn.call (f11_ok h9) (And.intro (Vw.same _ rfl) trivial) ?_
      refine LWp.sim (e := [(0, .str ((a0.take (if 3000 < (a0.length : Int) then 3000 else (a0.length : Int)).toNat).drop 0)), (8, .isl 3 (v5.1.map e_QRecord) false), (9, .int .i64 v5.2.1), (10, .int .i64 v5.2.2), (11, .isl 3 (v6.1.map e_QRecord) false), (12, .int .i64 v6.2.1), (13, .int .i64 v6.2.2)]) (L := []) (n := 0) ?_ ?_
      · exact simI (M := []) rfl (And.intro (Vw.same _ rfl) (And.intro (Vw.same _ rfl) (And.intro (Vw.same _ rfl) (And.intro (Vw.same _ rfl) (And.intro (Vw.same _ rfl) (And.intro (Vw.same _ rfl) (And.intro (Vw.same _ rfl) trivial))))))) trivial
      refine seqI ?_
      refine regI ?_
      obtain ⟨v7, h10, h⟩ := bind_some h
      refine PFn.call (f12_ok h10) (And.intro (Vw.same _ rfl) trivial) ?_
      refine seqI ?_
      refine seqI ?_
      refine regI ?_
      obtain ⟨h11, h⟩ := ite_some h
      refine And.intro (And.intro (Int.le_refl _) h11) ?_
      show yops _ _ _ [(71, .str ((((a0.take (if 3000 < (a0.length : Int) then 3000 else (a0.length : Int)).toNat).drop 0).take v6.2.1.toNat).drop 0)), (70, .int .i64 v6.2.1), (69, .str ((a0.take (if 3000 < (a0.length : Int) then 3000 else (a0.length : Int)).toNat).drop 0)), (68, .str v7.1), (15, .isl 3 (v7.2.map e_QRecord) false), (14, .str v7.1), (67, .isl 3 (v7.2.map e_QRecord) false), (66, .str v7.1), (63, .tup [.str v7.1, .isl 3 (v7.2.map e_QRecord) false]), (65, .tup [.str v7.1, .isl 3 (v7.2.map e_QRecord) false]), (64, .str ((a0.take (if 3000 < (a0.length : Int) then 3000 else (a0.length : Int)).toNat).drop 0)), (0, .str ((a0.take (if 3000 < (a0.length : Int) then 3000 else (a0.length : Int)).toNat).drop 0)), (8, .isl 3 (v5.1.map e_QRecord) false), (9, .int .i64 v5.2.1), (10, .int .i64 v5.2.2), (11, .isl 3 (v6.1.map e_QRecord) false), (12, .int .i64 v6.2.1), (13, .int .i64 v6.2.2)] _ _
      obtain ⟨v8, h12, h⟩ := bind_some h
      refine Or.inl (Exists.intro (.bool v8) (And.intro (fun hp => And.intro (And.intro hp hp) (PFn.call (f6_ok (ite_tt hp h12)) (And.intro (Vw.same _ rfl) (And.intro (Vw.same _ rfl) trivial)) (And.intro rfl (And.intro rfl rfl)))) ?_))
      refine And.intro (fun hp => hp) ?_
      show yops _ _ _ [(77, .cnd ((!(v7.1 == ((((a0.take (if 3000 < (a0.length : Int) then 3000 else (a0.length : Int)).toNat).drop 0).take v6.2.1.toNat).drop 0))) == false) (.bool (!v8))), (76, .cnd ((!(v7.1 == ((((a0.take (if 3000 < (a0.length : Int) then 3000 else (a0.length : Int)).toNat).drop 0).take v6.2.1.toNat).drop 0))) == false) (.bool v8)), (75, .cnd ((!(v7.1 == ((((a0.take (if 3000 < (a0.length : Int) then 3000 else (a0.length : Int)).toNat).drop 0).take v6.2.1.toNat).drop 0))) == false) (.isl 3 (v6.1.map e_QRecord) false)), (74, .cnd ((!(v7.1 == ((((a0.take (if 3000 < (a0.length : Int) then 3000 else (a0.length : Int)).toNat).drop 0).take v6.2.1.toNat).drop 0))) == false) (.isl 3 (v7.2.map e_QRecord) false)), (73, .bool (!(v7.1 == ((((a0.take (if 3000 < (a0.length : Int) then 3000 else (a0.length : Int)).toNat).drop 0).take v6.2.1.toNat).drop 0)))), (72, .bool (!(v7.1 == ((((a0.take (if 3000 < (a0.length : Int) then 3000 else (a0.length : Int)).toNat).drop 0).take v6.2.1.toNat).drop 0)))), (71, .str ((((a0.take (if 3000 < (a0.length : Int) then 3000 else (a0.length : Int)).toNat).drop 0).take v6.2.1.toNat).drop 0)), (70, .int .i64 v6.2.1), (69, .str ((a0.take (if 3000 < (a0.length : Int) then 3000 else (a0.length : Int)).toNat).drop 0)), (68, .str v7.1), (15, .isl 3 (v7.2.map e_QRecord) false), (14, .str v7.1), (67, .isl 3 (v7.2.map e_QRecord) false), (66, .str v7.1), (63, .tup [.str v7.1, .isl 3 (v7.2.map e_QRecord) false]), (65, .tup [.str v7.1, .isl 3 (v7.2.map e_QRecord) false]), (64, .str ((a0.take (if 3000 < (a0.length : Int) then 3000 else (a0.length : Int)).toNat).drop 0)), (0, .str ((a0.take (if 3000 < (a0.length : Int) then 3000 else (a0.length : Int)).toNat).drop 0)), (8, .isl 3 (v5.1.map e_QRecord) false), (9, .int .i64 v5.2.1), (10, .int .i64 v5.2.2), (11, .isl 3 (v6.1.map e_QRecord) false), (12, .int .i64 v6.2.1), (13, .int .i64 v6.2.2)] _ _
      refine And.intro (fun hc => (bqf hc)) ?_
      refine And.intro (fun hp => (And.intro hp hp)) ?_
      show yops _ _ _ [(82, .cnd (((!(v7.1 == ((((a0.take (if 3000 < (a0.length : Int) then 3000 else (a0.length : Int)).toNat).drop 0).take v6.2.1.toNat).drop 0))) || (!v8)) == false) (.bool (v5.2.2 != v6.2.2))), (81, .cnd (((!(v7.1 == ((((a0.take (if 3000 < (a0.length : Int) then 3000 else (a0.length : Int)).toNat).drop 0).take v6.2.1.toNat).drop 0))) || (!v8)) == false) (.int .i64 v6.2.2)), (80, .cnd (((!(v7.1 == ((((a0.take (if 3000 < (a0.length : Int) then 3000 else (a0.length : Int)).toNat).drop 0).take v6.2.1.toNat).drop 0))) || (!v8)) == false) (.int .i64 v5.2.2)), (79, .bool ((!(v7.1 == ((((a0.take (if 3000 < (a0.length : Int) then 3000 else (a0.length : Int)).toNat).drop 0).take v6.2.1.toNat).drop 0))) || (!v8))), (78, .bool ((!(v7.1 == ((((a0.take (if 3000 < (a0.length : Int) then 3000 else (a0.length : Int)).toNat).drop 0).take v6.2.1.toNat).drop 0))) || (!v8))), (77, .cnd ((!(v7.1 == ((((a0.take (if 3000 < (a0.length : Int) then 3000 else (a0.length : Int)).toNat).drop 0).take v6.2.1.toNat).drop 0))) == false) (.bool (!v8))), (76, .cnd ((!(v7.1 == ((((a0.take (if 3000 < (a0.length : Int) then 3000 else (a0.length : Int)).toNat).drop 0).take v6.2.1.toNat).drop 0))) == false) (.bool v8)), (75, .cnd ((!(v7.1 == ((((a0.take (if 3000 < (a0.length : Int) then 3000 else (a0.length : Int)).toNat).drop 0).take v6.2.1.toNat).drop 0))) == false) (.isl 3 (v6.1.map e_QRecord) false)), (74, .cnd ((!(v7.1 == ((((a0.take (if 3000 < (a0.length : Int) then 3000 else (a0.length : Int)).toNat).drop 0).take v6.2.1.toNat).drop 0))) == false) (.isl 3 (v7.2.map e_QRecord) false)), (73, .bool (!(v7.1 == ((((a0.take (if 3000 < (a0.length : Int) then 3000 else (a0.length : Int)).toNat).drop 0).take v6.2.1.toNat).drop 0)))), (72, .bool (!(v7.1 == ((((a0.take (if 3000 < (a0.length : Int) then 3000 else (a0.length : Int)).toNat).drop 0).take v6.2.1.toNat).drop 0)))), (71, .str ((((a0.take (if 3000 < (a0.length : Int) then 3000 else (a0.length : Int)).toNat).drop 0).take v6.2.1.toNat).drop 0)), (70, .int .i64 v6.2.1), (69, .str ((a0.take (if 3000 < (a0.length : Int) then 3000 else (a0.length : Int)).toNat).drop 0)), (68, .str v7.1), (15, .isl 3 (v7.2.map e_QRecord) false), (14, .str v7.1), (67, .isl 3 (v7.2.map e_QRecord) false), (66, .str v7.1), (63, .tup [.str v7.1, .isl 3 (v7.2.map e_QRecord) false]), (65, .tup [.str v7.1, .isl 3 (v7.2.map e_QRecord) false]), (64, .str ((a0.take (if 3000 < (a0.length : Int) then 3000 else (a0.length : Int)).toNat).drop 0)), (0, .str ((a0.take (if 3000 < (a0.length : Int) then 3000 else (a0.length : Int)).toNat).drop 0)), (8, .isl 3 (v5.1.map e_QRecord) false), (9, .int .i64 v5.2.1), (10, .int .i64 v5.2.2), (11, .isl 3 (v6.1.map e_QRecord) false), (12, .int .i64 v6.2.1), (13, .int .i64 v6.2.2)] _ _
      refine And.intro (fun hc => (bqf hc)) ?_
      refine LWp.sim (e := [(0, .str ((a0.take (if 3000 < (a0.length : Int) then 3000 else (a0.length : Int)).toNat).drop 0)), (8, .isl 3 (v5.1.map e_QRecord) false), (9, .int .i64 v5.2.1), (11, .isl 3 (v6.1.map e_QRecord) false), (12, .int .i64 v6.2.1), (13, .int .i64 v6.2.2), (83, .bool (((!(v7.1 == ((((a0.take (if 3000 < (a0.length : Int) then 3000 else (a0.length : Int)).toNat).drop 0).take v6.2.1.toNat).drop 0))) || (!v8)) || (v5.2.2 != v6.2.2)))]) (L := []) (n := 0) ?_ ?_
      · exact simI (M := []) rfl (And.intro (Vw.same _ rfl) (And.intro (Vw.same _ rfl) (And.intro (Vw.same _ rfl) (And.intro (Vw.same _ rfl) (And.intro (Vw.same _ rfl) (And.intro (Vw.same _ rfl) (And.intro (Vw.same _ rfl) trivial))))))) trivial
      refine condI (v := (((!(v7.1 == ((((a0.take (if 3000 < (a0.length : Int) then 3000 else (a0.length : Int)).toNat).drop 0).take v6.2.1.toNat).drop 0))) || (!v8)) || (v5.2.2 != v6.2.2))) rfl trivial (fun h13 => ?_) (fun h13 => ?_)
      · have h := ite_tt h13 h
        refine seqI ?_
        refine regI ?_
        refine retI ?_
        cases h
        exact And.intro trivial (And.intro rfl (Vw.same _ rfl))
      · have h := ite_ff h13 h
        refine skipI ?_
        refine seqI ?_
        refine regI ?_
        obtain ⟨v9, h14, h⟩ := bind_some h
        refine PFn.call (f10_ok h14) (And.intro (Vw.same _ rfl) trivial) ?_
        refine seqI ?_
        refine seqI ?_
        refine regI ?_
        refine LWp.sim (e := [(8, .isl 3 (v5.1.map e_QRecord) false), (9, .int .i64 v5.2.1), (11, .isl 3 (v6.1.map e_QRecord) false), (12, .int .i64 v6.2.1), (13, .int .i64 v6.2.2), (16, .str v9.1), (17, .int .i64 v9.2), (90, .bool (v6.2.2 != 0))]) (L := []) (n := 0) ?_ ?_
        · exact simI (M := []) rfl (And.intro (Vw.same _ rfl) (And.intro (Vw.same _ rfl) (And.intro (Vw.same _ rfl) (And.intro (Vw.same _ rfl) (And.intro (Vw.same _ rfl) (And.intro (Vw.same _ rfl) (And.intro (Vw.same _ rfl) (And.intro (Vw.same _ rfl) trivial)))))))) trivial
        refine condI (v := (v6.2.2 != 0)) rfl trivial (fun h15 => ?_) (fun h15 => ?_)
        · have h := ite_tt h15 h
          refine seqI ?_
          refine regI ?_
          obtain ⟨v10, h16, h⟩ := bind_some h
          refine PFn.call (f5_ok h16) trivial ?_
          refine And.intro (fun hp => hp) ?_
          refine And.intro (fun hp => hp) ?_
          show yops _ _ _ [(95, .cnd (v10 == true) (.bool (((v5.1.map e_QRecord).length : Int) == 0))), (94, .cnd (v10 == true) (.int .i64 ((v5.1.map e_QRecord).length : Int))), (93, .cnd (v10 == true) (.isl 3 (v5.1.map e_QRecord) false)), (92, .bool v10), (91, .bool v10), (8, .isl 3 (v5.1.map e_QRecord) false), (9, .int .i64 v5.2.1), (11, .isl 3 (v6.1.map e_QRecord) false), (12, .int .i64 v6.2.1), (13, .int .i64 v6.2.2), (16, .str v9.1), (17, .int .i64 v9.2), (90, .bool (v6.2.2 != 0))] _ _
          refine And.intro (fun hc => (bqt hc)) ?_
          refine And.intro (fun hp => hp) ?_
          refine And.intro (fun hc => (bqt hc)) ?_
          show yops _ _ _ [(100, .bool ((v10 && (((v5.1.map e_QRecord).length : Int) == 0)) && (v5.2.1 == 0))), (99, .cnd ((v10 && (((v5.1.map e_QRecord).length : Int) == 0)) == true) (.bool (v5.2.1 == 0))), (98, .cnd ((v10 && (((v5.1.map e_QRecord).length : Int) == 0)) == true) (.int .i64 v5.2.1)), (97, .bool (v10 && (((v5.1.map e_QRecord).length : Int) == 0))), (96, .bool (v10 && (((v5.1.map e_QRecord).length : Int) == 0))), (95, .cnd (v10 == true) (.bool (((v5.1.map e_QRecord).length : Int) == 0))), (94, .cnd (v10 == true) (.int .i64 ((v5.1.map e_QRecord).length : Int))), (93, .cnd (v10 == true) (.isl 3 (v5.1.map e_QRecord) false)), (92, .bool v10), (91, .bool v10), (8, .isl 3 (v5.1.map e_QRecord) false), (9, .int .i64 v5.2.1), (11, .isl 3 (v6.1.map e_QRecord) false), (12, .int .i64 v6.2.1), (13, .int .i64 v6.2.2), (16, .str v9.1), (17, .int .i64 v9.2), (90, .bool (v6.2.2 != 0))] _ _
          refine And.intro (fun hp => (And.intro hp hp)) ?_
          refine And.intro (fun hc => (bqt hc)) ?_
          show yops _ _ _ [(105, .bool (((v10 && (((v5.1.map e_QRecord).length : Int) == 0)) && (v5.2.1 == 0)) && (v9.2 == v6.2.2))), (104, .cnd (((v10 && (((v5.1.map e_QRecord).length : Int) == 0)) && (v5.2.1 == 0)) == true) (.bool (v9.2 == v6.2.2))), (103, .cnd (((v10 && (((v5.1.map e_QRecord).length : Int) == 0)) && (v5.2.1 == 0)) == true) (.int .i64 v6.2.2)), (102, .cnd (((v10 && (((v5.1.map e_QRecord).length : Int) == 0)) && (v5.2.1 == 0)) == true) (.int .i64 v9.2)), (101, .bool ((v10 && (((v5.1.map e_QRecord).length : Int) == 0)) && (v5.2.1 == 0))), (100, .bool ((v10 && (((v5.1.map e_QRecord).length : Int) == 0)) && (v5.2.1 == 0))), (99, .cnd ((v10 && (((v5.1.map e_QRecord).length : Int) == 0)) == true) (.bool (v5.2.1 == 0))), (98, .cnd ((v10 && (((v5.1.map e_QRecord).length : Int) == 0)) == true) (.int .i64 v5.2.1)), (97, .bool (v10 && (((v5.1.map e_QRecord).length : Int) == 0))), (96, .bool (v10 && (((v5.1.map e_QRecord).length : Int) == 0))), (95, .cnd (v10 == true) (.bool (((v5.1.map e_QRecord).length : Int) == 0))), (94, .cnd (v10 == true) (.int .i64 ((v5.1.map e_QRecord).length : Int))), (93, .cnd (v10 == true) (.isl 3 (v5.1.map e_QRecord) false)), (92, .bool v10), (91, .bool v10), (8, .isl 3 (v5.1.map e_QRecord) false), (9, .int .i64 v5.2.1), (11, .isl 3 (v6.1.map e_QRecord) false), (12, .int .i64 v6.2.1), (13, .int .i64 v6.2.2), (16, .str v9.1), (17, .int .i64 v9.2), (90, .bool (v6.2.2 != 0))] _ _
          refine And.intro (fun hp => hp) ?_
          refine And.intro (fun hc => (bqt hc)) ?_
          refine LWp.sim (e := [(2, .bool ((((v10 && (((v5.1.map e_QRecord).length : Int) == 0)) && (v5.2.1 == 0)) && (v9.2 == v6.2.2)) && (v9.1 == ([] : List UInt8))))]) (L := []) (n := 0) ?_ ?_
          · exact simI (M := []) rfl (And.intro (Vw.same _ rfl) trivial) trivial
          refine retI ?_
          cases h
          exact And.intro trivial (And.intro rfl (Vw.same _ rfl))
        · have h := ite_ff h15 h
          refine skipI ?_
          refine seqI ?_
          refine regI ?_
          refine seqI ?_
          refine seqI ?_
          refine regI ?_
          obtain ⟨v11, h17, h⟩ := bind_some h
          refine PFn.call (f8_ok h17) (And.intro (Vw.same _ rfl) trivial) ?_
          refine blockI ?_
          refine LWp.sim ?_ (f4_L1_ok h)
          exact simI (M := []) rfl (And.intro (Vw.same _ rfl) (And.intro (Vw.same _ rfl) (And.intro (Vw.same _ rfl) (And.intro (Vw.same _ rfl) (And.intro (Vw.same _ rfl) (And.intro (Vw.same _ rfl) (And.intro (Vw.same _ rfl) (And.intro (Vw.same _ rfl) (And.intro (Vw.same _ rfl) (And.intro (Vw.same _ rfl) trivial)))))))))) trivial

theorem f4_ok {a0 : List UInt8} {m : Option Nat} {o : Bool} (h : S_glossatorlaw3_JournalRead m a0 = some o) : PFn Try.prog 4 [.str a0] (.bool o) := PFn.ofFnW (L := f4_L) f4_low f4_fok (Nat.le_of_ble_eq_true rfl) rfl (f4_start h)
end Go.Proofs.Ytmbihhbfdoabbaa
