/-
  Own text GenB of this claim: what functions of the given program compute, in plain Lean, and the proof; no condition.
-/
import Derived.Test.YtdkcjibedbjgjaaGenA
namespace Go.Proofs.Ytdkcjibedbjgjaa
open Go.Fx
set_option linter.unusedVariables false
def f9_c1 : LCode := (.seq (.seq (.quiet [⟨some 20, .mv (.t 7), none⟩,
   ⟨some 21, .mv (.t 0), none⟩,
   ⟨some 22, .len false (.t 21), none⟩,
   ⟨some 23, .bin .lss (.t 20) (.t 22), none⟩,
   ⟨some 24, .mv (.t 23), none⟩,
   ⟨some 25, .mv (.t 0), some (24, true)⟩,
   ⟨some 26, .mv (.t 7), some (24, true)⟩,
   ⟨some 27, .iaddr 3 (.t 25) (.t 26), some (24, true)⟩,
   ⟨some 28, .faddr 0 (.t 27), some (24, true)⟩,
   ⟨some 29, .load false 1 (.t 28), some (24, true)⟩,
   ⟨some 30, .mv (.t 0), some (24, true)⟩,
   ⟨some 31, .mv (.t 7), some (24, true)⟩,
   ⟨some 32, .bin .sub (.t 31) (.c (.int .i64 1)), some (24, true)⟩,
   ⟨some 33, .iaddr 3 (.t 30) (.t 32), some (24, true)⟩,
   ⟨some 34, .faddr 0 (.t 33), some (24, true)⟩,
   ⟨some 35, .load false 1 (.t 34), some (24, true)⟩,
   ⟨some 36, .bin .sub (.t 29) (.t 35), some (24, true)⟩,
   ⟨some 37, .mv (.t 1), some (24, true)⟩,
   ⟨some 38, .bin .lss (.t 36) (.t 37), some (24, true)⟩,
   ⟨some 39, .pick (.t 24) (.t 38) (.c (.bool false)), none⟩])
 (.cond (.t 39)
  .skip
  (.exit 2)))
 (.block 3
  (.region [⟨some 40, .mv (.t 7), none⟩,
    ⟨some 41, .bin .add (.t 40) (.c (.int .i64 1)), none⟩,
    ⟨some 7, .mv (.t 41), none⟩])))
def f9_c8 : LCode := (.region [⟨some 85, .bin .add (.t 68) (.c (.int .i64 1)), none⟩,
   ⟨some 68, .mv (.t 85), none⟩])
def f9_c4 : LCode := (.seq (.region [⟨some 69, .bin .lss (.t 68) (.t 67), none⟩])
 (.seq (.cond (.t 69)
  .skip
  (.exit 6))
 (.seq (.block 7
  (.seq (.region [⟨some 70, .iaddr 3 (.t 66) (.t 68), none⟩,
    ⟨some 71, .load true 3 (.t 70), none⟩,
    ⟨some 13, .alloc [(.int .i64 0), (.str []), (.int .i64 0)], none⟩,
    ⟨none, .store 3 (.t 13) (.t 71), none⟩])
  (.seq (.region [⟨some 72, .faddr 1 (.t 13), none⟩,
    ⟨some 73, .load false 1 (.t 72), none⟩,
    ⟨some 74, .mv (.t 10), none⟩,
    ⟨some 75, .bin .eql (.t 73) (.t 74), none⟩])
  (.cond (.t 75)
   (.draw [⟨⟨some 76, .faddr 2 (.t 11), none⟩, []⟩,
     ⟨⟨some 77, .load false 1 (.t 76), none⟩, []⟩,
     ⟨⟨some 78, .faddr 2 (.t 13), none⟩, []⟩,
     ⟨⟨some 79, .load false 1 (.t 78), none⟩, []⟩,
     ⟨⟨some 81, .faddr 0 (.t 13), none⟩, []⟩,
     ⟨⟨some 82, .load false 1 (.t 81), none⟩, []⟩,
     ⟨⟨some 80, .call 11 [(.t 77), (.t 79)], none⟩, [5]⟩,
     ⟨⟨some 83, .faddr 2 (.t 11), none⟩, []⟩,
     ⟨⟨none, .store 1 (.t 83) (.t 80), none⟩, [5]⟩,
     ⟨⟨some 84, .faddr 0 (.t 11), none⟩, []⟩,
     ⟨⟨none, .store 1 (.t 84) (.t 82), none⟩, []⟩])
   .skip))))
 f9_c8)))
def f9_c2 : LCode := (.seq (.region [⟨some 86, .faddr 2 (.t 11), none⟩,
   ⟨some 87, .load false 1 (.t 86), none⟩,
   ⟨some 88, .bin .neq (.t 87) (.c (.int .i64 0)), none⟩])
 (.cond (.t 88)
  (.region [⟨some 89, .faddr 1 (.t 8), none⟩,
    ⟨some 90, .load false 1 (.t 89), none⟩,
    ⟨some 91, .load true 3 (.t 11), none⟩,
    ⟨some 92, .mkSl true 3 [(.int .i64 0), (.str []), (.int .i64 0)] 1 [(0, (.t 91))], none⟩,
    ⟨some 93, .app true 3 32 (.t 90) (.t 92), none⟩,
    ⟨some 94, .faddr 1 (.t 8), none⟩,
    ⟨none, .store 1 (.t 94) (.t 93), none⟩])
  .skip))
def f9_c3 : LCode := (.region [⟨some 95, .bin .add (.t 57) (.c (.int .i64 1)), none⟩,
   ⟨some 57, .mv (.t 95), none⟩])
def f9_c6 : LCode := (.seq (.region [⟨some 58, .bin .lss (.t 57) (.t 56), none⟩])
 (.seq (.cond (.t 58)
  .skip
  (.exit 4))
 (.seq (.block 5
  (.seq (.region [⟨some 59, .iaddr 1 (.t 55) (.t 57), none⟩,
    ⟨some 60, .load false 1 (.t 59), none⟩,
    ⟨some 10, .mv (.t 60), none⟩])
  (.seq (.region [⟨some 61, .mv (.t 10), none⟩,
    ⟨some 62, .build [(.int .i64 0), (.str []), (.int .i64 0)] [(1, 1, (.t 61))], none⟩,
    ⟨some 11, .alloc [(.int .i64 0), (.str []), (.int .i64 0)], none⟩,
    ⟨none, .store 3 (.t 11) (.t 62), none⟩])
  (.seq (.seq (.region [⟨some 63, .mv (.t 0), none⟩,
    ⟨some 64, .mv (.t 6), none⟩,
    ⟨some 65, .mv (.t 7), none⟩,
    ⟨some 66, .slSl 3 (.t 63) (some (.t 64)) (some (.t 65)) none, none⟩,
    ⟨some 67, .len false (.t 66), none⟩,
    ⟨some 68, .mv (.c (.int .i64 0)), none⟩])
  (.block 6
   (.loop
    f9_c4)))
  f9_c2))))
 f9_c3)))
def f9_c9 : LCode := (.region [⟨some 104, .mv (.t 7), none⟩,
   ⟨some 6, .mv (.t 104), none⟩])
def f9_c5 : LCode := (.seq (.seq (.region [⟨some 96, .faddr 1 (.t 8), none⟩,
   ⟨some 97, .load false 1 (.t 96), none⟩,
   ⟨some 98, .len false (.t 97), none⟩,
   ⟨some 99, .bin .gtr (.t 98) (.c (.int .i64 0)), none⟩])
 (.cond (.t 99)
  (.region [⟨some 100, .mv (.t 5), none⟩,
    ⟨some 101, .load true 2 (.t 8), none⟩,
    ⟨some 102, .mkSl true 2 [(.int .i64 0), (.isl 3 [] true)] 1 [(0, (.t 101))], none⟩,
    ⟨some 103, .app true 2 32 (.t 100) (.t 102), none⟩,
    ⟨some 5, .mv (.t 103), none⟩])
  .skip))
 f9_c9)
def f9_c0 : LCode := (.seq (.region [⟨some 42, .mv (.t 0), none⟩,
   ⟨some 43, .mv (.t 7), none⟩,
   ⟨some 44, .bin .sub (.t 43) (.c (.int .i64 1)), none⟩,
   ⟨some 45, .iaddr 3 (.t 42) (.t 44), none⟩,
   ⟨some 46, .faddr 0 (.t 45), none⟩,
   ⟨some 47, .load false 1 (.t 46), none⟩,
   ⟨some 48, .mv (.t 1), none⟩,
   ⟨some 49, .bin .add (.t 47) (.t 48), none⟩,
   ⟨some 50, .build [(.int .i64 0), (.isl 3 [] true)] [(0, 1, (.t 49))], none⟩,
   ⟨some 8, .alloc [(.int .i64 0), (.isl 3 [] true)], none⟩,
   ⟨none, .store 2 (.t 8) (.t 50), none⟩])
 (.seq (.seq (.region [⟨some 51, .mv (.t 0), none⟩,
   ⟨some 52, .mv (.t 6), none⟩,
   ⟨some 53, .mv (.t 7), none⟩,
   ⟨some 54, .slSl 3 (.t 51) (some (.t 52)) (some (.t 53)) none, none⟩,
   ⟨some 55, .call 25 [(.t 54)], none⟩,
   ⟨some 56, .len false (.t 55), none⟩,
   ⟨some 57, .mv (.c (.int .i64 0)), none⟩])
 (.block 4
  (.loop
   f9_c6)))
 f9_c5))
def f9_c10 : LCode := (.seq (.seq (.region [⟨some 14, .mv (.t 6), none⟩,
   ⟨some 15, .mv (.t 0), none⟩,
   ⟨some 16, .len false (.t 15), none⟩,
   ⟨some 17, .bin .lss (.t 14) (.t 16), none⟩])
 (.cond (.t 17)
  .skip
  (.exit 0)))
 (.block 1
  (.seq (.region [⟨some 18, .mv (.t 6), none⟩,
    ⟨some 19, .bin .add (.t 18) (.c (.int .i64 1)), none⟩,
    ⟨some 7, .mv (.t 19), none⟩])
  (.seq (.block 2
   (.loop
    f9_c1))
  f9_c0))))
def f9_c7 : LCode := (.seq (.region [⟨some 105, .mv (.t 5), none⟩,
   ⟨some 4, .mv (.t 105), none⟩])
 .ret)
def f9_c11 : LCode := (.seq (.region [⟨some 4, .mv (.c (.val (.slice none 0 0))), none⟩])
 (.seq (.region [⟨some 5, .mv (.c (.val (.slice none 0 0))), none⟩])
 (.seq (.seq (.region [⟨some 6, .mv (.c (.int .i64 0)), none⟩])
 (.block 0
  (.loop
   f9_c10)))
 f9_c7)))
def f9_lay : Lay := ⟨106, [], false⟩
def f9_res : List LRes := [.t 4]
def f9_L : LFn := ⟨2, f9_lay, f9_c11, f9_res⟩
theorem f9_low : lowFn Try.prog [] 9 = some f9_L := by kernel_rfl
theorem f9_fok : FnOk Try.prog 9 := ⟨_, Try.func9, rfl, rfl⟩
def f9_Q (a0 : List G_QFileEvent) (a1 : Int) (o : (List G_QFileBatch)) : Exit → Env → AHeap → Nat → Prop := FinK f9_res (PureEnd (.isl 2 (o.map e_QFileBatch) false))

def f9_L11_env (a0 : List G_QFileEvent) (a1 : Int) (s : ((List G_QFileBatch) × Int)) : Env := [(0, .isl 3 (a0.map e_QFileEvent) false), (1, .int .i64 a1), (5, .osl (0, 0) 2 (s.1.map e_QFileBatch)), (6, .int .i64 s.2)]
def f9_L11_hp (a0 : List G_QFileEvent) (a1 : Int) (s : ((List G_QFileBatch) × Int)) : AHeap := [((0, 0), .tok)]
def f9_L11_Q (a0 : List G_QFileEvent) (a1 : Int) (o : (List G_QFileBatch)) : Exit → Env → AHeap → Nat → Prop := (QBlock 0 (QSeq Try.prog f9_lay 0 f9_c7 (f9_Q a0 a1 o)))

def f9_L12_env (a0 : List G_QFileEvent) (a1 : Int) (v45 : List G_QFileBatch) (v46 : Int) (s : Int) : Env := [(0, .isl 3 (a0.map e_QFileEvent) false), (1, .int .i64 a1), (5, .osl (0, 0) 2 (v45.map e_QFileBatch)), (6, .int .i64 v46), (7, .int .i64 s)]
def f9_L12_hp (a0 : List G_QFileEvent) (a1 : Int) (v45 : List G_QFileBatch) (v46 : Int) (s : Int) : AHeap := [((0, 0), .tok)]
def f9_L12_Q (a0 : List G_QFileEvent) (a1 : Int) (o : (((List G_QFileBatch) × Int) ⊕ (List G_QFileBatch))) : Exit → Env → AHeap → Nat → Prop := (QBlock 2 (QSeq Try.prog f9_lay 0 f9_c0 (QBlock 1 (BodyQ 0 1 (f9_L11_env a0 a1) (f9_L11_hp a0 a1) (f9_L11_Q a0 a1) o))))

noncomputable def S_glossatorref3_Batches_j50 (m : Option Nat) (a0 : List G_QFileEvent) (a1 : Int) (v45 : List G_QFileBatch) (v46 : Int) (v91 : Int) (v92 : (List (List UInt8))) (v106 : Int) (v107 : List G_QFileEvent) (v124 : Int) (v131 : Int) (v132 : Int) : Option ((Int × Int × Int) ⊕ ((Int × (List G_QFileEvent)) ⊕ (((List G_QFileBatch) × Int) ⊕ (List G_QFileBatch)))) :=
  some (.inl ((W (v124 + 1)), v131, v132))

noncomputable def S_glossatorref3_Batches_j52 (m : Option Nat) (a0 : List G_QFileEvent) (a1 : Int) (v45 : List G_QFileBatch) (v46 : Int) (v91 : Int) (v92 : (List (List UInt8))) (v106 : Int) (v133 : List G_QFileEvent) : Option ((Int × (List G_QFileEvent)) ⊕ (((List G_QFileBatch) × Int) ⊕ (List G_QFileBatch))) :=
  some (.inl ((W (v106 + 1)), v133))

noncomputable def S_glossatorref3_Batches_j51 (m : Option Nat) (a0 : List G_QFileEvent) (a1 : Int) (v45 : List G_QFileBatch) (v46 : Int) (v91 : Int) (v92 : (List (List UInt8))) (v106 : Int) (v107 : List G_QFileEvent) (v125 : Int) (v126 : Int) : Option ((Int × (List G_QFileEvent)) ⊕ (((List G_QFileBatch) × Int) ⊕ (List G_QFileBatch))) :=
  if (v126 != 0) = true then
    if ((v107 ++ ([(G_QFileEvent.mk v125 (v92.getD v106.toNat default) v126)] : List G_QFileEvent)).map e_QFileEvent).length * 32 ≤ 140737488355328 then
    S_glossatorref3_Batches_j52 m a0 a1 v45 v46 v91 v92 v106 (v107 ++ ([(G_QFileEvent.mk v125 (v92.getD v106.toNat default) v126)] : List G_QFileEvent))
    else none
  else
    S_glossatorref3_Batches_j52 m a0 a1 v45 v46 v91 v92 v106 v107

noncomputable def S_glossatorref3_Batches_b16 (m : Option Nat) (a0 : List G_QFileEvent) (a1 : Int) (v45 : List G_QFileBatch) (v46 : Int) (v91 : Int) (v92 : (List (List UInt8))) (v106 : Int) (v107 : List G_QFileEvent) (v124 : Int) (v125 : Int) (v126 : Int) : Option ((Int × Int × Int) ⊕ ((Int × (List G_QFileEvent)) ⊕ (((List G_QFileBatch) × Int) ⊕ (List G_QFileBatch)))) :=
  if (decide (v124 < ((((a0.take v91.toNat).drop v46.toNat).map e_QFileEvent).length : Int))) = true then
    if (0 : Int) ≤ v124 ∧ v124 < ((((a0.take v91.toNat).drop v46.toNat).map e_QFileEvent).length : Int) then
    if ((((a0.take v91.toNat).drop v46.toNat).getD v124.toNat default).f_Path == (v92.getD v106.toNat default)) = true then
      (S_glossatorref3_Merge m v126 ((((a0.take v91.toNat).drop v46.toNat).getD v124.toNat default).f_Kind)).bind fun v130 =>
      S_glossatorref3_Batches_j50 m a0 a1 v45 v46 v91 v92 v106 v107 v124 ((((a0.take v91.toNat).drop v46.toNat).getD v124.toNat default).f_Time) v130
    else
      S_glossatorref3_Batches_j50 m a0 a1 v45 v46 v91 v92 v106 v107 v124 v125 v126
    else none
  else
    Option.map Sum.inr (
      S_glossatorref3_Batches_j51 m a0 a1 v45 v46 v91 v92 v106 v107 v125 v126)

noncomputable def S_glossatorref3_Batches_l16 (m : Option Nat) (a0 : List G_QFileEvent) (a1 : Int) (v45 : List G_QFileBatch) (v46 : Int) (v91 : Int) (v92 : (List (List UInt8))) (v106 : Int) (v107 : List G_QFileEvent) (v124 : Int) (v125 : Int) (v126 : Int) : Option ((Int × (List G_QFileEvent)) ⊕ (((List G_QFileBatch) × Int) ⊕ (List G_QFileBatch))) := loopM m (fun (s : (Int × Int × Int)) => S_glossatorref3_Batches_b16 m a0 a1 v45 v46 v91 v92 v106 v107 s.1 s.2.1 s.2.2) (v124, v125, v126)

noncomputable def S_glossatorref3_Batches_j54 (m : Option Nat) (a0 : List G_QFileEvent) (a1 : Int) (v91 : Int) (v134 : List G_QFileBatch) : Option (((List G_QFileBatch) × Int) ⊕ (List G_QFileBatch)) :=
  some (.inl (v134, v91))

noncomputable def S_glossatorref3_Batches_j53 (m : Option Nat) (a0 : List G_QFileEvent) (a1 : Int) (v45 : List G_QFileBatch) (v91 : Int) (v107 : List G_QFileEvent) : Option (((List G_QFileBatch) × Int) ⊕ (List G_QFileBatch)) :=
  if (decide (((v107.map e_QFileEvent).length : Int) > 0)) = true then
    if ((v45 ++ ([(G_QFileBatch.mk (W ((a0.getD ((W (v91 - 1)).toNat) default).f_Time + a1)) v107)] : List G_QFileBatch)).map e_QFileBatch).length * 32 ≤ 140737488355328 then
    S_glossatorref3_Batches_j54 m a0 a1 v91 (v45 ++ ([(G_QFileBatch.mk (W ((a0.getD ((W (v91 - 1)).toNat) default).f_Time + a1)) v107)] : List G_QFileBatch))
    else none
  else
    S_glossatorref3_Batches_j54 m a0 a1 v91 v45

noncomputable def S_glossatorref3_Batches_b15 (m : Option Nat) (a0 : List G_QFileEvent) (a1 : Int) (v45 : List G_QFileBatch) (v46 : Int) (v91 : Int) (v92 : (List (List UInt8))) (v106 : Int) (v107 : List G_QFileEvent) : Option ((Int × (List G_QFileEvent)) ⊕ (((List G_QFileBatch) × Int) ⊕ (List G_QFileBatch))) :=
  if (decide (v106 < ((v92.map e_str).length : Int))) = true then
    if (0 : Int) ≤ v106 ∧ v106 < ((v92.map e_str).length : Int) then
    if (0 : Int) ≤ v46 ∧ v46 ≤ v91 ∧ v91 ≤ ((a0.map e_QFileEvent).length : Int) then
    S_glossatorref3_Batches_l16 m a0 a1 v45 v46 v91 v92 v106 v107 0 0 0
    else none
    else none
  else
    Option.map Sum.inr (
      S_glossatorref3_Batches_j53 m a0 a1 v45 v91 v107)

noncomputable def S_glossatorref3_Batches_l15 (m : Option Nat) (a0 : List G_QFileEvent) (a1 : Int) (v45 : List G_QFileBatch) (v46 : Int) (v91 : Int) (v92 : (List (List UInt8))) (v106 : Int) (v107 : List G_QFileEvent) : Option (((List G_QFileBatch) × Int) ⊕ (List G_QFileBatch)) := loopM m (fun (s : (Int × (List G_QFileEvent))) => S_glossatorref3_Batches_b15 m a0 a1 v45 v46 v91 v92 s.1 s.2) (v106, v107)

noncomputable def S_glossatorref3_Batches_j37 (m : Option Nat) (a0 : List G_QFileEvent) (a1 : Int) (v45 : List G_QFileBatch) (v46 : Int) (v91 : Int) : Option (((List G_QFileBatch) × Int) ⊕ (List G_QFileBatch)) :=
  if (0 : Int) ≤ (W (v91 - 1)) ∧ (W (v91 - 1)) < ((a0.map e_QFileEvent).length : Int) then
  if (0 : Int) ≤ v46 ∧ v46 ≤ v91 ∧ v91 ≤ ((a0.map e_QFileEvent).length : Int) then
  (S_glossatorref3_paths m ((a0.take v91.toNat).drop v46.toNat)).bind fun v92 =>
  S_glossatorref3_Batches_l15 m a0 a1 v45 v46 v91 v92 0 ([] : List G_QFileEvent)
  else none
  else none

noncomputable def S_glossatorref3_Batches_b12 (m : Option Nat) (a0 : List G_QFileEvent) (a1 : Int) (v45 : List G_QFileBatch) (v46 : Int) (v91 : Int) : Option (Int ⊕ (((List G_QFileBatch) × Int) ⊕ (List G_QFileBatch))) :=
  if (((decide (v91 < ((a0.map e_QFileEvent).length : Int))) == true) = true → (0 : Int) ≤ v91 ∧ v91 < ((a0.map e_QFileEvent).length : Int)) then
  if (((decide (v91 < ((a0.map e_QFileEvent).length : Int))) == true) = true → (0 : Int) ≤ (W (v91 - 1)) ∧ (W (v91 - 1)) < ((a0.map e_QFileEvent).length : Int)) then
  if ((decide (v91 < ((a0.map e_QFileEvent).length : Int))) && (decide ((W ((a0.getD v91.toNat default).f_Time - (a0.getD ((W (v91 - 1)).toNat) default).f_Time)) < a1))) = true then
    some (.inl (W (v91 + 1)))
  else
    Option.map Sum.inr (
      S_glossatorref3_Batches_j37 m a0 a1 v45 v46 v91)
  else none
  else none

noncomputable def S_glossatorref3_Batches_l12 (m : Option Nat) (a0 : List G_QFileEvent) (a1 : Int) (v45 : List G_QFileBatch) (v46 : Int) (v91 : Int) : Option (((List G_QFileBatch) × Int) ⊕ (List G_QFileBatch)) := loopM m (fun (s : Int) => S_glossatorref3_Batches_b12 m a0 a1 v45 v46 s) v91

def f9_L15_env (a0 : List G_QFileEvent) (a1 : Int) (v45 : List G_QFileBatch) (v46 : Int) (v91 : Int) (v92 : (List (List UInt8))) (s : (Int × (List G_QFileEvent))) : Env := [(0, .isl 3 (a0.map e_QFileEvent) false), (1, .int .i64 a1), (5, .osl (0, 0) 2 (v45.map e_QFileBatch)), (6, .int .i64 v46), (7, .int .i64 v91), (8, .ptr (1, 0) 0 0), (55, .isl 1 (v92.map e_str) false), (56, .int .i64 ((v92.map e_str).length : Int)), (57, .int .i64 s.1)]
def f9_L15_hp (a0 : List G_QFileEvent) (a1 : Int) (v45 : List G_QFileBatch) (v46 : Int) (v91 : Int) (v92 : (List (List UInt8))) (s : (Int × (List G_QFileEvent))) : AHeap := [((0, 0), .tok), ((1, 0), .one [.int .i64 (W ((a0.getD ((W (v91 - 1)).toNat) default).f_Time + a1)), .osl (2, 0) 3 (s.2.map e_QFileEvent)]), ((2, 0), .tok)]
def f9_L15_Q (a0 : List G_QFileEvent) (a1 : Int) (o : (((List G_QFileBatch) × Int) ⊕ (List G_QFileBatch))) : Exit → Env → AHeap → Nat → Prop := (QBlock 4 (QSeq Try.prog f9_lay 0 f9_c5 (QBlock 1 (BodyQ 0 1 (f9_L11_env a0 a1) (f9_L11_hp a0 a1) (f9_L11_Q a0 a1) o))))

def f9_L16_env (a0 : List G_QFileEvent) (a1 : Int) (v45 : List G_QFileBatch) (v46 : Int) (v91 : Int) (v92 : (List (List UInt8))) (v106 : Int) (v107 : List G_QFileEvent) (s : (Int × Int × Int)) : Env := [(0, .isl 3 (a0.map e_QFileEvent) false), (1, .int .i64 a1), (5, .osl (0, 0) 2 (v45.map e_QFileBatch)), (6, .int .i64 v46), (7, .int .i64 v91), (8, .ptr (1, 0) 0 0), (10, .str (v92.getD v106.toNat default)), (11, .ptr (2, 0) 0 0), (55, .isl 1 (v92.map e_str) false), (56, .int .i64 ((v92.map e_str).length : Int)), (57, .int .i64 v106), (66, .isl 3 (((a0.take v91.toNat).drop v46.toNat).map e_QFileEvent) false), (67, .int .i64 ((((a0.take v91.toNat).drop v46.toNat).map e_QFileEvent).length : Int)), (68, .int .i64 s.1)]
def f9_L16_hp (a0 : List G_QFileEvent) (a1 : Int) (v45 : List G_QFileBatch) (v46 : Int) (v91 : Int) (v92 : (List (List UInt8))) (v106 : Int) (v107 : List G_QFileEvent) (s : (Int × Int × Int)) : AHeap := [((0, 0), .tok), ((1, 0), .one [.int .i64 (W ((a0.getD ((W (v91 - 1)).toNat) default).f_Time + a1)), .osl (3, 0) 3 (v107.map e_QFileEvent)]), ((2, 0), .one [.int .i64 s.2.1, .str (v92.getD v106.toNat default), .int .i64 s.2.2]), ((3, 0), .tok)]
def f9_L16_Q (a0 : List G_QFileEvent) (a1 : Int) (v45 : List G_QFileBatch) (v46 : Int) (v91 : Int) (v92 : (List (List UInt8))) (o : ((Int × (List G_QFileEvent)) ⊕ (((List G_QFileBatch) × Int) ⊕ (List G_QFileBatch)))) : Exit → Env → AHeap → Nat → Prop := (QBlock 6 (QSeq Try.prog f9_lay 0 f9_c2 (QBlock 5 (QSeq Try.prog f9_lay 0 f9_c3 (BodyQ 0 3 (f9_L15_env a0 a1 v45 v46 v91 v92) (f9_L15_hp a0 a1 v45 v46 v91 v92) (f9_L15_Q a0 a1) o)))))

theorem f9_j50_ok {a0 : List G_QFileEvent} {a1 : Int} {v45 : List G_QFileBatch} {v46 : Int} {v91 : Int} {v92 : (List (List UInt8))} {v106 : Int} {v107 : List G_QFileEvent} {v124 : Int} {v131 : Int} {v132 : Int} {m : Option Nat} {o : ((Int × Int × Int) ⊕ ((Int × (List G_QFileEvent)) ⊕ (((List G_QFileBatch) × Int) ⊕ (List G_QFileBatch))))} (h : S_glossatorref3_Batches_j50 m a0 a1 v45 v46 v91 v92 v106 v107 v124 v131 v132 = some o) :
    LWp Try.prog f9_lay 0 f9_c8 (BodyQ 0 4 (f9_L16_env a0 a1 v45 v46 v91 v92 v106 v107) (f9_L16_hp a0 a1 v45 v46 v91 v92 v106 v107) (f9_L16_Q a0 a1 v45 v46 v91 v92) o) [(0, .isl 3 (a0.map e_QFileEvent) false), (1, .int .i64 a1), (5, .osl (0, 0) 2 (v45.map e_QFileBatch)), (6, .int .i64 v46), (7, .int .i64 v91), (8, .ptr (1, 0) 0 0), (10, .str (v92.getD v106.toNat default)), (11, .ptr (2, 0) 0 0), (55, .isl 1 (v92.map e_str) false), (56, .int .i64 ((v92.map e_str).length : Int)), (57, .int .i64 v106), (66, .isl 3 (((a0.take v91.toNat).drop v46.toNat).map e_QFileEvent) false), (67, .int .i64 ((((a0.take v91.toNat).drop v46.toNat).map e_QFileEvent).length : Int)), (68, .int .i64 v124)] [((0, 0), .tok), ((1, 0), .one [.int .i64 (W ((a0.getD ((W (v91 - 1)).toNat) default).f_Time + a1)), .osl (3, 0) 3 (v107.map e_QFileEvent)]), ((2, 0), .one [.int .i64 v131, .str (v92.getD v106.toNat default), .int .i64 v132]), ((3, 0), .tok)] 4 := by
  unfold S_glossatorref3_Batches_j50 at h
  refine regI ?_
  cases h
  exact And.intro rfl (simI (M := [((0, 0), (0, 0)), ((1, 0), (1, 0)), ((2, 0), (2, 0)), ((3, 0), (3, 0))]) rfl (And.intro (Vw.same _ rfl) (And.intro (Vw.same _ rfl) (And.intro (Vw.osl _ _ _ _ rfl) (And.intro (Vw.same _ rfl) (And.intro (Vw.same _ rfl) (And.intro (Vw.ptr _ _ _ _ rfl) (And.intro (Vw.same _ rfl) (And.intro (Vw.ptr _ _ _ _ rfl) (And.intro (Vw.same _ rfl) (And.intro (Vw.same _ rfl) (And.intro (Vw.same _ rfl) (And.intro (Vw.same _ rfl) (And.intro (Vw.same _ rfl) (And.intro (Vw.same _ rfl) trivial)))))))))))))) (And.intro (And.intro rfl BVw.tok) (And.intro (And.intro rfl (BVw.oneL (And.intro (Vw.same _ rfl) (And.intro (Vw.osl _ _ _ _ rfl) trivial)))) (And.intro (And.intro rfl (BVw.oneL (And.intro (Vw.same _ rfl) (And.intro (Vw.same _ rfl) (And.intro (Vw.same _ rfl) trivial))))) (And.intro (And.intro rfl BVw.tok) trivial)))))

theorem f9_j52_ok {a0 : List G_QFileEvent} {a1 : Int} {v45 : List G_QFileBatch} {v46 : Int} {v91 : Int} {v92 : (List (List UInt8))} {v106 : Int} {v133 : List G_QFileEvent} {m : Option Nat} {o : ((Int × (List G_QFileEvent)) ⊕ (((List G_QFileBatch) × Int) ⊕ (List G_QFileBatch)))} (h : S_glossatorref3_Batches_j52 m a0 a1 v45 v46 v91 v92 v106 v133 = some o) :
    LWp Try.prog f9_lay 0 f9_c3 (BodyQ 0 3 (f9_L15_env a0 a1 v45 v46 v91 v92) (f9_L15_hp a0 a1 v45 v46 v91 v92) (f9_L15_Q a0 a1) o) [(0, .isl 3 (a0.map e_QFileEvent) false), (1, .int .i64 a1), (5, .osl (0, 0) 2 (v45.map e_QFileBatch)), (6, .int .i64 v46), (7, .int .i64 v91), (8, .ptr (1, 0) 0 0), (55, .isl 1 (v92.map e_str) false), (56, .int .i64 ((v92.map e_str).length : Int)), (57, .int .i64 v106)] [((0, 0), .tok), ((1, 0), .one [.int .i64 (W ((a0.getD ((W (v91 - 1)).toNat) default).f_Time + a1)), .osl (2, 0) 3 (v133.map e_QFileEvent)]), ((2, 0), .tok)] 3 := by
  unfold S_glossatorref3_Batches_j52 at h
  refine regI ?_
  cases h
  exact And.intro rfl (simI (M := [((0, 0), (0, 0)), ((1, 0), (1, 0)), ((2, 0), (2, 0))]) rfl (And.intro (Vw.same _ rfl) (And.intro (Vw.same _ rfl) (And.intro (Vw.osl _ _ _ _ rfl) (And.intro (Vw.same _ rfl) (And.intro (Vw.same _ rfl) (And.intro (Vw.ptr _ _ _ _ rfl) (And.intro (Vw.same _ rfl) (And.intro (Vw.same _ rfl) (And.intro (Vw.same _ rfl) trivial))))))))) (And.intro (And.intro rfl BVw.tok) (And.intro (And.intro rfl (BVw.oneL (And.intro (Vw.same _ rfl) (And.intro (Vw.osl _ _ _ _ rfl) trivial)))) (And.intro (And.intro rfl BVw.tok) trivial))))

theorem f9_j51_ok {a0 : List G_QFileEvent} {a1 : Int} {v45 : List G_QFileBatch} {v46 : Int} {v91 : Int} {v92 : (List (List UInt8))} {v106 : Int} {v107 : List G_QFileEvent} {v125 : Int} {v126 : Int} {m : Option Nat} {o : ((Int × (List G_QFileEvent)) ⊕ (((List G_QFileBatch) × Int) ⊕ (List G_QFileBatch)))} (h : S_glossatorref3_Batches_j51 m a0 a1 v45 v46 v91 v92 v106 v107 v125 v126 = some o) :
    LWp Try.prog f9_lay 0 f9_c2 (QBlock 5 (QSeq Try.prog f9_lay 0 f9_c3 (BodyQ 0 3 (f9_L15_env a0 a1 v45 v46 v91 v92) (f9_L15_hp a0 a1 v45 v46 v91 v92) (f9_L15_Q a0 a1) o))) [(0, .isl 3 (a0.map e_QFileEvent) false), (1, .int .i64 a1), (5, .osl (0, 0) 2 (v45.map e_QFileBatch)), (6, .int .i64 v46), (7, .int .i64 v91), (8, .ptr (1, 0) 0 0), (11, .ptr (2, 0) 0 0), (55, .isl 1 (v92.map e_str) false), (56, .int .i64 ((v92.map e_str).length : Int)), (57, .int .i64 v106)] [((0, 0), .tok), ((1, 0), .one [.int .i64 (W ((a0.getD ((W (v91 - 1)).toNat) default).f_Time + a1)), .osl (3, 0) 3 (v107.map e_QFileEvent)]), ((2, 0), .one [.int .i64 v125, .str (v92.getD v106.toNat default), .int .i64 v126]), ((3, 0), .tok)] 4 := by
  unfold S_glossatorref3_Batches_j51 at h
  refine seqI ?_
  refine regI ?_
  refine condI (v := (v126 != 0)) rfl trivial (fun h195 => ?_) (fun h195 => ?_)
  · have h := ite_tt h195 h
    refine regI ?_
    obtain ⟨h196, h⟩ := ite_some h
    refine Exists.intro ((v107 ++ ([(G_QFileEvent.mk v125 (v92.getD v106.toNat default) v126)] : List G_QFileEvent)).map e_QFileEvent) (And.intro (app_enc e_QFileEvent v107 ([(G_QFileEvent.mk v125 (v92.getD v106.toNat default) v126)] : List G_QFileEvent)) (And.intro h196 ?_))
    refine LWp.sim ?_ (f9_j52_ok h)
    exact simI (M := [((0, 0), (0, 0)), ((1, 0), (1, 0)), ((2, 0), (4, 0))]) rfl (And.intro (Vw.same _ rfl) (And.intro (Vw.same _ rfl) (And.intro (Vw.osl _ _ _ _ rfl) (And.intro (Vw.same _ rfl) (And.intro (Vw.same _ rfl) (And.intro (Vw.ptr _ _ _ _ rfl) (And.intro (Vw.same _ rfl) (And.intro (Vw.same _ rfl) (And.intro (Vw.same _ rfl) trivial))))))))) (And.intro (And.intro rfl BVw.tok) (And.intro (And.intro rfl (BVw.oneL (And.intro (Vw.same _ rfl) (And.intro (Vw.osl _ _ _ _ rfl) trivial)))) (And.intro (And.intro rfl BVw.tok) trivial)))
  · have h := ite_ff h195 h
    refine skipI ?_
    refine LWp.sim ?_ (f9_j52_ok h)
    exact simI (M := [((0, 0), (0, 0)), ((1, 0), (1, 0)), ((2, 0), (3, 0))]) rfl (And.intro (Vw.same _ rfl) (And.intro (Vw.same _ rfl) (And.intro (Vw.osl _ _ _ _ rfl) (And.intro (Vw.same _ rfl) (And.intro (Vw.same _ rfl) (And.intro (Vw.ptr _ _ _ _ rfl) (And.intro (Vw.same _ rfl) (And.intro (Vw.same _ rfl) (And.intro (Vw.same _ rfl) trivial))))))))) (And.intro (And.intro rfl BVw.tok) (And.intro (And.intro rfl (BVw.oneL (And.intro (Vw.same _ rfl) (And.intro (Vw.osl _ _ _ _ rfl) trivial)))) (And.intro (And.intro rfl BVw.tok) trivial)))

theorem f9_L16_bok {a0 : List G_QFileEvent} {a1 : Int} {v45 : List G_QFileBatch} {v46 : Int} {v91 : Int} {v92 : (List (List UInt8))} {v106 : Int} {v107 : List G_QFileEvent} {v124 : Int} {v125 : Int} {v126 : Int} {m : Option Nat} {o : (Int × Int × Int) ⊕ ((Int × (List G_QFileEvent)) ⊕ (((List G_QFileBatch) × Int) ⊕ (List G_QFileBatch)))} (h : S_glossatorref3_Batches_b16 m a0 a1 v45 v46 v91 v92 v106 v107 v124 v125 v126 = some o) :
    LWp Try.prog f9_lay 0 f9_c4 (BodyQ 0 4 (f9_L16_env a0 a1 v45 v46 v91 v92 v106 v107) (f9_L16_hp a0 a1 v45 v46 v91 v92 v106 v107) (f9_L16_Q a0 a1 v45 v46 v91 v92) o) [(0, .isl 3 (a0.map e_QFileEvent) false), (1, .int .i64 a1), (5, .osl (0, 0) 2 (v45.map e_QFileBatch)), (6, .int .i64 v46), (7, .int .i64 v91), (8, .ptr (1, 0) 0 0), (10, .str (v92.getD v106.toNat default)), (11, .ptr (2, 0) 0 0), (55, .isl 1 (v92.map e_str) false), (56, .int .i64 ((v92.map e_str).length : Int)), (57, .int .i64 v106), (66, .isl 3 (((a0.take v91.toNat).drop v46.toNat).map e_QFileEvent) false), (67, .int .i64 ((((a0.take v91.toNat).drop v46.toNat).map e_QFileEvent).length : Int)), (68, .int .i64 v124)] [((0, 0), .tok), ((1, 0), .one [.int .i64 (W ((a0.getD ((W (v91 - 1)).toNat) default).f_Time + a1)), .osl (3, 0) 3 (v107.map e_QFileEvent)]), ((2, 0), .one [.int .i64 v125, .str (v92.getD v106.toNat default), .int .i64 v126]), ((3, 0), .tok)] 4 := by
  unfold S_glossatorref3_Batches_b16 at h
  refine seqI ?_
  refine regI ?_
  refine seqI ?_
  refine condI (v := (decide (v124 < ((((a0.take v91.toNat).drop v46.toNat).map e_QFileEvent).length : Int)))) rfl trivial (fun h191 => ?_) (fun h191 => ?_)
  · have h := ite_tt h191 h
    refine skipI ?_
    refine seqI ?_
    refine blockI ?_
    refine seqI ?_
    refine regI ?_
    obtain ⟨h192, h⟩ := ite_some h
    refine And.intro h192 ?_
    refine Exists.intro (e_QFileEvent (((a0.take v91.toNat).drop v46.toNat).getD v124.toNat default)) (And.intro (getD_enc e_QFileEvent _ _ (idx_ltL e_QFileEvent h192)) (And.intro (And.intro (idx_lt h192) (Nat.le_of_ble_eq_true rfl)) ?_))
    refine seqI ?_
    refine regI ?_
    refine LWp.sim (e := [(0, .isl 3 (a0.map e_QFileEvent) false), (1, .int .i64 a1), (5, .osl (0, 0) 2 (v45.map e_QFileBatch)), (6, .int .i64 v46), (7, .int .i64 v91), (8, .ptr (1, 0) 0 0), (10, .str (v92.getD v106.toNat default)), (11, .ptr (2, 0) 0 0), (13, .ptr (3, 0) 0 0), (55, .isl 1 (v92.map e_str) false), (56, .int .i64 ((v92.map e_str).length : Int)), (57, .int .i64 v106), (66, .isl 3 (((a0.take v91.toNat).drop v46.toNat).map e_QFileEvent) false), (67, .int .i64 ((((a0.take v91.toNat).drop v46.toNat).map e_QFileEvent).length : Int)), (68, .int .i64 v124), (75, .bool ((((a0.take v91.toNat).drop v46.toNat).getD v124.toNat default).f_Path == (v92.getD v106.toNat default)))]) (L := [((0, 0), .tok), ((1, 0), .one [.int .i64 (W ((a0.getD ((W (v91 - 1)).toNat) default).f_Time + a1)), .osl (4, 0) 3 (v107.map e_QFileEvent)]), ((2, 0), .one [.int .i64 v125, .str (v92.getD v106.toNat default), .int .i64 v126]), ((3, 0), .one [.int .i64 ((((a0.take v91.toNat).drop v46.toNat).getD v124.toNat default).f_Time), .str ((((a0.take v91.toNat).drop v46.toNat).getD v124.toNat default).f_Path), .int .i64 ((((a0.take v91.toNat).drop v46.toNat).getD v124.toNat default).f_Kind)]), ((4, 0), .tok)]) (n := 5) ?_ ?_
    · exact simI (M := [((0, 0), (0, 0)), ((1, 0), (1, 0)), ((2, 0), (2, 0)), ((3, 0), (4, 0)), ((4, 0), (3, 0))]) rfl (And.intro (Vw.same _ rfl) (And.intro (Vw.same _ rfl) (And.intro (Vw.osl _ _ _ _ rfl) (And.intro (Vw.same _ rfl) (And.intro (Vw.same _ rfl) (And.intro (Vw.ptr _ _ _ _ rfl) (And.intro (Vw.same _ rfl) (And.intro (Vw.ptr _ _ _ _ rfl) (And.intro (Vw.ptr _ _ _ _ rfl) (And.intro (Vw.same _ rfl) (And.intro (Vw.same _ rfl) (And.intro (Vw.same _ rfl) (And.intro (Vw.same _ rfl) (And.intro (Vw.same _ rfl) (And.intro (Vw.same _ rfl) (And.intro (Vw.same _ rfl) trivial)))))))))))))))) (And.intro (And.intro rfl BVw.tok) (And.intro (And.intro rfl (BVw.oneL (And.intro (Vw.same _ rfl) (And.intro (Vw.osl _ _ _ _ rfl) trivial)))) (And.intro (And.intro rfl (BVw.oneL (And.intro (Vw.same _ rfl) (And.intro (Vw.same _ rfl) (And.intro (Vw.same _ rfl) trivial))))) (And.intro (And.intro rfl (BVw.oneL (And.intro (Vw.same _ rfl) (And.intro (Vw.same _ rfl) (And.intro (Vw.same _ rfl) trivial))))) (And.intro (And.intro rfl BVw.tok) trivial)))))
    refine condI (v := ((((a0.take v91.toNat).drop v46.toNat).getD v124.toNat default).f_Path == (v92.getD v106.toNat default))) rfl trivial (fun h193 => ?_) (fun h193 => ?_)
    · have h := ite_tt h193 h
      refine drawI ?_
      obtain ⟨v130, h194, h⟩ := bind_some h
      refine PFn.call (f11_ok h194) (And.intro (Vw.same _ rfl) (And.intro (Vw.same _ rfl) trivial)) ?_
      refine And.intro rfl ?_
      refine And.intro rfl ?_
      refine LWp.sim ?_ (f9_j50_ok h)
      exact simI (M := [((0, 0), (0, 0)), ((1, 0), (1, 0)), ((2, 0), (2, 0)), ((3, 0), (4, 0))]) rfl (And.intro (Vw.same _ rfl) (And.intro (Vw.same _ rfl) (And.intro (Vw.osl _ _ _ _ rfl) (And.intro (Vw.same _ rfl) (And.intro (Vw.same _ rfl) (And.intro (Vw.ptr _ _ _ _ rfl) (And.intro (Vw.same _ rfl) (And.intro (Vw.ptr _ _ _ _ rfl) (And.intro (Vw.same _ rfl) (And.intro (Vw.same _ rfl) (And.intro (Vw.same _ rfl) (And.intro (Vw.same _ rfl) (And.intro (Vw.same _ rfl) (And.intro (Vw.same _ rfl) trivial)))))))))))))) (And.intro (And.intro rfl BVw.tok) (And.intro (And.intro rfl (BVw.oneL (And.intro (Vw.same _ rfl) (And.intro (Vw.osl _ _ _ _ rfl) trivial)))) (And.intro (And.intro rfl (BVw.oneL (And.intro (Vw.same _ rfl) (And.intro (Vw.same _ rfl) (And.intro (Vw.same _ rfl) trivial))))) (And.intro (And.intro rfl BVw.tok) trivial))))
    · have h := ite_ff h193 h
      refine skipI ?_
      refine LWp.sim ?_ (f9_j50_ok h)
      exact simI (M := [((0, 0), (0, 0)), ((1, 0), (1, 0)), ((2, 0), (2, 0)), ((3, 0), (4, 0))]) rfl (And.intro (Vw.same _ rfl) (And.intro (Vw.same _ rfl) (And.intro (Vw.osl _ _ _ _ rfl) (And.intro (Vw.same _ rfl) (And.intro (Vw.same _ rfl) (And.intro (Vw.ptr _ _ _ _ rfl) (And.intro (Vw.same _ rfl) (And.intro (Vw.ptr _ _ _ _ rfl) (And.intro (Vw.same _ rfl) (And.intro (Vw.same _ rfl) (And.intro (Vw.same _ rfl) (And.intro (Vw.same _ rfl) (And.intro (Vw.same _ rfl) (And.intro (Vw.same _ rfl) trivial)))))))))))))) (And.intro (And.intro rfl BVw.tok) (And.intro (And.intro rfl (BVw.oneL (And.intro (Vw.same _ rfl) (And.intro (Vw.osl _ _ _ _ rfl) trivial)))) (And.intro (And.intro rfl (BVw.oneL (And.intro (Vw.same _ rfl) (And.intro (Vw.same _ rfl) (And.intro (Vw.same _ rfl) trivial))))) (And.intro (And.intro rfl BVw.tok) trivial))))
  · have h := ite_ff h191 h
    refine exitI ?_
    obtain ⟨o, hq, rfl⟩ := Option.map_eq_some_iff.1 h
    replace h := hq; clear hq
    refine And.intro nofun ?_
    refine LWp.sim ?_ (f9_j51_ok h)
    exact simI (M := [((0, 0), (0, 0)), ((1, 0), (1, 0)), ((2, 0), (2, 0)), ((3, 0), (3, 0))]) rfl (And.intro (Vw.same _ rfl) (And.intro (Vw.same _ rfl) (And.intro (Vw.osl _ _ _ _ rfl) (And.intro (Vw.same _ rfl) (And.intro (Vw.same _ rfl) (And.intro (Vw.ptr _ _ _ _ rfl) (And.intro (Vw.ptr _ _ _ _ rfl) (And.intro (Vw.same _ rfl) (And.intro (Vw.same _ rfl) (And.intro (Vw.same _ rfl) trivial)))))))))) (And.intro (And.intro rfl BVw.tok) (And.intro (And.intro rfl (BVw.oneL (And.intro (Vw.same _ rfl) (And.intro (Vw.osl _ _ _ _ rfl) trivial)))) (And.intro (And.intro rfl (BVw.oneL (And.intro (Vw.same _ rfl) (And.intro (Vw.same _ rfl) (And.intro (Vw.same _ rfl) trivial))))) (And.intro (And.intro rfl BVw.tok) trivial))))

theorem f9_L16_ok {a0 : List G_QFileEvent} {a1 : Int} {v45 : List G_QFileBatch} {v46 : Int} {v91 : Int} {v92 : (List (List UInt8))} {v106 : Int} {v107 : List G_QFileEvent} {v124 : Int} {v125 : Int} {v126 : Int} {m : Option Nat} {o : ((Int × (List G_QFileEvent)) ⊕ (((List G_QFileBatch) × Int) ⊕ (List G_QFileBatch)))} (h : S_glossatorref3_Batches_l16 m a0 a1 v45 v46 v91 v92 v106 v107 v124 v125 v126 = some o) :
    LWp Try.prog f9_lay 0 (.loop f9_c4) (QBlock 6 (QSeq Try.prog f9_lay 0 f9_c2 (QBlock 5 (QSeq Try.prog f9_lay 0 f9_c3 (BodyQ 0 3 (f9_L15_env a0 a1 v45 v46 v91 v92) (f9_L15_hp a0 a1 v45 v46 v91 v92) (f9_L15_Q a0 a1) o))))) [(0, .isl 3 (a0.map e_QFileEvent) false), (1, .int .i64 a1), (5, .osl (0, 0) 2 (v45.map e_QFileBatch)), (6, .int .i64 v46), (7, .int .i64 v91), (8, .ptr (1, 0) 0 0), (10, .str (v92.getD v106.toNat default)), (11, .ptr (2, 0) 0 0), (55, .isl 1 (v92.map e_str) false), (56, .int .i64 ((v92.map e_str).length : Int)), (57, .int .i64 v106), (66, .isl 3 (((a0.take v91.toNat).drop v46.toNat).map e_QFileEvent) false), (67, .int .i64 ((((a0.take v91.toNat).drop v46.toNat).map e_QFileEvent).length : Int)), (68, .int .i64 v124)] [((0, 0), .tok), ((1, 0), .one [.int .i64 (W ((a0.getD ((W (v91 - 1)).toNat) default).f_Time + a1)), .osl (3, 0) 3 (v107.map e_QFileEvent)]), ((2, 0), .one [.int .i64 v125, .str (v92.getD v106.toNat default), .int .i64 v126]), ((3, 0), .tok)] 4 :=
  LWp_loopM (m := m) (s := ((v124, v125, v126) : (Int × Int × Int))) (r := o) (fun (s : (Int × Int × Int)) => S_glossatorref3_Batches_b16 m a0 a1 v45 v46 v91 v92 v106 v107 s.1 s.2.1 s.2.2) (f9_L16_env a0 a1 v45 v46 v91 v92 v106 v107) (f9_L16_hp a0 a1 v45 v46 v91 v92 v106 v107) (f9_L16_Q a0 a1 v45 v46 v91 v92) (fun s o h => f9_L16_bok h) h

theorem f9_j54_ok {a0 : List G_QFileEvent} {a1 : Int} {v91 : Int} {v134 : List G_QFileBatch} {m : Option Nat} {o : (((List G_QFileBatch) × Int) ⊕ (List G_QFileBatch))} (h : S_glossatorref3_Batches_j54 m a0 a1 v91 v134 = some o) :
    LWp Try.prog f9_lay 0 f9_c9 (QBlock 1 (BodyQ 0 1 (f9_L11_env a0 a1) (f9_L11_hp a0 a1) (f9_L11_Q a0 a1) o)) [(0, .isl 3 (a0.map e_QFileEvent) false), (1, .int .i64 a1), (5, .osl (0, 0) 2 (v134.map e_QFileBatch)), (7, .int .i64 v91)] [((0, 0), .tok)] 1 := by
  unfold S_glossatorref3_Batches_j54 at h
  refine regI ?_
  cases h
  exact And.intro rfl (simI (M := [((0, 0), (0, 0))]) rfl (And.intro (Vw.same _ rfl) (And.intro (Vw.same _ rfl) (And.intro (Vw.osl _ _ _ _ rfl) (And.intro (Vw.same _ rfl) trivial)))) (And.intro (And.intro rfl BVw.tok) trivial))

theorem f9_j53_ok {a0 : List G_QFileEvent} {a1 : Int} {v45 : List G_QFileBatch} {v91 : Int} {v107 : List G_QFileEvent} {m : Option Nat} {o : (((List G_QFileBatch) × Int) ⊕ (List G_QFileBatch))} (h : S_glossatorref3_Batches_j53 m a0 a1 v45 v91 v107 = some o) :
    LWp Try.prog f9_lay 0 f9_c5 (QBlock 1 (BodyQ 0 1 (f9_L11_env a0 a1) (f9_L11_hp a0 a1) (f9_L11_Q a0 a1) o)) [(0, .isl 3 (a0.map e_QFileEvent) false), (1, .int .i64 a1), (5, .osl (0, 0) 2 (v45.map e_QFileBatch)), (7, .int .i64 v91), (8, .ptr (1, 0) 0 0)] [((0, 0), .tok), ((1, 0), .one [.int .i64 (W ((a0.getD ((W (v91 - 1)).toNat) default).f_Time + a1)), .osl (2, 0) 3 (v107.map e_QFileEvent)]), ((2, 0), .tok)] 3 := by
  unfold S_glossatorref3_Batches_j53 at h
  refine seqI ?_
  refine seqI ?_
  refine regI ?_
  refine condI (v := (decide (((v107.map e_QFileEvent).length : Int) > 0))) rfl trivial (fun h197 => ?_) (fun h197 => ?_)
  · have h := ite_tt h197 h
    refine regI ?_
    obtain ⟨h198, h⟩ := ite_some h
    refine Exists.intro ((v45 ++ ([(G_QFileBatch.mk (W ((a0.getD ((W (v91 - 1)).toNat) default).f_Time + a1)) v107)] : List G_QFileBatch)).map e_QFileBatch) (And.intro (app_enc e_QFileBatch v45 ([(G_QFileBatch.mk (W ((a0.getD ((W (v91 - 1)).toNat) default).f_Time + a1)) v107)] : List G_QFileBatch)) (And.intro h198 ?_))
    refine LWp.sim ?_ (f9_j54_ok h)
    exact simI (M := [((0, 0), (3, 0))]) rfl (And.intro (Vw.same _ rfl) (And.intro (Vw.same _ rfl) (And.intro (Vw.osl _ _ _ _ rfl) (And.intro (Vw.same _ rfl) trivial)))) (And.intro (And.intro rfl BVw.tok) trivial)
  · have h := ite_ff h197 h
    refine skipI ?_
    refine LWp.sim ?_ (f9_j54_ok h)
    exact simI (M := [((0, 0), (0, 0))]) rfl (And.intro (Vw.same _ rfl) (And.intro (Vw.same _ rfl) (And.intro (Vw.osl _ _ _ _ rfl) (And.intro (Vw.same _ rfl) trivial)))) (And.intro (And.intro rfl BVw.tok) trivial)

theorem f9_L15_bok {a0 : List G_QFileEvent} {a1 : Int} {v45 : List G_QFileBatch} {v46 : Int} {v91 : Int} {v92 : (List (List UInt8))} {v106 : Int} {v107 : List G_QFileEvent} {m : Option Nat} {o : (Int × (List G_QFileEvent)) ⊕ (((List G_QFileBatch) × Int) ⊕ (List G_QFileBatch))} (h : S_glossatorref3_Batches_b15 m a0 a1 v45 v46 v91 v92 v106 v107 = some o) :
    LWp Try.prog f9_lay 0 f9_c6 (BodyQ 0 3 (f9_L15_env a0 a1 v45 v46 v91 v92) (f9_L15_hp a0 a1 v45 v46 v91 v92) (f9_L15_Q a0 a1) o) [(0, .isl 3 (a0.map e_QFileEvent) false), (1, .int .i64 a1), (5, .osl (0, 0) 2 (v45.map e_QFileBatch)), (6, .int .i64 v46), (7, .int .i64 v91), (8, .ptr (1, 0) 0 0), (55, .isl 1 (v92.map e_str) false), (56, .int .i64 ((v92.map e_str).length : Int)), (57, .int .i64 v106)] [((0, 0), .tok), ((1, 0), .one [.int .i64 (W ((a0.getD ((W (v91 - 1)).toNat) default).f_Time + a1)), .osl (2, 0) 3 (v107.map e_QFileEvent)]), ((2, 0), .tok)] 3 := by
  unfold S_glossatorref3_Batches_b15 at h
  refine seqI ?_
  refine regI ?_
  refine seqI ?_
  refine condI (v := (decide (v106 < ((v92.map e_str).length : Int)))) rfl trivial (fun h180 => ?_) (fun h180 => ?_)
  · have h := ite_tt h180 h
    refine skipI ?_
    refine seqI ?_
    refine blockI ?_
    refine seqI ?_
    refine regI ?_
    obtain ⟨h181, h⟩ := ite_some h
    refine And.intro h181 ?_
    refine Exists.intro (e_str (v92.getD v106.toNat default)) (And.intro (getD_enc e_str _ _ (idx_ltL e_str h181)) (And.intro (And.intro (idx_lt h181) (Nat.le_of_ble_eq_true rfl)) ?_))
    refine seqI ?_
    refine regI ?_
    refine LWp.sim (e := [(0, .isl 3 (a0.map e_QFileEvent) false), (1, .int .i64 a1), (5, .osl (0, 0) 2 (v45.map e_QFileBatch)), (6, .int .i64 v46), (7, .int .i64 v91), (8, .ptr (1, 0) 0 0), (10, .str (v92.getD v106.toNat default)), (11, .ptr (2, 0) 0 0), (55, .isl 1 (v92.map e_str) false), (56, .int .i64 ((v92.map e_str).length : Int)), (57, .int .i64 v106)]) (L := [((0, 0), .tok), ((1, 0), .one [.int .i64 (W ((a0.getD ((W (v91 - 1)).toNat) default).f_Time + a1)), .osl (3, 0) 3 (v107.map e_QFileEvent)]), ((2, 0), .one [.int .i64 0, .str (v92.getD v106.toNat default), .int .i64 0]), ((3, 0), .tok)]) (n := 4) ?_ ?_
    · exact simI (M := [((0, 0), (0, 0)), ((1, 0), (1, 0)), ((2, 0), (3, 0)), ((3, 0), (2, 0))]) rfl (And.intro (Vw.same _ rfl) (And.intro (Vw.same _ rfl) (And.intro (Vw.osl _ _ _ _ rfl) (And.intro (Vw.same _ rfl) (And.intro (Vw.same _ rfl) (And.intro (Vw.ptr _ _ _ _ rfl) (And.intro (Vw.same _ rfl) (And.intro (Vw.ptr _ _ _ _ rfl) (And.intro (Vw.same _ rfl) (And.intro (Vw.same _ rfl) (And.intro (Vw.same _ rfl) trivial))))))))))) (And.intro (And.intro rfl BVw.tok) (And.intro (And.intro rfl (BVw.oneL (And.intro (Vw.same _ rfl) (And.intro (Vw.osl _ _ _ _ rfl) trivial)))) (And.intro (And.intro rfl (BVw.oneL (And.intro (Vw.same _ rfl) (And.intro (Vw.same _ rfl) (And.intro (Vw.same _ rfl) trivial))))) (And.intro (And.intro rfl BVw.tok) trivial))))
    refine seqI ?_
    refine seqI ?_
    refine regI ?_
    obtain ⟨h182, h⟩ := ite_some h
    refine Exists.intro (.isl 3 (((a0.take v91.toNat).drop v46.toNat).map e_QFileEvent) false) (And.intro (sl_eq e_QFileEvent (slAB e_QFileEvent a0 _ _) rfl) (And.intro (And.intro rfl h182) ?_))
    refine blockI ?_
    refine LWp.sim ?_ (f9_L16_ok h)
    exact simI (M := [((0, 0), (0, 0)), ((1, 0), (1, 0)), ((2, 0), (2, 0)), ((3, 0), (3, 0))]) rfl (And.intro (Vw.same _ rfl) (And.intro (Vw.same _ rfl) (And.intro (Vw.osl _ _ _ _ rfl) (And.intro (Vw.same _ rfl) (And.intro (Vw.same _ rfl) (And.intro (Vw.ptr _ _ _ _ rfl) (And.intro (Vw.same _ rfl) (And.intro (Vw.ptr _ _ _ _ rfl) (And.intro (Vw.same _ rfl) (And.intro (Vw.same _ rfl) (And.intro (Vw.same _ rfl) (And.intro (Vw.same _ rfl) (And.intro (Vw.same _ rfl) (And.intro (Vw.same _ rfl) trivial)))))))))))))) (And.intro (And.intro rfl BVw.tok) (And.intro (And.intro rfl (BVw.oneL (And.intro (Vw.same _ rfl) (And.intro (Vw.osl _ _ _ _ rfl) trivial)))) (And.intro (And.intro rfl (BVw.oneL (And.intro (Vw.same _ rfl) (And.intro (Vw.same _ rfl) (And.intro (Vw.same _ rfl) trivial))))) (And.intro (And.intro rfl BVw.tok) trivial))))
  · have h := ite_ff h180 h
    refine exitI ?_
    obtain ⟨o, hq, rfl⟩ := Option.map_eq_some_iff.1 h
    replace h := hq; clear hq
    refine And.intro nofun ?_
    refine LWp.sim ?_ (f9_j53_ok h)
    exact simI (M := [((0, 0), (0, 0)), ((1, 0), (1, 0)), ((2, 0), (2, 0))]) rfl (And.intro (Vw.same _ rfl) (And.intro (Vw.same _ rfl) (And.intro (Vw.osl _ _ _ _ rfl) (And.intro (Vw.same _ rfl) (And.intro (Vw.ptr _ _ _ _ rfl) trivial))))) (And.intro (And.intro rfl BVw.tok) (And.intro (And.intro rfl (BVw.oneL (And.intro (Vw.same _ rfl) (And.intro (Vw.osl _ _ _ _ rfl) trivial)))) (And.intro (And.intro rfl BVw.tok) trivial)))

theorem f9_L15_ok {a0 : List G_QFileEvent} {a1 : Int} {v45 : List G_QFileBatch} {v46 : Int} {v91 : Int} {v92 : (List (List UInt8))} {v106 : Int} {v107 : List G_QFileEvent} {m : Option Nat} {o : (((List G_QFileBatch) × Int) ⊕ (List G_QFileBatch))} (h : S_glossatorref3_Batches_l15 m a0 a1 v45 v46 v91 v92 v106 v107 = some o) :
    LWp Try.prog f9_lay 0 (.loop f9_c6) (QBlock 4 (QSeq Try.prog f9_lay 0 f9_c5 (QBlock 1 (BodyQ 0 1 (f9_L11_env a0 a1) (f9_L11_hp a0 a1) (f9_L11_Q a0 a1) o)))) [(0, .isl 3 (a0.map e_QFileEvent) false), (1, .int .i64 a1), (5, .osl (0, 0) 2 (v45.map e_QFileBatch)), (6, .int .i64 v46), (7, .int .i64 v91), (8, .ptr (1, 0) 0 0), (55, .isl 1 (v92.map e_str) false), (56, .int .i64 ((v92.map e_str).length : Int)), (57, .int .i64 v106)] [((0, 0), .tok), ((1, 0), .one [.int .i64 (W ((a0.getD ((W (v91 - 1)).toNat) default).f_Time + a1)), .osl (2, 0) 3 (v107.map e_QFileEvent)]), ((2, 0), .tok)] 3 :=
  LWp_loopM (m := m) (s := ((v106, v107) : (Int × (List G_QFileEvent)))) (r := o) (fun (s : (Int × (List G_QFileEvent))) => S_glossatorref3_Batches_b15 m a0 a1 v45 v46 v91 v92 s.1 s.2) (f9_L15_env a0 a1 v45 v46 v91 v92) (f9_L15_hp a0 a1 v45 v46 v91 v92) (f9_L15_Q a0 a1) (fun s o h => f9_L15_bok h) h

theorem f9_j37_ok {a0 : List G_QFileEvent} {a1 : Int} {v45 : List G_QFileBatch} {v46 : Int} {v91 : Int} {m : Option Nat} {o : (((List G_QFileBatch) × Int) ⊕ (List G_QFileBatch))} (h : S_glossatorref3_Batches_j37 m a0 a1 v45 v46 v91 = some o) :
    LWp Try.prog f9_lay 0 f9_c0 (QBlock 1 (BodyQ 0 1 (f9_L11_env a0 a1) (f9_L11_hp a0 a1) (f9_L11_Q a0 a1) o)) [(0, .isl 3 (a0.map e_QFileEvent) false), (1, .int .i64 a1), (5, .osl (0, 0) 2 (v45.map e_QFileBatch)), (6, .int .i64 v46), (7, .int .i64 v91)] [((0, 0), .tok)] 1 := by
  unfold S_glossatorref3_Batches_j37 at h
  refine seqI ?_
  refine regI ?_
  obtain ⟨h143, h⟩ := ite_some h
  refine And.intro h143 ?_
  refine Exists.intro (e_QFileEvent (a0.getD ((W (v91 - 1)).toNat) default)) (And.intro (getD_enc e_QFileEvent _ _ (idx_ltL e_QFileEvent h143)) (And.intro (And.intro (idx_lt h143) (Nat.le_of_ble_eq_true rfl)) ?_))
  refine LWp.sim (e := [(0, .isl 3 (a0.map e_QFileEvent) false), (1, .int .i64 a1), (5, .osl (0, 0) 2 (v45.map e_QFileBatch)), (6, .int .i64 v46), (7, .int .i64 v91), (8, .ptr (1, 0) 0 0)]) (L := [((0, 0), .tok), ((1, 0), .one [.int .i64 (W ((a0.getD ((W (v91 - 1)).toNat) default).f_Time + a1)), .isl 3 (([] : List G_QFileEvent).map e_QFileEvent) true])]) (n := 2) ?_ ?_
  · exact simI (M := [((0, 0), (0, 0)), ((1, 0), (1, 0))]) rfl (And.intro (Vw.same _ rfl) (And.intro (Vw.same _ rfl) (And.intro (Vw.osl _ _ _ _ rfl) (And.intro (Vw.same _ rfl) (And.intro (Vw.same _ rfl) (And.intro (Vw.ptr _ _ _ _ rfl) trivial)))))) (And.intro (And.intro rfl BVw.tok) (And.intro (And.intro rfl (BVw.oneL (And.intro (Vw.same _ rfl) (And.intro (Vw.same _ rfl) trivial)))) trivial))
  refine seqI ?_
  refine seqI ?_
  refine regI ?_
  obtain ⟨h144, h⟩ := ite_some h
  refine Exists.intro (.isl 3 (((a0.take v91.toNat).drop v46.toNat).map e_QFileEvent) false) (And.intro (sl_eq e_QFileEvent (slAB e_QFileEvent a0 _ _) rfl) (And.intro (And.intro rfl h144) ?_))
  obtain ⟨v92, h145, h⟩ := bind_some h
  refine PFn.call (f25_ok h145) (And.intro (Vw.same _ rfl) trivial) ?_
  show yops _ _ _ [(55, .isl 1 (v92.map e_str) false), (54, .isl 3 (((a0.take v91.toNat).drop v46.toNat).map e_QFileEvent) false), (53, .int .i64 v91), (52, .int .i64 v46), (51, .isl 3 (a0.map e_QFileEvent) false), (0, .isl 3 (a0.map e_QFileEvent) false), (1, .int .i64 a1), (5, .osl (0, 0) 2 (v45.map e_QFileBatch)), (6, .int .i64 v46), (7, .int .i64 v91), (8, .ptr (1, 0) 0 0)] _ _
  refine blockI ?_
  refine LWp.sim ?_ (f9_L15_ok h)
  exact simI (M := [((0, 0), (0, 0)), ((1, 0), (1, 0))]) rfl (And.intro (Vw.same _ rfl) (And.intro (Vw.same _ rfl) (And.intro (Vw.osl _ _ _ _ rfl) (And.intro (Vw.same _ rfl) (And.intro (Vw.same _ rfl) (And.intro (Vw.ptr _ _ _ _ rfl) (And.intro (Vw.same _ rfl) (And.intro (Vw.same _ rfl) (And.intro (Vw.same _ rfl) trivial))))))))) (And.intro (And.intro rfl BVw.tok) (And.intro (And.intro rfl (BVw.oneL (And.intro (Vw.same _ rfl) (And.intro (Vw.islO _ _ _ (by decide)) trivial)))) (And.intro (And.intro rfl (And.intro (by decide) (by decide))) trivial)))

theorem f9_L12_bok {a0 : List G_QFileEvent} {a1 : Int} {v45 : List G_QFileBatch} {v46 : Int} {v91 : Int} {m : Option Nat} {o : Int ⊕ (((List G_QFileBatch) × Int) ⊕ (List G_QFileBatch))} (h : S_glossatorref3_Batches_b12 m a0 a1 v45 v46 v91 = some o) :
    LWp Try.prog f9_lay 0 f9_c1 (BodyQ 0 1 (f9_L12_env a0 a1 v45 v46) (f9_L12_hp a0 a1 v45 v46) (f9_L12_Q a0 a1) o) [(0, .isl 3 (a0.map e_QFileEvent) false), (1, .int .i64 a1), (5, .osl (0, 0) 2 (v45.map e_QFileBatch)), (6, .int .i64 v46), (7, .int .i64 v91)] [((0, 0), .tok)] 1 := by
  unfold S_glossatorref3_Batches_b12 at h
  refine seqI ?_
  refine seqI ?_
  refine quietI ?_
  obtain ⟨h140, h⟩ := ite_some h
  refine And.intro (fun hp => (And.intro (And.intro hp hp) (h140 hp))) ?_
  show yqs _ _ [(27, .cnd ((decide (v91 < ((a0.map e_QFileEvent).length : Int))) == true) (.iptr 3 (a0.map e_QFileEvent) v91.toNat 0)), (26, .cnd ((decide (v91 < ((a0.map e_QFileEvent).length : Int))) == true) (.int .i64 v91)), (25, .cnd ((decide (v91 < ((a0.map e_QFileEvent).length : Int))) == true) (.isl 3 (a0.map e_QFileEvent) false)), (24, .bool (decide (v91 < ((a0.map e_QFileEvent).length : Int)))), (23, .bool (decide (v91 < ((a0.map e_QFileEvent).length : Int)))), (22, .int .i64 ((a0.map e_QFileEvent).length : Int)), (21, .isl 3 (a0.map e_QFileEvent) false), (20, .int .i64 v91), (0, .isl 3 (a0.map e_QFileEvent) false), (1, .int .i64 a1), (5, .osl (0, 0) 2 (v45.map e_QFileBatch)), (6, .int .i64 v46), (7, .int .i64 v91)] _ _
  refine And.intro (fun hp => hp) ?_
  refine Exists.intro (e_QFileEvent (a0.getD v91.toNat default)) (And.intro (fun hp => And.intro (getD_enc e_QFileEvent _ _ (idx_ltL e_QFileEvent (h140 hp))) (And.intro hp (And.intro (idx_lt (h140 hp)) (Nat.le_of_ble_eq_true rfl)))) ?_)
  refine And.intro (fun hp => hp) ?_
  show yqs _ _ [(32, .cnd ((decide (v91 < ((a0.map e_QFileEvent).length : Int))) == true) (.int .i64 (W (v91 - 1)))), (31, .cnd ((decide (v91 < ((a0.map e_QFileEvent).length : Int))) == true) (.int .i64 v91)), (30, .cnd ((decide (v91 < ((a0.map e_QFileEvent).length : Int))) == true) (.isl 3 (a0.map e_QFileEvent) false)), (29, .cnd ((decide (v91 < ((a0.map e_QFileEvent).length : Int))) == true) (.int .i64 ((a0.getD v91.toNat default).f_Time))), (28, .cnd ((decide (v91 < ((a0.map e_QFileEvent).length : Int))) == true) (.iptr 3 (a0.map e_QFileEvent) v91.toNat 0)), (27, .cnd ((decide (v91 < ((a0.map e_QFileEvent).length : Int))) == true) (.iptr 3 (a0.map e_QFileEvent) v91.toNat 0)), (26, .cnd ((decide (v91 < ((a0.map e_QFileEvent).length : Int))) == true) (.int .i64 v91)), (25, .cnd ((decide (v91 < ((a0.map e_QFileEvent).length : Int))) == true) (.isl 3 (a0.map e_QFileEvent) false)), (24, .bool (decide (v91 < ((a0.map e_QFileEvent).length : Int)))), (23, .bool (decide (v91 < ((a0.map e_QFileEvent).length : Int)))), (22, .int .i64 ((a0.map e_QFileEvent).length : Int)), (21, .isl 3 (a0.map e_QFileEvent) false), (20, .int .i64 v91), (0, .isl 3 (a0.map e_QFileEvent) false), (1, .int .i64 a1), (5, .osl (0, 0) 2 (v45.map e_QFileBatch)), (6, .int .i64 v46), (7, .int .i64 v91)] _ _
  obtain ⟨h141, h⟩ := ite_some h
  refine And.intro (fun hp => (And.intro (And.intro hp hp) (h141 hp))) ?_
  refine And.intro (fun hp => hp) ?_
  refine Exists.intro (e_QFileEvent (a0.getD ((W (v91 - 1)).toNat) default)) (And.intro (fun hp => And.intro (getD_enc e_QFileEvent _ _ (idx_ltL e_QFileEvent (h141 hp))) (And.intro hp (And.intro (idx_lt (h141 hp)) (Nat.le_of_ble_eq_true rfl)))) ?_)
  refine And.intro (fun hp => (And.intro hp hp)) ?_
  refine And.intro (fun hp => (And.intro hp hp)) ?_
  show yqs _ _ [(38, .cnd ((decide (v91 < ((a0.map e_QFileEvent).length : Int))) == true) (.bool (decide ((W ((a0.getD v91.toNat default).f_Time - (a0.getD ((W (v91 - 1)).toNat) default).f_Time)) < a1)))), (37, .cnd ((decide (v91 < ((a0.map e_QFileEvent).length : Int))) == true) (.int .i64 a1)), (36, .cnd ((decide (v91 < ((a0.map e_QFileEvent).length : Int))) == true) (.int .i64 (W ((a0.getD v91.toNat default).f_Time - (a0.getD ((W (v91 - 1)).toNat) default).f_Time)))), (35, .cnd ((decide (v91 < ((a0.map e_QFileEvent).length : Int))) == true) (.int .i64 ((a0.getD ((W (v91 - 1)).toNat) default).f_Time))), (34, .cnd ((decide (v91 < ((a0.map e_QFileEvent).length : Int))) == true) (.iptr 3 (a0.map e_QFileEvent) ((W (v91 - 1)).toNat) 0)), (33, .cnd ((decide (v91 < ((a0.map e_QFileEvent).length : Int))) == true) (.iptr 3 (a0.map e_QFileEvent) ((W (v91 - 1)).toNat) 0)), (32, .cnd ((decide (v91 < ((a0.map e_QFileEvent).length : Int))) == true) (.int .i64 (W (v91 - 1)))), (31, .cnd ((decide (v91 < ((a0.map e_QFileEvent).length : Int))) == true) (.int .i64 v91)), (30, .cnd ((decide (v91 < ((a0.map e_QFileEvent).length : Int))) == true) (.isl 3 (a0.map e_QFileEvent) false)), (29, .cnd ((decide (v91 < ((a0.map e_QFileEvent).length : Int))) == true) (.int .i64 ((a0.getD v91.toNat default).f_Time))), (28, .cnd ((decide (v91 < ((a0.map e_QFileEvent).length : Int))) == true) (.iptr 3 (a0.map e_QFileEvent) v91.toNat 0)), (27, .cnd ((decide (v91 < ((a0.map e_QFileEvent).length : Int))) == true) (.iptr 3 (a0.map e_QFileEvent) v91.toNat 0)), (26, .cnd ((decide (v91 < ((a0.map e_QFileEvent).length : Int))) == true) (.int .i64 v91)), (25, .cnd ((decide (v91 < ((a0.map e_QFileEvent).length : Int))) == true) (.isl 3 (a0.map e_QFileEvent) false)), (24, .bool (decide (v91 < ((a0.map e_QFileEvent).length : Int)))), (23, .bool (decide (v91 < ((a0.map e_QFileEvent).length : Int)))), (22, .int .i64 ((a0.map e_QFileEvent).length : Int)), (21, .isl 3 (a0.map e_QFileEvent) false), (20, .int .i64 v91), (0, .isl 3 (a0.map e_QFileEvent) false), (1, .int .i64 a1), (5, .osl (0, 0) 2 (v45.map e_QFileBatch)), (6, .int .i64 v46), (7, .int .i64 v91)] _ _
  refine And.intro (fun hc => (bqt hc)) ?_
  refine LWp.sim (e := [(0, .isl 3 (a0.map e_QFileEvent) false), (1, .int .i64 a1), (5, .osl (0, 0) 2 (v45.map e_QFileBatch)), (6, .int .i64 v46), (7, .int .i64 v91), (39, .bool ((decide (v91 < ((a0.map e_QFileEvent).length : Int))) && (decide ((W ((a0.getD v91.toNat default).f_Time - (a0.getD ((W (v91 - 1)).toNat) default).f_Time)) < a1))))]) (L := [((0, 0), .tok)]) (n := 1) ?_ ?_
  · exact simI (M := [((0, 0), (0, 0))]) rfl (And.intro (Vw.same _ rfl) (And.intro (Vw.same _ rfl) (And.intro (Vw.osl _ _ _ _ rfl) (And.intro (Vw.same _ rfl) (And.intro (Vw.same _ rfl) (And.intro (Vw.same _ rfl) trivial)))))) (And.intro (And.intro rfl BVw.tok) trivial)
  refine condI (v := ((decide (v91 < ((a0.map e_QFileEvent).length : Int))) && (decide ((W ((a0.getD v91.toNat default).f_Time - (a0.getD ((W (v91 - 1)).toNat) default).f_Time)) < a1)))) rfl trivial (fun h142 => ?_) (fun h142 => ?_)
  · have h := ite_tt h142 h
    refine skipI ?_
    refine blockI ?_
    refine regI ?_
    cases h
    exact And.intro rfl (simI (M := [((0, 0), (0, 0))]) rfl (And.intro (Vw.same _ rfl) (And.intro (Vw.same _ rfl) (And.intro (Vw.osl _ _ _ _ rfl) (And.intro (Vw.same _ rfl) (And.intro (Vw.same _ rfl) trivial))))) (And.intro (And.intro rfl BVw.tok) trivial))
  · have h := ite_ff h142 h
    refine exitI ?_
    obtain ⟨o, hq, rfl⟩ := Option.map_eq_some_iff.1 h
    replace h := hq; clear hq
    refine And.intro nofun ?_
    refine LWp.sim ?_ (f9_j37_ok h)
    exact simI (M := [((0, 0), (0, 0))]) rfl (And.intro (Vw.same _ rfl) (And.intro (Vw.same _ rfl) (And.intro (Vw.osl _ _ _ _ rfl) (And.intro (Vw.same _ rfl) (And.intro (Vw.same _ rfl) trivial))))) (And.intro (And.intro rfl BVw.tok) trivial)

theorem f9_L12_ok {a0 : List G_QFileEvent} {a1 : Int} {v45 : List G_QFileBatch} {v46 : Int} {v91 : Int} {m : Option Nat} {o : (((List G_QFileBatch) × Int) ⊕ (List G_QFileBatch))} (h : S_glossatorref3_Batches_l12 m a0 a1 v45 v46 v91 = some o) :
    LWp Try.prog f9_lay 0 (.loop f9_c1) (QBlock 2 (QSeq Try.prog f9_lay 0 f9_c0 (QBlock 1 (BodyQ 0 1 (f9_L11_env a0 a1) (f9_L11_hp a0 a1) (f9_L11_Q a0 a1) o)))) [(0, .isl 3 (a0.map e_QFileEvent) false), (1, .int .i64 a1), (5, .osl (0, 0) 2 (v45.map e_QFileBatch)), (6, .int .i64 v46), (7, .int .i64 v91)] [((0, 0), .tok)] 1 :=
  LWp_loopM (m := m) (s := (v91 : Int)) (r := o) (fun (s : Int) => S_glossatorref3_Batches_b12 m a0 a1 v45 v46 s) (f9_L12_env a0 a1 v45 v46) (f9_L12_hp a0 a1 v45 v46) (f9_L12_Q a0 a1) (fun s o h => f9_L12_bok h) h

noncomputable def S_glossatorref3_Batches_j55 (m : Option Nat) (v45 : List G_QFileBatch) : Option (List G_QFileBatch) :=
  some v45

noncomputable def S_glossatorref3_Batches_b11 (m : Option Nat) (a0 : List G_QFileEvent) (a1 : Int) (v45 : List G_QFileBatch) (v46 : Int) : Option (((List G_QFileBatch) × Int) ⊕ (List G_QFileBatch)) :=
  if (decide (v46 < ((a0.map e_QFileEvent).length : Int))) = true then
    S_glossatorref3_Batches_l12 m a0 a1 v45 v46 (W (v46 + 1))
  else
    Option.map Sum.inr (
      S_glossatorref3_Batches_j55 m v45)

noncomputable def S_glossatorref3_Batches_l11 (m : Option Nat) (a0 : List G_QFileEvent) (a1 : Int) (v45 : List G_QFileBatch) (v46 : Int) : Option (List G_QFileBatch) := loopM m (fun (s : ((List G_QFileBatch) × Int)) => S_glossatorref3_Batches_b11 m a0 a1 s.1 s.2) (v45, v46)

theorem f9_j55_ok {a0 : List G_QFileEvent} {a1 : Int} {v45 : List G_QFileBatch} {m : Option Nat} {o : (List G_QFileBatch)} (h : S_glossatorref3_Batches_j55 m v45 = some o) :
    LWp Try.prog f9_lay 0 f9_c7 (f9_Q a0 a1 o) [(5, .osl (0, 0) 2 (v45.map e_QFileBatch))] [((0, 0), .tok)] 1 := by
  unfold S_glossatorref3_Batches_j55 at h
  refine seqI ?_
  refine regI ?_
  refine retI ?_
  cases h
  exact And.intro trivial (And.intro rfl (Vw.oslI _ _ _))

theorem f9_L11_bok {a0 : List G_QFileEvent} {a1 : Int} {v45 : List G_QFileBatch} {v46 : Int} {m : Option Nat} {o : ((List G_QFileBatch) × Int) ⊕ (List G_QFileBatch)} (h : S_glossatorref3_Batches_b11 m a0 a1 v45 v46 = some o) :
    LWp Try.prog f9_lay 0 f9_c10 (BodyQ 0 1 (f9_L11_env a0 a1) (f9_L11_hp a0 a1) (f9_L11_Q a0 a1) o) [(0, .isl 3 (a0.map e_QFileEvent) false), (1, .int .i64 a1), (5, .osl (0, 0) 2 (v45.map e_QFileBatch)), (6, .int .i64 v46)] [((0, 0), .tok)] 1 := by
  unfold S_glossatorref3_Batches_b11 at h
  refine seqI ?_
  refine seqI ?_
  refine regI ?_
  refine condI (v := (decide (v46 < ((a0.map e_QFileEvent).length : Int)))) rfl trivial (fun h133 => ?_) (fun h133 => ?_)
  · have h := ite_tt h133 h
    refine skipI ?_
    refine blockI ?_
    refine seqI ?_
    refine regI ?_
    refine seqI ?_
    refine blockI ?_
    refine LWp.sim ?_ (f9_L12_ok h)
    exact simI (M := [((0, 0), (0, 0))]) rfl (And.intro (Vw.same _ rfl) (And.intro (Vw.same _ rfl) (And.intro (Vw.osl _ _ _ _ rfl) (And.intro (Vw.same _ rfl) (And.intro (Vw.same _ rfl) trivial))))) (And.intro (And.intro rfl BVw.tok) trivial)
  · have h := ite_ff h133 h
    refine exitI ?_
    obtain ⟨o, hq, rfl⟩ := Option.map_eq_some_iff.1 h
    replace h := hq; clear hq
    refine And.intro nofun ?_
    refine LWp.sim ?_ (f9_j55_ok h)
    exact simI (M := [((0, 0), (0, 0))]) rfl (And.intro (Vw.osl _ _ _ _ rfl) trivial) (And.intro (And.intro rfl BVw.tok) trivial)

theorem f9_L11_ok {a0 : List G_QFileEvent} {a1 : Int} {v45 : List G_QFileBatch} {v46 : Int} {m : Option Nat} {o : (List G_QFileBatch)} (h : S_glossatorref3_Batches_l11 m a0 a1 v45 v46 = some o) :
    LWp Try.prog f9_lay 0 (.loop f9_c10) (QBlock 0 (QSeq Try.prog f9_lay 0 f9_c7 (f9_Q a0 a1 o))) [(0, .isl 3 (a0.map e_QFileEvent) false), (1, .int .i64 a1), (5, .osl (0, 0) 2 (v45.map e_QFileBatch)), (6, .int .i64 v46)] [((0, 0), .tok)] 1 :=
  LWp_loopM (m := m) (s := ((v45, v46) : ((List G_QFileBatch) × Int))) (r := o) (fun (s : ((List G_QFileBatch) × Int)) => S_glossatorref3_Batches_b11 m a0 a1 s.1 s.2) (f9_L11_env a0 a1) (f9_L11_hp a0 a1) (f9_L11_Q a0 a1) (fun s o h => f9_L11_bok h) h

noncomputable def S_glossatorref3_Batches (m : Option Nat) (a0 : List G_QFileEvent) (a1 : Int) : Option (List G_QFileBatch) :=
  S_glossatorref3_Batches_l11 m a0 a1 [] 0

theorem f9_start {a0 : List G_QFileEvent} {a1 : Int} {m : Option Nat} {o : (List G_QFileBatch)} (h : S_glossatorref3_Batches m a0 a1 = some o) : LWp Try.prog f9_lay 0 f9_c11 (f9_Q a0 a1 o) (initEnv 0 [.isl 3 (a0.map e_QFileEvent) false, .int .i64 a1]) [] 0 := by
  unfold S_glossatorref3_Batches at h
  refine seqI ?_
  refine regI ?_
  refine seqI ?_
  refine regI ?_
  refine seqI ?_
  refine seqI ?_
  refine regI ?_
  refine blockI ?_
  refine LWp.sim ?_ (f9_L11_ok h)
  exact simI (M := []) rfl (And.intro (Vw.same _ rfl) (And.intro (Vw.same _ rfl) (And.intro (Vw.nilO _ _ (by decide)) (And.intro (Vw.same _ rfl) trivial)))) (And.intro (And.intro rfl (And.intro (by decide) (by decide))) trivial)

theorem f9_ok {a0 : List G_QFileEvent} {a1 : Int} {m : Option Nat} {o : (List G_QFileBatch)} (h : S_glossatorref3_Batches m a0 a1 = some o) : PFn Try.prog 9 [.isl 3 (a0.map e_QFileEvent) false, .int .i64 a1] (.isl 2 (o.map e_QFileBatch) false) := PFn.ofFnW (L := f9_L) f9_low f9_fok (Nat.le_of_ble_eq_true rfl) rfl (f9_start h)

def f8_c1 : LCode := (.seq (.region [⟨some 14, .bin .lss (.t 13) (.t 12), none⟩])
 (.seq (.cond (.t 14)
  .skip
  (.exit 0))
 (.seq (.block 1
  (.seq (.region [⟨some 15, .mv (.t 13), none⟩,
    ⟨some 5, .mv (.t 15), none⟩])
  (.seq (.draw [⟨⟨some 16, .mv (.t 0), none⟩, []⟩,
    ⟨⟨some 17, .mv (.t 5), none⟩, []⟩,
    ⟨⟨some 18, .iaddr 2 (.t 16) (.t 17), none⟩, []⟩,
    ⟨⟨some 19, .faddr 0 (.t 18), none⟩, []⟩,
    ⟨⟨some 20, .load false 1 (.t 19), none⟩, []⟩,
    ⟨⟨some 21, .mv (.t 1), none⟩, []⟩,
    ⟨⟨some 22, .mv (.t 5), none⟩, []⟩,
    ⟨⟨some 23, .iaddr 2 (.t 21) (.t 22), none⟩, []⟩,
    ⟨⟨some 24, .faddr 0 (.t 23), none⟩, []⟩,
    ⟨⟨some 25, .load false 1 (.t 24), none⟩, []⟩,
    ⟨⟨some 26, .bin .neq (.t 20) (.t 25), none⟩, []⟩,
    ⟨⟨some 27, .mv (.t 26), none⟩, []⟩,
    ⟨⟨some 28, .mv (.t 0), some (27, false)⟩, []⟩,
    ⟨⟨some 29, .mv (.t 5), some (27, false)⟩, []⟩,
    ⟨⟨some 30, .iaddr 2 (.t 28) (.t 29), some (27, false)⟩, []⟩,
    ⟨⟨some 31, .faddr 1 (.t 30), some (27, false)⟩, []⟩,
    ⟨⟨some 32, .load false 1 (.t 31), some (27, false)⟩, []⟩,
    ⟨⟨some 33, .mv (.t 1), some (27, false)⟩, []⟩,
    ⟨⟨some 34, .mv (.t 5), some (27, false)⟩, []⟩,
    ⟨⟨some 35, .iaddr 2 (.t 33) (.t 34), some (27, false)⟩, []⟩,
    ⟨⟨some 36, .faddr 1 (.t 35), some (27, false)⟩, []⟩,
    ⟨⟨some 37, .load false 1 (.t 36), some (27, false)⟩, []⟩,
    ⟨⟨some 38, .call 22 [(.t 32), (.t 37)], some (27, false)⟩, []⟩,
    ⟨⟨some 39, .un .not (.t 38), some (27, false)⟩, []⟩,
    ⟨⟨some 40, .pick (.t 27) (.c (.bool true)) (.t 39), none⟩, []⟩])
  (.cond (.t 40)
   (.seq (.region [⟨some 4, .mv (.c (.bool false)), none⟩])
   .ret)
   .skip))))
 (.region [⟨some 41, .bin .add (.t 13) (.c (.int .i64 1)), none⟩,
   ⟨some 13, .mv (.t 41), none⟩]))))
def f8_c0 : LCode := (.seq (.region [⟨some 4, .mv (.c (.bool true)), none⟩])
 .ret)
def f8_c2 : LCode := (.seq (.region [⟨some 4, .mv (.c (.bool false)), none⟩])
 (.seq (.seq (.region [⟨some 6, .mv (.t 0), none⟩,
   ⟨some 7, .len false (.t 6), none⟩,
   ⟨some 8, .mv (.t 1), none⟩,
   ⟨some 9, .len false (.t 8), none⟩,
   ⟨some 10, .bin .neq (.t 7) (.t 9), none⟩])
 (.cond (.t 10)
  (.seq (.region [⟨some 4, .mv (.c (.bool false)), none⟩])
  .ret)
  .skip))
 (.seq (.seq (.region [⟨some 11, .mv (.t 0), none⟩,
   ⟨some 12, .len false (.t 11), none⟩,
   ⟨some 13, .mv (.c (.int .i64 0)), none⟩])
 (.block 0
  (.loop
   f8_c1)))
 f8_c0)))
def f8_lay : Lay := ⟨42, [], false⟩
def f8_res : List LRes := [.t 4]
def f8_L : LFn := ⟨2, f8_lay, f8_c2, f8_res⟩
theorem f8_low : lowFn Try.prog [] 8 = some f8_L := by kernel_rfl
theorem f8_fok : FnOk Try.prog 8 := ⟨_, Try.func8, rfl, rfl⟩
def f8_Q (a0 : List G_QFileBatch) (a1 : List G_QFileBatch) (o : Bool) : Exit → Env → AHeap → Nat → Prop := FinK f8_res (PureEnd (.bool o))

def f8_L1_env (a0 : List G_QFileBatch) (a1 : List G_QFileBatch) (s : Int) : Env := [(0, .isl 2 (a0.map e_QFileBatch) false), (1, .isl 2 (a1.map e_QFileBatch) false), (12, .int .i64 ((a0.map e_QFileBatch).length : Int)), (13, .int .i64 s)]
def f8_L1_hp (a0 : List G_QFileBatch) (a1 : List G_QFileBatch) (s : Int) : AHeap := []
def f8_L1_Q (a0 : List G_QFileBatch) (a1 : List G_QFileBatch) (o : Bool) : Exit → Env → AHeap → Nat → Prop := (QBlock 0 (QSeq Try.prog f8_lay 0 f8_c0 (f8_Q a0 a1 o)))

noncomputable def S_glossatorref3_EqualBatches_j1 (m : Option Nat) : Option Bool :=
  some true

noncomputable def S_glossatorref3_EqualBatches_b1 (m : Option Nat) (a0 : List G_QFileBatch) (a1 : List G_QFileBatch) (v2 : Int) : Option (Int ⊕ Bool) :=
  if (decide (v2 < ((a0.map e_QFileBatch).length : Int))) = true then
    if (0 : Int) ≤ v2 ∧ v2 < ((a0.map e_QFileBatch).length : Int) then
    if (0 : Int) ≤ v2 ∧ v2 < ((a1.map e_QFileBatch).length : Int) then
    if ((((a0.getD v2.toNat default).f_Time != (a1.getD v2.toNat default).f_Time) == false) = true → (0 : Int) ≤ v2 ∧ v2 < ((a0.map e_QFileBatch).length : Int)) then
    if ((((a0.getD v2.toNat default).f_Time != (a1.getD v2.toNat default).f_Time) == false) = true → (0 : Int) ≤ v2 ∧ v2 < ((a1.map e_QFileBatch).length : Int)) then
    (if (((a0.getD v2.toNat default).f_Time != (a1.getD v2.toNat default).f_Time) == false) = true then S_glossatorref3_Equal_api_QFileEvent m ((a0.getD v2.toNat default).f_Events) ((a1.getD v2.toNat default).f_Events) else some default).bind fun v4 =>
    if (((a0.getD v2.toNat default).f_Time != (a1.getD v2.toNat default).f_Time) || (!v4)) = true then
      Option.map Sum.inr (
        some false)
    else
      some (.inl (W (v2 + 1)))
    else none
    else none
    else none
    else none
  else
    Option.map Sum.inr (
      S_glossatorref3_EqualBatches_j1 m)

noncomputable def S_glossatorref3_EqualBatches_l1 (m : Option Nat) (a0 : List G_QFileBatch) (a1 : List G_QFileBatch) (v2 : Int) : Option Bool := loopM m (fun (s : Int) => S_glossatorref3_EqualBatches_b1 m a0 a1 s) v2

theorem f8_j1_ok {a0 : List G_QFileBatch} {a1 : List G_QFileBatch} {m : Option Nat} {o : Bool} (h : S_glossatorref3_EqualBatches_j1 m = some o) :
    LWp Try.prog f8_lay 0 f8_c0 (f8_Q a0 a1 o) [] [] 0 := by
  unfold S_glossatorref3_EqualBatches_j1 at h
  refine seqI ?_
  refine regI ?_
  refine retI ?_
  cases h
  exact And.intro trivial (And.intro rfl (Vw.same _ rfl))

theorem f8_L1_bok {a0 : List G_QFileBatch} {a1 : List G_QFileBatch} {v2 : Int} {m : Option Nat} {o : Int ⊕ Bool} (h : S_glossatorref3_EqualBatches_b1 m a0 a1 v2 = some o) :
    LWp Try.prog f8_lay 0 f8_c1 (BodyQ 0 0 (f8_L1_env a0 a1) (f8_L1_hp a0 a1) (f8_L1_Q a0 a1) o) [(0, .isl 2 (a0.map e_QFileBatch) false), (1, .isl 2 (a1.map e_QFileBatch) false), (12, .int .i64 ((a0.map e_QFileBatch).length : Int)), (13, .int .i64 v2)] [] 0 := by
  unfold S_glossatorref3_EqualBatches_b1 at h
  refine seqI ?_
  refine regI ?_
  refine seqI ?_
  refine condI (v := (decide (v2 < ((a0.map e_QFileBatch).length : Int)))) rfl trivial (fun h16 => ?_) (fun h16 => ?_)
  · have h := ite_tt h16 h
    refine skipI ?_
    refine seqI ?_
    refine blockI ?_
    refine seqI ?_
    refine regI ?_
    refine seqI ?_
    refine drawO rfl ?_
    obtain ⟨h17, h⟩ := ite_some h
    refine And.intro h17 ?_
    show yops _ _ _ [(18, .iptr 2 (a0.map e_QFileBatch) v2.toNat 0), (17, .int .i64 v2), (16, .isl 2 (a0.map e_QFileBatch) false), (5, .int .i64 v2), (15, .int .i64 v2), (14, .bool (decide (v2 < ((a0.map e_QFileBatch).length : Int)))), (0, .isl 2 (a0.map e_QFileBatch) false), (1, .isl 2 (a1.map e_QFileBatch) false), (12, .int .i64 ((a0.map e_QFileBatch).length : Int)), (13, .int .i64 v2)] _ _
    refine Exists.intro (e_QFileBatch (a0.getD v2.toNat default)) (And.intro (getD_enc e_QFileBatch _ _ (idx_ltL e_QFileBatch h17)) (And.intro (And.intro (idx_lt h17) (Nat.le_of_ble_eq_true rfl)) ?_))
    obtain ⟨h18, h⟩ := ite_some h
    refine And.intro h18 ?_
    show yops _ _ _ [(23, .iptr 2 (a1.map e_QFileBatch) v2.toNat 0), (22, .int .i64 v2), (21, .isl 2 (a1.map e_QFileBatch) false), (20, .int .i64 ((a0.getD v2.toNat default).f_Time)), (19, .iptr 2 (a0.map e_QFileBatch) v2.toNat 0), (18, .iptr 2 (a0.map e_QFileBatch) v2.toNat 0), (17, .int .i64 v2), (16, .isl 2 (a0.map e_QFileBatch) false), (5, .int .i64 v2), (15, .int .i64 v2), (14, .bool (decide (v2 < ((a0.map e_QFileBatch).length : Int)))), (0, .isl 2 (a0.map e_QFileBatch) false), (1, .isl 2 (a1.map e_QFileBatch) false), (12, .int .i64 ((a0.map e_QFileBatch).length : Int)), (13, .int .i64 v2)] _ _
    refine Exists.intro (e_QFileBatch (a1.getD v2.toNat default)) (And.intro (getD_enc e_QFileBatch _ _ (idx_ltL e_QFileBatch h18)) (And.intro (And.intro (idx_lt h18) (Nat.le_of_ble_eq_true rfl)) ?_))
    obtain ⟨h19, h⟩ := ite_some h
    refine And.intro (fun hp => (And.intro (And.intro hp hp) (h19 hp))) ?_
    show yops _ _ _ [(30, .cnd (((a0.getD v2.toNat default).f_Time != (a1.getD v2.toNat default).f_Time) == false) (.iptr 2 (a0.map e_QFileBatch) v2.toNat 0)), (29, .cnd (((a0.getD v2.toNat default).f_Time != (a1.getD v2.toNat default).f_Time) == false) (.int .i64 v2)), (28, .cnd (((a0.getD v2.toNat default).f_Time != (a1.getD v2.toNat default).f_Time) == false) (.isl 2 (a0.map e_QFileBatch) false)), (27, .bool ((a0.getD v2.toNat default).f_Time != (a1.getD v2.toNat default).f_Time)), (26, .bool ((a0.getD v2.toNat default).f_Time != (a1.getD v2.toNat default).f_Time)), (25, .int .i64 ((a1.getD v2.toNat default).f_Time)), (24, .iptr 2 (a1.map e_QFileBatch) v2.toNat 0), (23, .iptr 2 (a1.map e_QFileBatch) v2.toNat 0), (22, .int .i64 v2), (21, .isl 2 (a1.map e_QFileBatch) false), (20, .int .i64 ((a0.getD v2.toNat default).f_Time)), (19, .iptr 2 (a0.map e_QFileBatch) v2.toNat 0), (18, .iptr 2 (a0.map e_QFileBatch) v2.toNat 0), (17, .int .i64 v2), (16, .isl 2 (a0.map e_QFileBatch) false), (5, .int .i64 v2), (15, .int .i64 v2), (14, .bool (decide (v2 < ((a0.map e_QFileBatch).length : Int)))), (0, .isl 2 (a0.map e_QFileBatch) false), (1, .isl 2 (a1.map e_QFileBatch) false), (12, .int .i64 ((a0.map e_QFileBatch).length : Int)), (13, .int .i64 v2)] _ _
    refine And.intro (fun hp => hp) ?_
    refine Exists.intro (e_QFileBatch (a0.getD v2.toNat default)) (And.intro (fun hp => And.intro (getD_enc e_QFileBatch _ _ (idx_ltL e_QFileBatch (h19 hp))) (And.intro hp (And.intro (idx_lt (h19 hp)) (Nat.le_of_ble_eq_true rfl)))) ?_)
    obtain ⟨h20, h⟩ := ite_some h
    refine And.intro (fun hp => (And.intro (And.intro hp hp) (h20 hp))) ?_
    show yops _ _ _ [(35, .cnd (((a0.getD v2.toNat default).f_Time != (a1.getD v2.toNat default).f_Time) == false) (.iptr 2 (a1.map e_QFileBatch) v2.toNat 0)), (34, .cnd (((a0.getD v2.toNat default).f_Time != (a1.getD v2.toNat default).f_Time) == false) (.int .i64 v2)), (33, .cnd (((a0.getD v2.toNat default).f_Time != (a1.getD v2.toNat default).f_Time) == false) (.isl 2 (a1.map e_QFileBatch) false)), (32, .cnd (((a0.getD v2.toNat default).f_Time != (a1.getD v2.toNat default).f_Time) == false) (.isl 3 (((a0.getD v2.toNat default).f_Events).map e_QFileEvent) false)), (31, .cnd (((a0.getD v2.toNat default).f_Time != (a1.getD v2.toNat default).f_Time) == false) (.iptr 2 (a0.map e_QFileBatch) v2.toNat 1)), (30, .cnd (((a0.getD v2.toNat default).f_Time != (a1.getD v2.toNat default).f_Time) == false) (.iptr 2 (a0.map e_QFileBatch) v2.toNat 0)), (29, .cnd (((a0.getD v2.toNat default).f_Time != (a1.getD v2.toNat default).f_Time) == false) (.int .i64 v2)), (28, .cnd (((a0.getD v2.toNat default).f_Time != (a1.getD v2.toNat default).f_Time) == false) (.isl 2 (a0.map e_QFileBatch) false)), (27, .bool ((a0.getD v2.toNat default).f_Time != (a1.getD v2.toNat default).f_Time)), (26, .bool ((a0.getD v2.toNat default).f_Time != (a1.getD v2.toNat default).f_Time)), (25, .int .i64 ((a1.getD v2.toNat default).f_Time)), (24, .iptr 2 (a1.map e_QFileBatch) v2.toNat 0), (23, .iptr 2 (a1.map e_QFileBatch) v2.toNat 0), (22, .int .i64 v2), (21, .isl 2 (a1.map e_QFileBatch) false), (20, .int .i64 ((a0.getD v2.toNat default).f_Time)), (19, .iptr 2 (a0.map e_QFileBatch) v2.toNat 0), (18, .iptr 2 (a0.map e_QFileBatch) v2.toNat 0), (17, .int .i64 v2), (16, .isl 2 (a0.map e_QFileBatch) false), (5, .int .i64 v2), (15, .int .i64 v2), (14, .bool (decide (v2 < ((a0.map e_QFileBatch).length : Int)))), (0, .isl 2 (a0.map e_QFileBatch) false), (1, .isl 2 (a1.map e_QFileBatch) false), (12, .int .i64 ((a0.map e_QFileBatch).length : Int)), (13, .int .i64 v2)] _ _
    refine And.intro (fun hp => hp) ?_
    refine Exists.intro (e_QFileBatch (a1.getD v2.toNat default)) (And.intro (fun hp => And.intro (getD_enc e_QFileBatch _ _ (idx_ltL e_QFileBatch (h20 hp))) (And.intro hp (And.intro (idx_lt (h20 hp)) (Nat.le_of_ble_eq_true rfl)))) ?_)
    obtain ⟨v4, h21, h⟩ := bind_some h
    refine Or.inl (Exists.intro (.bool v4) (And.intro (fun hp => And.intro (And.intro hp hp) (PFn.call (f22_ok (ite_tt hp h21)) (And.intro (Vw.same _ rfl) (And.intro (Vw.same _ rfl) trivial)) (And.intro rfl (And.intro rfl rfl)))) ?_))
    refine And.intro (fun hp => hp) ?_
    refine And.intro (fun hc => (bqf hc)) ?_
    show yops _ _ _ [(40, .bool (((a0.getD v2.toNat default).f_Time != (a1.getD v2.toNat default).f_Time) || (!v4))), (39, .cnd (((a0.getD v2.toNat default).f_Time != (a1.getD v2.toNat default).f_Time) == false) (.bool (!v4))), (38, .cnd (((a0.getD v2.toNat default).f_Time != (a1.getD v2.toNat default).f_Time) == false) (.bool v4)), (37, .cnd (((a0.getD v2.toNat default).f_Time != (a1.getD v2.toNat default).f_Time) == false) (.isl 3 (((a1.getD v2.toNat default).f_Events).map e_QFileEvent) false)), (36, .cnd (((a0.getD v2.toNat default).f_Time != (a1.getD v2.toNat default).f_Time) == false) (.iptr 2 (a1.map e_QFileBatch) v2.toNat 1)), (35, .cnd (((a0.getD v2.toNat default).f_Time != (a1.getD v2.toNat default).f_Time) == false) (.iptr 2 (a1.map e_QFileBatch) v2.toNat 0)), (34, .cnd (((a0.getD v2.toNat default).f_Time != (a1.getD v2.toNat default).f_Time) == false) (.int .i64 v2)), (33, .cnd (((a0.getD v2.toNat default).f_Time != (a1.getD v2.toNat default).f_Time) == false) (.isl 2 (a1.map e_QFileBatch) false)), (32, .cnd (((a0.getD v2.toNat default).f_Time != (a1.getD v2.toNat default).f_Time) == false) (.isl 3 (((a0.getD v2.toNat default).f_Events).map e_QFileEvent) false)), (31, .cnd (((a0.getD v2.toNat default).f_Time != (a1.getD v2.toNat default).f_Time) == false) (.iptr 2 (a0.map e_QFileBatch) v2.toNat 1)), (30, .cnd (((a0.getD v2.toNat default).f_Time != (a1.getD v2.toNat default).f_Time) == false) (.iptr 2 (a0.map e_QFileBatch) v2.toNat 0)), (29, .cnd (((a0.getD v2.toNat default).f_Time != (a1.getD v2.toNat default).f_Time) == false) (.int .i64 v2)), (28, .cnd (((a0.getD v2.toNat default).f_Time != (a1.getD v2.toNat default).f_Time) == false) (.isl 2 (a0.map e_QFileBatch) false)), (27, .bool ((a0.getD v2.toNat default).f_Time != (a1.getD v2.toNat default).f_Time)), (26, .bool ((a0.getD v2.toNat default).f_Time != (a1.getD v2.toNat default).f_Time)), (25, .int .i64 ((a1.getD v2.toNat default).f_Time)), (24, .iptr 2 (a1.map e_QFileBatch) v2.toNat 0), (23, .iptr 2 (a1.map e_QFileBatch) v2.toNat 0), (22, .int .i64 v2), (21, .isl 2 (a1.map e_QFileBatch) false), (20, .int .i64 ((a0.getD v2.toNat default).f_Time)), (19, .iptr 2 (a0.map e_QFileBatch) v2.toNat 0), (18, .iptr 2 (a0.map e_QFileBatch) v2.toNat 0), (17, .int .i64 v2), (16, .isl 2 (a0.map e_QFileBatch) false), (5, .int .i64 v2), (15, .int .i64 v2), (14, .bool (decide (v2 < ((a0.map e_QFileBatch).length : Int)))), (0, .isl 2 (a0.map e_QFileBatch) false), (1, .isl 2 (a1.map e_QFileBatch) false), (12, .int .i64 ((a0.map e_QFileBatch).length : Int)), (13, .int .i64 v2)] _ _
    refine LWp.sim (e := [(0, .isl 2 (a0.map e_QFileBatch) false), (1, .isl 2 (a1.map e_QFileBatch) false), (12, .int .i64 ((a0.map e_QFileBatch).length : Int)), (13, .int .i64 v2), (40, .bool (((a0.getD v2.toNat default).f_Time != (a1.getD v2.toNat default).f_Time) || (!v4)))]) (L := []) (n := 0) ?_ ?_
    · exact simI (M := []) rfl (And.intro (Vw.same _ rfl) (And.intro (Vw.same _ rfl) (And.intro (Vw.same _ rfl) (And.intro (Vw.same _ rfl) (And.intro (Vw.same _ rfl) trivial))))) trivial
    refine condI (v := (((a0.getD v2.toNat default).f_Time != (a1.getD v2.toNat default).f_Time) || (!v4))) rfl trivial (fun h22 => ?_) (fun h22 => ?_)
    · have h := ite_tt h22 h
      refine seqI ?_
      refine regI ?_
      refine retI ?_
      obtain ⟨o, hq, rfl⟩ := Option.map_eq_some_iff.1 h
      replace h := hq; clear hq
      refine And.intro nofun ?_
      cases h
      exact And.intro trivial (And.intro rfl (Vw.same _ rfl))
    · have h := ite_ff h22 h
      refine skipI ?_
      refine regI ?_
      cases h
      exact And.intro rfl (simI (M := []) rfl (And.intro (Vw.same _ rfl) (And.intro (Vw.same _ rfl) (And.intro (Vw.same _ rfl) (And.intro (Vw.same _ rfl) trivial)))) trivial)
  · have h := ite_ff h16 h
    refine exitI ?_
    obtain ⟨o, hq, rfl⟩ := Option.map_eq_some_iff.1 h
    replace h := hq; clear hq
    refine And.intro nofun ?_
    refine LWp.sim ?_ (f8_j1_ok h)
    exact simI (M := []) rfl trivial trivial

theorem f8_L1_ok {a0 : List G_QFileBatch} {a1 : List G_QFileBatch} {v2 : Int} {m : Option Nat} {o : Bool} (h : S_glossatorref3_EqualBatches_l1 m a0 a1 v2 = some o) :
    LWp Try.prog f8_lay 0 (.loop f8_c1) (QBlock 0 (QSeq Try.prog f8_lay 0 f8_c0 (f8_Q a0 a1 o))) [(0, .isl 2 (a0.map e_QFileBatch) false), (1, .isl 2 (a1.map e_QFileBatch) false), (12, .int .i64 ((a0.map e_QFileBatch).length : Int)), (13, .int .i64 v2)] [] 0 :=
  LWp_loopM (m := m) (s := (v2 : Int)) (r := o) (fun (s : Int) => S_glossatorref3_EqualBatches_b1 m a0 a1 s) (f8_L1_env a0 a1) (f8_L1_hp a0 a1) (f8_L1_Q a0 a1) (fun s o h => f8_L1_bok h) h

noncomputable def S_glossatorref3_EqualBatches (m : Option Nat) (a0 : List G_QFileBatch) (a1 : List G_QFileBatch) : Option Bool :=
  if (((a0.map e_QFileBatch).length : Int) != ((a1.map e_QFileBatch).length : Int)) = true then
    some false
  else
    S_glossatorref3_EqualBatches_l1 m a0 a1 0

theorem f8_start {a0 : List G_QFileBatch} {a1 : List G_QFileBatch} {m : Option Nat} {o : Bool} (h : S_glossatorref3_EqualBatches m a0 a1 = some o) : LWp Try.prog f8_lay 0 f8_c2 (f8_Q a0 a1 o) (initEnv 0 [.isl 2 (a0.map e_QFileBatch) false, .isl 2 (a1.map e_QFileBatch) false]) [] 0 := by
  unfold S_glossatorref3_EqualBatches at h
  refine seqI ?_
  refine regI ?_
  refine seqI ?_
  refine seqI ?_
  refine regI ?_
  refine condI (v := (((a0.map e_QFileBatch).length : Int) != ((a1.map e_QFileBatch).length : Int))) rfl trivial (fun h1 => ?_) (fun h1 => ?_)
  · have h := ite_tt h1 h
    refine seqI ?_
    refine regI ?_
    refine retI ?_
    cases h
    exact And.intro trivial (And.intro rfl (Vw.same _ rfl))
  · have h := ite_ff h1 h
    refine skipI ?_
    refine seqI ?_
    refine seqI ?_
    refine regI ?_
    refine LWp.sim (e := [(0, .isl 2 (a0.map e_QFileBatch) false), (1, .isl 2 (a1.map e_QFileBatch) false), (12, .int .i64 ((a0.map e_QFileBatch).length : Int)), (13, .int .i64 0)]) (L := []) (n := 0) ?_ ?_
    · exact simI (M := []) rfl (And.intro (Vw.same _ rfl) (And.intro (Vw.same _ rfl) (And.intro (Vw.same _ rfl) (And.intro (Vw.same _ rfl) trivial)))) trivial
    refine blockI ?_
    refine LWp.sim ?_ (f8_L1_ok h)
    exact simI (M := []) rfl (And.intro (Vw.same _ rfl) (And.intro (Vw.same _ rfl) (And.intro (Vw.same _ rfl) (And.intro (Vw.same _ rfl) trivial)))) trivial

theorem f8_ok {a0 : List G_QFileBatch} {a1 : List G_QFileBatch} {m : Option Nat} {o : Bool} (h : S_glossatorref3_EqualBatches m a0 a1 = some o) : PFn Try.prog 8 [.isl 2 (a0.map e_QFileBatch) false, .isl 2 (a1.map e_QFileBatch) false] (.bool o) := PFn.ofFnW (L := f8_L) f8_low f8_fok (Nat.le_of_ble_eq_true rfl) rfl (f8_start h)

def S_maps_Keys_map_string_int (m : Option Nat) (a0 : List ((List UInt8) × Int)) : Option Unit := some ()
theorem f29b0_fok : FnOk Try.prog 29 := ⟨_, Try.func29, rfl, rfl⟩
theorem f29b0_ok {m : Option Nat} {a0 : List ((List UInt8) × Int)} {o : Unit} (h : S_maps_Keys_map_string_int m a0 = some o) : ACalls Try.prog 29 [.map (0, 0)] [((0, 0), .amap (a0.map (em a_str a_i64)))] 3 (Gives 4 (.fn (.func 39) [] [.ptr (3, 0) 0 0]) [((3, 0), .mbox (0, 0)), ((0, 0), .amap (a0.map (em a_str a_i64)))]) := mapKeys_acalls Try.l29 rfl rfl f29b0_fok

theorem f28b1_sorts (m : Nat) : Go.Proofs.AnyZ.SortsIn Try.prog Try.l28_ren Go.Fence.wide m :=
  ⟨fun blk off cap ss W hH hblk hsz => Go.callsIn_wide.2 (Go.Proofs.AnyM.slices_Sort_string Try.l38 blk off cap ss W hH hblk hsz), fun p cap W => Go.callsIn_wide.2 (Go.Proofs.AnyM.slices_Sort_string_none Try.l38 p cap W)⟩
noncomputable def S_slices_Sorted_string_28 (m : Option Nat) (a0 : List ((List UInt8) × Int)) : Option (List (List UInt8)) := by classical exact if (a0.map (·.1)).Nodup ∧ (∀ k ∈ a0.map (·.1), k.length ≤ maxLen) ∧ a0.length * 16 ≤ 140737488355328 then some (sortK a0) else none
theorem f28b1_fok : FnOk Try.prog 28 := ⟨_, Try.func28, rfl, rfl⟩
theorem f28b1_ok {m : Option Nat} {a0 : List ((List UInt8) × Int)} {o : List (List UInt8)} (h : S_slices_Sorted_string_28 m a0 = some o) : ACalls Try.prog 28 [.fn (.func 39) [] [.ptr (0, 0) 0 0]] [((0, 0), .mbox (0, 1)), ((0, 1), .amap (a0.map (em a_str a_i64)))] 3 (Gives 3 (.isl 1 (o.map e_str) false) [((0, 0), .mbox (0, 1)), ((0, 1), .amap (a0.map (em a_str a_i64)))]) := by
  unfold S_slices_Sorted_string_28 at h
  split at h
  · rename_i hc
    cases h
    exact sortedKeys_acalls (ρk := Try.l29_ren) (M := a0) (ev := a_i64) rfl Try.l28 { Try.l29 with } f28b1_sorts (Go.Proofs.enters_of Try.func38 (by kernel_rfl) rfl) (Go.Proofs.enters_of Try.func39 (by kernel_rfl) rfl) rfl rfl (K := 9) rfl rfl f28b1_fok (a := (0, 0)) (b := (0, 1)) rfl rfl hc.1 hc.2.1 hc.2.2
  · cases h

def f13_c1 : LCode := (.seq (.region [⟨some 14, .bin .lss (.t 13) (.t 12), none⟩])
 (.seq (.cond (.t 14)
  .skip
  (.exit 0))
 (.seq (.block 1
  (.seq (.region [⟨some 15, .iaddr 1 (.t 11) (.t 13), none⟩,
    ⟨some 16, .load false 1 (.t 15), none⟩,
    ⟨some 7, .mv (.t 16), none⟩])
  (.region [⟨some 17, .mv (.t 5), none⟩,
    ⟨some 18, .mv (.t 7), none⟩,
    ⟨none, .mset [.str] false false [(.int .i64 0)] (.t 17) (.t 18) (.c (.int .i64 1)), none⟩])))
 (.region [⟨some 19, .bin .add (.t 13) (.c (.int .i64 1)), none⟩,
   ⟨some 13, .mv (.t 19), none⟩]))))
def f13_c4 : LCode := (.cond (.t 28)
  (.region [⟨some 31, .mv (.t 5), none⟩,
    ⟨some 32, .faddr 1 (.t 9), none⟩,
    ⟨some 33, .load false 1 (.t 32), none⟩,
    ⟨none, .mset [.str] false false [(.int .i64 0)] (.t 31) (.t 33) (.c (.int .i64 1)), none⟩])
  (.seq (.region [⟨some 35, .bin .eql (.t 27) (.c (.int .i64 3)), none⟩,
    ⟨some 34, .mv (.t 35), none⟩])
  (.cond (.t 34)
   (.region [⟨some 36, .mv (.t 5), none⟩,
     ⟨some 37, .faddr 1 (.t 9), none⟩,
     ⟨some 38, .load false 1 (.t 37), none⟩,
     ⟨none, .mdel [.str] false (.t 36) (.t 38), none⟩])
   .skip)))
def f13_c2 : LCode := (.region [⟨some 39, .bin .add (.t 22) (.c (.int .i64 1)), none⟩,
   ⟨some 22, .mv (.t 39), none⟩])
def f13_c5 : LCode := (.seq (.region [⟨some 23, .bin .lss (.t 22) (.t 21), none⟩])
 (.seq (.cond (.t 23)
  .skip
  (.exit 2))
 (.seq (.block 3
  (.seq (.region [⟨some 24, .iaddr 3 (.t 20) (.t 22), none⟩,
    ⟨some 25, .load true 3 (.t 24), none⟩,
    ⟨some 9, .alloc [(.int .i64 0), (.str []), (.int .i64 0)], none⟩,
    ⟨none, .store 3 (.t 9) (.t 25), none⟩])
  (.seq (.region [⟨some 26, .faddr 2 (.t 9), none⟩,
    ⟨some 27, .load false 1 (.t 26), none⟩])
  (.block 4
   (.seq (.seq (.region [⟨some 29, .bin .eql (.t 27) (.c (.int .i64 1)), none⟩,
     ⟨some 28, .mv (.t 29), none⟩])
   (.cond (.t 28)
    .skip
    (.region [⟨some 30, .bin .eql (.t 27) (.c (.int .i64 2)), none⟩,
      ⟨some 28, .mv (.t 30), none⟩])))
   f13_c4)))))
 f13_c2)))
def f13_c3 : LCode := (.seq (.region [⟨some 40, .mv (.t 5), none⟩,
   ⟨some 41, .call 29 [(.t 40)], none⟩,
   ⟨some 42, .call 28 [(.t 41)], none⟩,
   ⟨some 4, .mv (.t 42), none⟩])
 .ret)
def f13_c0 : LCode := (.seq (.seq (.region [⟨some 20, .mv (.t 1), none⟩,
   ⟨some 21, .len false (.t 20), none⟩,
   ⟨some 22, .mv (.c (.int .i64 0)), none⟩])
 (.block 2
  (.loop
   f13_c5)))
 f13_c3)
def f13_c6 : LCode := (.seq (.region [⟨some 4, .mv (.c (.val (.slice none 0 0))), none⟩])
 (.seq (.region [⟨some 10, .mkmap none, none⟩,
   ⟨some 5, .mv (.t 10), none⟩])
 (.seq (.seq (.region [⟨some 11, .mv (.t 0), none⟩,
   ⟨some 12, .len false (.t 11), none⟩,
   ⟨some 13, .mv (.c (.int .i64 0)), none⟩])
 (.block 0
  (.loop
   f13_c1)))
 f13_c0)))
def f13_lay : Lay := ⟨43, [], false⟩
def f13_res : List LRes := [.t 4]
def f13_L : LFn := ⟨2, f13_lay, f13_c6, f13_res⟩
theorem f13_low : lowFn Try.prog [] 13 = some f13_L := by kernel_rfl
theorem f13_fok : FnOk Try.prog 13 := ⟨_, Try.func13, rfl, rfl⟩
def f13_Q (a0 : List (List UInt8)) (a1 : List G_QFileEvent) (o : (List (List UInt8))) : Exit → Env → AHeap → Nat → Prop := FinK f13_res (PureEnd (.isl 1 (o.map e_str) false))

def f13_L1_env (a0 : List (List UInt8)) (a1 : List G_QFileEvent) (s : (Int × (List ((List UInt8) × Int)))) : Env := [(1, .isl 3 (a1.map e_QFileEvent) false), (5, .map (0, 0)), (11, .isl 1 (a0.map e_str) false), (12, .int .i64 ((a0.map e_str).length : Int)), (13, .int .i64 s.1)]
def f13_L1_hp (a0 : List (List UInt8)) (a1 : List G_QFileEvent) (s : (Int × (List ((List UInt8) × Int)))) : AHeap := [((0, 0), .amap (s.2.map (em a_str a_i64)))]
def f13_L1_Q (a0 : List (List UInt8)) (a1 : List G_QFileEvent) (o : (List (List UInt8))) : Exit → Env → AHeap → Nat → Prop := (QBlock 0 (QSeq Try.prog f13_lay 0 f13_c0 (f13_Q a0 a1 o)))

noncomputable def S_filewatch_Apply_j7 (m : Option Nat) (a1 : List G_QFileEvent) (v5 : Int) (v10 : List ((List UInt8) × Int)) : Option ((Int × (List ((List UInt8) × Int))) ⊕ (List (List UInt8))) :=
  some (.inl ((W (v5 + 1)), v10))

noncomputable def S_filewatch_Apply_j6 (m : Option Nat) (a1 : List G_QFileEvent) (v5 : Int) (v6 : List ((List UInt8) × Int)) (v9 : Bool) : Option ((Int × (List ((List UInt8) × Int))) ⊕ (List (List UInt8))) :=
  if v9 = true then
    S_filewatch_Apply_j7 m a1 v5 (mp q_str v6 ((a1.getD v5.toNat default).f_Path) 1)
  else
    if ((a1.getD v5.toNat default).f_Kind == 3) = true then
      S_filewatch_Apply_j7 m a1 v5 (md q_str v6 ((a1.getD v5.toNat default).f_Path))
    else
      S_filewatch_Apply_j7 m a1 v5 v6

noncomputable def S_filewatch_Apply_j8 (m : Option Nat) (v6 : List ((List UInt8) × Int)) : Option (List (List UInt8)) :=
  (S_maps_Keys_map_string_int m v6).bind fun v11 =>
  (S_slices_Sorted_string_28 m v6).bind fun v12 =>
  some v12

noncomputable def S_filewatch_Apply_b2 (m : Option Nat) (a1 : List G_QFileEvent) (v5 : Int) (v6 : List ((List UInt8) × Int)) : Option ((Int × (List ((List UInt8) × Int))) ⊕ (List (List UInt8))) :=
  if (decide (v5 < ((a1.map e_QFileEvent).length : Int))) = true then
    if (0 : Int) ≤ v5 ∧ v5 < ((a1.map e_QFileEvent).length : Int) then
    if ((a1.getD v5.toNat default).f_Kind == 1) = true then
      S_filewatch_Apply_j6 m a1 v5 v6 ((a1.getD v5.toNat default).f_Kind == 1)
    else
      S_filewatch_Apply_j6 m a1 v5 v6 ((a1.getD v5.toNat default).f_Kind == 2)
    else none
  else
    Option.map Sum.inr (
      S_filewatch_Apply_j8 m v6)

noncomputable def S_filewatch_Apply_l2 (m : Option Nat) (a1 : List G_QFileEvent) (v5 : Int) (v6 : List ((List UInt8) × Int)) : Option (List (List UInt8)) := loopM m (fun (s : (Int × (List ((List UInt8) × Int)))) => S_filewatch_Apply_b2 m a1 s.1 s.2) (v5, v6)

noncomputable def S_filewatch_Apply_j1 (m : Option Nat) (a1 : List G_QFileEvent) (v2 : List ((List UInt8) × Int)) : Option (List (List UInt8)) :=
  S_filewatch_Apply_l2 m a1 0 v2

noncomputable def S_filewatch_Apply_b1 (m : Option Nat) (a0 : List (List UInt8)) (a1 : List G_QFileEvent) (v1 : Int) (v2 : List ((List UInt8) × Int)) : Option ((Int × (List ((List UInt8) × Int))) ⊕ (List (List UInt8))) :=
  if (decide (v1 < ((a0.map e_str).length : Int))) = true then
    if (0 : Int) ≤ v1 ∧ v1 < ((a0.map e_str).length : Int) then
    some (.inl ((W (v1 + 1)), (mp q_str v2 (a0.getD v1.toNat default) 1)))
    else none
  else
    Option.map Sum.inr (
      S_filewatch_Apply_j1 m a1 v2)

noncomputable def S_filewatch_Apply_l1 (m : Option Nat) (a0 : List (List UInt8)) (a1 : List G_QFileEvent) (v1 : Int) (v2 : List ((List UInt8) × Int)) : Option (List (List UInt8)) := loopM m (fun (s : (Int × (List ((List UInt8) × Int)))) => S_filewatch_Apply_b1 m a0 a1 s.1 s.2) (v1, v2)

def f13_L2_env (a1 : List G_QFileEvent) (s : (Int × (List ((List UInt8) × Int)))) : Env := [(5, .map (0, 0)), (20, .isl 3 (a1.map e_QFileEvent) false), (21, .int .i64 ((a1.map e_QFileEvent).length : Int)), (22, .int .i64 s.1)]
def f13_L2_hp (a1 : List G_QFileEvent) (s : (Int × (List ((List UInt8) × Int)))) : AHeap := [((0, 0), .amap (s.2.map (em a_str a_i64)))]
def f13_L2_Q (a0 : List (List UInt8)) (a1 : List G_QFileEvent) (o : (List (List UInt8))) : Exit → Env → AHeap → Nat → Prop := (QBlock 2 (QSeq Try.prog f13_lay 0 f13_c3 (f13_Q a0 a1 o)))

theorem f13_j7_ok {a0 : List (List UInt8)} {a1 : List G_QFileEvent} {v5 : Int} {v10 : List ((List UInt8) × Int)} {m : Option Nat} {o : ((Int × (List ((List UInt8) × Int))) ⊕ (List (List UInt8)))} (h : S_filewatch_Apply_j7 m a1 v5 v10 = some o) :
    LWp Try.prog f13_lay 0 f13_c2 (BodyQ 0 1 (f13_L2_env a1) (f13_L2_hp a1) (f13_L2_Q a0 a1) o) [(5, .map (0, 0)), (20, .isl 3 (a1.map e_QFileEvent) false), (21, .int .i64 ((a1.map e_QFileEvent).length : Int)), (22, .int .i64 v5)] [((0, 0), .amap (v10.map (em a_str a_i64)))] 1 := by
  unfold S_filewatch_Apply_j7 at h
  refine regI ?_
  cases h
  exact And.intro rfl (simI (M := [((0, 0), (0, 0))]) rfl (And.intro (Vw.map _ _ rfl) (And.intro (Vw.same _ rfl) (And.intro (Vw.same _ rfl) (And.intro (Vw.same _ rfl) trivial)))) (And.intro (And.intro rfl (BVw.ofMap a_str a_i64 a_i64_nid v10)) trivial))

theorem f13_j6_ok {a0 : List (List UInt8)} {a1 : List G_QFileEvent} {v5 : Int} {v6 : List ((List UInt8) × Int)} {v9 : Bool} {m : Option Nat} {o : ((Int × (List ((List UInt8) × Int))) ⊕ (List (List UInt8)))} (h : S_filewatch_Apply_j6 m a1 v5 v6 v9 = some o) :
    LWp Try.prog f13_lay 0 f13_c4 (QBlock 4 (QBlock 3 (QSeq Try.prog f13_lay 0 f13_c2 (BodyQ 0 1 (f13_L2_env a1) (f13_L2_hp a1) (f13_L2_Q a0 a1) o)))) [(5, .map (0, 0)), (9, .ptr (1, 0) 0 0), (20, .isl 3 (a1.map e_QFileEvent) false), (21, .int .i64 ((a1.map e_QFileEvent).length : Int)), (22, .int .i64 v5), (27, .int .i64 ((a1.getD v5.toNat default).f_Kind)), (28, .bool v9)] [((0, 0), .amap (v6.map (em a_str a_i64))), ((1, 0), .one [.int .i64 ((a1.getD v5.toNat default).f_Time), .str ((a1.getD v5.toNat default).f_Path), .int .i64 ((a1.getD v5.toNat default).f_Kind)])] 2 := by
  unfold S_filewatch_Apply_j6 at h
  refine condI (v := v9) rfl trivial (fun h20 => ?_) (fun h20 => ?_)
  · have h := ite_tt h20 h
    refine regI ?_
    refine Exists.intro ((mp q_str v6 ((a1.getD v5.toNat default).f_Path) 1).map (em a_str a_i64)) (And.intro (mput_enc (ek := a_str) (ev := a_i64) q_str_ok ((a1.getD v5.toNat default).f_Path) 1 v6) ?_)
    refine LWp.sim ?_ (f13_j7_ok h)
    exact simI (M := [((0, 0), (0, 0))]) rfl (And.intro (Vw.map _ _ rfl) (And.intro (Vw.same _ rfl) (And.intro (Vw.same _ rfl) (And.intro (Vw.same _ rfl) trivial)))) (And.intro (And.intro rfl (BVw.ofMap a_str a_i64 a_i64_nid (mp q_str v6 ((a1.getD v5.toNat default).f_Path) 1))) trivial)
  · have h := ite_ff h20 h
    refine seqI ?_
    refine regI ?_
    refine condI (v := ((a1.getD v5.toNat default).f_Kind == 3)) rfl trivial (fun h21 => ?_) (fun h21 => ?_)
    · have h := ite_tt h21 h
      refine regI ?_
      refine Exists.intro ((md q_str v6 ((a1.getD v5.toNat default).f_Path)).map (em a_str a_i64)) (And.intro (mdrop_enc (ek := a_str) (ev := a_i64) q_str_ok ((a1.getD v5.toNat default).f_Path) v6) ?_)
      refine LWp.sim ?_ (f13_j7_ok h)
      exact simI (M := [((0, 0), (0, 0))]) rfl (And.intro (Vw.map _ _ rfl) (And.intro (Vw.same _ rfl) (And.intro (Vw.same _ rfl) (And.intro (Vw.same _ rfl) trivial)))) (And.intro (And.intro rfl (BVw.ofMap a_str a_i64 a_i64_nid (md q_str v6 ((a1.getD v5.toNat default).f_Path)))) trivial)
    · have h := ite_ff h21 h
      refine skipI ?_
      refine LWp.sim ?_ (f13_j7_ok h)
      exact simI (M := [((0, 0), (0, 0))]) rfl (And.intro (Vw.map _ _ rfl) (And.intro (Vw.same _ rfl) (And.intro (Vw.same _ rfl) (And.intro (Vw.same _ rfl) trivial)))) (And.intro (And.intro rfl (BVw.ofMap a_str a_i64 a_i64_nid v6)) trivial)

theorem f13_j8_ok {a0 : List (List UInt8)} {a1 : List G_QFileEvent} {v6 : List ((List UInt8) × Int)} {m : Option Nat} {o : (List (List UInt8))} (h : S_filewatch_Apply_j8 m v6 = some o) :
    LWp Try.prog f13_lay 0 f13_c3 (f13_Q a0 a1 o) [(5, .map (0, 0))] [((0, 0), .amap (v6.map (em a_str a_i64)))] 1 := by
  unfold S_filewatch_Apply_j8 at h
  refine seqI ?_
  refine regI ?_
  obtain ⟨v11, h22, h⟩ := bind_some h
  refine bcall (k := 3) (m := 1) (L' := [((1, 0), .mbox (0, 0)), ((0, 0), .amap (v6.map (em a_str a_i64)))]) (rest := []) (R' := .fn (.func 39) [] [.ptr (1, 0) 0 0]) [((0, 0), (0, 0))] (f29b0_ok h22) rfl rfl rfl (And.intro (Vw.map _ _ rfl) trivial) (And.intro (h0I (0, 0) rfl rfl (BVw.ofMap a_str a_i64 a_i64_nid v6)) trivial) rfl (And.intro rfl (And.intro rfl (And.intro rfl (And.intro (map_ren a_str a_i64 a_str_nid a_i64_nid _) trivial)))) rfl ?_
  obtain ⟨v12, h23, h⟩ := bind_some h
  refine bcall (k := 3) (m := 0) (L' := [((1, 0), .mbox (0, 0)), ((0, 0), .amap (v6.map (em a_str a_i64)))]) (rest := []) (R' := .isl 1 (v12.map e_str) false) [((0, 0), (1, 0)), ((0, 1), (0, 0))] (f28b1_ok h23) rfl rfl rfl (And.intro (Vw.fnL trivial (And.intro (Vw.ptr _ _ _ _ rfl) trivial)) trivial) (And.intro (h0I (1, 0) rfl rfl (BVw.mbox _ _ rfl)) (And.intro (h0I (0, 0) rfl rfl (BVw.ofMap a_str a_i64 a_i64_nid v6)) trivial)) (nid_ren _ rfl) (And.intro rfl (And.intro rfl (And.intro rfl (And.intro (map_ren a_str a_i64 a_str_nid a_i64_nid _) trivial)))) rfl ?_
  refine retI ?_
  cases h
  exact And.intro trivial (And.intro rfl (Vw.same _ rfl))

theorem f13_L2_bok {a0 : List (List UInt8)} {a1 : List G_QFileEvent} {v5 : Int} {v6 : List ((List UInt8) × Int)} {m : Option Nat} {o : (Int × (List ((List UInt8) × Int))) ⊕ (List (List UInt8))} (h : S_filewatch_Apply_b2 m a1 v5 v6 = some o) :
    LWp Try.prog f13_lay 0 f13_c5 (BodyQ 0 1 (f13_L2_env a1) (f13_L2_hp a1) (f13_L2_Q a0 a1) o) [(5, .map (0, 0)), (20, .isl 3 (a1.map e_QFileEvent) false), (21, .int .i64 ((a1.map e_QFileEvent).length : Int)), (22, .int .i64 v5)] [((0, 0), .amap (v6.map (em a_str a_i64)))] 1 := by
  unfold S_filewatch_Apply_b2 at h
  refine seqI ?_
  refine regI ?_
  refine seqI ?_
  refine condI (v := (decide (v5 < ((a1.map e_QFileEvent).length : Int)))) rfl trivial (fun h17 => ?_) (fun h17 => ?_)
  · have h := ite_tt h17 h
    refine skipI ?_
    refine seqI ?_
    refine blockI ?_
    refine seqI ?_
    refine regI ?_
    obtain ⟨h18, h⟩ := ite_some h
    refine And.intro h18 ?_
    refine Exists.intro (e_QFileEvent (a1.getD v5.toNat default)) (And.intro (getD_enc e_QFileEvent _ _ (idx_ltL e_QFileEvent h18)) (And.intro (And.intro (idx_lt h18) (Nat.le_of_ble_eq_true rfl)) ?_))
    refine seqI ?_
    refine regI ?_
    refine blockI ?_
    refine seqI ?_
    refine seqI ?_
    refine regI ?_
    refine LWp.sim (e := [(5, .map (0, 0)), (9, .ptr (1, 0) 0 0), (20, .isl 3 (a1.map e_QFileEvent) false), (21, .int .i64 ((a1.map e_QFileEvent).length : Int)), (22, .int .i64 v5), (27, .int .i64 ((a1.getD v5.toNat default).f_Kind)), (28, .bool ((a1.getD v5.toNat default).f_Kind == 1))]) (L := [((0, 0), .amap (v6.map (em a_str a_i64))), ((1, 0), .one [.int .i64 ((a1.getD v5.toNat default).f_Time), .str ((a1.getD v5.toNat default).f_Path), .int .i64 ((a1.getD v5.toNat default).f_Kind)])]) (n := 2) ?_ ?_
    · exact simI (M := [((0, 0), (0, 0)), ((1, 0), (1, 0))]) rfl (And.intro (Vw.map _ _ rfl) (And.intro (Vw.ptr _ _ _ _ rfl) (And.intro (Vw.same _ rfl) (And.intro (Vw.same _ rfl) (And.intro (Vw.same _ rfl) (And.intro (Vw.same _ rfl) (And.intro (Vw.same _ rfl) trivial))))))) (And.intro (And.intro rfl (BVw.ofMap a_str a_i64 a_i64_nid v6)) (And.intro (And.intro rfl (BVw.oneL (And.intro (Vw.same _ rfl) (And.intro (Vw.same _ rfl) (And.intro (Vw.same _ rfl) trivial))))) trivial))
    refine condI (v := ((a1.getD v5.toNat default).f_Kind == 1)) rfl trivial (fun h19 => ?_) (fun h19 => ?_)
    · have h := ite_tt h19 h
      refine skipI ?_
      refine LWp.sim ?_ (f13_j6_ok h)
      exact simI (M := [((0, 0), (0, 0)), ((1, 0), (1, 0))]) rfl (And.intro (Vw.map _ _ rfl) (And.intro (Vw.ptr _ _ _ _ rfl) (And.intro (Vw.same _ rfl) (And.intro (Vw.same _ rfl) (And.intro (Vw.same _ rfl) (And.intro (Vw.same _ rfl) (And.intro (Vw.same _ rfl) trivial))))))) (And.intro (And.intro rfl (BVw.ofMap a_str a_i64 a_i64_nid v6)) (And.intro (And.intro rfl (BVw.oneL (And.intro (Vw.same _ rfl) (And.intro (Vw.same _ rfl) (And.intro (Vw.same _ rfl) trivial))))) trivial))
    · have h := ite_ff h19 h
      refine regI ?_
      refine LWp.sim ?_ (f13_j6_ok h)
      exact simI (M := [((0, 0), (0, 0)), ((1, 0), (1, 0))]) rfl (And.intro (Vw.map _ _ rfl) (And.intro (Vw.ptr _ _ _ _ rfl) (And.intro (Vw.same _ rfl) (And.intro (Vw.same _ rfl) (And.intro (Vw.same _ rfl) (And.intro (Vw.same _ rfl) (And.intro (Vw.same _ rfl) trivial))))))) (And.intro (And.intro rfl (BVw.ofMap a_str a_i64 a_i64_nid v6)) (And.intro (And.intro rfl (BVw.oneL (And.intro (Vw.same _ rfl) (And.intro (Vw.same _ rfl) (And.intro (Vw.same _ rfl) trivial))))) trivial))
  · have h := ite_ff h17 h
    refine exitI ?_
    obtain ⟨o, hq, rfl⟩ := Option.map_eq_some_iff.1 h
    replace h := hq; clear hq
    refine And.intro nofun ?_
    refine LWp.sim ?_ (f13_j8_ok h)
    exact simI (M := [((0, 0), (0, 0))]) rfl (And.intro (Vw.map _ _ rfl) trivial) (And.intro (And.intro rfl (BVw.ofMap a_str a_i64 a_i64_nid v6)) trivial)

theorem f13_L2_ok {a0 : List (List UInt8)} {a1 : List G_QFileEvent} {v5 : Int} {v6 : List ((List UInt8) × Int)} {m : Option Nat} {o : (List (List UInt8))} (h : S_filewatch_Apply_l2 m a1 v5 v6 = some o) :
    LWp Try.prog f13_lay 0 (.loop f13_c5) (QBlock 2 (QSeq Try.prog f13_lay 0 f13_c3 (f13_Q a0 a1 o))) [(5, .map (0, 0)), (20, .isl 3 (a1.map e_QFileEvent) false), (21, .int .i64 ((a1.map e_QFileEvent).length : Int)), (22, .int .i64 v5)] [((0, 0), .amap (v6.map (em a_str a_i64)))] 1 :=
  LWp_loopM (m := m) (s := ((v5, v6) : (Int × (List ((List UInt8) × Int))))) (r := o) (fun (s : (Int × (List ((List UInt8) × Int)))) => S_filewatch_Apply_b2 m a1 s.1 s.2) (f13_L2_env a1) (f13_L2_hp a1) (f13_L2_Q a0 a1) (fun s o h => f13_L2_bok h) h

theorem f13_j1_ok {a0 : List (List UInt8)} {a1 : List G_QFileEvent} {v2 : List ((List UInt8) × Int)} {m : Option Nat} {o : (List (List UInt8))} (h : S_filewatch_Apply_j1 m a1 v2 = some o) :
    LWp Try.prog f13_lay 0 f13_c0 (f13_Q a0 a1 o) [(1, .isl 3 (a1.map e_QFileEvent) false), (5, .map (0, 0))] [((0, 0), .amap (v2.map (em a_str a_i64)))] 1 := by
  unfold S_filewatch_Apply_j1 at h
  refine seqI ?_
  refine seqI ?_
  refine regI ?_
  refine blockI ?_
  refine LWp.sim ?_ (f13_L2_ok h)
  exact simI (M := [((0, 0), (0, 0))]) rfl (And.intro (Vw.map _ _ rfl) (And.intro (Vw.same _ rfl) (And.intro (Vw.same _ rfl) (And.intro (Vw.same _ rfl) trivial)))) (And.intro (And.intro rfl (BVw.ofMap a_str a_i64 a_i64_nid v2)) trivial)

theorem f13_L1_bok {a0 : List (List UInt8)} {a1 : List G_QFileEvent} {v1 : Int} {v2 : List ((List UInt8) × Int)} {m : Option Nat} {o : (Int × (List ((List UInt8) × Int))) ⊕ (List (List UInt8))} (h : S_filewatch_Apply_b1 m a0 a1 v1 v2 = some o) :
    LWp Try.prog f13_lay 0 f13_c1 (BodyQ 0 1 (f13_L1_env a0 a1) (f13_L1_hp a0 a1) (f13_L1_Q a0 a1) o) [(1, .isl 3 (a1.map e_QFileEvent) false), (5, .map (0, 0)), (11, .isl 1 (a0.map e_str) false), (12, .int .i64 ((a0.map e_str).length : Int)), (13, .int .i64 v1)] [((0, 0), .amap (v2.map (em a_str a_i64)))] 1 := by
  unfold S_filewatch_Apply_b1 at h
  refine seqI ?_
  refine regI ?_
  refine seqI ?_
  refine condI (v := (decide (v1 < ((a0.map e_str).length : Int)))) rfl trivial (fun h5 => ?_) (fun h5 => ?_)
  · have h := ite_tt h5 h
    refine skipI ?_
    refine seqI ?_
    refine blockI ?_
    refine seqI ?_
    refine regI ?_
    obtain ⟨h6, h⟩ := ite_some h
    refine And.intro h6 ?_
    refine Exists.intro (e_str (a0.getD v1.toNat default)) (And.intro (getD_enc e_str _ _ (idx_ltL e_str h6)) (And.intro (And.intro (idx_lt h6) (Nat.le_of_ble_eq_true rfl)) ?_))
    refine regI ?_
    refine Exists.intro ((mp q_str v2 (a0.getD v1.toNat default) 1).map (em a_str a_i64)) (And.intro (mput_enc (ek := a_str) (ev := a_i64) q_str_ok (a0.getD v1.toNat default) 1 v2) ?_)
    refine regI ?_
    cases h
    exact And.intro rfl (simI (M := [((0, 0), (0, 0))]) rfl (And.intro (Vw.same _ rfl) (And.intro (Vw.map _ _ rfl) (And.intro (Vw.same _ rfl) (And.intro (Vw.same _ rfl) (And.intro (Vw.same _ rfl) trivial))))) (And.intro (And.intro rfl (BVw.ofMap a_str a_i64 a_i64_nid (mp q_str v2 (a0.getD v1.toNat default) 1))) trivial))
  · have h := ite_ff h5 h
    refine exitI ?_
    obtain ⟨o, hq, rfl⟩ := Option.map_eq_some_iff.1 h
    replace h := hq; clear hq
    refine And.intro nofun ?_
    refine LWp.sim ?_ (f13_j1_ok h)
    exact simI (M := [((0, 0), (0, 0))]) rfl (And.intro (Vw.same _ rfl) (And.intro (Vw.map _ _ rfl) trivial)) (And.intro (And.intro rfl (BVw.ofMap a_str a_i64 a_i64_nid v2)) trivial)

theorem f13_L1_ok {a0 : List (List UInt8)} {a1 : List G_QFileEvent} {v1 : Int} {v2 : List ((List UInt8) × Int)} {m : Option Nat} {o : (List (List UInt8))} (h : S_filewatch_Apply_l1 m a0 a1 v1 v2 = some o) :
    LWp Try.prog f13_lay 0 (.loop f13_c1) (QBlock 0 (QSeq Try.prog f13_lay 0 f13_c0 (f13_Q a0 a1 o))) [(1, .isl 3 (a1.map e_QFileEvent) false), (5, .map (0, 0)), (11, .isl 1 (a0.map e_str) false), (12, .int .i64 ((a0.map e_str).length : Int)), (13, .int .i64 v1)] [((0, 0), .amap (v2.map (em a_str a_i64)))] 1 :=
  LWp_loopM (m := m) (s := ((v1, v2) : (Int × (List ((List UInt8) × Int))))) (r := o) (fun (s : (Int × (List ((List UInt8) × Int)))) => S_filewatch_Apply_b1 m a0 a1 s.1 s.2) (f13_L1_env a0 a1) (f13_L1_hp a0 a1) (f13_L1_Q a0 a1) (fun s o h => f13_L1_bok h) h

noncomputable def S_filewatch_Apply (m : Option Nat) (a0 : List (List UInt8)) (a1 : List G_QFileEvent) : Option (List (List UInt8)) :=
  S_filewatch_Apply_l1 m a0 a1 0 ([] : List ((List UInt8) × Int))

theorem f13_start {a0 : List (List UInt8)} {a1 : List G_QFileEvent} {m : Option Nat} {o : (List (List UInt8))} (h : S_filewatch_Apply m a0 a1 = some o) : LWp Try.prog f13_lay 0 f13_c6 (f13_Q a0 a1 o) (initEnv 0 [.isl 1 (a0.map e_str) false, .isl 3 (a1.map e_QFileEvent) false]) [] 0 := by
  unfold S_filewatch_Apply at h
  refine seqI ?_
  refine regI ?_
  refine seqI ?_
  refine regI ?_
  refine seqI ?_
  refine seqI ?_
  refine regI ?_
  refine blockI ?_
  refine LWp.sim ?_ (f13_L1_ok h)
  exact simI (M := [((0, 0), (0, 0))]) rfl (And.intro (Vw.same _ rfl) (And.intro (Vw.map _ _ rfl) (And.intro (Vw.same _ rfl) (And.intro (Vw.same _ rfl) (And.intro (Vw.same _ rfl) trivial))))) (And.intro (And.intro rfl (BVw.ofMap a_str a_i64 a_i64_nid ([] : List ((List UInt8) × Int)))) trivial)

theorem f13_ok {a0 : List (List UInt8)} {a1 : List G_QFileEvent} {m : Option Nat} {o : (List (List UInt8))} (h : S_filewatch_Apply m a0 a1 = some o) : PFn Try.prog 13 [.isl 1 (a0.map e_str) false, .isl 3 (a1.map e_QFileEvent) false] (.isl 1 (o.map e_str) false) := PFn.ofFnW (L := f13_L) f13_low f13_fok (Nat.le_of_ble_eq_true rfl) rfl (f13_start h)

def f14_c4 : LCode := (.region [⟨some 38, .bin .add (.t 21) (.c (.int .i64 1)), none⟩,
   ⟨some 21, .mv (.t 38), none⟩])
def f14_c2 : LCode := (.seq (.region [⟨some 22, .bin .lss (.t 21) (.t 20), none⟩])
 (.seq (.cond (.t 22)
  .skip
  (.exit 2))
 (.seq (.block 3
  (.seq (.region [⟨some 23, .iaddr 1 (.t 19) (.t 21), none⟩,
    ⟨some 24, .load false 1 (.t 23), none⟩,
    ⟨some 10, .mv (.t 24), none⟩])
  (.seq (.region [⟨some 25, .mv (.t 10), none⟩,
    ⟨some 26, .faddr 1 (.t 7), none⟩,
    ⟨some 27, .load false 1 (.t 26), none⟩,
    ⟨some 28, .bin .neq (.t 25) (.t 27), none⟩,
    ⟨some 29, .mv (.t 28), none⟩,
    ⟨some 30, .faddr 2 (.t 7), some (29, false)⟩,
    ⟨some 31, .load false 1 (.t 30), some (29, false)⟩,
    ⟨some 32, .bin .neq (.t 31) (.c (.int .i64 3)), some (29, false)⟩,
    ⟨some 33, .pick (.t 29) (.c (.bool true)) (.t 32), none⟩])
  (.cond (.t 33)
   (.region [⟨some 34, .mv (.t 8), none⟩,
     ⟨some 35, .mv (.t 10), none⟩,
     ⟨some 36, .mkSl true 1 [(.str [])] 1 [(0, (.t 35))], none⟩,
     ⟨some 37, .app true 1 16 (.t 34) (.t 36), none⟩,
     ⟨some 8, .mv (.t 37), none⟩])
   .skip))))
 f14_c4)))
def f14_c5 : LCode := (.region [⟨some 53, .mv (.t 8), none⟩,
   ⟨some 5, .mv (.t 53), none⟩])
def f14_c0 : LCode := (.seq (.seq (.region [⟨some 39, .faddr 2 (.t 7), none⟩,
   ⟨some 40, .load false 1 (.t 39), none⟩,
   ⟨some 41, .bin .eql (.t 40) (.c (.int .i64 1)), none⟩,
   ⟨some 42, .mv (.t 41), none⟩,
   ⟨some 43, .faddr 2 (.t 7), some (42, false)⟩,
   ⟨some 44, .load false 1 (.t 43), some (42, false)⟩,
   ⟨some 45, .bin .eql (.t 44) (.c (.int .i64 2)), some (42, false)⟩,
   ⟨some 46, .pick (.t 42) (.c (.bool true)) (.t 45), none⟩])
 (.cond (.t 46)
  (.region [⟨some 47, .mv (.t 8), none⟩,
    ⟨some 48, .faddr 1 (.t 7), none⟩,
    ⟨some 49, .load false 1 (.t 48), none⟩,
    ⟨some 50, .mkSl true 1 [(.str [])] 1 [(0, (.t 49))], none⟩,
    ⟨some 51, .app true 1 16 (.t 47) (.t 50), none⟩,
    ⟨some 52, .call 30 [(.t 51)], none⟩,
    ⟨some 8, .mv (.t 52), none⟩])
  .skip))
 f14_c5)
def f14_c1 : LCode := (.region [⟨some 54, .bin .add (.t 15) (.c (.int .i64 1)), none⟩,
   ⟨some 15, .mv (.t 54), none⟩])
def f14_c6 : LCode := (.seq (.region [⟨some 16, .bin .lss (.t 15) (.t 14), none⟩])
 (.seq (.cond (.t 16)
  .skip
  (.exit 0))
 (.seq (.block 1
  (.seq (.region [⟨some 17, .iaddr 3 (.t 13) (.t 15), none⟩,
    ⟨some 18, .load true 3 (.t 17), none⟩,
    ⟨some 7, .alloc [(.int .i64 0), (.str []), (.int .i64 0)], none⟩,
    ⟨none, .store 3 (.t 7) (.t 18), none⟩])
  (.seq (.region [⟨some 8, .mv (.c (.val (.slice none 0 0))), none⟩])
  (.seq (.seq (.region [⟨some 19, .mv (.t 5), none⟩,
    ⟨some 20, .len false (.t 19), none⟩,
    ⟨some 21, .mv (.c (.int .i64 0)), none⟩])
  (.block 2
   (.loop
    f14_c2)))
  f14_c0))))
 f14_c1)))
def f14_c3 : LCode := (.seq (.region [⟨some 55, .mv (.t 5), none⟩,
   ⟨some 4, .mv (.t 55), none⟩])
 .ret)
def f14_c7 : LCode := (.seq (.region [⟨some 4, .mv (.c (.val (.slice none 0 0))), none⟩])
 (.seq (.region [⟨some 11, .mv (.t 0), none⟩,
   ⟨some 12, .call 30 [(.t 11)], none⟩,
   ⟨some 5, .mv (.t 12), none⟩])
 (.seq (.seq (.region [⟨some 13, .mv (.t 1), none⟩,
   ⟨some 14, .len false (.t 13), none⟩,
   ⟨some 15, .mv (.c (.int .i64 0)), none⟩])
 (.block 0
  (.loop
   f14_c6)))
 f14_c3)))
def f14_lay : Lay := ⟨56, [], false⟩
def f14_res : List LRes := [.t 4]
def f14_L : LFn := ⟨2, f14_lay, f14_c7, f14_res⟩
theorem f14_low : lowFn Try.prog [] 14 = some f14_L := by kernel_rfl
theorem f14_fok : FnOk Try.prog 14 := ⟨_, Try.func14, rfl, rfl⟩
def f14_Q (a0 : List (List UInt8)) (a1 : List G_QFileEvent) (o : (List (List UInt8))) : Exit → Env → AHeap → Nat → Prop := FinK f14_res (PureEnd (.isl 1 (o.map e_str) false))

def f14_L3_env (a1 : List G_QFileEvent) (s : ((List (List UInt8)) × Int)) : Env := [(5, .isl 1 (s.1.map e_str) false), (13, .isl 3 (a1.map e_QFileEvent) false), (14, .int .i64 ((a1.map e_QFileEvent).length : Int)), (15, .int .i64 s.2)]
def f14_L3_hp (a1 : List G_QFileEvent) (s : ((List (List UInt8)) × Int)) : AHeap := []
def f14_L3_Q (a0 : List (List UInt8)) (a1 : List G_QFileEvent) (o : (List (List UInt8))) : Exit → Env → AHeap → Nat → Prop := (QBlock 0 (QSeq Try.prog f14_lay 0 f14_c3 (f14_Q a0 a1 o)))

def f14_L4_env (a1 : List G_QFileEvent) (v9 : List (List UInt8)) (v10 : Int) (s : ((List (List UInt8)) × Int)) : Env := [(7, .ptr (0, 0) 0 0), (8, .osl (1, 0) 1 (s.1.map e_str)), (13, .isl 3 (a1.map e_QFileEvent) false), (14, .int .i64 ((a1.map e_QFileEvent).length : Int)), (15, .int .i64 v10), (19, .isl 1 (v9.map e_str) false), (20, .int .i64 ((v9.map e_str).length : Int)), (21, .int .i64 s.2)]
def f14_L4_hp (a1 : List G_QFileEvent) (v9 : List (List UInt8)) (v10 : Int) (s : ((List (List UInt8)) × Int)) : AHeap := [((0, 0), .one [.int .i64 ((a1.getD v10.toNat default).f_Time), .str ((a1.getD v10.toNat default).f_Path), .int .i64 ((a1.getD v10.toNat default).f_Kind)]), ((1, 0), .tok)]
def f14_L4_Q (a0 : List (List UInt8)) (a1 : List G_QFileEvent) (o : (((List (List UInt8)) × Int) ⊕ (List (List UInt8)))) : Exit → Env → AHeap → Nat → Prop := (QBlock 2 (QSeq Try.prog f14_lay 0 f14_c0 (QBlock 1 (QSeq Try.prog f14_lay 0 f14_c1 (BodyQ 0 0 (f14_L3_env a1) (f14_L3_hp a1) (f14_L3_Q a0 a1) o)))))

noncomputable def S_glossatorref3_Files_j15 (m : Option Nat) (a1 : List G_QFileEvent) (v9 : List (List UInt8)) (v10 : Int) (v20 : Int) (v22 : List (List UInt8)) : Option (((List (List UInt8)) × Int) ⊕ (((List (List UInt8)) × Int) ⊕ (List (List UInt8)))) :=
  some (.inl (v22, (W (v20 + 1))))

theorem f14_j15_ok {a0 : List (List UInt8)} {a1 : List G_QFileEvent} {v9 : List (List UInt8)} {v10 : Int} {v20 : Int} {v22 : List (List UInt8)} {m : Option Nat} {o : (((List (List UInt8)) × Int) ⊕ (((List (List UInt8)) × Int) ⊕ (List (List UInt8))))} (h : S_glossatorref3_Files_j15 m a1 v9 v10 v20 v22 = some o) :
    LWp Try.prog f14_lay 0 f14_c4 (BodyQ 0 2 (f14_L4_env a1 v9 v10) (f14_L4_hp a1 v9 v10) (f14_L4_Q a0 a1) o) [(7, .ptr (0, 0) 0 0), (8, .osl (1, 0) 1 (v22.map e_str)), (13, .isl 3 (a1.map e_QFileEvent) false), (14, .int .i64 ((a1.map e_QFileEvent).length : Int)), (15, .int .i64 v10), (19, .isl 1 (v9.map e_str) false), (20, .int .i64 ((v9.map e_str).length : Int)), (21, .int .i64 v20)] [((0, 0), .one [.int .i64 ((a1.getD v10.toNat default).f_Time), .str ((a1.getD v10.toNat default).f_Path), .int .i64 ((a1.getD v10.toNat default).f_Kind)]), ((1, 0), .tok)] 2 := by
  unfold S_glossatorref3_Files_j15 at h
  refine regI ?_
  cases h
  exact And.intro rfl (simI (M := [((0, 0), (0, 0)), ((1, 0), (1, 0))]) rfl (And.intro (Vw.ptr _ _ _ _ rfl) (And.intro (Vw.osl _ _ _ _ rfl) (And.intro (Vw.same _ rfl) (And.intro (Vw.same _ rfl) (And.intro (Vw.same _ rfl) (And.intro (Vw.same _ rfl) (And.intro (Vw.same _ rfl) (And.intro (Vw.same _ rfl) trivial)))))))) (And.intro (And.intro rfl (BVw.oneL (And.intro (Vw.same _ rfl) (And.intro (Vw.same _ rfl) (And.intro (Vw.same _ rfl) trivial))))) (And.intro (And.intro rfl BVw.tok) trivial)))

noncomputable def S_glossatorref3_Files_j18 (m : Option Nat) (a1 : List G_QFileEvent) (v10 : Int) (v24 : List (List UInt8)) : Option (((List (List UInt8)) × Int) ⊕ (List (List UInt8))) :=
  some (.inl (v24, (W (v10 + 1))))

noncomputable def S_glossatorref3_Files_j17 (m : Option Nat) (a1 : List G_QFileEvent) (v10 : Int) (v24 : List (List UInt8)) : Option (((List (List UInt8)) × Int) ⊕ (List (List UInt8))) :=
  S_glossatorref3_Files_j18 m a1 v10 v24

noncomputable def S_glossatorref3_Files_j16 (m : Option Nat) (a1 : List G_QFileEvent) (v10 : Int) (v19 : List (List UInt8)) : Option (((List (List UInt8)) × Int) ⊕ (List (List UInt8))) :=
  if (((a1.getD v10.toNat default).f_Kind == 1) || ((a1.getD v10.toNat default).f_Kind == 2)) = true then
    if ((v19 ++ ([(a1.getD v10.toNat default).f_Path] : List (List UInt8))).map e_str).length * 16 ≤ 140737488355328 then
    (S_glossatorref3_SortStrings m (v19 ++ ([(a1.getD v10.toNat default).f_Path] : List (List UInt8)))).bind fun v23 =>
    S_glossatorref3_Files_j17 m a1 v10 v23
    else none
  else
    S_glossatorref3_Files_j17 m a1 v10 v19

noncomputable def S_glossatorref3_Files_b4 (m : Option Nat) (a1 : List G_QFileEvent) (v9 : List (List UInt8)) (v10 : Int) (v19 : List (List UInt8)) (v20 : Int) : Option (((List (List UInt8)) × Int) ⊕ (((List (List UInt8)) × Int) ⊕ (List (List UInt8)))) :=
  if (decide (v20 < ((v9.map e_str).length : Int))) = true then
    if (0 : Int) ≤ v20 ∧ v20 < ((v9.map e_str).length : Int) then
    if ((!((v9.getD v20.toNat default) == (a1.getD v10.toNat default).f_Path)) || ((a1.getD v10.toNat default).f_Kind != 3)) = true then
      if ((v19 ++ ([(v9.getD v20.toNat default)] : List (List UInt8))).map e_str).length * 16 ≤ 140737488355328 then
      S_glossatorref3_Files_j15 m a1 v9 v10 v20 (v19 ++ ([(v9.getD v20.toNat default)] : List (List UInt8)))
      else none
    else
      S_glossatorref3_Files_j15 m a1 v9 v10 v20 v19
    else none
  else
    Option.map Sum.inr (
      S_glossatorref3_Files_j16 m a1 v10 v19)

noncomputable def S_glossatorref3_Files_l4 (m : Option Nat) (a1 : List G_QFileEvent) (v9 : List (List UInt8)) (v10 : Int) (v19 : List (List UInt8)) (v20 : Int) : Option (((List (List UInt8)) × Int) ⊕ (List (List UInt8))) := loopM m (fun (s : ((List (List UInt8)) × Int)) => S_glossatorref3_Files_b4 m a1 v9 v10 s.1 s.2) (v19, v20)

theorem f14_j18_ok {a0 : List (List UInt8)} {a1 : List G_QFileEvent} {v10 : Int} {v24 : List (List UInt8)} {m : Option Nat} {o : (((List (List UInt8)) × Int) ⊕ (List (List UInt8)))} (h : S_glossatorref3_Files_j18 m a1 v10 v24 = some o) :
    LWp Try.prog f14_lay 0 f14_c1 (BodyQ 0 0 (f14_L3_env a1) (f14_L3_hp a1) (f14_L3_Q a0 a1) o) [(5, .isl 1 (v24.map e_str) false), (13, .isl 3 (a1.map e_QFileEvent) false), (14, .int .i64 ((a1.map e_QFileEvent).length : Int)), (15, .int .i64 v10)] [] 0 := by
  unfold S_glossatorref3_Files_j18 at h
  refine regI ?_
  cases h
  exact And.intro rfl (simI (M := []) rfl (And.intro (Vw.same _ rfl) (And.intro (Vw.same _ rfl) (And.intro (Vw.same _ rfl) (And.intro (Vw.same _ rfl) trivial)))) trivial)

theorem f14_j17_ok {a0 : List (List UInt8)} {a1 : List G_QFileEvent} {v10 : Int} {v24 : List (List UInt8)} {m : Option Nat} {o : (((List (List UInt8)) × Int) ⊕ (List (List UInt8)))} (h : S_glossatorref3_Files_j17 m a1 v10 v24 = some o) :
    LWp Try.prog f14_lay 0 f14_c5 (QBlock 1 (QSeq Try.prog f14_lay 0 f14_c1 (BodyQ 0 0 (f14_L3_env a1) (f14_L3_hp a1) (f14_L3_Q a0 a1) o))) [(8, .isl 1 (v24.map e_str) false), (13, .isl 3 (a1.map e_QFileEvent) false), (14, .int .i64 ((a1.map e_QFileEvent).length : Int)), (15, .int .i64 v10)] [] 0 := by
  unfold S_glossatorref3_Files_j17 at h
  refine regI ?_
  refine LWp.sim ?_ (f14_j18_ok h)
  exact simI (M := []) rfl (And.intro (Vw.same _ rfl) (And.intro (Vw.same _ rfl) (And.intro (Vw.same _ rfl) (And.intro (Vw.same _ rfl) trivial)))) trivial

theorem f14_j16_ok {a0 : List (List UInt8)} {a1 : List G_QFileEvent} {v10 : Int} {v19 : List (List UInt8)} {m : Option Nat} {o : (((List (List UInt8)) × Int) ⊕ (List (List UInt8)))} (h : S_glossatorref3_Files_j16 m a1 v10 v19 = some o) :
    LWp Try.prog f14_lay 0 f14_c0 (QBlock 1 (QSeq Try.prog f14_lay 0 f14_c1 (BodyQ 0 0 (f14_L3_env a1) (f14_L3_hp a1) (f14_L3_Q a0 a1) o))) [(7, .ptr (0, 0) 0 0), (8, .osl (1, 0) 1 (v19.map e_str)), (13, .isl 3 (a1.map e_QFileEvent) false), (14, .int .i64 ((a1.map e_QFileEvent).length : Int)), (15, .int .i64 v10)] [((0, 0), .one [.int .i64 ((a1.getD v10.toNat default).f_Time), .str ((a1.getD v10.toNat default).f_Path), .int .i64 ((a1.getD v10.toNat default).f_Kind)]), ((1, 0), .tok)] 2 := by
  unfold S_glossatorref3_Files_j16 at h
  refine seqI ?_
  refine seqI ?_
  refine regI ?_
  refine And.intro (fun hp => hp) ?_
  show yops _ _ _ [(44, .cnd (((a1.getD v10.toNat default).f_Kind == 1) == false) (.int .i64 ((a1.getD v10.toNat default).f_Kind))), (43, .cnd (((a1.getD v10.toNat default).f_Kind == 1) == false) (.ptr (0, 0) 0 2)), (42, .bool ((a1.getD v10.toNat default).f_Kind == 1)), (41, .bool ((a1.getD v10.toNat default).f_Kind == 1)), (40, .int .i64 ((a1.getD v10.toNat default).f_Kind)), (39, .ptr (0, 0) 0 2), (7, .ptr (0, 0) 0 0), (8, .osl (1, 0) 1 (v19.map e_str)), (13, .isl 3 (a1.map e_QFileEvent) false), (14, .int .i64 ((a1.map e_QFileEvent).length : Int)), (15, .int .i64 v10)] _ _
  refine And.intro (fun hp => hp) ?_
  refine And.intro (fun hc => (bqf hc)) ?_
  refine LWp.sim (e := [(7, .ptr (0, 0) 0 0), (8, .osl (1, 0) 1 (v19.map e_str)), (13, .isl 3 (a1.map e_QFileEvent) false), (14, .int .i64 ((a1.map e_QFileEvent).length : Int)), (15, .int .i64 v10), (46, .bool (((a1.getD v10.toNat default).f_Kind == 1) || ((a1.getD v10.toNat default).f_Kind == 2)))]) (L := [((0, 0), .one [.int .i64 ((a1.getD v10.toNat default).f_Time), .str ((a1.getD v10.toNat default).f_Path), .int .i64 ((a1.getD v10.toNat default).f_Kind)]), ((1, 0), .tok)]) (n := 2) ?_ ?_
  · exact simI (M := [((0, 0), (0, 0)), ((1, 0), (1, 0))]) rfl (And.intro (Vw.ptr _ _ _ _ rfl) (And.intro (Vw.osl _ _ _ _ rfl) (And.intro (Vw.same _ rfl) (And.intro (Vw.same _ rfl) (And.intro (Vw.same _ rfl) (And.intro (Vw.same _ rfl) trivial)))))) (And.intro (And.intro rfl (BVw.oneL (And.intro (Vw.same _ rfl) (And.intro (Vw.same _ rfl) (And.intro (Vw.same _ rfl) trivial))))) (And.intro (And.intro rfl BVw.tok) trivial))
  refine condI (v := (((a1.getD v10.toNat default).f_Kind == 1) || ((a1.getD v10.toNat default).f_Kind == 2))) rfl trivial (fun h50 => ?_) (fun h50 => ?_)
  · have h := ite_tt h50 h
    refine regI ?_
    obtain ⟨h51, h⟩ := ite_some h
    refine Exists.intro ((v19 ++ ([(a1.getD v10.toNat default).f_Path] : List (List UInt8))).map e_str) (And.intro (app_enc e_str v19 ([(a1.getD v10.toNat default).f_Path] : List (List UInt8))) (And.intro h51 ?_))
    obtain ⟨v23, h52, h⟩ := bind_some h
    refine PFn.call (f30_ok h52) (And.intro (Vw.oslI _ _ _) trivial) ?_
    show yops _ _ _ [(52, .isl 1 (v23.map e_str) false), (51, .osl (2, 0) 1 ((v19 ++ ([(a1.getD v10.toNat default).f_Path] : List (List UInt8))).map e_str)), (50, .isl 1 (([(a1.getD v10.toNat default).f_Path] : List (List UInt8)).map e_str) true), (49, .str ((a1.getD v10.toNat default).f_Path)), (48, .ptr (0, 0) 0 1), (47, .osl (1, 0) 1 (v19.map e_str)), (7, .ptr (0, 0) 0 0), (8, .osl (1, 0) 1 (v19.map e_str)), (13, .isl 3 (a1.map e_QFileEvent) false), (14, .int .i64 ((a1.map e_QFileEvent).length : Int)), (15, .int .i64 v10), (46, .bool (((a1.getD v10.toNat default).f_Kind == 1) || ((a1.getD v10.toNat default).f_Kind == 2)))] _ _
    refine LWp.sim ?_ (f14_j17_ok h)
    exact simI (M := []) rfl (And.intro (Vw.same _ rfl) (And.intro (Vw.same _ rfl) (And.intro (Vw.same _ rfl) (And.intro (Vw.same _ rfl) trivial)))) trivial
  · have h := ite_ff h50 h
    refine skipI ?_
    refine LWp.sim ?_ (f14_j17_ok h)
    exact simI (M := []) rfl (And.intro (Vw.oslI _ _ _) (And.intro (Vw.same _ rfl) (And.intro (Vw.same _ rfl) (And.intro (Vw.same _ rfl) trivial)))) trivial

theorem f14_L4_bok {a0 : List (List UInt8)} {a1 : List G_QFileEvent} {v9 : List (List UInt8)} {v10 : Int} {v19 : List (List UInt8)} {v20 : Int} {m : Option Nat} {o : ((List (List UInt8)) × Int) ⊕ (((List (List UInt8)) × Int) ⊕ (List (List UInt8)))} (h : S_glossatorref3_Files_b4 m a1 v9 v10 v19 v20 = some o) :
    LWp Try.prog f14_lay 0 f14_c2 (BodyQ 0 2 (f14_L4_env a1 v9 v10) (f14_L4_hp a1 v9 v10) (f14_L4_Q a0 a1) o) [(7, .ptr (0, 0) 0 0), (8, .osl (1, 0) 1 (v19.map e_str)), (13, .isl 3 (a1.map e_QFileEvent) false), (14, .int .i64 ((a1.map e_QFileEvent).length : Int)), (15, .int .i64 v10), (19, .isl 1 (v9.map e_str) false), (20, .int .i64 ((v9.map e_str).length : Int)), (21, .int .i64 v20)] [((0, 0), .one [.int .i64 ((a1.getD v10.toNat default).f_Time), .str ((a1.getD v10.toNat default).f_Path), .int .i64 ((a1.getD v10.toNat default).f_Kind)]), ((1, 0), .tok)] 2 := by
  unfold S_glossatorref3_Files_b4 at h
  refine seqI ?_
  refine regI ?_
  refine seqI ?_
  refine condI (v := (decide (v20 < ((v9.map e_str).length : Int)))) rfl trivial (fun h46 => ?_) (fun h46 => ?_)
  · have h := ite_tt h46 h
    refine skipI ?_
    refine seqI ?_
    refine blockI ?_
    refine seqI ?_
    refine regI ?_
    obtain ⟨h47, h⟩ := ite_some h
    refine And.intro h47 ?_
    refine Exists.intro (e_str (v9.getD v20.toNat default)) (And.intro (getD_enc e_str _ _ (idx_ltL e_str h47)) (And.intro (And.intro (idx_lt h47) (Nat.le_of_ble_eq_true rfl)) ?_))
    refine seqI ?_
    refine regI ?_
    refine And.intro (fun hp => hp) ?_
    show yops _ _ _ [(31, .cnd ((!((v9.getD v20.toNat default) == (a1.getD v10.toNat default).f_Path)) == false) (.int .i64 ((a1.getD v10.toNat default).f_Kind))), (30, .cnd ((!((v9.getD v20.toNat default) == (a1.getD v10.toNat default).f_Path)) == false) (.ptr (0, 0) 0 2)), (29, .bool (!((v9.getD v20.toNat default) == (a1.getD v10.toNat default).f_Path))), (28, .bool (!((v9.getD v20.toNat default) == (a1.getD v10.toNat default).f_Path))), (27, .str ((a1.getD v10.toNat default).f_Path)), (26, .ptr (0, 0) 0 1), (25, .str (v9.getD v20.toNat default)), (10, .str (v9.getD v20.toNat default)), (24, .str (v9.getD v20.toNat default)), (23, .iptr 1 (v9.map e_str) v20.toNat 0), (22, .bool (decide (v20 < ((v9.map e_str).length : Int)))), (7, .ptr (0, 0) 0 0), (8, .osl (1, 0) 1 (v19.map e_str)), (13, .isl 3 (a1.map e_QFileEvent) false), (14, .int .i64 ((a1.map e_QFileEvent).length : Int)), (15, .int .i64 v10), (19, .isl 1 (v9.map e_str) false), (20, .int .i64 ((v9.map e_str).length : Int)), (21, .int .i64 v20)] _ _
    refine And.intro (fun hp => hp) ?_
    refine And.intro (fun hc => (bqf hc)) ?_
    refine LWp.sim (e := [(7, .ptr (0, 0) 0 0), (8, .osl (1, 0) 1 (v19.map e_str)), (10, .str (v9.getD v20.toNat default)), (13, .isl 3 (a1.map e_QFileEvent) false), (14, .int .i64 ((a1.map e_QFileEvent).length : Int)), (15, .int .i64 v10), (19, .isl 1 (v9.map e_str) false), (20, .int .i64 ((v9.map e_str).length : Int)), (21, .int .i64 v20), (33, .bool ((!((v9.getD v20.toNat default) == (a1.getD v10.toNat default).f_Path)) || ((a1.getD v10.toNat default).f_Kind != 3)))]) (L := [((0, 0), .one [.int .i64 ((a1.getD v10.toNat default).f_Time), .str ((a1.getD v10.toNat default).f_Path), .int .i64 ((a1.getD v10.toNat default).f_Kind)]), ((1, 0), .tok)]) (n := 2) ?_ ?_
    · exact simI (M := [((0, 0), (0, 0)), ((1, 0), (1, 0))]) rfl (And.intro (Vw.ptr _ _ _ _ rfl) (And.intro (Vw.osl _ _ _ _ rfl) (And.intro (Vw.same _ rfl) (And.intro (Vw.same _ rfl) (And.intro (Vw.same _ rfl) (And.intro (Vw.same _ rfl) (And.intro (Vw.same _ rfl) (And.intro (Vw.same _ rfl) (And.intro (Vw.same _ rfl) (And.intro (Vw.same _ rfl) trivial)))))))))) (And.intro (And.intro rfl (BVw.oneL (And.intro (Vw.same _ rfl) (And.intro (Vw.same _ rfl) (And.intro (Vw.same _ rfl) trivial))))) (And.intro (And.intro rfl BVw.tok) trivial))
    refine condI (v := ((!((v9.getD v20.toNat default) == (a1.getD v10.toNat default).f_Path)) || ((a1.getD v10.toNat default).f_Kind != 3))) rfl trivial (fun h48 => ?_) (fun h48 => ?_)
    · have h := ite_tt h48 h
      refine regI ?_
      obtain ⟨h49, h⟩ := ite_some h
      refine Exists.intro ((v19 ++ ([(v9.getD v20.toNat default)] : List (List UInt8))).map e_str) (And.intro (app_enc e_str v19 ([(v9.getD v20.toNat default)] : List (List UInt8))) (And.intro h49 ?_))
      refine LWp.sim ?_ (f14_j15_ok h)
      exact simI (M := [((0, 0), (0, 0)), ((1, 0), (2, 0))]) rfl (And.intro (Vw.ptr _ _ _ _ rfl) (And.intro (Vw.osl _ _ _ _ rfl) (And.intro (Vw.same _ rfl) (And.intro (Vw.same _ rfl) (And.intro (Vw.same _ rfl) (And.intro (Vw.same _ rfl) (And.intro (Vw.same _ rfl) (And.intro (Vw.same _ rfl) trivial)))))))) (And.intro (And.intro rfl (BVw.oneL (And.intro (Vw.same _ rfl) (And.intro (Vw.same _ rfl) (And.intro (Vw.same _ rfl) trivial))))) (And.intro (And.intro rfl BVw.tok) trivial))
    · have h := ite_ff h48 h
      refine skipI ?_
      refine LWp.sim ?_ (f14_j15_ok h)
      exact simI (M := [((0, 0), (0, 0)), ((1, 0), (1, 0))]) rfl (And.intro (Vw.ptr _ _ _ _ rfl) (And.intro (Vw.osl _ _ _ _ rfl) (And.intro (Vw.same _ rfl) (And.intro (Vw.same _ rfl) (And.intro (Vw.same _ rfl) (And.intro (Vw.same _ rfl) (And.intro (Vw.same _ rfl) (And.intro (Vw.same _ rfl) trivial)))))))) (And.intro (And.intro rfl (BVw.oneL (And.intro (Vw.same _ rfl) (And.intro (Vw.same _ rfl) (And.intro (Vw.same _ rfl) trivial))))) (And.intro (And.intro rfl BVw.tok) trivial))
  · have h := ite_ff h46 h
    refine exitI ?_
    obtain ⟨o, hq, rfl⟩ := Option.map_eq_some_iff.1 h
    replace h := hq; clear hq
    refine And.intro nofun ?_
    refine LWp.sim ?_ (f14_j16_ok h)
    exact simI (M := [((0, 0), (0, 0)), ((1, 0), (1, 0))]) rfl (And.intro (Vw.ptr _ _ _ _ rfl) (And.intro (Vw.osl _ _ _ _ rfl) (And.intro (Vw.same _ rfl) (And.intro (Vw.same _ rfl) (And.intro (Vw.same _ rfl) trivial))))) (And.intro (And.intro rfl (BVw.oneL (And.intro (Vw.same _ rfl) (And.intro (Vw.same _ rfl) (And.intro (Vw.same _ rfl) trivial))))) (And.intro (And.intro rfl BVw.tok) trivial))

theorem f14_L4_ok {a0 : List (List UInt8)} {a1 : List G_QFileEvent} {v9 : List (List UInt8)} {v10 : Int} {v19 : List (List UInt8)} {v20 : Int} {m : Option Nat} {o : (((List (List UInt8)) × Int) ⊕ (List (List UInt8)))} (h : S_glossatorref3_Files_l4 m a1 v9 v10 v19 v20 = some o) :
    LWp Try.prog f14_lay 0 (.loop f14_c2) (QBlock 2 (QSeq Try.prog f14_lay 0 f14_c0 (QBlock 1 (QSeq Try.prog f14_lay 0 f14_c1 (BodyQ 0 0 (f14_L3_env a1) (f14_L3_hp a1) (f14_L3_Q a0 a1) o))))) [(7, .ptr (0, 0) 0 0), (8, .osl (1, 0) 1 (v19.map e_str)), (13, .isl 3 (a1.map e_QFileEvent) false), (14, .int .i64 ((a1.map e_QFileEvent).length : Int)), (15, .int .i64 v10), (19, .isl 1 (v9.map e_str) false), (20, .int .i64 ((v9.map e_str).length : Int)), (21, .int .i64 v20)] [((0, 0), .one [.int .i64 ((a1.getD v10.toNat default).f_Time), .str ((a1.getD v10.toNat default).f_Path), .int .i64 ((a1.getD v10.toNat default).f_Kind)]), ((1, 0), .tok)] 2 :=
  LWp_loopM (m := m) (s := ((v19, v20) : ((List (List UInt8)) × Int))) (r := o) (fun (s : ((List (List UInt8)) × Int)) => S_glossatorref3_Files_b4 m a1 v9 v10 s.1 s.2) (f14_L4_env a1 v9 v10) (f14_L4_hp a1 v9 v10) (f14_L4_Q a0 a1) (fun s o h => f14_L4_bok h) h

noncomputable def S_glossatorref3_Files_j19 (m : Option Nat) (v9 : List (List UInt8)) : Option (List (List UInt8)) :=
  some v9

noncomputable def S_glossatorref3_Files_b3 (m : Option Nat) (a1 : List G_QFileEvent) (v9 : List (List UInt8)) (v10 : Int) : Option (((List (List UInt8)) × Int) ⊕ (List (List UInt8))) :=
  if (decide (v10 < ((a1.map e_QFileEvent).length : Int))) = true then
    if (0 : Int) ≤ v10 ∧ v10 < ((a1.map e_QFileEvent).length : Int) then
    S_glossatorref3_Files_l4 m a1 v9 v10 [] 0
    else none
  else
    Option.map Sum.inr (
      S_glossatorref3_Files_j19 m v9)

noncomputable def S_glossatorref3_Files_l3 (m : Option Nat) (a1 : List G_QFileEvent) (v9 : List (List UInt8)) (v10 : Int) : Option (List (List UInt8)) := loopM m (fun (s : ((List (List UInt8)) × Int)) => S_glossatorref3_Files_b3 m a1 s.1 s.2) (v9, v10)

theorem f14_j19_ok {a0 : List (List UInt8)} {a1 : List G_QFileEvent} {v9 : List (List UInt8)} {m : Option Nat} {o : (List (List UInt8))} (h : S_glossatorref3_Files_j19 m v9 = some o) :
    LWp Try.prog f14_lay 0 f14_c3 (f14_Q a0 a1 o) [(5, .isl 1 (v9.map e_str) false)] [] 0 := by
  unfold S_glossatorref3_Files_j19 at h
  refine seqI ?_
  refine regI ?_
  refine retI ?_
  cases h
  exact And.intro trivial (And.intro rfl (Vw.same _ rfl))

theorem f14_L3_bok {a0 : List (List UInt8)} {a1 : List G_QFileEvent} {v9 : List (List UInt8)} {v10 : Int} {m : Option Nat} {o : ((List (List UInt8)) × Int) ⊕ (List (List UInt8))} (h : S_glossatorref3_Files_b3 m a1 v9 v10 = some o) :
    LWp Try.prog f14_lay 0 f14_c6 (BodyQ 0 0 (f14_L3_env a1) (f14_L3_hp a1) (f14_L3_Q a0 a1) o) [(5, .isl 1 (v9.map e_str) false), (13, .isl 3 (a1.map e_QFileEvent) false), (14, .int .i64 ((a1.map e_QFileEvent).length : Int)), (15, .int .i64 v10)] [] 0 := by
  unfold S_glossatorref3_Files_b3 at h
  refine seqI ?_
  refine regI ?_
  refine seqI ?_
  refine condI (v := (decide (v10 < ((a1.map e_QFileEvent).length : Int)))) rfl trivial (fun h36 => ?_) (fun h36 => ?_)
  · have h := ite_tt h36 h
    refine skipI ?_
    refine seqI ?_
    refine blockI ?_
    refine seqI ?_
    refine regI ?_
    obtain ⟨h37, h⟩ := ite_some h
    refine And.intro h37 ?_
    refine Exists.intro (e_QFileEvent (a1.getD v10.toNat default)) (And.intro (getD_enc e_QFileEvent _ _ (idx_ltL e_QFileEvent h37)) (And.intro (And.intro (idx_lt h37) (Nat.le_of_ble_eq_true rfl)) ?_))
    refine seqI ?_
    refine regI ?_
    refine seqI ?_
    refine seqI ?_
    refine regI ?_
    refine LWp.sim (e := [(7, .ptr (0, 0) 0 0), (8, .val (.slice none 0 0)), (13, .isl 3 (a1.map e_QFileEvent) false), (14, .int .i64 ((a1.map e_QFileEvent).length : Int)), (15, .int .i64 v10), (19, .isl 1 (v9.map e_str) false), (20, .int .i64 ((v9.map e_str).length : Int)), (21, .int .i64 0)]) (L := [((0, 0), .one [.int .i64 ((a1.getD v10.toNat default).f_Time), .str ((a1.getD v10.toNat default).f_Path), .int .i64 ((a1.getD v10.toNat default).f_Kind)])]) (n := 1) ?_ ?_
    · exact simI (M := [((0, 0), (0, 0))]) rfl (And.intro (Vw.ptr _ _ _ _ rfl) (And.intro (Vw.same _ rfl) (And.intro (Vw.same _ rfl) (And.intro (Vw.same _ rfl) (And.intro (Vw.same _ rfl) (And.intro (Vw.same _ rfl) (And.intro (Vw.same _ rfl) (And.intro (Vw.same _ rfl) trivial)))))))) (And.intro (And.intro rfl (BVw.oneL (And.intro (Vw.same _ rfl) (And.intro (Vw.same _ rfl) (And.intro (Vw.same _ rfl) trivial))))) trivial)
    refine blockI ?_
    refine LWp.sim ?_ (f14_L4_ok h)
    exact simI (M := [((0, 0), (0, 0))]) rfl (And.intro (Vw.ptr _ _ _ _ rfl) (And.intro (Vw.nilO _ _ (by decide)) (And.intro (Vw.same _ rfl) (And.intro (Vw.same _ rfl) (And.intro (Vw.same _ rfl) (And.intro (Vw.same _ rfl) (And.intro (Vw.same _ rfl) (And.intro (Vw.same _ rfl) trivial)))))))) (And.intro (And.intro rfl (BVw.oneL (And.intro (Vw.same _ rfl) (And.intro (Vw.same _ rfl) (And.intro (Vw.same _ rfl) trivial))))) (And.intro (And.intro rfl (And.intro (by decide) (by decide))) trivial))
  · have h := ite_ff h36 h
    refine exitI ?_
    obtain ⟨o, hq, rfl⟩ := Option.map_eq_some_iff.1 h
    replace h := hq; clear hq
    refine And.intro nofun ?_
    refine LWp.sim ?_ (f14_j19_ok h)
    exact simI (M := []) rfl (And.intro (Vw.same _ rfl) trivial) trivial

theorem f14_L3_ok {a0 : List (List UInt8)} {a1 : List G_QFileEvent} {v9 : List (List UInt8)} {v10 : Int} {m : Option Nat} {o : (List (List UInt8))} (h : S_glossatorref3_Files_l3 m a1 v9 v10 = some o) :
    LWp Try.prog f14_lay 0 (.loop f14_c6) (QBlock 0 (QSeq Try.prog f14_lay 0 f14_c3 (f14_Q a0 a1 o))) [(5, .isl 1 (v9.map e_str) false), (13, .isl 3 (a1.map e_QFileEvent) false), (14, .int .i64 ((a1.map e_QFileEvent).length : Int)), (15, .int .i64 v10)] [] 0 :=
  LWp_loopM (m := m) (s := ((v9, v10) : ((List (List UInt8)) × Int))) (r := o) (fun (s : ((List (List UInt8)) × Int)) => S_glossatorref3_Files_b3 m a1 s.1 s.2) (f14_L3_env a1) (f14_L3_hp a1) (f14_L3_Q a0 a1) (fun s o h => f14_L3_bok h) h

noncomputable def S_glossatorref3_Files (m : Option Nat) (a0 : List (List UInt8)) (a1 : List G_QFileEvent) : Option (List (List UInt8)) :=
  (S_glossatorref3_SortStrings m a0).bind fun v1 =>
  S_glossatorref3_Files_l3 m a1 v1 0

theorem f14_start {a0 : List (List UInt8)} {a1 : List G_QFileEvent} {m : Option Nat} {o : (List (List UInt8))} (h : S_glossatorref3_Files m a0 a1 = some o) : LWp Try.prog f14_lay 0 f14_c7 (f14_Q a0 a1 o) (initEnv 0 [.isl 1 (a0.map e_str) false, .isl 3 (a1.map e_QFileEvent) false]) [] 0 := by
  unfold S_glossatorref3_Files at h
  refine seqI ?_
  refine regI ?_
  refine seqI ?_
  refine regI ?_
  obtain ⟨v1, h1, h⟩ := bind_some h
  refine PFn.call (f30_ok h1) (And.intro (Vw.same _ rfl) trivial) ?_
  refine seqI ?_
  refine seqI ?_
  refine regI ?_
  refine blockI ?_
  refine LWp.sim ?_ (f14_L3_ok h)
  exact simI (M := []) rfl (And.intro (Vw.same _ rfl) (And.intro (Vw.same _ rfl) (And.intro (Vw.same _ rfl) (And.intro (Vw.same _ rfl) trivial)))) trivial

theorem f14_ok {a0 : List (List UInt8)} {a1 : List G_QFileEvent} {m : Option Nat} {o : (List (List UInt8))} (h : S_glossatorref3_Files m a0 a1 = some o) : PFn Try.prog 14 [.isl 1 (a0.map e_str) false, .isl 3 (a1.map e_QFileEvent) false] (.isl 1 (o.map e_str) false) := PFn.ofFnW (L := f14_L) f14_low f14_fok (Nat.le_of_ble_eq_true rfl) rfl (f14_start h)

def f12_c1 : LCode := (.seq (.region [⟨some 15, .bin .lss (.t 14) (.t 13), none⟩])
 (.seq (.cond (.t 15)
  .skip
  (.exit 0))
 (.seq (.block 1
  (.seq (.region [⟨some 16, .mv (.t 14), none⟩,
    ⟨some 17, .iaddr 1 (.t 12) (.t 14), none⟩,
    ⟨some 18, .load false 1 (.t 17), none⟩,
    ⟨some 5, .mv (.t 16), none⟩,
    ⟨some 6, .mv (.t 18), none⟩])
  (.seq (.region [⟨some 19, .mv (.t 6), none⟩,
    ⟨some 20, .mv (.t 1), none⟩,
    ⟨some 21, .mv (.t 5), none⟩,
    ⟨some 22, .iaddr 1 (.t 20) (.t 21), none⟩,
    ⟨some 23, .load false 1 (.t 22), none⟩,
    ⟨some 24, .bin .neq (.t 19) (.t 23), none⟩])
  (.cond (.t 24)
   (.seq (.region [⟨some 4, .mv (.c (.bool false)), none⟩])
   .ret)
   .skip))))
 (.region [⟨some 25, .bin .add (.t 14) (.c (.int .i64 1)), none⟩,
   ⟨some 14, .mv (.t 25), none⟩]))))
def f12_c0 : LCode := (.seq (.region [⟨some 4, .mv (.c (.bool true)), none⟩])
 .ret)
def f12_c2 : LCode := (.seq (.region [⟨some 4, .mv (.c (.bool false)), none⟩])
 (.seq (.seq (.region [⟨some 7, .mv (.t 0), none⟩,
   ⟨some 8, .len false (.t 7), none⟩,
   ⟨some 9, .mv (.t 1), none⟩,
   ⟨some 10, .len false (.t 9), none⟩,
   ⟨some 11, .bin .neq (.t 8) (.t 10), none⟩])
 (.cond (.t 11)
  (.seq (.region [⟨some 4, .mv (.c (.bool false)), none⟩])
  .ret)
  .skip))
 (.seq (.seq (.region [⟨some 12, .mv (.t 0), none⟩,
   ⟨some 13, .len false (.t 12), none⟩,
   ⟨some 14, .mv (.c (.int .i64 0)), none⟩])
 (.block 0
  (.loop
   f12_c1)))
 f12_c0)))
def f12_lay : Lay := ⟨26, [], false⟩
def f12_res : List LRes := [.t 4]
def f12_L : LFn := ⟨2, f12_lay, f12_c2, f12_res⟩
theorem f12_low : lowFn Try.prog [] 12 = some f12_L := by kernel_rfl
theorem f12_fok : FnOk Try.prog 12 := ⟨_, Try.func12, rfl, rfl⟩
def f12_Q (a0 : List (List UInt8)) (a1 : List (List UInt8)) (o : Bool) : Exit → Env → AHeap → Nat → Prop := FinK f12_res (PureEnd (.bool o))

def f12_L1_env (a0 : List (List UInt8)) (a1 : List (List UInt8)) (s : Int) : Env := [(1, .isl 1 (a1.map e_str) false), (12, .isl 1 (a0.map e_str) false), (13, .int .i64 ((a0.map e_str).length : Int)), (14, .int .i64 s)]
def f12_L1_hp (a0 : List (List UInt8)) (a1 : List (List UInt8)) (s : Int) : AHeap := []
def f12_L1_Q (a0 : List (List UInt8)) (a1 : List (List UInt8)) (o : Bool) : Exit → Env → AHeap → Nat → Prop := (QBlock 0 (QSeq Try.prog f12_lay 0 f12_c0 (f12_Q a0 a1 o)))

noncomputable def S_glossatorref3_Equal_string_j1 (m : Option Nat) : Option Bool :=
  some true

noncomputable def S_glossatorref3_Equal_string_b1 (m : Option Nat) (a0 : List (List UInt8)) (a1 : List (List UInt8)) (v1 : Int) : Option (Int ⊕ Bool) :=
  if (decide (v1 < ((a0.map e_str).length : Int))) = true then
    if (0 : Int) ≤ v1 ∧ v1 < ((a0.map e_str).length : Int) then
    if (0 : Int) ≤ v1 ∧ v1 < ((a1.map e_str).length : Int) then
    if (!((a0.getD v1.toNat default) == (a1.getD v1.toNat default))) = true then
      Option.map Sum.inr (
        some false)
    else
      some (.inl (W (v1 + 1)))
    else none
    else none
  else
    Option.map Sum.inr (
      S_glossatorref3_Equal_string_j1 m)

noncomputable def S_glossatorref3_Equal_string_l1 (m : Option Nat) (a0 : List (List UInt8)) (a1 : List (List UInt8)) (v1 : Int) : Option Bool := loopM m (fun (s : Int) => S_glossatorref3_Equal_string_b1 m a0 a1 s) v1

theorem f12_j1_ok {a0 : List (List UInt8)} {a1 : List (List UInt8)} {m : Option Nat} {o : Bool} (h : S_glossatorref3_Equal_string_j1 m = some o) :
    LWp Try.prog f12_lay 0 f12_c0 (f12_Q a0 a1 o) [] [] 0 := by
  unfold S_glossatorref3_Equal_string_j1 at h
  refine seqI ?_
  refine regI ?_
  refine retI ?_
  cases h
  exact And.intro trivial (And.intro rfl (Vw.same _ rfl))

theorem f12_L1_bok {a0 : List (List UInt8)} {a1 : List (List UInt8)} {v1 : Int} {m : Option Nat} {o : Int ⊕ Bool} (h : S_glossatorref3_Equal_string_b1 m a0 a1 v1 = some o) :
    LWp Try.prog f12_lay 0 f12_c1 (BodyQ 0 0 (f12_L1_env a0 a1) (f12_L1_hp a0 a1) (f12_L1_Q a0 a1) o) [(1, .isl 1 (a1.map e_str) false), (12, .isl 1 (a0.map e_str) false), (13, .int .i64 ((a0.map e_str).length : Int)), (14, .int .i64 v1)] [] 0 := by
  unfold S_glossatorref3_Equal_string_b1 at h
  refine seqI ?_
  refine regI ?_
  refine seqI ?_
  refine condI (v := (decide (v1 < ((a0.map e_str).length : Int)))) rfl trivial (fun h10 => ?_) (fun h10 => ?_)
  · have h := ite_tt h10 h
    refine skipI ?_
    refine seqI ?_
    refine blockI ?_
    refine seqI ?_
    refine regI ?_
    obtain ⟨h11, h⟩ := ite_some h
    refine And.intro h11 ?_
    refine Exists.intro (e_str (a0.getD v1.toNat default)) (And.intro (getD_enc e_str _ _ (idx_ltL e_str h11)) (And.intro (And.intro (idx_lt h11) (Nat.le_of_ble_eq_true rfl)) ?_))
    refine seqI ?_
    refine regI ?_
    obtain ⟨h12, h⟩ := ite_some h
    refine And.intro h12 ?_
    show yops _ _ _ [(22, .iptr 1 (a1.map e_str) v1.toNat 0), (21, .int .i64 v1), (20, .isl 1 (a1.map e_str) false), (19, .str (a0.getD v1.toNat default)), (6, .str (a0.getD v1.toNat default)), (5, .int .i64 v1), (18, .str (a0.getD v1.toNat default)), (17, .iptr 1 (a0.map e_str) v1.toNat 0), (16, .int .i64 v1), (15, .bool (decide (v1 < ((a0.map e_str).length : Int)))), (1, .isl 1 (a1.map e_str) false), (12, .isl 1 (a0.map e_str) false), (13, .int .i64 ((a0.map e_str).length : Int)), (14, .int .i64 v1)] _ _
    refine Exists.intro (e_str (a1.getD v1.toNat default)) (And.intro (getD_enc e_str _ _ (idx_ltL e_str h12)) (And.intro (And.intro (idx_lt h12) (Nat.le_of_ble_eq_true rfl)) ?_))
    refine LWp.sim (e := [(1, .isl 1 (a1.map e_str) false), (12, .isl 1 (a0.map e_str) false), (13, .int .i64 ((a0.map e_str).length : Int)), (14, .int .i64 v1), (24, .bool (!((a0.getD v1.toNat default) == (a1.getD v1.toNat default))))]) (L := []) (n := 0) ?_ ?_
    · exact simI (M := []) rfl (And.intro (Vw.same _ rfl) (And.intro (Vw.same _ rfl) (And.intro (Vw.same _ rfl) (And.intro (Vw.same _ rfl) (And.intro (Vw.same _ rfl) trivial))))) trivial
    refine condI (v := (!((a0.getD v1.toNat default) == (a1.getD v1.toNat default)))) rfl trivial (fun h13 => ?_) (fun h13 => ?_)
    · have h := ite_tt h13 h
      refine seqI ?_
      refine regI ?_
      refine retI ?_
      obtain ⟨o, hq, rfl⟩ := Option.map_eq_some_iff.1 h
      replace h := hq; clear hq
      refine And.intro nofun ?_
      cases h
      exact And.intro trivial (And.intro rfl (Vw.same _ rfl))
    · have h := ite_ff h13 h
      refine skipI ?_
      refine regI ?_
      cases h
      exact And.intro rfl (simI (M := []) rfl (And.intro (Vw.same _ rfl) (And.intro (Vw.same _ rfl) (And.intro (Vw.same _ rfl) (And.intro (Vw.same _ rfl) trivial)))) trivial)
  · have h := ite_ff h10 h
    refine exitI ?_
    obtain ⟨o, hq, rfl⟩ := Option.map_eq_some_iff.1 h
    replace h := hq; clear hq
    refine And.intro nofun ?_
    refine LWp.sim ?_ (f12_j1_ok h)
    exact simI (M := []) rfl trivial trivial

theorem f12_L1_ok {a0 : List (List UInt8)} {a1 : List (List UInt8)} {v1 : Int} {m : Option Nat} {o : Bool} (h : S_glossatorref3_Equal_string_l1 m a0 a1 v1 = some o) :
    LWp Try.prog f12_lay 0 (.loop f12_c1) (QBlock 0 (QSeq Try.prog f12_lay 0 f12_c0 (f12_Q a0 a1 o))) [(1, .isl 1 (a1.map e_str) false), (12, .isl 1 (a0.map e_str) false), (13, .int .i64 ((a0.map e_str).length : Int)), (14, .int .i64 v1)] [] 0 :=
  LWp_loopM (m := m) (s := (v1 : Int)) (r := o) (fun (s : Int) => S_glossatorref3_Equal_string_b1 m a0 a1 s) (f12_L1_env a0 a1) (f12_L1_hp a0 a1) (f12_L1_Q a0 a1) (fun s o h => f12_L1_bok h) h

noncomputable def S_glossatorref3_Equal_string (m : Option Nat) (a0 : List (List UInt8)) (a1 : List (List UInt8)) : Option Bool :=
  if (((a0.map e_str).length : Int) != ((a1.map e_str).length : Int)) = true then
    some false
  else
    S_glossatorref3_Equal_string_l1 m a0 a1 0

theorem f12_start {a0 : List (List UInt8)} {a1 : List (List UInt8)} {m : Option Nat} {o : Bool} (h : S_glossatorref3_Equal_string m a0 a1 = some o) : LWp Try.prog f12_lay 0 f12_c2 (f12_Q a0 a1 o) (initEnv 0 [.isl 1 (a0.map e_str) false, .isl 1 (a1.map e_str) false]) [] 0 := by
  unfold S_glossatorref3_Equal_string at h
  refine seqI ?_
  refine regI ?_
  refine seqI ?_
  refine seqI ?_
  refine regI ?_
  refine condI (v := (((a0.map e_str).length : Int) != ((a1.map e_str).length : Int))) rfl trivial (fun h1 => ?_) (fun h1 => ?_)
  · have h := ite_tt h1 h
    refine seqI ?_
    refine regI ?_
    refine retI ?_
    cases h
    exact And.intro trivial (And.intro rfl (Vw.same _ rfl))
  · have h := ite_ff h1 h
    refine skipI ?_
    refine seqI ?_
    refine seqI ?_
    refine regI ?_
    refine LWp.sim (e := [(1, .isl 1 (a1.map e_str) false), (12, .isl 1 (a0.map e_str) false), (13, .int .i64 ((a0.map e_str).length : Int)), (14, .int .i64 0)]) (L := []) (n := 0) ?_ ?_
    · exact simI (M := []) rfl (And.intro (Vw.same _ rfl) (And.intro (Vw.same _ rfl) (And.intro (Vw.same _ rfl) (And.intro (Vw.same _ rfl) trivial)))) trivial
    refine blockI ?_
    refine LWp.sim ?_ (f12_L1_ok h)
    exact simI (M := []) rfl (And.intro (Vw.same _ rfl) (And.intro (Vw.same _ rfl) (And.intro (Vw.same _ rfl) (And.intro (Vw.same _ rfl) trivial)))) trivial

theorem f12_ok {a0 : List (List UInt8)} {a1 : List (List UInt8)} {m : Option Nat} {o : Bool} (h : S_glossatorref3_Equal_string m a0 a1 = some o) : PFn Try.prog 12 [.isl 1 (a0.map e_str) false, .isl 1 (a1.map e_str) false] (.bool o) := PFn.ofFnW (L := f12_L) f12_low f12_fok (Nat.le_of_ble_eq_true rfl) rfl (f12_start h)

def f15_c1 : LCode := (.seq (.region [⟨some 14, .bin .lss (.t 13) (.t 12), none⟩])
 (.seq (.cond (.t 14)
  .skip
  (.exit 0))
 (.seq (.block 1
  (.seq (.region [⟨some 15, .iaddr 1 (.t 11) (.t 13), none⟩,
    ⟨some 16, .load false 1 (.t 15), none⟩,
    ⟨some 7, .mv (.t 16), none⟩])
  (.region [⟨some 17, .mv (.t 5), none⟩,
    ⟨some 18, .mv (.t 7), none⟩,
    ⟨none, .mset [.str] false false [(.int .i64 0)] (.t 17) (.t 18) (.c (.int .i64 1)), none⟩])))
 (.region [⟨some 19, .bin .add (.t 13) (.c (.int .i64 1)), none⟩,
   ⟨some 13, .mv (.t 19), none⟩]))))
def f15_c3 : LCode := (.region [⟨some 48, .bin .add (.t 22) (.c (.int .i64 1)), none⟩,
   ⟨some 22, .mv (.t 48), none⟩])
def f15_c4 : LCode := (.seq (.region [⟨some 23, .bin .lss (.t 22) (.t 21), none⟩])
 (.seq (.cond (.t 23)
  .skip
  (.exit 2))
 (.seq (.block 3
  (.seq (.region [⟨some 24, .iaddr 3 (.t 20) (.t 22), none⟩,
    ⟨some 25, .load true 3 (.t 24), none⟩,
    ⟨some 9, .alloc [(.int .i64 0), (.str []), (.int .i64 0)], none⟩,
    ⟨none, .store 3 (.t 9) (.t 25), none⟩])
  (.seq (.seq (.region [⟨some 26, .faddr 2 (.t 9), none⟩,
    ⟨some 27, .load false 1 (.t 26), none⟩,
    ⟨some 28, .call 26 [(.t 27)], none⟩,
    ⟨some 29, .un .not (.t 28), none⟩])
  (.cond (.t 29)
   (.exit 3)
   .skip))
  (.seq (.seq (.region [⟨some 30, .mv (.t 5), none⟩,
    ⟨some 31, .faddr 1 (.t 9), none⟩,
    ⟨some 32, .load false 1 (.t 31), none⟩,
    ⟨some 33, .mlook [.str] false false false [(.int .i64 0)] (.t 30) (.t 32), none⟩,
    ⟨some 34, .bin .neq (.t 33) (.c (.int .i64 0)), none⟩,
    ⟨some 35, .faddr 2 (.t 9), none⟩,
    ⟨some 36, .load false 1 (.t 35), none⟩,
    ⟨some 37, .bin .eql (.t 36) (.c (.int .i64 1)), none⟩,
    ⟨some 38, .eq false .bool (.t 34) (.t 37), none⟩])
  (.cond (.t 38)
   (.seq (.region [⟨some 4, .mv (.c (.bool false)), none⟩])
   .ret)
   .skip))
  (.seq (.region [⟨some 39, .mv (.t 5), none⟩,
    ⟨some 40, .faddr 1 (.t 9), none⟩,
    ⟨some 41, .load false 1 (.t 40), none⟩,
    ⟨none, .mset [.str] false false [(.int .i64 0)] (.t 39) (.t 41) (.c (.int .i64 1)), none⟩])
  (.seq (.region [⟨some 42, .faddr 2 (.t 9), none⟩,
    ⟨some 43, .load false 1 (.t 42), none⟩,
    ⟨some 44, .bin .eql (.t 43) (.c (.int .i64 3)), none⟩])
  (.cond (.t 44)
   (.region [⟨some 45, .mv (.t 5), none⟩,
     ⟨some 46, .faddr 1 (.t 9), none⟩,
     ⟨some 47, .load false 1 (.t 46), none⟩,
     ⟨none, .mset [.str] false false [(.int .i64 0)] (.t 45) (.t 47) (.c (.int .i64 0)), none⟩])
   .skip)))))))
 f15_c3)))
def f15_c2 : LCode := (.seq (.region [⟨some 4, .mv (.c (.bool true)), none⟩])
 .ret)
def f15_c0 : LCode := (.seq (.seq (.region [⟨some 20, .mv (.t 1), none⟩,
   ⟨some 21, .len false (.t 20), none⟩,
   ⟨some 22, .mv (.c (.int .i64 0)), none⟩])
 (.block 2
  (.loop
   f15_c4)))
 f15_c2)
def f15_c5 : LCode := (.seq (.region [⟨some 4, .mv (.c (.bool false)), none⟩])
 (.seq (.region [⟨some 10, .mkmap none, none⟩,
   ⟨some 5, .mv (.t 10), none⟩])
 (.seq (.seq (.region [⟨some 11, .mv (.t 0), none⟩,
   ⟨some 12, .len false (.t 11), none⟩,
   ⟨some 13, .mv (.c (.int .i64 0)), none⟩])
 (.block 0
  (.loop
   f15_c1)))
 f15_c0)))
def f15_lay : Lay := ⟨49, [], false⟩
def f15_res : List LRes := [.t 4]
def f15_L : LFn := ⟨2, f15_lay, f15_c5, f15_res⟩
theorem f15_low : lowFn Try.prog [] 15 = some f15_L := by kernel_rfl
theorem f15_fok : FnOk Try.prog 15 := ⟨_, Try.func15, rfl, rfl⟩
def f15_Q (a0 : List (List UInt8)) (a1 : List G_QFileEvent) (o : Bool) : Exit → Env → AHeap → Nat → Prop := FinK f15_res (PureEnd (.bool o))

def f15_L1_env (a0 : List (List UInt8)) (a1 : List G_QFileEvent) (s : (Int × (List ((List UInt8) × Int)))) : Env := [(1, .isl 3 (a1.map e_QFileEvent) false), (5, .map (0, 0)), (11, .isl 1 (a0.map e_str) false), (12, .int .i64 ((a0.map e_str).length : Int)), (13, .int .i64 s.1)]
def f15_L1_hp (a0 : List (List UInt8)) (a1 : List G_QFileEvent) (s : (Int × (List ((List UInt8) × Int)))) : AHeap := [((0, 0), .amap (s.2.map (em a_str a_i64)))]
def f15_L1_Q (a0 : List (List UInt8)) (a1 : List G_QFileEvent) (o : Bool) : Exit → Env → AHeap → Nat → Prop := (QBlock 0 (QSeq Try.prog f15_lay 0 f15_c0 (f15_Q a0 a1 o)))

noncomputable def S_filewatch_Consistent_j4 (m : Option Nat) (a1 : List G_QFileEvent) (v5 : Int) (v10 : List ((List UInt8) × Int)) : Option ((Int × (List ((List UInt8) × Int))) ⊕ Bool) :=
  some (.inl ((W (v5 + 1)), v10))

noncomputable def S_filewatch_Consistent_j5 (m : Option Nat) : Option Bool :=
  some true

noncomputable def S_filewatch_Consistent_b2 (m : Option Nat) (a1 : List G_QFileEvent) (v5 : Int) (v6 : List ((List UInt8) × Int)) : Option ((Int × (List ((List UInt8) × Int))) ⊕ Bool) :=
  if (decide (v5 < ((a1.map e_QFileEvent).length : Int))) = true then
    if (0 : Int) ≤ v5 ∧ v5 < ((a1.map e_QFileEvent).length : Int) then
    (S_filewatch_validKind m ((a1.getD v5.toNat default).f_Kind)).bind fun v9 =>
    if (!v9) = true then
      S_filewatch_Consistent_j4 m a1 v5 v6
    else
      if ((((lk q_str v6 ((a1.getD v5.toNat default).f_Path)).getD 0) != 0) == ((a1.getD v5.toNat default).f_Kind == 1)) = true then
        Option.map Sum.inr (
          some false)
      else
        if ((a1.getD v5.toNat default).f_Kind == 3) = true then
          S_filewatch_Consistent_j4 m a1 v5 (mp q_str (mp q_str v6 ((a1.getD v5.toNat default).f_Path) 1) ((a1.getD v5.toNat default).f_Path) 0)
        else
          S_filewatch_Consistent_j4 m a1 v5 (mp q_str v6 ((a1.getD v5.toNat default).f_Path) 1)
    else none
  else
    Option.map Sum.inr (
      S_filewatch_Consistent_j5 m)

noncomputable def S_filewatch_Consistent_l2 (m : Option Nat) (a1 : List G_QFileEvent) (v5 : Int) (v6 : List ((List UInt8) × Int)) : Option Bool := loopM m (fun (s : (Int × (List ((List UInt8) × Int)))) => S_filewatch_Consistent_b2 m a1 s.1 s.2) (v5, v6)

noncomputable def S_filewatch_Consistent_j1 (m : Option Nat) (a1 : List G_QFileEvent) (v2 : List ((List UInt8) × Int)) : Option Bool :=
  S_filewatch_Consistent_l2 m a1 0 v2

noncomputable def S_filewatch_Consistent_b1 (m : Option Nat) (a0 : List (List UInt8)) (a1 : List G_QFileEvent) (v1 : Int) (v2 : List ((List UInt8) × Int)) : Option ((Int × (List ((List UInt8) × Int))) ⊕ Bool) :=
  if (decide (v1 < ((a0.map e_str).length : Int))) = true then
    if (0 : Int) ≤ v1 ∧ v1 < ((a0.map e_str).length : Int) then
    some (.inl ((W (v1 + 1)), (mp q_str v2 (a0.getD v1.toNat default) 1)))
    else none
  else
    Option.map Sum.inr (
      S_filewatch_Consistent_j1 m a1 v2)

noncomputable def S_filewatch_Consistent_l1 (m : Option Nat) (a0 : List (List UInt8)) (a1 : List G_QFileEvent) (v1 : Int) (v2 : List ((List UInt8) × Int)) : Option Bool := loopM m (fun (s : (Int × (List ((List UInt8) × Int)))) => S_filewatch_Consistent_b1 m a0 a1 s.1 s.2) (v1, v2)

def f15_L2_env (a1 : List G_QFileEvent) (s : (Int × (List ((List UInt8) × Int)))) : Env := [(5, .map (0, 0)), (20, .isl 3 (a1.map e_QFileEvent) false), (21, .int .i64 ((a1.map e_QFileEvent).length : Int)), (22, .int .i64 s.1)]
def f15_L2_hp (a1 : List G_QFileEvent) (s : (Int × (List ((List UInt8) × Int)))) : AHeap := [((0, 0), .amap (s.2.map (em a_str a_i64)))]
def f15_L2_Q (a0 : List (List UInt8)) (a1 : List G_QFileEvent) (o : Bool) : Exit → Env → AHeap → Nat → Prop := (QBlock 2 (QSeq Try.prog f15_lay 0 f15_c2 (f15_Q a0 a1 o)))

theorem f15_j4_ok {a0 : List (List UInt8)} {a1 : List G_QFileEvent} {v5 : Int} {v10 : List ((List UInt8) × Int)} {m : Option Nat} {o : ((Int × (List ((List UInt8) × Int))) ⊕ Bool)} (h : S_filewatch_Consistent_j4 m a1 v5 v10 = some o) :
    LWp Try.prog f15_lay 0 f15_c3 (BodyQ 0 1 (f15_L2_env a1) (f15_L2_hp a1) (f15_L2_Q a0 a1) o) [(5, .map (0, 0)), (20, .isl 3 (a1.map e_QFileEvent) false), (21, .int .i64 ((a1.map e_QFileEvent).length : Int)), (22, .int .i64 v5)] [((0, 0), .amap (v10.map (em a_str a_i64)))] 1 := by
  unfold S_filewatch_Consistent_j4 at h
  refine regI ?_
  cases h
  exact And.intro rfl (simI (M := [((0, 0), (0, 0))]) rfl (And.intro (Vw.map _ _ rfl) (And.intro (Vw.same _ rfl) (And.intro (Vw.same _ rfl) (And.intro (Vw.same _ rfl) trivial)))) (And.intro (And.intro rfl (BVw.ofMap a_str a_i64 a_i64_nid v10)) trivial))

theorem f15_j5_ok {a0 : List (List UInt8)} {a1 : List G_QFileEvent} {m : Option Nat} {o : Bool} (h : S_filewatch_Consistent_j5 m = some o) :
    LWp Try.prog f15_lay 0 f15_c2 (f15_Q a0 a1 o) [] [] 0 := by
  unfold S_filewatch_Consistent_j5 at h
  refine seqI ?_
  refine regI ?_
  refine retI ?_
  cases h
  exact And.intro trivial (And.intro rfl (Vw.same _ rfl))

theorem f15_L2_bok {a0 : List (List UInt8)} {a1 : List G_QFileEvent} {v5 : Int} {v6 : List ((List UInt8) × Int)} {m : Option Nat} {o : (Int × (List ((List UInt8) × Int))) ⊕ Bool} (h : S_filewatch_Consistent_b2 m a1 v5 v6 = some o) :
    LWp Try.prog f15_lay 0 f15_c4 (BodyQ 0 1 (f15_L2_env a1) (f15_L2_hp a1) (f15_L2_Q a0 a1) o) [(5, .map (0, 0)), (20, .isl 3 (a1.map e_QFileEvent) false), (21, .int .i64 ((a1.map e_QFileEvent).length : Int)), (22, .int .i64 v5)] [((0, 0), .amap (v6.map (em a_str a_i64)))] 1 := by
  unfold S_filewatch_Consistent_b2 at h
  refine seqI ?_
  refine regI ?_
  refine seqI ?_
  refine condI (v := (decide (v5 < ((a1.map e_QFileEvent).length : Int)))) rfl trivial (fun h19 => ?_) (fun h19 => ?_)
  · have h := ite_tt h19 h
    refine skipI ?_
    refine seqI ?_
    refine blockI ?_
    refine seqI ?_
    refine regI ?_
    obtain ⟨h20, h⟩ := ite_some h
    refine And.intro h20 ?_
    refine Exists.intro (e_QFileEvent (a1.getD v5.toNat default)) (And.intro (getD_enc e_QFileEvent _ _ (idx_ltL e_QFileEvent h20)) (And.intro (And.intro (idx_lt h20) (Nat.le_of_ble_eq_true rfl)) ?_))
    refine seqI ?_
    refine seqI ?_
    refine regI ?_
    obtain ⟨v9, h21, h⟩ := bind_some h
    refine PFn.call (f26_ok h21) (And.intro (Vw.same _ rfl) trivial) ?_
    show yops _ _ _ [(28, .bool v9), (27, .int .i64 ((a1.getD v5.toNat default).f_Kind)), (26, .ptr (1, 0) 0 2), (9, .ptr (1, 0) 0 0), (25, .agg [.int .i64 ((a1.getD v5.toNat default).f_Time), .str ((a1.getD v5.toNat default).f_Path), .int .i64 ((a1.getD v5.toNat default).f_Kind)]), (24, .iptr 3 (a1.map e_QFileEvent) v5.toNat 0), (23, .bool (decide (v5 < ((a1.map e_QFileEvent).length : Int)))), (5, .map (0, 0)), (20, .isl 3 (a1.map e_QFileEvent) false), (21, .int .i64 ((a1.map e_QFileEvent).length : Int)), (22, .int .i64 v5)] _ _
    refine LWp.sim (e := [(5, .map (0, 0)), (9, .ptr (1, 0) 0 0), (20, .isl 3 (a1.map e_QFileEvent) false), (21, .int .i64 ((a1.map e_QFileEvent).length : Int)), (22, .int .i64 v5), (29, .bool (!v9))]) (L := [((0, 0), .amap (v6.map (em a_str a_i64))), ((1, 0), .one [.int .i64 ((a1.getD v5.toNat default).f_Time), .str ((a1.getD v5.toNat default).f_Path), .int .i64 ((a1.getD v5.toNat default).f_Kind)])]) (n := 2) ?_ ?_
    · exact simI (M := [((0, 0), (0, 0)), ((1, 0), (1, 0))]) rfl (And.intro (Vw.map _ _ rfl) (And.intro (Vw.ptr _ _ _ _ rfl) (And.intro (Vw.same _ rfl) (And.intro (Vw.same _ rfl) (And.intro (Vw.same _ rfl) (And.intro (Vw.same _ rfl) trivial)))))) (And.intro (And.intro rfl (BVw.ofMap a_str a_i64 a_i64_nid v6)) (And.intro (And.intro rfl (BVw.oneL (And.intro (Vw.same _ rfl) (And.intro (Vw.same _ rfl) (And.intro (Vw.same _ rfl) trivial))))) trivial))
    refine condI (v := (!v9)) rfl trivial (fun h22 => ?_) (fun h22 => ?_)
    · have h := ite_tt h22 h
      refine exitI ?_
      refine LWp.sim ?_ (f15_j4_ok h)
      exact simI (M := [((0, 0), (0, 0))]) rfl (And.intro (Vw.map _ _ rfl) (And.intro (Vw.same _ rfl) (And.intro (Vw.same _ rfl) (And.intro (Vw.same _ rfl) trivial)))) (And.intro (And.intro rfl (BVw.ofMap a_str a_i64 a_i64_nid v6)) trivial)
    · have h := ite_ff h22 h
      refine skipI ?_
      refine seqI ?_
      refine seqI ?_
      refine regI ?_
      refine Exists.intro (.int .i64 ((lk q_str v6 ((a1.getD v5.toNat default).f_Path)).getD 0)) (And.intro (mlook1 (ek := a_str) (ev := a_i64) (z := 0) q_str_ok rfl ((a1.getD v5.toNat default).f_Path) v6) (And.intro (mfind_some (ek := a_str) (ev := a_i64) q_str_ok _ _) ?_))
      refine LWp.sim (e := [(5, .map (0, 0)), (9, .ptr (1, 0) 0 0), (20, .isl 3 (a1.map e_QFileEvent) false), (21, .int .i64 ((a1.map e_QFileEvent).length : Int)), (22, .int .i64 v5), (38, .bool ((((lk q_str v6 ((a1.getD v5.toNat default).f_Path)).getD 0) != 0) == ((a1.getD v5.toNat default).f_Kind == 1)))]) (L := [((0, 0), .amap (v6.map (em a_str a_i64))), ((1, 0), .one [.int .i64 ((a1.getD v5.toNat default).f_Time), .str ((a1.getD v5.toNat default).f_Path), .int .i64 ((a1.getD v5.toNat default).f_Kind)])]) (n := 2) ?_ ?_
      · exact simI (M := [((0, 0), (0, 0)), ((1, 0), (1, 0))]) rfl (And.intro (Vw.map _ _ rfl) (And.intro (Vw.ptr _ _ _ _ rfl) (And.intro (Vw.same _ rfl) (And.intro (Vw.same _ rfl) (And.intro (Vw.same _ rfl) (And.intro (Vw.same _ rfl) trivial)))))) (And.intro (And.intro rfl (BVw.ofMap a_str a_i64 a_i64_nid v6)) (And.intro (And.intro rfl (BVw.oneL (And.intro (Vw.same _ rfl) (And.intro (Vw.same _ rfl) (And.intro (Vw.same _ rfl) trivial))))) trivial))
      refine condI (v := ((((lk q_str v6 ((a1.getD v5.toNat default).f_Path)).getD 0) != 0) == ((a1.getD v5.toNat default).f_Kind == 1))) rfl trivial (fun h23 => ?_) (fun h23 => ?_)
      · have h := ite_tt h23 h
        refine seqI ?_
        refine regI ?_
        refine retI ?_
        obtain ⟨o, hq, rfl⟩ := Option.map_eq_some_iff.1 h
        replace h := hq; clear hq
        refine And.intro nofun ?_
        cases h
        exact And.intro trivial (And.intro rfl (Vw.same _ rfl))
      · have h := ite_ff h23 h
        refine skipI ?_
        refine seqI ?_
        refine regI ?_
        refine Exists.intro ((mp q_str v6 ((a1.getD v5.toNat default).f_Path) 1).map (em a_str a_i64)) (And.intro (mput_enc (ek := a_str) (ev := a_i64) q_str_ok ((a1.getD v5.toNat default).f_Path) 1 v6) ?_)
        refine seqI ?_
        refine regI ?_
        refine condI (v := ((a1.getD v5.toNat default).f_Kind == 3)) rfl trivial (fun h24 => ?_) (fun h24 => ?_)
        · have h := ite_tt h24 h
          refine regI ?_
          refine Exists.intro ((mp q_str (mp q_str v6 ((a1.getD v5.toNat default).f_Path) 1) ((a1.getD v5.toNat default).f_Path) 0).map (em a_str a_i64)) (And.intro (mput_enc (ek := a_str) (ev := a_i64) q_str_ok ((a1.getD v5.toNat default).f_Path) 0 (mp q_str v6 ((a1.getD v5.toNat default).f_Path) 1)) ?_)
          refine LWp.sim ?_ (f15_j4_ok h)
          exact simI (M := [((0, 0), (0, 0))]) rfl (And.intro (Vw.map _ _ rfl) (And.intro (Vw.same _ rfl) (And.intro (Vw.same _ rfl) (And.intro (Vw.same _ rfl) trivial)))) (And.intro (And.intro rfl (BVw.ofMap a_str a_i64 a_i64_nid (mp q_str (mp q_str v6 ((a1.getD v5.toNat default).f_Path) 1) ((a1.getD v5.toNat default).f_Path) 0))) trivial)
        · have h := ite_ff h24 h
          refine skipI ?_
          refine LWp.sim ?_ (f15_j4_ok h)
          exact simI (M := [((0, 0), (0, 0))]) rfl (And.intro (Vw.map _ _ rfl) (And.intro (Vw.same _ rfl) (And.intro (Vw.same _ rfl) (And.intro (Vw.same _ rfl) trivial)))) (And.intro (And.intro rfl (BVw.ofMap a_str a_i64 a_i64_nid (mp q_str v6 ((a1.getD v5.toNat default).f_Path) 1))) trivial)
  · have h := ite_ff h19 h
    refine exitI ?_
    obtain ⟨o, hq, rfl⟩ := Option.map_eq_some_iff.1 h
    replace h := hq; clear hq
    refine And.intro nofun ?_
    refine LWp.sim ?_ (f15_j5_ok h)
    exact simI (M := []) rfl trivial trivial

theorem f15_L2_ok {a0 : List (List UInt8)} {a1 : List G_QFileEvent} {v5 : Int} {v6 : List ((List UInt8) × Int)} {m : Option Nat} {o : Bool} (h : S_filewatch_Consistent_l2 m a1 v5 v6 = some o) :
    LWp Try.prog f15_lay 0 (.loop f15_c4) (QBlock 2 (QSeq Try.prog f15_lay 0 f15_c2 (f15_Q a0 a1 o))) [(5, .map (0, 0)), (20, .isl 3 (a1.map e_QFileEvent) false), (21, .int .i64 ((a1.map e_QFileEvent).length : Int)), (22, .int .i64 v5)] [((0, 0), .amap (v6.map (em a_str a_i64)))] 1 :=
  LWp_loopM (m := m) (s := ((v5, v6) : (Int × (List ((List UInt8) × Int))))) (r := o) (fun (s : (Int × (List ((List UInt8) × Int)))) => S_filewatch_Consistent_b2 m a1 s.1 s.2) (f15_L2_env a1) (f15_L2_hp a1) (f15_L2_Q a0 a1) (fun s o h => f15_L2_bok h) h

theorem f15_j1_ok {a0 : List (List UInt8)} {a1 : List G_QFileEvent} {v2 : List ((List UInt8) × Int)} {m : Option Nat} {o : Bool} (h : S_filewatch_Consistent_j1 m a1 v2 = some o) :
    LWp Try.prog f15_lay 0 f15_c0 (f15_Q a0 a1 o) [(1, .isl 3 (a1.map e_QFileEvent) false), (5, .map (0, 0))] [((0, 0), .amap (v2.map (em a_str a_i64)))] 1 := by
  unfold S_filewatch_Consistent_j1 at h
  refine seqI ?_
  refine seqI ?_
  refine regI ?_
  refine blockI ?_
  refine LWp.sim ?_ (f15_L2_ok h)
  exact simI (M := [((0, 0), (0, 0))]) rfl (And.intro (Vw.map _ _ rfl) (And.intro (Vw.same _ rfl) (And.intro (Vw.same _ rfl) (And.intro (Vw.same _ rfl) trivial)))) (And.intro (And.intro rfl (BVw.ofMap a_str a_i64 a_i64_nid v2)) trivial)

theorem f15_L1_bok {a0 : List (List UInt8)} {a1 : List G_QFileEvent} {v1 : Int} {v2 : List ((List UInt8) × Int)} {m : Option Nat} {o : (Int × (List ((List UInt8) × Int))) ⊕ Bool} (h : S_filewatch_Consistent_b1 m a0 a1 v1 v2 = some o) :
    LWp Try.prog f15_lay 0 f15_c1 (BodyQ 0 1 (f15_L1_env a0 a1) (f15_L1_hp a0 a1) (f15_L1_Q a0 a1) o) [(1, .isl 3 (a1.map e_QFileEvent) false), (5, .map (0, 0)), (11, .isl 1 (a0.map e_str) false), (12, .int .i64 ((a0.map e_str).length : Int)), (13, .int .i64 v1)] [((0, 0), .amap (v2.map (em a_str a_i64)))] 1 := by
  unfold S_filewatch_Consistent_b1 at h
  refine seqI ?_
  refine regI ?_
  refine seqI ?_
  refine condI (v := (decide (v1 < ((a0.map e_str).length : Int)))) rfl trivial (fun h5 => ?_) (fun h5 => ?_)
  · have h := ite_tt h5 h
    refine skipI ?_
    refine seqI ?_
    refine blockI ?_
    refine seqI ?_
    refine regI ?_
    obtain ⟨h6, h⟩ := ite_some h
    refine And.intro h6 ?_
    refine Exists.intro (e_str (a0.getD v1.toNat default)) (And.intro (getD_enc e_str _ _ (idx_ltL e_str h6)) (And.intro (And.intro (idx_lt h6) (Nat.le_of_ble_eq_true rfl)) ?_))
    refine regI ?_
    refine Exists.intro ((mp q_str v2 (a0.getD v1.toNat default) 1).map (em a_str a_i64)) (And.intro (mput_enc (ek := a_str) (ev := a_i64) q_str_ok (a0.getD v1.toNat default) 1 v2) ?_)
    refine regI ?_
    cases h
    exact And.intro rfl (simI (M := [((0, 0), (0, 0))]) rfl (And.intro (Vw.same _ rfl) (And.intro (Vw.map _ _ rfl) (And.intro (Vw.same _ rfl) (And.intro (Vw.same _ rfl) (And.intro (Vw.same _ rfl) trivial))))) (And.intro (And.intro rfl (BVw.ofMap a_str a_i64 a_i64_nid (mp q_str v2 (a0.getD v1.toNat default) 1))) trivial))
  · have h := ite_ff h5 h
    refine exitI ?_
    obtain ⟨o, hq, rfl⟩ := Option.map_eq_some_iff.1 h
    replace h := hq; clear hq
    refine And.intro nofun ?_
    refine LWp.sim ?_ (f15_j1_ok h)
    exact simI (M := [((0, 0), (0, 0))]) rfl (And.intro (Vw.same _ rfl) (And.intro (Vw.map _ _ rfl) trivial)) (And.intro (And.intro rfl (BVw.ofMap a_str a_i64 a_i64_nid v2)) trivial)

theorem f15_L1_ok {a0 : List (List UInt8)} {a1 : List G_QFileEvent} {v1 : Int} {v2 : List ((List UInt8) × Int)} {m : Option Nat} {o : Bool} (h : S_filewatch_Consistent_l1 m a0 a1 v1 v2 = some o) :
    LWp Try.prog f15_lay 0 (.loop f15_c1) (QBlock 0 (QSeq Try.prog f15_lay 0 f15_c0 (f15_Q a0 a1 o))) [(1, .isl 3 (a1.map e_QFileEvent) false), (5, .map (0, 0)), (11, .isl 1 (a0.map e_str) false), (12, .int .i64 ((a0.map e_str).length : Int)), (13, .int .i64 v1)] [((0, 0), .amap (v2.map (em a_str a_i64)))] 1 :=
  LWp_loopM (m := m) (s := ((v1, v2) : (Int × (List ((List UInt8) × Int))))) (r := o) (fun (s : (Int × (List ((List UInt8) × Int)))) => S_filewatch_Consistent_b1 m a0 a1 s.1 s.2) (f15_L1_env a0 a1) (f15_L1_hp a0 a1) (f15_L1_Q a0 a1) (fun s o h => f15_L1_bok h) h

noncomputable def S_filewatch_Consistent (m : Option Nat) (a0 : List (List UInt8)) (a1 : List G_QFileEvent) : Option Bool :=
  S_filewatch_Consistent_l1 m a0 a1 0 ([] : List ((List UInt8) × Int))

theorem f15_start {a0 : List (List UInt8)} {a1 : List G_QFileEvent} {m : Option Nat} {o : Bool} (h : S_filewatch_Consistent m a0 a1 = some o) : LWp Try.prog f15_lay 0 f15_c5 (f15_Q a0 a1 o) (initEnv 0 [.isl 1 (a0.map e_str) false, .isl 3 (a1.map e_QFileEvent) false]) [] 0 := by
  unfold S_filewatch_Consistent at h
  refine seqI ?_
  refine regI ?_
  refine seqI ?_
  refine regI ?_
  refine seqI ?_
  refine seqI ?_
  refine regI ?_
  refine blockI ?_
  refine LWp.sim ?_ (f15_L1_ok h)
  exact simI (M := [((0, 0), (0, 0))]) rfl (And.intro (Vw.same _ rfl) (And.intro (Vw.map _ _ rfl) (And.intro (Vw.same _ rfl) (And.intro (Vw.same _ rfl) (And.intro (Vw.same _ rfl) trivial))))) (And.intro (And.intro rfl (BVw.ofMap a_str a_i64 a_i64_nid ([] : List ((List UInt8) × Int)))) trivial)

theorem f15_ok {a0 : List (List UInt8)} {a1 : List G_QFileEvent} {m : Option Nat} {o : Bool} (h : S_filewatch_Consistent m a0 a1 = some o) : PFn Try.prog 15 [.isl 1 (a0.map e_str) false, .isl 3 (a1.map e_QFileEvent) false] (.bool o) := PFn.ofFnW (L := f15_L) f15_low f15_fok (Nat.le_of_ble_eq_true rfl) rfl (f15_start h)

def f40_c1 : LCode := (.seq (.region [⟨some 10, .bin .lss (.t 9) (.t 8), none⟩])
 (.seq (.cond (.t 10)
  .skip
  (.exit 0))
 (.seq (.block 1
  (.seq (.region [⟨some 11, .mv (.t 9), none⟩,
    ⟨some 12, .iaddr 1 (.t 7) (.t 9), none⟩,
    ⟨some 13, .load false 1 (.t 12), none⟩,
    ⟨some 5, .mv (.t 11), none⟩,
    ⟨some 6, .mv (.t 13), none⟩])
  (.seq (.region [⟨some 14, .mv (.t 1), none⟩,
    ⟨some 15, .mv (.t 6), none⟩,
    ⟨some 16, .bin .eql (.t 14) (.t 15), none⟩])
  (.cond (.t 16)
   (.seq (.region [⟨some 17, .mv (.t 5), none⟩,
     ⟨some 4, .mv (.t 17), none⟩])
   .ret)
   .skip))))
 (.region [⟨some 18, .bin .add (.t 9) (.c (.int .i64 1)), none⟩,
   ⟨some 9, .mv (.t 18), none⟩]))))
def f40_c0 : LCode := (.seq (.region [⟨some 4, .mv (.c (.int .i64 (-1))), none⟩])
 .ret)
def f40_c2 : LCode := (.seq (.region [⟨some 4, .mv (.c (.int .i64 0)), none⟩])
 (.seq (.seq (.region [⟨some 7, .mv (.t 0), none⟩,
   ⟨some 8, .len false (.t 7), none⟩,
   ⟨some 9, .mv (.c (.int .i64 0)), none⟩])
 (.block 0
  (.loop
   f40_c1)))
 f40_c0))
def f40_lay : Lay := ⟨19, [], false⟩
def f40_res : List LRes := [.t 4]
def f40_L : LFn := ⟨2, f40_lay, f40_c2, f40_res⟩
theorem f40_low : lowFn Try.prog [] 40 = some f40_L := by kernel_rfl
theorem f40_fok : FnOk Try.prog 40 := ⟨_, Try.func40, rfl, rfl⟩
def f40_Q (a0 : List (List UInt8)) (a1 : List UInt8) (o : Int) : Exit → Env → AHeap → Nat → Prop := FinK f40_res (PureEnd (.int .i64 o))

def f40_L1_env (a0 : List (List UInt8)) (a1 : List UInt8) (s : Int) : Env := [(1, .str a1), (7, .isl 1 (a0.map e_str) false), (8, .int .i64 ((a0.map e_str).length : Int)), (9, .int .i64 s)]
def f40_L1_hp (a0 : List (List UInt8)) (a1 : List UInt8) (s : Int) : AHeap := []
def f40_L1_Q (a0 : List (List UInt8)) (a1 : List UInt8) (o : Int) : Exit → Env → AHeap → Nat → Prop := (QBlock 0 (QSeq Try.prog f40_lay 0 f40_c0 (f40_Q a0 a1 o)))

noncomputable def S_glossatorref3_Index_string_j1 (m : Option Nat) : Option Int :=
  some (-1)

noncomputable def S_glossatorref3_Index_string_b1 (m : Option Nat) (a0 : List (List UInt8)) (a1 : List UInt8) (v1 : Int) : Option (Int ⊕ Int) :=
  if (decide (v1 < ((a0.map e_str).length : Int))) = true then
    if (0 : Int) ≤ v1 ∧ v1 < ((a0.map e_str).length : Int) then
    if (a1 == (a0.getD v1.toNat default)) = true then
      Option.map Sum.inr (
        some v1)
    else
      some (.inl (W (v1 + 1)))
    else none
  else
    Option.map Sum.inr (
      S_glossatorref3_Index_string_j1 m)

noncomputable def S_glossatorref3_Index_string_l1 (m : Option Nat) (a0 : List (List UInt8)) (a1 : List UInt8) (v1 : Int) : Option Int := loopM m (fun (s : Int) => S_glossatorref3_Index_string_b1 m a0 a1 s) v1

theorem f40_j1_ok {a0 : List (List UInt8)} {a1 : List UInt8} {m : Option Nat} {o : Int} (h : S_glossatorref3_Index_string_j1 m = some o) :
    LWp Try.prog f40_lay 0 f40_c0 (f40_Q a0 a1 o) [] [] 0 := by
  unfold S_glossatorref3_Index_string_j1 at h
  refine seqI ?_
  refine regI ?_
  refine retI ?_
  cases h
  exact And.intro trivial (And.intro rfl (Vw.same _ rfl))

theorem f40_L1_bok {a0 : List (List UInt8)} {a1 : List UInt8} {v1 : Int} {m : Option Nat} {o : Int ⊕ Int} (h : S_glossatorref3_Index_string_b1 m a0 a1 v1 = some o) :
    LWp Try.prog f40_lay 0 f40_c1 (BodyQ 0 0 (f40_L1_env a0 a1) (f40_L1_hp a0 a1) (f40_L1_Q a0 a1) o) [(1, .str a1), (7, .isl 1 (a0.map e_str) false), (8, .int .i64 ((a0.map e_str).length : Int)), (9, .int .i64 v1)] [] 0 := by
  unfold S_glossatorref3_Index_string_b1 at h
  refine seqI ?_
  refine regI ?_
  refine seqI ?_
  refine condI (v := (decide (v1 < ((a0.map e_str).length : Int)))) rfl trivial (fun h7 => ?_) (fun h7 => ?_)
  · have h := ite_tt h7 h
    refine skipI ?_
    refine seqI ?_
    refine blockI ?_
    refine seqI ?_
    refine regI ?_
    obtain ⟨h8, h⟩ := ite_some h
    refine And.intro h8 ?_
    refine Exists.intro (e_str (a0.getD v1.toNat default)) (And.intro (getD_enc e_str _ _ (idx_ltL e_str h8)) (And.intro (And.intro (idx_lt h8) (Nat.le_of_ble_eq_true rfl)) ?_))
    refine seqI ?_
    refine regI ?_
    refine LWp.sim (e := [(1, .str a1), (5, .int .i64 v1), (7, .isl 1 (a0.map e_str) false), (8, .int .i64 ((a0.map e_str).length : Int)), (9, .int .i64 v1), (16, .bool (a1 == (a0.getD v1.toNat default)))]) (L := []) (n := 0) ?_ ?_
    · exact simI (M := []) rfl (And.intro (Vw.same _ rfl) (And.intro (Vw.same _ rfl) (And.intro (Vw.same _ rfl) (And.intro (Vw.same _ rfl) (And.intro (Vw.same _ rfl) (And.intro (Vw.same _ rfl) trivial)))))) trivial
    refine condI (v := (a1 == (a0.getD v1.toNat default))) rfl trivial (fun h9 => ?_) (fun h9 => ?_)
    · have h := ite_tt h9 h
      refine seqI ?_
      refine regI ?_
      refine retI ?_
      obtain ⟨o, hq, rfl⟩ := Option.map_eq_some_iff.1 h
      replace h := hq; clear hq
      refine And.intro nofun ?_
      cases h
      exact And.intro trivial (And.intro rfl (Vw.same _ rfl))
    · have h := ite_ff h9 h
      refine skipI ?_
      refine regI ?_
      cases h
      exact And.intro rfl (simI (M := []) rfl (And.intro (Vw.same _ rfl) (And.intro (Vw.same _ rfl) (And.intro (Vw.same _ rfl) (And.intro (Vw.same _ rfl) trivial)))) trivial)
  · have h := ite_ff h7 h
    refine exitI ?_
    obtain ⟨o, hq, rfl⟩ := Option.map_eq_some_iff.1 h
    replace h := hq; clear hq
    refine And.intro nofun ?_
    refine LWp.sim ?_ (f40_j1_ok h)
    exact simI (M := []) rfl trivial trivial

theorem f40_L1_ok {a0 : List (List UInt8)} {a1 : List UInt8} {v1 : Int} {m : Option Nat} {o : Int} (h : S_glossatorref3_Index_string_l1 m a0 a1 v1 = some o) :
    LWp Try.prog f40_lay 0 (.loop f40_c1) (QBlock 0 (QSeq Try.prog f40_lay 0 f40_c0 (f40_Q a0 a1 o))) [(1, .str a1), (7, .isl 1 (a0.map e_str) false), (8, .int .i64 ((a0.map e_str).length : Int)), (9, .int .i64 v1)] [] 0 :=
  LWp_loopM (m := m) (s := (v1 : Int)) (r := o) (fun (s : Int) => S_glossatorref3_Index_string_b1 m a0 a1 s) (f40_L1_env a0 a1) (f40_L1_hp a0 a1) (f40_L1_Q a0 a1) (fun s o h => f40_L1_bok h) h

noncomputable def S_glossatorref3_Index_string (m : Option Nat) (a0 : List (List UInt8)) (a1 : List UInt8) : Option Int :=
  S_glossatorref3_Index_string_l1 m a0 a1 0

theorem f40_start {a0 : List (List UInt8)} {a1 : List UInt8} {m : Option Nat} {o : Int} (h : S_glossatorref3_Index_string m a0 a1 = some o) : LWp Try.prog f40_lay 0 f40_c2 (f40_Q a0 a1 o) (initEnv 0 [.isl 1 (a0.map e_str) false, .str a1]) [] 0 := by
  unfold S_glossatorref3_Index_string at h
  refine seqI ?_
  refine regI ?_
  refine seqI ?_
  refine seqI ?_
  refine regI ?_
  refine blockI ?_
  refine LWp.sim ?_ (f40_L1_ok h)
  exact simI (M := []) rfl (And.intro (Vw.same _ rfl) (And.intro (Vw.same _ rfl) (And.intro (Vw.same _ rfl) (And.intro (Vw.same _ rfl) trivial)))) trivial

theorem f40_ok {a0 : List (List UInt8)} {a1 : List UInt8} {m : Option Nat} {o : Int} (h : S_glossatorref3_Index_string m a0 a1 = some o) : PFn Try.prog 40 [.isl 1 (a0.map e_str) false, .str a1] (.int .i64 o) := PFn.ofFnW (L := f40_L) f40_low f40_fok (Nat.le_of_ble_eq_true rfl) rfl (f40_start h)

def f31_c0 : LCode := (.seq (.region [⟨some 4, .mv (.c (.bool false)), none⟩])
 (.seq (.region [⟨some 5, .mv (.t 0), none⟩,
   ⟨some 6, .mv (.t 1), none⟩,
   ⟨some 7, .call 40 [(.t 5), (.t 6)], none⟩,
   ⟨some 8, .bin .geq (.t 7) (.c (.int .i64 0)), none⟩,
   ⟨some 4, .mv (.t 8), none⟩])
 .ret))
def f31_lay : Lay := ⟨9, [], false⟩
def f31_res : List LRes := [.t 4]
def f31_L : LFn := ⟨2, f31_lay, f31_c0, f31_res⟩
theorem f31_low : lowFn Try.prog [] 31 = some f31_L := by kernel_rfl
theorem f31_fok : FnOk Try.prog 31 := ⟨_, Try.func31, rfl, rfl⟩
noncomputable def S_glossatorref3_Contains_string (m : Option Nat) (a0 : List (List UInt8)) (a1 : List UInt8) : Option Bool :=
  (S_glossatorref3_Index_string m a0 a1).bind fun v1 =>
  some (decide (v1 ≥ 0))

def f31_Q (a0 : List (List UInt8)) (a1 : List UInt8) (o : Bool) : Exit → Env → AHeap → Nat → Prop := FinK f31_res (PureEnd (.bool o))

theorem f31_start {a0 : List (List UInt8)} {a1 : List UInt8} {m : Option Nat} {o : Bool} (h : S_glossatorref3_Contains_string m a0 a1 = some o) : LWp Try.prog f31_lay 0 f31_c0 (f31_Q a0 a1 o) (initEnv 0 [.isl 1 (a0.map e_str) false, .str a1]) [] 0 := by
  unfold S_glossatorref3_Contains_string at h
  refine seqI ?_
  refine regI ?_
  refine seqI ?_
  refine regI ?_
  obtain ⟨v1, h1, h⟩ := bind_some h
  refine PFn.call (f40_ok h1) (And.intro (Vw.same _ rfl) (And.intro (Vw.same _ rfl) trivial)) ?_
  refine retI ?_
  cases h
  exact And.intro trivial (And.intro rfl (Vw.same _ rfl))

theorem f31_ok {a0 : List (List UInt8)} {a1 : List UInt8} {m : Option Nat} {o : Bool} (h : S_glossatorref3_Contains_string m a0 a1 = some o) : PFn Try.prog 31 [.isl 1 (a0.map e_str) false, .str a1] (.bool o) := PFn.ofFnW (L := f31_L) f31_low f31_fok (Nat.le_of_ble_eq_true rfl) rfl (f31_start h)

def f16_c1 : LCode := (.seq (.region [⟨some 11, .bin .lss (.t 10) (.t 9), none⟩])
 (.seq (.cond (.t 11)
  .skip
  (.exit 0))
 (.seq (.block 1
  (.seq (.region [⟨some 12, .mv (.t 10), none⟩,
    ⟨some 13, .iaddr 3 (.t 8) (.t 10), none⟩,
    ⟨some 14, .load true 3 (.t 13), none⟩,
    ⟨some 6, .alloc [(.int .i64 0), (.str []), (.int .i64 0)], none⟩,
    ⟨some 5, .mv (.t 12), none⟩,
    ⟨none, .store 3 (.t 6) (.t 14), none⟩])
  (.seq (.draw [⟨⟨some 15, .mv (.t 0), none⟩, []⟩,
    ⟨⟨some 16, .mv (.t 1), none⟩, []⟩,
    ⟨⟨some 17, .mv (.t 5), none⟩, []⟩,
    ⟨⟨some 18, .slSl 3 (.t 16) none (some (.t 17)) none, none⟩, []⟩,
    ⟨⟨some 20, .faddr 1 (.t 6), none⟩, []⟩,
    ⟨⟨some 21, .load false 1 (.t 20), none⟩, []⟩,
    ⟨⟨some 19, .call 14 [(.t 15), (.t 18)], none⟩, [5]⟩,
    ⟨⟨some 22, .call 31 [(.t 19), (.t 21)], none⟩, []⟩,
    ⟨⟨some 7, .mv (.t 22), none⟩, []⟩])
  (.seq (.region [⟨some 23, .faddr 2 (.t 6), none⟩,
    ⟨some 24, .load false 1 (.t 23), none⟩,
    ⟨some 25, .bin .eql (.t 24) (.c (.int .i64 1)), none⟩,
    ⟨some 26, .mv (.t 25), none⟩,
    ⟨some 27, .mv (.t 7), some (26, true)⟩,
    ⟨some 28, .pick (.t 26) (.t 27) (.c (.bool false)), none⟩,
    ⟨some 29, .mv (.t 28), none⟩,
    ⟨some 30, .faddr 2 (.t 6), some (29, false)⟩,
    ⟨some 31, .load false 1 (.t 30), some (29, false)⟩,
    ⟨some 32, .bin .eql (.t 31) (.c (.int .i64 2)), some (29, false)⟩,
    ⟨some 33, .mv (.t 32), some (29, false)⟩,
    ⟨some 34, .faddr 2 (.t 6), some (33, false)⟩,
    ⟨some 35, .load false 1 (.t 34), some (33, false)⟩,
    ⟨some 36, .bin .eql (.t 35) (.c (.int .i64 3)), some (33, false)⟩,
    ⟨some 37, .pick (.t 33) (.c (.bool true)) (.t 36), some (29, false)⟩,
    ⟨some 38, .mv (.t 37), some (29, false)⟩,
    ⟨some 39, .mv (.t 7), some (38, true)⟩,
    ⟨some 40, .un .not (.t 39), some (38, true)⟩,
    ⟨some 41, .pick (.t 38) (.t 40) (.c (.bool false)), some (29, false)⟩,
    ⟨some 42, .pick (.t 29) (.c (.bool true)) (.t 41), none⟩])
  (.cond (.t 42)
   (.seq (.region [⟨some 4, .mv (.c (.bool false)), none⟩])
   .ret)
   .skip)))))
 (.region [⟨some 43, .bin .add (.t 10) (.c (.int .i64 1)), none⟩,
   ⟨some 10, .mv (.t 43), none⟩]))))
def f16_c0 : LCode := (.seq (.region [⟨some 4, .mv (.c (.bool true)), none⟩])
 .ret)
def f16_c2 : LCode := (.seq (.region [⟨some 4, .mv (.c (.bool false)), none⟩])
 (.seq (.seq (.region [⟨some 8, .mv (.t 1), none⟩,
   ⟨some 9, .len false (.t 8), none⟩,
   ⟨some 10, .mv (.c (.int .i64 0)), none⟩])
 (.block 0
  (.loop
   f16_c1)))
 f16_c0))
def f16_lay : Lay := ⟨44, [], false⟩
def f16_res : List LRes := [.t 4]
def f16_L : LFn := ⟨2, f16_lay, f16_c2, f16_res⟩
theorem f16_low : lowFn Try.prog [] 16 = some f16_L := by kernel_rfl
theorem f16_fok : FnOk Try.prog 16 := ⟨_, Try.func16, rfl, rfl⟩
def f16_Q (a0 : List (List UInt8)) (a1 : List G_QFileEvent) (o : Bool) : Exit → Env → AHeap → Nat → Prop := FinK f16_res (PureEnd (.bool o))

def f16_L1_env (a0 : List (List UInt8)) (a1 : List G_QFileEvent) (s : Int) : Env := [(0, .isl 1 (a0.map e_str) false), (1, .isl 3 (a1.map e_QFileEvent) false), (8, .isl 3 (a1.map e_QFileEvent) false), (9, .int .i64 ((a1.map e_QFileEvent).length : Int)), (10, .int .i64 s)]
def f16_L1_hp (a0 : List (List UInt8)) (a1 : List G_QFileEvent) (s : Int) : AHeap := []
def f16_L1_Q (a0 : List (List UInt8)) (a1 : List G_QFileEvent) (o : Bool) : Exit → Env → AHeap → Nat → Prop := (QBlock 0 (QSeq Try.prog f16_lay 0 f16_c0 (f16_Q a0 a1 o)))

noncomputable def S_glossatorref3_Consistent_j1 (m : Option Nat) : Option Bool :=
  some true

noncomputable def S_glossatorref3_Consistent_b1 (m : Option Nat) (a0 : List (List UInt8)) (a1 : List G_QFileEvent) (v3 : Int) : Option (Int ⊕ Bool) :=
  if (decide (v3 < ((a1.map e_QFileEvent).length : Int))) = true then
    if (0 : Int) ≤ v3 ∧ v3 < ((a1.map e_QFileEvent).length : Int) then
    if (0 : Int) ≤ v3 ∧ v3 ≤ ((a1.map e_QFileEvent).length : Int) then
    (S_glossatorref3_Files m a0 (a1.take v3.toNat)).bind fun v6 =>
    (S_glossatorref3_Contains_string m v6 ((a1.getD v3.toNat default).f_Path)).bind fun v7 =>
    if ((((a1.getD v3.toNat default).f_Kind == 1) && v7) || ((((a1.getD v3.toNat default).f_Kind == 2) || ((a1.getD v3.toNat default).f_Kind == 3)) && (!v7))) = true then
      Option.map Sum.inr (
        some false)
    else
      some (.inl (W (v3 + 1)))
    else none
    else none
  else
    Option.map Sum.inr (
      S_glossatorref3_Consistent_j1 m)

noncomputable def S_glossatorref3_Consistent_l1 (m : Option Nat) (a0 : List (List UInt8)) (a1 : List G_QFileEvent) (v3 : Int) : Option Bool := loopM m (fun (s : Int) => S_glossatorref3_Consistent_b1 m a0 a1 s) v3

theorem f16_j1_ok {a0 : List (List UInt8)} {a1 : List G_QFileEvent} {m : Option Nat} {o : Bool} (h : S_glossatorref3_Consistent_j1 m = some o) :
    LWp Try.prog f16_lay 0 f16_c0 (f16_Q a0 a1 o) [] [] 0 := by
  unfold S_glossatorref3_Consistent_j1 at h
  refine seqI ?_
  refine regI ?_
  refine retI ?_
  cases h
  exact And.intro trivial (And.intro rfl (Vw.same _ rfl))

theorem f16_L1_bok {a0 : List (List UInt8)} {a1 : List G_QFileEvent} {v3 : Int} {m : Option Nat} {o : Int ⊕ Bool} (h : S_glossatorref3_Consistent_b1 m a0 a1 v3 = some o) :
    LWp Try.prog f16_lay 0 f16_c1 (BodyQ 0 0 (f16_L1_env a0 a1) (f16_L1_hp a0 a1) (f16_L1_Q a0 a1) o) [(0, .isl 1 (a0.map e_str) false), (1, .isl 3 (a1.map e_QFileEvent) false), (8, .isl 3 (a1.map e_QFileEvent) false), (9, .int .i64 ((a1.map e_QFileEvent).length : Int)), (10, .int .i64 v3)] [] 0 := by
  unfold S_glossatorref3_Consistent_b1 at h
  refine seqI ?_
  refine regI ?_
  refine seqI ?_
  refine condI (v := (decide (v3 < ((a1.map e_QFileEvent).length : Int)))) rfl trivial (fun h13 => ?_) (fun h13 => ?_)
  · have h := ite_tt h13 h
    refine skipI ?_
    refine seqI ?_
    refine blockI ?_
    refine seqI ?_
    refine regI ?_
    obtain ⟨h14, h⟩ := ite_some h
    refine And.intro h14 ?_
    refine Exists.intro (e_QFileEvent (a1.getD v3.toNat default)) (And.intro (getD_enc e_QFileEvent _ _ (idx_ltL e_QFileEvent h14)) (And.intro (And.intro (idx_lt h14) (Nat.le_of_ble_eq_true rfl)) ?_))
    refine seqI ?_
    refine drawI ?_
    obtain ⟨h15, h⟩ := ite_some h
    refine Exists.intro (.isl 3 ((a1.take v3.toNat).map e_QFileEvent) false) (And.intro (sl_eq e_QFileEvent (slB e_QFileEvent a1 _) rfl) (And.intro (And.intro rfl (And.intro (Int.le_refl _) h15)) ?_))
    obtain ⟨v6, h16, h⟩ := bind_some h
    refine PFn.call (f14_ok h16) (And.intro (Vw.same _ rfl) (And.intro (Vw.same _ rfl) trivial)) ?_
    refine And.intro rfl ?_
    obtain ⟨v7, h17, h⟩ := bind_some h
    refine PFn.call (f31_ok h17) (And.intro (Vw.same _ rfl) (And.intro (Vw.same _ rfl) trivial)) ?_
    show yd _ _ _ _ _ [(22, .bool v7), (19, .isl 1 (v6.map e_str) false), (21, .str ((a1.getD v3.toNat default).f_Path)), (20, .ptr (0, 0) 0 1), (18, .isl 3 ((a1.take v3.toNat).map e_QFileEvent) false), (17, .int .i64 v3), (16, .isl 3 (a1.map e_QFileEvent) false), (15, .isl 1 (a0.map e_str) false), (5, .int .i64 v3), (6, .ptr (0, 0) 0 0), (14, .agg [.int .i64 ((a1.getD v3.toNat default).f_Time), .str ((a1.getD v3.toNat default).f_Path), .int .i64 ((a1.getD v3.toNat default).f_Kind)]), (13, .iptr 3 (a1.map e_QFileEvent) v3.toNat 0), (12, .int .i64 v3), (11, .bool (decide (v3 < ((a1.map e_QFileEvent).length : Int)))), (0, .isl 1 (a0.map e_str) false), (1, .isl 3 (a1.map e_QFileEvent) false), (8, .isl 3 (a1.map e_QFileEvent) false), (9, .int .i64 ((a1.map e_QFileEvent).length : Int)), (10, .int .i64 v3)] _ _
    refine LWp.sim (e := [(0, .isl 1 (a0.map e_str) false), (1, .isl 3 (a1.map e_QFileEvent) false), (6, .ptr (0, 0) 0 0), (7, .bool v7), (8, .isl 3 (a1.map e_QFileEvent) false), (9, .int .i64 ((a1.map e_QFileEvent).length : Int)), (10, .int .i64 v3)]) (L := [((0, 0), .one [.int .i64 ((a1.getD v3.toNat default).f_Time), .str ((a1.getD v3.toNat default).f_Path), .int .i64 ((a1.getD v3.toNat default).f_Kind)])]) (n := 1) ?_ ?_
    · exact simI (M := [((0, 0), (0, 0))]) rfl (And.intro (Vw.same _ rfl) (And.intro (Vw.same _ rfl) (And.intro (Vw.ptr _ _ _ _ rfl) (And.intro (Vw.same _ rfl) (And.intro (Vw.same _ rfl) (And.intro (Vw.same _ rfl) (And.intro (Vw.same _ rfl) trivial))))))) (And.intro (And.intro rfl (BVw.oneL (And.intro (Vw.same _ rfl) (And.intro (Vw.same _ rfl) (And.intro (Vw.same _ rfl) trivial))))) trivial)
    refine seqI ?_
    refine regI ?_
    refine And.intro (fun hc => (bqt hc)) ?_
    show yops _ _ _ [(28, .bool (((a1.getD v3.toNat default).f_Kind == 1) && v7)), (27, .cnd (((a1.getD v3.toNat default).f_Kind == 1) == true) (.bool v7)), (26, .bool ((a1.getD v3.toNat default).f_Kind == 1)), (25, .bool ((a1.getD v3.toNat default).f_Kind == 1)), (24, .int .i64 ((a1.getD v3.toNat default).f_Kind)), (23, .ptr (0, 0) 0 2), (0, .isl 1 (a0.map e_str) false), (1, .isl 3 (a1.map e_QFileEvent) false), (6, .ptr (0, 0) 0 0), (7, .bool v7), (8, .isl 3 (a1.map e_QFileEvent) false), (9, .int .i64 ((a1.map e_QFileEvent).length : Int)), (10, .int .i64 v3)] _ _
    refine And.intro (fun hp => hp) ?_
    refine And.intro (fun hp => hp) ?_
    refine And.intro (fun hp => hp) ?_
    show yops _ _ _ [(33, .cnd ((((a1.getD v3.toNat default).f_Kind == 1) && v7) == false) (.bool ((a1.getD v3.toNat default).f_Kind == 2))), (32, .cnd ((((a1.getD v3.toNat default).f_Kind == 1) && v7) == false) (.bool ((a1.getD v3.toNat default).f_Kind == 2))), (31, .cnd ((((a1.getD v3.toNat default).f_Kind == 1) && v7) == false) (.int .i64 ((a1.getD v3.toNat default).f_Kind))), (30, .cnd ((((a1.getD v3.toNat default).f_Kind == 1) && v7) == false) (.ptr (0, 0) 0 2)), (29, .bool (((a1.getD v3.toNat default).f_Kind == 1) && v7)), (28, .bool (((a1.getD v3.toNat default).f_Kind == 1) && v7)), (27, .cnd (((a1.getD v3.toNat default).f_Kind == 1) == true) (.bool v7)), (26, .bool ((a1.getD v3.toNat default).f_Kind == 1)), (25, .bool ((a1.getD v3.toNat default).f_Kind == 1)), (24, .int .i64 ((a1.getD v3.toNat default).f_Kind)), (23, .ptr (0, 0) 0 2), (0, .isl 1 (a0.map e_str) false), (1, .isl 3 (a1.map e_QFileEvent) false), (6, .ptr (0, 0) 0 0), (7, .bool v7), (8, .isl 3 (a1.map e_QFileEvent) false), (9, .int .i64 ((a1.map e_QFileEvent).length : Int)), (10, .int .i64 v3)] _ _
    refine And.intro (fun hp => hp) ?_
    refine And.intro (fun hp => hp) ?_
    refine And.intro (fun hp => (And.intro hp (fun hc => (and_i hp (bqf hc))))) ?_
    refine And.intro (fun hp => hp) ?_
    show yops _ _ _ [(38, .cnd ((((a1.getD v3.toNat default).f_Kind == 1) && v7) == false) (.bool (((a1.getD v3.toNat default).f_Kind == 2) || ((a1.getD v3.toNat default).f_Kind == 3)))), (37, .cnd ((((a1.getD v3.toNat default).f_Kind == 1) && v7) == false) (.bool (((a1.getD v3.toNat default).f_Kind == 2) || ((a1.getD v3.toNat default).f_Kind == 3)))), (36, .cnd (((((a1.getD v3.toNat default).f_Kind == 1) && v7) == false) && (((a1.getD v3.toNat default).f_Kind == 2) == false)) (.bool ((a1.getD v3.toNat default).f_Kind == 3))), (35, .cnd (((((a1.getD v3.toNat default).f_Kind == 1) && v7) == false) && (((a1.getD v3.toNat default).f_Kind == 2) == false)) (.int .i64 ((a1.getD v3.toNat default).f_Kind))), (34, .cnd (((((a1.getD v3.toNat default).f_Kind == 1) && v7) == false) && (((a1.getD v3.toNat default).f_Kind == 2) == false)) (.ptr (0, 0) 0 2)), (33, .cnd ((((a1.getD v3.toNat default).f_Kind == 1) && v7) == false) (.bool ((a1.getD v3.toNat default).f_Kind == 2))), (32, .cnd ((((a1.getD v3.toNat default).f_Kind == 1) && v7) == false) (.bool ((a1.getD v3.toNat default).f_Kind == 2))), (31, .cnd ((((a1.getD v3.toNat default).f_Kind == 1) && v7) == false) (.int .i64 ((a1.getD v3.toNat default).f_Kind))), (30, .cnd ((((a1.getD v3.toNat default).f_Kind == 1) && v7) == false) (.ptr (0, 0) 0 2)), (29, .bool (((a1.getD v3.toNat default).f_Kind == 1) && v7)), (28, .bool (((a1.getD v3.toNat default).f_Kind == 1) && v7)), (27, .cnd (((a1.getD v3.toNat default).f_Kind == 1) == true) (.bool v7)), (26, .bool ((a1.getD v3.toNat default).f_Kind == 1)), (25, .bool ((a1.getD v3.toNat default).f_Kind == 1)), (24, .int .i64 ((a1.getD v3.toNat default).f_Kind)), (23, .ptr (0, 0) 0 2), (0, .isl 1 (a0.map e_str) false), (1, .isl 3 (a1.map e_QFileEvent) false), (6, .ptr (0, 0) 0 0), (7, .bool v7), (8, .isl 3 (a1.map e_QFileEvent) false), (9, .int .i64 ((a1.map e_QFileEvent).length : Int)), (10, .int .i64 v3)] _ _
    refine And.intro (fun hp => hp) ?_
    refine And.intro (fun hp => (And.intro hp (fun hc => (and_i hp (bqt hc))))) ?_
    refine And.intro (fun hc => (bqf hc)) ?_
    refine LWp.sim (e := [(0, .isl 1 (a0.map e_str) false), (1, .isl 3 (a1.map e_QFileEvent) false), (8, .isl 3 (a1.map e_QFileEvent) false), (9, .int .i64 ((a1.map e_QFileEvent).length : Int)), (10, .int .i64 v3), (42, .bool ((((a1.getD v3.toNat default).f_Kind == 1) && v7) || ((((a1.getD v3.toNat default).f_Kind == 2) || ((a1.getD v3.toNat default).f_Kind == 3)) && (!v7))))]) (L := []) (n := 0) ?_ ?_
    · exact simI (M := []) rfl (And.intro (Vw.same _ rfl) (And.intro (Vw.same _ rfl) (And.intro (Vw.same _ rfl) (And.intro (Vw.same _ rfl) (And.intro (Vw.same _ rfl) (And.intro (Vw.same _ rfl) trivial)))))) trivial
    refine condI (v := ((((a1.getD v3.toNat default).f_Kind == 1) && v7) || ((((a1.getD v3.toNat default).f_Kind == 2) || ((a1.getD v3.toNat default).f_Kind == 3)) && (!v7)))) rfl trivial (fun h18 => ?_) (fun h18 => ?_)
    · have h := ite_tt h18 h
      refine seqI ?_
      refine regI ?_
      refine retI ?_
      obtain ⟨o, hq, rfl⟩ := Option.map_eq_some_iff.1 h
      replace h := hq; clear hq
      refine And.intro nofun ?_
      cases h
      exact And.intro trivial (And.intro rfl (Vw.same _ rfl))
    · have h := ite_ff h18 h
      refine skipI ?_
      refine regI ?_
      cases h
      exact And.intro rfl (simI (M := []) rfl (And.intro (Vw.same _ rfl) (And.intro (Vw.same _ rfl) (And.intro (Vw.same _ rfl) (And.intro (Vw.same _ rfl) (And.intro (Vw.same _ rfl) trivial))))) trivial)
  · have h := ite_ff h13 h
    refine exitI ?_
    obtain ⟨o, hq, rfl⟩ := Option.map_eq_some_iff.1 h
    replace h := hq; clear hq
    refine And.intro nofun ?_
    refine LWp.sim ?_ (f16_j1_ok h)
    exact simI (M := []) rfl trivial trivial

theorem f16_L1_ok {a0 : List (List UInt8)} {a1 : List G_QFileEvent} {v3 : Int} {m : Option Nat} {o : Bool} (h : S_glossatorref3_Consistent_l1 m a0 a1 v3 = some o) :
    LWp Try.prog f16_lay 0 (.loop f16_c1) (QBlock 0 (QSeq Try.prog f16_lay 0 f16_c0 (f16_Q a0 a1 o))) [(0, .isl 1 (a0.map e_str) false), (1, .isl 3 (a1.map e_QFileEvent) false), (8, .isl 3 (a1.map e_QFileEvent) false), (9, .int .i64 ((a1.map e_QFileEvent).length : Int)), (10, .int .i64 v3)] [] 0 :=
  LWp_loopM (m := m) (s := (v3 : Int)) (r := o) (fun (s : Int) => S_glossatorref3_Consistent_b1 m a0 a1 s) (f16_L1_env a0 a1) (f16_L1_hp a0 a1) (f16_L1_Q a0 a1) (fun s o h => f16_L1_bok h) h

noncomputable def S_glossatorref3_Consistent (m : Option Nat) (a0 : List (List UInt8)) (a1 : List G_QFileEvent) : Option Bool :=
  S_glossatorref3_Consistent_l1 m a0 a1 0

theorem f16_start {a0 : List (List UInt8)} {a1 : List G_QFileEvent} {m : Option Nat} {o : Bool} (h : S_glossatorref3_Consistent m a0 a1 = some o) : LWp Try.prog f16_lay 0 f16_c2 (f16_Q a0 a1 o) (initEnv 0 [.isl 1 (a0.map e_str) false, .isl 3 (a1.map e_QFileEvent) false]) [] 0 := by
  unfold S_glossatorref3_Consistent at h
  refine seqI ?_
  refine regI ?_
  refine seqI ?_
  refine seqI ?_
  refine regI ?_
  refine blockI ?_
  refine LWp.sim ?_ (f16_L1_ok h)
  exact simI (M := []) rfl (And.intro (Vw.same _ rfl) (And.intro (Vw.same _ rfl) (And.intro (Vw.same _ rfl) (And.intro (Vw.same _ rfl) (And.intro (Vw.same _ rfl) trivial))))) trivial

theorem f16_ok {a0 : List (List UInt8)} {a1 : List G_QFileEvent} {m : Option Nat} {o : Bool} (h : S_glossatorref3_Consistent m a0 a1 = some o) : PFn Try.prog 16 [.isl 1 (a0.map e_str) false, .isl 3 (a1.map e_QFileEvent) false] (.bool o) := PFn.ofFnW (L := f16_L) f16_low f16_fok (Nat.le_of_ble_eq_true rfl) rfl (f16_start h)

def f3_c0 : LCode := (.seq (.region [⟨some 10, .mv (.c (.bool false)), none⟩])
 (.seq (.seq (.region [⟨some 14, .call 5 [], none⟩,
   ⟨some 15, .un .not (.t 14), none⟩])
 (.cond (.t 15)
  (.seq (.region [⟨some 10, .mv (.c (.bool false)), none⟩])
  .ret)
  .skip))
 (.seq (.quiet [⟨some 16, .mv (.t 0), none⟩,
   ⟨some 17, .mv (.t 0), none⟩,
   ⟨some 18, .len false (.t 17), none⟩,
   ⟨some 19, .mnx false [(.t 18), (.c (.int .i64 40))], none⟩,
   ⟨some 20, .slSl 3 (.t 16) none (some (.t 19)) none, none⟩,
   ⟨some 21, .mv (.t 2), none⟩,
   ⟨some 22, .mv (.t 2), none⟩,
   ⟨some 23, .len false (.t 22), none⟩,
   ⟨some 24, .mnx false [(.t 23), (.c (.int .i64 10))], none⟩,
   ⟨some 25, .slSl 1 (.t 21) none (some (.t 24)) none, none⟩,
   ⟨some 0, .mv (.t 20), none⟩,
   ⟨some 2, .mv (.t 25), none⟩])
 (.seq (.region [⟨some 27, .mv (.t 0), none⟩,
   ⟨some 28, .mv (.t 1), none⟩,
   ⟨some 29, .call 6 [(.t 27), (.t 28)], none⟩,
   ⟨some 26, .mv (.t 29), none⟩,
   ⟨some 30, .ext 0 (.t 26), none⟩,
   ⟨some 31, .ext 1 (.t 26), none⟩,
   ⟨some 11, .mv (.t 30), none⟩,
   ⟨some 12, .mv (.t 31), none⟩])
 (.seq (.region [⟨some 32, .mv (.t 0), none⟩,
   ⟨some 33, .mv (.t 1), none⟩,
   ⟨some 34, .call 7 [(.t 32), (.t 33)], none⟩,
   ⟨some 13, .mv (.t 34), none⟩])
 (.seq (.seq (.region [⟨some 35, .mv (.t 12), none⟩,
   ⟨some 36, .mv (.t 13), none⟩,
   ⟨some 37, .bin .neq (.t 35) (.t 36), none⟩,
   ⟨some 38, .mv (.t 37), none⟩,
   ⟨some 39, .mv (.t 13), some (38, false)⟩,
   ⟨some 40, .bin .neq (.t 39) (.c (.int .i64 0)), some (38, false)⟩,
   ⟨some 41, .mv (.t 40), some (38, false)⟩,
   ⟨some 42, .mv (.t 11), some (41, true)⟩,
   ⟨some 43, .len false (.t 42), some (41, true)⟩,
   ⟨some 44, .bin .gtr (.t 43) (.c (.int .i64 0)), some (41, true)⟩,
   ⟨some 45, .pick (.t 41) (.t 44) (.c (.bool false)), some (38, false)⟩,
   ⟨some 46, .pick (.t 38) (.c (.bool true)) (.t 45), none⟩,
   ⟨some 47, .mv (.t 46), none⟩,
   ⟨some 48, .mv (.t 13), some (47, false)⟩,
   ⟨some 49, .bin .eql (.t 48) (.c (.int .i64 0)), some (47, false)⟩,
   ⟨some 50, .mv (.t 49), some (47, false)⟩,
   ⟨some 51, .mv (.t 11), some (50, true)⟩,
   ⟨some 52, .mv (.t 0), some (50, true)⟩,
   ⟨some 53, .mv (.t 1), some (50, true)⟩,
   ⟨some 54, .call 9 [(.t 52), (.t 53)], some (50, true)⟩,
   ⟨some 55, .call 8 [(.t 51), (.t 54)], some (50, true)⟩,
   ⟨some 56, .un .not (.t 55), some (50, true)⟩,
   ⟨some 57, .pick (.t 50) (.t 56) (.c (.bool false)), some (47, false)⟩,
   ⟨some 58, .pick (.t 47) (.c (.bool true)) (.t 57), none⟩])
 (.cond (.t 58)
  (.seq (.region [⟨some 10, .mv (.c (.bool false)), none⟩])
  .ret)
  .skip))
 (.seq (.region [⟨some 59, .call 5 [], none⟩,
   ⟨some 60, .mv (.t 59), none⟩,
   ⟨some 61, .mv (.t 3), some (60, true)⟩,
   ⟨some 62, .mv (.t 4), some (60, true)⟩,
   ⟨some 63, .call 10 [(.t 61), (.t 62)], some (60, true)⟩,
   ⟨some 64, .mv (.t 3), some (60, true)⟩,
   ⟨some 65, .mv (.t 4), some (60, true)⟩,
   ⟨some 66, .call 11 [(.t 64), (.t 65)], some (60, true)⟩,
   ⟨some 67, .bin .eql (.t 63) (.t 66), some (60, true)⟩,
   ⟨some 68, .pick (.t 60) (.t 67) (.c (.bool false)), none⟩,
   ⟨some 69, .mv (.t 68), none⟩,
   ⟨some 70, .mv (.t 2), some (69, true)⟩,
   ⟨some 71, .mv (.t 0), some (69, true)⟩,
   ⟨some 72, .call 13 [(.t 70), (.t 71)], some (69, true)⟩,
   ⟨some 73, .mv (.t 2), some (69, true)⟩,
   ⟨some 74, .mv (.t 0), some (69, true)⟩,
   ⟨some 75, .call 14 [(.t 73), (.t 74)], some (69, true)⟩,
   ⟨some 76, .call 12 [(.t 72), (.t 75)], some (69, true)⟩,
   ⟨some 77, .pick (.t 69) (.t 76) (.c (.bool false)), none⟩,
   ⟨some 78, .mv (.t 77), none⟩,
   ⟨some 79, .mv (.t 2), some (78, true)⟩,
   ⟨some 80, .mv (.t 0), some (78, true)⟩,
   ⟨some 81, .call 15 [(.t 79), (.t 80)], some (78, true)⟩,
   ⟨some 82, .mv (.t 2), some (78, true)⟩,
   ⟨some 83, .mv (.t 0), some (78, true)⟩,
   ⟨some 84, .call 16 [(.t 82), (.t 83)], some (78, true)⟩,
   ⟨some 85, .eq false .bool (.t 81) (.t 84), some (78, true)⟩,
   ⟨some 86, .pick (.t 78) (.t 85) (.c (.bool false)), none⟩,
   ⟨some 10, .mv (.t 86), none⟩])
 .ret)))))))
def f3_lay : Lay := ⟨87, [], false⟩
def f3_res : List LRes := [.t 10]
def f3_L : LFn := ⟨5, f3_lay, f3_c0, f3_res⟩
theorem f3_low : lowFn Try.prog [] 3 = some f3_L := by kernel_rfl
theorem f3_fok : FnOk Try.prog 3 := ⟨_, Try.func3, rfl, rfl⟩
noncomputable def S_glossatorlaw3_FilewatchBatches (m : Option Nat) (a0 : List G_QFileEvent) (a1 : Int) (a2 : List (List UInt8)) (a3 : Int) (a4 : Int) : Option Bool :=
  (S_glossatorlaw3_watchExample m).bind fun v1 =>
  if (!v1) = true then
    some false
  else
    if (0 : Int) ≤ (if 40 < ((a0.map e_QFileEvent).length : Int) then 40 else ((a0.map e_QFileEvent).length : Int)) ∧ (if 40 < ((a0.map e_QFileEvent).length : Int) then 40 else ((a0.map e_QFileEvent).length : Int)) ≤ ((a0.map e_QFileEvent).length : Int) then
    if (0 : Int) ≤ (if 10 < ((a2.map e_str).length : Int) then 10 else ((a2.map e_str).length : Int)) ∧ (if 10 < ((a2.map e_str).length : Int) then 10 else ((a2.map e_str).length : Int)) ≤ ((a2.map e_str).length : Int) then
    (S_filewatch_Batches m (a0.take (if 40 < ((a0.map e_QFileEvent).length : Int) then 40 else ((a0.map e_QFileEvent).length : Int)).toNat) a1).bind fun v2 =>
    (S_glossatorref3_CheckEvents m (a0.take (if 40 < ((a0.map e_QFileEvent).length : Int) then 40 else ((a0.map e_QFileEvent).length : Int)).toNat) a1).bind fun v3 =>
    (if ((((v2.2 != v3) || ((v3 != 0) && (decide (((v2.1.map e_QFileBatch).length : Int) > 0)))) == false) && ((v3 == 0) == true)) = true then S_glossatorref3_Batches m (a0.take (if 40 < ((a0.map e_QFileEvent).length : Int) then 40 else ((a0.map e_QFileEvent).length : Int)).toNat) a1 else some default).bind fun v4 =>
    (if ((((v2.2 != v3) || ((v3 != 0) && (decide (((v2.1.map e_QFileBatch).length : Int) > 0)))) == false) && ((v3 == 0) == true)) = true then S_glossatorref3_EqualBatches m v2.1 v4 else some default).bind fun v5 =>
    if (((v2.2 != v3) || ((v3 != 0) && (decide (((v2.1.map e_QFileBatch).length : Int) > 0)))) || ((v3 == 0) && (!v5))) = true then
      some false
    else
      (S_glossatorlaw3_watchExample m).bind fun v6 =>
      (if (v6 == true) = true then S_filewatch_Merge m a3 a4 else some default).bind fun v7 =>
      (if (v6 == true) = true then S_glossatorref3_Merge m a3 a4 else some default).bind fun v8 =>
      (if ((v6 && (v7 == v8)) == true) = true then S_filewatch_Apply m (a2.take (if 10 < ((a2.map e_str).length : Int) then 10 else ((a2.map e_str).length : Int)).toNat) (a0.take (if 40 < ((a0.map e_QFileEvent).length : Int) then 40 else ((a0.map e_QFileEvent).length : Int)).toNat) else some default).bind fun v9 =>
      (if ((v6 && (v7 == v8)) == true) = true then S_glossatorref3_Files m (a2.take (if 10 < ((a2.map e_str).length : Int) then 10 else ((a2.map e_str).length : Int)).toNat) (a0.take (if 40 < ((a0.map e_QFileEvent).length : Int) then 40 else ((a0.map e_QFileEvent).length : Int)).toNat) else some default).bind fun v10 =>
      (if ((v6 && (v7 == v8)) == true) = true then S_glossatorref3_Equal_string m v9 v10 else some default).bind fun v11 =>
      (if (((v6 && (v7 == v8)) && v11) == true) = true then S_filewatch_Consistent m (a2.take (if 10 < ((a2.map e_str).length : Int) then 10 else ((a2.map e_str).length : Int)).toNat) (a0.take (if 40 < ((a0.map e_QFileEvent).length : Int) then 40 else ((a0.map e_QFileEvent).length : Int)).toNat) else some default).bind fun v12 =>
      (if (((v6 && (v7 == v8)) && v11) == true) = true then S_glossatorref3_Consistent m (a2.take (if 10 < ((a2.map e_str).length : Int) then 10 else ((a2.map e_str).length : Int)).toNat) (a0.take (if 40 < ((a0.map e_QFileEvent).length : Int) then 40 else ((a0.map e_QFileEvent).length : Int)).toNat) else some default).bind fun v13 =>
      some (((v6 && (v7 == v8)) && v11) && (v12 == v13))
    else none
    else none

def f3_Q (a0 : List G_QFileEvent) (a1 : Int) (a2 : List (List UInt8)) (a3 : Int) (a4 : Int) (o : Bool) : Exit → Env → AHeap → Nat → Prop := FinK f3_res (PureEnd (.bool o))

theorem f3_start {a0 : List G_QFileEvent} {a1 : Int} {a2 : List (List UInt8)} {a3 : Int} {a4 : Int} {m : Option Nat} {o : Bool} (h : S_glossatorlaw3_FilewatchBatches m a0 a1 a2 a3 a4 = some o) : LWp Try.prog f3_lay 0 f3_c0 (f3_Q a0 a1 a2 a3 a4 o) (initEnv 0 [.isl 3 (a0.map e_QFileEvent) false, .int .i64 a1, .isl 1 (a2.map e_str) false, .int .i64 a3, .int .i64 a4]) [] 0 := by
  unfold S_glossatorlaw3_FilewatchBatches at h
  refine seqI ?_
  refine regI ?_
  refine seqI ?_
  refine seqI ?_
  refine regI ?_
  obtain ⟨v1, h1, h⟩ := bind_some h
  refine PFn.call (f5_ok h1) trivial ?_
  refine condI (v := (!v1)) rfl trivial (fun h2 => ?_) (fun h2 => ?_)
  · have h := ite_tt h2 h
    refine seqI ?_
    refine regI ?_
    refine retI ?_
    cases h
    exact And.intro trivial (And.intro rfl (Vw.same _ rfl))
  · have h := ite_ff h2 h
    refine skipI ?_
    refine seqI ?_
    refine quietI ?_
    obtain ⟨h3, h⟩ := ite_some h
    refine Exists.intro (.isl 3 ((a0.take (if 40 < ((a0.map e_QFileEvent).length : Int) then 40 else ((a0.map e_QFileEvent).length : Int)).toNat).map e_QFileEvent) false) (And.intro (sl_eq e_QFileEvent (slB e_QFileEvent a0 _) rfl) (And.intro (And.intro rfl (And.intro (Int.le_refl _) h3)) ?_))
    obtain ⟨h4, h⟩ := ite_some h
    refine Exists.intro (.isl 1 ((a2.take (if 10 < ((a2.map e_str).length : Int) then 10 else ((a2.map e_str).length : Int)).toNat).map e_str) false) (And.intro (sl_eq e_str (slB e_str a2 _) rfl) (And.intro (And.intro rfl (And.intro (Int.le_refl _) h4)) ?_))
    refine LWp.sim (e := [(0, .isl 3 ((a0.take (if 40 < ((a0.map e_QFileEvent).length : Int) then 40 else ((a0.map e_QFileEvent).length : Int)).toNat).map e_QFileEvent) false), (1, .int .i64 a1), (2, .isl 1 ((a2.take (if 10 < ((a2.map e_str).length : Int) then 10 else ((a2.map e_str).length : Int)).toNat).map e_str) false), (3, .int .i64 a3), (4, .int .i64 a4)]) (L := []) (n := 0) ?_ ?_
    · exact simI (M := []) rfl (And.intro (Vw.same _ rfl) (And.intro (Vw.same _ rfl) (And.intro (Vw.same _ rfl) (And.intro (Vw.same _ rfl) (And.intro (Vw.same _ rfl) trivial))))) trivial
    refine seqI ?_
    refine regI ?_
    obtain ⟨v2, h5, h⟩ := bind_some h
    refine PFn.call (f6_ok h5) (And.intro (Vw.same _ rfl) (And.intro (Vw.same _ rfl) trivial)) ?_
    refine LWp.sim (e := [(0, .isl 3 ((a0.take (if 40 < ((a0.map e_QFileEvent).length : Int) then 40 else ((a0.map e_QFileEvent).length : Int)).toNat).map e_QFileEvent) false), (1, .int .i64 a1), (2, .isl 1 ((a2.take (if 10 < ((a2.map e_str).length : Int) then 10 else ((a2.map e_str).length : Int)).toNat).map e_str) false), (3, .int .i64 a3), (4, .int .i64 a4), (11, .isl 2 (v2.1.map e_QFileBatch) false), (12, .int .i64 v2.2)]) (L := []) (n := 0) ?_ ?_
    · exact simI (M := []) rfl (And.intro (Vw.same _ rfl) (And.intro (Vw.same _ rfl) (And.intro (Vw.same _ rfl) (And.intro (Vw.same _ rfl) (And.intro (Vw.same _ rfl) (And.intro (Vw.same _ rfl) (And.intro (Vw.same _ rfl) trivial))))))) trivial
    refine seqI ?_
    refine regI ?_
    obtain ⟨v3, h6, h⟩ := bind_some h
    refine PFn.call (f7_ok h6) (And.intro (Vw.same _ rfl) (And.intro (Vw.same _ rfl) trivial)) ?_
    refine seqI ?_
    refine seqI ?_
    refine regI ?_
    refine And.intro (fun hp => hp) ?_
    show yops _ _ _ [(40, .cnd ((v2.2 != v3) == false) (.bool (v3 != 0))), (39, .cnd ((v2.2 != v3) == false) (.int .i64 v3)), (38, .bool (v2.2 != v3)), (37, .bool (v2.2 != v3)), (36, .int .i64 v3), (35, .int .i64 v2.2), (13, .int .i64 v3), (34, .int .i64 v3), (33, .int .i64 a1), (32, .isl 3 ((a0.take (if 40 < ((a0.map e_QFileEvent).length : Int) then 40 else ((a0.map e_QFileEvent).length : Int)).toNat).map e_QFileEvent) false), (0, .isl 3 ((a0.take (if 40 < ((a0.map e_QFileEvent).length : Int) then 40 else ((a0.map e_QFileEvent).length : Int)).toNat).map e_QFileEvent) false), (1, .int .i64 a1), (2, .isl 1 ((a2.take (if 10 < ((a2.map e_str).length : Int) then 10 else ((a2.map e_str).length : Int)).toNat).map e_str) false), (3, .int .i64 a3), (4, .int .i64 a4), (11, .isl 2 (v2.1.map e_QFileBatch) false), (12, .int .i64 v2.2)] _ _
    refine And.intro (fun hp => hp) ?_
    refine And.intro (fun hp => hp) ?_
    refine And.intro (fun hp => hp) ?_
    refine And.intro (fun hp => (And.intro hp (fun hc => (and_i hp (bqt hc))))) ?_
    show yops _ _ _ [(45, .cnd ((v2.2 != v3) == false) (.bool ((v3 != 0) && (decide (((v2.1.map e_QFileBatch).length : Int) > 0))))), (44, .cnd (((v2.2 != v3) == false) && ((v3 != 0) == true)) (.bool (decide (((v2.1.map e_QFileBatch).length : Int) > 0)))), (43, .cnd (((v2.2 != v3) == false) && ((v3 != 0) == true)) (.int .i64 ((v2.1.map e_QFileBatch).length : Int))), (42, .cnd (((v2.2 != v3) == false) && ((v3 != 0) == true)) (.isl 2 (v2.1.map e_QFileBatch) false)), (41, .cnd ((v2.2 != v3) == false) (.bool (v3 != 0))), (40, .cnd ((v2.2 != v3) == false) (.bool (v3 != 0))), (39, .cnd ((v2.2 != v3) == false) (.int .i64 v3)), (38, .bool (v2.2 != v3)), (37, .bool (v2.2 != v3)), (36, .int .i64 v3), (35, .int .i64 v2.2), (13, .int .i64 v3), (34, .int .i64 v3), (33, .int .i64 a1), (32, .isl 3 ((a0.take (if 40 < ((a0.map e_QFileEvent).length : Int) then 40 else ((a0.map e_QFileEvent).length : Int)).toNat).map e_QFileEvent) false), (0, .isl 3 ((a0.take (if 40 < ((a0.map e_QFileEvent).length : Int) then 40 else ((a0.map e_QFileEvent).length : Int)).toNat).map e_QFileEvent) false), (1, .int .i64 a1), (2, .isl 1 ((a2.take (if 10 < ((a2.map e_str).length : Int) then 10 else ((a2.map e_str).length : Int)).toNat).map e_str) false), (3, .int .i64 a3), (4, .int .i64 a4), (11, .isl 2 (v2.1.map e_QFileBatch) false), (12, .int .i64 v2.2)] _ _
    refine And.intro (fun hc => (bqf hc)) ?_
    refine And.intro (fun hp => hp) ?_
    refine And.intro (fun hp => hp) ?_
    show yops _ _ _ [(50, .cnd (((v2.2 != v3) || ((v3 != 0) && (decide (((v2.1.map e_QFileBatch).length : Int) > 0)))) == false) (.bool (v3 == 0))), (49, .cnd (((v2.2 != v3) || ((v3 != 0) && (decide (((v2.1.map e_QFileBatch).length : Int) > 0)))) == false) (.bool (v3 == 0))), (48, .cnd (((v2.2 != v3) || ((v3 != 0) && (decide (((v2.1.map e_QFileBatch).length : Int) > 0)))) == false) (.int .i64 v3)), (47, .bool ((v2.2 != v3) || ((v3 != 0) && (decide (((v2.1.map e_QFileBatch).length : Int) > 0))))), (46, .bool ((v2.2 != v3) || ((v3 != 0) && (decide (((v2.1.map e_QFileBatch).length : Int) > 0))))), (45, .cnd ((v2.2 != v3) == false) (.bool ((v3 != 0) && (decide (((v2.1.map e_QFileBatch).length : Int) > 0))))), (44, .cnd (((v2.2 != v3) == false) && ((v3 != 0) == true)) (.bool (decide (((v2.1.map e_QFileBatch).length : Int) > 0)))), (43, .cnd (((v2.2 != v3) == false) && ((v3 != 0) == true)) (.int .i64 ((v2.1.map e_QFileBatch).length : Int))), (42, .cnd (((v2.2 != v3) == false) && ((v3 != 0) == true)) (.isl 2 (v2.1.map e_QFileBatch) false)), (41, .cnd ((v2.2 != v3) == false) (.bool (v3 != 0))), (40, .cnd ((v2.2 != v3) == false) (.bool (v3 != 0))), (39, .cnd ((v2.2 != v3) == false) (.int .i64 v3)), (38, .bool (v2.2 != v3)), (37, .bool (v2.2 != v3)), (36, .int .i64 v3), (35, .int .i64 v2.2), (13, .int .i64 v3), (34, .int .i64 v3), (33, .int .i64 a1), (32, .isl 3 ((a0.take (if 40 < ((a0.map e_QFileEvent).length : Int) then 40 else ((a0.map e_QFileEvent).length : Int)).toNat).map e_QFileEvent) false), (0, .isl 3 ((a0.take (if 40 < ((a0.map e_QFileEvent).length : Int) then 40 else ((a0.map e_QFileEvent).length : Int)).toNat).map e_QFileEvent) false), (1, .int .i64 a1), (2, .isl 1 ((a2.take (if 10 < ((a2.map e_str).length : Int) then 10 else ((a2.map e_str).length : Int)).toNat).map e_str) false), (3, .int .i64 a3), (4, .int .i64 a4), (11, .isl 2 (v2.1.map e_QFileBatch) false), (12, .int .i64 v2.2)] _ _
    obtain ⟨v4, h7, h⟩ := bind_some h
    refine Or.inl (Exists.intro (.isl 2 (v4.map e_QFileBatch) false) (And.intro (fun hp => And.intro (And.intro hp hp) (PFn.call (f9_ok (ite_tt hp h7)) (And.intro (Vw.same _ rfl) (And.intro (Vw.same _ rfl) trivial)) (And.intro rfl (And.intro rfl rfl)))) ?_))
    obtain ⟨v5, h8, h⟩ := bind_some h
    refine Or.inl (Exists.intro (.bool v5) (And.intro (fun hp => And.intro (And.intro hp hp) (PFn.call (f8_ok (ite_tt hp h8)) (And.intro (Vw.same _ rfl) (And.intro (Vw.same _ rfl) trivial)) (And.intro rfl (And.intro rfl rfl)))) ?_))
    refine And.intro (fun hp => hp) ?_
    show yops _ _ _ [(56, .cnd ((((v2.2 != v3) || ((v3 != 0) && (decide (((v2.1.map e_QFileBatch).length : Int) > 0)))) == false) && ((v3 == 0) == true)) (.bool (!v5))), (55, .cnd ((((v2.2 != v3) || ((v3 != 0) && (decide (((v2.1.map e_QFileBatch).length : Int) > 0)))) == false) && ((v3 == 0) == true)) (.bool v5)), (54, .cnd ((((v2.2 != v3) || ((v3 != 0) && (decide (((v2.1.map e_QFileBatch).length : Int) > 0)))) == false) && ((v3 == 0) == true)) (.isl 2 (v4.map e_QFileBatch) false)), (53, .cnd ((((v2.2 != v3) || ((v3 != 0) && (decide (((v2.1.map e_QFileBatch).length : Int) > 0)))) == false) && ((v3 == 0) == true)) (.int .i64 a1)), (52, .cnd ((((v2.2 != v3) || ((v3 != 0) && (decide (((v2.1.map e_QFileBatch).length : Int) > 0)))) == false) && ((v3 == 0) == true)) (.isl 3 ((a0.take (if 40 < ((a0.map e_QFileEvent).length : Int) then 40 else ((a0.map e_QFileEvent).length : Int)).toNat).map e_QFileEvent) false)), (51, .cnd ((((v2.2 != v3) || ((v3 != 0) && (decide (((v2.1.map e_QFileBatch).length : Int) > 0)))) == false) && ((v3 == 0) == true)) (.isl 2 (v2.1.map e_QFileBatch) false)), (50, .cnd (((v2.2 != v3) || ((v3 != 0) && (decide (((v2.1.map e_QFileBatch).length : Int) > 0)))) == false) (.bool (v3 == 0))), (49, .cnd (((v2.2 != v3) || ((v3 != 0) && (decide (((v2.1.map e_QFileBatch).length : Int) > 0)))) == false) (.bool (v3 == 0))), (48, .cnd (((v2.2 != v3) || ((v3 != 0) && (decide (((v2.1.map e_QFileBatch).length : Int) > 0)))) == false) (.int .i64 v3)), (47, .bool ((v2.2 != v3) || ((v3 != 0) && (decide (((v2.1.map e_QFileBatch).length : Int) > 0))))), (46, .bool ((v2.2 != v3) || ((v3 != 0) && (decide (((v2.1.map e_QFileBatch).length : Int) > 0))))), (45, .cnd ((v2.2 != v3) == false) (.bool ((v3 != 0) && (decide (((v2.1.map e_QFileBatch).length : Int) > 0))))), (44, .cnd (((v2.2 != v3) == false) && ((v3 != 0) == true)) (.bool (decide (((v2.1.map e_QFileBatch).length : Int) > 0)))), (43, .cnd (((v2.2 != v3) == false) && ((v3 != 0) == true)) (.int .i64 ((v2.1.map e_QFileBatch).length : Int))), (42, .cnd (((v2.2 != v3) == false) && ((v3 != 0) == true)) (.isl 2 (v2.1.map e_QFileBatch) false)), (41, .cnd ((v2.2 != v3) == false) (.bool (v3 != 0))), (40, .cnd ((v2.2 != v3) == false) (.bool (v3 != 0))), (39, .cnd ((v2.2 != v3) == false) (.int .i64 v3)), (38, .bool (v2.2 != v3)), (37, .bool (v2.2 != v3)), (36, .int .i64 v3), (35, .int .i64 v2.2), (13, .int .i64 v3), (34, .int .i64 v3), (33, .int .i64 a1), (32, .isl 3 ((a0.take (if 40 < ((a0.map e_QFileEvent).length : Int) then 40 else ((a0.map e_QFileEvent).length : Int)).toNat).map e_QFileEvent) false), (0, .isl 3 ((a0.take (if 40 < ((a0.map e_QFileEvent).length : Int) then 40 else ((a0.map e_QFileEvent).length : Int)).toNat).map e_QFileEvent) false), (1, .int .i64 a1), (2, .isl 1 ((a2.take (if 10 < ((a2.map e_str).length : Int) then 10 else ((a2.map e_str).length : Int)).toNat).map e_str) false), (3, .int .i64 a3), (4, .int .i64 a4), (11, .isl 2 (v2.1.map e_QFileBatch) false), (12, .int .i64 v2.2)] _ _
    refine And.intro (fun hp => (And.intro hp (fun hc => (and_i hp (bqt hc))))) ?_
    refine And.intro (fun hc => (bqf hc)) ?_
    refine LWp.sim (e := [(0, .isl 3 ((a0.take (if 40 < ((a0.map e_QFileEvent).length : Int) then 40 else ((a0.map e_QFileEvent).length : Int)).toNat).map e_QFileEvent) false), (2, .isl 1 ((a2.take (if 10 < ((a2.map e_str).length : Int) then 10 else ((a2.map e_str).length : Int)).toNat).map e_str) false), (3, .int .i64 a3), (4, .int .i64 a4), (58, .bool (((v2.2 != v3) || ((v3 != 0) && (decide (((v2.1.map e_QFileBatch).length : Int) > 0)))) || ((v3 == 0) && (!v5))))]) (L := []) (n := 0) ?_ ?_
    · exact simI (M := []) rfl (And.intro (Vw.same _ rfl) (And.intro (Vw.same _ rfl) (And.intro (Vw.same _ rfl) (And.intro (Vw.same _ rfl) (And.intro (Vw.same _ rfl) trivial))))) trivial
    refine condI (v := (((v2.2 != v3) || ((v3 != 0) && (decide (((v2.1.map e_QFileBatch).length : Int) > 0)))) || ((v3 == 0) && (!v5)))) rfl trivial (fun h9 => ?_) (fun h9 => ?_)
    · have h := ite_tt h9 h
      refine seqI ?_
      refine regI ?_
      refine retI ?_
      cases h
      exact And.intro trivial (And.intro rfl (Vw.same _ rfl))
    · have h := ite_ff h9 h
      refine skipI ?_
      refine seqI ?_
      refine regI ?_
      obtain ⟨v6, h10, h⟩ := bind_some h
      refine PFn.call (f5_ok h10) trivial ?_
      obtain ⟨v7, h11, h⟩ := bind_some h
      refine Or.inl (Exists.intro (.int .i64 v7) (And.intro (fun hp => And.intro (And.intro hp hp) (PFn.call (f10_ok (ite_tt hp h11)) (And.intro (Vw.same _ rfl) (And.intro (Vw.same _ rfl) trivial)) (And.intro rfl (And.intro rfl rfl)))) ?_))
      obtain ⟨v8, h12, h⟩ := bind_some h
      refine Or.inl (Exists.intro (.int .i64 v8) (And.intro (fun hp => And.intro (And.intro hp hp) (PFn.call (f11_ok (ite_tt hp h12)) (And.intro (Vw.same _ rfl) (And.intro (Vw.same _ rfl) trivial)) (And.intro rfl (And.intro rfl rfl)))) ?_))
      refine And.intro (fun hp => (And.intro hp hp)) ?_
      show yops _ _ _ [(67, .cnd (v6 == true) (.bool (v7 == v8))), (66, .cnd (v6 == true) (.int .i64 v8)), (65, .cnd (v6 == true) (.int .i64 a4)), (64, .cnd (v6 == true) (.int .i64 a3)), (63, .cnd (v6 == true) (.int .i64 v7)), (62, .cnd (v6 == true) (.int .i64 a4)), (61, .cnd (v6 == true) (.int .i64 a3)), (60, .bool v6), (59, .bool v6), (0, .isl 3 ((a0.take (if 40 < ((a0.map e_QFileEvent).length : Int) then 40 else ((a0.map e_QFileEvent).length : Int)).toNat).map e_QFileEvent) false), (2, .isl 1 ((a2.take (if 10 < ((a2.map e_str).length : Int) then 10 else ((a2.map e_str).length : Int)).toNat).map e_str) false), (3, .int .i64 a3), (4, .int .i64 a4), (58, .bool (((v2.2 != v3) || ((v3 != 0) && (decide (((v2.1.map e_QFileBatch).length : Int) > 0)))) || ((v3 == 0) && (!v5))))] _ _
      refine And.intro (fun hc => (bqt hc)) ?_
      obtain ⟨v9, h13, h⟩ := bind_some h
      refine Or.inl (Exists.intro (.isl 1 (v9.map e_str) false) (And.intro (fun hp => And.intro (And.intro hp hp) (PFn.call (f13_ok (ite_tt hp h13)) (And.intro (Vw.same _ rfl) (And.intro (Vw.same _ rfl) trivial)) (And.intro rfl (And.intro rfl rfl)))) ?_))
      obtain ⟨v10, h14, h⟩ := bind_some h
      refine Or.inl (Exists.intro (.isl 1 (v10.map e_str) false) (And.intro (fun hp => And.intro (And.intro hp hp) (PFn.call (f14_ok (ite_tt hp h14)) (And.intro (Vw.same _ rfl) (And.intro (Vw.same _ rfl) trivial)) (And.intro rfl (And.intro rfl rfl)))) ?_))
      obtain ⟨v11, h15, h⟩ := bind_some h
      refine Or.inl (Exists.intro (.bool v11) (And.intro (fun hp => And.intro (And.intro hp hp) (PFn.call (f12_ok (ite_tt hp h15)) (And.intro (Vw.same _ rfl) (And.intro (Vw.same _ rfl) trivial)) (And.intro rfl (And.intro rfl rfl)))) ?_))
      refine And.intro (fun hc => (bqt hc)) ?_
      show yops _ _ _ [(77, .bool ((v6 && (v7 == v8)) && v11)), (76, .cnd ((v6 && (v7 == v8)) == true) (.bool v11)), (75, .cnd ((v6 && (v7 == v8)) == true) (.isl 1 (v10.map e_str) false)), (74, .cnd ((v6 && (v7 == v8)) == true) (.isl 3 ((a0.take (if 40 < ((a0.map e_QFileEvent).length : Int) then 40 else ((a0.map e_QFileEvent).length : Int)).toNat).map e_QFileEvent) false)), (73, .cnd ((v6 && (v7 == v8)) == true) (.isl 1 ((a2.take (if 10 < ((a2.map e_str).length : Int) then 10 else ((a2.map e_str).length : Int)).toNat).map e_str) false)), (72, .cnd ((v6 && (v7 == v8)) == true) (.isl 1 (v9.map e_str) false)), (71, .cnd ((v6 && (v7 == v8)) == true) (.isl 3 ((a0.take (if 40 < ((a0.map e_QFileEvent).length : Int) then 40 else ((a0.map e_QFileEvent).length : Int)).toNat).map e_QFileEvent) false)), (70, .cnd ((v6 && (v7 == v8)) == true) (.isl 1 ((a2.take (if 10 < ((a2.map e_str).length : Int) then 10 else ((a2.map e_str).length : Int)).toNat).map e_str) false)), (69, .bool (v6 && (v7 == v8))), (68, .bool (v6 && (v7 == v8))), (67, .cnd (v6 == true) (.bool (v7 == v8))), (66, .cnd (v6 == true) (.int .i64 v8)), (65, .cnd (v6 == true) (.int .i64 a4)), (64, .cnd (v6 == true) (.int .i64 a3)), (63, .cnd (v6 == true) (.int .i64 v7)), (62, .cnd (v6 == true) (.int .i64 a4)), (61, .cnd (v6 == true) (.int .i64 a3)), (60, .bool v6), (59, .bool v6), (0, .isl 3 ((a0.take (if 40 < ((a0.map e_QFileEvent).length : Int) then 40 else ((a0.map e_QFileEvent).length : Int)).toNat).map e_QFileEvent) false), (2, .isl 1 ((a2.take (if 10 < ((a2.map e_str).length : Int) then 10 else ((a2.map e_str).length : Int)).toNat).map e_str) false), (3, .int .i64 a3), (4, .int .i64 a4), (58, .bool (((v2.2 != v3) || ((v3 != 0) && (decide (((v2.1.map e_QFileBatch).length : Int) > 0)))) || ((v3 == 0) && (!v5))))] _ _
      obtain ⟨v12, h16, h⟩ := bind_some h
      refine Or.inl (Exists.intro (.bool v12) (And.intro (fun hp => And.intro (And.intro hp hp) (PFn.call (f15_ok (ite_tt hp h16)) (And.intro (Vw.same _ rfl) (And.intro (Vw.same _ rfl) trivial)) (And.intro rfl (And.intro rfl rfl)))) ?_))
      obtain ⟨v13, h17, h⟩ := bind_some h
      refine Or.inl (Exists.intro (.bool v13) (And.intro (fun hp => And.intro (And.intro hp hp) (PFn.call (f16_ok (ite_tt hp h17)) (And.intro (Vw.same _ rfl) (And.intro (Vw.same _ rfl) trivial)) (And.intro rfl (And.intro rfl rfl)))) ?_))
      refine And.intro (fun hp => (And.intro hp hp)) ?_
      show yops _ _ _ [(85, .cnd (((v6 && (v7 == v8)) && v11) == true) (.bool (v12 == v13))), (84, .cnd (((v6 && (v7 == v8)) && v11) == true) (.bool v13)), (83, .cnd (((v6 && (v7 == v8)) && v11) == true) (.isl 3 ((a0.take (if 40 < ((a0.map e_QFileEvent).length : Int) then 40 else ((a0.map e_QFileEvent).length : Int)).toNat).map e_QFileEvent) false)), (82, .cnd (((v6 && (v7 == v8)) && v11) == true) (.isl 1 ((a2.take (if 10 < ((a2.map e_str).length : Int) then 10 else ((a2.map e_str).length : Int)).toNat).map e_str) false)), (81, .cnd (((v6 && (v7 == v8)) && v11) == true) (.bool v12)), (80, .cnd (((v6 && (v7 == v8)) && v11) == true) (.isl 3 ((a0.take (if 40 < ((a0.map e_QFileEvent).length : Int) then 40 else ((a0.map e_QFileEvent).length : Int)).toNat).map e_QFileEvent) false)), (79, .cnd (((v6 && (v7 == v8)) && v11) == true) (.isl 1 ((a2.take (if 10 < ((a2.map e_str).length : Int) then 10 else ((a2.map e_str).length : Int)).toNat).map e_str) false)), (78, .bool ((v6 && (v7 == v8)) && v11)), (77, .bool ((v6 && (v7 == v8)) && v11)), (76, .cnd ((v6 && (v7 == v8)) == true) (.bool v11)), (75, .cnd ((v6 && (v7 == v8)) == true) (.isl 1 (v10.map e_str) false)), (74, .cnd ((v6 && (v7 == v8)) == true) (.isl 3 ((a0.take (if 40 < ((a0.map e_QFileEvent).length : Int) then 40 else ((a0.map e_QFileEvent).length : Int)).toNat).map e_QFileEvent) false)), (73, .cnd ((v6 && (v7 == v8)) == true) (.isl 1 ((a2.take (if 10 < ((a2.map e_str).length : Int) then 10 else ((a2.map e_str).length : Int)).toNat).map e_str) false)), (72, .cnd ((v6 && (v7 == v8)) == true) (.isl 1 (v9.map e_str) false)), (71, .cnd ((v6 && (v7 == v8)) == true) (.isl 3 ((a0.take (if 40 < ((a0.map e_QFileEvent).length : Int) then 40 else ((a0.map e_QFileEvent).length : Int)).toNat).map e_QFileEvent) false)), (70, .cnd ((v6 && (v7 == v8)) == true) (.isl 1 ((a2.take (if 10 < ((a2.map e_str).length : Int) then 10 else ((a2.map e_str).length : Int)).toNat).map e_str) false)), (69, .bool (v6 && (v7 == v8))), (68, .bool (v6 && (v7 == v8))), (67, .cnd (v6 == true) (.bool (v7 == v8))), (66, .cnd (v6 == true) (.int .i64 v8)), (65, .cnd (v6 == true) (.int .i64 a4)), (64, .cnd (v6 == true) (.int .i64 a3)), (63, .cnd (v6 == true) (.int .i64 v7)), (62, .cnd (v6 == true) (.int .i64 a4)), (61, .cnd (v6 == true) (.int .i64 a3)), (60, .bool v6), (59, .bool v6), (0, .isl 3 ((a0.take (if 40 < ((a0.map e_QFileEvent).length : Int) then 40 else ((a0.map e_QFileEvent).length : Int)).toNat).map e_QFileEvent) false), (2, .isl 1 ((a2.take (if 10 < ((a2.map e_str).length : Int) then 10 else ((a2.map e_str).length : Int)).toNat).map e_str) false), (3, .int .i64 a3), (4, .int .i64 a4), (58, .bool (((v2.2 != v3) || ((v3 != 0) && (decide (((v2.1.map e_QFileBatch).length : Int) > 0)))) || ((v3 == 0) && (!v5))))] _ _
      refine And.intro (fun hc => (bqt hc)) ?_
      refine LWp.sim (e := [(10, .bool (((v6 && (v7 == v8)) && v11) && (v12 == v13)))]) (L := []) (n := 0) ?_ ?_
      · exact simI (M := []) rfl (And.intro (Vw.same _ rfl) trivial) trivial
      refine retI ?_
      cases h
      exact And.intro trivial (And.intro rfl (Vw.same _ rfl))

theorem f3_ok {a0 : List G_QFileEvent} {a1 : Int} {a2 : List (List UInt8)} {a3 : Int} {a4 : Int} {m : Option Nat} {o : Bool} (h : S_glossatorlaw3_FilewatchBatches m a0 a1 a2 a3 a4 = some o) : PFn Try.prog 3 [.isl 3 (a0.map e_QFileEvent) false, .int .i64 a1, .isl 1 (a2.map e_str) false, .int .i64 a3, .int .i64 a4] (.bool o) := PFn.ofFnW (L := f3_L) f3_low f3_fok (Nat.le_of_ble_eq_true rfl) rfl (f3_start h)
end Go.Proofs.Ytdkcjibedbjgjaa
