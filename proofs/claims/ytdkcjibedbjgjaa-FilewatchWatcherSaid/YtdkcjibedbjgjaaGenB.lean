/-
  Own text GenB of this claim: what functions of the given program compute, in plain Lean, and the proof; no condition.
-/
import Derived.Test.YtdkcjibedbjgjaaGenA
namespace Go.Proofs.Ytdkcjibedbjgjaa
open Go.Fx
set_option linter.unusedVariables false
def f19b0_c4 : LCode := (.region [⟨some 85, .bin .add (.t 68) (.c (.int .i64 1)), none⟩,
   ⟨some 68, .mv (.t 85), none⟩])
def f19b0_c2 : LCode := (.seq (.region [⟨some 69, .bin .lss (.t 68) (.t 67), none⟩])
 (.seq (.cond (.t 69)
  .skip
  (.exit 2))
 (.seq (.block 3
  (.seq (.region [⟨some 70, .iaddr 3 (.t 66) (.t 68), none⟩,
    ⟨some 71, .load true 3 (.t 70), none⟩,
    ⟨some 13, .alloc [(.int .i64 0), (.str []), (.int .i64 0)], none⟩,
    ⟨none, .store 3 (.t 13) (.t 71), none⟩])
  (.seq (.region [⟨some 72, .faddr 1 (.t 13), none⟩,
    ⟨some 73, .load false 1 (.t 72), none⟩,
    ⟨some 74, .mv (.t 10), none⟩,
    ⟨some 75, .bin .eql (.t 73) (.t 74), none⟩])
  (.cond (.t 75)
   (.draw [⟨⟨some 76, .faddr 2 (.t 11), none⟩, []⟩,
     ⟨⟨some 77, .load false 1 (.t 76), none⟩, []⟩,
     ⟨⟨some 78, .faddr 2 (.t 13), none⟩, []⟩,
     ⟨⟨some 79, .load false 1 (.t 78), none⟩, []⟩,
     ⟨⟨some 81, .faddr 0 (.t 13), none⟩, []⟩,
     ⟨⟨some 82, .load false 1 (.t 81), none⟩, []⟩,
     ⟨⟨some 80, .call 11 [(.t 77), (.t 79)], none⟩, [5]⟩,
     ⟨⟨some 83, .faddr 2 (.t 11), none⟩, []⟩,
     ⟨⟨none, .store 1 (.t 83) (.t 80), none⟩, [5]⟩,
     ⟨⟨some 84, .faddr 0 (.t 11), none⟩, []⟩,
     ⟨⟨none, .store 1 (.t 84) (.t 82), none⟩, []⟩])
   .skip))))
 f19b0_c4)))
def f19b0_c0 : LCode := (.seq (.region [⟨some 86, .faddr 2 (.t 11), none⟩,
   ⟨some 87, .load false 1 (.t 86), none⟩,
   ⟨some 88, .bin .neq (.t 87) (.c (.int .i64 0)), none⟩])
 (.cond (.t 88)
  (.region [⟨some 89, .faddr 1 (.t 8), none⟩,
    ⟨some 90, .load false 1 (.t 89), none⟩,
    ⟨some 91, .load true 3 (.t 11), none⟩,
    ⟨some 92, .mkSl true 3 [(.int .i64 0), (.str []), (.int .i64 0)] 1 [(0, (.t 91))], none⟩,
    ⟨some 93, .app true 3 32 (.t 90) (.t 92), none⟩,
    ⟨some 94, .faddr 1 (.t 8), none⟩,
    ⟨none, .store 1 (.t 94) (.t 93), none⟩])
  .skip))
def f19b0_c1 : LCode := (.region [⟨some 95, .bin .add (.t 60) (.c (.int .i64 1)), none⟩,
   ⟨some 60, .mv (.t 95), none⟩])
def f19b0_c5 : LCode := (.seq (.region [⟨some 61, .bin .lss (.t 60) (.t 59), none⟩])
 (.seq (.cond (.t 61)
  .skip
  (.exit 0))
 (.seq (.block 1
  (.seq (.region [⟨some 62, .iaddr 1 (.t 58) (.t 60), none⟩,
    ⟨some 63, .load false 1 (.t 62), none⟩,
    ⟨some 10, .mv (.t 63), none⟩])
  (.seq (.region [⟨some 64, .mv (.t 10), none⟩,
    ⟨some 65, .build [(.int .i64 0), (.str []), (.int .i64 0)] [(1, 1, (.t 64))], none⟩,
    ⟨some 11, .alloc [(.int .i64 0), (.str []), (.int .i64 0)], none⟩,
    ⟨none, .store 3 (.t 11) (.t 65), none⟩])
  (.seq (.seq (.region [⟨some 66, .mv (.t 7), none⟩,
    ⟨some 67, .len false (.t 66), none⟩,
    ⟨some 68, .mv (.c (.int .i64 0)), none⟩])
  (.block 2
   (.loop
    f19b0_c2)))
  f19b0_c0))))
 f19b0_c1)))
def f19b0_c3 : LCode := (.seq (.seq (.region [⟨some 96, .faddr 1 (.t 8), none⟩,
   ⟨some 97, .load false 1 (.t 96), none⟩,
   ⟨some 98, .len false (.t 97), none⟩,
   ⟨some 99, .bin .eql (.t 98) (.c (.int .i64 0)), none⟩])
 (.cond (.t 99)
  (.seq (.region [⟨some 100, .build [(.int .i64 0), (.isl 3 [] true)] [], none⟩,
    ⟨none, .store 2 (.t 4) (.t 100), none⟩,
    ⟨some 5, .mv (.c (.bool false)), none⟩])
  .ret)
  .skip))
 (.seq (.region [⟨some 101, .load true 2 (.t 8), none⟩,
   ⟨none, .store 2 (.t 4) (.t 101), none⟩,
   ⟨some 5, .mv (.c (.bool true)), none⟩])
 .ret))
def f19b0_c6 : LCode := (.seq (.region [⟨some 4, .alloc [(.int .i64 0), (.isl 3 [] true)], none⟩,
   ⟨some 5, .mv (.c (.bool false)), none⟩])
 (.seq (.seq (.region [⟨some 14, .mv (.t 1), none⟩,
   ⟨some 15, .mv (.t 0), none⟩,
   ⟨some 16, .nilck (.t 15), none⟩,
   ⟨some 17, .faddr 1 (.t 16), none⟩,
   ⟨some 18, .load false 1 (.t 17), none⟩,
   ⟨some 19, .bin .lss (.t 14) (.t 18), none⟩])
 (.cond (.t 19)
  (.seq (.region [⟨some 20, .build [(.int .i64 0), (.isl 3 [] true)] [], none⟩,
    ⟨none, .store 2 (.t 4) (.t 20), none⟩,
    ⟨some 5, .mv (.c (.bool false)), none⟩])
  .ret)
  .skip))
 (.seq (.region [⟨some 21, .mv (.t 0), none⟩,
   ⟨some 22, .mv (.t 1), none⟩,
   ⟨some 23, .nilck (.t 21), none⟩,
   ⟨some 24, .faddr 1 (.t 23), none⟩,
   ⟨none, .store 1 (.t 24) (.t 22), none⟩])
 (.seq (.seq (.region [⟨some 25, .mv (.t 0), none⟩,
   ⟨some 26, .mv (.t 1), none⟩,
   ⟨some 27, .call 33 [(.t 25), (.t 26)], none⟩,
   ⟨some 28, .un .not (.t 27), none⟩])
 (.cond (.t 28)
  (.seq (.region [⟨some 29, .build [(.int .i64 0), (.isl 3 [] true)] [], none⟩,
    ⟨none, .store 2 (.t 4) (.t 29), none⟩,
    ⟨some 5, .mv (.c (.bool false)), none⟩])
  .ret)
  .skip))
 (.seq (.quiet [⟨some 30, .mv (.t 0), none⟩,
   ⟨some 31, .nilck (.t 30), none⟩,
   ⟨some 32, .faddr 2 (.t 31), none⟩,
   ⟨some 33, .load false 1 (.t 32), none⟩,
   ⟨some 34, .mv (.t 0), none⟩,
   ⟨some 35, .nilck (.t 34), none⟩,
   ⟨some 36, .faddr 2 (.t 35), none⟩,
   ⟨some 37, .load false 1 (.t 36), none⟩,
   ⟨some 38, .len false (.t 37), none⟩,
   ⟨some 39, .bin .sub (.t 38) (.c (.int .i64 1)), none⟩,
   ⟨some 40, .iaddr 3 (.t 33) (.t 39), none⟩,
   ⟨some 41, .faddr 0 (.t 40), none⟩,
   ⟨some 42, .load false 1 (.t 41), none⟩,
   ⟨some 6, .mv (.t 42), none⟩])
 (.seq (.region [⟨some 43, .mv (.t 0), none⟩,
   ⟨some 44, .nilck (.t 43), none⟩,
   ⟨some 45, .faddr 2 (.t 44), none⟩,
   ⟨some 46, .load false 1 (.t 45), none⟩,
   ⟨some 7, .mv (.t 46), none⟩])
 (.seq (.region [⟨some 47, .mv (.t 0), none⟩,
   ⟨some 48, .nilck (.t 47), none⟩,
   ⟨some 49, .faddr 2 (.t 48), none⟩,
   ⟨none, .store 1 (.t 49) (.c (.val (.slice none 0 0))), none⟩])
 (.seq (.region [⟨some 50, .mv (.t 6), none⟩,
   ⟨some 51, .mv (.t 0), none⟩,
   ⟨some 52, .nilck (.t 51), none⟩,
   ⟨some 53, .faddr 0 (.t 52), none⟩,
   ⟨some 54, .load false 1 (.t 53), none⟩,
   ⟨some 55, .bin .add (.t 50) (.t 54), none⟩,
   ⟨some 56, .build [(.int .i64 0), (.isl 3 [] true)] [(0, 1, (.t 55))], none⟩,
   ⟨some 8, .alloc [(.int .i64 0), (.isl 3 [] true)], none⟩,
   ⟨none, .store 2 (.t 8) (.t 56), none⟩])
 (.seq (.seq (.region [⟨some 57, .mv (.t 7), none⟩,
   ⟨some 58, .call 25 [(.t 57)], none⟩,
   ⟨some 59, .len false (.t 58), none⟩,
   ⟨some 60, .mv (.c (.int .i64 0)), none⟩])
 (.block 0
  (.loop
   f19b0_c5)))
 f19b0_c3)))))))))
def f19b0_lay : Lay := ⟨102, [], false⟩
def f19b0_res : List LRes := [.cell 4 true 2, .t 5]
def f19b0_L : LFn := ⟨2, f19b0_lay, f19b0_c6, f19b0_res⟩
theorem f19b0_low : lowFn Try.prog [] 19 = some f19b0_L := by kernel_rfl
theorem f19b0_fok : FnOk Try.prog 19 := ⟨_, Try.func19, rfl, rfl⟩
def f19b0_Q (a0 : Int) (a1 : Int) (a2 : Int) (a3 : List G_QFileEvent) (o : G_QFileBatch × Bool × Int × (List G_QFileEvent)) : Exit → Env → AHeap → Nat → Prop := FinK f19b0_res (FinTo 3 4 (.tup [.agg [.int .i64 o.1.f_Time, .isl 3 (o.1.f_Events.map e_QFileEvent) false], .bool o.2.1]) [((0, 0), .one [.int .i64 a1, .int .i64 o.2.2.1, .osl (3, 0) 3 (o.2.2.2.map e_QFileEvent)]), ((3, 0), .tok)])

def f19b0_L3_env (a0 : Int) (a1 : Int) (a3 : List G_QFileEvent) (v2 : (List (List UInt8))) (s : (Int × (List G_QFileEvent))) : Env := [(4, .ptr (3, 0) 0 0), (7, .osl (4, 0) 3 (a3.map e_QFileEvent)), (8, .ptr (5, 0) 0 0), (58, .isl 1 (v2.map e_str) false), (59, .int .i64 ((v2.map e_str).length : Int)), (60, .int .i64 s.1)]
def f19b0_L3_hp (a0 : Int) (a1 : Int) (a3 : List G_QFileEvent) (v2 : (List (List UInt8))) (s : (Int × (List G_QFileEvent))) : AHeap := [((0, 0), .one [.int .i64 a1, .int .i64 a0, .val (.slice none 0 0)]), ((3, 0), .one [.int .i64 0, .osl (6, 0) 3 (([] : List G_QFileEvent).map e_QFileEvent)]), ((4, 0), .tok), ((5, 0), .one [.int .i64 (W ((a3.getD ((W (((a3.map e_QFileEvent).length : Int) - 1)).toNat) default).f_Time + a1)), .osl (7, 0) 3 (s.2.map e_QFileEvent)]), ((6, 0), .tok), ((7, 0), .tok)]
def f19b0_L3_Q (a0 : Int) (a1 : Int) (a2 : Int) (a3 : List G_QFileEvent) (o : (G_QFileBatch × Bool × Int × (List G_QFileEvent))) : Exit → Env → AHeap → Nat → Prop := (QBlock 0 (QSeq Try.prog f19b0_lay 3 f19b0_c3 (f19b0_Q a0 a1 a2 a3 o)))

def f19b0_L4_env (a0 : Int) (a1 : Int) (a3 : List G_QFileEvent) (v2 : (List (List UInt8))) (v16 : Int) (v17 : List G_QFileEvent) (s : (Int × Int × Int)) : Env := [(4, .ptr (3, 0) 0 0), (7, .osl (4, 0) 3 (a3.map e_QFileEvent)), (8, .ptr (5, 0) 0 0), (10, .str (v2.getD v16.toNat default)), (11, .ptr (6, 0) 0 0), (58, .isl 1 (v2.map e_str) false), (59, .int .i64 ((v2.map e_str).length : Int)), (60, .int .i64 v16), (66, .osl (4, 0) 3 (a3.map e_QFileEvent)), (67, .int .i64 ((a3.map e_QFileEvent).length : Int)), (68, .int .i64 s.1)]
def f19b0_L4_hp (a0 : Int) (a1 : Int) (a3 : List G_QFileEvent) (v2 : (List (List UInt8))) (v16 : Int) (v17 : List G_QFileEvent) (s : (Int × Int × Int)) : AHeap := [((0, 0), .one [.int .i64 a1, .int .i64 a0, .val (.slice none 0 0)]), ((3, 0), .one [.int .i64 0, .osl (7, 0) 3 (([] : List G_QFileEvent).map e_QFileEvent)]), ((4, 0), .tok), ((5, 0), .one [.int .i64 (W ((a3.getD ((W (((a3.map e_QFileEvent).length : Int) - 1)).toNat) default).f_Time + a1)), .osl (8, 0) 3 (v17.map e_QFileEvent)]), ((6, 0), .one [.int .i64 s.2.1, .str (v2.getD v16.toNat default), .int .i64 s.2.2]), ((7, 0), .tok), ((8, 0), .tok)]
def f19b0_L4_Q (a0 : Int) (a1 : Int) (a2 : Int) (a3 : List G_QFileEvent) (v2 : (List (List UInt8))) (o : ((Int × (List G_QFileEvent)) ⊕ (G_QFileBatch × Bool × Int × (List G_QFileEvent)))) : Exit → Env → AHeap → Nat → Prop := (QBlock 2 (QSeq Try.prog f19b0_lay 3 f19b0_c0 (QBlock 1 (QSeq Try.prog f19b0_lay 3 f19b0_c1 (BodyQ 3 8 (f19b0_L3_env a0 a1 a3 v2) (f19b0_L3_hp a0 a1 a3 v2) (f19b0_L3_Q a0 a1 a2 a3) o)))))

noncomputable def S_glossatorref3_Watcher_Poll_j13 (m : Option Nat) (a0 : Int) (a1 : Int) (a3 : List G_QFileEvent) (v2 : (List (List UInt8))) (v16 : Int) (v17 : List G_QFileEvent) (v34 : Int) (v41 : Int) (v42 : Int) : Option ((Int × Int × Int) ⊕ ((Int × (List G_QFileEvent)) ⊕ (G_QFileBatch × Bool × Int × (List G_QFileEvent)))) :=
  some (.inl ((W (v34 + 1)), v41, v42))

theorem f19b0_j13_ok {a2 : Int} {a0 : Int} {a1 : Int} {a3 : List G_QFileEvent} {v2 : (List (List UInt8))} {v16 : Int} {v17 : List G_QFileEvent} {v34 : Int} {v41 : Int} {v42 : Int} {m : Option Nat} {o : ((Int × Int × Int) ⊕ ((Int × (List G_QFileEvent)) ⊕ (G_QFileBatch × Bool × Int × (List G_QFileEvent))))} (h : S_glossatorref3_Watcher_Poll_j13 m a0 a1 a3 v2 v16 v17 v34 v41 v42 = some o) :
    LWp Try.prog f19b0_lay 3 f19b0_c4 (BodyQ 3 9 (f19b0_L4_env a0 a1 a3 v2 v16 v17) (f19b0_L4_hp a0 a1 a3 v2 v16 v17) (f19b0_L4_Q a0 a1 a2 a3 v2) o) [(4, .ptr (3, 0) 0 0), (7, .osl (4, 0) 3 (a3.map e_QFileEvent)), (8, .ptr (5, 0) 0 0), (10, .str (v2.getD v16.toNat default)), (11, .ptr (6, 0) 0 0), (58, .isl 1 (v2.map e_str) false), (59, .int .i64 ((v2.map e_str).length : Int)), (60, .int .i64 v16), (66, .osl (4, 0) 3 (a3.map e_QFileEvent)), (67, .int .i64 ((a3.map e_QFileEvent).length : Int)), (68, .int .i64 v34)] [((0, 0), .one [.int .i64 a1, .int .i64 a0, .val (.slice none 0 0)]), ((3, 0), .one [.int .i64 0, .osl (7, 0) 3 (([] : List G_QFileEvent).map e_QFileEvent)]), ((4, 0), .tok), ((5, 0), .one [.int .i64 (W ((a3.getD ((W (((a3.map e_QFileEvent).length : Int) - 1)).toNat) default).f_Time + a1)), .osl (8, 0) 3 (v17.map e_QFileEvent)]), ((6, 0), .one [.int .i64 v41, .str (v2.getD v16.toNat default), .int .i64 v42]), ((7, 0), .tok), ((8, 0), .tok)] 9 := by
  unfold S_glossatorref3_Watcher_Poll_j13 at h
  refine regI ?_
  cases h
  exact And.intro rfl (simI (M := [((3, 0), (3, 0)), ((4, 0), (4, 0)), ((5, 0), (5, 0)), ((6, 0), (6, 0)), ((7, 0), (7, 0)), ((8, 0), (8, 0))]) rfl (And.intro (Vw.ptr _ _ _ _ rfl) (And.intro (Vw.osl _ _ _ _ rfl) (And.intro (Vw.ptr _ _ _ _ rfl) (And.intro (Vw.same _ rfl) (And.intro (Vw.ptr _ _ _ _ rfl) (And.intro (Vw.same _ rfl) (And.intro (Vw.same _ rfl) (And.intro (Vw.same _ rfl) (And.intro (Vw.osl _ _ _ _ rfl) (And.intro (Vw.same _ rfl) (And.intro (Vw.same _ rfl) trivial))))))))))) (And.intro (And.intro rfl (BVw.oneL (And.intro (Vw.same _ rfl) (And.intro (Vw.same _ rfl) (And.intro (Vw.same _ rfl) trivial))))) (And.intro (And.intro rfl (BVw.oneL (And.intro (Vw.same _ rfl) (And.intro (Vw.osl _ _ _ _ rfl) trivial)))) (And.intro (And.intro rfl BVw.tok) (And.intro (And.intro rfl (BVw.oneL (And.intro (Vw.same _ rfl) (And.intro (Vw.osl _ _ _ _ rfl) trivial)))) (And.intro (And.intro rfl (BVw.oneL (And.intro (Vw.same _ rfl) (And.intro (Vw.same _ rfl) (And.intro (Vw.same _ rfl) trivial))))) (And.intro (And.intro rfl BVw.tok) (And.intro (And.intro rfl BVw.tok) trivial))))))))

noncomputable def S_glossatorref3_Watcher_Poll_j15 (m : Option Nat) (a0 : Int) (a1 : Int) (a3 : List G_QFileEvent) (v2 : (List (List UInt8))) (v16 : Int) (v43 : List G_QFileEvent) : Option ((Int × (List G_QFileEvent)) ⊕ (G_QFileBatch × Bool × Int × (List G_QFileEvent))) :=
  some (.inl ((W (v16 + 1)), v43))

noncomputable def S_glossatorref3_Watcher_Poll_j14 (m : Option Nat) (a0 : Int) (a1 : Int) (a3 : List G_QFileEvent) (v2 : (List (List UInt8))) (v16 : Int) (v17 : List G_QFileEvent) (v35 : Int) (v36 : Int) : Option ((Int × (List G_QFileEvent)) ⊕ (G_QFileBatch × Bool × Int × (List G_QFileEvent))) :=
  if (v36 != 0) = true then
    if ((v17 ++ ([(G_QFileEvent.mk v35 (v2.getD v16.toNat default) v36)] : List G_QFileEvent)).map e_QFileEvent).length * 32 ≤ 140737488355328 then
    S_glossatorref3_Watcher_Poll_j15 m a0 a1 a3 v2 v16 (v17 ++ ([(G_QFileEvent.mk v35 (v2.getD v16.toNat default) v36)] : List G_QFileEvent))
    else none
  else
    S_glossatorref3_Watcher_Poll_j15 m a0 a1 a3 v2 v16 v17

noncomputable def S_glossatorref3_Watcher_Poll_b4 (m : Option Nat) (a0 : Int) (a1 : Int) (a3 : List G_QFileEvent) (v2 : (List (List UInt8))) (v16 : Int) (v17 : List G_QFileEvent) (v34 : Int) (v35 : Int) (v36 : Int) : Option ((Int × Int × Int) ⊕ ((Int × (List G_QFileEvent)) ⊕ (G_QFileBatch × Bool × Int × (List G_QFileEvent)))) :=
  if (decide (v34 < ((a3.map e_QFileEvent).length : Int))) = true then
    if (0 : Int) ≤ v34 ∧ v34 < ((a3.map e_QFileEvent).length : Int) then
    if ((a3.getD v34.toNat default).f_Path == (v2.getD v16.toNat default)) = true then
      (S_glossatorref3_Merge m v36 ((a3.getD v34.toNat default).f_Kind)).bind fun v40 =>
      S_glossatorref3_Watcher_Poll_j13 m a0 a1 a3 v2 v16 v17 v34 ((a3.getD v34.toNat default).f_Time) v40
    else
      S_glossatorref3_Watcher_Poll_j13 m a0 a1 a3 v2 v16 v17 v34 v35 v36
    else none
  else
    Option.map Sum.inr (
      S_glossatorref3_Watcher_Poll_j14 m a0 a1 a3 v2 v16 v17 v35 v36)

noncomputable def S_glossatorref3_Watcher_Poll_l4 (m : Option Nat) (a0 : Int) (a1 : Int) (a3 : List G_QFileEvent) (v2 : (List (List UInt8))) (v16 : Int) (v17 : List G_QFileEvent) (v34 : Int) (v35 : Int) (v36 : Int) : Option ((Int × (List G_QFileEvent)) ⊕ (G_QFileBatch × Bool × Int × (List G_QFileEvent))) := loopM m (fun (s : (Int × Int × Int)) => S_glossatorref3_Watcher_Poll_b4 m a0 a1 a3 v2 v16 v17 s.1 s.2.1 s.2.2) (v34, v35, v36)

theorem f19b0_j15_ok {a2 : Int} {a0 : Int} {a1 : Int} {a3 : List G_QFileEvent} {v2 : (List (List UInt8))} {v16 : Int} {v43 : List G_QFileEvent} {m : Option Nat} {o : ((Int × (List G_QFileEvent)) ⊕ (G_QFileBatch × Bool × Int × (List G_QFileEvent)))} (h : S_glossatorref3_Watcher_Poll_j15 m a0 a1 a3 v2 v16 v43 = some o) :
    LWp Try.prog f19b0_lay 3 f19b0_c1 (BodyQ 3 8 (f19b0_L3_env a0 a1 a3 v2) (f19b0_L3_hp a0 a1 a3 v2) (f19b0_L3_Q a0 a1 a2 a3) o) [(4, .ptr (3, 0) 0 0), (7, .osl (4, 0) 3 (a3.map e_QFileEvent)), (8, .ptr (5, 0) 0 0), (58, .isl 1 (v2.map e_str) false), (59, .int .i64 ((v2.map e_str).length : Int)), (60, .int .i64 v16)] [((0, 0), .one [.int .i64 a1, .int .i64 a0, .val (.slice none 0 0)]), ((3, 0), .one [.int .i64 0, .osl (6, 0) 3 (([] : List G_QFileEvent).map e_QFileEvent)]), ((4, 0), .tok), ((5, 0), .one [.int .i64 (W ((a3.getD ((W (((a3.map e_QFileEvent).length : Int) - 1)).toNat) default).f_Time + a1)), .osl (7, 0) 3 (v43.map e_QFileEvent)]), ((6, 0), .tok), ((7, 0), .tok)] 8 := by
  unfold S_glossatorref3_Watcher_Poll_j15 at h
  refine regI ?_
  cases h
  exact And.intro rfl (simI (M := [((3, 0), (3, 0)), ((4, 0), (4, 0)), ((5, 0), (5, 0)), ((6, 0), (6, 0)), ((7, 0), (7, 0))]) rfl (And.intro (Vw.ptr _ _ _ _ rfl) (And.intro (Vw.osl _ _ _ _ rfl) (And.intro (Vw.ptr _ _ _ _ rfl) (And.intro (Vw.same _ rfl) (And.intro (Vw.same _ rfl) (And.intro (Vw.same _ rfl) trivial)))))) (And.intro (And.intro rfl (BVw.oneL (And.intro (Vw.same _ rfl) (And.intro (Vw.same _ rfl) (And.intro (Vw.same _ rfl) trivial))))) (And.intro (And.intro rfl (BVw.oneL (And.intro (Vw.same _ rfl) (And.intro (Vw.osl _ _ _ _ rfl) trivial)))) (And.intro (And.intro rfl BVw.tok) (And.intro (And.intro rfl (BVw.oneL (And.intro (Vw.same _ rfl) (And.intro (Vw.osl _ _ _ _ rfl) trivial)))) (And.intro (And.intro rfl BVw.tok) (And.intro (And.intro rfl BVw.tok) trivial)))))))

theorem f19b0_j14_ok {a2 : Int} {a0 : Int} {a1 : Int} {a3 : List G_QFileEvent} {v2 : (List (List UInt8))} {v16 : Int} {v17 : List G_QFileEvent} {v35 : Int} {v36 : Int} {m : Option Nat} {o : ((Int × (List G_QFileEvent)) ⊕ (G_QFileBatch × Bool × Int × (List G_QFileEvent)))} (h : S_glossatorref3_Watcher_Poll_j14 m a0 a1 a3 v2 v16 v17 v35 v36 = some o) :
    LWp Try.prog f19b0_lay 3 f19b0_c0 (QBlock 1 (QSeq Try.prog f19b0_lay 3 f19b0_c1 (BodyQ 3 8 (f19b0_L3_env a0 a1 a3 v2) (f19b0_L3_hp a0 a1 a3 v2) (f19b0_L3_Q a0 a1 a2 a3) o))) [(4, .ptr (3, 0) 0 0), (7, .osl (4, 0) 3 (a3.map e_QFileEvent)), (8, .ptr (5, 0) 0 0), (11, .ptr (6, 0) 0 0), (58, .isl 1 (v2.map e_str) false), (59, .int .i64 ((v2.map e_str).length : Int)), (60, .int .i64 v16)] [((0, 0), .one [.int .i64 a1, .int .i64 a0, .val (.slice none 0 0)]), ((3, 0), .one [.int .i64 0, .osl (7, 0) 3 (([] : List G_QFileEvent).map e_QFileEvent)]), ((4, 0), .tok), ((5, 0), .one [.int .i64 (W ((a3.getD ((W (((a3.map e_QFileEvent).length : Int) - 1)).toNat) default).f_Time + a1)), .osl (8, 0) 3 (v17.map e_QFileEvent)]), ((6, 0), .one [.int .i64 v35, .str (v2.getD v16.toNat default), .int .i64 v36]), ((7, 0), .tok), ((8, 0), .tok)] 9 := by
  unfold S_glossatorref3_Watcher_Poll_j14 at h
  refine seqI ?_
  refine regI ?_
  refine condI (v := (v36 != 0)) rfl trivial (fun h52 => ?_) (fun h52 => ?_)
  · have h := ite_tt h52 h
    refine regI ?_
    obtain ⟨h53, h⟩ := ite_some h
    refine Exists.intro ((v17 ++ ([(G_QFileEvent.mk v35 (v2.getD v16.toNat default) v36)] : List G_QFileEvent)).map e_QFileEvent) (And.intro (app_enc e_QFileEvent v17 ([(G_QFileEvent.mk v35 (v2.getD v16.toNat default) v36)] : List G_QFileEvent)) (And.intro h53 ?_))
    refine LWp.sim ?_ (f19b0_j15_ok h)
    exact simI (M := [((3, 0), (3, 0)), ((4, 0), (4, 0)), ((5, 0), (5, 0)), ((6, 0), (7, 0)), ((7, 0), (9, 0))]) rfl (And.intro (Vw.ptr _ _ _ _ rfl) (And.intro (Vw.osl _ _ _ _ rfl) (And.intro (Vw.ptr _ _ _ _ rfl) (And.intro (Vw.same _ rfl) (And.intro (Vw.same _ rfl) (And.intro (Vw.same _ rfl) trivial)))))) (And.intro (And.intro rfl (BVw.oneL (And.intro (Vw.same _ rfl) (And.intro (Vw.same _ rfl) (And.intro (Vw.same _ rfl) trivial))))) (And.intro (And.intro rfl (BVw.oneL (And.intro (Vw.same _ rfl) (And.intro (Vw.osl _ _ _ _ rfl) trivial)))) (And.intro (And.intro rfl BVw.tok) (And.intro (And.intro rfl (BVw.oneL (And.intro (Vw.same _ rfl) (And.intro (Vw.osl _ _ _ _ rfl) trivial)))) (And.intro (And.intro rfl BVw.tok) (And.intro (And.intro rfl BVw.tok) trivial))))))
  · have h := ite_ff h52 h
    refine skipI ?_
    refine LWp.sim ?_ (f19b0_j15_ok h)
    exact simI (M := [((3, 0), (3, 0)), ((4, 0), (4, 0)), ((5, 0), (5, 0)), ((6, 0), (7, 0)), ((7, 0), (8, 0))]) rfl (And.intro (Vw.ptr _ _ _ _ rfl) (And.intro (Vw.osl _ _ _ _ rfl) (And.intro (Vw.ptr _ _ _ _ rfl) (And.intro (Vw.same _ rfl) (And.intro (Vw.same _ rfl) (And.intro (Vw.same _ rfl) trivial)))))) (And.intro (And.intro rfl (BVw.oneL (And.intro (Vw.same _ rfl) (And.intro (Vw.same _ rfl) (And.intro (Vw.same _ rfl) trivial))))) (And.intro (And.intro rfl (BVw.oneL (And.intro (Vw.same _ rfl) (And.intro (Vw.osl _ _ _ _ rfl) trivial)))) (And.intro (And.intro rfl BVw.tok) (And.intro (And.intro rfl (BVw.oneL (And.intro (Vw.same _ rfl) (And.intro (Vw.osl _ _ _ _ rfl) trivial)))) (And.intro (And.intro rfl BVw.tok) (And.intro (And.intro rfl BVw.tok) trivial))))))

theorem f19b0_L4_bok {a2 : Int} {a0 : Int} {a1 : Int} {a3 : List G_QFileEvent} {v2 : (List (List UInt8))} {v16 : Int} {v17 : List G_QFileEvent} {v34 : Int} {v35 : Int} {v36 : Int} {m : Option Nat} {o : (Int × Int × Int) ⊕ ((Int × (List G_QFileEvent)) ⊕ (G_QFileBatch × Bool × Int × (List G_QFileEvent)))} (h : S_glossatorref3_Watcher_Poll_b4 m a0 a1 a3 v2 v16 v17 v34 v35 v36 = some o) :
    LWp Try.prog f19b0_lay 3 f19b0_c2 (BodyQ 3 9 (f19b0_L4_env a0 a1 a3 v2 v16 v17) (f19b0_L4_hp a0 a1 a3 v2 v16 v17) (f19b0_L4_Q a0 a1 a2 a3 v2) o) [(4, .ptr (3, 0) 0 0), (7, .osl (4, 0) 3 (a3.map e_QFileEvent)), (8, .ptr (5, 0) 0 0), (10, .str (v2.getD v16.toNat default)), (11, .ptr (6, 0) 0 0), (58, .isl 1 (v2.map e_str) false), (59, .int .i64 ((v2.map e_str).length : Int)), (60, .int .i64 v16), (66, .osl (4, 0) 3 (a3.map e_QFileEvent)), (67, .int .i64 ((a3.map e_QFileEvent).length : Int)), (68, .int .i64 v34)] [((0, 0), .one [.int .i64 a1, .int .i64 a0, .val (.slice none 0 0)]), ((3, 0), .one [.int .i64 0, .osl (7, 0) 3 (([] : List G_QFileEvent).map e_QFileEvent)]), ((4, 0), .tok), ((5, 0), .one [.int .i64 (W ((a3.getD ((W (((a3.map e_QFileEvent).length : Int) - 1)).toNat) default).f_Time + a1)), .osl (8, 0) 3 (v17.map e_QFileEvent)]), ((6, 0), .one [.int .i64 v35, .str (v2.getD v16.toNat default), .int .i64 v36]), ((7, 0), .tok), ((8, 0), .tok)] 9 := by
  unfold S_glossatorref3_Watcher_Poll_b4 at h
  refine seqI ?_
  refine regI ?_
  refine seqI ?_
  refine condI (v := (decide (v34 < ((a3.map e_QFileEvent).length : Int)))) rfl trivial (fun h48 => ?_) (fun h48 => ?_)
  · have h := ite_tt h48 h
    refine skipI ?_
    refine seqI ?_
    refine blockI ?_
    refine seqI ?_
    refine regI ?_
    obtain ⟨h49, h⟩ := ite_some h
    refine And.intro h49 ?_
    refine Exists.intro (e_QFileEvent (a3.getD v34.toNat default)) (And.intro (getD_enc e_QFileEvent _ _ (idx_ltL e_QFileEvent h49)) (And.intro (And.intro (idx_lt h49) (Nat.le_of_ble_eq_true rfl)) ?_))
    refine seqI ?_
    refine regI ?_
    refine LWp.sim (e := [(4, .ptr (3, 0) 0 0), (7, .osl (4, 0) 3 (a3.map e_QFileEvent)), (8, .ptr (5, 0) 0 0), (10, .str (v2.getD v16.toNat default)), (11, .ptr (6, 0) 0 0), (13, .ptr (7, 0) 0 0), (58, .isl 1 (v2.map e_str) false), (59, .int .i64 ((v2.map e_str).length : Int)), (60, .int .i64 v16), (66, .osl (4, 0) 3 (a3.map e_QFileEvent)), (67, .int .i64 ((a3.map e_QFileEvent).length : Int)), (68, .int .i64 v34), (75, .bool ((a3.getD v34.toNat default).f_Path == (v2.getD v16.toNat default)))]) (L := [((0, 0), .one [.int .i64 a1, .int .i64 a0, .val (.slice none 0 0)]), ((3, 0), .one [.int .i64 0, .osl (8, 0) 3 (([] : List G_QFileEvent).map e_QFileEvent)]), ((4, 0), .tok), ((5, 0), .one [.int .i64 (W ((a3.getD ((W (((a3.map e_QFileEvent).length : Int) - 1)).toNat) default).f_Time + a1)), .osl (9, 0) 3 (v17.map e_QFileEvent)]), ((6, 0), .one [.int .i64 v35, .str (v2.getD v16.toNat default), .int .i64 v36]), ((7, 0), .one [.int .i64 ((a3.getD v34.toNat default).f_Time), .str ((a3.getD v34.toNat default).f_Path), .int .i64 ((a3.getD v34.toNat default).f_Kind)]), ((8, 0), .tok), ((9, 0), .tok)]) (n := 10) ?_ ?_
    · exact simI (M := [((3, 0), (3, 0)), ((4, 0), (4, 0)), ((5, 0), (5, 0)), ((6, 0), (6, 0)), ((7, 0), (9, 0)), ((8, 0), (7, 0)), ((9, 0), (8, 0))]) rfl (And.intro (Vw.ptr _ _ _ _ rfl) (And.intro (Vw.osl _ _ _ _ rfl) (And.intro (Vw.ptr _ _ _ _ rfl) (And.intro (Vw.same _ rfl) (And.intro (Vw.ptr _ _ _ _ rfl) (And.intro (Vw.ptr _ _ _ _ rfl) (And.intro (Vw.same _ rfl) (And.intro (Vw.same _ rfl) (And.intro (Vw.same _ rfl) (And.intro (Vw.osl _ _ _ _ rfl) (And.intro (Vw.same _ rfl) (And.intro (Vw.same _ rfl) (And.intro (Vw.same _ rfl) trivial))))))))))))) (And.intro (And.intro rfl (BVw.oneL (And.intro (Vw.same _ rfl) (And.intro (Vw.same _ rfl) (And.intro (Vw.same _ rfl) trivial))))) (And.intro (And.intro rfl (BVw.oneL (And.intro (Vw.same _ rfl) (And.intro (Vw.osl _ _ _ _ rfl) trivial)))) (And.intro (And.intro rfl BVw.tok) (And.intro (And.intro rfl (BVw.oneL (And.intro (Vw.same _ rfl) (And.intro (Vw.osl _ _ _ _ rfl) trivial)))) (And.intro (And.intro rfl (BVw.oneL (And.intro (Vw.same _ rfl) (And.intro (Vw.same _ rfl) (And.intro (Vw.same _ rfl) trivial))))) (And.intro (And.intro rfl (BVw.oneL (And.intro (Vw.same _ rfl) (And.intro (Vw.same _ rfl) (And.intro (Vw.same _ rfl) trivial))))) (And.intro (And.intro rfl BVw.tok) (And.intro (And.intro rfl BVw.tok) trivial))))))))
    refine condI (v := ((a3.getD v34.toNat default).f_Path == (v2.getD v16.toNat default))) rfl trivial (fun h50 => ?_) (fun h50 => ?_)
    · have h := ite_tt h50 h
      refine drawI ?_
      obtain ⟨v40, h51, h⟩ := bind_some h
      refine PFn.call (f11_ok h51) (And.intro (Vw.same _ rfl) (And.intro (Vw.same _ rfl) trivial)) ?_
      refine And.intro rfl ?_
      refine And.intro rfl ?_
      refine LWp.sim ?_ (f19b0_j13_ok h)
      exact simI (M := [((3, 0), (3, 0)), ((4, 0), (4, 0)), ((5, 0), (5, 0)), ((6, 0), (6, 0)), ((7, 0), (8, 0)), ((8, 0), (9, 0))]) rfl (And.intro (Vw.ptr _ _ _ _ rfl) (And.intro (Vw.osl _ _ _ _ rfl) (And.intro (Vw.ptr _ _ _ _ rfl) (And.intro (Vw.same _ rfl) (And.intro (Vw.ptr _ _ _ _ rfl) (And.intro (Vw.same _ rfl) (And.intro (Vw.same _ rfl) (And.intro (Vw.same _ rfl) (And.intro (Vw.osl _ _ _ _ rfl) (And.intro (Vw.same _ rfl) (And.intro (Vw.same _ rfl) trivial))))))))))) (And.intro (And.intro rfl (BVw.oneL (And.intro (Vw.same _ rfl) (And.intro (Vw.same _ rfl) (And.intro (Vw.same _ rfl) trivial))))) (And.intro (And.intro rfl (BVw.oneL (And.intro (Vw.same _ rfl) (And.intro (Vw.osl _ _ _ _ rfl) trivial)))) (And.intro (And.intro rfl BVw.tok) (And.intro (And.intro rfl (BVw.oneL (And.intro (Vw.same _ rfl) (And.intro (Vw.osl _ _ _ _ rfl) trivial)))) (And.intro (And.intro rfl (BVw.oneL (And.intro (Vw.same _ rfl) (And.intro (Vw.same _ rfl) (And.intro (Vw.same _ rfl) trivial))))) (And.intro (And.intro rfl BVw.tok) (And.intro (And.intro rfl BVw.tok) trivial)))))))
    · have h := ite_ff h50 h
      refine skipI ?_
      refine LWp.sim ?_ (f19b0_j13_ok h)
      exact simI (M := [((3, 0), (3, 0)), ((4, 0), (4, 0)), ((5, 0), (5, 0)), ((6, 0), (6, 0)), ((7, 0), (8, 0)), ((8, 0), (9, 0))]) rfl (And.intro (Vw.ptr _ _ _ _ rfl) (And.intro (Vw.osl _ _ _ _ rfl) (And.intro (Vw.ptr _ _ _ _ rfl) (And.intro (Vw.same _ rfl) (And.intro (Vw.ptr _ _ _ _ rfl) (And.intro (Vw.same _ rfl) (And.intro (Vw.same _ rfl) (And.intro (Vw.same _ rfl) (And.intro (Vw.osl _ _ _ _ rfl) (And.intro (Vw.same _ rfl) (And.intro (Vw.same _ rfl) trivial))))))))))) (And.intro (And.intro rfl (BVw.oneL (And.intro (Vw.same _ rfl) (And.intro (Vw.same _ rfl) (And.intro (Vw.same _ rfl) trivial))))) (And.intro (And.intro rfl (BVw.oneL (And.intro (Vw.same _ rfl) (And.intro (Vw.osl _ _ _ _ rfl) trivial)))) (And.intro (And.intro rfl BVw.tok) (And.intro (And.intro rfl (BVw.oneL (And.intro (Vw.same _ rfl) (And.intro (Vw.osl _ _ _ _ rfl) trivial)))) (And.intro (And.intro rfl (BVw.oneL (And.intro (Vw.same _ rfl) (And.intro (Vw.same _ rfl) (And.intro (Vw.same _ rfl) trivial))))) (And.intro (And.intro rfl BVw.tok) (And.intro (And.intro rfl BVw.tok) trivial)))))))
  · have h := ite_ff h48 h
    refine exitI ?_
    obtain ⟨o, hq, rfl⟩ := Option.map_eq_some_iff.1 h
    replace h := hq; clear hq
    refine And.intro nofun ?_
    refine LWp.sim ?_ (f19b0_j14_ok h)
    exact simI (M := [((3, 0), (3, 0)), ((4, 0), (4, 0)), ((5, 0), (5, 0)), ((6, 0), (6, 0)), ((7, 0), (7, 0)), ((8, 0), (8, 0))]) rfl (And.intro (Vw.ptr _ _ _ _ rfl) (And.intro (Vw.osl _ _ _ _ rfl) (And.intro (Vw.ptr _ _ _ _ rfl) (And.intro (Vw.ptr _ _ _ _ rfl) (And.intro (Vw.same _ rfl) (And.intro (Vw.same _ rfl) (And.intro (Vw.same _ rfl) trivial))))))) (And.intro (And.intro rfl (BVw.oneL (And.intro (Vw.same _ rfl) (And.intro (Vw.same _ rfl) (And.intro (Vw.same _ rfl) trivial))))) (And.intro (And.intro rfl (BVw.oneL (And.intro (Vw.same _ rfl) (And.intro (Vw.osl _ _ _ _ rfl) trivial)))) (And.intro (And.intro rfl BVw.tok) (And.intro (And.intro rfl (BVw.oneL (And.intro (Vw.same _ rfl) (And.intro (Vw.osl _ _ _ _ rfl) trivial)))) (And.intro (And.intro rfl (BVw.oneL (And.intro (Vw.same _ rfl) (And.intro (Vw.same _ rfl) (And.intro (Vw.same _ rfl) trivial))))) (And.intro (And.intro rfl BVw.tok) (And.intro (And.intro rfl BVw.tok) trivial)))))))

theorem f19b0_L4_ok {a2 : Int} {a0 : Int} {a1 : Int} {a3 : List G_QFileEvent} {v2 : (List (List UInt8))} {v16 : Int} {v17 : List G_QFileEvent} {v34 : Int} {v35 : Int} {v36 : Int} {m : Option Nat} {o : ((Int × (List G_QFileEvent)) ⊕ (G_QFileBatch × Bool × Int × (List G_QFileEvent)))} (h : S_glossatorref3_Watcher_Poll_l4 m a0 a1 a3 v2 v16 v17 v34 v35 v36 = some o) :
    LWp Try.prog f19b0_lay 3 (.loop f19b0_c2) (QBlock 2 (QSeq Try.prog f19b0_lay 3 f19b0_c0 (QBlock 1 (QSeq Try.prog f19b0_lay 3 f19b0_c1 (BodyQ 3 8 (f19b0_L3_env a0 a1 a3 v2) (f19b0_L3_hp a0 a1 a3 v2) (f19b0_L3_Q a0 a1 a2 a3) o))))) [(4, .ptr (3, 0) 0 0), (7, .osl (4, 0) 3 (a3.map e_QFileEvent)), (8, .ptr (5, 0) 0 0), (10, .str (v2.getD v16.toNat default)), (11, .ptr (6, 0) 0 0), (58, .isl 1 (v2.map e_str) false), (59, .int .i64 ((v2.map e_str).length : Int)), (60, .int .i64 v16), (66, .osl (4, 0) 3 (a3.map e_QFileEvent)), (67, .int .i64 ((a3.map e_QFileEvent).length : Int)), (68, .int .i64 v34)] [((0, 0), .one [.int .i64 a1, .int .i64 a0, .val (.slice none 0 0)]), ((3, 0), .one [.int .i64 0, .osl (7, 0) 3 (([] : List G_QFileEvent).map e_QFileEvent)]), ((4, 0), .tok), ((5, 0), .one [.int .i64 (W ((a3.getD ((W (((a3.map e_QFileEvent).length : Int) - 1)).toNat) default).f_Time + a1)), .osl (8, 0) 3 (v17.map e_QFileEvent)]), ((6, 0), .one [.int .i64 v35, .str (v2.getD v16.toNat default), .int .i64 v36]), ((7, 0), .tok), ((8, 0), .tok)] 9 :=
  LWp_loopM (m := m) (s := ((v34, v35, v36) : (Int × Int × Int))) (r := o) (fun (s : (Int × Int × Int)) => S_glossatorref3_Watcher_Poll_b4 m a0 a1 a3 v2 v16 v17 s.1 s.2.1 s.2.2) (f19b0_L4_env a0 a1 a3 v2 v16 v17) (f19b0_L4_hp a0 a1 a3 v2 v16 v17) (f19b0_L4_Q a0 a1 a2 a3 v2) (fun s o h => f19b0_L4_bok h) h

noncomputable def S_glossatorref3_Watcher_Poll_j16 (m : Option Nat) (a0 : Int) (a1 : Int) (a3 : List G_QFileEvent) (v17 : List G_QFileEvent) : Option (G_QFileBatch × Bool × Int × (List G_QFileEvent)) :=
  if (((v17.map e_QFileEvent).length : Int) == 0) = true then
    some ((G_QFileBatch.mk 0 ([] : List G_QFileEvent)), false, a0, [])
  else
    some ((G_QFileBatch.mk (W ((a3.getD ((W (((a3.map e_QFileEvent).length : Int) - 1)).toNat) default).f_Time + a1)) v17), true, a0, [])

noncomputable def S_glossatorref3_Watcher_Poll_b3 (m : Option Nat) (a0 : Int) (a1 : Int) (a3 : List G_QFileEvent) (v2 : (List (List UInt8))) (v16 : Int) (v17 : List G_QFileEvent) : Option ((Int × (List G_QFileEvent)) ⊕ (G_QFileBatch × Bool × Int × (List G_QFileEvent))) :=
  if (decide (v16 < ((v2.map e_str).length : Int))) = true then
    if (0 : Int) ≤ v16 ∧ v16 < ((v2.map e_str).length : Int) then
    S_glossatorref3_Watcher_Poll_l4 m a0 a1 a3 v2 v16 v17 0 0 0
    else none
  else
    Option.map Sum.inr (
      S_glossatorref3_Watcher_Poll_j16 m a0 a1 a3 v17)

noncomputable def S_glossatorref3_Watcher_Poll_l3 (m : Option Nat) (a0 : Int) (a1 : Int) (a3 : List G_QFileEvent) (v2 : (List (List UInt8))) (v16 : Int) (v17 : List G_QFileEvent) : Option (G_QFileBatch × Bool × Int × (List G_QFileEvent)) := loopM m (fun (s : (Int × (List G_QFileEvent))) => S_glossatorref3_Watcher_Poll_b3 m a0 a1 a3 v2 s.1 s.2) (v16, v17)

theorem f19b0_j16_ok {a2 : Int} {a0 : Int} {a1 : Int} {a3 : List G_QFileEvent} {v17 : List G_QFileEvent} {m : Option Nat} {o : (G_QFileBatch × Bool × Int × (List G_QFileEvent))} (h : S_glossatorref3_Watcher_Poll_j16 m a0 a1 a3 v17 = some o) :
    LWp Try.prog f19b0_lay 3 f19b0_c3 (f19b0_Q a0 a1 a2 a3 o) [(4, .ptr (3, 0) 0 0), (8, .ptr (4, 0) 0 0)] [((0, 0), .one [.int .i64 a1, .int .i64 a0, .val (.slice none 0 0)]), ((3, 0), .one [.int .i64 0, .osl (5, 0) 3 (([] : List G_QFileEvent).map e_QFileEvent)]), ((4, 0), .one [.int .i64 (W ((a3.getD ((W (((a3.map e_QFileEvent).length : Int) - 1)).toNat) default).f_Time + a1)), .osl (6, 0) 3 (v17.map e_QFileEvent)]), ((5, 0), .tok), ((6, 0), .tok)] 7 := by
  unfold S_glossatorref3_Watcher_Poll_j16 at h
  refine seqI ?_
  refine seqI ?_
  refine regI ?_
  refine condI (v := (((v17.map e_QFileEvent).length : Int) == 0)) rfl trivial (fun h54 => ?_) (fun h54 => ?_)
  · have h := ite_tt h54 h
    refine seqI ?_
    refine regI ?_
    refine retI ?_
    cases h
    exact And.intro (And.intro trivial (And.intro rfl (Nat.le_of_ble_eq_true rfl))) (And.intro trivial (finI (n' := 7) [] [] rfl rfl (Vw.tupL (And.intro (Vw.aggL (And.intro (Vw.same _ rfl) (And.intro (Vw.islF _ _ _) trivial))) (And.intro (Vw.same _ rfl) trivial))) (And.intro (And.intro rfl (BVw.oneL (And.intro (Vw.same _ rfl) (And.intro (Vw.same _ rfl) (And.intro (Vw.nilO _ _ (by decide)) trivial))))) (And.intro (And.intro rfl (And.intro (by decide) (by decide))) trivial))))
  · have h := ite_ff h54 h
    refine skipI ?_
    refine seqI ?_
    refine regI ?_
    refine retI ?_
    cases h
    exact And.intro (And.intro trivial (And.intro rfl (Nat.le_of_ble_eq_true rfl))) (And.intro trivial (finI (n' := 7) [] [] rfl rfl (Vw.tupL (And.intro (Vw.aggL (And.intro (Vw.same _ rfl) (And.intro (Vw.oslI _ _ _) trivial))) (And.intro (Vw.same _ rfl) trivial))) (And.intro (And.intro rfl (BVw.oneL (And.intro (Vw.same _ rfl) (And.intro (Vw.same _ rfl) (And.intro (Vw.nilO _ _ (by decide)) trivial))))) (And.intro (And.intro rfl (And.intro (by decide) (by decide))) trivial))))

theorem f19b0_L3_bok {a2 : Int} {a0 : Int} {a1 : Int} {a3 : List G_QFileEvent} {v2 : (List (List UInt8))} {v16 : Int} {v17 : List G_QFileEvent} {m : Option Nat} {o : (Int × (List G_QFileEvent)) ⊕ (G_QFileBatch × Bool × Int × (List G_QFileEvent))} (h : S_glossatorref3_Watcher_Poll_b3 m a0 a1 a3 v2 v16 v17 = some o) :
    LWp Try.prog f19b0_lay 3 f19b0_c5 (BodyQ 3 8 (f19b0_L3_env a0 a1 a3 v2) (f19b0_L3_hp a0 a1 a3 v2) (f19b0_L3_Q a0 a1 a2 a3) o) [(4, .ptr (3, 0) 0 0), (7, .osl (4, 0) 3 (a3.map e_QFileEvent)), (8, .ptr (5, 0) 0 0), (58, .isl 1 (v2.map e_str) false), (59, .int .i64 ((v2.map e_str).length : Int)), (60, .int .i64 v16)] [((0, 0), .one [.int .i64 a1, .int .i64 a0, .val (.slice none 0 0)]), ((3, 0), .one [.int .i64 0, .osl (6, 0) 3 (([] : List G_QFileEvent).map e_QFileEvent)]), ((4, 0), .tok), ((5, 0), .one [.int .i64 (W ((a3.getD ((W (((a3.map e_QFileEvent).length : Int) - 1)).toNat) default).f_Time + a1)), .osl (7, 0) 3 (v17.map e_QFileEvent)]), ((6, 0), .tok), ((7, 0), .tok)] 8 := by
  unfold S_glossatorref3_Watcher_Poll_b3 at h
  refine seqI ?_
  refine regI ?_
  refine seqI ?_
  refine condI (v := (decide (v16 < ((v2.map e_str).length : Int)))) rfl trivial (fun h38 => ?_) (fun h38 => ?_)
  · have h := ite_tt h38 h
    refine skipI ?_
    refine seqI ?_
    refine blockI ?_
    refine seqI ?_
    refine regI ?_
    obtain ⟨h39, h⟩ := ite_some h
    refine And.intro h39 ?_
    refine Exists.intro (e_str (v2.getD v16.toNat default)) (And.intro (getD_enc e_str _ _ (idx_ltL e_str h39)) (And.intro (And.intro (idx_lt h39) (Nat.le_of_ble_eq_true rfl)) ?_))
    refine seqI ?_
    refine regI ?_
    refine LWp.sim (e := [(4, .ptr (3, 0) 0 0), (7, .osl (4, 0) 3 (a3.map e_QFileEvent)), (8, .ptr (5, 0) 0 0), (10, .str (v2.getD v16.toNat default)), (11, .ptr (6, 0) 0 0), (58, .isl 1 (v2.map e_str) false), (59, .int .i64 ((v2.map e_str).length : Int)), (60, .int .i64 v16)]) (L := [((0, 0), .one [.int .i64 a1, .int .i64 a0, .val (.slice none 0 0)]), ((3, 0), .one [.int .i64 0, .osl (7, 0) 3 (([] : List G_QFileEvent).map e_QFileEvent)]), ((4, 0), .tok), ((5, 0), .one [.int .i64 (W ((a3.getD ((W (((a3.map e_QFileEvent).length : Int) - 1)).toNat) default).f_Time + a1)), .osl (8, 0) 3 (v17.map e_QFileEvent)]), ((6, 0), .one [.int .i64 0, .str (v2.getD v16.toNat default), .int .i64 0]), ((7, 0), .tok), ((8, 0), .tok)]) (n := 9) ?_ ?_
    · exact simI (M := [((3, 0), (3, 0)), ((4, 0), (4, 0)), ((5, 0), (5, 0)), ((6, 0), (8, 0)), ((7, 0), (6, 0)), ((8, 0), (7, 0))]) rfl (And.intro (Vw.ptr _ _ _ _ rfl) (And.intro (Vw.osl _ _ _ _ rfl) (And.intro (Vw.ptr _ _ _ _ rfl) (And.intro (Vw.same _ rfl) (And.intro (Vw.ptr _ _ _ _ rfl) (And.intro (Vw.same _ rfl) (And.intro (Vw.same _ rfl) (And.intro (Vw.same _ rfl) trivial)))))))) (And.intro (And.intro rfl (BVw.oneL (And.intro (Vw.same _ rfl) (And.intro (Vw.same _ rfl) (And.intro (Vw.same _ rfl) trivial))))) (And.intro (And.intro rfl (BVw.oneL (And.intro (Vw.same _ rfl) (And.intro (Vw.osl _ _ _ _ rfl) trivial)))) (And.intro (And.intro rfl BVw.tok) (And.intro (And.intro rfl (BVw.oneL (And.intro (Vw.same _ rfl) (And.intro (Vw.osl _ _ _ _ rfl) trivial)))) (And.intro (And.intro rfl (BVw.oneL (And.intro (Vw.same _ rfl) (And.intro (Vw.same _ rfl) (And.intro (Vw.same _ rfl) trivial))))) (And.intro (And.intro rfl BVw.tok) (And.intro (And.intro rfl BVw.tok) trivial)))))))
    refine seqI ?_
    refine seqI ?_
    refine regI ?_
    refine blockI ?_
    refine LWp.sim ?_ (f19b0_L4_ok h)
    exact simI (M := [((3, 0), (3, 0)), ((4, 0), (4, 0)), ((5, 0), (5, 0)), ((6, 0), (6, 0)), ((7, 0), (7, 0)), ((8, 0), (8, 0))]) rfl (And.intro (Vw.ptr _ _ _ _ rfl) (And.intro (Vw.osl _ _ _ _ rfl) (And.intro (Vw.ptr _ _ _ _ rfl) (And.intro (Vw.same _ rfl) (And.intro (Vw.ptr _ _ _ _ rfl) (And.intro (Vw.same _ rfl) (And.intro (Vw.same _ rfl) (And.intro (Vw.same _ rfl) (And.intro (Vw.osl _ _ _ _ rfl) (And.intro (Vw.same _ rfl) (And.intro (Vw.same _ rfl) trivial))))))))))) (And.intro (And.intro rfl (BVw.oneL (And.intro (Vw.same _ rfl) (And.intro (Vw.same _ rfl) (And.intro (Vw.same _ rfl) trivial))))) (And.intro (And.intro rfl (BVw.oneL (And.intro (Vw.same _ rfl) (And.intro (Vw.osl _ _ _ _ rfl) trivial)))) (And.intro (And.intro rfl BVw.tok) (And.intro (And.intro rfl (BVw.oneL (And.intro (Vw.same _ rfl) (And.intro (Vw.osl _ _ _ _ rfl) trivial)))) (And.intro (And.intro rfl (BVw.oneL (And.intro (Vw.same _ rfl) (And.intro (Vw.same _ rfl) (And.intro (Vw.same _ rfl) trivial))))) (And.intro (And.intro rfl BVw.tok) (And.intro (And.intro rfl BVw.tok) trivial)))))))
  · have h := ite_ff h38 h
    refine exitI ?_
    obtain ⟨o, hq, rfl⟩ := Option.map_eq_some_iff.1 h
    replace h := hq; clear hq
    refine And.intro nofun ?_
    refine LWp.sim ?_ (f19b0_j16_ok h)
    exact simI (M := [((3, 0), (3, 0)), ((4, 0), (5, 0)), ((5, 0), (6, 0)), ((6, 0), (7, 0))]) rfl (And.intro (Vw.ptr _ _ _ _ rfl) (And.intro (Vw.ptr _ _ _ _ rfl) trivial)) (And.intro (And.intro rfl (BVw.oneL (And.intro (Vw.same _ rfl) (And.intro (Vw.same _ rfl) (And.intro (Vw.same _ rfl) trivial))))) (And.intro (And.intro rfl (BVw.oneL (And.intro (Vw.same _ rfl) (And.intro (Vw.osl _ _ _ _ rfl) trivial)))) (And.intro (And.intro rfl (BVw.oneL (And.intro (Vw.same _ rfl) (And.intro (Vw.osl _ _ _ _ rfl) trivial)))) (And.intro (And.intro rfl BVw.tok) (And.intro (And.intro rfl BVw.tok) trivial)))))

theorem f19b0_L3_ok {a2 : Int} {a0 : Int} {a1 : Int} {a3 : List G_QFileEvent} {v2 : (List (List UInt8))} {v16 : Int} {v17 : List G_QFileEvent} {m : Option Nat} {o : (G_QFileBatch × Bool × Int × (List G_QFileEvent))} (h : S_glossatorref3_Watcher_Poll_l3 m a0 a1 a3 v2 v16 v17 = some o) :
    LWp Try.prog f19b0_lay 3 (.loop f19b0_c5) (QBlock 0 (QSeq Try.prog f19b0_lay 3 f19b0_c3 (f19b0_Q a0 a1 a2 a3 o))) [(4, .ptr (3, 0) 0 0), (7, .osl (4, 0) 3 (a3.map e_QFileEvent)), (8, .ptr (5, 0) 0 0), (58, .isl 1 (v2.map e_str) false), (59, .int .i64 ((v2.map e_str).length : Int)), (60, .int .i64 v16)] [((0, 0), .one [.int .i64 a1, .int .i64 a0, .val (.slice none 0 0)]), ((3, 0), .one [.int .i64 0, .osl (6, 0) 3 (([] : List G_QFileEvent).map e_QFileEvent)]), ((4, 0), .tok), ((5, 0), .one [.int .i64 (W ((a3.getD ((W (((a3.map e_QFileEvent).length : Int) - 1)).toNat) default).f_Time + a1)), .osl (7, 0) 3 (v17.map e_QFileEvent)]), ((6, 0), .tok), ((7, 0), .tok)] 8 :=
  LWp_loopM (m := m) (s := ((v16, v17) : (Int × (List G_QFileEvent)))) (r := o) (fun (s : (Int × (List G_QFileEvent))) => S_glossatorref3_Watcher_Poll_b3 m a0 a1 a3 v2 s.1 s.2) (f19b0_L3_env a0 a1 a3 v2) (f19b0_L3_hp a0 a1 a3 v2) (f19b0_L3_Q a0 a1 a2 a3) (fun s o h => f19b0_L3_bok h) h

noncomputable def S_glossatorref3_Watcher_Poll (m : Option Nat) (a0 : Int) (a1 : Int) (a2 : Int) (a3 : List G_QFileEvent) : Option (G_QFileBatch × Bool × Int × (List G_QFileEvent)) :=
  if (decide (a0 < a2)) = true then
    some ((G_QFileBatch.mk 0 ([] : List G_QFileEvent)), false, a2, a3)
  else
    (S_glossatorref3_Watcher_due m a0 a1 a0 a3).bind fun v1 =>
    if (!v1) = true then
      some ((G_QFileBatch.mk 0 ([] : List G_QFileEvent)), false, a0, a3)
    else
      if (0 : Int) ≤ (W (((a3.map e_QFileEvent).length : Int) - 1)) ∧ (W (((a3.map e_QFileEvent).length : Int) - 1)) < ((a3.map e_QFileEvent).length : Int) then
      (S_glossatorref3_paths m a3).bind fun v2 =>
      S_glossatorref3_Watcher_Poll_l3 m a0 a1 a3 v2 0 ([] : List G_QFileEvent)
      else none

theorem f19b0_start {a0 : Int} {a1 : Int} {a2 : Int} {a3 : List G_QFileEvent} {m : Option Nat} {o : G_QFileBatch × Bool × Int × (List G_QFileEvent)} (h : S_glossatorref3_Watcher_Poll m a0 a1 a2 a3 = some o) : LWp Try.prog f19b0_lay 3 f19b0_c6 (f19b0_Q a0 a1 a2 a3 o) (initEnv 0 [.ptr (0, 0) 0 0, .int .i64 a0]) [((0, 0), .one [.int .i64 a1, .int .i64 a2, .osl (0, 1) 3 (a3.map e_QFileEvent)]), ((0, 1), .tok)] 3 := by
  unfold S_glossatorref3_Watcher_Poll at h
  refine seqI ?_
  refine regI ?_
  refine seqI ?_
  refine seqI ?_
  refine regI ?_
  refine LWp.sim (e := [(0, .ptr (0, 0) 0 0), (1, .int .i64 a0), (4, .ptr (3, 0) 0 0), (19, .bool (decide (a0 < a2)))]) (L := [((0, 0), .one [.int .i64 a1, .int .i64 a2, .osl (4, 0) 3 (a3.map e_QFileEvent)]), ((3, 0), .one [.int .i64 0, .isl 3 (([] : List G_QFileEvent).map e_QFileEvent) true]), ((4, 0), .tok)]) (n := 5) ?_ ?_
  · exact simI (M := [((3, 0), (3, 0)), ((4, 0), (0, 1))]) rfl (And.intro (Vw.ptr _ _ _ _ rfl) (And.intro (Vw.same _ rfl) (And.intro (Vw.ptr _ _ _ _ rfl) (And.intro (Vw.same _ rfl) trivial)))) (And.intro (And.intro rfl (BVw.oneL (And.intro (Vw.same _ rfl) (And.intro (Vw.same _ rfl) (And.intro (Vw.osl _ _ _ _ rfl) trivial))))) (And.intro (And.intro rfl (BVw.oneL (And.intro (Vw.same _ rfl) (And.intro (Vw.same _ rfl) trivial)))) (And.intro (And.intro rfl BVw.tok) trivial)))
  refine condI (v := (decide (a0 < a2))) rfl trivial (fun h1 => ?_) (fun h1 => ?_)
  · have h := ite_tt h1 h
    refine seqI ?_
    refine regI ?_
    refine retI ?_
    cases h
    exact And.intro (And.intro trivial (And.intro rfl (Nat.le_of_ble_eq_true rfl))) (And.intro trivial (finI (n' := 5) [((3, 0), (4, 0))] [] rfl rfl (Vw.tupL (And.intro (Vw.aggL (And.intro (Vw.same _ rfl) (And.intro (Vw.islF _ _ _) trivial))) (And.intro (Vw.same _ rfl) trivial))) (And.intro (And.intro rfl (BVw.oneL (And.intro (Vw.same _ rfl) (And.intro (Vw.same _ rfl) (And.intro (Vw.osl _ _ _ _ rfl) trivial))))) (And.intro (And.intro rfl BVw.tok) trivial))))
  · have h := ite_ff h1 h
    refine skipI ?_
    refine seqI ?_
    refine regI ?_
    refine seqI ?_
    refine seqI ?_
    refine regI ?_
    obtain ⟨v1, h2, h⟩ := bind_some h
    refine bcall (k := 3) (m := 1) (L' := [((0, 0), .one [.int .i64 a1, .int .i64 a0, .osl (5, 0) 3 (a3.map e_QFileEvent)]), ((5, 0), .tok)]) (rest := [((3, 0), .one [.int .i64 0, .isl 3 (([] : List G_QFileEvent).map e_QFileEvent) true])]) (R' := .bool v1) [((0, 0), (0, 0)), ((0, 1), (4, 0))] (f33b0_ok h2) rfl rfl rfl (And.intro (Vw.ptr _ _ _ _ rfl) (And.intro (Vw.same _ rfl) trivial)) (And.intro (h0I (0, 0) rfl rfl (BVw.oneL (And.intro (Vw.same _ rfl) (And.intro (Vw.same _ rfl) (And.intro (Vw.osl _ _ _ _ rfl) trivial))))) (And.intro (h0I (4, 0) rfl rfl BVw.tok) trivial)) (nid_ren _ rfl) (And.intro rfl (And.intro rfl (And.intro rfl (And.intro rfl trivial)))) rfl ?_
    show yops _ _ _ [(27, .bool v1), (26, .int .i64 a0), (25, .ptr (0, 0) 0 0), (24, .ptr (0, 0) 0 1), (23, .ptr (0, 0) 0 0), (22, .int .i64 a0), (21, .ptr (0, 0) 0 0), (0, .ptr (0, 0) 0 0), (1, .int .i64 a0), (4, .ptr (3, 0) 0 0), (19, .bool (decide (a0 < a2)))] _ _
    refine LWp.sim (e := [(0, .ptr (0, 0) 0 0), (4, .ptr (3, 0) 0 0), (28, .bool (!v1))]) (L := [((0, 0), .one [.int .i64 a1, .int .i64 a0, .osl (4, 0) 3 (a3.map e_QFileEvent)]), ((3, 0), .one [.int .i64 0, .isl 3 (([] : List G_QFileEvent).map e_QFileEvent) true]), ((4, 0), .tok)]) (n := 5) ?_ ?_
    · exact simI (M := [((3, 0), (3, 0)), ((4, 0), (5, 0))]) rfl (And.intro (Vw.ptr _ _ _ _ rfl) (And.intro (Vw.ptr _ _ _ _ rfl) (And.intro (Vw.same _ rfl) trivial))) (And.intro (And.intro rfl (BVw.oneL (And.intro (Vw.same _ rfl) (And.intro (Vw.same _ rfl) (And.intro (Vw.osl _ _ _ _ rfl) trivial))))) (And.intro (And.intro rfl (BVw.oneL (And.intro (Vw.same _ rfl) (And.intro (Vw.same _ rfl) trivial)))) (And.intro (And.intro rfl BVw.tok) trivial)))
    refine condI (v := (!v1)) rfl trivial (fun h3 => ?_) (fun h3 => ?_)
    · have h := ite_tt h3 h
      refine seqI ?_
      refine regI ?_
      refine retI ?_
      cases h
      exact And.intro (And.intro trivial (And.intro rfl (Nat.le_of_ble_eq_true rfl))) (And.intro trivial (finI (n' := 5) [((3, 0), (4, 0))] [] rfl rfl (Vw.tupL (And.intro (Vw.aggL (And.intro (Vw.same _ rfl) (And.intro (Vw.islF _ _ _) trivial))) (And.intro (Vw.same _ rfl) trivial))) (And.intro (And.intro rfl (BVw.oneL (And.intro (Vw.same _ rfl) (And.intro (Vw.same _ rfl) (And.intro (Vw.osl _ _ _ _ rfl) trivial))))) (And.intro (And.intro rfl BVw.tok) trivial))))
    · have h := ite_ff h3 h
      refine skipI ?_
      refine seqI ?_
      refine quietI ?_
      obtain ⟨h4, h⟩ := ite_some h
      refine And.intro h4 ?_
      show yqs _ _ [(40, .iptr 3 (a3.map e_QFileEvent) ((W (((a3.map e_QFileEvent).length : Int) - 1)).toNat) 0), (39, .int .i64 (W (((a3.map e_QFileEvent).length : Int) - 1))), (38, .int .i64 ((a3.map e_QFileEvent).length : Int)), (37, .osl (4, 0) 3 (a3.map e_QFileEvent)), (36, .ptr (0, 0) 0 2), (35, .ptr (0, 0) 0 0), (34, .ptr (0, 0) 0 0), (33, .osl (4, 0) 3 (a3.map e_QFileEvent)), (32, .ptr (0, 0) 0 2), (31, .ptr (0, 0) 0 0), (30, .ptr (0, 0) 0 0), (0, .ptr (0, 0) 0 0), (4, .ptr (3, 0) 0 0), (28, .bool (!v1))] _ _
      refine Exists.intro (e_QFileEvent (a3.getD ((W (((a3.map e_QFileEvent).length : Int) - 1)).toNat) default)) (And.intro (getD_enc e_QFileEvent _ _ (idx_ltL e_QFileEvent h4)) (And.intro (And.intro (idx_lt h4) (Nat.le_of_ble_eq_true rfl)) ?_))
      refine LWp.sim (e := [(0, .ptr (0, 0) 0 0), (4, .ptr (3, 0) 0 0), (6, .int .i64 ((a3.getD ((W (((a3.map e_QFileEvent).length : Int) - 1)).toNat) default).f_Time))]) (L := [((0, 0), .one [.int .i64 a1, .int .i64 a0, .osl (4, 0) 3 (a3.map e_QFileEvent)]), ((3, 0), .one [.int .i64 0, .isl 3 (([] : List G_QFileEvent).map e_QFileEvent) true]), ((4, 0), .tok)]) (n := 5) ?_ ?_
      · exact simI (M := [((3, 0), (3, 0)), ((4, 0), (4, 0))]) rfl (And.intro (Vw.ptr _ _ _ _ rfl) (And.intro (Vw.ptr _ _ _ _ rfl) (And.intro (Vw.same _ rfl) trivial))) (And.intro (And.intro rfl (BVw.oneL (And.intro (Vw.same _ rfl) (And.intro (Vw.same _ rfl) (And.intro (Vw.osl _ _ _ _ rfl) trivial))))) (And.intro (And.intro rfl (BVw.oneL (And.intro (Vw.same _ rfl) (And.intro (Vw.same _ rfl) trivial)))) (And.intro (And.intro rfl BVw.tok) trivial)))
      refine seqI ?_
      refine regI ?_
      refine seqI ?_
      refine regI ?_
      refine LWp.sim (e := [(0, .ptr (0, 0) 0 0), (4, .ptr (3, 0) 0 0), (6, .int .i64 ((a3.getD ((W (((a3.map e_QFileEvent).length : Int) - 1)).toNat) default).f_Time)), (7, .osl (4, 0) 3 (a3.map e_QFileEvent))]) (L := [((0, 0), .one [.int .i64 a1, .int .i64 a0, .val (.slice none 0 0)]), ((3, 0), .one [.int .i64 0, .isl 3 (([] : List G_QFileEvent).map e_QFileEvent) true]), ((4, 0), .tok)]) (n := 5) ?_ ?_
      · exact simI (M := [((3, 0), (3, 0)), ((4, 0), (4, 0))]) rfl (And.intro (Vw.ptr _ _ _ _ rfl) (And.intro (Vw.ptr _ _ _ _ rfl) (And.intro (Vw.same _ rfl) (And.intro (Vw.osl _ _ _ _ rfl) trivial)))) (And.intro (And.intro rfl (BVw.oneL (And.intro (Vw.same _ rfl) (And.intro (Vw.same _ rfl) (And.intro (Vw.same _ rfl) trivial))))) (And.intro (And.intro rfl (BVw.oneL (And.intro (Vw.same _ rfl) (And.intro (Vw.same _ rfl) trivial)))) (And.intro (And.intro rfl BVw.tok) trivial)))
      refine seqI ?_
      refine regI ?_
      refine LWp.sim (e := [(4, .ptr (3, 0) 0 0), (7, .osl (4, 0) 3 (a3.map e_QFileEvent)), (8, .ptr (5, 0) 0 0)]) (L := [((0, 0), .one [.int .i64 a1, .int .i64 a0, .val (.slice none 0 0)]), ((3, 0), .one [.int .i64 0, .isl 3 (([] : List G_QFileEvent).map e_QFileEvent) true]), ((4, 0), .tok), ((5, 0), .one [.int .i64 (W ((a3.getD ((W (((a3.map e_QFileEvent).length : Int) - 1)).toNat) default).f_Time + a1)), .isl 3 (([] : List G_QFileEvent).map e_QFileEvent) true])]) (n := 6) ?_ ?_
      · exact simI (M := [((3, 0), (3, 0)), ((4, 0), (4, 0)), ((5, 0), (5, 0))]) rfl (And.intro (Vw.ptr _ _ _ _ rfl) (And.intro (Vw.osl _ _ _ _ rfl) (And.intro (Vw.ptr _ _ _ _ rfl) trivial))) (And.intro (And.intro rfl (BVw.oneL (And.intro (Vw.same _ rfl) (And.intro (Vw.same _ rfl) (And.intro (Vw.same _ rfl) trivial))))) (And.intro (And.intro rfl (BVw.oneL (And.intro (Vw.same _ rfl) (And.intro (Vw.same _ rfl) trivial)))) (And.intro (And.intro rfl BVw.tok) (And.intro (And.intro rfl (BVw.oneL (And.intro (Vw.same _ rfl) (And.intro (Vw.same _ rfl) trivial)))) trivial))))
      refine seqI ?_
      refine seqI ?_
      refine regI ?_
      obtain ⟨v2, h5, h⟩ := bind_some h
      refine PFn.call (f25_ok h5) (And.intro (Vw.oslI _ _ _) trivial) ?_
      refine blockI ?_
      refine LWp.sim ?_ (f19b0_L3_ok h)
      exact simI (M := [((3, 0), (3, 0)), ((4, 0), (4, 0)), ((5, 0), (5, 0))]) rfl (And.intro (Vw.ptr _ _ _ _ rfl) (And.intro (Vw.osl _ _ _ _ rfl) (And.intro (Vw.ptr _ _ _ _ rfl) (And.intro (Vw.same _ rfl) (And.intro (Vw.same _ rfl) (And.intro (Vw.same _ rfl) trivial)))))) (And.intro (And.intro rfl (BVw.oneL (And.intro (Vw.same _ rfl) (And.intro (Vw.same _ rfl) (And.intro (Vw.same _ rfl) trivial))))) (And.intro (And.intro rfl (BVw.oneL (And.intro (Vw.same _ rfl) (And.intro (Vw.islO _ _ _ (by decide)) trivial)))) (And.intro (And.intro rfl BVw.tok) (And.intro (And.intro rfl (BVw.oneL (And.intro (Vw.same _ rfl) (And.intro (Vw.islO _ _ _ (by decide)) trivial)))) (And.intro (And.intro rfl (And.intro (by decide) (by decide))) (And.intro (And.intro rfl (And.intro (by decide) (by decide))) trivial))))))

theorem f19b0_ok {a0 : Int} {a1 : Int} {a2 : Int} {a3 : List G_QFileEvent} {m : Option Nat} {o : G_QFileBatch × Bool × Int × (List G_QFileEvent)} (h : S_glossatorref3_Watcher_Poll m a0 a1 a2 a3 = some o) : ACalls Try.prog 19 [.ptr (0, 0) 0 0, .int .i64 a0] [((0, 0), .one [.int .i64 a1, .int .i64 a2, .osl (0, 1) 3 (a3.map e_QFileEvent)]), ((0, 1), .tok)] 3 (Gives 4 (.tup [.agg [.int .i64 o.1.f_Time, .isl 3 (o.1.f_Events.map e_QFileEvent) false], .bool o.2.1]) [((0, 0), .one [.int .i64 a1, .int .i64 o.2.2.1, .osl (3, 0) 3 (o.2.2.2.map e_QFileEvent)]), ((3, 0), .tok)]) := bfn_of (L := f19b0_L) f19b0_low f19b0_fok (Nat.le_of_ble_eq_true rfl) (f19b0_start h)

def f8_c1 : LCode := (.seq (.region [⟨some 14, .bin .lss (.t 13) (.t 12), none⟩])
 (.seq (.cond (.t 14)
  .skip
  (.exit 0))
 (.seq (.block 1
  (.seq (.region [⟨some 15, .mv (.t 13), none⟩,
    ⟨some 5, .mv (.t 15), none⟩])
  (.seq (.draw [⟨⟨some 16, .mv (.t 0), none⟩, []⟩,
    ⟨⟨some 17, .mv (.t 5), none⟩, []⟩,
    ⟨⟨some 18, .iaddr 2 (.t 16) (.t 17), none⟩, []⟩,
    ⟨⟨some 19, .faddr 0 (.t 18), none⟩, []⟩,
    ⟨⟨some 20, .load false 1 (.t 19), none⟩, []⟩,
    ⟨⟨some 21, .mv (.t 1), none⟩, []⟩,
    ⟨⟨some 22, .mv (.t 5), none⟩, []⟩,
    ⟨⟨some 23, .iaddr 2 (.t 21) (.t 22), none⟩, []⟩,
    ⟨⟨some 24, .faddr 0 (.t 23), none⟩, []⟩,
    ⟨⟨some 25, .load false 1 (.t 24), none⟩, []⟩,
    ⟨⟨some 26, .bin .neq (.t 20) (.t 25), none⟩, []⟩,
    ⟨⟨some 27, .mv (.t 26), none⟩, []⟩,
    ⟨⟨some 28, .mv (.t 0), some (27, false)⟩, []⟩,
    ⟨⟨some 29, .mv (.t 5), some (27, false)⟩, []⟩,
    ⟨⟨some 30, .iaddr 2 (.t 28) (.t 29), some (27, false)⟩, []⟩,
    ⟨⟨some 31, .faddr 1 (.t 30), some (27, false)⟩, []⟩,
    ⟨⟨some 32, .load false 1 (.t 31), some (27, false)⟩, []⟩,
    ⟨⟨some 33, .mv (.t 1), some (27, false)⟩, []⟩,
    ⟨⟨some 34, .mv (.t 5), some (27, false)⟩, []⟩,
    ⟨⟨some 35, .iaddr 2 (.t 33) (.t 34), some (27, false)⟩, []⟩,
    ⟨⟨some 36, .faddr 1 (.t 35), some (27, false)⟩, []⟩,
    ⟨⟨some 37, .load false 1 (.t 36), some (27, false)⟩, []⟩,
    ⟨⟨some 38, .call 22 [(.t 32), (.t 37)], some (27, false)⟩, []⟩,
    ⟨⟨some 39, .un .not (.t 38), some (27, false)⟩, []⟩,
    ⟨⟨some 40, .pick (.t 27) (.c (.bool true)) (.t 39), none⟩, []⟩])
  (.cond (.t 40)
   (.seq (.region [⟨some 4, .mv (.c (.bool false)), none⟩])
   .ret)
   .skip))))
 (.region [⟨some 41, .bin .add (.t 13) (.c (.int .i64 1)), none⟩,
   ⟨some 13, .mv (.t 41), none⟩]))))
def f8_c0 : LCode := (.seq (.region [⟨some 4, .mv (.c (.bool true)), none⟩])
 .ret)
def f8_c2 : LCode := (.seq (.region [⟨some 4, .mv (.c (.bool false)), none⟩])
 (.seq (.seq (.region [⟨some 6, .mv (.t 0), none⟩,
   ⟨some 7, .len false (.t 6), none⟩,
   ⟨some 8, .mv (.t 1), none⟩,
   ⟨some 9, .len false (.t 8), none⟩,
   ⟨some 10, .bin .neq (.t 7) (.t 9), none⟩])
 (.cond (.t 10)
  (.seq (.region [⟨some 4, .mv (.c (.bool false)), none⟩])
  .ret)
  .skip))
 (.seq (.seq (.region [⟨some 11, .mv (.t 0), none⟩,
   ⟨some 12, .len false (.t 11), none⟩,
   ⟨some 13, .mv (.c (.int .i64 0)), none⟩])
 (.block 0
  (.loop
   f8_c1)))
 f8_c0)))
def f8_lay : Lay := ⟨42, [], false⟩
def f8_res : List LRes := [.t 4]
def f8_L : LFn := ⟨2, f8_lay, f8_c2, f8_res⟩
theorem f8_low : lowFn Try.prog [] 8 = some f8_L := by kernel_rfl
theorem f8_fok : FnOk Try.prog 8 := ⟨_, Try.func8, rfl, rfl⟩
def f8_Q (a0 : List G_QFileBatch) (a1 : List G_QFileBatch) (o : Bool) : Exit → Env → AHeap → Nat → Prop := FinK f8_res (PureEnd (.bool o))

def f8_L1_env (a0 : List G_QFileBatch) (a1 : List G_QFileBatch) (s : Int) : Env := [(0, .isl 2 (a0.map e_QFileBatch) false), (1, .isl 2 (a1.map e_QFileBatch) false), (12, .int .i64 ((a0.map e_QFileBatch).length : Int)), (13, .int .i64 s)]
def f8_L1_hp (a0 : List G_QFileBatch) (a1 : List G_QFileBatch) (s : Int) : AHeap := []
def f8_L1_Q (a0 : List G_QFileBatch) (a1 : List G_QFileBatch) (o : Bool) : Exit → Env → AHeap → Nat → Prop := (QBlock 0 (QSeq Try.prog f8_lay 0 f8_c0 (f8_Q a0 a1 o)))

noncomputable def S_glossatorref3_EqualBatches_j1 (m : Option Nat) : Option Bool :=
  some true

noncomputable def S_glossatorref3_EqualBatches_b1 (m : Option Nat) (a0 : List G_QFileBatch) (a1 : List G_QFileBatch) (v2 : Int) : Option (Int ⊕ Bool) :=
  if (decide (v2 < ((a0.map e_QFileBatch).length : Int))) = true then
    if (0 : Int) ≤ v2 ∧ v2 < ((a0.map e_QFileBatch).length : Int) then
    if (0 : Int) ≤ v2 ∧ v2 < ((a1.map e_QFileBatch).length : Int) then
    if ((((a0.getD v2.toNat default).f_Time != (a1.getD v2.toNat default).f_Time) == false) = true → (0 : Int) ≤ v2 ∧ v2 < ((a0.map e_QFileBatch).length : Int)) then
    if ((((a0.getD v2.toNat default).f_Time != (a1.getD v2.toNat default).f_Time) == false) = true → (0 : Int) ≤ v2 ∧ v2 < ((a1.map e_QFileBatch).length : Int)) then
    (if (((a0.getD v2.toNat default).f_Time != (a1.getD v2.toNat default).f_Time) == false) = true then S_glossatorref3_Equal_api_QFileEvent m ((a0.getD v2.toNat default).f_Events) ((a1.getD v2.toNat default).f_Events) else some default).bind fun v4 =>
    if (((a0.getD v2.toNat default).f_Time != (a1.getD v2.toNat default).f_Time) || (!v4)) = true then
      Option.map Sum.inr (
        some false)
    else
      some (.inl (W (v2 + 1)))
    else none
    else none
    else none
    else none
  else
    Option.map Sum.inr (
      S_glossatorref3_EqualBatches_j1 m)

noncomputable def S_glossatorref3_EqualBatches_l1 (m : Option Nat) (a0 : List G_QFileBatch) (a1 : List G_QFileBatch) (v2 : Int) : Option Bool := loopM m (fun (s : Int) => S_glossatorref3_EqualBatches_b1 m a0 a1 s) v2

theorem f8_j1_ok {a0 : List G_QFileBatch} {a1 : List G_QFileBatch} {m : Option Nat} {o : Bool} (h : S_glossatorref3_EqualBatches_j1 m = some o) :
    LWp Try.prog f8_lay 0 f8_c0 (f8_Q a0 a1 o) [] [] 0 := by
  unfold S_glossatorref3_EqualBatches_j1 at h
  refine seqI ?_
  refine regI ?_
  refine retI ?_
  cases h
  exact And.intro trivial (And.intro rfl (Vw.same _ rfl))

theorem f8_L1_bok {a0 : List G_QFileBatch} {a1 : List G_QFileBatch} {v2 : Int} {m : Option Nat} {o : Int ⊕ Bool} (h : S_glossatorref3_EqualBatches_b1 m a0 a1 v2 = some o) :
    LWp Try.prog f8_lay 0 f8_c1 (BodyQ 0 0 (f8_L1_env a0 a1) (f8_L1_hp a0 a1) (f8_L1_Q a0 a1) o) [(0, .isl 2 (a0.map e_QFileBatch) false), (1, .isl 2 (a1.map e_QFileBatch) false), (12, .int .i64 ((a0.map e_QFileBatch).length : Int)), (13, .int .i64 v2)] [] 0 := by
  unfold S_glossatorref3_EqualBatches_b1 at h
  refine seqI ?_
  refine regI ?_
  refine seqI ?_
  refine condI (v := (decide (v2 < ((a0.map e_QFileBatch).length : Int)))) rfl trivial (fun h16 => ?_) (fun h16 => ?_)
  · have h := ite_tt h16 h
    refine skipI ?_
    refine seqI ?_
    refine blockI ?_
    refine seqI ?_
    refine regI ?_
    refine seqI ?_
    refine drawO rfl ?_
    obtain ⟨h17, h⟩ := ite_some h
    refine And.intro h17 ?_
    show yops _ _ _ [(18, .iptr 2 (a0.map e_QFileBatch) v2.toNat 0), (17, .int .i64 v2), (16, .isl 2 (a0.map e_QFileBatch) false), (5, .int .i64 v2), (15, .int .i64 v2), (14, .bool (decide (v2 < ((a0.map e_QFileBatch).length : Int)))), (0, .isl 2 (a0.map e_QFileBatch) false), (1, .isl 2 (a1.map e_QFileBatch) false), (12, .int .i64 ((a0.map e_QFileBatch).length : Int)), (13, .int .i64 v2)] _ _
    refine Exists.intro (e_QFileBatch (a0.getD v2.toNat default)) (And.intro (getD_enc e_QFileBatch _ _ (idx_ltL e_QFileBatch h17)) (And.intro (And.intro (idx_lt h17) (Nat.le_of_ble_eq_true rfl)) ?_))
    obtain ⟨h18, h⟩ := ite_some h
    refine And.intro h18 ?_
    show yops _ _ _ [(23, .iptr 2 (a1.map e_QFileBatch) v2.toNat 0), (22, .int .i64 v2), (21, .isl 2 (a1.map e_QFileBatch) false), (20, .int .i64 ((a0.getD v2.toNat default).f_Time)), (19, .iptr 2 (a0.map e_QFileBatch) v2.toNat 0), (18, .iptr 2 (a0.map e_QFileBatch) v2.toNat 0), (17, .int .i64 v2), (16, .isl 2 (a0.map e_QFileBatch) false), (5, .int .i64 v2), (15, .int .i64 v2), (14, .bool (decide (v2 < ((a0.map e_QFileBatch).length : Int)))), (0, .isl 2 (a0.map e_QFileBatch) false), (1, .isl 2 (a1.map e_QFileBatch) false), (12, .int .i64 ((a0.map e_QFileBatch).length : Int)), (13, .int .i64 v2)] _ _
    refine Exists.intro (e_QFileBatch (a1.getD v2.toNat default)) (And.intro (getD_enc e_QFileBatch _ _ (idx_ltL e_QFileBatch h18)) (And.intro (And.intro (idx_lt h18) (Nat.le_of_ble_eq_true rfl)) ?_))
    obtain ⟨h19, h⟩ := ite_some h
    refine And.intro (fun hp => (And.intro (And.intro hp hp) (h19 hp))) ?_
    show yops _ _ _ [(30, .cnd (((a0.getD v2.toNat default).f_Time != (a1.getD v2.toNat default).f_Time) == false) (.iptr 2 (a0.map e_QFileBatch) v2.toNat 0)), (29, .cnd (((a0.getD v2.toNat default).f_Time != (a1.getD v2.toNat default).f_Time) == false) (.int .i64 v2)), (28, .cnd (((a0.getD v2.toNat default).f_Time != (a1.getD v2.toNat default).f_Time) == false) (.isl 2 (a0.map e_QFileBatch) false)), (27, .bool ((a0.getD v2.toNat default).f_Time != (a1.getD v2.toNat default).f_Time)), (26, .bool ((a0.getD v2.toNat default).f_Time != (a1.getD v2.toNat default).f_Time)), (25, .int .i64 ((a1.getD v2.toNat default).f_Time)), (24, .iptr 2 (a1.map e_QFileBatch) v2.toNat 0), (23, .iptr 2 (a1.map e_QFileBatch) v2.toNat 0), (22, .int .i64 v2), (21, .isl 2 (a1.map e_QFileBatch) false), (20, .int .i64 ((a0.getD v2.toNat default).f_Time)), (19, .iptr 2 (a0.map e_QFileBatch) v2.toNat 0), (18, .iptr 2 (a0.map e_QFileBatch) v2.toNat 0), (17, .int .i64 v2), (16, .isl 2 (a0.map e_QFileBatch) false), (5, .int .i64 v2), (15, .int .i64 v2), (14, .bool (decide (v2 < ((a0.map e_QFileBatch).length : Int)))), (0, .isl 2 (a0.map e_QFileBatch) false), (1, .isl 2 (a1.map e_QFileBatch) false), (12, .int .i64 ((a0.map e_QFileBatch).length : Int)), (13, .int .i64 v2)] _ _
    refine And.intro (fun hp => hp) ?_
    refine Exists.intro (e_QFileBatch (a0.getD v2.toNat default)) (And.intro (fun hp => And.intro (getD_enc e_QFileBatch _ _ (idx_ltL e_QFileBatch (h19 hp))) (And.intro hp (And.intro (idx_lt (h19 hp)) (Nat.le_of_ble_eq_true rfl)))) ?_)
    obtain ⟨h20, h⟩ := ite_some h
    refine And.intro (fun hp => (And.intro (And.intro hp hp) (h20 hp))) ?_
    show yops _ _ _ [(35, .cnd (((a0.getD v2.toNat default).f_Time != (a1.getD v2.toNat default).f_Time) == false) (.iptr 2 (a1.map e_QFileBatch) v2.toNat 0)), (34, .cnd (((a0.getD v2.toNat default).f_Time != (a1.getD v2.toNat default).f_Time) == false) (.int .i64 v2)), (33, .cnd (((a0.getD v2.toNat default).f_Time != (a1.getD v2.toNat default).f_Time) == false) (.isl 2 (a1.map e_QFileBatch) false)), (32, .cnd (((a0.getD v2.toNat default).f_Time != (a1.getD v2.toNat default).f_Time) == false) (.isl 3 (((a0.getD v2.toNat default).f_Events).map e_QFileEvent) false)), (31, .cnd (((a0.getD v2.toNat default).f_Time != (a1.getD v2.toNat default).f_Time) == false) (.iptr 2 (a0.map e_QFileBatch) v2.toNat 1)), (30, .cnd (((a0.getD v2.toNat default).f_Time != (a1.getD v2.toNat default).f_Time) == false) (.iptr 2 (a0.map e_QFileBatch) v2.toNat 0)), (29, .cnd (((a0.getD v2.toNat default).f_Time != (a1.getD v2.toNat default).f_Time) == false) (.int .i64 v2)), (28, .cnd (((a0.getD v2.toNat default).f_Time != (a1.getD v2.toNat default).f_Time) == false) (.isl 2 (a0.map e_QFileBatch) false)), (27, .bool ((a0.getD v2.toNat default).f_Time != (a1.getD v2.toNat default).f_Time)), (26, .bool ((a0.getD v2.toNat default).f_Time != (a1.getD v2.toNat default).f_Time)), (25, .int .i64 ((a1.getD v2.toNat default).f_Time)), (24, .iptr 2 (a1.map e_QFileBatch) v2.toNat 0), (23, .iptr 2 (a1.map e_QFileBatch) v2.toNat 0), (22, .int .i64 v2), (21, .isl 2 (a1.map e_QFileBatch) false), (20, .int .i64 ((a0.getD v2.toNat default).f_Time)), (19, .iptr 2 (a0.map e_QFileBatch) v2.toNat 0), (18, .iptr 2 (a0.map e_QFileBatch) v2.toNat 0), (17, .int .i64 v2), (16, .isl 2 (a0.map e_QFileBatch) false), (5, .int .i64 v2), (15, .int .i64 v2), (14, .bool (decide (v2 < ((a0.map e_QFileBatch).length : Int)))), (0, .isl 2 (a0.map e_QFileBatch) false), (1, .isl 2 (a1.map e_QFileBatch) false), (12, .int .i64 ((a0.map e_QFileBatch).length : Int)), (13, .int .i64 v2)] _ _
    refine And.intro (fun hp => hp) ?_
    refine Exists.intro (e_QFileBatch (a1.getD v2.toNat default)) (And.intro (fun hp => And.intro (getD_enc e_QFileBatch _ _ (idx_ltL e_QFileBatch (h20 hp))) (And.intro hp (And.intro (idx_lt (h20 hp)) (Nat.le_of_ble_eq_true rfl)))) ?_)
    obtain ⟨v4, h21, h⟩ := bind_some h
    refine Or.inl (Exists.intro (.bool v4) (And.intro (fun hp => And.intro (And.intro hp hp) (PFn.call (f22_ok (ite_tt hp h21)) (And.intro (Vw.same _ rfl) (And.intro (Vw.same _ rfl) trivial)) (And.intro rfl (And.intro rfl rfl)))) ?_))
    refine And.intro (fun hp => hp) ?_
    refine And.intro (fun hc => (bqf hc)) ?_
    show yops _ _ _ [(40, .bool (((a0.getD v2.toNat default).f_Time != (a1.getD v2.toNat default).f_Time) || (!v4))), (39, .cnd (((a0.getD v2.toNat default).f_Time != (a1.getD v2.toNat default).f_Time) == false) (.bool (!v4))), (38, .cnd (((a0.getD v2.toNat default).f_Time != (a1.getD v2.toNat default).f_Time) == false) (.bool v4)), (37, .cnd (((a0.getD v2.toNat default).f_Time != (a1.getD v2.toNat default).f_Time) == false) (.isl 3 (((a1.getD v2.toNat default).f_Events).map e_QFileEvent) false)), (36, .cnd (((a0.getD v2.toNat default).f_Time != (a1.getD v2.toNat default).f_Time) == false) (.iptr 2 (a1.map e_QFileBatch) v2.toNat 1)), (35, .cnd (((a0.getD v2.toNat default).f_Time != (a1.getD v2.toNat default).f_Time) == false) (.iptr 2 (a1.map e_QFileBatch) v2.toNat 0)), (34, .cnd (((a0.getD v2.toNat default).f_Time != (a1.getD v2.toNat default).f_Time) == false) (.int .i64 v2)), (33, .cnd (((a0.getD v2.toNat default).f_Time != (a1.getD v2.toNat default).f_Time) == false) (.isl 2 (a1.map e_QFileBatch) false)), (32, .cnd (((a0.getD v2.toNat default).f_Time != (a1.getD v2.toNat default).f_Time) == false) (.isl 3 (((a0.getD v2.toNat default).f_Events).map e_QFileEvent) false)), (31, .cnd (((a0.getD v2.toNat default).f_Time != (a1.getD v2.toNat default).f_Time) == false) (.iptr 2 (a0.map e_QFileBatch) v2.toNat 1)), (30, .cnd (((a0.getD v2.toNat default).f_Time != (a1.getD v2.toNat default).f_Time) == false) (.iptr 2 (a0.map e_QFileBatch) v2.toNat 0)), (29, .cnd (((a0.getD v2.toNat default).f_Time != (a1.getD v2.toNat default).f_Time) == false) (.int .i64 v2)), (28, .cnd (((a0.getD v2.toNat default).f_Time != (a1.getD v2.toNat default).f_Time) == false) (.isl 2 (a0.map e_QFileBatch) false)), (27, .bool ((a0.getD v2.toNat default).f_Time != (a1.getD v2.toNat default).f_Time)), (26, .bool ((a0.getD v2.toNat default).f_Time != (a1.getD v2.toNat default).f_Time)), (25, .int .i64 ((a1.getD v2.toNat default).f_Time)), (24, .iptr 2 (a1.map e_QFileBatch) v2.toNat 0), (23, .iptr 2 (a1.map e_QFileBatch) v2.toNat 0), (22, .int .i64 v2), (21, .isl 2 (a1.map e_QFileBatch) false), (20, .int .i64 ((a0.getD v2.toNat default).f_Time)), (19, .iptr 2 (a0.map e_QFileBatch) v2.toNat 0), (18, .iptr 2 (a0.map e_QFileBatch) v2.toNat 0), (17, .int .i64 v2), (16, .isl 2 (a0.map e_QFileBatch) false), (5, .int .i64 v2), (15, .int .i64 v2), (14, .bool (decide (v2 < ((a0.map e_QFileBatch).length : Int)))), (0, .isl 2 (a0.map e_QFileBatch) false), (1, .isl 2 (a1.map e_QFileBatch) false), (12, .int .i64 ((a0.map e_QFileBatch).length : Int)), (13, .int .i64 v2)] _ _
    refine LWp.sim (e := [(0, .isl 2 (a0.map e_QFileBatch) false), (1, .isl 2 (a1.map e_QFileBatch) false), (12, .int .i64 ((a0.map e_QFileBatch).length : Int)), (13, .int .i64 v2), (40, .bool (((a0.getD v2.toNat default).f_Time != (a1.getD v2.toNat default).f_Time) || (!v4)))]) (L := []) (n := 0) ?_ ?_
    · exact simI (M := []) rfl (And.intro (Vw.same _ rfl) (And.intro (Vw.same _ rfl) (And.intro (Vw.same _ rfl) (And.intro (Vw.same _ rfl) (And.intro (Vw.same _ rfl) trivial))))) trivial
    refine condI (v := (((a0.getD v2.toNat default).f_Time != (a1.getD v2.toNat default).f_Time) || (!v4))) rfl trivial (fun h22 => ?_) (fun h22 => ?_)
    · have h := ite_tt h22 h
      refine seqI ?_
      refine regI ?_
      refine retI ?_
      obtain ⟨o, hq, rfl⟩ := Option.map_eq_some_iff.1 h
      replace h := hq; clear hq
      refine And.intro nofun ?_
      cases h
      exact And.intro trivial (And.intro rfl (Vw.same _ rfl))
    · have h := ite_ff h22 h
      refine skipI ?_
      refine regI ?_
      cases h
      exact And.intro rfl (simI (M := []) rfl (And.intro (Vw.same _ rfl) (And.intro (Vw.same _ rfl) (And.intro (Vw.same _ rfl) (And.intro (Vw.same _ rfl) trivial)))) trivial)
  · have h := ite_ff h16 h
    refine exitI ?_
    obtain ⟨o, hq, rfl⟩ := Option.map_eq_some_iff.1 h
    replace h := hq; clear hq
    refine And.intro nofun ?_
    refine LWp.sim ?_ (f8_j1_ok h)
    exact simI (M := []) rfl trivial trivial

theorem f8_L1_ok {a0 : List G_QFileBatch} {a1 : List G_QFileBatch} {v2 : Int} {m : Option Nat} {o : Bool} (h : S_glossatorref3_EqualBatches_l1 m a0 a1 v2 = some o) :
    LWp Try.prog f8_lay 0 (.loop f8_c1) (QBlock 0 (QSeq Try.prog f8_lay 0 f8_c0 (f8_Q a0 a1 o))) [(0, .isl 2 (a0.map e_QFileBatch) false), (1, .isl 2 (a1.map e_QFileBatch) false), (12, .int .i64 ((a0.map e_QFileBatch).length : Int)), (13, .int .i64 v2)] [] 0 :=
  LWp_loopM (m := m) (s := (v2 : Int)) (r := o) (fun (s : Int) => S_glossatorref3_EqualBatches_b1 m a0 a1 s) (f8_L1_env a0 a1) (f8_L1_hp a0 a1) (f8_L1_Q a0 a1) (fun s o h => f8_L1_bok h) h

noncomputable def S_glossatorref3_EqualBatches (m : Option Nat) (a0 : List G_QFileBatch) (a1 : List G_QFileBatch) : Option Bool :=
  if (((a0.map e_QFileBatch).length : Int) != ((a1.map e_QFileBatch).length : Int)) = true then
    some false
  else
    S_glossatorref3_EqualBatches_l1 m a0 a1 0

theorem f8_start {a0 : List G_QFileBatch} {a1 : List G_QFileBatch} {m : Option Nat} {o : Bool} (h : S_glossatorref3_EqualBatches m a0 a1 = some o) : LWp Try.prog f8_lay 0 f8_c2 (f8_Q a0 a1 o) (initEnv 0 [.isl 2 (a0.map e_QFileBatch) false, .isl 2 (a1.map e_QFileBatch) false]) [] 0 := by
  unfold S_glossatorref3_EqualBatches at h
  refine seqI ?_
  refine regI ?_
  refine seqI ?_
  refine seqI ?_
  refine regI ?_
  refine condI (v := (((a0.map e_QFileBatch).length : Int) != ((a1.map e_QFileBatch).length : Int))) rfl trivial (fun h1 => ?_) (fun h1 => ?_)
  · have h := ite_tt h1 h
    refine seqI ?_
    refine regI ?_
    refine retI ?_
    cases h
    exact And.intro trivial (And.intro rfl (Vw.same _ rfl))
  · have h := ite_ff h1 h
    refine skipI ?_
    refine seqI ?_
    refine seqI ?_
    refine regI ?_
    refine LWp.sim (e := [(0, .isl 2 (a0.map e_QFileBatch) false), (1, .isl 2 (a1.map e_QFileBatch) false), (12, .int .i64 ((a0.map e_QFileBatch).length : Int)), (13, .int .i64 0)]) (L := []) (n := 0) ?_ ?_
    · exact simI (M := []) rfl (And.intro (Vw.same _ rfl) (And.intro (Vw.same _ rfl) (And.intro (Vw.same _ rfl) (And.intro (Vw.same _ rfl) trivial)))) trivial
    refine blockI ?_
    refine LWp.sim ?_ (f8_L1_ok h)
    exact simI (M := []) rfl (And.intro (Vw.same _ rfl) (And.intro (Vw.same _ rfl) (And.intro (Vw.same _ rfl) (And.intro (Vw.same _ rfl) trivial)))) trivial

theorem f8_ok {a0 : List G_QFileBatch} {a1 : List G_QFileBatch} {m : Option Nat} {o : Bool} (h : S_glossatorref3_EqualBatches m a0 a1 = some o) : PFn Try.prog 8 [.isl 2 (a0.map e_QFileBatch) false, .isl 2 (a1.map e_QFileBatch) false] (.bool o) := PFn.ofFnW (L := f8_L) f8_low f8_fok (Nat.le_of_ble_eq_true rfl) rfl (f8_start h)

def f20b1_c0 : LCode := (.seq (.region [⟨some 3, .box (.t 1), none⟩,
   ⟨some 4, .mv (.c (.int .i64 0)), none⟩])
 (.seq (.block 0
  (.seq (.region [⟨some 6, .faddr 2 (.t 3), none⟩,
    ⟨some 7, .load false 1 (.t 6), none⟩,
    ⟨some 8, .call 26 [(.t 7)], none⟩,
    ⟨some 9, .un .not (.t 8), none⟩,
    ⟨some 5, .mv (.t 9), none⟩])
  (.cond (.t 5)
   (.seq (.region [⟨some 4, .mv (.c (.int .i64 7)), none⟩])
   .ret)
   (.seq (.quiet [⟨some 11, .faddr 0 (.t 3), none⟩,
     ⟨some 12, .load false 1 (.t 11), none⟩,
     ⟨some 13, .bin .lss (.t 12) (.c (.int .i64 0)), none⟩,
     ⟨some 14, .mv (.t 13), none⟩,
     ⟨some 15, .faddr 0 (.t 3), some (14, false)⟩,
     ⟨some 16, .load false 1 (.t 15), some (14, false)⟩,
     ⟨some 17, .bin .gtr (.t 16) (.c (.int .i64 1000000000000)), some (14, false)⟩,
     ⟨some 18, .pick (.t 14) (.c (.bool true)) (.t 17), none⟩,
     ⟨some 19, .mv (.t 18), none⟩,
     ⟨some 20, .faddr 0 (.t 3), some (19, false)⟩,
     ⟨some 21, .load false 1 (.t 20), some (19, false)⟩,
     ⟨some 22, .mv (.t 0), some (19, false)⟩,
     ⟨some 23, .nilck (.t 22), some (19, false)⟩,
     ⟨some 24, .faddr 1 (.t 23), some (19, false)⟩,
     ⟨some 25, .load false 1 (.t 24), some (19, false)⟩,
     ⟨some 26, .bin .lss (.t 21) (.t 25), some (19, false)⟩,
     ⟨some 27, .pick (.t 19) (.c (.bool true)) (.t 26), none⟩,
     ⟨some 10, .mv (.t 27), none⟩])
   (.cond (.t 10)
    (.seq (.region [⟨some 4, .mv (.c (.int .i64 3)), none⟩])
    .ret)
    (.seq (.region [⟨some 29, .mv (.t 0), none⟩,
      ⟨some 30, .faddr 0 (.t 3), none⟩,
      ⟨some 31, .load false 1 (.t 30), none⟩,
      ⟨some 32, .call 32 [(.t 29), (.t 31)], none⟩,
      ⟨some 28, .mv (.t 32), none⟩])
    (.cond (.t 28)
     (.seq (.region [⟨some 4, .mv (.c (.int .i64 8)), none⟩])
     .ret)
     .skip)))))))
 (.seq (.region [⟨some 33, .mv (.t 0), none⟩,
   ⟨some 34, .faddr 0 (.t 3), none⟩,
   ⟨some 35, .load false 1 (.t 34), none⟩,
   ⟨some 36, .nilck (.t 33), none⟩,
   ⟨some 37, .faddr 1 (.t 36), none⟩,
   ⟨none, .store 1 (.t 37) (.t 35), none⟩])
 (.seq (.draw [⟨⟨some 38, .mv (.t 0), none⟩, []⟩,
   ⟨⟨some 39, .mv (.t 0), none⟩, []⟩,
   ⟨⟨some 40, .nilck (.t 39), none⟩, []⟩,
   ⟨⟨some 41, .faddr 2 (.t 40), none⟩, []⟩,
   ⟨⟨some 42, .load false 1 (.t 41), none⟩, []⟩,
   ⟨⟨some 43, .load true 3 (.t 3), none⟩, []⟩,
   ⟨⟨some 44, .mkSl true 3 [(.int .i64 0), (.str []), (.int .i64 0)] 1 [(0, (.t 43))], none⟩, [4]⟩,
   ⟨⟨some 45, .app true 3 32 (.t 42) (.t 44), none⟩, []⟩,
   ⟨⟨some 46, .nilck (.t 38), none⟩, []⟩,
   ⟨⟨some 47, .faddr 2 (.t 46), none⟩, []⟩,
   ⟨⟨none, .store 1 (.t 47) (.t 45), none⟩, []⟩])
 (.seq (.region [⟨some 4, .mv (.c (.int .i64 0)), none⟩])
 .ret)))))
def f20b1_lay : Lay := ⟨48, [], false⟩
def f20b1_res : List LRes := [.t 4]
def f20b1_L : LFn := ⟨2, f20b1_lay, f20b1_c0, f20b1_res⟩
theorem f20b1_low : lowFn Try.prog [] 20 = some f20b1_L := by kernel_rfl
theorem f20b1_fok : FnOk Try.prog 20 := ⟨_, Try.func20, rfl, rfl⟩
noncomputable def S_filewatch_Watcher_Add_20 (m : Option Nat) (a0 : G_QFileEvent) (a1 : Int) (a2 : Int) (a3 : List G_QFileEvent) : Option (Int × Int × (List G_QFileEvent)) :=
  (S_filewatch_validKind m a0.f_Kind).bind fun v1 =>
  if (!v1) = true then
    some (7, a2, a3)
  else
    if (((decide (a0.f_Time < 0)) || (decide (a0.f_Time > 1000000000000))) || (decide (a0.f_Time < a2))) = true then
      some (3, a2, a3)
    else
      (S_filewatch_Watcher_complete m a0.f_Time a1 a2 a3).bind fun v2 =>
      if v2 = true then
        some (8, a2, a3)
      else
        if ((a3 ++ ([a0] : List G_QFileEvent)).map e_QFileEvent).length * 32 ≤ 140737488355328 then
        some (0, a0.f_Time, (a3 ++ ([a0] : List G_QFileEvent)))
        else none

def f20b1_Q (a0 : G_QFileEvent) (a1 : Int) (a2 : Int) (a3 : List G_QFileEvent) (o : Int × Int × (List G_QFileEvent)) : Exit → Env → AHeap → Nat → Prop := FinK f20b1_res (FinTo 3 4 (.int .i64 o.1) [((0, 0), .one [.int .i64 a1, .int .i64 o.2.1, .osl (3, 0) 3 (o.2.2.map e_QFileEvent)]), ((3, 0), .tok)])

theorem f20b1_start {a0 : G_QFileEvent} {a1 : Int} {a2 : Int} {a3 : List G_QFileEvent} {m : Option Nat} {o : Int × Int × (List G_QFileEvent)} (h : S_filewatch_Watcher_Add_20 m a0 a1 a2 a3 = some o) : LWp Try.prog f20b1_lay 3 f20b1_c0 (f20b1_Q a0 a1 a2 a3 o) (initEnv 0 [.ptr (0, 0) 0 0, .agg [.int .i64 a0.f_Time, .str a0.f_Path, .int .i64 a0.f_Kind]]) [((0, 0), .one [.int .i64 a1, .int .i64 a2, .osl (0, 1) 3 (a3.map e_QFileEvent)]), ((0, 1), .tok)] 3 := by
  unfold S_filewatch_Watcher_Add_20 at h
  refine seqI ?_
  refine regI ?_
  refine seqI ?_
  refine blockI ?_
  refine seqI ?_
  refine regI ?_
  obtain ⟨v1, h1, h⟩ := bind_some h
  refine PFn.call (f26_ok h1) (And.intro (Vw.same _ rfl) trivial) ?_
  show yops _ _ _ [(8, .bool v1), (7, .int .i64 a0.f_Kind), (6, .ptr (3, 0) 0 2), (4, .int .i64 0), (3, .ptr (3, 0) 0 0), (0, .ptr (0, 0) 0 0), (1, .agg [.int .i64 a0.f_Time, .str a0.f_Path, .int .i64 a0.f_Kind])] _ _
  refine condI (v := (!v1)) rfl trivial (fun h2 => ?_) (fun h2 => ?_)
  · have h := ite_tt h2 h
    refine seqI ?_
    refine regI ?_
    refine LWp.sim (e := [(4, .int .i64 7)]) (L := [((0, 0), .one [.int .i64 a1, .int .i64 a2, .osl (3, 0) 3 (a3.map e_QFileEvent)]), ((3, 0), .tok)]) (n := 4) ?_ ?_
    · exact simI (M := [((3, 0), (0, 1))]) rfl (And.intro (Vw.same _ rfl) trivial) (And.intro (And.intro rfl (BVw.oneL (And.intro (Vw.same _ rfl) (And.intro (Vw.same _ rfl) (And.intro (Vw.osl _ _ _ _ rfl) trivial))))) (And.intro (And.intro rfl BVw.tok) trivial))
    refine retI ?_
    cases h
    exact And.intro trivial (finI (n' := 4) [((3, 0), (3, 0))] [] rfl rfl (Vw.same _ rfl) (And.intro (And.intro rfl (BVw.oneL (And.intro (Vw.same _ rfl) (And.intro (Vw.same _ rfl) (And.intro (Vw.osl _ _ _ _ rfl) trivial))))) (And.intro (And.intro rfl BVw.tok) trivial)))
  · have h := ite_ff h2 h
    refine seqI ?_
    refine quietI ?_
    refine And.intro (fun hp => hp) ?_
    show yqs _ _ [(16, .cnd ((decide (a0.f_Time < 0)) == false) (.int .i64 a0.f_Time)), (15, .cnd ((decide (a0.f_Time < 0)) == false) (.ptr (3, 0) 0 0)), (14, .bool (decide (a0.f_Time < 0))), (13, .bool (decide (a0.f_Time < 0))), (12, .int .i64 a0.f_Time), (11, .ptr (3, 0) 0 0), (5, .bool (!v1)), (9, .bool (!v1)), (8, .bool v1), (7, .int .i64 a0.f_Kind), (6, .ptr (3, 0) 0 2), (4, .int .i64 0), (3, .ptr (3, 0) 0 0), (0, .ptr (0, 0) 0 0), (1, .agg [.int .i64 a0.f_Time, .str a0.f_Path, .int .i64 a0.f_Kind])] _ _
    refine And.intro (fun hp => hp) ?_
    refine And.intro (fun hc => (bqf hc)) ?_
    refine And.intro (fun hp => hp) ?_
    show yqs _ _ [(21, .cnd (((decide (a0.f_Time < 0)) || (decide (a0.f_Time > 1000000000000))) == false) (.int .i64 a0.f_Time)), (20, .cnd (((decide (a0.f_Time < 0)) || (decide (a0.f_Time > 1000000000000))) == false) (.ptr (3, 0) 0 0)), (19, .bool ((decide (a0.f_Time < 0)) || (decide (a0.f_Time > 1000000000000)))), (18, .bool ((decide (a0.f_Time < 0)) || (decide (a0.f_Time > 1000000000000)))), (17, .cnd ((decide (a0.f_Time < 0)) == false) (.bool (decide (a0.f_Time > 1000000000000)))), (16, .cnd ((decide (a0.f_Time < 0)) == false) (.int .i64 a0.f_Time)), (15, .cnd ((decide (a0.f_Time < 0)) == false) (.ptr (3, 0) 0 0)), (14, .bool (decide (a0.f_Time < 0))), (13, .bool (decide (a0.f_Time < 0))), (12, .int .i64 a0.f_Time), (11, .ptr (3, 0) 0 0), (5, .bool (!v1)), (9, .bool (!v1)), (8, .bool v1), (7, .int .i64 a0.f_Kind), (6, .ptr (3, 0) 0 2), (4, .int .i64 0), (3, .ptr (3, 0) 0 0), (0, .ptr (0, 0) 0 0), (1, .agg [.int .i64 a0.f_Time, .str a0.f_Path, .int .i64 a0.f_Kind])] _ _
    refine And.intro (fun hp => hp) ?_
    refine And.intro (fun hp => hp) ?_
    refine And.intro (fun hp => hp) ?_
    refine And.intro (fun hp => (And.intro hp hp)) ?_
    show yqs _ _ [(26, .cnd (((decide (a0.f_Time < 0)) || (decide (a0.f_Time > 1000000000000))) == false) (.bool (decide (a0.f_Time < a2)))), (25, .cnd (((decide (a0.f_Time < 0)) || (decide (a0.f_Time > 1000000000000))) == false) (.int .i64 a2)), (24, .cnd (((decide (a0.f_Time < 0)) || (decide (a0.f_Time > 1000000000000))) == false) (.ptr (0, 0) 0 1)), (23, .cnd (((decide (a0.f_Time < 0)) || (decide (a0.f_Time > 1000000000000))) == false) (.ptr (0, 0) 0 0)), (22, .cnd (((decide (a0.f_Time < 0)) || (decide (a0.f_Time > 1000000000000))) == false) (.ptr (0, 0) 0 0)), (21, .cnd (((decide (a0.f_Time < 0)) || (decide (a0.f_Time > 1000000000000))) == false) (.int .i64 a0.f_Time)), (20, .cnd (((decide (a0.f_Time < 0)) || (decide (a0.f_Time > 1000000000000))) == false) (.ptr (3, 0) 0 0)), (19, .bool ((decide (a0.f_Time < 0)) || (decide (a0.f_Time > 1000000000000)))), (18, .bool ((decide (a0.f_Time < 0)) || (decide (a0.f_Time > 1000000000000)))), (17, .cnd ((decide (a0.f_Time < 0)) == false) (.bool (decide (a0.f_Time > 1000000000000)))), (16, .cnd ((decide (a0.f_Time < 0)) == false) (.int .i64 a0.f_Time)), (15, .cnd ((decide (a0.f_Time < 0)) == false) (.ptr (3, 0) 0 0)), (14, .bool (decide (a0.f_Time < 0))), (13, .bool (decide (a0.f_Time < 0))), (12, .int .i64 a0.f_Time), (11, .ptr (3, 0) 0 0), (5, .bool (!v1)), (9, .bool (!v1)), (8, .bool v1), (7, .int .i64 a0.f_Kind), (6, .ptr (3, 0) 0 2), (4, .int .i64 0), (3, .ptr (3, 0) 0 0), (0, .ptr (0, 0) 0 0), (1, .agg [.int .i64 a0.f_Time, .str a0.f_Path, .int .i64 a0.f_Kind])] _ _
    refine And.intro (fun hc => (bqf hc)) ?_
    refine LWp.sim (e := [(0, .ptr (0, 0) 0 0), (3, .ptr (3, 0) 0 0), (10, .bool (((decide (a0.f_Time < 0)) || (decide (a0.f_Time > 1000000000000))) || (decide (a0.f_Time < a2))))]) (L := [((0, 0), .one [.int .i64 a1, .int .i64 a2, .osl (4, 0) 3 (a3.map e_QFileEvent)]), ((3, 0), .one [.int .i64 a0.f_Time, .str a0.f_Path, .int .i64 a0.f_Kind]), ((4, 0), .tok)]) (n := 5) ?_ ?_
    · exact simI (M := [((3, 0), (3, 0)), ((4, 0), (0, 1))]) rfl (And.intro (Vw.ptr _ _ _ _ rfl) (And.intro (Vw.ptr _ _ _ _ rfl) (And.intro (Vw.same _ rfl) trivial))) (And.intro (And.intro rfl (BVw.oneL (And.intro (Vw.same _ rfl) (And.intro (Vw.same _ rfl) (And.intro (Vw.osl _ _ _ _ rfl) trivial))))) (And.intro (And.intro rfl (BVw.oneL (And.intro (Vw.same _ rfl) (And.intro (Vw.same _ rfl) (And.intro (Vw.same _ rfl) trivial))))) (And.intro (And.intro rfl BVw.tok) trivial)))
    refine condI (v := (((decide (a0.f_Time < 0)) || (decide (a0.f_Time > 1000000000000))) || (decide (a0.f_Time < a2)))) rfl trivial (fun h3 => ?_) (fun h3 => ?_)
    · have h := ite_tt h3 h
      refine seqI ?_
      refine regI ?_
      refine retI ?_
      cases h
      exact And.intro trivial (finI (n' := 5) [((3, 0), (4, 0))] [] rfl rfl (Vw.same _ rfl) (And.intro (And.intro rfl (BVw.oneL (And.intro (Vw.same _ rfl) (And.intro (Vw.same _ rfl) (And.intro (Vw.osl _ _ _ _ rfl) trivial))))) (And.intro (And.intro rfl BVw.tok) trivial)))
    · have h := ite_ff h3 h
      refine seqI ?_
      refine regI ?_
      obtain ⟨v2, h4, h⟩ := bind_some h
      refine bcall (k := 3) (m := 1) (L' := [((0, 0), .one [.int .i64 a1, .int .i64 a2, .osl (5, 0) 3 (a3.map e_QFileEvent)]), ((5, 0), .tok)]) (rest := [((3, 0), .one [.int .i64 a0.f_Time, .str a0.f_Path, .int .i64 a0.f_Kind])]) (R' := .bool v2) [((0, 0), (0, 0)), ((0, 1), (4, 0))] (f32b0_ok h4) rfl rfl rfl (And.intro (Vw.ptr _ _ _ _ rfl) (And.intro (Vw.same _ rfl) trivial)) (And.intro (h0I (0, 0) rfl rfl (BVw.oneL (And.intro (Vw.same _ rfl) (And.intro (Vw.same _ rfl) (And.intro (Vw.osl _ _ _ _ rfl) trivial))))) (And.intro (h0I (4, 0) rfl rfl BVw.tok) trivial)) (nid_ren _ rfl) (And.intro rfl (And.intro rfl (And.intro rfl (And.intro rfl trivial)))) rfl ?_
      refine condI (v := v2) rfl trivial (fun h5 => ?_) (fun h5 => ?_)
      · have h := ite_tt h5 h
        refine seqI ?_
        refine regI ?_
        refine retI ?_
        cases h
        exact And.intro trivial (finI (n' := 7) [((3, 0), (5, 0))] [] rfl rfl (Vw.same _ rfl) (And.intro (And.intro rfl (BVw.oneL (And.intro (Vw.same _ rfl) (And.intro (Vw.same _ rfl) (And.intro (Vw.osl _ _ _ _ rfl) trivial))))) (And.intro (And.intro rfl BVw.tok) trivial)))
      · have h := ite_ff h5 h
        refine skipI ?_
        refine seqI ?_
        refine regI ?_
        refine LWp.sim (e := [(0, .ptr (0, 0) 0 0), (3, .ptr (3, 0) 0 0)]) (L := [((0, 0), .one [.int .i64 a1, .int .i64 a0.f_Time, .osl (4, 0) 3 (a3.map e_QFileEvent)]), ((3, 0), .one [.int .i64 a0.f_Time, .str a0.f_Path, .int .i64 a0.f_Kind]), ((4, 0), .tok)]) (n := 5) ?_ ?_
        · exact simI (M := [((3, 0), (3, 0)), ((4, 0), (5, 0))]) rfl (And.intro (Vw.ptr _ _ _ _ rfl) (And.intro (Vw.ptr _ _ _ _ rfl) trivial)) (And.intro (And.intro rfl (BVw.oneL (And.intro (Vw.same _ rfl) (And.intro (Vw.same _ rfl) (And.intro (Vw.osl _ _ _ _ rfl) trivial))))) (And.intro (And.intro rfl (BVw.oneL (And.intro (Vw.same _ rfl) (And.intro (Vw.same _ rfl) (And.intro (Vw.same _ rfl) trivial))))) (And.intro (And.intro rfl BVw.tok) trivial)))
        refine seqI ?_
        refine drawI ?_
        refine And.intro rfl ?_
        obtain ⟨h6, h⟩ := ite_some h
        refine Exists.intro ((a3 ++ ([a0] : List G_QFileEvent)).map e_QFileEvent) (And.intro (app_enc e_QFileEvent a3 ([a0] : List G_QFileEvent)) (And.intro h6 ?_))
        refine LWp.sim (e := []) (L := [((0, 0), .one [.int .i64 a1, .int .i64 a0.f_Time, .osl (3, 0) 3 ((a3 ++ ([a0] : List G_QFileEvent)).map e_QFileEvent)]), ((3, 0), .tok)]) (n := 4) ?_ ?_
        · exact simI (M := [((3, 0), (5, 0))]) rfl trivial (And.intro (And.intro rfl (BVw.oneL (And.intro (Vw.same _ rfl) (And.intro (Vw.same _ rfl) (And.intro (Vw.osl _ _ _ _ rfl) trivial))))) (And.intro (And.intro rfl BVw.tok) trivial))
        refine seqI ?_
        refine regI ?_
        refine retI ?_
        cases h
        exact And.intro trivial (finI (n' := 4) [((3, 0), (3, 0))] [] rfl rfl (Vw.same _ rfl) (And.intro (And.intro rfl (BVw.oneL (And.intro (Vw.same _ rfl) (And.intro (Vw.same _ rfl) (And.intro (Vw.osl _ _ _ _ rfl) trivial))))) (And.intro (And.intro rfl BVw.tok) trivial)))

theorem f20b1_ok {a0 : G_QFileEvent} {a1 : Int} {a2 : Int} {a3 : List G_QFileEvent} {m : Option Nat} {o : Int × Int × (List G_QFileEvent)} (h : S_filewatch_Watcher_Add_20 m a0 a1 a2 a3 = some o) : ACalls Try.prog 20 [.ptr (0, 0) 0 0, .agg [.int .i64 a0.f_Time, .str a0.f_Path, .int .i64 a0.f_Kind]] [((0, 0), .one [.int .i64 a1, .int .i64 a2, .osl (0, 1) 3 (a3.map e_QFileEvent)]), ((0, 1), .tok)] 3 (Gives 4 (.int .i64 o.1) [((0, 0), .one [.int .i64 a1, .int .i64 o.2.1, .osl (3, 0) 3 (o.2.2.map e_QFileEvent)]), ((3, 0), .tok)]) := bfn_of (L := f20b1_L) f20b1_low f20b1_fok (Nat.le_of_ble_eq_true rfl) (f20b1_start h)

def f4_c1 : LCode := (.region [⟨some 90, .bin .add (.t 51) (.c (.int .i64 1)), none⟩,
   ⟨some 51, .mv (.t 90), none⟩])
def f4_c2 : LCode := (.seq (.region [⟨some 52, .bin .lss (.t 51) (.t 50), none⟩])
 (.seq (.cond (.t 52)
  .skip
  (.exit 0))
 (.seq (.block 1
  (.seq (.region [⟨some 53, .iaddr 3 (.t 49) (.t 51), none⟩,
    ⟨some 54, .load true 3 (.t 53), none⟩,
    ⟨some 9, .alloc [(.int .i64 0), (.str []), (.int .i64 0)], none⟩,
    ⟨none, .store 3 (.t 9) (.t 54), none⟩])
  (.seq (.region [⟨some 55, .faddr 2 (.t 9), none⟩,
    ⟨some 56, .load false 1 (.t 55), none⟩,
    ⟨some 57, .bin .lss (.t 56) (.c (.int .i64 0)), none⟩])
  (.cond (.t 57)
   (.seq (.region [⟨some 59, .mv (.t 5), none⟩,
     ⟨some 60, .faddr 0 (.t 9), none⟩,
     ⟨some 61, .load false 1 (.t 60), none⟩,
     ⟨some 62, .call 18 [(.t 59), (.t 61)], none⟩,
     ⟨some 58, .mv (.t 62), none⟩,
     ⟨some 63, .ext 0 (.t 58), none⟩,
     ⟨some 64, .ext 1 (.t 58), none⟩,
     ⟨some 10, .alloc [(.int .i64 0), (.isl 3 [] true)], none⟩,
     ⟨none, .store 2 (.t 10) (.t 63), none⟩,
     ⟨some 11, .mv (.t 64), none⟩])
   (.seq (.region [⟨some 66, .mv (.t 7), none⟩,
     ⟨some 67, .faddr 0 (.t 9), none⟩,
     ⟨some 68, .load false 1 (.t 67), none⟩,
     ⟨some 69, .call 19 [(.t 66), (.t 68)], none⟩,
     ⟨some 65, .mv (.t 69), none⟩,
     ⟨some 70, .ext 0 (.t 65), none⟩,
     ⟨some 71, .ext 1 (.t 65), none⟩,
     ⟨some 12, .alloc [(.int .i64 0), (.isl 3 [] true)], none⟩,
     ⟨none, .store 2 (.t 12) (.t 70), none⟩,
     ⟨some 13, .mv (.t 71), none⟩])
   (.seq (.region [⟨some 72, .mv (.t 11), none⟩,
     ⟨some 73, .mv (.t 13), none⟩,
     ⟨some 74, .eq true .bool (.t 72) (.t 73), none⟩,
     ⟨some 75, .mv (.t 74), none⟩,
     ⟨some 76, .load true 2 (.t 10), some (75, false)⟩,
     ⟨some 77, .mkSl true 2 [(.int .i64 0), (.isl 3 [] true)] 1 [(0, (.t 76))], some (75, false)⟩,
     ⟨some 78, .load true 2 (.t 12), some (75, false)⟩,
     ⟨some 79, .mkSl true 2 [(.int .i64 0), (.isl 3 [] true)] 1 [(0, (.t 78))], some (75, false)⟩,
     ⟨some 80, .call 8 [(.t 77), (.t 79)], some (75, false)⟩,
     ⟨some 81, .un .not (.t 80), some (75, false)⟩,
     ⟨some 82, .pick (.t 75) (.c (.bool true)) (.t 81), none⟩])
   (.cond (.t 82)
    (.seq (.region [⟨some 4, .mv (.c (.bool false)), none⟩])
    .ret)
    .skip))))
   (.seq (.draw [⟨⟨some 83, .mv (.t 5), none⟩, []⟩,
     ⟨⟨some 84, .load true 3 (.t 9), none⟩, []⟩,
     ⟨⟨some 86, .mv (.t 7), none⟩, []⟩,
     ⟨⟨some 87, .load true 3 (.t 9), none⟩, []⟩,
     ⟨⟨some 85, .call 20 [(.t 83), (.t 84)], none⟩, [3]⟩,
     ⟨⟨some 88, .call 21 [(.t 86), (.t 87)], none⟩, []⟩,
     ⟨⟨some 89, .bin .neq (.t 85) (.t 88), none⟩, []⟩])
   (.cond (.t 89)
    (.seq (.region [⟨some 4, .mv (.c (.bool false)), none⟩])
    .ret)
    .skip))))))
 f4_c1)))
def f4_c0 : LCode := (.seq (.region [⟨some 91, .call 5 [], none⟩,
   ⟨some 4, .mv (.t 91), none⟩])
 .ret)
def f4_c3 : LCode := (.seq (.region [⟨some 4, .mv (.c (.bool false)), none⟩])
 (.seq (.seq (.region [⟨some 14, .call 5 [], none⟩,
   ⟨some 15, .un .not (.t 14), none⟩])
 (.cond (.t 15)
  (.seq (.region [⟨some 4, .mv (.c (.bool false)), none⟩])
  .ret)
  .skip))
 (.seq (.region [⟨some 17, .mv (.t 0), none⟩,
   ⟨some 18, .call 17 [(.t 17)], none⟩,
   ⟨some 16, .mv (.t 18), none⟩,
   ⟨some 19, .ext 0 (.t 16), none⟩,
   ⟨some 20, .ext 1 (.t 16), none⟩,
   ⟨some 5, .mv (.t 19), none⟩,
   ⟨some 6, .mv (.t 20), none⟩])
 (.seq (.seq (.region [⟨some 21, .mv (.t 0), none⟩,
   ⟨some 22, .bin .lss (.t 21) (.c (.int .i64 0)), none⟩,
   ⟨some 23, .mv (.t 22), none⟩,
   ⟨some 24, .mv (.t 0), some (23, false)⟩,
   ⟨some 25, .bin .gtr (.t 24) (.c (.int .i64 1000000)), some (23, false)⟩,
   ⟨some 26, .pick (.t 23) (.c (.bool true)) (.t 25), none⟩])
 (.cond (.t 26)
  (.seq (.region [⟨some 27, .call 5 [], none⟩,
    ⟨some 28, .mv (.t 27), none⟩,
    ⟨some 29, .mv (.t 6), some (28, true)⟩,
    ⟨some 30, .bin .eql (.t 29) (.c (.int .i64 1)), some (28, true)⟩,
    ⟨some 31, .pick (.t 28) (.t 30) (.c (.bool false)), none⟩,
    ⟨some 32, .mv (.t 31), none⟩,
    ⟨some 33, .mv (.t 5), some (32, true)⟩,
    ⟨some 34, .eq false .ptr (.t 33) (.c (.val (.pointer none))), some (32, true)⟩,
    ⟨some 35, .pick (.t 32) (.t 34) (.c (.bool false)), none⟩,
    ⟨some 4, .mv (.t 35), none⟩])
  .ret)
  .skip))
 (.seq (.seq (.region [⟨some 36, .mv (.t 6), none⟩,
   ⟨some 37, .bin .neq (.t 36) (.c (.int .i64 0)), none⟩,
   ⟨some 38, .mv (.t 37), none⟩,
   ⟨some 39, .mv (.t 5), some (38, false)⟩,
   ⟨some 40, .eq false .ptr (.t 39) (.c (.val (.pointer none))), some (38, false)⟩,
   ⟨some 41, .pick (.t 38) (.c (.bool true)) (.t 40), none⟩])
 (.cond (.t 41)
  (.seq (.region [⟨some 4, .mv (.c (.bool false)), none⟩])
  .ret)
  .skip))
 (.seq (.region [⟨some 42, .mv (.t 0), none⟩,
   ⟨some 43, .build [(.int .i64 0), (.int .i64 0), (.isl 3 [] true)] [(0, 1, (.t 42))], none⟩,
   ⟨some 44, .box (.t 43), none⟩,
   ⟨some 7, .mv (.t 44), none⟩])
 (.seq (.seq (.region [⟨some 45, .mv (.t 1), none⟩,
   ⟨some 46, .mv (.t 1), none⟩,
   ⟨some 47, .len false (.t 46), none⟩,
   ⟨some 48, .mnx false [(.t 47), (.c (.int .i64 40))], none⟩,
   ⟨some 49, .slSl 3 (.t 45) none (some (.t 48)) none, none⟩,
   ⟨some 50, .len false (.t 49), none⟩,
   ⟨some 51, .mv (.c (.int .i64 0)), none⟩])
 (.block 0
  (.loop
   f4_c2)))
 f4_c0)))))))
def f4_lay : Lay := ⟨92, [], false⟩
def f4_res : List LRes := [.t 4]
def f4_L : LFn := ⟨2, f4_lay, f4_c3, f4_res⟩
theorem f4_low : lowFn Try.prog [] 4 = some f4_L := by kernel_rfl
theorem f4_fok : FnOk Try.prog 4 := ⟨_, Try.func4, rfl, rfl⟩
def f4_Q (a0 : Int) (a1 : List G_QFileEvent) (o : Bool) : Exit → Env → AHeap → Nat → Prop := FinK f4_res (PureEnd (.bool o))

def f4_L1_env (a0 : Int) (a1 : List G_QFileEvent) (s : (Int × Int × (List G_QFileEvent))) : Env := [(5, .val (.pointer none)), (7, .ptr (0, 0) 0 0), (49, .isl 3 ((a1.take (if 40 < ((a1.map e_QFileEvent).length : Int) then 40 else ((a1.map e_QFileEvent).length : Int)).toNat).map e_QFileEvent) false), (50, .int .i64 (((a1.take (if 40 < ((a1.map e_QFileEvent).length : Int) then 40 else ((a1.map e_QFileEvent).length : Int)).toNat).map e_QFileEvent).length : Int)), (51, .int .i64 s.1)]
def f4_L1_hp (a0 : Int) (a1 : List G_QFileEvent) (s : (Int × Int × (List G_QFileEvent))) : AHeap := [((0, 0), .one [.int .i64 a0, .int .i64 s.2.1, .osl (1, 0) 3 (s.2.2.map e_QFileEvent)]), ((1, 0), .tok)]
def f4_L1_Q (a0 : Int) (a1 : List G_QFileEvent) (o : Bool) : Exit → Env → AHeap → Nat → Prop := (QBlock 0 (QSeq Try.prog f4_lay 0 f4_c0 (f4_Q a0 a1 o)))

noncomputable def S_glossatorlaw3_FilewatchWatcher_j3 (m : Option Nat) (a0 : Int) (a1 : List G_QFileEvent) (v8 : Int) (v14 : Int × Int × (List G_QFileEvent)) : Option ((Int × Int × (List G_QFileEvent)) ⊕ Bool) :=
  some (.inl ((W (v8 + 1)), v14.2.1, v14.2.2))

theorem f4_j3_ok {a0 : Int} {a1 : List G_QFileEvent} {v8 : Int} {v14 : Int × Int × (List G_QFileEvent)} {m : Option Nat} {o : ((Int × Int × (List G_QFileEvent)) ⊕ Bool)} (h : S_glossatorlaw3_FilewatchWatcher_j3 m a0 a1 v8 v14 = some o) :
    LWp Try.prog f4_lay 0 f4_c1 (BodyQ 0 2 (f4_L1_env a0 a1) (f4_L1_hp a0 a1) (f4_L1_Q a0 a1) o) [(5, .val (.pointer none)), (7, .ptr (0, 0) 0 0), (49, .isl 3 ((a1.take (if 40 < ((a1.map e_QFileEvent).length : Int) then 40 else ((a1.map e_QFileEvent).length : Int)).toNat).map e_QFileEvent) false), (50, .int .i64 (((a1.take (if 40 < ((a1.map e_QFileEvent).length : Int) then 40 else ((a1.map e_QFileEvent).length : Int)).toNat).map e_QFileEvent).length : Int)), (51, .int .i64 v8)] [((0, 0), .one [.int .i64 a0, .int .i64 v14.2.1, .osl (1, 0) 3 (v14.2.2.map e_QFileEvent)]), ((1, 0), .tok)] 2 := by
  unfold S_glossatorlaw3_FilewatchWatcher_j3 at h
  refine regI ?_
  cases h
  exact And.intro rfl (simI (M := [((0, 0), (0, 0)), ((1, 0), (1, 0))]) rfl (And.intro (Vw.same _ rfl) (And.intro (Vw.ptr _ _ _ _ rfl) (And.intro (Vw.same _ rfl) (And.intro (Vw.same _ rfl) (And.intro (Vw.same _ rfl) trivial))))) (And.intro (And.intro rfl (BVw.oneL (And.intro (Vw.same _ rfl) (And.intro (Vw.same _ rfl) (And.intro (Vw.osl _ _ _ _ rfl) trivial))))) (And.intro (And.intro rfl BVw.tok) trivial)))

noncomputable def S_glossatorlaw3_FilewatchWatcher_j4 (m : Option Nat) : Option Bool :=
  (S_glossatorlaw3_watchExample m).bind fun v15 =>
  some v15

noncomputable def S_glossatorlaw3_FilewatchWatcher_b1 (m : Option Nat) (a0 : Int) (a1 : List G_QFileEvent) (v8 : Int) (v9 : Int) (v10 : List G_QFileEvent) : Option ((Int × Int × (List G_QFileEvent)) ⊕ Bool) :=
  if (decide (v8 < (((a1.take (if 40 < ((a1.map e_QFileEvent).length : Int) then 40 else ((a1.map e_QFileEvent).length : Int)).toNat).map e_QFileEvent).length : Int))) = true then
    if (0 : Int) ≤ v8 ∧ v8 < (((a1.take (if 40 < ((a1.map e_QFileEvent).length : Int) then 40 else ((a1.map e_QFileEvent).length : Int)).toNat).map e_QFileEvent).length : Int) then
    if (decide (((a1.take (if 40 < ((a1.map e_QFileEvent).length : Int) then 40 else ((a1.map e_QFileEvent).length : Int)).toNat).getD v8.toNat default).f_Kind < 0)) = true then
      none
    else
      (S_filewatch_Watcher_Add m (G_QFileEvent.mk (((a1.take (if 40 < ((a1.map e_QFileEvent).length : Int) then 40 else ((a1.map e_QFileEvent).length : Int)).toNat).getD v8.toNat default).f_Time) (((a1.take (if 40 < ((a1.map e_QFileEvent).length : Int) then 40 else ((a1.map e_QFileEvent).length : Int)).toNat).getD v8.toNat default).f_Path) (((a1.take (if 40 < ((a1.map e_QFileEvent).length : Int) then 40 else ((a1.map e_QFileEvent).length : Int)).toNat).getD v8.toNat default).f_Kind))).bind fun v13 =>
      (S_glossatorref3_Watcher_Add m (G_QFileEvent.mk (((a1.take (if 40 < ((a1.map e_QFileEvent).length : Int) then 40 else ((a1.map e_QFileEvent).length : Int)).toNat).getD v8.toNat default).f_Time) (((a1.take (if 40 < ((a1.map e_QFileEvent).length : Int) then 40 else ((a1.map e_QFileEvent).length : Int)).toNat).getD v8.toNat default).f_Path) (((a1.take (if 40 < ((a1.map e_QFileEvent).length : Int) then 40 else ((a1.map e_QFileEvent).length : Int)).toNat).getD v8.toNat default).f_Kind)) a0 v9 v10).bind fun v14 =>
      if (v13 != v14.1) = true then
        Option.map Sum.inr (
          some false)
      else
        S_glossatorlaw3_FilewatchWatcher_j3 m a0 a1 v8 v14
    else none
  else
    Option.map Sum.inr (
      S_glossatorlaw3_FilewatchWatcher_j4 m)

noncomputable def S_glossatorlaw3_FilewatchWatcher_l1 (m : Option Nat) (a0 : Int) (a1 : List G_QFileEvent) (v8 : Int) (v9 : Int) (v10 : List G_QFileEvent) : Option Bool := loopM m (fun (s : (Int × Int × (List G_QFileEvent))) => S_glossatorlaw3_FilewatchWatcher_b1 m a0 a1 s.1 s.2.1 s.2.2) (v8, v9, v10)

theorem f4_j4_ok {a0 : Int} {a1 : List G_QFileEvent} {m : Option Nat} {o : Bool} (h : S_glossatorlaw3_FilewatchWatcher_j4 m = some o) :
    LWp Try.prog f4_lay 0 f4_c0 (f4_Q a0 a1 o) [] [] 0 := by
  unfold S_glossatorlaw3_FilewatchWatcher_j4 at h
  refine seqI ?_
  refine regI ?_
  obtain ⟨v15, h26, h⟩ := bind_some h
  refine PFn.call (f5_ok h26) trivial ?_
  refine retI ?_
  cases h
  exact And.intro trivial (And.intro rfl (Vw.same _ rfl))

theorem f4_L1_bok {a0 : Int} {a1 : List G_QFileEvent} {v8 : Int} {v9 : Int} {v10 : List G_QFileEvent} {m : Option Nat} {o : (Int × Int × (List G_QFileEvent)) ⊕ Bool} (h : S_glossatorlaw3_FilewatchWatcher_b1 m a0 a1 v8 v9 v10 = some o) :
    LWp Try.prog f4_lay 0 f4_c2 (BodyQ 0 2 (f4_L1_env a0 a1) (f4_L1_hp a0 a1) (f4_L1_Q a0 a1) o) [(5, .val (.pointer none)), (7, .ptr (0, 0) 0 0), (49, .isl 3 ((a1.take (if 40 < ((a1.map e_QFileEvent).length : Int) then 40 else ((a1.map e_QFileEvent).length : Int)).toNat).map e_QFileEvent) false), (50, .int .i64 (((a1.take (if 40 < ((a1.map e_QFileEvent).length : Int) then 40 else ((a1.map e_QFileEvent).length : Int)).toNat).map e_QFileEvent).length : Int)), (51, .int .i64 v8)] [((0, 0), .one [.int .i64 a0, .int .i64 v9, .osl (1, 0) 3 (v10.map e_QFileEvent)]), ((1, 0), .tok)] 2 := by
  unfold S_glossatorlaw3_FilewatchWatcher_b1 at h
  refine seqI ?_
  refine regI ?_
  refine seqI ?_
  refine condI (v := (decide (v8 < (((a1.take (if 40 < ((a1.map e_QFileEvent).length : Int) then 40 else ((a1.map e_QFileEvent).length : Int)).toNat).map e_QFileEvent).length : Int)))) rfl trivial (fun h20 => ?_) (fun h20 => ?_)
  · have h := ite_tt h20 h
    refine skipI ?_
    refine seqI ?_
    refine blockI ?_
    refine seqI ?_
    refine regI ?_
    obtain ⟨h21, h⟩ := ite_some h
    refine And.intro h21 ?_
    refine Exists.intro (e_QFileEvent ((a1.take (if 40 < ((a1.map e_QFileEvent).length : Int) then 40 else ((a1.map e_QFileEvent).length : Int)).toNat).getD v8.toNat default)) (And.intro (getD_enc e_QFileEvent _ _ (idx_ltL e_QFileEvent h21)) (And.intro (And.intro (idx_lt h21) (Nat.le_of_ble_eq_true rfl)) ?_))
    refine seqI ?_
    refine regI ?_
    refine LWp.sim (e := [(5, .val (.pointer none)), (7, .ptr (0, 0) 0 0), (9, .ptr (1, 0) 0 0), (49, .isl 3 ((a1.take (if 40 < ((a1.map e_QFileEvent).length : Int) then 40 else ((a1.map e_QFileEvent).length : Int)).toNat).map e_QFileEvent) false), (50, .int .i64 (((a1.take (if 40 < ((a1.map e_QFileEvent).length : Int) then 40 else ((a1.map e_QFileEvent).length : Int)).toNat).map e_QFileEvent).length : Int)), (51, .int .i64 v8), (57, .bool (decide (((a1.take (if 40 < ((a1.map e_QFileEvent).length : Int) then 40 else ((a1.map e_QFileEvent).length : Int)).toNat).getD v8.toNat default).f_Kind < 0)))]) (L := [((0, 0), .one [.int .i64 a0, .int .i64 v9, .osl (2, 0) 3 (v10.map e_QFileEvent)]), ((1, 0), .one [.int .i64 (((a1.take (if 40 < ((a1.map e_QFileEvent).length : Int) then 40 else ((a1.map e_QFileEvent).length : Int)).toNat).getD v8.toNat default).f_Time), .str (((a1.take (if 40 < ((a1.map e_QFileEvent).length : Int) then 40 else ((a1.map e_QFileEvent).length : Int)).toNat).getD v8.toNat default).f_Path), .int .i64 (((a1.take (if 40 < ((a1.map e_QFileEvent).length : Int) then 40 else ((a1.map e_QFileEvent).length : Int)).toNat).getD v8.toNat default).f_Kind)]), ((2, 0), .tok)]) (n := 3) ?_ ?_
    · exact simI (M := [((0, 0), (0, 0)), ((1, 0), (2, 0)), ((2, 0), (1, 0))]) rfl (And.intro (Vw.same _ rfl) (And.intro (Vw.ptr _ _ _ _ rfl) (And.intro (Vw.ptr _ _ _ _ rfl) (And.intro (Vw.same _ rfl) (And.intro (Vw.same _ rfl) (And.intro (Vw.same _ rfl) (And.intro (Vw.same _ rfl) trivial))))))) (And.intro (And.intro rfl (BVw.oneL (And.intro (Vw.same _ rfl) (And.intro (Vw.same _ rfl) (And.intro (Vw.osl _ _ _ _ rfl) trivial))))) (And.intro (And.intro rfl (BVw.oneL (And.intro (Vw.same _ rfl) (And.intro (Vw.same _ rfl) (And.intro (Vw.same _ rfl) trivial))))) (And.intro (And.intro rfl BVw.tok) trivial)))
    refine condI (v := (decide (((a1.take (if 40 < ((a1.map e_QFileEvent).length : Int) then 40 else ((a1.map e_QFileEvent).length : Int)).toNat).getD v8.toNat default).f_Kind < 0))) rfl trivial (fun h22 => ?_) (fun h22 => ?_)
    · have h := ite_tt h22 h
      refine seqI ?_
      refine regI ?_
      cases h
    · have h := ite_ff h22 h
      refine seqI ?_
      refine drawI ?_
      obtain ⟨v13, h23, h⟩ := bind_some h
      refine bcall (k := 3) (m := 0) (L' := []) (rest := [((0, 0), .one [.int .i64 a0, .int .i64 v9, .osl (2, 0) 3 (v10.map e_QFileEvent)]), ((1, 0), .one [.int .i64 (((a1.take (if 40 < ((a1.map e_QFileEvent).length : Int) then 40 else ((a1.map e_QFileEvent).length : Int)).toNat).getD v8.toNat default).f_Time), .str (((a1.take (if 40 < ((a1.map e_QFileEvent).length : Int) then 40 else ((a1.map e_QFileEvent).length : Int)).toNat).getD v8.toNat default).f_Path), .int .i64 (((a1.take (if 40 < ((a1.map e_QFileEvent).length : Int) then 40 else ((a1.map e_QFileEvent).length : Int)).toNat).getD v8.toNat default).f_Kind)]), ((2, 0), .tok)]) (R' := .int .i64 v13) [] (f20b0_ok h23) rfl rfl rfl (And.intro (Vw.same _ rfl) (And.intro (Vw.same _ rfl) trivial)) trivial (nid_ren _ rfl) trivial rfl ?_
      refine And.intro rfl ?_
      obtain ⟨v14, h24, h⟩ := bind_some h
      refine bcall (k := 3) (m := 1) (L' := [((0, 0), .one [.int .i64 a0, .int .i64 v14.2.1, .osl (4, 0) 3 (v14.2.2.map e_QFileEvent)]), ((4, 0), .tok)]) (rest := [((1, 0), .one [.int .i64 (((a1.take (if 40 < ((a1.map e_QFileEvent).length : Int) then 40 else ((a1.map e_QFileEvent).length : Int)).toNat).getD v8.toNat default).f_Time), .str (((a1.take (if 40 < ((a1.map e_QFileEvent).length : Int) then 40 else ((a1.map e_QFileEvent).length : Int)).toNat).getD v8.toNat default).f_Path), .int .i64 (((a1.take (if 40 < ((a1.map e_QFileEvent).length : Int) then 40 else ((a1.map e_QFileEvent).length : Int)).toNat).getD v8.toNat default).f_Kind)])]) (R' := .int .i64 v14.1) [((0, 0), (0, 0)), ((0, 1), (2, 0))] (f21b0_ok h24) rfl rfl rfl (And.intro (Vw.ptr _ _ _ _ rfl) (And.intro (Vw.same _ rfl) trivial)) (And.intro (h0I (0, 0) rfl rfl (BVw.oneL (And.intro (Vw.same _ rfl) (And.intro (Vw.same _ rfl) (And.intro (Vw.osl _ _ _ _ rfl) trivial))))) (And.intro (h0I (2, 0) rfl rfl BVw.tok) trivial)) (nid_ren _ rfl) (And.intro rfl (And.intro rfl (And.intro rfl (And.intro rfl trivial)))) rfl ?_
      show yd _ _ _ _ _ [(88, .int .i64 v14.1), (85, .int .i64 v13), (87, .agg [.int .i64 (((a1.take (if 40 < ((a1.map e_QFileEvent).length : Int) then 40 else ((a1.map e_QFileEvent).length : Int)).toNat).getD v8.toNat default).f_Time), .str (((a1.take (if 40 < ((a1.map e_QFileEvent).length : Int) then 40 else ((a1.map e_QFileEvent).length : Int)).toNat).getD v8.toNat default).f_Path), .int .i64 (((a1.take (if 40 < ((a1.map e_QFileEvent).length : Int) then 40 else ((a1.map e_QFileEvent).length : Int)).toNat).getD v8.toNat default).f_Kind)]), (86, .ptr (0, 0) 0 0), (84, .agg [.int .i64 (((a1.take (if 40 < ((a1.map e_QFileEvent).length : Int) then 40 else ((a1.map e_QFileEvent).length : Int)).toNat).getD v8.toNat default).f_Time), .str (((a1.take (if 40 < ((a1.map e_QFileEvent).length : Int) then 40 else ((a1.map e_QFileEvent).length : Int)).toNat).getD v8.toNat default).f_Path), .int .i64 (((a1.take (if 40 < ((a1.map e_QFileEvent).length : Int) then 40 else ((a1.map e_QFileEvent).length : Int)).toNat).getD v8.toNat default).f_Kind)]), (83, .val (.pointer none)), (5, .val (.pointer none)), (7, .ptr (0, 0) 0 0), (9, .ptr (1, 0) 0 0), (49, .isl 3 ((a1.take (if 40 < ((a1.map e_QFileEvent).length : Int) then 40 else ((a1.map e_QFileEvent).length : Int)).toNat).map e_QFileEvent) false), (50, .int .i64 (((a1.take (if 40 < ((a1.map e_QFileEvent).length : Int) then 40 else ((a1.map e_QFileEvent).length : Int)).toNat).map e_QFileEvent).length : Int)), (51, .int .i64 v8), (57, .bool (decide (((a1.take (if 40 < ((a1.map e_QFileEvent).length : Int) then 40 else ((a1.map e_QFileEvent).length : Int)).toNat).getD v8.toNat default).f_Kind < 0)))] _ _
      refine condI (v := (v13 != v14.1)) rfl trivial (fun h25 => ?_) (fun h25 => ?_)
      · have h := ite_tt h25 h
        refine seqI ?_
        refine regI ?_
        refine LWp.sim (e := [(4, .bool false)]) (L := []) (n := 0) ?_ ?_
        · exact simI (M := []) rfl (And.intro (Vw.same _ rfl) trivial) trivial
        refine retI ?_
        obtain ⟨o, hq, rfl⟩ := Option.map_eq_some_iff.1 h
        replace h := hq; clear hq
        refine And.intro nofun ?_
        cases h
        exact And.intro trivial (And.intro rfl (Vw.same _ rfl))
      · have h := ite_ff h25 h
        refine skipI ?_
        refine LWp.sim ?_ (f4_j3_ok h)
        exact simI (M := [((0, 0), (0, 0)), ((1, 0), (4, 0))]) rfl (And.intro (Vw.same _ rfl) (And.intro (Vw.ptr _ _ _ _ rfl) (And.intro (Vw.same _ rfl) (And.intro (Vw.same _ rfl) (And.intro (Vw.same _ rfl) trivial))))) (And.intro (And.intro rfl (BVw.oneL (And.intro (Vw.same _ rfl) (And.intro (Vw.same _ rfl) (And.intro (Vw.osl _ _ _ _ rfl) trivial))))) (And.intro (And.intro rfl BVw.tok) trivial))
  · have h := ite_ff h20 h
    refine exitI ?_
    obtain ⟨o, hq, rfl⟩ := Option.map_eq_some_iff.1 h
    replace h := hq; clear hq
    refine And.intro nofun ?_
    refine LWp.sim ?_ (f4_j4_ok h)
    exact simI (M := []) rfl trivial trivial

theorem f4_L1_ok {a0 : Int} {a1 : List G_QFileEvent} {v8 : Int} {v9 : Int} {v10 : List G_QFileEvent} {m : Option Nat} {o : Bool} (h : S_glossatorlaw3_FilewatchWatcher_l1 m a0 a1 v8 v9 v10 = some o) :
    LWp Try.prog f4_lay 0 (.loop f4_c2) (QBlock 0 (QSeq Try.prog f4_lay 0 f4_c0 (f4_Q a0 a1 o))) [(5, .val (.pointer none)), (7, .ptr (0, 0) 0 0), (49, .isl 3 ((a1.take (if 40 < ((a1.map e_QFileEvent).length : Int) then 40 else ((a1.map e_QFileEvent).length : Int)).toNat).map e_QFileEvent) false), (50, .int .i64 (((a1.take (if 40 < ((a1.map e_QFileEvent).length : Int) then 40 else ((a1.map e_QFileEvent).length : Int)).toNat).map e_QFileEvent).length : Int)), (51, .int .i64 v8)] [((0, 0), .one [.int .i64 a0, .int .i64 v9, .osl (1, 0) 3 (v10.map e_QFileEvent)]), ((1, 0), .tok)] 2 :=
  LWp_loopM (m := m) (s := ((v8, v9, v10) : (Int × Int × (List G_QFileEvent)))) (r := o) (fun (s : (Int × Int × (List G_QFileEvent))) => S_glossatorlaw3_FilewatchWatcher_b1 m a0 a1 s.1 s.2.1 s.2.2) (f4_L1_env a0 a1) (f4_L1_hp a0 a1) (f4_L1_Q a0 a1) (fun s o h => f4_L1_bok h) h

def f4_L2_env (a0 : Int) (a1 : List G_QFileEvent) (s : (Int × Int × (List G_QFileEvent) × Int × (List G_QFileEvent))) : Env := [(5, .ptr (0, 0) 0 0), (7, .ptr (1, 0) 0 0), (49, .isl 3 ((a1.take (if 40 < ((a1.map e_QFileEvent).length : Int) then 40 else ((a1.map e_QFileEvent).length : Int)).toNat).map e_QFileEvent) false), (50, .int .i64 (((a1.take (if 40 < ((a1.map e_QFileEvent).length : Int) then 40 else ((a1.map e_QFileEvent).length : Int)).toNat).map e_QFileEvent).length : Int)), (51, .int .i64 s.1)]
def f4_L2_hp (a0 : Int) (a1 : List G_QFileEvent) (s : (Int × Int × (List G_QFileEvent) × Int × (List G_QFileEvent))) : AHeap := [((0, 0), .one [.int .i64 a0, .int .i64 s.2.1, .osl (2, 0) 3 (s.2.2.1.map e_QFileEvent)]), ((1, 0), .one [.int .i64 a0, .int .i64 s.2.2.2.1, .osl (3, 0) 3 (s.2.2.2.2.map e_QFileEvent)]), ((2, 0), .tok), ((3, 0), .tok)]
def f4_L2_Q (a0 : Int) (a1 : List G_QFileEvent) (o : Bool) : Exit → Env → AHeap → Nat → Prop := (QBlock 0 (QSeq Try.prog f4_lay 0 f4_c0 (f4_Q a0 a1 o)))

noncomputable def S_glossatorlaw3_FilewatchWatcher_j7 (m : Option Nat) (a0 : Int) (a1 : List G_QFileEvent) (v26 : Int) (v45 : Int) (v46 : List G_QFileEvent) (v47 : Int) (v48 : List G_QFileEvent) : Option ((Int × Int × (List G_QFileEvent) × Int × (List G_QFileEvent)) ⊕ Bool) :=
  some (.inl ((W (v26 + 1)), v45, v46, v47, v48))

theorem f4_j7_ok {a0 : Int} {a1 : List G_QFileEvent} {v26 : Int} {v45 : Int} {v46 : List G_QFileEvent} {v47 : Int} {v48 : List G_QFileEvent} {m : Option Nat} {o : ((Int × Int × (List G_QFileEvent) × Int × (List G_QFileEvent)) ⊕ Bool)} (h : S_glossatorlaw3_FilewatchWatcher_j7 m a0 a1 v26 v45 v46 v47 v48 = some o) :
    LWp Try.prog f4_lay 0 f4_c1 (BodyQ 0 4 (f4_L2_env a0 a1) (f4_L2_hp a0 a1) (f4_L2_Q a0 a1) o) [(5, .ptr (0, 0) 0 0), (7, .ptr (1, 0) 0 0), (49, .isl 3 ((a1.take (if 40 < ((a1.map e_QFileEvent).length : Int) then 40 else ((a1.map e_QFileEvent).length : Int)).toNat).map e_QFileEvent) false), (50, .int .i64 (((a1.take (if 40 < ((a1.map e_QFileEvent).length : Int) then 40 else ((a1.map e_QFileEvent).length : Int)).toNat).map e_QFileEvent).length : Int)), (51, .int .i64 v26)] [((0, 0), .one [.int .i64 a0, .int .i64 v45, .osl (2, 0) 3 (v46.map e_QFileEvent)]), ((1, 0), .one [.int .i64 a0, .int .i64 v47, .osl (3, 0) 3 (v48.map e_QFileEvent)]), ((2, 0), .tok), ((3, 0), .tok)] 4 := by
  unfold S_glossatorlaw3_FilewatchWatcher_j7 at h
  refine regI ?_
  cases h
  exact And.intro rfl (simI (M := [((0, 0), (0, 0)), ((1, 0), (1, 0)), ((2, 0), (2, 0)), ((3, 0), (3, 0))]) rfl (And.intro (Vw.ptr _ _ _ _ rfl) (And.intro (Vw.ptr _ _ _ _ rfl) (And.intro (Vw.same _ rfl) (And.intro (Vw.same _ rfl) (And.intro (Vw.same _ rfl) trivial))))) (And.intro (And.intro rfl (BVw.oneL (And.intro (Vw.same _ rfl) (And.intro (Vw.same _ rfl) (And.intro (Vw.osl _ _ _ _ rfl) trivial))))) (And.intro (And.intro rfl (BVw.oneL (And.intro (Vw.same _ rfl) (And.intro (Vw.same _ rfl) (And.intro (Vw.osl _ _ _ _ rfl) trivial))))) (And.intro (And.intro rfl BVw.tok) (And.intro (And.intro rfl BVw.tok) trivial)))))

noncomputable def S_glossatorlaw3_FilewatchWatcher_j8 (m : Option Nat) : Option Bool :=
  (S_glossatorlaw3_watchExample m).bind fun v49 =>
  some v49

noncomputable def S_glossatorlaw3_FilewatchWatcher_b2 (m : Option Nat) (a0 : Int) (a1 : List G_QFileEvent) (v26 : Int) (v27 : Int) (v28 : List G_QFileEvent) (v29 : Int) (v30 : List G_QFileEvent) : Option ((Int × Int × (List G_QFileEvent) × Int × (List G_QFileEvent)) ⊕ Bool) :=
  if (decide (v26 < (((a1.take (if 40 < ((a1.map e_QFileEvent).length : Int) then 40 else ((a1.map e_QFileEvent).length : Int)).toNat).map e_QFileEvent).length : Int))) = true then
    if (0 : Int) ≤ v26 ∧ v26 < (((a1.take (if 40 < ((a1.map e_QFileEvent).length : Int) then 40 else ((a1.map e_QFileEvent).length : Int)).toNat).map e_QFileEvent).length : Int) then
    if (decide (((a1.take (if 40 < ((a1.map e_QFileEvent).length : Int) then 40 else ((a1.map e_QFileEvent).length : Int)).toNat).getD v26.toNat default).f_Kind < 0)) = true then
      (S_filewatch_Watcher_Poll_18_3 m (((a1.take (if 40 < ((a1.map e_QFileEvent).length : Int) then 40 else ((a1.map e_QFileEvent).length : Int)).toNat).getD v26.toNat default).f_Time) a0 v27 v28).bind fun v40 =>
      (S_glossatorref3_Watcher_Poll m (((a1.take (if 40 < ((a1.map e_QFileEvent).length : Int) then 40 else ((a1.map e_QFileEvent).length : Int)).toNat).getD v26.toNat default).f_Time) a0 v29 v30).bind fun v41 =>
      (if ((!(v40.2.1 == v41.2.1)) == false) = true then S_glossatorref3_EqualBatches m ([(G_QFileBatch.mk v40.1.f_Time v40.1.f_Events)] : List G_QFileBatch) ([(G_QFileBatch.mk v41.1.f_Time v41.1.f_Events)] : List G_QFileBatch) else some default).bind fun v42 =>
      if ((!(v40.2.1 == v41.2.1)) || (!v42)) = true then
        Option.map Sum.inr (
          some false)
      else
        S_glossatorlaw3_FilewatchWatcher_j7 m a0 a1 v26 v40.2.2.1 v40.2.2.2 v41.2.2.1 v41.2.2.2
    else
      (S_filewatch_Watcher_Add_20 m (G_QFileEvent.mk (((a1.take (if 40 < ((a1.map e_QFileEvent).length : Int) then 40 else ((a1.map e_QFileEvent).length : Int)).toNat).getD v26.toNat default).f_Time) (((a1.take (if 40 < ((a1.map e_QFileEvent).length : Int) then 40 else ((a1.map e_QFileEvent).length : Int)).toNat).getD v26.toNat default).f_Path) (((a1.take (if 40 < ((a1.map e_QFileEvent).length : Int) then 40 else ((a1.map e_QFileEvent).length : Int)).toNat).getD v26.toNat default).f_Kind)) a0 v27 v28).bind fun v43 =>
      (S_glossatorref3_Watcher_Add m (G_QFileEvent.mk (((a1.take (if 40 < ((a1.map e_QFileEvent).length : Int) then 40 else ((a1.map e_QFileEvent).length : Int)).toNat).getD v26.toNat default).f_Time) (((a1.take (if 40 < ((a1.map e_QFileEvent).length : Int) then 40 else ((a1.map e_QFileEvent).length : Int)).toNat).getD v26.toNat default).f_Path) (((a1.take (if 40 < ((a1.map e_QFileEvent).length : Int) then 40 else ((a1.map e_QFileEvent).length : Int)).toNat).getD v26.toNat default).f_Kind)) a0 v29 v30).bind fun v44 =>
      if (v43.1 != v44.1) = true then
        Option.map Sum.inr (
          some false)
      else
        S_glossatorlaw3_FilewatchWatcher_j7 m a0 a1 v26 v43.2.1 v43.2.2 v44.2.1 v44.2.2
    else none
  else
    Option.map Sum.inr (
      S_glossatorlaw3_FilewatchWatcher_j8 m)

noncomputable def S_glossatorlaw3_FilewatchWatcher_l2 (m : Option Nat) (a0 : Int) (a1 : List G_QFileEvent) (v26 : Int) (v27 : Int) (v28 : List G_QFileEvent) (v29 : Int) (v30 : List G_QFileEvent) : Option Bool := loopM m (fun (s : (Int × Int × (List G_QFileEvent) × Int × (List G_QFileEvent))) => S_glossatorlaw3_FilewatchWatcher_b2 m a0 a1 s.1 s.2.1 s.2.2.1 s.2.2.2.1 s.2.2.2.2) (v26, v27, v28, v29, v30)

theorem f4_j8_ok {a0 : Int} {a1 : List G_QFileEvent} {m : Option Nat} {o : Bool} (h : S_glossatorlaw3_FilewatchWatcher_j8 m = some o) :
    LWp Try.prog f4_lay 0 f4_c0 (f4_Q a0 a1 o) [] [] 0 := by
  unfold S_glossatorlaw3_FilewatchWatcher_j8 at h
  refine seqI ?_
  refine regI ?_
  obtain ⟨v49, h61, h⟩ := bind_some h
  refine PFn.call (f5_ok h61) trivial ?_
  refine retI ?_
  cases h
  exact And.intro trivial (And.intro rfl (Vw.same _ rfl))

theorem f4_L2_bok {a0 : Int} {a1 : List G_QFileEvent} {v26 : Int} {v27 : Int} {v28 : List G_QFileEvent} {v29 : Int} {v30 : List G_QFileEvent} {m : Option Nat} {o : (Int × Int × (List G_QFileEvent) × Int × (List G_QFileEvent)) ⊕ Bool} (h : S_glossatorlaw3_FilewatchWatcher_b2 m a0 a1 v26 v27 v28 v29 v30 = some o) :
    LWp Try.prog f4_lay 0 f4_c2 (BodyQ 0 4 (f4_L2_env a0 a1) (f4_L2_hp a0 a1) (f4_L2_Q a0 a1) o) [(5, .ptr (0, 0) 0 0), (7, .ptr (1, 0) 0 0), (49, .isl 3 ((a1.take (if 40 < ((a1.map e_QFileEvent).length : Int) then 40 else ((a1.map e_QFileEvent).length : Int)).toNat).map e_QFileEvent) false), (50, .int .i64 (((a1.take (if 40 < ((a1.map e_QFileEvent).length : Int) then 40 else ((a1.map e_QFileEvent).length : Int)).toNat).map e_QFileEvent).length : Int)), (51, .int .i64 v26)] [((0, 0), .one [.int .i64 a0, .int .i64 v27, .osl (2, 0) 3 (v28.map e_QFileEvent)]), ((1, 0), .one [.int .i64 a0, .int .i64 v29, .osl (3, 0) 3 (v30.map e_QFileEvent)]), ((2, 0), .tok), ((3, 0), .tok)] 4 := by
  unfold S_glossatorlaw3_FilewatchWatcher_b2 at h
  refine seqI ?_
  refine regI ?_
  refine seqI ?_
  refine condI (v := (decide (v26 < (((a1.take (if 40 < ((a1.map e_QFileEvent).length : Int) then 40 else ((a1.map e_QFileEvent).length : Int)).toNat).map e_QFileEvent).length : Int)))) rfl trivial (fun h51 => ?_) (fun h51 => ?_)
  · have h := ite_tt h51 h
    refine skipI ?_
    refine seqI ?_
    refine blockI ?_
    refine seqI ?_
    refine regI ?_
    obtain ⟨h52, h⟩ := ite_some h
    refine And.intro h52 ?_
    refine Exists.intro (e_QFileEvent ((a1.take (if 40 < ((a1.map e_QFileEvent).length : Int) then 40 else ((a1.map e_QFileEvent).length : Int)).toNat).getD v26.toNat default)) (And.intro (getD_enc e_QFileEvent _ _ (idx_ltL e_QFileEvent h52)) (And.intro (And.intro (idx_lt h52) (Nat.le_of_ble_eq_true rfl)) ?_))
    refine seqI ?_
    refine regI ?_
    refine LWp.sim (e := [(5, .ptr (0, 0) 0 0), (7, .ptr (1, 0) 0 0), (9, .ptr (2, 0) 0 0), (49, .isl 3 ((a1.take (if 40 < ((a1.map e_QFileEvent).length : Int) then 40 else ((a1.map e_QFileEvent).length : Int)).toNat).map e_QFileEvent) false), (50, .int .i64 (((a1.take (if 40 < ((a1.map e_QFileEvent).length : Int) then 40 else ((a1.map e_QFileEvent).length : Int)).toNat).map e_QFileEvent).length : Int)), (51, .int .i64 v26), (57, .bool (decide (((a1.take (if 40 < ((a1.map e_QFileEvent).length : Int) then 40 else ((a1.map e_QFileEvent).length : Int)).toNat).getD v26.toNat default).f_Kind < 0)))]) (L := [((0, 0), .one [.int .i64 a0, .int .i64 v27, .osl (3, 0) 3 (v28.map e_QFileEvent)]), ((1, 0), .one [.int .i64 a0, .int .i64 v29, .osl (4, 0) 3 (v30.map e_QFileEvent)]), ((2, 0), .one [.int .i64 (((a1.take (if 40 < ((a1.map e_QFileEvent).length : Int) then 40 else ((a1.map e_QFileEvent).length : Int)).toNat).getD v26.toNat default).f_Time), .str (((a1.take (if 40 < ((a1.map e_QFileEvent).length : Int) then 40 else ((a1.map e_QFileEvent).length : Int)).toNat).getD v26.toNat default).f_Path), .int .i64 (((a1.take (if 40 < ((a1.map e_QFileEvent).length : Int) then 40 else ((a1.map e_QFileEvent).length : Int)).toNat).getD v26.toNat default).f_Kind)]), ((3, 0), .tok), ((4, 0), .tok)]) (n := 5) ?_ ?_
    · exact simI (M := [((0, 0), (0, 0)), ((1, 0), (1, 0)), ((2, 0), (4, 0)), ((3, 0), (2, 0)), ((4, 0), (3, 0))]) rfl (And.intro (Vw.ptr _ _ _ _ rfl) (And.intro (Vw.ptr _ _ _ _ rfl) (And.intro (Vw.ptr _ _ _ _ rfl) (And.intro (Vw.same _ rfl) (And.intro (Vw.same _ rfl) (And.intro (Vw.same _ rfl) (And.intro (Vw.same _ rfl) trivial))))))) (And.intro (And.intro rfl (BVw.oneL (And.intro (Vw.same _ rfl) (And.intro (Vw.same _ rfl) (And.intro (Vw.osl _ _ _ _ rfl) trivial))))) (And.intro (And.intro rfl (BVw.oneL (And.intro (Vw.same _ rfl) (And.intro (Vw.same _ rfl) (And.intro (Vw.osl _ _ _ _ rfl) trivial))))) (And.intro (And.intro rfl (BVw.oneL (And.intro (Vw.same _ rfl) (And.intro (Vw.same _ rfl) (And.intro (Vw.same _ rfl) trivial))))) (And.intro (And.intro rfl BVw.tok) (And.intro (And.intro rfl BVw.tok) trivial)))))
    refine condI (v := (decide (((a1.take (if 40 < ((a1.map e_QFileEvent).length : Int) then 40 else ((a1.map e_QFileEvent).length : Int)).toNat).getD v26.toNat default).f_Kind < 0))) rfl trivial (fun h53 => ?_) (fun h53 => ?_)
    · have h := ite_tt h53 h
      refine seqI ?_
      refine regI ?_
      obtain ⟨v40, h54, h⟩ := bind_some h
      refine bcall (k := 3) (m := 1) (L' := [((0, 0), .one [.int .i64 a0, .int .i64 v40.2.2.1, .osl (5, 0) 3 (v40.2.2.2.map e_QFileEvent)]), ((5, 0), .tok)]) (rest := [((1, 0), .one [.int .i64 a0, .int .i64 v29, .osl (4, 0) 3 (v30.map e_QFileEvent)]), ((2, 0), .one [.int .i64 (((a1.take (if 40 < ((a1.map e_QFileEvent).length : Int) then 40 else ((a1.map e_QFileEvent).length : Int)).toNat).getD v26.toNat default).f_Time), .str (((a1.take (if 40 < ((a1.map e_QFileEvent).length : Int) then 40 else ((a1.map e_QFileEvent).length : Int)).toNat).getD v26.toNat default).f_Path), .int .i64 (((a1.take (if 40 < ((a1.map e_QFileEvent).length : Int) then 40 else ((a1.map e_QFileEvent).length : Int)).toNat).getD v26.toNat default).f_Kind)]), ((4, 0), .tok)]) (R' := .tup [.agg [.int .i64 v40.1.f_Time, .isl 3 (v40.1.f_Events.map e_QFileEvent) false], .bool v40.2.1]) [((0, 0), (0, 0)), ((0, 1), (3, 0))] (f18b3_ok h54) rfl rfl rfl (And.intro (Vw.ptr _ _ _ _ rfl) (And.intro (Vw.same _ rfl) trivial)) (And.intro (h0I (0, 0) rfl rfl (BVw.oneL (And.intro (Vw.same _ rfl) (And.intro (Vw.same _ rfl) (And.intro (Vw.osl _ _ _ _ rfl) trivial))))) (And.intro (h0I (3, 0) rfl rfl BVw.tok) trivial)) (nid_ren _ rfl) (And.intro rfl (And.intro rfl (And.intro rfl (And.intro rfl trivial)))) rfl ?_
      refine LWp.sim (e := [(5, .ptr (0, 0) 0 0), (7, .ptr (1, 0) 0 0), (9, .ptr (2, 0) 0 0), (10, .ptr (3, 0) 0 0), (11, .bool v40.2.1), (49, .isl 3 ((a1.take (if 40 < ((a1.map e_QFileEvent).length : Int) then 40 else ((a1.map e_QFileEvent).length : Int)).toNat).map e_QFileEvent) false), (50, .int .i64 (((a1.take (if 40 < ((a1.map e_QFileEvent).length : Int) then 40 else ((a1.map e_QFileEvent).length : Int)).toNat).map e_QFileEvent).length : Int)), (51, .int .i64 v26)]) (L := [((0, 0), .one [.int .i64 a0, .int .i64 v40.2.2.1, .osl (4, 0) 3 (v40.2.2.2.map e_QFileEvent)]), ((1, 0), .one [.int .i64 a0, .int .i64 v29, .osl (5, 0) 3 (v30.map e_QFileEvent)]), ((2, 0), .one [.int .i64 (((a1.take (if 40 < ((a1.map e_QFileEvent).length : Int) then 40 else ((a1.map e_QFileEvent).length : Int)).toNat).getD v26.toNat default).f_Time), .str (((a1.take (if 40 < ((a1.map e_QFileEvent).length : Int) then 40 else ((a1.map e_QFileEvent).length : Int)).toNat).getD v26.toNat default).f_Path), .int .i64 (((a1.take (if 40 < ((a1.map e_QFileEvent).length : Int) then 40 else ((a1.map e_QFileEvent).length : Int)).toNat).getD v26.toNat default).f_Kind)]), ((3, 0), .one [.int .i64 v40.1.f_Time, .isl 3 (v40.1.f_Events.map e_QFileEvent) false]), ((4, 0), .tok), ((5, 0), .tok)]) (n := 6) ?_ ?_
      · exact simI (M := [((0, 0), (0, 0)), ((1, 0), (1, 0)), ((2, 0), (2, 0)), ((3, 0), (7, 0)), ((4, 0), (5, 0)), ((5, 0), (4, 0))]) rfl (And.intro (Vw.ptr _ _ _ _ rfl) (And.intro (Vw.ptr _ _ _ _ rfl) (And.intro (Vw.ptr _ _ _ _ rfl) (And.intro (Vw.ptr _ _ _ _ rfl) (And.intro (Vw.same _ rfl) (And.intro (Vw.same _ rfl) (And.intro (Vw.same _ rfl) (And.intro (Vw.same _ rfl) trivial)))))))) (And.intro (And.intro rfl (BVw.oneL (And.intro (Vw.same _ rfl) (And.intro (Vw.same _ rfl) (And.intro (Vw.osl _ _ _ _ rfl) trivial))))) (And.intro (And.intro rfl (BVw.oneL (And.intro (Vw.same _ rfl) (And.intro (Vw.same _ rfl) (And.intro (Vw.osl _ _ _ _ rfl) trivial))))) (And.intro (And.intro rfl (BVw.oneL (And.intro (Vw.same _ rfl) (And.intro (Vw.same _ rfl) (And.intro (Vw.same _ rfl) trivial))))) (And.intro (And.intro rfl (BVw.oneL (And.intro (Vw.same _ rfl) (And.intro (Vw.same _ rfl) trivial)))) (And.intro (And.intro rfl BVw.tok) (And.intro (And.intro rfl BVw.tok) trivial))))))
      refine seqI ?_
      refine regI ?_
      obtain ⟨v41, h55, h⟩ := bind_some h
      refine bcall (k := 3) (m := 1) (L' := [((1, 0), .one [.int .i64 a0, .int .i64 v41.2.2.1, .osl (6, 0) 3 (v41.2.2.2.map e_QFileEvent)]), ((6, 0), .tok)]) (rest := [((0, 0), .one [.int .i64 a0, .int .i64 v40.2.2.1, .osl (4, 0) 3 (v40.2.2.2.map e_QFileEvent)]), ((2, 0), .one [.int .i64 (((a1.take (if 40 < ((a1.map e_QFileEvent).length : Int) then 40 else ((a1.map e_QFileEvent).length : Int)).toNat).getD v26.toNat default).f_Time), .str (((a1.take (if 40 < ((a1.map e_QFileEvent).length : Int) then 40 else ((a1.map e_QFileEvent).length : Int)).toNat).getD v26.toNat default).f_Path), .int .i64 (((a1.take (if 40 < ((a1.map e_QFileEvent).length : Int) then 40 else ((a1.map e_QFileEvent).length : Int)).toNat).getD v26.toNat default).f_Kind)]), ((3, 0), .one [.int .i64 v40.1.f_Time, .isl 3 (v40.1.f_Events.map e_QFileEvent) false]), ((4, 0), .tok)]) (R' := .tup [.agg [.int .i64 v41.1.f_Time, .isl 3 (v41.1.f_Events.map e_QFileEvent) false], .bool v41.2.1]) [((0, 0), (1, 0)), ((0, 1), (5, 0))] (f19b0_ok h55) rfl rfl rfl (And.intro (Vw.ptr _ _ _ _ rfl) (And.intro (Vw.same _ rfl) trivial)) (And.intro (h0I (1, 0) rfl rfl (BVw.oneL (And.intro (Vw.same _ rfl) (And.intro (Vw.same _ rfl) (And.intro (Vw.osl _ _ _ _ rfl) trivial))))) (And.intro (h0I (5, 0) rfl rfl BVw.tok) trivial)) (nid_ren _ rfl) (And.intro rfl (And.intro rfl (And.intro rfl (And.intro rfl trivial)))) rfl ?_
      refine LWp.sim (e := [(5, .ptr (0, 0) 0 0), (7, .ptr (1, 0) 0 0), (10, .ptr (2, 0) 0 0), (11, .bool v40.2.1), (12, .ptr (3, 0) 0 0), (13, .bool v41.2.1), (49, .isl 3 ((a1.take (if 40 < ((a1.map e_QFileEvent).length : Int) then 40 else ((a1.map e_QFileEvent).length : Int)).toNat).map e_QFileEvent) false), (50, .int .i64 (((a1.take (if 40 < ((a1.map e_QFileEvent).length : Int) then 40 else ((a1.map e_QFileEvent).length : Int)).toNat).map e_QFileEvent).length : Int)), (51, .int .i64 v26)]) (L := [((0, 0), .one [.int .i64 a0, .int .i64 v40.2.2.1, .osl (4, 0) 3 (v40.2.2.2.map e_QFileEvent)]), ((1, 0), .one [.int .i64 a0, .int .i64 v41.2.2.1, .osl (5, 0) 3 (v41.2.2.2.map e_QFileEvent)]), ((2, 0), .one [.int .i64 v40.1.f_Time, .isl 3 (v40.1.f_Events.map e_QFileEvent) false]), ((3, 0), .one [.int .i64 v41.1.f_Time, .isl 3 (v41.1.f_Events.map e_QFileEvent) false]), ((4, 0), .tok), ((5, 0), .tok)]) (n := 6) ?_ ?_
      · exact simI (M := [((0, 0), (0, 0)), ((1, 0), (1, 0)), ((2, 0), (3, 0)), ((3, 0), (8, 0)), ((4, 0), (4, 0)), ((5, 0), (6, 0))]) rfl (And.intro (Vw.ptr _ _ _ _ rfl) (And.intro (Vw.ptr _ _ _ _ rfl) (And.intro (Vw.ptr _ _ _ _ rfl) (And.intro (Vw.same _ rfl) (And.intro (Vw.ptr _ _ _ _ rfl) (And.intro (Vw.same _ rfl) (And.intro (Vw.same _ rfl) (And.intro (Vw.same _ rfl) (And.intro (Vw.same _ rfl) trivial))))))))) (And.intro (And.intro rfl (BVw.oneL (And.intro (Vw.same _ rfl) (And.intro (Vw.same _ rfl) (And.intro (Vw.osl _ _ _ _ rfl) trivial))))) (And.intro (And.intro rfl (BVw.oneL (And.intro (Vw.same _ rfl) (And.intro (Vw.same _ rfl) (And.intro (Vw.osl _ _ _ _ rfl) trivial))))) (And.intro (And.intro rfl (BVw.oneL (And.intro (Vw.same _ rfl) (And.intro (Vw.same _ rfl) trivial)))) (And.intro (And.intro rfl (BVw.oneL (And.intro (Vw.same _ rfl) (And.intro (Vw.same _ rfl) trivial)))) (And.intro (And.intro rfl BVw.tok) (And.intro (And.intro rfl BVw.tok) trivial))))))
      refine seqI ?_
      refine regI ?_
      refine Or.inl (Exists.intro (.isl 2 (([(G_QFileBatch.mk v40.1.f_Time v40.1.f_Events)] : List G_QFileBatch).map e_QFileBatch) true) (And.intro (fun hp => And.intro hp (And.intro rfl (And.intro rfl rfl))) ?_))
      refine Or.inl (Exists.intro (.isl 2 (([(G_QFileBatch.mk v41.1.f_Time v41.1.f_Events)] : List G_QFileBatch).map e_QFileBatch) true) (And.intro (fun hp => And.intro hp (And.intro rfl (And.intro rfl rfl))) ?_))
      obtain ⟨v42, h56, h⟩ := bind_some h
      refine Or.inl (Exists.intro (.bool v42) (And.intro (fun hp => And.intro (And.intro hp hp) (PFn.call (f8_ok (ite_tt hp h56)) (And.intro (Vw.islF _ _ _) (And.intro (Vw.islF _ _ _) trivial)) (And.intro rfl (And.intro rfl rfl)))) ?_))
      refine And.intro (fun hp => hp) ?_
      show yops _ _ _ [(81, .cnd ((!(v40.2.1 == v41.2.1)) == false) (.bool (!v42))), (80, .cnd ((!(v40.2.1 == v41.2.1)) == false) (.bool v42)), (79, .cnd ((!(v40.2.1 == v41.2.1)) == false) (.isl 2 (([(G_QFileBatch.mk v41.1.f_Time v41.1.f_Events)] : List G_QFileBatch).map e_QFileBatch) true)), (78, .cnd ((!(v40.2.1 == v41.2.1)) == false) (.agg [.int .i64 v41.1.f_Time, .isl 3 (v41.1.f_Events.map e_QFileEvent) false])), (77, .cnd ((!(v40.2.1 == v41.2.1)) == false) (.isl 2 (([(G_QFileBatch.mk v40.1.f_Time v40.1.f_Events)] : List G_QFileBatch).map e_QFileBatch) true)), (76, .cnd ((!(v40.2.1 == v41.2.1)) == false) (.agg [.int .i64 v40.1.f_Time, .isl 3 (v40.1.f_Events.map e_QFileEvent) false])), (75, .bool (!(v40.2.1 == v41.2.1))), (74, .bool (!(v40.2.1 == v41.2.1))), (73, .bool v41.2.1), (72, .bool v40.2.1), (5, .ptr (0, 0) 0 0), (7, .ptr (1, 0) 0 0), (10, .ptr (2, 0) 0 0), (11, .bool v40.2.1), (12, .ptr (3, 0) 0 0), (13, .bool v41.2.1), (49, .isl 3 ((a1.take (if 40 < ((a1.map e_QFileEvent).length : Int) then 40 else ((a1.map e_QFileEvent).length : Int)).toNat).map e_QFileEvent) false), (50, .int .i64 (((a1.take (if 40 < ((a1.map e_QFileEvent).length : Int) then 40 else ((a1.map e_QFileEvent).length : Int)).toNat).map e_QFileEvent).length : Int)), (51, .int .i64 v26)] _ _
      refine And.intro (fun hc => (bqf hc)) ?_
      refine LWp.sim (e := [(5, .ptr (0, 0) 0 0), (7, .ptr (1, 0) 0 0), (49, .isl 3 ((a1.take (if 40 < ((a1.map e_QFileEvent).length : Int) then 40 else ((a1.map e_QFileEvent).length : Int)).toNat).map e_QFileEvent) false), (50, .int .i64 (((a1.take (if 40 < ((a1.map e_QFileEvent).length : Int) then 40 else ((a1.map e_QFileEvent).length : Int)).toNat).map e_QFileEvent).length : Int)), (51, .int .i64 v26), (82, .bool ((!(v40.2.1 == v41.2.1)) || (!v42)))]) (L := [((0, 0), .one [.int .i64 a0, .int .i64 v40.2.2.1, .osl (2, 0) 3 (v40.2.2.2.map e_QFileEvent)]), ((1, 0), .one [.int .i64 a0, .int .i64 v41.2.2.1, .osl (3, 0) 3 (v41.2.2.2.map e_QFileEvent)]), ((2, 0), .tok), ((3, 0), .tok)]) (n := 4) ?_ ?_
      · exact simI (M := [((0, 0), (0, 0)), ((1, 0), (1, 0)), ((2, 0), (4, 0)), ((3, 0), (5, 0))]) rfl (And.intro (Vw.ptr _ _ _ _ rfl) (And.intro (Vw.ptr _ _ _ _ rfl) (And.intro (Vw.same _ rfl) (And.intro (Vw.same _ rfl) (And.intro (Vw.same _ rfl) (And.intro (Vw.same _ rfl) trivial)))))) (And.intro (And.intro rfl (BVw.oneL (And.intro (Vw.same _ rfl) (And.intro (Vw.same _ rfl) (And.intro (Vw.osl _ _ _ _ rfl) trivial))))) (And.intro (And.intro rfl (BVw.oneL (And.intro (Vw.same _ rfl) (And.intro (Vw.same _ rfl) (And.intro (Vw.osl _ _ _ _ rfl) trivial))))) (And.intro (And.intro rfl BVw.tok) (And.intro (And.intro rfl BVw.tok) trivial))))
      refine condI (v := ((!(v40.2.1 == v41.2.1)) || (!v42))) rfl trivial (fun h57 => ?_) (fun h57 => ?_)
      · have h := ite_tt h57 h
        refine seqI ?_
        refine regI ?_
        refine retI ?_
        obtain ⟨o, hq, rfl⟩ := Option.map_eq_some_iff.1 h
        replace h := hq; clear hq
        refine And.intro nofun ?_
        cases h
        exact And.intro trivial (And.intro rfl (Vw.same _ rfl))
      · have h := ite_ff h57 h
        refine skipI ?_
        refine LWp.sim ?_ (f4_j7_ok h)
        exact simI (M := [((0, 0), (0, 0)), ((1, 0), (1, 0)), ((2, 0), (2, 0)), ((3, 0), (3, 0))]) rfl (And.intro (Vw.ptr _ _ _ _ rfl) (And.intro (Vw.ptr _ _ _ _ rfl) (And.intro (Vw.same _ rfl) (And.intro (Vw.same _ rfl) (And.intro (Vw.same _ rfl) trivial))))) (And.intro (And.intro rfl (BVw.oneL (And.intro (Vw.same _ rfl) (And.intro (Vw.same _ rfl) (And.intro (Vw.osl _ _ _ _ rfl) trivial))))) (And.intro (And.intro rfl (BVw.oneL (And.intro (Vw.same _ rfl) (And.intro (Vw.same _ rfl) (And.intro (Vw.osl _ _ _ _ rfl) trivial))))) (And.intro (And.intro rfl BVw.tok) (And.intro (And.intro rfl BVw.tok) trivial))))
    · have h := ite_ff h53 h
      refine seqI ?_
      refine drawI ?_
      obtain ⟨v43, h58, h⟩ := bind_some h
      refine bcall (k := 3) (m := 1) (L' := [((0, 0), .one [.int .i64 a0, .int .i64 v43.2.1, .osl (5, 0) 3 (v43.2.2.map e_QFileEvent)]), ((5, 0), .tok)]) (rest := [((1, 0), .one [.int .i64 a0, .int .i64 v29, .osl (4, 0) 3 (v30.map e_QFileEvent)]), ((2, 0), .one [.int .i64 (((a1.take (if 40 < ((a1.map e_QFileEvent).length : Int) then 40 else ((a1.map e_QFileEvent).length : Int)).toNat).getD v26.toNat default).f_Time), .str (((a1.take (if 40 < ((a1.map e_QFileEvent).length : Int) then 40 else ((a1.map e_QFileEvent).length : Int)).toNat).getD v26.toNat default).f_Path), .int .i64 (((a1.take (if 40 < ((a1.map e_QFileEvent).length : Int) then 40 else ((a1.map e_QFileEvent).length : Int)).toNat).getD v26.toNat default).f_Kind)]), ((4, 0), .tok)]) (R' := .int .i64 v43.1) [((0, 0), (0, 0)), ((0, 1), (3, 0))] (f20b1_ok h58) rfl rfl rfl (And.intro (Vw.ptr _ _ _ _ rfl) (And.intro (Vw.same _ rfl) trivial)) (And.intro (h0I (0, 0) rfl rfl (BVw.oneL (And.intro (Vw.same _ rfl) (And.intro (Vw.same _ rfl) (And.intro (Vw.osl _ _ _ _ rfl) trivial))))) (And.intro (h0I (3, 0) rfl rfl BVw.tok) trivial)) (nid_ren _ rfl) (And.intro rfl (And.intro rfl (And.intro rfl (And.intro rfl trivial)))) rfl ?_
      refine And.intro rfl ?_
      obtain ⟨v44, h59, h⟩ := bind_some h
      refine bcall (k := 3) (m := 1) (L' := [((1, 0), .one [.int .i64 a0, .int .i64 v44.2.1, .osl (7, 0) 3 (v44.2.2.map e_QFileEvent)]), ((7, 0), .tok)]) (rest := [((0, 0), .one [.int .i64 a0, .int .i64 v43.2.1, .osl (5, 0) 3 (v43.2.2.map e_QFileEvent)]), ((5, 0), .tok), ((2, 0), .one [.int .i64 (((a1.take (if 40 < ((a1.map e_QFileEvent).length : Int) then 40 else ((a1.map e_QFileEvent).length : Int)).toNat).getD v26.toNat default).f_Time), .str (((a1.take (if 40 < ((a1.map e_QFileEvent).length : Int) then 40 else ((a1.map e_QFileEvent).length : Int)).toNat).getD v26.toNat default).f_Path), .int .i64 (((a1.take (if 40 < ((a1.map e_QFileEvent).length : Int) then 40 else ((a1.map e_QFileEvent).length : Int)).toNat).getD v26.toNat default).f_Kind)])]) (R' := .int .i64 v44.1) [((0, 0), (1, 0)), ((0, 1), (4, 0))] (f21b0_ok h59) rfl rfl rfl (And.intro (Vw.ptr _ _ _ _ rfl) (And.intro (Vw.same _ rfl) trivial)) (And.intro (h0I (1, 0) rfl rfl (BVw.oneL (And.intro (Vw.same _ rfl) (And.intro (Vw.same _ rfl) (And.intro (Vw.osl _ _ _ _ rfl) trivial))))) (And.intro (h0I (4, 0) rfl rfl BVw.tok) trivial)) (nid_ren _ rfl) (And.intro rfl (And.intro rfl (And.intro rfl (And.intro rfl trivial)))) rfl ?_
      show yd _ _ _ _ _ [(88, .int .i64 v44.1), (85, .int .i64 v43.1), (87, .agg [.int .i64 (((a1.take (if 40 < ((a1.map e_QFileEvent).length : Int) then 40 else ((a1.map e_QFileEvent).length : Int)).toNat).getD v26.toNat default).f_Time), .str (((a1.take (if 40 < ((a1.map e_QFileEvent).length : Int) then 40 else ((a1.map e_QFileEvent).length : Int)).toNat).getD v26.toNat default).f_Path), .int .i64 (((a1.take (if 40 < ((a1.map e_QFileEvent).length : Int) then 40 else ((a1.map e_QFileEvent).length : Int)).toNat).getD v26.toNat default).f_Kind)]), (86, .ptr (1, 0) 0 0), (84, .agg [.int .i64 (((a1.take (if 40 < ((a1.map e_QFileEvent).length : Int) then 40 else ((a1.map e_QFileEvent).length : Int)).toNat).getD v26.toNat default).f_Time), .str (((a1.take (if 40 < ((a1.map e_QFileEvent).length : Int) then 40 else ((a1.map e_QFileEvent).length : Int)).toNat).getD v26.toNat default).f_Path), .int .i64 (((a1.take (if 40 < ((a1.map e_QFileEvent).length : Int) then 40 else ((a1.map e_QFileEvent).length : Int)).toNat).getD v26.toNat default).f_Kind)]), (83, .ptr (0, 0) 0 0), (5, .ptr (0, 0) 0 0), (7, .ptr (1, 0) 0 0), (9, .ptr (2, 0) 0 0), (49, .isl 3 ((a1.take (if 40 < ((a1.map e_QFileEvent).length : Int) then 40 else ((a1.map e_QFileEvent).length : Int)).toNat).map e_QFileEvent) false), (50, .int .i64 (((a1.take (if 40 < ((a1.map e_QFileEvent).length : Int) then 40 else ((a1.map e_QFileEvent).length : Int)).toNat).map e_QFileEvent).length : Int)), (51, .int .i64 v26), (57, .bool (decide (((a1.take (if 40 < ((a1.map e_QFileEvent).length : Int) then 40 else ((a1.map e_QFileEvent).length : Int)).toNat).getD v26.toNat default).f_Kind < 0)))] _ _
      refine condI (v := (v43.1 != v44.1)) rfl trivial (fun h60 => ?_) (fun h60 => ?_)
      · have h := ite_tt h60 h
        refine seqI ?_
        refine regI ?_
        refine LWp.sim (e := [(4, .bool false)]) (L := []) (n := 0) ?_ ?_
        · exact simI (M := []) rfl (And.intro (Vw.same _ rfl) trivial) trivial
        refine retI ?_
        obtain ⟨o, hq, rfl⟩ := Option.map_eq_some_iff.1 h
        replace h := hq; clear hq
        refine And.intro nofun ?_
        cases h
        exact And.intro trivial (And.intro rfl (Vw.same _ rfl))
      · have h := ite_ff h60 h
        refine skipI ?_
        refine LWp.sim ?_ (f4_j7_ok h)
        exact simI (M := [((0, 0), (0, 0)), ((1, 0), (1, 0)), ((2, 0), (5, 0)), ((3, 0), (7, 0))]) rfl (And.intro (Vw.ptr _ _ _ _ rfl) (And.intro (Vw.ptr _ _ _ _ rfl) (And.intro (Vw.same _ rfl) (And.intro (Vw.same _ rfl) (And.intro (Vw.same _ rfl) trivial))))) (And.intro (And.intro rfl (BVw.oneL (And.intro (Vw.same _ rfl) (And.intro (Vw.same _ rfl) (And.intro (Vw.osl _ _ _ _ rfl) trivial))))) (And.intro (And.intro rfl (BVw.oneL (And.intro (Vw.same _ rfl) (And.intro (Vw.same _ rfl) (And.intro (Vw.osl _ _ _ _ rfl) trivial))))) (And.intro (And.intro rfl BVw.tok) (And.intro (And.intro rfl BVw.tok) trivial))))
  · have h := ite_ff h51 h
    refine exitI ?_
    obtain ⟨o, hq, rfl⟩ := Option.map_eq_some_iff.1 h
    replace h := hq; clear hq
    refine And.intro nofun ?_
    refine LWp.sim ?_ (f4_j8_ok h)
    exact simI (M := []) rfl trivial trivial

theorem f4_L2_ok {a0 : Int} {a1 : List G_QFileEvent} {v26 : Int} {v27 : Int} {v28 : List G_QFileEvent} {v29 : Int} {v30 : List G_QFileEvent} {m : Option Nat} {o : Bool} (h : S_glossatorlaw3_FilewatchWatcher_l2 m a0 a1 v26 v27 v28 v29 v30 = some o) :
    LWp Try.prog f4_lay 0 (.loop f4_c2) (QBlock 0 (QSeq Try.prog f4_lay 0 f4_c0 (f4_Q a0 a1 o))) [(5, .ptr (0, 0) 0 0), (7, .ptr (1, 0) 0 0), (49, .isl 3 ((a1.take (if 40 < ((a1.map e_QFileEvent).length : Int) then 40 else ((a1.map e_QFileEvent).length : Int)).toNat).map e_QFileEvent) false), (50, .int .i64 (((a1.take (if 40 < ((a1.map e_QFileEvent).length : Int) then 40 else ((a1.map e_QFileEvent).length : Int)).toNat).map e_QFileEvent).length : Int)), (51, .int .i64 v26)] [((0, 0), .one [.int .i64 a0, .int .i64 v27, .osl (2, 0) 3 (v28.map e_QFileEvent)]), ((1, 0), .one [.int .i64 a0, .int .i64 v29, .osl (3, 0) 3 (v30.map e_QFileEvent)]), ((2, 0), .tok), ((3, 0), .tok)] 4 :=
  LWp_loopM (m := m) (s := ((v26, v27, v28, v29, v30) : (Int × Int × (List G_QFileEvent) × Int × (List G_QFileEvent)))) (r := o) (fun (s : (Int × Int × (List G_QFileEvent) × Int × (List G_QFileEvent))) => S_glossatorlaw3_FilewatchWatcher_b2 m a0 a1 s.1 s.2.1 s.2.2.1 s.2.2.2.1 s.2.2.2.2) (f4_L2_env a0 a1) (f4_L2_hp a0 a1) (f4_L2_Q a0 a1) (fun s o h => f4_L2_bok h) h

noncomputable def S_glossatorlaw3_FilewatchWatcher (m : Option Nat) (a0 : Int) (a1 : List G_QFileEvent) : Option Bool :=
  (S_glossatorlaw3_watchExample m).bind fun v1 =>
  if (!v1) = true then
    some false
  else
    (S_filewatch_NewWatcher m a0).bind fun v2 => match v2 with
    | (.inl v3) =>
      if ((decide (a0 < 0)) || (decide (a0 > 1000000))) = true then
        (S_glossatorlaw3_watchExample m).bind fun v5 =>
        some ((v5 && (v3 == 1)) && true)
      else
        if ((v3 != 0) || true) = true then
          some false
        else
          if (0 : Int) ≤ (if 40 < ((a1.map e_QFileEvent).length : Int) then 40 else ((a1.map e_QFileEvent).length : Int)) ∧ (if 40 < ((a1.map e_QFileEvent).length : Int) then 40 else ((a1.map e_QFileEvent).length : Int)) ≤ ((a1.map e_QFileEvent).length : Int) then
          S_glossatorlaw3_FilewatchWatcher_l1 m a0 a1 0 0 ([] : List G_QFileEvent)
          else none
    | (.inr v4) =>
      if ((decide (a0 < 0)) || (decide (a0 > 1000000))) = true then
        (S_glossatorlaw3_watchExample m).bind fun v16 =>
        some ((v16 && (v4 == 1)) && false)
      else
        if ((v4 != 0) || false) = true then
          some false
        else
          if (0 : Int) ≤ (if 40 < ((a1.map e_QFileEvent).length : Int) then 40 else ((a1.map e_QFileEvent).length : Int)) ∧ (if 40 < ((a1.map e_QFileEvent).length : Int) then 40 else ((a1.map e_QFileEvent).length : Int)) ≤ ((a1.map e_QFileEvent).length : Int) then
          S_glossatorlaw3_FilewatchWatcher_l2 m a0 a1 0 0 ([] : List G_QFileEvent) 0 ([] : List G_QFileEvent)
          else none

theorem f4_start {a0 : Int} {a1 : List G_QFileEvent} {m : Option Nat} {o : Bool} (h : S_glossatorlaw3_FilewatchWatcher m a0 a1 = some o) : LWp Try.prog f4_lay 0 f4_c3 (f4_Q a0 a1 o) (initEnv 0 [.int .i64 a0, .isl 3 (a1.map e_QFileEvent) false]) [] 0 := by
  unfold S_glossatorlaw3_FilewatchWatcher at h
  refine seqI ?_
  refine regI ?_
  refine seqI ?_
  refine seqI ?_
  refine regI ?_
  obtain ⟨v1, h1, h⟩ := bind_some h
  refine PFn.call (f5_ok h1) trivial ?_
  refine condI (v := (!v1)) rfl trivial (fun h2 => ?_) (fun h2 => ?_)
  · have h := ite_tt h2 h
    refine seqI ?_
    refine regI ?_
    refine retI ?_
    cases h
    exact And.intro trivial (And.intro rfl (Vw.same _ rfl))
  · have h := ite_ff h2 h
    refine skipI ?_
    refine seqI ?_
    refine regI ?_
    obtain ⟨v2, h3, h⟩ := bind_some h
    rcases v2 with v3 | v4
    · dsimp only at h
      refine bcall (k := 3) (m := 0) (L' := []) (rest := []) (R' := .tup [.val (.pointer none), .int .i64 v3]) [] (f17b0_ok0 h3) rfl rfl rfl (And.intro (Vw.same _ rfl) trivial) trivial (nid_ren _ rfl) trivial rfl ?_
      show yops _ _ _ [(18, .tup [.val (.pointer none), .int .i64 v3]), (17, .int .i64 a0), (15, .bool (!v1)), (14, .bool v1), (4, .bool false), (0, .int .i64 a0), (1, .isl 3 (a1.map e_QFileEvent) false)] _ _
      refine LWp.sim (e := [(0, .int .i64 a0), (1, .isl 3 (a1.map e_QFileEvent) false), (5, .val (.pointer none)), (6, .int .i64 v3)]) (L := []) (n := 0) ?_ ?_
      · exact simI (M := []) rfl (And.intro (Vw.same _ rfl) (And.intro (Vw.same _ rfl) (And.intro (Vw.same _ rfl) (And.intro (Vw.same _ rfl) trivial)))) trivial
      refine seqI ?_
      refine seqI ?_
      refine regI ?_
      refine And.intro (fun hp => hp) ?_
      show yops _ _ _ [(25, .cnd ((decide (a0 < 0)) == false) (.bool (decide (a0 > 1000000)))), (24, .cnd ((decide (a0 < 0)) == false) (.int .i64 a0)), (23, .bool (decide (a0 < 0))), (22, .bool (decide (a0 < 0))), (21, .int .i64 a0), (0, .int .i64 a0), (1, .isl 3 (a1.map e_QFileEvent) false), (5, .val (.pointer none)), (6, .int .i64 v3)] _ _
      refine And.intro (fun hc => (bqf hc)) ?_
      refine condI (v := ((decide (a0 < 0)) || (decide (a0 > 1000000)))) rfl trivial (fun h4 => ?_) (fun h4 => ?_)
      · have h := ite_tt h4 h
        refine seqI ?_
        refine regI ?_
        obtain ⟨v5, h5, h⟩ := bind_some h
        refine PFn.call (f5_ok h5) trivial ?_
        refine And.intro (fun hp => hp) ?_
        show yops _ _ _ [(30, .cnd (v5 == true) (.bool (v3 == 1))), (29, .cnd (v5 == true) (.int .i64 v3)), (28, .bool v5), (27, .bool v5), (26, .bool ((decide (a0 < 0)) || (decide (a0 > 1000000)))), (25, .cnd ((decide (a0 < 0)) == false) (.bool (decide (a0 > 1000000)))), (24, .cnd ((decide (a0 < 0)) == false) (.int .i64 a0)), (23, .bool (decide (a0 < 0))), (22, .bool (decide (a0 < 0))), (21, .int .i64 a0), (0, .int .i64 a0), (1, .isl 3 (a1.map e_QFileEvent) false), (5, .val (.pointer none)), (6, .int .i64 v3)] _ _
        refine And.intro (fun hc => (bqt hc)) ?_
        refine And.intro (fun hp => hp) ?_
        refine And.intro (fun hc => (bqt hc)) ?_
        show yops _ _ _ [(35, .bool ((v5 && (v3 == 1)) && true)), (34, .cnd ((v5 && (v3 == 1)) == true) (.bool true)), (33, .cnd ((v5 && (v3 == 1)) == true) (.val (.pointer none))), (32, .bool (v5 && (v3 == 1))), (31, .bool (v5 && (v3 == 1))), (30, .cnd (v5 == true) (.bool (v3 == 1))), (29, .cnd (v5 == true) (.int .i64 v3)), (28, .bool v5), (27, .bool v5), (26, .bool ((decide (a0 < 0)) || (decide (a0 > 1000000)))), (25, .cnd ((decide (a0 < 0)) == false) (.bool (decide (a0 > 1000000)))), (24, .cnd ((decide (a0 < 0)) == false) (.int .i64 a0)), (23, .bool (decide (a0 < 0))), (22, .bool (decide (a0 < 0))), (21, .int .i64 a0), (0, .int .i64 a0), (1, .isl 3 (a1.map e_QFileEvent) false), (5, .val (.pointer none)), (6, .int .i64 v3)] _ _
        refine LWp.sim (e := [(4, .bool ((v5 && (v3 == 1)) && true))]) (L := []) (n := 0) ?_ ?_
        · exact simI (M := []) rfl (And.intro (Vw.same _ rfl) trivial) trivial
        refine retI ?_
        cases h
        exact And.intro trivial (And.intro rfl (Vw.same _ rfl))
      · have h := ite_ff h4 h
        refine skipI ?_
        refine seqI ?_
        refine seqI ?_
        refine regI ?_
        refine And.intro (fun hp => hp) ?_
        show yops _ _ _ [(40, .cnd ((v3 != 0) == false) (.bool true)), (39, .cnd ((v3 != 0) == false) (.val (.pointer none))), (38, .bool (v3 != 0)), (37, .bool (v3 != 0)), (36, .int .i64 v3), (26, .bool ((decide (a0 < 0)) || (decide (a0 > 1000000)))), (25, .cnd ((decide (a0 < 0)) == false) (.bool (decide (a0 > 1000000)))), (24, .cnd ((decide (a0 < 0)) == false) (.int .i64 a0)), (23, .bool (decide (a0 < 0))), (22, .bool (decide (a0 < 0))), (21, .int .i64 a0), (0, .int .i64 a0), (1, .isl 3 (a1.map e_QFileEvent) false), (5, .val (.pointer none)), (6, .int .i64 v3)] _ _
        refine And.intro (fun hc => (bqf hc)) ?_
        refine LWp.sim (e := [(0, .int .i64 a0), (1, .isl 3 (a1.map e_QFileEvent) false), (5, .val (.pointer none)), (41, .bool ((v3 != 0) || true))]) (L := []) (n := 0) ?_ ?_
        · exact simI (M := []) rfl (And.intro (Vw.same _ rfl) (And.intro (Vw.same _ rfl) (And.intro (Vw.same _ rfl) (And.intro (Vw.same _ rfl) trivial)))) trivial
        refine condI (v := ((v3 != 0) || true)) rfl trivial (fun h6 => ?_) (fun h6 => ?_)
        · have h := ite_tt h6 h
          refine seqI ?_
          refine regI ?_
          refine retI ?_
          cases h
          exact And.intro trivial (And.intro rfl (Vw.same _ rfl))
        · have h := ite_ff h6 h
          refine skipI ?_
          refine seqI ?_
          refine regI ?_
          refine seqI ?_
          refine seqI ?_
          refine regI ?_
          obtain ⟨h7, h⟩ := ite_some h
          refine Exists.intro (.isl 3 ((a1.take (if 40 < ((a1.map e_QFileEvent).length : Int) then 40 else ((a1.map e_QFileEvent).length : Int)).toNat).map e_QFileEvent) false) (And.intro (sl_eq e_QFileEvent (slB e_QFileEvent a1 _) rfl) (And.intro (And.intro rfl (And.intro (Int.le_refl _) h7)) ?_))
          refine LWp.sim (e := [(5, .val (.pointer none)), (7, .ptr (0, 0) 0 0), (49, .isl 3 ((a1.take (if 40 < ((a1.map e_QFileEvent).length : Int) then 40 else ((a1.map e_QFileEvent).length : Int)).toNat).map e_QFileEvent) false), (50, .int .i64 (((a1.take (if 40 < ((a1.map e_QFileEvent).length : Int) then 40 else ((a1.map e_QFileEvent).length : Int)).toNat).map e_QFileEvent).length : Int)), (51, .int .i64 0)]) (L := [((0, 0), .one [.int .i64 a0, .int .i64 0, .isl 3 (([] : List G_QFileEvent).map e_QFileEvent) true])]) (n := 1) ?_ ?_
          · exact simI (M := [((0, 0), (0, 0))]) rfl (And.intro (Vw.same _ rfl) (And.intro (Vw.ptr _ _ _ _ rfl) (And.intro (Vw.same _ rfl) (And.intro (Vw.same _ rfl) (And.intro (Vw.same _ rfl) trivial))))) (And.intro (And.intro rfl (BVw.oneL (And.intro (Vw.same _ rfl) (And.intro (Vw.same _ rfl) (And.intro (Vw.same _ rfl) trivial))))) trivial)
          refine blockI ?_
          refine LWp.sim ?_ (f4_L1_ok h)
          exact simI (M := [((0, 0), (0, 0))]) rfl (And.intro (Vw.same _ rfl) (And.intro (Vw.ptr _ _ _ _ rfl) (And.intro (Vw.same _ rfl) (And.intro (Vw.same _ rfl) (And.intro (Vw.same _ rfl) trivial))))) (And.intro (And.intro rfl (BVw.oneL (And.intro (Vw.same _ rfl) (And.intro (Vw.same _ rfl) (And.intro (Vw.islO _ _ _ (by decide)) trivial))))) (And.intro (And.intro rfl (And.intro (by decide) (by decide))) trivial))
    · dsimp only at h
      refine bcall (k := 3) (m := 1) (L' := [((0, 0), .one [.int .i64 a0, .int .i64 0, .isl 3 (([] : List G_QFileEvent).map e_QFileEvent) true])]) (rest := []) (R' := .tup [.ptr (0, 0) 0 0, .int .i64 v4]) [] (f17b0_ok1 h3) rfl rfl rfl (And.intro (Vw.same _ rfl) trivial) trivial rfl (And.intro rfl (And.intro rfl trivial)) rfl ?_
      show yops _ _ _ [(18, .tup [.ptr (0, 0) 0 0, .int .i64 v4]), (17, .int .i64 a0), (15, .bool (!v1)), (14, .bool v1), (4, .bool false), (0, .int .i64 a0), (1, .isl 3 (a1.map e_QFileEvent) false)] _ _
      refine LWp.sim (e := [(0, .int .i64 a0), (1, .isl 3 (a1.map e_QFileEvent) false), (5, .ptr (0, 0) 0 0), (6, .int .i64 v4)]) (L := [((0, 0), .one [.int .i64 a0, .int .i64 0, .isl 3 (([] : List G_QFileEvent).map e_QFileEvent) true])]) (n := 1) ?_ ?_
      · exact simI (M := [((0, 0), (0, 0))]) rfl (And.intro (Vw.same _ rfl) (And.intro (Vw.same _ rfl) (And.intro (Vw.ptr _ _ _ _ rfl) (And.intro (Vw.same _ rfl) trivial)))) (And.intro (And.intro rfl (BVw.oneL (And.intro (Vw.same _ rfl) (And.intro (Vw.same _ rfl) (And.intro (Vw.same _ rfl) trivial))))) trivial)
      refine seqI ?_
      refine seqI ?_
      refine regI ?_
      refine And.intro (fun hp => hp) ?_
      show yops _ _ _ [(25, .cnd ((decide (a0 < 0)) == false) (.bool (decide (a0 > 1000000)))), (24, .cnd ((decide (a0 < 0)) == false) (.int .i64 a0)), (23, .bool (decide (a0 < 0))), (22, .bool (decide (a0 < 0))), (21, .int .i64 a0), (0, .int .i64 a0), (1, .isl 3 (a1.map e_QFileEvent) false), (5, .ptr (0, 0) 0 0), (6, .int .i64 v4)] _ _
      refine And.intro (fun hc => (bqf hc)) ?_
      refine condI (v := ((decide (a0 < 0)) || (decide (a0 > 1000000)))) rfl trivial (fun h27 => ?_) (fun h27 => ?_)
      · have h := ite_tt h27 h
        refine seqI ?_
        refine regI ?_
        obtain ⟨v16, h28, h⟩ := bind_some h
        refine PFn.call (f5_ok h28) trivial ?_
        refine And.intro (fun hp => hp) ?_
        show yops _ _ _ [(30, .cnd (v16 == true) (.bool (v4 == 1))), (29, .cnd (v16 == true) (.int .i64 v4)), (28, .bool v16), (27, .bool v16), (26, .bool ((decide (a0 < 0)) || (decide (a0 > 1000000)))), (25, .cnd ((decide (a0 < 0)) == false) (.bool (decide (a0 > 1000000)))), (24, .cnd ((decide (a0 < 0)) == false) (.int .i64 a0)), (23, .bool (decide (a0 < 0))), (22, .bool (decide (a0 < 0))), (21, .int .i64 a0), (0, .int .i64 a0), (1, .isl 3 (a1.map e_QFileEvent) false), (5, .ptr (0, 0) 0 0), (6, .int .i64 v4)] _ _
        refine And.intro (fun hc => (bqt hc)) ?_
        refine And.intro (fun hp => hp) ?_
        refine And.intro (fun hc => (bqt hc)) ?_
        show yops _ _ _ [(35, .bool ((v16 && (v4 == 1)) && false)), (34, .cnd ((v16 && (v4 == 1)) == true) (.bool false)), (33, .cnd ((v16 && (v4 == 1)) == true) (.ptr (0, 0) 0 0)), (32, .bool (v16 && (v4 == 1))), (31, .bool (v16 && (v4 == 1))), (30, .cnd (v16 == true) (.bool (v4 == 1))), (29, .cnd (v16 == true) (.int .i64 v4)), (28, .bool v16), (27, .bool v16), (26, .bool ((decide (a0 < 0)) || (decide (a0 > 1000000)))), (25, .cnd ((decide (a0 < 0)) == false) (.bool (decide (a0 > 1000000)))), (24, .cnd ((decide (a0 < 0)) == false) (.int .i64 a0)), (23, .bool (decide (a0 < 0))), (22, .bool (decide (a0 < 0))), (21, .int .i64 a0), (0, .int .i64 a0), (1, .isl 3 (a1.map e_QFileEvent) false), (5, .ptr (0, 0) 0 0), (6, .int .i64 v4)] _ _
        refine LWp.sim (e := [(4, .bool ((v16 && (v4 == 1)) && false))]) (L := []) (n := 0) ?_ ?_
        · exact simI (M := []) rfl (And.intro (Vw.same _ rfl) trivial) trivial
        refine retI ?_
        cases h
        exact And.intro trivial (And.intro rfl (Vw.same _ rfl))
      · have h := ite_ff h27 h
        refine skipI ?_
        refine seqI ?_
        refine seqI ?_
        refine regI ?_
        refine And.intro (fun hp => hp) ?_
        show yops _ _ _ [(40, .cnd ((v4 != 0) == false) (.bool false)), (39, .cnd ((v4 != 0) == false) (.ptr (0, 0) 0 0)), (38, .bool (v4 != 0)), (37, .bool (v4 != 0)), (36, .int .i64 v4), (26, .bool ((decide (a0 < 0)) || (decide (a0 > 1000000)))), (25, .cnd ((decide (a0 < 0)) == false) (.bool (decide (a0 > 1000000)))), (24, .cnd ((decide (a0 < 0)) == false) (.int .i64 a0)), (23, .bool (decide (a0 < 0))), (22, .bool (decide (a0 < 0))), (21, .int .i64 a0), (0, .int .i64 a0), (1, .isl 3 (a1.map e_QFileEvent) false), (5, .ptr (0, 0) 0 0), (6, .int .i64 v4)] _ _
        refine And.intro (fun hc => (bqf hc)) ?_
        refine LWp.sim (e := [(0, .int .i64 a0), (1, .isl 3 (a1.map e_QFileEvent) false), (5, .ptr (0, 0) 0 0), (41, .bool ((v4 != 0) || false))]) (L := [((0, 0), .one [.int .i64 a0, .int .i64 0, .isl 3 (([] : List G_QFileEvent).map e_QFileEvent) true])]) (n := 1) ?_ ?_
        · exact simI (M := [((0, 0), (0, 0))]) rfl (And.intro (Vw.same _ rfl) (And.intro (Vw.same _ rfl) (And.intro (Vw.ptr _ _ _ _ rfl) (And.intro (Vw.same _ rfl) trivial)))) (And.intro (And.intro rfl (BVw.oneL (And.intro (Vw.same _ rfl) (And.intro (Vw.same _ rfl) (And.intro (Vw.same _ rfl) trivial))))) trivial)
        refine condI (v := ((v4 != 0) || false)) rfl trivial (fun h29 => ?_) (fun h29 => ?_)
        · have h := ite_tt h29 h
          refine seqI ?_
          refine regI ?_
          refine retI ?_
          cases h
          exact And.intro trivial (And.intro rfl (Vw.same _ rfl))
        · have h := ite_ff h29 h
          refine skipI ?_
          refine seqI ?_
          refine regI ?_
          refine seqI ?_
          refine seqI ?_
          refine regI ?_
          obtain ⟨h30, h⟩ := ite_some h
          refine Exists.intro (.isl 3 ((a1.take (if 40 < ((a1.map e_QFileEvent).length : Int) then 40 else ((a1.map e_QFileEvent).length : Int)).toNat).map e_QFileEvent) false) (And.intro (sl_eq e_QFileEvent (slB e_QFileEvent a1 _) rfl) (And.intro (And.intro rfl (And.intro (Int.le_refl _) h30)) ?_))
          refine LWp.sim (e := [(5, .ptr (0, 0) 0 0), (7, .ptr (1, 0) 0 0), (49, .isl 3 ((a1.take (if 40 < ((a1.map e_QFileEvent).length : Int) then 40 else ((a1.map e_QFileEvent).length : Int)).toNat).map e_QFileEvent) false), (50, .int .i64 (((a1.take (if 40 < ((a1.map e_QFileEvent).length : Int) then 40 else ((a1.map e_QFileEvent).length : Int)).toNat).map e_QFileEvent).length : Int)), (51, .int .i64 0)]) (L := [((0, 0), .one [.int .i64 a0, .int .i64 0, .isl 3 (([] : List G_QFileEvent).map e_QFileEvent) true]), ((1, 0), .one [.int .i64 a0, .int .i64 0, .isl 3 (([] : List G_QFileEvent).map e_QFileEvent) true])]) (n := 2) ?_ ?_
          · exact simI (M := [((0, 0), (0, 0)), ((1, 0), (1, 0))]) rfl (And.intro (Vw.ptr _ _ _ _ rfl) (And.intro (Vw.ptr _ _ _ _ rfl) (And.intro (Vw.same _ rfl) (And.intro (Vw.same _ rfl) (And.intro (Vw.same _ rfl) trivial))))) (And.intro (And.intro rfl (BVw.oneL (And.intro (Vw.same _ rfl) (And.intro (Vw.same _ rfl) (And.intro (Vw.same _ rfl) trivial))))) (And.intro (And.intro rfl (BVw.oneL (And.intro (Vw.same _ rfl) (And.intro (Vw.same _ rfl) (And.intro (Vw.same _ rfl) trivial))))) trivial))
          refine blockI ?_
          refine LWp.sim ?_ (f4_L2_ok h)
          exact simI (M := [((0, 0), (0, 0)), ((1, 0), (1, 0))]) rfl (And.intro (Vw.ptr _ _ _ _ rfl) (And.intro (Vw.ptr _ _ _ _ rfl) (And.intro (Vw.same _ rfl) (And.intro (Vw.same _ rfl) (And.intro (Vw.same _ rfl) trivial))))) (And.intro (And.intro rfl (BVw.oneL (And.intro (Vw.same _ rfl) (And.intro (Vw.same _ rfl) (And.intro (Vw.islO _ _ _ (by decide)) trivial))))) (And.intro (And.intro rfl (BVw.oneL (And.intro (Vw.same _ rfl) (And.intro (Vw.same _ rfl) (And.intro (Vw.islO _ _ _ (by decide)) trivial))))) (And.intro (And.intro rfl (And.intro (by decide) (by decide))) (And.intro (And.intro rfl (And.intro (by decide) (by decide))) trivial))))

theorem f4_ok {a0 : Int} {a1 : List G_QFileEvent} {m : Option Nat} {o : Bool} (h : S_glossatorlaw3_FilewatchWatcher m a0 a1 = some o) : PFn Try.prog 4 [.int .i64 a0, .isl 3 (a1.map e_QFileEvent) false] (.bool o) := PFn.ofFnW (L := f4_L) f4_low f4_fok (Nat.le_of_ble_eq_true rfl) rfl (f4_start h)
end Go.Proofs.Ytdkcjibedbjgjaa
